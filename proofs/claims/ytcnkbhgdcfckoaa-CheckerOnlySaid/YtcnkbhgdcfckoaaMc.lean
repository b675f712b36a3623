/- The program's checker: what holds between two events. No program in sight. -/
import Derived.Test.YtcnkbhgdcfckoaaMb
set_option linter.unusedVariables false
set_option linter.unusedSimpArgs false
namespace Go.Proofs.Ytcnkbhgdcfckoaa
namespace Ck
theorem takes_ids (b : Bk) (c : Cg) (e : Ev) {x : Rs} (h : x ∈ (takes b c e).1.buys ++ (takes b c e).1.sells) : ∃ y ∈ b.buys ++ b.sells, y.id = x.id := by
  have same : x ∈ b.buys ++ b.sells → ∃ y ∈ b.buys ++ b.sells, y.id = x.id := fun h => ⟨x, h, rfl⟩
  have head : ∀ {s : Int} {o : Rs} {l l' : List Rs}, b.side s = o :: l → (∀ z ∈ l', z.id = o.id ∨ z ∈ l) → x ∈ (b.set s l').buys ++ (b.set s l').sells → ∃ y ∈ b.buys ++ b.sells, y.id = x.id := by
    intro s o l l' hd hl hx
    rcases mem_set hx with h1 | h1
    · rcases hl x h1 with h2 | h2
      · exact ⟨o, side_mem (s := s) (by rw [hd]; simp), h2.symm⟩
      · exact same (side_mem (s := s) (by rw [hd]; simp [h2]))
    · exact same h1
  unfold takes at h
  simp only at h
  split at h
  · split at h
    · exact same h
    · rename_i o l hd
      refine head hd (fun z hz => ?_) h
      rcases mem_rests.1 hz with rfl | h1
      · exact .inl rfl
      · exact .inr h1
  · split at h
    · split at h
      · exact same h
      · rename_i o l hd
        split at h
        · refine head (l' := { o with vis := o.vis - e.qty } :: l) hd (fun z hz => ?_) h
          rcases List.mem_cons.1 hz with rfl | h1
          · exact .inl rfl
          · exact .inr h1
        · split at h
          · exact head hd (fun z hz => .inr hz) h
          · refine head (l' := { o with vis := o.vis - e.qty } :: l) hd (fun z hz => ?_) h
            rcases List.mem_cons.1 hz with rfl | h1
            · exact .inl rfl
            · exact .inr h1
    · split at h
      · exact same h
      · rcases mem_set h with h1 | h1
        · exact same (side_mem (s := far c.side) (List.mem_of_mem_drop h1))
        · exact same h1
/-- What holds between two events. -/
structure Pk.ok (x : Pk) : Prop where
  ok : x.b.ok
  low : ∀ r ∈ x.b.buys ++ x.b.sells, r.id ≤ x.b.high
  now : ∀ c, x.now = some c → Cg.ok x.b c ∧ (c.traded = false → c.empty = 0 ∧ c.met = false) ∧ c.o.id ≤ x.b.high ∧ c.o.id ≤ mx ∧ c.kind = c.o.typ ∧ ∃ m, musts x.b c = some m
  vis : x.now = none → ∀ r ∈ x.b.buys ++ x.b.sells, 1 ≤ r.vis
  ins : ∀ i, x.ins = some i → x.now = none ∧ x.b.count + 1 ≤ 4096
/-- What settles leaves. -/
theorem settles_ok {b : Bk} {c : Cg} (hb : b.ok) (hc : Cg.ok b c) (hlow : ∀ r ∈ b.buys ++ b.sells, r.id ≤ b.high) (hid : c.o.id ≤ b.high) (hk : c.kind = c.o.typ) (ht : c.traded = false → c.empty = 0 ∧ c.met = false) :
    Pk.ok ⟨(settles b c).1, (settles b c).2, none⟩ := by
  unfold settles
  cases hm : musts b c with
  | some m => exact ⟨hb, hlow, fun c' hc' => by injection hc' with e; subst e; exact ⟨hc, ht, hid, hc.id.2, hk, m, hm⟩, fun h => (by cases h), fun i hi => by cases hi⟩
  | none =>
    have he : c.empty = 0 := by
      rcases hc.empty with h | ⟨r, l, hd, _, _⟩
      · exact h
      · by_cases h : c.empty = 0
        · exact h
        · unfold musts must at hm
          rw [if_pos h, hd] at hm
          cases hm
    have hvis : ∀ r ∈ b.buys ++ b.sells, 1 ≤ r.vis := by
      intro r hr
      have h1 := (hr : r ∈ b.buys ++ b.sells)
      have hok : r.ok mx := by
        rcases List.mem_append.1 hr with h | h
        · exact hb.buys r h
        · exact hb.sells r h
      have h2 := hok.vis
      have h3 := hok.id
      by_cases h0 : r.vis = 0
      · have := hc.shows r hr h0
        omega
      · omega
    simp only
    by_cases hl : c.left = 0
    · rw [if_pos hl]
      exact ⟨hb, hlow, fun c' hc' => (by cases hc'), fun _ => hvis, fun i hi => by cases hi⟩
    · rw [if_neg hl]
      have hkk : c.kind = 1 ∨ c.kind = 5 := by
        unfold musts must at hm
        rw [if_neg (fun h => h he)] at hm
        split at hm
        · cases hm
        · try rw [if_neg hl] at hm
          split at hm
          · cases hm
          · split at hm
            · split at hm
              · split at hm <;> cases hm
              · cases hm
            · split at hm
              · assumption
              · cases hm
      have hroom := hc.room hkk
      have hleft := hc.left
      have hpk := hc.peak
      have hidr := hc.id
      have hro : (atRest c).ok mx ∧ 1 ≤ (atRest c).vis := by
        refine ⟨⟨hc.id, hc.mem, ?_, hc.price, ?_, ?_, hc.peak, ?_, ?_⟩, ?_⟩
        · show c.o.typ = 1 ∨ c.o.typ = 5
          rw [← hk]; exact hkk
        all_goals
          unfold atRest
          simp only
          by_cases h1 : 0 < c.o.peak
          · first
              | (rw [if_pos h1]; have := Int.min_le_left c.o.peak c.left; have := Int.min_le_right c.o.peak c.left; by_cases h2 : c.o.peak ≤ c.left <;> simp [Int.min_def, h2] <;> omega)
          · rw [if_neg h1]; omega
      have hs := hc.side
      have hset : (b.set c.side (rests c.side (atRest c) (b.side c.side))).ok := by
        have hperm : ((rests c.side (atRest c) (b.side c.side)).map Rs.id).Perm (c.o.id :: (b.side c.side).map Rs.id) := (rests_perm c.side (atRest c) (b.side c.side)).map Rs.id
        have hal : ∀ r ∈ rests c.side (atRest c) (b.side c.side), r.ok mx := fun r hr => by
          rcases mem_rests.1 hr with rfl | h
          · exact hro.1
          · exact hb.side c.side r h
        have hlen := rests_len c.side (atRest c) (b.side c.side)
        have hids := hc.ids
        have hone := hb.one
        rw [List.map_append] at hone hids
        rcases hs with h1 | h1
        · rw [h1] at hperm hal hlen ⊢
          have hn : (b.set 1 (rests 1 (atRest c) (b.side 1))) = { b with buys := rests 1 (atRest c) (b.side 1) } := rfl
          rw [hn]
          refine ⟨hb.cap, hb.meet, hb.high, hb.seq, hal, hb.sells, ?_, ?_⟩
          · rw [List.map_append]
            refine ((hperm.append_right _).nodup_iff).2 ?_
            exact List.nodup_cons.2 ⟨hids, hone⟩
          · show (rests 1 (atRest c) (b.side 1)).length + b.sells.length ≤ 4096
            rw [hlen]
            have : (b.side 1).length = b.buys.length := rfl
            unfold Bk.count at hroom
            omega
        · rw [h1] at hperm hal hlen ⊢
          have hn : (b.set 2 (rests 2 (atRest c) (b.side 2))) = { b with sells := rests 2 (atRest c) (b.side 2) } := rfl
          rw [hn]
          refine ⟨hb.cap, hb.meet, hb.high, hb.seq, hb.buys, hal, ?_, ?_⟩
          · rw [List.map_append]
            refine ((hperm.append_left _).nodup_iff).2 ?_
            refine (List.perm_middle.nodup_iff).2 ?_
            exact List.nodup_cons.2 ⟨hids, hone⟩
          · show b.buys.length + (rests 2 (atRest c) (b.side 2)).length ≤ 4096
            rw [hlen]
            have : (b.side 2).length = b.sells.length := rfl
            unfold Bk.count at hroom
            omega
      refine ⟨hset, ?_, fun c' hc' => (by cases hc'), fun _ r hr => ?_, fun i hi => by cases hi⟩
      · intro r hr
        show r.id ≤ (b.set c.side _).high
        rw [(b.set_fields c.side _).2.2.1]
        rcases mem_set hr with h | h
        · rcases mem_rests.1 h with rfl | h
          · exact hid
          · exact hlow r (side_mem h)
        · exact hlow r h
      · rcases mem_set hr with h | h
        · rcases mem_rests.1 h with rfl | h
          · exact hro.2
          · exact hvis r (side_mem h)
        · exact hvis r h
theorem Pk.ok.quiet_next {b : Bk} {c : Cg} {e : Ev} (h : Pk.ok ⟨b, some c, none⟩) : Pk.ok ⟨(next b c e).2.1, (next b c e).2.2, none⟩ := by
  obtain ⟨hc, ht, hid, hmx, hk, m, hm⟩ := h.now c rfl
  unfold next
  simp only [hm, Option.getD_some]
  split
  · exact h
  · split
    · exact h
    · split
      · exact h
      · split
        · exact h
        · split
          · exact h
          · split
            · exact h
            · rw [takes_seq]
              have hkp := must_kept h.ok hc hm
              obtain ⟨i1, i2, i3, i4⟩ := takes_id b c m
              refine settles_ok hkp.ok hkp.cg ?_ ?_ ?_ ?_
              · intro r hr
                obtain ⟨y, hy, e1⟩ := takes_ids b c m hr
                rw [hkp.high, ← e1]
                exact h.low y hy
              · rw [hkp.high, i1]; exact hid
              · rw [i1, i3]; exact hk
              · intro q; rw [i4] at q; cases q
end Ck
end Go.Proofs.Ytcnkbhgdcfckoaa
namespace Go.Proofs.Ytcnkbhgdcfckoaa
namespace Ck
theorem findAt_ltP {id : Int} : ∀ {l : List Rs} {k : Nat}, findAt id l = some k → ∃ r, l[k]? = some r ∧ r.id = id
  | [], k, h => by simp [findAt] at h
  | s :: l, k, h => by
    unfold findAt at h
    by_cases hs : s.id = id
    · rw [if_pos hs] at h
      injection h with h
      subst h
      exact ⟨s, rfl, hs⟩
    · rw [if_neg hs] at h
      cases hf : findAt id l with
      | none => rw [hf] at h; cases h
      | some j =>
        rw [hf] at h
        injection h with h
        subst h
        obtain ⟨r, h1, h2⟩ := findAt_ltP hf
        exact ⟨r, by simpa using h1, h2⟩
theorem find_atP {b : Bk} {id s : Int} {i : Nat} (h : b.find id = some (s, i)) : (s = 1 ∨ s = 2) ∧ ∃ r, (b.side s)[i]? = some r ∧ r.id = id := by
  unfold Bk.find at h
  cases h1 : findAt id b.buys with
  | some k =>
    rw [h1] at h
    simp only [Option.some.injEq, Prod.mk.injEq] at h
    obtain ⟨rfl, rfl⟩ := h
    exact ⟨.inl rfl, findAt_ltP h1⟩
  | none =>
    rw [h1] at h
    cases h2 : findAt id b.sells with
    | some k =>
      rw [h2] at h
      simp only [Option.some.injEq, Prod.mk.injEq] at h
      obtain ⟨rfl, rfl⟩ := h
      exact ⟨.inr rfl, findAt_ltP h2⟩
    | none => rw [h2] at h; cases h
structure Quiet (b : Bk) : Prop where
  low : ∀ r ∈ b.buys ++ b.sells, r.id ≤ b.high
  vis : ∀ r ∈ b.buys ++ b.sells, 1 ≤ r.vis
theorem coming_ok {b : Bk} {e : Ev} {i : Bool} (hb : b.ok) (hq : Quiet b) (hw : e.wf) (hroom : i = true → b.count + 1 ≤ 4096) (h : canCome b e i = true) :
    ({ b with high := e.id } : Bk).ok ∧ Cg.ok { b with high := e.id } (coming e) ∧ b.high < e.id := by
  unfold canCome at h
  simp only [Bool.and_eq_true, decide_eq_true_eq] at h
  obtain ⟨⟨⟨⟨⟨⟨⟨h1, h2⟩, h3⟩, h4⟩, h5⟩, h6⟩, h7⟩, h8⟩ := h
  have hh := hb.high
  have hid := hw.id
  have hpk := hw.peak
  have hcap := hb.cap
  refine ⟨⟨hb.cap, hb.meet, ⟨by simp; omega, by simp; omega⟩, hb.seq, hb.buys, hb.sells, hb.one, hb.room⟩, ?_, h6⟩
  refine ⟨h2, h3, ⟨by simp [coming]; omega, by simp [coming]; omega⟩, ⟨by simp [coming]; omega, by simp [coming, mx]; omega⟩, hw.mem, h3, ⟨h4.1, h4.2.1⟩, ⟨rfl, rfl⟩, ⟨hpk.1, by simp [coming]; omega⟩, ?_, ?_, .inl rfl, ?_⟩
  · intro hm
    obtain ⟨r, hr, e1⟩ := List.mem_map.1 hm
    have := hq.low r hr
    simp only [coming] at e1
    omega
  · intro r hr h0
    have := hq.vis r hr
    omega
  · intro hk
    cases i with
    | true => exact hroom rfl
    | false =>
      have h9 := h7 (by simp only [coming] at hk; unfold keeps; rcases hk with hk | hk <;> simp [hk]) rfl
      show b.count + 1 ≤ 4096
      omega
theorem acked_ok {x : Pk} {e : Ev} {i : Bool} (h : x.ok) (hn : x.now = none) (hi : i = true → x.b.count + 1 ≤ 4096) (hw : e.wf) : (acked x e i).2.ok := by
  unfold acked
  split
  · exact h
  · rename_i hc
    have hc : canCome x.b e i = true := by cases q : canCome x.b e i <;> simp_all
    obtain ⟨h1, h2, h3⟩ := coming_ok h.ok ⟨h.low, h.vis hn⟩ hw hi hc
    have := settles_ok (b := { x.b with high := e.id }) (c := coming e) h1 h2 (fun r hr => by have := h.low r hr; show r.id ≤ e.id; omega) (by show e.id ≤ e.id; omega) rfl (fun _ => ⟨rfl, rfl⟩)
    exact this
theorem cancelled_ok {x : Pk} {e : Ev} (h : x.ok) (hn : x.now = none) (hi : x.ins = none) : (cancelled x e).2.ok := by
  unfold cancelled
  split
  · exact h
  · split
    · exact h
    · rename_i s i hf
      split
      · exact h
      · rename_i o hd
        split
        · exact h
        · split
          · exact h
          · obtain ⟨hs, _, _, _⟩ := find_atP hf
            have hil : i < (x.b.side s).length := (List.getElem?_eq_some_iff.1 hd).1
            have hsub : ∀ r ∈ (x.b.side s).eraseIdx i, r ∈ x.b.side s := fun r hr => List.mem_of_mem_eraseIdx hr
            have hperm : ([o.id] ++ ((x.b.side s).eraseIdx i).map Rs.id).Perm ((x.b.side s).map Rs.id) := by
              have h1 : (x.b.side s).Perm (o :: (x.b.side s).eraseIdx i) := by
                have h2 := (List.getElem?_eq_some_iff.1 hd).2
                have h3 : x.b.side s = (x.b.side s).take i ++ o :: (x.b.side s).drop (i + 1) := by
                  conv => lhs; rw [← List.take_append_drop i (x.b.side s), List.drop_eq_getElem_cons hil, h2]
                rw [List.eraseIdx_eq_take_drop_succ]
                generalize (x.b.side s).take i = l1 at *
                generalize (x.b.side s).drop (i + 1) = l2 at *
                rw [h3]
                exact List.perm_middle
              exact (h1.map Rs.id).symm
            have hok := h.ok.set s (fun r hr => h.ok.side s r (hsub r hr)) [o.id] hperm
            have hcount : (x.b.set s ((x.b.side s).eraseIdx i)).count + 1 ≤ 4096 := by
              have hr := h.ok.room
              have hl := List.length_eraseIdx_of_lt hil
              unfold Bk.count at hr ⊢
              rcases hs with rfl | rfl
              · show ((x.b.side 1).eraseIdx i).length + x.b.sells.length + 1 ≤ 4096
                rw [hl]
                have : (x.b.side 1).length = x.b.buys.length := rfl
                omega
              · show x.b.buys.length + ((x.b.side 2).eraseIdx i).length + 1 ≤ 4096
                rw [hl]
                have : (x.b.side 2).length = x.b.sells.length := rfl
                omega
            have hmem : ∀ r ∈ (x.b.set s ((x.b.side s).eraseIdx i)).buys ++ (x.b.set s ((x.b.side s).eraseIdx i)).sells, r ∈ x.b.buys ++ x.b.sells := fun r hr => by
              rcases mem_set hr with q | q
              · exact side_mem (hsub r q)
              · exact q
            refine ⟨hok, ?_, fun c hc => ?_, fun _ r hr => h.vis hn r (hmem r hr), fun _ _ => ⟨hn, hcount⟩⟩
            · intro r hr
              show r.id ≤ (x.b.set s _).high
              rw [(x.b.set_fields s _).2.2.1]
              exact h.low r (hmem r hr)
            · simp only [hn] at hc
              cases hc
theorem step_ok {x : Pk} {e : Ev} (h : x.ok) (hw : e.wf) : (x.step e).2.ok := by
  unfold Pk.step
  split
  · rename_i i m s k hi
    obtain ⟨h1, h2⟩ := h.ins _ hi
    split
    · exact h
    · exact acked_ok h h1 (fun _ => h2) hw
  · rename_i hi
    split
    · rename_i c hc
      have hx : x = ⟨x.b, some c, none⟩ := by cases x; simp_all
      have h' : Pk.ok ⟨x.b, some c, none⟩ := by rw [← hx]; exact h
      exact h'.quiet_next
    · rename_i hc
      split
      · exact h
      · split
        · exact cancelled_ok h hc hi
        · split
          · exact acked_ok h hc (fun q => by cases q) hw
          · exact h
/-! ### The numbers make no difference to what must come. -/
def Sim (t t' : Td) : Prop := ∃ s h, t'.1 = { t.1 with seq := s, high := h } ∧ sumTrades t'.2 = sumTrades t.2
theorem Sim.tell {t t' : Td} (h : Sim t t') (e : Ev) : Sim (tell t e) (tell t' e) := by
  obtain ⟨s, hi, h1, h2⟩ := h
  refine ⟨wrapU (t'.1.seq + 1), hi, ?_, ?_⟩
  · show ({ t'.1 with seq := _ } : Bk) = _
    rw [h1]; rfl
  · show sumTrades (t'.2 ++ _) = sumTrades (t.2 ++ _)
    rw [sum_append, sum_append, h2]; rfl
theorem Sim.set {t t' : Td} (h : Sim t t') (k : Int) (l : List Rs) : Sim (t.1.set k l, t.2) (t'.1.set k l, t'.2) := by
  obtain ⟨s, hi, h1, h2⟩ := h
  refine ⟨s, hi, ?_, h2⟩
  show t'.1.set k l = _
  rw [h1]
  exact t.1.set_with k l s hi
theorem Sim.side {t t' : Td} (h : Sim t t') (k : Int) : sideR t'.1 k = sideR t.1 k := by
  obtain ⟨s, hi, h1, h2⟩ := h
  rw [h1]; rfl
theorem Sim.meet {t t' : Td} (h : Sim t t') : t'.1.meet = t.1.meet := by
  obtain ⟨s, hi, h1, h2⟩ := h
  rw [h1]
theorem sim_own {t t' : Td} (h : Sim t t') (o : Co) (m : Rs) (l : List Rs) : Sim (stepOwn t o m l).1 (stepOwn t' o m l).1 ∧ (stepOwn t' o m l).2 = (stepOwn t o m l).2 := by
  unfold stepOwn
  simp only [h.meet]
  by_cases h1 : t.1.meet = 2 ∨ t.1.meet = 3
  · simp only [if_pos h1]
    by_cases h2 : t.1.meet = 1 ∨ t.1.meet = 3
    · simp only [if_pos h2]
      exact ⟨((h.tell _).set _ _).tell _, trivial⟩
    · simp only [if_neg h2]
      exact ⟨(h.tell _).set _ _, trivial⟩
  · simp only [if_neg h1]
    by_cases h2 : t.1.meet = 1 ∨ t.1.meet = 3
    · simp only [if_pos h2]
      exact ⟨h.tell _, trivial⟩
    · simp only [if_neg h2]
      exact ⟨h, trivial⟩
theorem sim_trade {t t' : Td} (h : Sim t t') (o : Co) (m : Rs) (l : List Rs) : Sim (stepTrade t o m l).1 (stepTrade t' o m l).1 ∧ (stepTrade t' o m l).2 = (stepTrade t o m l).2 := by
  unfold stepTrade
  simp only
  generalize (if m.vis < o.left then m.vis else o.left) = q
  by_cases h1 : 0 < m.vis - q
  · simp only [if_pos h1]
    exact ⟨(h.tell _).set _ _, trivial⟩
  · simp only [if_neg h1]
    by_cases h2 : 0 < m.hid
    · simp only [if_pos h2]
      exact ⟨((h.tell _).tell _).set _ _, trivial⟩
    · simp only [if_neg h2]
      exact ⟨(h.tell _).set _ _, trivial⟩
theorem sim_step {t t' : Td} (h : Sim t t') (o : Co) : Sim (stepR t o).1 (stepR t' o).1 ∧ (stepR t' o).2 = (stepR t o).2 := by
  unfold stepR
  rw [h.side]
  split
  · exact ⟨h, rfl⟩
  · rename_i m r _
    have ho : ownR t'.1 o m = ownR t.1 o m := by unfold ownR; rw [h.meet]
    rw [ho]
    split
    · exact sim_own h o m _
    · exact sim_trade h o m _
theorem sim_trades : ∀ (n : Nat) {t t' : Td} (h : Sim t t') (o : Co), Sim (tradesR n t o).1 (tradesR n t' o).1
  | 0, t, t', h, o => h
  | n + 1, t, t', h, o => by
    unfold tradesR
    have hm : meetsR t'.1 o = meetsR t.1 o := by unfold meetsR; rw [h.side]
    rw [hm]
    split
    · obtain ⟨h1, h2⟩ := sim_step h o
      rw [h2]
      exact sim_trades n h1 _
    · exact h
theorem whole_seq (b : Bk) (c : Cg) (s h : Int) : whole { b with seq := s, high := h } c = whole b c := by
  have h1 : Sim (b, []) ({ b with seq := s, high := h }, []) := ⟨s, h, rfl, rfl⟩
  have h2 : todoR { b with seq := s, high := h } (c.co 3) = todoR b (c.co 3) := by unfold todoR; rfl
  obtain ⟨_, _, _, h3⟩ := sim_trades (todoR b (c.co 3)) h1 (c.co 3)
  unfold whole wholeR
  rw [h2, h3]
theorem musts_seq (b : Bk) (c : Cg) (s h : Int) : musts { b with seq := s, high := h } c = musts b c := by
  unfold musts
  rw [whole_seq]
  rfl
theorem Pk.ok.seq {x : Pk} (h : x.ok) {s : Int} (hs : 0 ≤ s ∧ s < 18446744073709551616) : Pk.ok { x with b := { x.b with seq := s } } :=
  ⟨⟨h.ok.cap, h.ok.meet, h.ok.high, hs, h.ok.buys, h.ok.sells, h.ok.one, h.ok.room⟩, h.low, fun c hc => by
    obtain ⟨h1, h2, h3, h4, h5, m, h6⟩ := h.now c hc
    exact ⟨⟨h1.side, h1.kind, h1.left, h1.id, h1.mem, h1.typ, h1.price, h1.zero, h1.peak, h1.ids, h1.shows, h1.empty, h1.room⟩, h2, h3, h4, h5, m, by rw [← h6]; exact musts_seq x.b c s x.b.high⟩, h.vis, h.ins⟩
theorem add_ok {x : Pk} {e : Ev} (h : x.ok) (hw : e.wf) : (x.add e).2.ok := by
  unfold Pk.add
  split
  · exact h
  · simp only
    split
    · exact (step_ok h hw).seq hw.seq
    · exact step_ok h hw
end Ck
end Go.Proofs.Ytcnkbhgdcfckoaa
namespace Go.Proofs.Ytcnkbhgdcfckoaa
namespace Ck
/-- The events of one order, from what settled to its end. -/
def runs : List Ev → Bk → Option Cg → Bk → Prop
  | [], b, now, b' => now = none ∧ b' = b
  | m :: l, b, now, b' => ∃ c, now = some c ∧ musts b c = some m ∧ runs l (settles (takes b c m).1 (takes b c m).2).1 (settles (takes b c m).1 (takes b c m).2).2 b'
theorem must_true {wh : Bool} {b : Bk} {c : Cg} (h : ¬ (c.kind = 4 ∧ c.traded = false ∧ wh = false)) : must wh b c = must true b c := by
  unfold must
  by_cases he : c.empty ≠ 0
  · rw [if_pos he, if_pos he]
  · rw [if_neg he, if_neg he, if_neg h, if_neg (show ¬ (c.kind = 4 ∧ c.traded = false ∧ true = false) by simp)]
theorem musts_true {b : Bk} {c : Cg} (h : ¬ (c.kind = 4 ∧ c.traded = false ∧ whole b c = false)) : musts b c = must true b c := must_true h
theorem settles_some {b : Bk} {c : Cg} {m : Ev} (h : musts b c = some m) : settles b c = (b, some c) := by
  unfold settles
  rw [h]
theorem settles_none {b : Bk} {c : Cg} (h : musts b c = none) (hl : c.left = 0) : settles b c = (b, none) := by
  unfold settles
  rw [h]
  simp only
  rw [if_pos hl]
theorem plays_runs {F : List Ev} {b1 b' : Bk} {c1 : Cg} : ∀ {E : List Ev} {b : Bk} {c : Cg}, plays b c E b1 c1 → musts b c = must true b c → runs F (settles b1 c1).1 (settles b1 c1).2 b' → runs (E ++ F) (settles b c).1 (settles b c).2 b'
  | [], b, c, h, _, hF => by obtain ⟨rfl, rfl⟩ := h; exact hF
  | m :: E, b, c, h, hw, hF => by
    have hm : musts b c = some m := hw.trans h.1
    rw [settles_some hm]
    exact ⟨c, rfl, hm, plays_runs h.2 (musts_true (by rw [(takes_id b c m).2.2.2]; simp)) hF⟩
/-! ### An FOK and an IOC trade alike. -/
theorem own_kind (t : Td) (o : Co) (k : Int) (m : Rs) (l : List Rs) : stepOwn t { o with kind := k } m l = ((stepOwn t o m l).1, { (stepOwn t o m l).2 with kind := k }) := by
  unfold stepOwn
  simp only
  split <;> rfl
theorem trade_kind (t : Td) (o : Co) (k : Int) (m : Rs) (l : List Rs) : stepTrade t { o with kind := k } m l = ((stepTrade t o m l).1, { (stepTrade t o m l).2 with kind := k }) := by
  unfold stepTrade
  simp only
  generalize (if m.vis < o.left then m.vis else o.left) = q
  split
  · rfl
  · split <;> rfl
theorem step_kind (t : Td) (o : Co) (k : Int) : stepR t { o with kind := k } = ((stepR t o).1, { (stepR t o).2 with kind := k }) := by
  unfold stepR
  simp only
  split
  · rfl
  · rename_i m r _
    have ho : ownR t.1 { o with kind := k } m = ownR t.1 o m := rfl
    rw [ho]
    split
    · exact own_kind t o k m _
    · exact trade_kind t o k m _
theorem meets_kind (b : Bk) (o : Co) {k : Int} (h1 : o.kind ≠ 2) (h2 : k ≠ 2) : meetsR b { o with kind := k } = meetsR b o := by
  unfold meetsR
  simp only
  split
  · rfl
  · have e1 : (k == 2) = false := by simp [h2]
    have e2 : (o.kind == 2) = false := by simp [h1]
    rw [e1, e2]
theorem step_kind_same (t : Td) (o : Co) : (stepR t o).2.kind = o.kind := by
  have := step_kind t o o.kind
  have h2 : ({ o with kind := o.kind } : Co) = o := rfl
  rw [h2] at this
  rw [this]
theorem trades_kind : ∀ (n : Nat) (t : Td) (o : Co) {k : Int}, o.kind ≠ 2 → k ≠ 2 → (tradesR n t { o with kind := k }).1 = (tradesR n t o).1
  | 0, _, _, _, _, _ => rfl
  | n + 1, t, o, k, h1, h2 => by
    unfold tradesR
    rw [meets_kind t.1 o h1 h2]
    simp only
    by_cases hg : 0 < o.left ∧ meetsR t.1 o = true
    · rw [if_pos hg, if_pos hg, step_kind]
      exact trades_kind n _ _ (by rw [step_kind_same]; exact h1) h2
    · rw [if_neg hg, if_neg hg]
theorem whole_kind (b : Bk) (c : Cg) {k : Int} (h : k ≠ 2) : wholeR b (c.co k) = whole b c := by
  unfold whole wholeR
  have h1 := trades_kind (todoR b (c.co 3)) (b, []) (c.co 3) (k := k) (by simp [Cg.co]) h
  have e : ({ c.co 3 with kind := k } : Co) = c.co k := rfl
  rw [e] at h1
  have e2 : todoR b (c.co k) = todoR b (c.co 3) := rfl
  rw [e2, h1]
  rfl
theorem rest_eq {c : Cg} (hk : c.kind = c.o.typ) (hk0 : 0 ≤ c.o.peak) : restR (c.co c.kind) = atRest c := by
  unfold restR atRest Cg.co
  simp only
  rw [hk]
  by_cases h1 : 0 < c.o.peak
  · by_cases h2 : c.o.peak < c.left
    · rw [if_pos ⟨h1, h2⟩, if_pos h1]
      have : min c.o.peak c.left = c.o.peak := by omega
      rw [this]
    · rw [if_neg (fun h => h2 h.2), if_pos h1]
      have : min c.o.peak c.left = c.left := by omega
      rw [this, Int.sub_self]
  · rw [if_neg (fun h => h1 h.1), if_neg h1, Int.sub_self]
theorem seqs_snoc (s : Int) (n : Nat) : seqs s (n + 1) = wrapU (seqs s n + 1) := by
  rw [seqs_add]; rfl
/-- What comes, to its end. -/
theorem comes_runs {b : Bk} {c : Cg} {s h : Int} {l : List Ev} (hp : PI b c) (ht : c.traded = false) (hmet : c.met = false) (hk : c.kind = c.o.typ) :
    ∃ E b', runs E (settles b c).1 (settles b c).2 b' ∧ comesR ({ b with seq := s, high := h }, l) (c.co c.kind) = ({ b' with seq := seqs s E.length, high := h }, l ++ num s E) ∧ b'.seq = b.seq ∧ b'.high = b.high := by
  have hw0 : wholeR { b with seq := s, high := h } (c.co c.kind) = false ∧ c.kind = 4 ↔ whole b c = false ∧ c.kind = 4 := by
    constructor
    · rintro ⟨h1, h2⟩
      refine ⟨?_, h2⟩
      have := whole_kind { b with seq := s, high := h } c (k := c.kind) (by omega)
      rw [h1, whole_seq] at this
      exact this.symm
    · rintro ⟨h1, h2⟩
      refine ⟨?_, h2⟩
      rw [whole_kind { b with seq := s, high := h } c (k := c.kind) (by omega), whole_seq]
      exact h1
  by_cases hf : c.kind = 4 ∧ whole b c = false
  · have hm : musts b c = some (evCancel c.o.id c.left 4) := by
      unfold musts must
      rw [if_neg (by rw [hp.empty]; simp), if_pos ⟨hf.1, ht, hf.2⟩]
    have hm2 : musts b { c with traded := true, left := 0 } = none := (musts_true (by simp)).trans (must_none hp.empty rfl)
    refine ⟨[evCancel c.o.id c.left 4], b, ?_, ?_, rfl, rfl⟩
    · rw [settles_some hm]
      refine ⟨c, rfl, hm, ?_⟩
      rw [takes_own, settles_none hm2 rfl]
      exact ⟨rfl, rfl⟩
    · unfold comesR
      rw [if_pos ⟨hf.1, (hw0.2 ⟨hf.2, hf.1⟩).1⟩]
      rfl
  · have hw : musts b c = must true b c := musts_true (fun q => hf ⟨q.1, q.2.2⟩)
    have ho : Like c (c.co c.kind) := ⟨rfl, rfl, rfl, rfl, rfl⟩
    obtain ⟨E, b1, c1, tr⟩ := trades_plays (todoR { b with seq := s, high := h } (c.co c.kind)) (s := s) (h := h) (l := l) hp (.inl hmet) ho (.inl (Nat.le_refl _))
    obtain ⟨i1, i2, i3⟩ := plays_id tr.plays
    have hw1 : musts b1 c1 = must true b1 c1 := by
      by_cases hE : E = []
      · obtain ⟨q1, q2⟩ := tr.nil hE
        rw [q1, q2]; exact hw
      · exact musts_true (by rw [tr.traded hE]; simp)
    have hcm : comesR ({ b with seq := s, high := h }, l) (c.co c.kind) = endR ({ b1 with seq := seqs s E.length, high := h }, l ++ num s E) { c.co c.kind with left := c1.left } := by
      unfold comesR
      rw [if_neg (fun q => hf ⟨q.1, (hw0.1 ⟨q.2, q.1⟩).1⟩)]
      simp only
      rw [tr.left, ← tr.book, ← tr.told rfl]
    have hco : ({ c.co c.kind with left := c1.left } : Co) = c1.co c1.kind := by
      unfold Cg.co
      rw [i1, i2, i3]
    rw [hco] at hcm
    by_cases h0 : c1.left = 0
    · have hm1 : musts b1 c1 = none := hw1.trans (must_none tr.pi.empty h0)
      refine ⟨E, b1, ?_, ?_, tr.seq, tr.high⟩
      · have := plays_runs (F := []) (b' := b1) tr.plays hw (by rw [settles_none hm1 h0]; exact ⟨rfl, rfl⟩)
        rwa [List.append_nil] at this
      · rw [hcm]
        unfold endR
        rw [if_pos (show (c1.co c1.kind).left = 0 from h0)]
    · have hl : 0 < c1.left := by have := tr.pi.cg.left.1; omega
      have hst := tr.stop.resolve_left h0
      have hme := must_end tr.pi.empty (tr.met.resolve_right h0) hl hst
      by_cases hkk : c1.kind = 1 ∨ c1.kind = 5
      · rw [if_pos hkk] at hme
        have hm1 : musts b1 c1 = none := hw1.trans hme
        have hse : settles b1 c1 = (b1.set c1.side (rests c1.side (atRest c1) (b1.side c1.side)), none) := by
          unfold settles
          rw [hm1]
          simp only
          rw [if_neg h0]
        obtain ⟨g1, g2, g3, g4⟩ := b1.set_fields c1.side (rests c1.side (atRest c1) (b1.side c1.side))
        refine ⟨E, b1.set c1.side (rests c1.side (atRest c1) (b1.side c1.side)), ?_, ?_, g4.trans tr.seq, g3.trans tr.high⟩
        · have := plays_runs (F := []) (b' := b1.set c1.side (rests c1.side (atRest c1) (b1.side c1.side))) tr.plays hw (by rw [hse]; exact ⟨rfl, rfl⟩)
          rwa [List.append_nil] at this
        · rw [hcm]
          have hs := tr.pi.cg.side
          unfold endR
          rw [if_neg (show ¬ ((c1.co c1.kind).left = 0) from h0), if_neg (by show ¬ (c1.kind ≠ 1 ∧ c1.kind ≠ 5); omega)]
          rw [rest_eq (by rw [i3, i1]; exact hk) tr.pi.cg.peak.1]
          have e1 : (c1.co c1.kind).side = c1.side := rfl
          rw [e1, sideR_eq hs, enq_rests hs, Bk.set_with]
          rfl
      · rw [if_neg hkk] at hme
        have hm1 : musts b1 c1 = some (evCancel c1.o.id c1.left 3) := hw1.trans hme
        have hm2 : musts b1 { c1 with traded := true, left := 0 } = none := (musts_true (by simp)).trans (must_none tr.pi.empty rfl)
        refine ⟨E ++ [evCancel c1.o.id c1.left 3], b1, ?_, ?_, tr.seq, tr.high⟩
        · refine plays_runs tr.plays hw ?_
          rw [settles_some hm1]
          refine ⟨c1, rfl, hm1, ?_⟩
          rw [takes_own, settles_none hm2 rfl]
          exact ⟨rfl, rfl⟩
        · rw [hcm]
          unfold endR
          rw [if_neg (show ¬ ((c1.co c1.kind).left = 0) from h0), if_pos (by show c1.kind ≠ 1 ∧ c1.kind ≠ 5; omega)]
          rw [List.length_append, num_append]
          show _ = (({ b1 with seq := seqs s (E.length + 1), high := h } : Bk), _)
          rw [seqs_snoc, ← List.append_assoc]
          rfl
end Ck
end Go.Proofs.Ytcnkbhgdcfckoaa
namespace Go.Proofs.Ytcnkbhgdcfckoaa
namespace Ck
/-- A log is taken whole, to a state. -/
def takenP (x : Pk) : List Ev → Option Pk
  | [] => some x
  | e :: l => if (x.add e).1 = 0 then takenP (x.add e).2 l else none
theorem takenP_cons (x : Pk) (e : Ev) (l : List Ev) : takenP x (e :: l) = if (x.add e).1 = 0 then takenP (x.add e).2 l else none := rfl
theorem takenP_append (x : Pk) : ∀ (A B : List Ev), takenP x (A ++ B) = (takenP x A).bind (fun z => takenP z B) := by
  intro A
  induction A generalizing x with
  | nil => intro B; rfl
  | cons e A ih =>
    intro B
    rw [List.cons_append, takenP_cons x e (A ++ B), takenP_cons x e A]
    split
    · exact ih _ B
    · rfl
theorem takenP_ok {x : Pk} : ∀ {L : List Ev} {y : Pk}, x.ok → (∀ e ∈ L, e.wf) → takenP x L = some y → y.ok := by
  intro L
  induction L generalizing x with
  | nil => intro y h _ ht; injection ht with ht; exact ht ▸ h
  | cons e L ih =>
    intro y h hw ht
    rw [takenP_cons] at ht
    split at ht
    · exact ih (add_ok h (hw e (by simp))) (fun q hq => hw q (by simp [hq])) ht
    · cases ht
theorem takes_with (b : Bk) (c : Cg) (m : Ev) (s h : Int) : takes { b with seq := s, high := h } c m = ({ (takes b c m).1 with seq := s, high := h }, (takes b c m).2) := by
  have hside : ∀ k, ({ b with seq := s, high := h } : Bk).side k = b.side k := fun _ => rfl
  unfold takes
  simp only [hside, Bk.set_with]
  split
  · split <;> rfl
  · split
    · split
      · rfl
      · split
        · rfl
        · split <;> rfl
    · split <;> rfl
theorem settles_with (b : Bk) (c : Cg) (s h : Int) : settles { b with seq := s, high := h } c = ({ (settles b c).1 with seq := s, high := h }, (settles b c).2) := by
  have hside : ∀ k, ({ b with seq := s, high := h } : Bk).side k = b.side k := fun _ => rfl
  unfold settles
  rw [musts_seq]
  simp only [hside, Bk.set_with]
  split
  · rfl
  · split <;> rfl
theorem settles_fields (b : Bk) (c : Cg) : (settles b c).1.cap = b.cap ∧ (settles b c).1.meet = b.meet ∧ (settles b c).1.high = b.high ∧ (settles b c).1.seq = b.seq := by
  unfold settles
  split
  · exact ⟨rfl, rfl, rfl, rfl⟩
  · split
    · exact ⟨rfl, rfl, rfl, rfl⟩
    · exact b.set_fields _ _
theorem next_zero {b : Bk} {c : Cg} {e m : Ev} (hm : musts b c = some m) (h : (next b c e).1 = 0) : e = { m with seq := e.seq } ∧ (next b c e).2 = settles (takes b c m).1 (takes b c m).2 := by
  unfold next at h ⊢
  simp only [hm, Option.getD_some] at h ⊢
  split at h
  · simp at h
  · rename_i h1
    rw [if_neg h1]
    split at h
    · simp at h
    · rename_i h2
      rw [if_neg h2]
      split at h
      · simp at h
      · rename_i h3
        rw [if_neg h3]
        split at h
        · simp at h
        · rename_i h4
          rw [if_neg h4]
          split at h
          · simp at h
          · rename_i h5
            rw [if_neg h5]
            split at h
            · simp at h
            · rename_i h6
              rw [if_neg h6]
              exact ⟨Classical.not_not.1 h6, rfl⟩
theorem add_next {b : Bk} {c : Cg} {e : Ev} (h : ((⟨b, some c, none⟩ : Pk).add e).1 = 0) :
    e.seq = wrapU (b.seq + 1) ∧ (next b c e).1 = 0 ∧ ((⟨b, some c, none⟩ : Pk).add e).2 = ⟨{ (next b c e).2.1 with seq := e.seq }, (next b c e).2.2, none⟩ := by
  unfold Pk.add at h ⊢
  split at h
  · simp at h
  · rename_i hs
    have hs' : e.seq = wrapU (b.seq + 1) := Classical.not_not.1 hs
    rw [if_neg hs]
    have hst : (⟨b, some c, none⟩ : Pk).step e = ((next b c e).1, ⟨(next b c e).2.1, (next b c e).2.2, none⟩) := rfl
    rw [hst] at h ⊢
    simp only at h ⊢
    split at h
    · rename_i h0
      rw [if_pos h0]
      exact ⟨hs', h0, rfl⟩
    · rename_i h0
      exact absurd h h0
theorem runs_taken : ∀ (E : List Ev) {b b' : Bk} {now : Option Cg} {s h : Int} {L : List Ev} {y : Pk}, runs E b now b' → takenP ⟨{ b with seq := s, high := h }, now, none⟩ L = some y → y.isOpen = false →
    ∃ L', L = num s E ++ L' ∧ takenP ⟨{ b with seq := s, high := h }, now, none⟩ (num s E) = some ⟨{ b' with seq := seqs s E.length, high := h }, none, none⟩ ∧ takenP ⟨{ b' with seq := seqs s E.length, high := h }, none, none⟩ L' = some y
  | [], b, b', now, s, h, L, y, hr, ht, hy => by
    obtain ⟨rfl, rfl⟩ := hr
    exact ⟨L, rfl, rfl, ht⟩
  | m :: E, b, b', now, s, h, L, y, hr, ht, hy => by
    obtain ⟨c, rfl, hm, hr⟩ := hr
    cases L with
    | nil =>
      injection ht with ht
      subst ht
      simp [Pk.isOpen] at hy
    | cons e L =>
      rw [takenP_cons] at ht
      split at ht
      · rename_i h0
        obtain ⟨a1, a2, a3⟩ := add_next h0
        have hm' : musts { b with seq := s, high := h } c = some m := by rw [musts_seq]; exact hm
        obtain ⟨b1, b2⟩ := next_zero hm' a2
        simp only at a1
        have hst : ((⟨{ b with seq := s, high := h }, some c, none⟩ : Pk).add e).2 = ⟨{ (settles (takes b c m).1 (takes b c m).2).1 with seq := wrapU (s + 1), high := h }, (settles (takes b c m).1 (takes b c m).2).2, none⟩ := by
          rw [a3, b2, takes_with]
          simp only
          rw [settles_with, a1]
        rw [hst] at ht
        obtain ⟨L', c1, c2, c3⟩ := runs_taken E hr ht hy
        refine ⟨L', ?_, ?_, c3⟩
        · rw [c1]
          have he : num s (m :: E) = e :: num (wrapU (s + 1)) E := by
            show { m with seq := wrapU (s + 1) } :: _ = _
            rw [← a1, ← b1]
          rw [he]
          rfl
        · have he : num s (m :: E) = e :: num (wrapU (s + 1)) E := by
            show { m with seq := wrapU (s + 1) } :: _ = _
            rw [← a1, ← b1]
          rw [he]
          rw [takenP_cons]
          rw [if_pos h0, hst]
          exact c2
      · cases ht
/-! ### An order is acked -/
structure Came (b : Bk) (e : Ev) (i : Bool) : Prop where
  form : e = evAck e
  side : e.side = 1 ∨ e.side = 2
  typ : 1 ≤ e.typ ∧ e.typ ≤ 5
  price : 0 ≤ e.price ∧ e.price < 262144 ∧ (e.typ = 2 → e.price = 0)
  qty : 1 ≤ e.qty ∧ e.qty ≤ 4294967295 ∧ e.peak ≤ e.qty ∧ (e.peak ≠ 0 → keeps e.typ = true ∧ e.qty ≤ 256 * e.peak)
  high : b.high < e.id
  room : keeps e.typ = true → i = false → (b.count : Int) < b.cap
  cross : e.typ = 5 → (match b.side (far e.side) with | [] => true | p :: _ => !meets e.side e.typ e.price p.price) = true
theorem came {b : Bk} {e : Ev} {i : Bool} (h : canCome b e i = true) : Came b e i := by
  unfold canCome at h
  simp only [Bool.and_eq_true, decide_eq_true_eq] at h
  obtain ⟨⟨⟨⟨⟨⟨⟨h1, h2⟩, h3⟩, h4⟩, h5⟩, h6⟩, h7⟩, h8⟩ := h
  refine ⟨h1, h2, h3, h4, h5, h6, h7, fun h => ?_⟩
  rcases Bool.or_eq_true_iff.1 h8 with q | q
  · exact absurd h (of_decide_eq_true q)
  · exact q
def coOf (e : Ev) : Co := ⟨e.id, e.qty, e.peak, e.mem, e.side, e.typ, e.price⟩
theorem with_high {b : Bk} {s h : Int} (hh : b.high = h) : ({ b with seq := s } : Bk) = { b with seq := s, high := h } := by subst hh; rfl
theorem ack_taken {b : Bk} {e : Ev} {i : Bool} {L : List Ev} {y : Pk} (hb : b.ok) (hq : Quiet b) (hroom : i = true → b.count + 1 ≤ 4096) (hw : e.wf) (hk : e.kind = 1) (hseq : e.seq = wrapU (b.seq + 1))
    (hc : canCome b e i = true) (ht : takenP ⟨{ (settles { b with high := e.id } (coming e)).1 with seq := e.seq }, (settles { b with high := e.id } (coming e)).2, none⟩ L = some y) (hy : y.isOpen = false) (l0 : List Ev) :
    ∃ L' M B, L = M ++ L' ∧ ackR (b, l0) (coOf e) = (B, l0 ++ e :: M) ∧ takenP ⟨{ (settles { b with high := e.id } (coming e)).1 with seq := e.seq }, (settles { b with high := e.id } (coming e)).2, none⟩ M = some ⟨B, none, none⟩ ∧ takenP ⟨B, none, none⟩ L' = some y := by
  obtain ⟨h1, h2, h3⟩ := coming_ok hb hq hw hroom hc
  have hp : PI { b with high := e.id } (coming e) := ⟨h1, h2, rfl⟩
  obtain ⟨E, b', r1, r2, r3, r4⟩ := comes_runs (s := e.seq) (h := e.id) (l := l0 ++ [e]) hp rfl rfl rfl
  obtain ⟨f1, f2, f3, f4⟩ := settles_fields { b with high := e.id } (coming e)
  have hS : ({ (settles { b with high := e.id } (coming e)).1 with seq := e.seq } : Bk) = { (settles { b with high := e.id } (coming e)).1 with seq := e.seq, high := e.id } := with_high f3
  rw [hS] at ht ⊢
  obtain ⟨L', c1, c2, c3⟩ := runs_taken E r1 ht hy
  refine ⟨L', num e.seq E, _, c1, ?_, c2, c3⟩
  have hev : ({ evAcked (coOf e) with seq := wrapU (b.seq + 1) } : Ev) = e := by
    rw [← hseq]
    conv => rhs; rw [(came hc).form]
    unfold evAcked evAck coOf
    simp only
    rw [hk]
  unfold ackR tell
  simp only
  rw [hev, ← hseq]
  have hco : (coming e).co (coming e).kind = coOf e := rfl
  rw [hco] at r2
  have hbb : ({ ({ b with high := e.id } : Bk) with seq := e.seq, high := e.id } : Bk) = { b with seq := e.seq, high := (coOf e).id } := rfl
  rw [hbb] at r2
  rw [r2]
  simp
end Ck
end Go.Proofs.Ytcnkbhgdcfckoaa
namespace Go.Proofs.Ytcnkbhgdcfckoaa
namespace Ck
theorem meetsR_side {b : Bk} {s k p : Int} (hs : s = 1 ∨ s = 2) : meetsR b ⟨0, 0, 0, 0, s, k, p⟩ = (match b.side (far s) with | [] => false | q :: _ => meets s k p q.price) := by
  have hl : Like ⟨⟨0, 0, k, p, 0, 0, 0⟩, s, k, 0, false, 0, false⟩ (⟨0, 0, 0, 0, s, k, p⟩ : Co) := ⟨rfl, rfl, rfl, rfl, rfl⟩
  unfold meetsR
  have hf : sideR b (3 - s) = b.side (far s) := sideR_eq (by omega)
  simp only [hf]
  cases b.side (far s) with
  | nil => rfl
  | cons q l =>
    simp only
    exact meets_eq hl hs q.price
theorem amounts_zero {c : Cm} {k : Int} (hp : 0 ≤ c.price ∧ c.price < 262144 ∧ (k = 2 → c.price = 0)) (hq : 1 ≤ c.qty ∧ c.qty ≤ 4294967295 ∧ c.peak ≤ c.qty ∧ (c.peak ≠ 0 → (k = 1 ∨ k = 5) ∧ c.qty ≤ 256 * c.peak)) (hid : c.id ≠ 0) : amounts c k = 0 := by
  unfold amounts
  rw [if_neg (by omega), if_neg (by omega), if_neg (by
    rintro (h | ⟨h1, h2⟩)
    · omega
    · have := hq.2.2.2 h1
      omega), if_neg hid]
theorem keeps_or {k : Int} : keeps k = true ↔ k = 1 ∨ k = 5 := by
  unfold keeps
  simp
theorem refused_new {b : Bk} {e : Ev} (hb : b.ok) (hc : Came b e false) : refusedR b ⟨1, e.id, 0, e.mem, e.side, e.typ, e.price, e.qty, e.peak⟩ = 0 := by
  have hh := hb.high.1
  have hid := hc.high
  have h1 : checkR ⟨1, e.id, 0, e.mem, e.side, e.typ, e.price, e.qty, e.peak⟩ = 0 := by
    have := hc.side
    have := hc.typ
    unfold checkR
    simp only
    rw [if_neg (by omega), if_neg (by omega), if_pos trivial, if_neg (by omega), if_neg (by omega)]
    exact amounts_zero hc.price ⟨hc.qty.1, hc.qty.2.1, hc.qty.2.2.1, fun h => ⟨keeps_or.1 (hc.qty.2.2.2 h).1, (hc.qty.2.2.2 h).2⟩⟩ (by show e.id ≠ 0; omega)
  unfold refusedR
  rw [h1]
  simp only
  rw [if_neg (by omega), if_neg (by simp), if_neg (by simp), if_neg (by omega), if_neg (by omega), if_neg (by
    rintro ⟨h2, h3⟩
    have := hc.room (keeps_or.2 h2) rfl
    omega), if_neg (by
    rintro ⟨h2, h3⟩
    rw [meetsR_side hc.side] at h3
    have := hc.cross h2
    cases hd : b.side (far e.side) with
    | nil => rw [hd] at h3; cases h3
    | cons q l =>
      rw [hd] at h3 this
      simp only at h3 this
      rw [h3] at this
      cases this)]
theorem find_some {id : Int} : ∀ {l : List Rs} {i : Nat}, findAt id l = some i → ∃ r, l[i]? = some r ∧ l.find? (fun r => r.id == id) = some r
  | [], i, h => by cases h
  | r :: l, i, h => by
    unfold findAt at h
    by_cases hr : r.id = id
    · rw [if_pos hr] at h
      injection h with h
      subst h
      exact ⟨r, rfl, by rw [List.find?_cons_of_pos (by simp [hr])]⟩
    · rw [if_neg hr] at h
      cases hf : findAt id l with
      | none => rw [hf] at h; cases h
      | some j =>
        rw [hf] at h
        injection h with h
        subst h
        obtain ⟨r', h1, h2⟩ := find_some hf
        exact ⟨r', by simpa using h1, by rw [List.find?_cons_of_neg (by simp [hr])]; exact h2⟩
theorem find_none {id : Int} : ∀ {l : List Rs}, findAt id l = none → l.find? (fun r => r.id == id) = none
  | [], _ => rfl
  | r :: l, h => by
    unfold findAt at h
    by_cases hr : r.id = id
    · rw [if_pos hr] at h; cases h
    · rw [if_neg hr] at h
      cases hf : findAt id l with
      | none => rw [List.find?_cons_of_neg (by simp [hr])]; exact find_none hf
      | some j => rw [hf] at h; cases h
theorem findR_none {b : Bk} {id : Int} (h : b.find id = none) : findR b id = none := by
  unfold Bk.find at h
  unfold findR
  cases h1 : findAt id b.buys with
  | some i => rw [h1] at h; cases h
  | none =>
    rw [h1] at h
    cases h2 : findAt id b.sells with
    | some i => rw [h2] at h; cases h
    | none => rw [find_none h1, find_none h2]
theorem without_none {id : Int} : ∀ {l : List Rs}, id ∉ l.map Rs.id → without l id = l := by
  intro l h
  unfold without
  rw [List.filter_eq_self]
  intro x hx
  simp only [bne_iff_ne, ne_eq]
  intro e
  exact h (e ▸ List.mem_map_of_mem hx)
theorem without_at {id : Int} : ∀ {l : List Rs} {i : Nat}, findAt id l = some i → (l.map Rs.id).Nodup → without l id = l.eraseIdx i
  | [], i, h, _ => by cases h
  | r :: l, i, h, hn => by
    rw [List.map_cons, List.nodup_cons] at hn
    unfold findAt at h
    by_cases hr : r.id = id
    · rw [if_pos hr] at h
      injection h with h
      subst h
      have : without (r :: l) id = without l id := by
        unfold without
        rw [List.filter_cons, if_neg (by simp [hr])]
      rw [this, without_none (by rw [← hr]; exact hn.1)]
      rfl
    · rw [if_neg hr] at h
      cases hf : findAt id l with
      | none => rw [hf] at h; cases h
      | some j =>
        rw [hf] at h
        injection h with h
        subst h
        have : without (r :: l) id = r :: without l id := by
          unfold without
          rw [List.filter_cons, if_pos (by simp [hr])]
        rw [this, without_at hf hn.2]
        rfl
structure Found (b : Bk) (id s : Int) (i : Nat) (r : Rs) : Prop where
  side : s = 1 ∨ s = 2
  at' : (b.side s)[i]? = some r
  eq : r.id = id
  ref : findR b id = some (r, s)
  out : without (b.side s) id = (b.side s).eraseIdx i
theorem found {b : Bk} {id s : Int} {i : Nat} (hb : b.ok) (h : b.find id = some (s, i)) : ∃ r, Found b id s i r := by
  have h1 := side_ids hb 1
  have h2 := side_ids hb 2
  have h0 := h
  unfold Bk.find at h
  cases f1 : findAt id b.buys with
  | some k =>
    rw [f1] at h
    injection h with h
    injection h with ha hc
    subst ha; subst hc
    obtain ⟨r, g1, g2⟩ := find_some f1
    obtain ⟨_, r', g3, g4⟩ := find_atP h0
    have : r' = r := Option.some.inj (g3.symm.trans g1)
    subst this
    exact ⟨r', .inl rfl, g1, g4, by unfold findR; rw [g2], without_at f1 h1⟩
  | none =>
    rw [f1] at h
    simp only at h
    cases f2 : findAt id b.sells with
    | none => rw [f2] at h; cases h
    | some k =>
      rw [f2] at h
      injection h with h
      injection h with ha hc
      subst ha; subst hc
      obtain ⟨r, g1, g2⟩ := find_some f2
      obtain ⟨_, r', g3, g4⟩ := find_atP h0
      have : r' = r := Option.some.inj (g3.symm.trans g1)
      subst this
      exact ⟨r', .inr rfl, g1, g4, by unfold findR; rw [find_none f1, g2], without_at f2 h2⟩
/-! ### Rejects -/
def refusingR (b : Bk) (e : Ev) : Cm :=
  let k : Int := if e.target ≠ 0 then 3 else 1
  if e.code = 90 then ⟨9, e.id, e.target, 0, 1, 1, 1, 1, 0⟩
  else if e.code = 91 then ⟨if e.id = 0 then 2 else 3, e.id, e.target, 0, 1, 1, 1, 1, 0⟩
  else if e.code = 92 then ⟨k, e.id, e.target, 0, 0, 1, 1, 1, 0⟩
  else if e.code = 93 then ⟨k, e.id, e.target, 0, 1, 0, 1, 1, 0⟩
  else if e.code = 94 then ⟨k, e.id, e.target, 0, 1, 1, -1, 1, 0⟩
  else if e.code = 95 then ⟨k, e.id, e.target, 0, 1, 1, 1, 0, 0⟩
  else if e.code = 96 then ⟨k, e.id, e.target, 0, 1, 1, 1, 1, 2⟩
  else if e.code = 99 then
    let s : Int := if (b.sells.any (fun r => r.id == e.target) || (decide (e.target = 0) && b.sells.isEmpty)) = true then 2 else 1
    ⟨k, e.id, e.target, 0, s, 5, if s = 2 then 0 else 262143, 1, 0⟩
  else ⟨k, e.id, e.target, 0, 1, 1, 1, 1, 0⟩
theorem reject_form {b : Bk} {c : Cm} {e : Ev} (hf : e = evRej e) (hk : e.kind = 2) (hs : e.seq = wrapU (b.seq + 1)) (hr : refusedR b c = e.code) (h0 : e.code ≠ 0)
    (hid : (if c.kind = 2 then 0 else c.id) = e.id) (ht : (if c.kind = 1 then 0 else c.target) = e.target) : doR b c = ({ b with seq := e.seq }, [e]) := by
  unfold doR
  rw [hr, if_pos h0]
  unfold tell evReject
  rw [hid, ht]
  simp only [List.nil_append]
  rw [← hs]
  congr 2
  conv => rhs; rw [hf]
  unfold evRej
  rw [hk]
theorem kind_or (t : Int) : ((if t ≠ 0 then (3 : Int) else 1) = 1 ∧ t = 0) ∨ ((if t ≠ 0 then (3 : Int) else 1) = 3 ∧ t ≠ 0) := by
  by_cases h : t = 0
  · exact .inl ⟨by simp [h], h⟩
  · exact .inr ⟨by simp [h], h⟩
theorem ids_kind {k id t : Int} (h : (k = 1 ∧ t = 0) ∨ (k = 3 ∧ t ≠ 0)) : (if k = 2 then 0 else id) = id ∧ (if k = 1 then 0 else t) = t := by
  rcases h with ⟨h1, h2⟩ | ⟨h1, h2⟩
  · exact ⟨by rw [h1]; simp, by rw [h1, h2]; simp⟩
  · exact ⟨by rw [h1]; simp, by rw [h1]; simp⟩
/-- A New or a Replace of an order that is there, of a number that is not above: what is refused by itself. -/
theorem refused_check {b : Bk} {k id t m s ty p q pk : Int} (hk : (k = 1 ∧ t = 0) ∨ (k = 3 ∧ t ≠ 0)) (ha : t = 0 ∨ (findR b t).isSome = true) (hc : checkR ⟨k, id, t, m, s, ty, p, q, pk⟩ ≠ 0) :
    refusedR b ⟨k, id, t, m, s, ty, p, q, pk⟩ = checkR ⟨k, id, t, m, s, ty, p, q, pk⟩ := by
  unfold refusedR
  simp only
  rw [if_neg (by omega), if_neg (by
    rintro ⟨h1, h2⟩
    rcases ha with ha | ha
    · omega
    · rw [Option.isNone_iff_eq_none] at h2; rw [h2] at ha; cases ha), if_pos (.inl hc)]
theorem check_of {k id t m s ty p q pk : Int} (hk : (k = 1 ∧ t = 0) ∨ (k = 3 ∧ t ≠ 0)) (hs : s = 1 ∨ s = 2) (hty : ty = 1 ∨ ty = 5) : checkR ⟨k, id, t, m, s, ty, p, q, pk⟩ = amounts ⟨k, id, t, m, s, ty, p, q, pk⟩ (if k = 1 then ty else 1) := by
  unfold checkR
  simp only
  rcases hk with ⟨h1, h2⟩ | ⟨h1, h2⟩
  · subst h1
    rw [if_neg (by decide), if_neg (by decide), if_pos rfl, if_neg (by omega), if_neg (by omega), if_pos rfl]
  · subst h1
    rw [if_neg (by decide), if_pos rfl, if_neg (by decide)]
theorem reject_do {b : Bk} {e : Ev} (hb : b.ok) (hw : e.wf) (hk : e.kind = 2) (hs : e.seq = wrapU (b.seq + 1)) (h : rejected b e = 0) : doR b (refusingR b e) = ({ b with seq := e.seq }, [e]) := by
  have hhigh := hb.high
  have hwid := hw.id
  unfold rejected at h
  split at h
  · simp at h
  · rename_i hf
    have hf : e = evRej e := Classical.not_not.1 hf
    simp only at h
    have key : ∀ q : Bool, (if q = true then (0 : Int) else 195) = 0 → q = true := by intro q; cases q <;> simp
    have hok := key _ h
    clear h key
    have hkk := kind_or e.target
    have hkn : b.find e.target = none → (findR b e.target).isNone = true := fun q => by rw [findR_none q]; rfl
    have hks : (b.find e.target).isSome = true → (findR b e.target).isSome = true := fun q => by
      cases hq : b.find e.target with
      | none => rw [hq] at q; cases q
      | some x =>
        obtain ⟨s, i⟩ := x
        obtain ⟨r, fd⟩ := found hb hq
        rw [fd.ref]; rfl
    have hzero : b.find 0 = none := by
      cases hq : b.find 0 with
      | none => rfl
      | some x =>
        obtain ⟨s, i⟩ := x
        obtain ⟨r, fd⟩ := found hb hq
        have := (hb.side s r (List.mem_of_getElem? fd.at')).id.1
        have := fd.eq
        omega
    generalize hkd : (if e.target ≠ 0 then (3 : Int) else 1) = k at *
    have hik := ids_kind (id := e.id) hkk
    have aim : (decide (e.target = 0) || (b.find e.target).isSome) = true → e.target = 0 ∨ (findR b e.target).isSome = true := fun q => by
      rcases Bool.or_eq_true_iff.1 q with q | q
      · exact .inl (of_decide_eq_true q)
      · exact .inr (hks q)
    unfold refusingR
    simp only
    rw [hkd]
    by_cases c0 : e.code = 90
    · rw [if_pos c0]
      exact reject_form hf hk hs (by rw [c0]; unfold refusedR; rw [if_pos (by simp)]) (by omega) (by simp) (by simp)
    rw [if_neg c0] at hok ⊢
    by_cases c1 : e.code = 91
    · rw [if_pos c1] at hok ⊢
      have hn : b.find e.target = none := by simpa using hok
      have hn2 := hkn hn
      by_cases hi : e.id = 0
      · rw [if_pos hi]
        exact reject_form hf hk hs (by rw [c1]; unfold refusedR; rw [if_neg (by simp), if_pos ⟨by simp, hn2⟩]) (by omega) (by simp [hi]) (by simp)
      · rw [if_neg hi]
        exact reject_form hf hk hs (by rw [c1]; unfold refusedR; rw [if_neg (by simp), if_pos ⟨by simp, hn2⟩]) (by omega) (by simp) (by simp)
    rw [if_neg c1] at hok ⊢
    by_cases c2 : e.code = 92
    · rw [if_pos (.inl c2)] at hok
      have ht0 : e.target = 0 := of_decide_eq_true hok
      rw [if_pos c2]
      have hk1 : k = 1 := by omega
      have hc : checkR ⟨k, e.id, e.target, 0, 0, 1, 1, 1, 0⟩ = 92 := by rw [hk1]; rfl
      exact reject_form hf hk hs (by rw [c2, refused_check hkk (.inl ht0) (by rw [hc]; decide), hc]) (by omega) hik.1 hik.2
    by_cases c3 : e.code = 93
    · rw [if_pos (.inr c3)] at hok
      have ht0 : e.target = 0 := of_decide_eq_true hok
      rw [if_neg c2, if_pos c3]
      have hk1 : k = 1 := by omega
      have hc : checkR ⟨k, e.id, e.target, 0, 1, 0, 1, 1, 0⟩ = 93 := by rw [hk1]; rfl
      exact reject_form hf hk hs (by rw [c3, refused_check hkk (.inl ht0) (by rw [hc]; decide), hc]) (by omega) hik.1 hik.2
    rw [if_neg (by omega)] at hok
    rw [if_neg c2, if_neg c3]
    by_cases c4 : e.code = 94
    · rw [if_pos (.inl c4)] at hok
      rw [if_pos c4]
      have hc : checkR ⟨k, e.id, e.target, 0, 1, 1, -1, 1, 0⟩ = 94 := by
        rw [check_of hkk (.inl rfl) (.inl rfl)]; unfold amounts; rw [if_pos (.inl (by show (-1 : Int) < 0; decide))]
      exact reject_form hf hk hs (by rw [c4, refused_check hkk (aim hok) (by rw [hc]; decide), hc]) (by omega) hik.1 hik.2
    by_cases c5 : e.code = 95
    · rw [if_pos (.inr (.inl c5))] at hok
      rw [if_neg c4, if_pos c5]
      have hc : checkR ⟨k, e.id, e.target, 0, 1, 1, 1, 0, 0⟩ = 95 := by
        rw [check_of hkk (.inl rfl) (.inl rfl)]; unfold amounts; rw [if_neg (by simp), if_pos (.inl (by simp))]
      exact reject_form hf hk hs (by rw [c5, refused_check hkk (aim hok) (by rw [hc]; decide), hc]) (by omega) hik.1 hik.2
    by_cases c6 : e.code = 96
    · rw [if_pos (.inr (.inr c6))] at hok
      rw [if_neg c4, if_neg c5, if_pos c6]
      have hc : checkR ⟨k, e.id, e.target, 0, 1, 1, 1, 1, 2⟩ = 96 := by
        rw [check_of hkk (.inl rfl) (.inl rfl)]; unfold amounts; rw [if_neg (by simp), if_neg (by simp), if_pos (.inl (by simp))]
      exact reject_form hf hk hs (by rw [c6, refused_check hkk (aim hok) (by rw [hc]; decide), hc]) (by omega) hik.1 hik.2
    rw [if_neg (by omega)] at hok
    rw [if_neg c4, if_neg c5, if_neg c6]
    have hplain : ∀ {ty p : Int} {s : Int}, s = 1 ∨ s = 2 → ty = 1 ∨ ty = 5 → 0 ≤ p ∧ p < 262144 → amounts ⟨k, e.id, e.target, 0, s, ty, p, 1, 0⟩ (if k = 1 then ty else 1) = if e.id = 0 then 97 else 0 := by
      intro ty p s h1 h2 h3
      unfold amounts
      simp only
      rw [if_neg (by
        rintro (q | q | ⟨q1, q2⟩)
        · omega
        · omega
        · split at q1 <;> omega), if_neg (by omega), if_neg (by simp)]
    by_cases c7 : e.code = 97
    · rw [if_pos c7] at hok
      rw [if_neg (by omega)]
      obtain ⟨g1, g2⟩ := Bool.and_eq_true_iff.1 hok
      have g3 : e.id ≤ b.high := by
        have : ¬ (b.high < e.id) := by simpa using g2
        omega
      refine reject_form hf hk hs ?_ (by omega) hik.1 hik.2
      rw [c7]
      have hck := (check_of (k := k) (id := e.id) (t := e.target) (m := 0) (p := 1) (q := 1) (pk := 0) hkk (.inl rfl) (.inl rfl)).trans (hplain (.inl rfl) (.inl rfl) ⟨by decide, by decide⟩)
      by_cases hi : e.id = 0
      · rw [if_pos hi] at hck
        rw [refused_check hkk (aim g1) (by rw [hck]; decide), hck]
      · rw [if_neg hi] at hck
        unfold refusedR
        rw [hck]
        simp only
        rw [if_neg (by omega), if_neg (by
          rintro ⟨q1, q2⟩
          rcases aim g1 with q | q
          · omega
          · rw [Option.isNone_iff_eq_none] at q2; rw [q2] at q; cases q), if_neg (by omega), if_pos g3]
    rw [if_neg c7] at hok
    by_cases c8 : e.code = 98
    · rw [if_pos c8] at hok
      rw [if_neg (by omega)]
      obtain ⟨g12, g3⟩ := Bool.and_eq_true_iff.1 hok
      obtain ⟨g1, g2⟩ := Bool.and_eq_true_iff.1 g12
      have g1 := of_decide_eq_true g1
      have g2 := of_decide_eq_true g2
      have g3 := of_decide_eq_true g3
      have hk1 : k = 1 := by omega
      have hck := (check_of (k := k) (id := e.id) (t := e.target) (m := 0) (p := 1) (q := 1) (pk := 0) hkk (.inl rfl) (.inl rfl)).trans (hplain (.inl rfl) (.inl rfl) ⟨by decide, by decide⟩)
      rw [if_neg (show ¬ e.id = 0 by omega)] at hck
      refine reject_form hf hk hs ?_ (by omega) hik.1 hik.2
      rw [c8]
      unfold refusedR
      rw [hck]
      simp only
      rw [if_neg (by omega), if_neg (by omega), if_neg (by omega), if_neg (by omega), if_neg (by omega), if_pos ⟨.inl trivial, g3⟩]
    rw [if_neg c8] at hok
    by_cases c9 : e.code = 99
    rotate_left
    · rw [if_neg c9] at hok
      cases hok
    rw [if_pos c9] at hok ⊢
    obtain ⟨g1, g2⟩ := Bool.and_eq_true_iff.1 hok
    have g1 := of_decide_eq_true g1
    have hprice : ∀ {s : Int}, s = 1 ∨ s = 2 → 0 ≤ (if s = 2 then (0 : Int) else 262143) ∧ (if s = 2 then (0 : Int) else 262143) < 262144 := fun {s} _ => by split <;> omega
    have hmeet : ∀ {s : Int}, s = 1 ∨ s = 2 → b.side (far s) ≠ [] → meetsR b ⟨0, 0, 0, 0, s, 5, if s = 2 then 0 else 262143⟩ = true := by
      intro s h1 h2
      rw [meetsR_side h1]
      cases hd : b.side (far s) with
      | nil => exact absurd hd h2
      | cons q l =>
        have hq := (hb.side (far s) q (by rw [hd]; simp)).price
        simp only
        unfold meets ahead
        rcases h1 with rfl | rfl
        · have : ¬ (262143 < q.price) := by omega
          simp [this]
        · have : ¬ (q.price < 0) := by omega
          simp [this]
    rcases hkk with ⟨hk1, ht0⟩ | ⟨hk3, ht1⟩
    · -- a New
      rw [ht0, hzero] at g2
      simp only [Bool.or_false, decide_true, Bool.true_and, Bool.and_eq_true, decide_eq_true_eq] at g2
      obtain ⟨g3, g4⟩ := g2
      have g4 : ¬ (b.cap ≤ (b.count : Int)) := by simpa using g4
      have hany : b.sells.any (fun r => r.id == e.target) = false := by
        rw [List.any_eq_false]
        intro r hr
        have := (hb.sells r hr).id.1
        simp
        omega
      rw [hany]
      simp only [Bool.false_or, ht0, decide_true, Bool.true_and]
      have hfin : ∀ {s : Int}, s = 1 ∨ s = 2 → b.side (far s) ≠ [] → doR b ⟨k, e.id, 0, 0, s, 5, if s = 2 then 0 else 262143, 1, 0⟩ = ({ b with seq := e.seq }, [e]) := by
        intro s h1 h2
        have hkk' : (k = 1 ∧ e.target = 0) ∨ (k = 3 ∧ e.target ≠ 0) := .inl ⟨hk1, ht0⟩
        have hck := (check_of (k := k) (id := e.id) (t := e.target) (m := 0) (p := if s = 2 then 0 else 262143) (q := 1) (pk := 0) hkk' h1 (.inr rfl)).trans (hplain h1 (.inr rfl) (hprice h1))
        rw [if_neg (show ¬ e.id = 0 by omega), ht0] at hck
        refine reject_form hf hk hs ?_ (by omega) hik.1 (by rw [ht0] at hik ⊢; exact hik.2)
        rw [c9]
        unfold refusedR
        rw [hck]
        simp only
        rw [if_neg (by omega), if_neg (by omega), if_neg (by omega), if_neg (by omega), if_neg (by omega), if_neg (fun q => g4 q.2), if_pos ⟨trivial, hmeet h1 h2⟩]
      by_cases hsl : b.sells = []
      · have he : b.sells.isEmpty = true := by rw [hsl]; rfl
        have := hfin (s := 2) (.inr rfl) (by
          show b.buys ≠ []
          intro q
          unfold Bk.count at g3
          rw [q, hsl] at g3
          simp at g3)
        rw [he]
        exact this
      · have he : b.sells.isEmpty = false := by
          cases q : b.sells with
          | nil => exact absurd q hsl
          | cons r l => rfl
        have := hfin (s := 1) (.inl rfl) hsl
        rw [he]
        exact this
    · -- a Replace
      have hd : decide (e.target = 0) = false := by simp [ht1]
      rw [hd] at g2 ⊢
      simp only [Bool.false_and, Bool.false_or, Bool.or_false] at g2 ⊢
      cases hq : b.find e.target with
      | none => rw [hq] at g2; cases g2
      | some x =>
        obtain ⟨s, i⟩ := x
        obtain ⟨r, fd⟩ := found hb hq
        rw [hq] at g2
        simp only [fd.at', Bool.and_eq_true, decide_eq_true_eq] at g2
        obtain ⟨g3, g4⟩ := g2
        have hsd : (if b.sells.any (fun r => r.id == e.target) = true then (2 : Int) else 1) = s := by
          rcases fd.side with rfl | rfl
          · rw [if_neg]
            intro ha
            obtain ⟨y, hy, hy2⟩ := List.any_eq_true.1 ha
            have hr1 : r ∈ b.side 1 := List.mem_of_getElem? fd.at'
            have := id_other hb (.inl rfl) hr1 (y := y) hy
            rw [fd.eq] at this
            exact this (by simpa using hy2 : y.id = e.target).symm
          · rw [if_pos]
            exact List.any_eq_true.2 ⟨r, List.mem_of_getElem? fd.at', by simp [fd.eq]⟩
        rw [hsd]
        have hkk' : (k = 1 ∧ e.target = 0) ∨ (k = 3 ∧ e.target ≠ 0) := .inr ⟨hk3, ht1⟩
        have hck := (check_of (k := k) (id := e.id) (t := e.target) (m := 0) (p := if s = 2 then 0 else 262143) (q := 1) (pk := 0) hkk' fd.side (.inr rfl)).trans (hplain fd.side (.inr rfl) (hprice fd.side))
        rw [if_neg (show ¬ e.id = 0 by omega)] at hck
        refine reject_form hf hk hs ?_ (by omega) hik.1 hik.2
        rw [c9]
        unfold refusedR
        rw [hck]
        simp only [fd.ref]
        rw [if_neg (by omega), if_neg (by simp), if_neg (by omega), if_neg (by omega), if_pos hk3]
        have hne : b.side (far s) ≠ [] := by
          intro q; rw [q] at g4; simp at g4
        rw [g3, if_pos ⟨rfl, hmeet fd.side hne⟩]
end Ck
end Go.Proofs.Ytcnkbhgdcfckoaa
namespace Go.Proofs.Ytcnkbhgdcfckoaa
namespace Ck
theorem set_seq (b : Bk) (s q : Int) (l : List Rs) : ({ b with seq := q } : Bk).set s l = { b.set s l with seq := q } := by
  unfold Bk.set
  split <;> rfl
def replayedR (b : Bk) (e next : Ev) : Cm × Bool :=
  if e.kind = 1 then (⟨1, e.id, 0, e.mem, e.side, e.typ, e.price, e.qty, e.peak⟩, true)
  else if e.kind = 4 then (if e.reason = 1 then (⟨2, 0, e.id, 0, 0, 0, 0, 0, 0⟩, true) else (⟨3, next.id, e.id, 0, 0, 0, next.price, next.qty, next.peak⟩, e.reason == 2))
  else if e.kind = 2 then (refusingR b e, true)
  else (⟨1, e.id, 0, e.mem, e.side, e.typ, e.price, e.qty, e.peak⟩, false)
theorem add_zero {x : Pk} {e : Ev} (h : (x.add e).1 = 0) : e.seq = wrapU (x.b.seq + 1) ∧ (x.step e).1 = 0 ∧ (x.add e).2 = { (x.step e).2 with b := { (x.step e).2.b with seq := e.seq } } := by
  unfold Pk.add at h ⊢
  split at h
  · simp at h
  · rename_i hs
    rw [if_neg hs]
    simp only at h ⊢
    split at h
    · rename_i h0
      rw [if_pos h0]
      exact ⟨Classical.not_not.1 hs, h0, rfl⟩
    · rename_i h0
      exact absurd h h0
theorem acked_zero {x : Pk} {e : Ev} {i : Bool} (h : (acked x e i).1 = 0) : canCome x.b e i = true ∧ (acked x e i).2 = ⟨(settles { x.b with high := e.id } (coming e)).1, (settles { x.b with high := e.id } (coming e)).2, none⟩ := by
  unfold acked at h ⊢
  split at h
  · simp at h
  · rename_i hc
    rw [if_neg hc]
    exact ⟨by cases q : canCome x.b e i <;> simp_all, rfl⟩
structure Canc (x : Pk) (e : Ev) (s : Int) (i : Nat) (r : Rs) : Prop where
  why : e.reason = 1 ∨ e.reason = 2
  fd : Found x.b e.id s i r
  qty : e.qty = r.vis + r.hid
  form : e = evCan e
  res : (cancelled x e).2 = ⟨x.b.set s ((x.b.side s).eraseIdx i), x.now, if e.reason = 2 then some (r.mem, s, r.typ) else x.ins⟩
theorem cancelled_zero {x : Pk} {e : Ev} (hb : x.b.ok) (h : (cancelled x e).1 = 0) : ∃ s i r, Canc x e s i r := by
  cases hf : x.b.find e.id with
  | none =>
    unfold cancelled at h
    rw [hf] at h
    split at h
    · simp at h
    · simp at h
  | some q =>
    obtain ⟨s, i⟩ := q
    obtain ⟨r, fd⟩ := found hb hf
    have h2 := h
    unfold cancelled at h
    rw [hf] at h
    simp only [fd.at'] at h
    split at h
    · simp at h
    · rename_i h1
      split at h
      · simp at h
      · rename_i hq
        split at h
        · simp at h
        · rename_i hn
          refine ⟨s, i, r, by omega, fd, Classical.not_not.1 hq, Classical.not_not.1 hn, ?_⟩
          unfold cancelled
          rw [if_neg h1, hf]
          simp only [fd.at']
          rw [if_neg hq, if_neg hn]
theorem refused_rep {b b1 : Bk} {e2 : Ev} {id s : Int} {i : Nat} {r : Rs} (hb : b.ok) (fd : Found b id s i r) (hc : Came b1 e2 true) (hh : b1.high = b.high) (hfar : b1.side (far s) = b.side (far s)) (h1 : e2.side = s) (h2 : e2.typ = r.typ) :
    refusedR b ⟨3, e2.id, id, 0, 0, 0, e2.price, e2.qty, e2.peak⟩ = 0 := by
  have h0 := hb.high.1
  have hid := hc.high
  rw [hh] at hid
  have hck : checkR ⟨3, e2.id, id, 0, 0, 0, e2.price, e2.qty, e2.peak⟩ = 0 := by
    unfold checkR
    rw [if_neg (by simp), if_pos rfl]
    exact amounts_zero ⟨hc.price.1, hc.price.2.1, fun q => by omega⟩ ⟨hc.qty.1, hc.qty.2.1, hc.qty.2.2.1, fun q => ⟨.inl rfl, (hc.qty.2.2.2 q).2⟩⟩ (by show e2.id ≠ 0; omega)
  unfold refusedR
  rw [hck]
  simp only [fd.ref]
  rw [if_neg (by decide), if_neg (by simp), if_neg (by decide), if_neg (by omega), if_pos trivial, if_neg]
  rintro ⟨q1, q2⟩
  rw [meetsR_side fd.side] at q2
  have := hc.cross (h2.trans q1)
  rw [h1, hfar] at this
  rw [← h2] at q2
  cases hd : b.side (far s) with
  | nil => rw [hd] at q2; cases q2
  | cons p l =>
    rw [hd] at q2 this
    simp only at q2 this
    rw [q2] at this
    cases this
theorem only_step {b : Bk} {e : Ev} {L : List Ev} {y : Pk} (hx : Pk.ok ⟨b, none, none⟩) (hw : ∀ q ∈ e :: L, q.wf) (ht : takenP ⟨b, none, none⟩ (e :: L) = some y) (hy : y.isOpen = false) :
    (replayedR b e (L.headD zE)).2 = true ∧ ∃ M L' B, L = M ++ L' ∧ doR b (replayedR b e (L.headD zE)).1 = (B, e :: M) ∧ takenP ⟨b, none, none⟩ (e :: M) = some ⟨B, none, none⟩ ∧ takenP ⟨B, none, none⟩ L' = some y := by
  have hb : b.ok := hx.ok
  have hqt : Quiet b := ⟨hx.low, hx.vis rfl⟩
  have hwe := hw e (by simp)
  rw [takenP_cons] at ht
  split at ht
  rotate_left
  · cases ht
  rename_i h0
  obtain ⟨a1, a2, a3⟩ := add_zero h0
  have hT : ∀ M, takenP ⟨b, none, none⟩ (e :: M) = takenP ((⟨b, none, none⟩ : Pk).add e).2 M := fun M => by
    rw [takenP_cons]
    rw [if_pos h0]
  have hok1 : ((⟨b, none, none⟩ : Pk).add e).2.ok := add_ok hx hwe
  rw [a3] at ht hok1
  simp only [hT, a3]
  clear hT a3 h0
  have hst : (⟨b, none, none⟩ : Pk).step e = if e.kind = 2 then (rejected b e, ⟨b, none, none⟩) else if e.kind = 4 then cancelled ⟨b, none, none⟩ e else if e.kind = 1 then acked ⟨b, none, none⟩ e false else (191, ⟨b, none, none⟩) := rfl
  rw [hst] at a2 ht hok1 ⊢
  clear hst
  by_cases k2 : e.kind = 2
  · rw [if_pos k2] at a2 ht hok1 ⊢
    have hr : replayedR b e (L.headD zE) = (refusingR b e, true) := by
      unfold replayedR
      rw [if_neg (by omega), if_neg (by omega), if_pos k2]
    rw [hr]
    refine ⟨rfl, [], L, _, rfl, reject_do hb hwe k2 a1 a2, rfl, ht⟩
  rw [if_neg k2] at a2 ht hok1 ⊢
  by_cases k4 : e.kind = 4
  · rw [if_pos k4] at a2 ht hok1 ⊢
    obtain ⟨s, i, r, cc⟩ := cancelled_zero hb a2
    have fd := cc.fd
    simp only at fd
    rw [cc.res] at ht hok1 ⊢
    simp only at ht hok1 ⊢
    have hev : ∀ why, why = e.reason → ({ evCancel r.id (r.vis + r.hid) why with seq := wrapU (b.seq + 1) } : Ev) = e := fun why hwhy => by
      simp only at a1
      rw [← a1]
      conv => rhs; rw [cc.form]
      unfold evCancel evCan
      simp only
      rw [k4, fd.eq, cc.qty, hwhy]
    have hbook : ({ b with seq := wrapU (b.seq + 1) } : Bk).set s (without (sideR b s) r.id) = { b.set s ((b.side s).eraseIdx i) with seq := e.seq } := by
      simp only at a1
      rw [sideR_eq fd.side, fd.eq, fd.out, set_seq, ← a1]
    by_cases w1 : e.reason = 1
    · have hr : replayedR b e (L.headD zE) = (⟨2, 0, e.id, 0, 0, 0, 0, 0, 0⟩, true) := by
        unfold replayedR
        rw [if_neg (by omega), if_pos k4, if_pos w1]
      rw [hr]
      rw [if_neg (by omega)] at ht ⊢
      have href : refusedR b ⟨2, 0, e.id, 0, 0, 0, 0, 0, 0⟩ = 0 := by
        unfold refusedR
        simp only [fd.ref]
        rw [if_neg (by decide), if_neg (by simp), if_pos (.inr trivial)]
        rfl
      refine ⟨rfl, [], L, _, rfl, ?_, rfl, ht⟩
      unfold doR
      rw [href, if_neg (by simp), if_neg (by simp)]
      simp only [fd.ref]
      rw [if_pos trivial, if_neg (by decide)]
      unfold tell
      simp only [List.nil_append]
      rw [hbook, hev 1 w1.symm]
    · have w2 : e.reason = 2 := cc.why.resolve_left w1
      have hw2 : (e.reason == 2) = true := by simp [w2]
      rw [if_pos w2] at ht hok1 ⊢
      cases L with
      | nil =>
        injection ht with ht
        subst ht
        simp [Pk.isOpen] at hy
      | cons e2 L =>
        have hr : replayedR b e ((e2 :: L).headD zE) = (⟨3, e2.id, e.id, 0, 0, 0, e2.price, e2.qty, e2.peak⟩, true) := by
          unfold replayedR
          rw [if_neg (by omega), if_pos k4, if_neg w1, hw2]
          rfl
        rw [hr]
        have hwe2 := hw e2 (by simp)
        rw [takenP_cons] at ht
        split at ht
        rotate_left
        · cases ht
        rename_i h0
        obtain ⟨c1, c2, c3⟩ := add_zero h0
        have hT : ∀ M, takenP ({ b := { b.set s ((b.side s).eraseIdx i) with seq := e.seq }, now := none, ins := some (r.mem, s, r.typ) } : Pk) (e2 :: M) = takenP (({ b := { b.set s ((b.side s).eraseIdx i) with seq := e.seq }, now := none, ins := some (r.mem, s, r.typ) } : Pk).add e2).2 M := fun M => by
          rw [takenP_cons]
          rw [if_pos h0]
        rw [c3] at ht
        simp only at c1
        have hst : ({ b := { b.set s ((b.side s).eraseIdx i) with seq := e.seq }, now := none, ins := some (r.mem, s, r.typ) } : Pk).step e2 = if e2.kind ≠ 1 ∨ e2.mem ≠ r.mem ∨ e2.side ≠ s ∨ e2.typ ≠ r.typ then (191, { b := { b.set s ((b.side s).eraseIdx i) with seq := e.seq }, now := none, ins := some (r.mem, s, r.typ) }) else acked { b := { b.set s ((b.side s).eraseIdx i) with seq := e.seq }, now := none, ins := some (r.mem, s, r.typ) } e2 true := rfl
        rw [hst] at c2 c3 ht
        split at c2
        · simp at c2
        rename_i hn
        rw [if_neg hn] at c3 ht
        obtain ⟨d1, d2⟩ := acked_zero c2
        rw [d2] at c3 ht
        simp only at d1 ht c3
        obtain ⟨_, hroom⟩ := hok1.ins _ rfl
        obtain ⟨L', M, B, m1, m2, m3, m4⟩ := ack_taken (i := true) hok1.ok ⟨hok1.low, hok1.vis rfl⟩ (fun _ => hroom) hwe2 (by omega) c1 d1 ht hy [e]
        refine ⟨rfl, e2 :: M, L', B, by rw [m1]; rfl, ?_, ?_, m4⟩
        · have hfar : (b.set s ((b.side s).eraseIdx i)).side (far s) = b.side (far s) := Bk.side_other (by
            rcases fd.side with q | q
            · exact .inl ⟨q, by unfold far; omega⟩
            · exact .inr ⟨q, by unfold far; omega⟩)
          have href := refused_rep (b1 := { b.set s ((b.side s).eraseIdx i) with seq := e.seq }) (e2 := e2) hb fd (came d1) (b.set_fields s _).2.2.1 hfar (by omega) (by omega)
          unfold doR
          rw [href, if_neg (by simp), if_neg (by simp)]
          simp only [fd.ref]
          rw [if_neg (by decide), if_pos trivial]
          have hco : coOf e2 = ⟨e2.id, e2.qty, e2.peak, r.mem, s, r.typ, e2.price⟩ := by
            unfold coOf
            have q1 : e2.mem = r.mem := by omega
            have q2 : e2.side = s := by omega
            have q3 : e2.typ = r.typ := by omega
            rw [q1, q2, q3]
          rw [← hco]
          unfold tell
          simp only [List.nil_append]
          rw [hbook, hev 2 w2.symm, m2]
          rfl
        · rw [hT, c3]
          exact m3
  rw [if_neg k4] at a2 ht hok1 ⊢
  by_cases k1 : e.kind = 1
  · rw [if_pos k1] at a2 ht hok1 ⊢
    obtain ⟨d1, d2⟩ := acked_zero a2
    rw [d2] at ht ⊢
    simp only at d1 ht ⊢
    have hr : replayedR b e (L.headD zE) = (⟨1, e.id, 0, e.mem, e.side, e.typ, e.price, e.qty, e.peak⟩, true) := by
      unfold replayedR
      rw [if_pos k1]
    rw [hr]
    obtain ⟨L', M, B, m1, m2, m3, m4⟩ := ack_taken (i := false) hb hqt (fun q => by cases q) hwe k1 a1 d1 ht hy []
    refine ⟨rfl, M, L', B, m1, ?_, m3, m4⟩
    unfold doR
    rw [refused_new hb (came d1), if_neg (by simp), if_pos rfl]
    exact m2
  · rw [if_neg k1] at a2
    simp at a2
/-! ### Check -/
def checkGo (x : Pk) (k : Nat) : List Ev → Nat × Int
  | [] => (k, if x.isOpen = true then 196 else 0)
  | e :: l => if (x.add e).1 = 0 then checkGo (x.add e).2 (k + 1) l else (k, (x.add e).1)
theorem step_code (x : Pk) (e : Ev) : (x.step e).1 = 0 ∨ (190 ≤ (x.step e).1 ∧ (x.step e).1 ≤ 195) := by
  have ha : ∀ i, (acked x e i).1 = 0 ∨ (190 ≤ (acked x e i).1 ∧ (acked x e i).1 ≤ 195) := fun i => by
    unfold acked
    split
    · exact .inr ⟨by simp, by simp⟩
    · exact .inl rfl
  unfold Pk.step
  split
  · split
    · exact .inr ⟨by simp, by simp⟩
    · exact ha true
  · split
    · simp only
      unfold next
      simp only
      repeat' split
      all_goals first | exact .inl rfl | exact .inr ⟨by simp, by simp⟩
    · split
      · unfold rejected
        simp only
        split
        · exact .inr ⟨by simp, by simp⟩
        · have key : ∀ q : Bool, (if q = true then (0 : Int) else 195) = 0 ∨ (190 ≤ (if q = true then (0 : Int) else 195) ∧ (if q = true then (0 : Int) else 195) ≤ 195) := by intro q; cases q <;> simp
          exact key _
      · split
        · unfold cancelled
          repeat' split
          all_goals first | exact .inl rfl | exact .inr ⟨by simp, by simp⟩
        · split
          · exact ha false
          · exact .inr ⟨by simp, by simp⟩
theorem add_code (x : Pk) (e : Ev) : (x.add e).1 = 0 ∨ (190 ≤ (x.add e).1 ∧ (x.add e).1 ≤ 195) := by
  unfold Pk.add
  split
  · exact .inr ⟨by simp, by simp⟩
  · simp only
    split
    · exact .inl rfl
    · exact step_code x e
theorem checkGo_code : ∀ (l : List Ev) (x : Pk) (k : Nat), (checkGo x k l).2 = 0 ∨ (190 ≤ (checkGo x k l).2 ∧ (checkGo x k l).2 ≤ 196)
  | [], x, k => by
    unfold checkGo
    simp only
    split
    · exact .inr ⟨by simp, by simp⟩
    · exact .inl rfl
  | e :: l, x, k => by
    unfold checkGo
    split
    · exact checkGo_code l _ _
    · rcases add_code x e with h | ⟨h1, h2⟩
      · exact .inl h
      · exact .inr ⟨h1, by simp only; omega⟩
theorem checkGo_le : ∀ (l : List Ev) (x : Pk) (k : Nat), (checkGo x k l).1 ≤ k + l.length
  | [], x, k => by unfold checkGo; simp
  | e :: l, x, k => by
    unfold checkGo
    split
    · have := checkGo_le l (x.add e).2 (k + 1)
      simp only [List.length_cons]
      omega
    · simp
theorem checkGo_zero : ∀ (l : List Ev) (x : Pk) (k : Nat), (checkGo x k l).2 = 0 → (checkGo x k l).1 = k + l.length ∧ ∃ y, takenP x l = some y ∧ y.isOpen = false
  | [], x, k, h => by
    unfold checkGo at h ⊢
    simp only at h ⊢
    split at h
    · simp at h
    · rename_i ho
      exact ⟨by simp, x, rfl, by cases q : x.isOpen <;> simp_all⟩
  | e :: l, x, k, h => by
    unfold checkGo at h ⊢
    rw [takenP_cons]
    split at h
    · rename_i h0
      rw [if_pos h0, if_pos h0]
      obtain ⟨h1, h2⟩ := checkGo_zero l _ _ h
      exact ⟨by rw [h1]; simp only [List.length_cons]; omega, h2⟩
    · rename_i h0
      exact absurd h h0
end Ck
end Go.Proofs.Ytcnkbhgdcfckoaa
namespace Go.Proofs.Ytcnkbhgdcfckoaa
namespace Ck
theorem wr_range (n : Int) : 0 ≤ wrapU n ∧ wrapU n < 18446744073709551616 := by unfold wrapU; omega
structure Iv (K NB NS : Nat) (t : Td) (o : Co) : Prop where
  ok : OkB t.1
  seq : 0 ≤ t.1.seq ∧ t.1.seq < 18446744073709551616
  meet : t.1.meet = 0 ∨ t.1.meet = 1 ∨ t.1.meet = 2 ∨ t.1.meet = 3
  nb : t.1.buys.length ≤ NB
  ns : t.1.sells.length ≤ NS
  side : o.side = 1 ∨ o.side = 2
  left : 0 ≤ o.left ∧ o.left ≤ 4294967295
  pot : t.2.length + 2 * (o.left.toNat + (sideR t.1 (3 - o.side)).length) ≤ K
theorem Iv.len {K NB NS : Nat} {t : Td} {o : Co} (h : Iv K NB NS t o) : t.2.length ≤ K := by have := h.pot; omega
theorem enq_len (s : Int) (o : Rs) : ∀ l : List Rs, (enq s o l).length = l.length + 1
  | [] => rfl
  | p :: l => by
    unfold enq
    split
    · simp
    · simp [enq_len s o l]
theorem without_len_head (m : Rs) (r : List Rs) : (without (m :: r) m.id).length ≤ r.length := by
  unfold without
  rw [List.filter_cons, if_neg (by simp)]
  exact List.length_filter_le _ _
theorem set_len {b : Bk} {s : Int} {l : List Rs} {NB NS : Nat} (hs : s = 1 ∨ s = 2) (h1 : b.buys.length ≤ NB) (h2 : b.sells.length ≤ NS) (hl : l.length ≤ (sideR b s).length) : (b.set s l).buys.length ≤ NB ∧ (b.set s l).sells.length ≤ NS := by
  rcases hs with rfl | rfl
  · exact ⟨Nat.le_trans hl h1, h2⟩
  · exact ⟨h1, Nat.le_trans hl h2⟩
theorem set_seq' (b : Bk) (s : Int) (l : List Rs) : (b.set s l).seq = b.seq := by unfold Bk.set; split <;> rfl
theorem set_meet' (b : Bk) (s : Int) (l : List Rs) : (b.set s l).meet = b.meet := by unfold Bk.set; split <;> rfl
theorem Iv.step {K NB NS : Nat} {t : Td} {o : Co} (h : Iv K NB NS t o) (hl : 0 < o.left) (hne : meetsR t.1 o = true) : Iv K NB NS (stepR t o).1 (stepR t o).2 := by
  obtain ⟨k1, k2, k3⟩ := stepR_ok h.ok hl h.left.2
  have hf : (3 - o.side) = 1 ∨ (3 - o.side) = 2 := by have := h.side; omega
  have hm := stepR_meet t o
  have hsd := stepR_side t o
  have key : (0 ≤ (stepR t o).1.1.seq ∧ (stepR t o).1.1.seq < 18446744073709551616) ∧ ((stepR t o).1.1.buys.length ≤ NB ∧ (stepR t o).1.1.sells.length ≤ NS) ∧
      (stepR t o).1.2.length + 2 * ((stepR t o).2.left.toNat + (sideR (stepR t o).1.1 (3 - o.side)).length) ≤ K := by
    have hp := h.pot
    unfold stepR
    cases hd : sideR t.1 (3 - o.side) with
    | nil => unfold meetsR at hne; rw [hd] at hne; cases hne
    | cons m r =>
      have hl1 := h.ok.side (3 - o.side)
      rw [hd] at hl1 hp
      have hm1 := hl1 m (by simp)
      have v1 := hm1.vis
      have hw := without_len_head m r
      have hlen : (sideR t.1 (3 - o.side)).length = r.length + 1 := by rw [hd]; rfl
      simp only [List.length_cons] at hp
      simp only
      split
      · rename_i hown
        have h0 : t.1.meet ≠ 0 := by unfold ownR at hown; simp at hown; exact hown.2
        have hwl : ∀ (b : Bk), b.buys = t.1.buys → b.sells = t.1.sells → (b.set (3 - o.side) (without (m :: r) m.id)).buys.length ≤ NB ∧ (b.set (3 - o.side) (without (m :: r) m.id)).sells.length ≤ NS := fun b e1 e2 =>
          set_len hf (by rw [e1]; exact h.nb) (by rw [e2]; exact h.ns) (by
            have : sideR b (3 - o.side) = sideR t.1 (3 - o.side) := by unfold sideR; rw [e1, e2]
            rw [this, hlen]; omega)
        unfold stepOwn
        simp only
        rcases h.meet with hk | hk | hk | hk
        · exact absurd hk h0
        · rw [if_pos (.inl hk), if_neg (by omega)]
          refine ⟨wr_range _, ⟨h.nb, h.ns⟩, ?_⟩
          show (t.2 ++ _).length + 2 * ((0 : Int).toNat + (sideR t.1 (3 - o.side)).length) ≤ K
          rw [hlen, List.length_append]
          simp
          omega
        · rw [if_neg (by omega), if_pos (.inl hk)]
          refine ⟨by rw [set_seq']; exact wr_range _, hwl _ rfl rfl, ?_⟩
          rw [sideR_set hf]
          show (t.2 ++ _).length + 2 * (o.left.toNat + _) ≤ K
          rw [List.length_append]
          simp
          omega
        · rw [if_pos (.inr hk), if_pos (.inr hk)]
          refine ⟨wr_range _, hwl _ rfl rfl, ?_⟩
          rw [sideR_tell, sideR_set hf]
          show ((t.2 ++ _) ++ _).length + 2 * ((0 : Int).toNat + _) ≤ K
          rw [List.length_append, List.length_append]
          simp
          omega
      · have hq3 : 0 < (if m.vis < o.left then m.vis else o.left) := by split <;> omega
        have hq4 : (if m.vis < o.left then m.vis else o.left) ≤ o.left := by split <;> omega
        unfold stepTrade
        simp only
        generalize (if m.vis < o.left then m.vis else o.left) = q at *
        have hq5 : (o.left - q).toNat + 1 ≤ o.left.toNat := by omega
        split
        · refine ⟨by rw [set_seq']; exact wr_range _, set_len hf h.nb h.ns (by show _ ≤ (sideR t.1 (3 - o.side)).length; rw [hlen]; simp only [List.length_cons]; omega), ?_⟩
          rw [sideR_set hf]
          show (t.2 ++ _).length + 2 * ((o.left - q).toNat + _) ≤ K
          rw [List.length_append]
          simp only [List.length_cons, List.length_nil]
          omega
        · split
          · refine ⟨by rw [set_seq']; exact wr_range _, set_len hf h.nb h.ns (by show _ ≤ (sideR t.1 (3 - o.side)).length; rw [hlen, enq_len]; omega), ?_⟩
            rw [sideR_set hf, enq_len]
            show ((t.2 ++ _) ++ _).length + 2 * ((o.left - q).toNat + _) ≤ K
            rw [List.length_append, List.length_append]
            simp only [List.length_cons, List.length_nil]
            omega
          · refine ⟨by rw [set_seq']; exact wr_range _, set_len hf h.nb h.ns (by show _ ≤ (sideR t.1 (3 - o.side)).length; rw [hlen]; omega), ?_⟩
            rw [sideR_set hf]
            show (t.2 ++ _).length + 2 * ((o.left - q).toNat + _) ≤ K
            rw [List.length_append]
            simp only [List.length_cons, List.length_nil]
            omega
  exact ⟨k1, key.1, by rw [hm]; exact h.meet, key.2.1.1, key.2.1.2, by rw [hsd]; exact h.side, ⟨k2, k3⟩, by rw [hsd]; exact key.2.2⟩
theorem Iv.todo {K NB NS : Nat} {t : Td} {o : Co} (h : Iv K NB NS t o) (hl : 0 < o.left) (hne : meetsR t.1 o = true) {n : Nat} (hn : todoR t.1 o ≤ n + 1 ∨ o.left = 0) : todoR (stepR t o).1.1 (stepR t o).2 ≤ n ∨ (stepR t o).2.left = 0 := by
  rcases stepR_todo h.ok h.side hl h.meet hne with q | q
  · rcases hn with hn | hn
    · exact .inl (by omega)
    · omega
  · exact .inr q
theorem trades_iv {K NB NS : Nat} : ∀ (n : Nat) {t : Td} {o : Co}, Iv K NB NS t o → Iv K NB NS (tradesR n t o).1 (tradesR n t o).2
  | 0, _, _, h => h
  | n + 1, t, o, h => by
    unfold tradesR
    split
    · rename_i hg
      exact trades_iv n (h.step hg.1 hg.2)
    · exact h
end Ck
end Go.Proofs.Ytcnkbhgdcfckoaa
namespace Go.Proofs.Ytcnkbhgdcfckoaa
namespace Ck
theorem sumT_nil : sumTrades [] = 0 := rfl
theorem sumT_append (l m : List Ev) : sumTrades (l ++ m) = sumTrades l + sumTrades m := by simp [sumTrades]
theorem sumT_one (e : Ev) : sumTrades [e] = if e.kind = 3 then e.qty else 0 := by simp [sumTrades]
def Pos (l : List Ev) : Prop := ∀ e ∈ l, e.kind = 3 → 0 ≤ e.qty
theorem Pos.append {l m : List Ev} (h : Pos l) (k : Pos m) : Pos (l ++ m) := fun e he => by
  rcases List.mem_append.1 he with q | q
  · exact h e q
  · exact k e q
theorem pos_one {e : Ev} (h : e.kind = 3 → 0 ≤ e.qty) : Pos [e] := fun x hx => by
  simp only [List.mem_cons, List.not_mem_nil, or_false] at hx
  subst hx
  exact h
theorem Pos.sum {l : List Ev} (h : Pos l) : 0 ≤ sumTrades l := by
  induction l with
  | nil => simp [sumTrades]
  | cons e l ih =>
    have h1 := ih (fun x hx => h x (by simp [hx]))
    have h2 := h e (by simp)
    have : sumTrades (e :: l) = (if e.kind = 3 then e.qty else 0) + sumTrades l := by simp [sumTrades]
    rw [this]
    split
    · have := h2 ‹_›; omega
    · omega
theorem Pos.take {l : List Ev} (h : Pos l) (k : Nat) : 0 ≤ sumTrades (l.take k) ∧ sumTrades (l.take k) ≤ sumTrades l := by
  have h1 : Pos (l.take k) := fun e he => h e (List.mem_of_mem_take he)
  have h2 : Pos (l.drop k) := fun e he => h e (List.mem_of_mem_drop he)
  have h3 := h1.sum
  have h4 := h2.sum
  have h5 : sumTrades l = sumTrades (l.take k) + sumTrades (l.drop k) := by rw [← sumT_append, List.take_append_drop]
  omega
theorem step_sum {t : Td} {o : Co} (h : OkB t.1) (hl : 0 < o.left) (hp : Pos t.2) : Pos (stepR t o).1.2 ∧ sumTrades (stepR t o).1.2 + (stepR t o).2.left ≤ sumTrades t.2 + o.left := by
  unfold stepR
  cases hd : sideR t.1 (3 - o.side) with
  | nil => exact ⟨hp, Int.le_refl _⟩
  | cons m r =>
    have hl1 := h.side (3 - o.side)
    rw [hd] at hl1
    have hm := (hl1 m (by simp)).vis
    simp only
    split
    · unfold stepOwn
      simp only
      by_cases h1 : t.1.meet = 2 ∨ t.1.meet = 3
      · rw [if_pos h1]
        by_cases h2 : t.1.meet = 1 ∨ t.1.meet = 3
        · rw [if_pos h2]
          refine ⟨(hp.append (pos_one (fun q => absurd q (by show (4 : Int) ≠ 3; decide)))).append (pos_one (fun q => absurd q (by show (4 : Int) ≠ 3; decide))), ?_⟩
          show sumTrades ((t.2 ++ _) ++ _) + 0 ≤ _
          rw [sumT_append, sumT_append, sumT_one, sumT_one, if_neg (by show ¬ ((4 : Int) = 3); decide), if_neg (by show ¬ ((4 : Int) = 3); decide)]
          omega
        · rw [if_neg h2]
          refine ⟨hp.append (pos_one (fun q => absurd q (by show (4 : Int) ≠ 3; decide))), ?_⟩
          show sumTrades (t.2 ++ _) + o.left ≤ _
          rw [sumT_append, sumT_one, if_neg (by show ¬ ((4 : Int) = 3); decide)]
          omega
      · rw [if_neg h1]
        by_cases h2 : t.1.meet = 1 ∨ t.1.meet = 3
        · rw [if_pos h2]
          refine ⟨hp.append (pos_one (fun q => absurd q (by show (4 : Int) ≠ 3; decide))), ?_⟩
          show sumTrades (t.2 ++ _) + 0 ≤ _
          rw [sumT_append, sumT_one, if_neg (by show ¬ ((4 : Int) = 3); decide)]
          omega
        · rw [if_neg h2]
          exact ⟨hp, Int.le_refl _⟩
    · have hq : 0 ≤ (if m.vis < o.left then m.vis else o.left) := by split <;> omega
      unfold stepTrade
      simp only
      generalize (if m.vis < o.left then m.vis else o.left) = q at *
      have h1 : Pos (t.2 ++ [{ evTrade o m q with seq := wrapU (t.1.seq + 1) }]) := hp.append (pos_one (fun _ => hq))
      have h2 : sumTrades (t.2 ++ [{ evTrade o m q with seq := wrapU (t.1.seq + 1) }]) = sumTrades t.2 + q := by
        rw [sumT_append, sumT_one, if_pos (by rfl)]; rfl
      split
      · refine ⟨h1, ?_⟩
        show sumTrades (t.2 ++ _) + (o.left - q) ≤ _
        rw [h2]; omega
      · split
        · refine ⟨h1.append (pos_one (fun q => absurd q (by show (5 : Int) ≠ 3; decide))), ?_⟩
          show sumTrades ((t.2 ++ _) ++ _) + (o.left - q) ≤ _
          rw [sumT_append, h2, sumT_one, if_neg (by show ¬ ((5 : Int) = 3); decide)]; omega
        · refine ⟨h1, ?_⟩
          show sumTrades (t.2 ++ _) + (o.left - q) ≤ _
          rw [h2]; omega
theorem trades_sum {K NB NS : Nat} : ∀ (n : Nat) {t : Td} {o : Co}, Iv K NB NS t o → Pos t.2 → Pos (tradesR n t o).1.2 ∧ sumTrades (tradesR n t o).1.2 + (tradesR n t o).2.left ≤ sumTrades t.2 + o.left
  | 0, _, _, _, hp => ⟨hp, Int.le_refl _⟩
  | n + 1, t, o, h, hp => by
    unfold tradesR
    split
    · rename_i hg
      obtain ⟨h1, h2⟩ := step_sum h.ok hg.1 hp
      obtain ⟨h3, h4⟩ := trades_sum n (h.step hg.1 hg.2) h1
      exact ⟨h3, by omega⟩
    · exact ⟨hp, Int.le_refl _⟩
theorem trades_same : ∀ (n : Nat) (t : Td) (o : Co), (tradesR n t o).2.id = o.id ∧ (tradesR n t o).2.peak = o.peak ∧ (tradesR n t o).2.mem = o.mem ∧ (tradesR n t o).2.side = o.side ∧ (tradesR n t o).2.kind = o.kind ∧ (tradesR n t o).2.price = o.price
  | 0, _, _ => ⟨rfl, rfl, rfl, rfl, rfl, rfl⟩
  | n + 1, t, o => by
    unfold tradesR
    split
    · obtain ⟨h1, h2, h3, h4, h5, h6⟩ := trades_same n (stepR t o).1 (stepR t o).2
      have hs : (stepR t o).2.id = o.id ∧ (stepR t o).2.peak = o.peak ∧ (stepR t o).2.mem = o.mem ∧ (stepR t o).2.side = o.side ∧ (stepR t o).2.kind = o.kind ∧ (stepR t o).2.price = o.price := by
        unfold stepR
        split
        · exact ⟨rfl, rfl, rfl, rfl, rfl, rfl⟩
        · split
          · unfold stepOwn
            simp only
            split <;> exact ⟨rfl, rfl, rfl, rfl, rfl, rfl⟩
          · unfold stepTrade
            simp only
            generalize (if _ < o.left then _ else o.left) = q
            split
            · exact ⟨rfl, rfl, rfl, rfl, rfl, rfl⟩
            · split <;> exact ⟨rfl, rfl, rfl, rfl, rfl, rfl⟩
      exact ⟨h1.trans hs.1, h2.trans hs.2.1, h3.trans hs.2.2.1, h4.trans hs.2.2.2.1, h5.trans hs.2.2.2.2.1, h6.trans hs.2.2.2.2.2⟩
    · exact ⟨rfl, rfl, rfl, rfl, rfl, rfl⟩
end Ck
end Go.Proofs.Ytcnkbhgdcfckoaa

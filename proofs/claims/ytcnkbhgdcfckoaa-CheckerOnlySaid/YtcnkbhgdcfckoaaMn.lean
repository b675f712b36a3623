/- The walk of next. -/
import Derived.Test.YtcnkbhgdcfckoaaMl
import Derived.Test.YtcnkbhgdcfckoaaMw
set_option linter.unusedVariables false
set_option linter.unusedSimpArgs false
namespace Go.Proofs.Ytcnkbhgdcfckoaa
open Go.RowKit
namespace Ck
/-- What stands in the cell of the order that comes. -/
def NowIs (w : World) (now : Option Cg) (p6 : Value) : Prop := (now = none ∧ p6 = .pointer none) ∨ ∃ c G, now = some c ∧ p6 = .pointer (some ⟨G, 0, none⟩) ∧ CgAt w G c
/-- What stands in the cell behind, with the order at G. -/
def NowAfter (w : World) (G : Nat) (now : Option Cg) (p6 : Value) : Prop := (now = none ∧ p6 = .pointer none) ∨ ∃ c, now = some c ∧ p6 = .pointer (some ⟨G, 0, none⟩) ∧ CgAt w G c
theorem due_any {wh : Bool} {b : Bk} {c : Cg} {m : Ev} (hb : b.ok) (hc : Cg.ok b c) (h : must wh b c = some m) : Due b c m := by
  cases must_form hc.left.1 h with
  | fresh r l he hd hm =>
    subst hm
    have h1 := hb.side _ r (by rw [hd]; simp)
    have h2 := h1.hid
    have h3 := h1.peak.1
    exact .fresh r l rfl hd rfl ⟨by simp [evFresh]; omega, by simp [evFresh]; omega⟩
  | own q why he hm => subst hm; exact .own (by simp [evCancel]) (by simp [evCancel]) rfl
  | away r l q why he hl hd hm =>
    subst hm
    exact .away (by simp [evCancel]) (by simp [evCancel]) (kept_away hb hc he hd q why).1 (by rw [hd]; simp)
  | trade r l he hl hd hm =>
    subst hm
    have h1 := hb.side _ r (by rw [hd]; simp)
    have h2 := h1.vis
    exact .trade r l rfl hd ⟨by simp; omega, by simp; omega, by simp; omega⟩
theorem due_seq {b : Bk} {c : Cg} {m : Ev} (h : Due b c m) (s : Int) : Due b c { m with seq := s } := by
  cases h with
  | fresh r l hk hd hid hq => exact .fresh r l hk hd hid hq
  | trade r l hk hd hq => exact .trade r l hk hd hq
  | own h5 h3 hid => exact .own h5 h3 hid
  | away h5 h3 hid hn => exact .away h5 h3 hid hn
set_option maxHeartbeats 3200000 in
set_option maxRecDepth 100000 in
theorem next_any (C G : Nat) (b : Bk) (c : Cg) (m : Ev) (v1 v2 p7 : Value) (e : Ev) (w : World) (h : BkRep w C b v1 v2 (.pointer (some ⟨G, 0, none⟩)) p7) (hg : CgAt w G c) (hb : b.ok) (hc : Cg.ok b c) (hf : c.traded = false → c.empty = 0 ∧ c.met = false) (hm : musts b c = some m) :
    Calls Try.prog 32 #[.pointer (some ⟨C, 0, none⟩), .agg e.row] w fun r w' => r = .returned (.int .i64 (next b c e).1) ∧ ∃ v1' v2' p6', BkRep w' C (next b c e).2.1 v1' v2' p6' p7 ∧
      (((next b c e).2.2 = some c ∧ p6' = .pointer (some ⟨G, 0, none⟩) ∧ CgAt w' G c) ∨ NowAfter w' G (next b c e).2.2 p6') ∧ Fresh w C v1 v2 v1' v2' ∧ Only (Ours C G v1 v2) w w' := by
  have HMt := Lib.hid (fun W (ho : Only Nil w W) => must_top C G b c v1 v2 _ p7 W (h.nil ho) (hg.nil ho) hb hc hf)
  rw [hm] at HMt
  have hmw : must (whole b c) b c = some m := hm
  have Hdue : Hid (Due b c { m with seq := e.seq }) := Lib.hid (due_seq (due_any hb hc hmw) e.seq)
  have Hkp : Hid (Kept b c (takes b c m)) := Lib.hid (must_kept hb hc hmw)
  have Htr := Lib.hid (takes_id b c m)
  have HTk := Lib.hid (fun W (hX : BkRep W C b v1 v2 (.pointer (some ⟨G, 0, none⟩)) p7) (hY : CgAt W G c) => takes_any C G b c v1 v2 _ p7 { m with seq := e.seq } W hX hY hb hc Hdue.out)
  have HX0 := Lib.hid h
  have HG0 := Lib.hid hg
  have HE0 := Lib.hid (blk_new w (.cells e.row tEvt))
  have HO0 := Lib.hid ((Only.refl Nil w).alloc (.cells e.row tEvt))
  have HN : Hid (next b c e = (if e.kind ≠ m.kind then (191, b, some c) else if e.id ≠ m.id ∨ e.other ≠ m.other then (192, b, some c) else if e.price ≠ m.price then (194, b, some c) else if e.qty ≠ m.qty then (193, b, some c) else if e.reason ≠ m.reason then (195, b, some c) else if e ≠ { m with seq := e.seq } then (191, b, some c) else
    (0, (settles (takes b c m).1 (takes b c m).2).1, (settles (takes b c m).1 (takes b c m).2).2))) := Lib.hid (by unfold next; rw [hm]; rfl)
  clear h hg hb hc hf hm hmw
  go_enter Try.func32, Try.ntmps32
  unfold Ev.row
  go_upto_region 1 with fail
  generalize hW : World.alloc w _ = W1
  have hW' : w.alloc (.cells e.row tEvt) = W1 := hW
  rw [hW'] at HE0 HO0
  clear hW hW'
  have hX := HX0.out.nil HO0.out
  have c6 := blk_cell hX.blk 6
  have cl := blk_lt hX.blk
  simp only [List.getElem?_toArray, List.getElem?_cons_zero, List.getElem?_cons_succ] at c6
  clear hX
  go_wp2_with fail
  refine (HMt.out W1 HO0.out).mono ?_
  rintro x wm ⟨rfl, ho⟩
  have HO1 : Hid (Only Nil w wm) := Lib.hid (HO0.out.trans (S := Nil) ho (fun _ _ h => h))
  have HE1 : Hid (wm.heap[w.heap.size]? = some (.cells e.row tEvt (0, 0))) := Lib.hid (ho.blk HE0.out (fun h => h))
  clear ho HO0 HE0 c6 cl
  unfold mustV
  simp only
  go_upto_region 2 with (refine wpList_store_row rfl tEvt (.tmp 5) (.tmp 14) rfl _ rfl m.row zE.row rfl _ (blk_new wm (.cells zE.row tEvt)) infoEvt rfl (one_ev _) ?_)
  generalize hW : World.setRow (World.alloc wm _) _ _ = W2
  have hW' : wm.alloc (.cells m.row tEvt) = W2 := by rw [← hW]; exact (setRow_alloc _ _ _ _).symm
  have ho2 : Only Nil wm W2 := by rw [← hW']; exact (Only.refl _ _).alloc _
  have HM2 : Hid (W2.heap[wm.heap.size]? = some (.cells m.row tEvt (0, 0))) := Lib.hid (by rw [← hW']; exact blk_new _ _)
  have HE2 : Hid (W2.heap[w.heap.size]? = some (.cells e.row tEvt (0, 0))) := Lib.hid (ho2.blk HE1.out (fun h => h))
  have HO2 : Hid (Only Nil w W2) := Lib.hid (HO1.out.trans (S := Nil) ho2 (fun _ _ h => h))
  have hEM : w.heap.size < wm.heap.size := blk_lt HE1.out
  clear hW hW' ho2 HO1 HE1
  generalize wm.heap.size = M at *
  have hne1 : w.heap.size ≠ M := by omega
  have hne2 : M ≠ w.heap.size := by omega
  obtain ⟨e0, e1, e2, e3, e4, e5, e6, e7, e8, e9, e10, e11, e12, ef, el⟩ := ev_cells HE2.out
  obtain ⟨m0, m1, m2, m3, m4, m5, m6, m7, m8, m9, m10, m11, m12, mf, ml⟩ := ev_cells HM2.out
  go_upto_region 3 with fail
  generalize hW : World.setCell W2 _ _ = W3
  have hW' : W2.setCell ⟨M, 0, none⟩ (.int .u64 e.seq) = W3 := hW
  have HM3 : Hid (W3.heap[M]? = some (.cells (Ev.row { m with seq := e.seq }) tEvt (0, 0))) := Lib.hid (by rw [← hW']; exact blk_set HM2.out 0 (.int .u64 e.seq))
  have HE3 : Hid (W3.heap[w.heap.size]? = some (.cells e.row tEvt (0, 0))) := Lib.hid (by rw [← hW']; exact blk_far HE2.out hne1 _)
  have HO3 : Hid (Only Nil w W3) := Lib.hid (by
    rw [← hW']
    have : Only (fun k => k = M) w (W2.setCell ⟨M, 0, none⟩ (.int .u64 e.seq)) := (HO2.out.mono (T := fun k => k = M) (fun _ _ h => h.elim)).setCell (p := ⟨M, 0, none⟩) (.inl rfl) _
    exact this.mono (fun k hk q => by omega))
  clear hW hW' HM2 HE2 HO2 e0 e1 e2 e3 e4 e5 e6 e7 e8 e9 e10 e11 e12 ef el m0 m1 m2 m3 m4 m5 m6 m7 m8 m9 m10 m11 m12 mf ml
  have HX3 := Lib.hid (HX0.out.nil HO3.out)
  have HG3 := Lib.hid (HG0.out.nil HO3.out)
  clear HX0 HG0
  obtain ⟨e0, e1, e2, e3, e4, e5, e6, e7, e8, e9, e10, e11, e12, ef, el⟩ := ev_cells HE3.out
  obtain ⟨m0, m1, m2, m3, m4, m5, m6, m7, m8, m9, m10, m11, m12, mf, ml⟩ := ev_cells HM3.out
  simp only at m0 m1 m2 m3 m4 m5 m6 m7 m8 m9 m10 m11 m12
  have refuse : ∀ code, next b c e = (code, b, some c) → Hid ((.int .i64 code : Value) = .int .i64 (next b c e).1 ∧ ∃ v1' v2' p6', BkRep W3 C (next b c e).2.1 v1' v2' p6' p7 ∧ (((next b c e).2.2 = some c ∧ p6' = .pointer (some ⟨G, 0, none⟩) ∧ CgAt W3 G c) ∨ NowAfter W3 G (next b c e).2.2 p6') ∧ Fresh w C v1 v2 v1' v2' ∧ Only (Ours C G v1 v2) w W3) := fun code hn => Lib.hid (by
    rw [hn]
    exact ⟨rfl, v1, v2, _, HX3.out, .inl ⟨rfl, rfl, HG3.out⟩, fun k hk => .inl hk, HO3.out.mono (fun _ _ h => h.elim)⟩)
  have HRf := Lib.hid refuse
  clear refuse
  by_cases hq1 : e.kind ≠ m.kind
  · have HN1 := HN.out
    rw [if_pos hq1] at HN1
    have HF := HRf.out 191 HN1
    clear HN HN1 HRf HTk Hdue Hkp Htr
    have kk : (e.kind != m.kind) = true := by simp [hq1]
    clear hq1
    go_wp2
    go_ret
    exact ⟨congrArg Ending.returned HF.out.1, HF.out.2⟩
  · have HN1 := HN.out
    rw [if_neg hq1] at HN1
    replace HN := Lib.hid HN1
    clear HN1
    have k1 : (e.kind != m.kind) = false := by simpa using hq1
    clear hq1
    by_cases hq2 : e.id ≠ m.id ∨ e.other ≠ m.other
    · have HN1 := HN.out
      rw [if_pos hq2] at HN1
      have HF := HRf.out 192 HN1
      clear HN HN1 HRf HTk Hdue Hkp Htr
      have hk : (e.id != m.id) = true ∨ ((e.id != m.id) = false ∧ (e.other != m.other) = true) := by
        by_cases q : e.id = m.id
        · exact .inr ⟨by simp [q], by rcases hq2 with h | h; exact absurd q h; simp [h]⟩
        · exact .inl (by simp [q])
      clear hq2
      rcases hk with kk | ⟨kk, kk2⟩
      · go_wp2
        go_ret
        exact ⟨congrArg Ending.returned HF.out.1, HF.out.2⟩
      · go_wp2
        go_ret
        exact ⟨congrArg Ending.returned HF.out.1, HF.out.2⟩
    · have HN1 := HN.out
      rw [if_neg hq2] at HN1
      replace HN := Lib.hid HN1
      clear HN1
      have k2 : (e.id != m.id) = false := by simpa using fun q => hq2 (.inl q)
      have k2b : (e.other != m.other) = false := by simpa using fun q => hq2 (.inr q)
      clear hq2
      by_cases hq3 : e.price ≠ m.price
      · have HN1 := HN.out
        rw [if_pos hq3] at HN1
        have HF := HRf.out 194 HN1
        clear HN HN1 HRf HTk Hdue Hkp Htr
        have kk : (e.price != m.price) = true := by simp [hq3]
        clear hq3
        go_wp2
        go_ret
        exact ⟨congrArg Ending.returned HF.out.1, HF.out.2⟩
      · have HN1 := HN.out
        rw [if_neg hq3] at HN1
        replace HN := Lib.hid HN1
        clear HN1
        have k3 : (e.price != m.price) = false := by simpa using hq3
        clear hq3
        by_cases hq4 : e.qty ≠ m.qty
        · have HN1 := HN.out
          rw [if_pos hq4] at HN1
          have HF := HRf.out 193 HN1
          clear HN HN1 HRf HTk Hdue Hkp Htr
          have kk : (e.qty != m.qty) = true := by simp [hq4]
          clear hq4
          go_wp2
          go_ret
          exact ⟨congrArg Ending.returned HF.out.1, HF.out.2⟩
        · have HN1 := HN.out
          rw [if_neg hq4] at HN1
          replace HN := Lib.hid HN1
          clear HN1
          have k4 : (e.qty != m.qty) = false := by simpa using hq4
          clear hq4
          by_cases hq5 : e.reason ≠ m.reason
          · have HN1 := HN.out
            rw [if_pos hq5] at HN1
            have HF := HRf.out 195 HN1
            clear HN HN1 HRf HTk Hdue Hkp Htr
            have kk : (e.reason != m.reason) = true := by simp [hq5]
            clear hq5
            go_wp2
            go_ret
            exact ⟨congrArg Ending.returned HF.out.1, HF.out.2⟩
          · have HN1 := HN.out
            rw [if_neg hq5] at HN1
            replace HN := Lib.hid HN1
            clear HN1
            have k5 : (e.reason != m.reason) = false := by simpa using hq5
            clear hq5
            by_cases hq6 : e ≠ { m with seq := e.seq }
            · have HN1 := HN.out
              rw [if_pos hq6] at HN1
              have HF := HRf.out 191 HN1
              have kk : (!decide (e = ({ m with seq := e.seq } : Ev))) = true := by simp [hq6]
              clear HN HN1 HRf HTk Hdue Hkp Htr hq6
              go_wp2_with (refine wpList_ev_neq rfl (.tmp 57) (.tmp 58) rfl e { m with seq := e.seq } rfl rfl ?_)
              go_ret
              exact ⟨congrArg Ending.returned HF.out.1, HF.out.2⟩
            · have HN1 := HN.out
              rw [if_neg hq6] at HN1
              replace HN := Lib.hid HN1
              have kk : (!decide (e = ({ m with seq := e.seq } : Ev))) = false := by
                have : e = { m with seq := e.seq } := Classical.not_not.1 hq6
                simp only [Bool.not_eq_false', decide_eq_true_eq]
                exact this
              clear HN1 HRf hq6
              go_upto_region 15 with (refine wpList_ev_neq rfl (.tmp 57) (.tmp 58) rfl e { m with seq := e.seq } rfl rfl ?_)
              have c6 := blk_cell HX3.out.blk 6
              have cl := blk_lt HX3.out.blk
              simp only [List.getElem?_toArray, List.getElem?_cons_zero, List.getElem?_cons_succ] at c6
              go_still_tail 6, (by kernel_rfl)
              change wpList _ _ _ _ _ W3.drew
              go_wp2_with fail
              refine (HTk.out W3.drew (HX3.out.nil (Only.refl Nil _).drew) (HG3.out.nil (Only.refl Nil _).drew)).mono ?_
              rintro x w4 ⟨rfl, u1, u2, hx, hy, hfr, ho⟩
              rw [takes_seq] at hx hy
              have HO4 : Hid (Only (Ours C G v1 v2) w w4) := Lib.hid ((HO3.out.drew.mono (fun _ _ h => h.elim)).trans ho (fun _ _ h => h))
              have hfr' : Fresh w C v1 v2 u1 u2 := fun k hk => (hfr k hk).imp id (fun q => Nat.le_trans HO3.out.size q)
              have HF4 := Lib.hid hfr'
              have HSt := Lib.hid (settles_any C G (takes b c m).1 (takes b c m).2 u1 u2 p7 w4 hx hy Hkp.out.ok Hkp.out.cg (fun q => by rw [Htr.out.2.2.2] at q; cases q))
              clear hx hy hfr hfr' ho e0 e1 e2 e3 e4 e5 e6 e7 e8 e9 e10 e11 e12 ef el m0 m1 m2 m3 m4 m5 m6 m7 m8 m9 m10 m11 m12 mf ml c6 cl HX3 HG3 HE3 HM3 HO3
              go_wp2_with fail
              refine HSt.out.mono ?_
              rintro x w5 ⟨rfl, v1', v2', p6', hx, hnow, hfr, ho⟩
              go_wp2
              go_ret
              rw [HN.out]
              refine ⟨rfl, v1', v2', p6', hx, .inr ?_, HF4.out.trans hfr HO4.out.size, HO4.out.trans ho (fun k hk hmn => ?_)⟩
              · rcases hnow with ⟨q1, q2, q3⟩ | ⟨q1, q2⟩
                · exact .inr ⟨_, q1, q2, q3⟩
                · exact .inl ⟨q1, q2⟩
              · rcases HF4.out k hmn with q | q
                · exact .inl q
                · omega
end Ck
end Go.Proofs.Ytcnkbhgdcfckoaa

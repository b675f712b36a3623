/- ArenaAll: Pop, Sweep, and what is seen, of the program's and of the document's. -/
import Derived.Test.YtnhedhmffgaohaaAlD
namespace Go.Proofs.Ytnhedhmffgaohaa
open Go.RowKit
namespace Al
open Rfw (RfRep RfIs RStep Rp RfD tR tP tS)
open ArT (ArRep ArD tA tN tQ tI tH tT QSt QAt)

section
variable {s : Ar} {Ls : List (List Nat)} {j : Nat} {q : Qu} {L : List Nat}
theorem isv (h : Pgp s Ls) : ∀ d ∈ s.nodes, ArT.IsV d.v := fun d hd => by
  obtain ⟨k, hk⟩ := List.getElem?_of_mem hd
  have hc := h.cok k _ (coreOf_some hk)
  cases ht : d.taken with
  | true => obtain ⟨n, _, e⟩ := hc.v ht; exact ⟨n, thS n, e⟩
  | false => exact ⟨0, ArT.zstr, (hc.z ht).1⟩
theorem alive_dead (h : Pgp s Ls) (hq : s.qs[j]? = some q) (hL : Ls[j]? = some L) {k : Nat} (hk : k ∈ L) : deadAt (refOf s Ls).places k = !alive s.nodes k := (h.dead_at hq hL hk).1
theorem swept_blks {s' : Ar} {q' : Qu} {P M : List Nat} (hq : s.qs[j]? = some q) (hs : Swept 2 tz j s s' q q' P M) : blks s' = blks s := by
  unfold blks
  rw [hs.qs, List.map_set, hs.blk]
  obtain ⟨hj, hq⟩ := List.getElem?_eq_some_iff.1 hq
  subst hq
  have : s.qs[j].blk = (s.qs.map Qu.blk)[j]'(by simpa using hj) := by simp
  rw [this, List.set_getElem_self]
theorem qd_ar {A : Nat} {vn vf : Value} (hq : s.qs[j]? = some q) {b : Nat} (hb : ArT.QD A q vn vf b) : ArD A s vn vf b := by
  rcases hb with hb | hb | hb | hb
  · exact .inl hb
  · exact .inr (.inr (.inr ⟨q, List.mem_of_getElem? hq, hb.symm⟩))
  · exact .inr (.inl hb)
  · exact .inr (.inr (.inl hb))
theorem ard_blks {s' : Ar} {A : Nat} {vn vf vf' : Value} {w : World} (hb : blks s' = blks s) (hv : ∀ b, vf'.ownBlock = some b → vf.ownBlock = some b ∨ w.heap.size ≤ b) {k : Nat} (hk : ArD A s' vn vf' k) : ArD A s vn vf k ∨ w.heap.size ≤ k := by
  rcases hk with hk | hk | hk | ⟨q', hq', hk⟩
  · exact .inl (.inl hk)
  · exact .inl (.inr (.inl hk))
  · exact (hv k hk).imp (fun e => .inr (.inr (.inl e))) id
  · have h1 : k ∈ blks s' := List.mem_map.2 ⟨q', hq', hk⟩
    rw [hb] at h1
    obtain ⟨q0, h2, h3⟩ := List.mem_map.1 h1
    exact .inl (.inr (.inr (.inr ⟨q0, h2, h3⟩)))
/-- A call of the program's that leaves one of several states. -/
theorem Both.prog2 {B : Nat → Prop} {w : World} {A D f : Nat} {args : Array Value} {e0 : Ending} {r : Rf} {Good : Ar → Prop} (h : Both B w A D s r)
    (hc : ∀ vn vf, ArRep w A s vn vf → Calls Try.prog f args w fun e w' => e = e0 ∧ ∃ s', Good s' ∧ PStep w A s vn vf s' w') :
    Calls Try.prog f args w fun e w' => e = e0 ∧ ∃ s', Good s' ∧ Both B w' A D s' r ∧ Only (Own B w) w w' := by
  obtain ⟨vn, vf, p, h1, h2, h3, h4, h5⟩ := h
  refine (hc vn vf h1).mono ?_
  rintro e w' ⟨rfl, s', hg, vn', vf', k1, k2, k3⟩
  refine ⟨rfl, s', hg, ⟨vn', vf', p, k1, RfRep.only h2 k3 (fun k hk hd => (h3 k hd).2 hk), fun k hk => ?_, h4, fun k hk => h5 k (Nat.le_trans k3.size hk)⟩, k3.mono fun b _ hb => ⟨(h3 b hb).1, ar_kind h1 hb⟩⟩
  rcases k2 k hk with e | e
  · exact h3 k e
  · refine ⟨h5 k e, fun hd => ?_⟩
    · have := RfRep.lt h2 hd; omega

/-! ### Sweep -/
theorem sweep_both (h : Pgp s Ls) (hn : Ls.length ≤ 4194304) (hq : s.qs[j]? = some q) (hL : Ls[j]? = some L) : ∃ (n : Nat) (Ls' : List (List Nat)) (r' : Rf), Ls'.length = Ls.length ∧
    PC2 80 (fun _ => #[.pointer (some ⟨q.blk, 0, none⟩)]) (.returned (.int .i64 (n : Int))) s Ls' r' ∧
    RC 81 (fun D => #[.pointer (some ⟨D, 0, none⟩), .int .i64 j]) (.returned (.int .i64 (n : Int))) (refOf s Ls) r' := by
  have hr := rwf h hn
  have hok := h.ok j q L hq hL
  have hL' : Ls[j]? = some (L ++ []) := by rw [List.append_nil]; exact hL
  have hcount : (L.filter (deadAt (refOf s Ls).places)).length = (L.filter fun k => !alive s.nodes k).length := by rw [List.filter_congr fun k hk => alive_dead h hq hL hk]
  refine ⟨(L.filter (deadAt (refOf s Ls).places)).length, Ls.set j (L.filter (alive s.nodes) ++ []), (refOf s Ls).swept j L [], by simp, fun B w A D r hb => ?_, fun B w A D s0 hb => ?_⟩
  · have := Both.prog2 (Good := fun s' => Pgp s' (Ls.set j (L.filter (alive s.nodes) ++ [])) ∧ blks s' = blks s ∧ refOf s' (Ls.set j (L.filter (alive s.nodes) ++ [])) = (refOf s Ls).swept j L []) (e0 := .returned (.int .i64 ((L.filter (deadAt (refOf s Ls).places)).length : Int)))
      (f := 80) (args := #[.pointer (some ⟨q.blk, 0, none⟩)]) hb (fun vn vf ha => ?_)
    · exact this.mono fun _ _ ⟨h1, s', ⟨h2, h3, h4⟩, h5, h6⟩ => ⟨h1, s', h2, h3, h4, h5, h6⟩
    · refine (ArT.sweep_any A j s vn vf q L w (qst h hq hL ha) h.fr (isv h)).mono ?_
      rintro e w' ⟨rfl, s', vf', q', hs, k1, k2, k3⟩
      obtain ⟨e1, e2⟩ := h.swept hq hL' hs
      refine ⟨by rw [hok.dead, hcount], s', ⟨e1, swept_blks hq hs, e2⟩, vn, vf', k1, fun k hk => ard_blks (swept_blks hq hs) k2 hk, k3.mono fun b _ hb => qd_ar hq hb⟩
  · rcases Nat.eq_zero_or_pos L.length with h0 | h0
    · have hLe : L = [] := List.eq_nil_of_length_eq_zero h0
      subst hLe
      refine hb.ref fun p hrf => ?_
      refine (Rfw.sweep_nil D j _ p w hrf hr hL).mono ?_
      rintro e w' ⟨rfl, ho⟩
      refine ⟨rfl, ?_⟩
      rw [swept_nil (r := refOf s Ls) hL]
      exact RStep.refl hrf ho
    · refine hb.ref fun p hrf => Rfw.sweep_cons D j _ L p w hrf hr hL h0 hok.nd ?_
      have := free_queue h hq hL
      have h1 := h.wf.len
      have h2 := h.wf.room
      show s.free.length + _ ≤ _
      omega

/-! ### Pop -/
theorem pop_both (h : Pgp s Ls) (hn : Ls.length ≤ 4194304) (hq : s.qs[j]? = some q) (hL : Ls[j]? = some L) : ∃ (o : Option Hd) (Ls' : List (List Nat)) (r' : Rf), Ls'.length = Ls.length ∧
    PC2 78 (fun _ => #[.pointer (some ⟨q.blk, 0, none⟩)]) (ansO o) s Ls' r' ∧
    RC 79 (fun D => #[.pointer (some ⟨D, 0, none⟩), .int .i64 j]) (ansO o) (refOf s Ls) r' := by
  have hr := rwf h hn
  have hok := h.ok j q L hq hL
  rcases ArT.firstLive_split s.nodes L with ⟨_, h1⟩ | ⟨L1, i, L2, rfl, h1, h2, _⟩
  · refine ⟨none, Ls, refOf s Ls, rfl, PC.to2 (fun B w A D r hb => hb.progN fun vn vf ha => ArT.pop_none A j s vn vf q L w (qst h hq hL ha) h1) h rfl, fun B w A D s0 hb => hb.refN fun p hrf => Rfw.pop_none D j _ L p w hrf hr hL ?_⟩
    rw [h.rall hq hL (fun k hk => hk), wnt_dead h1]
  · obtain ⟨d0, hd0, ht0, hq0⟩ := lk_mem hok.lk (k := i) (by simp)
    have hdd0 : d0.dead = false := by rw [alive_at hd0] at h2; simpa using h2
    have hroom := h.room hd0
    have hx := ref_get s Ls hroom.1
    have hlf : (plAt s i).life = d0.life := by rw [plAt_at hd0]
    have hiL : i ∉ L1 := fun hm => by
      have := hok.nd
      rw [List.nodup_append] at this
      exact this.2.2 i hm i (by simp) rfl
    have hfl : L1.filter (alive s.nodes) = [] := List.filter_eq_nil_iff.2 fun k hk => by rw [h1 k hk]; simp
    refine ⟨some ⟨i, d0.life⟩, Ls.set j L2, ((refOf s Ls).swept j L1 (i :: L2)).out j i (plAt s i) (i :: L2), by simp, fun B w A D r hb => ?_, fun B w A D s0 hb => ?_⟩
    · have := Both.prog2 (Good := fun s' => Pgp s' (Ls.set j L2) ∧ blks s' = blks s ∧ refOf s' (Ls.set j L2) = ((refOf s Ls).swept j L1 (i :: L2)).out j i (plAt s i) (i :: L2)) (e0 := ansO (some ⟨i, d0.life⟩))
        (f := 78) (args := #[.pointer (some ⟨q.blk, 0, none⟩)]) hb (fun vn vf ha => ?_)
      · exact this.mono fun _ _ ⟨h1, s', ⟨h2, h3, h4⟩, h5, h6⟩ => ⟨h1, s', h2, h3, h4, h5, h6⟩
      · refine (ArT.pop_some A j i s vn vf q L1 L2 w (qst h hq hL ha) h.fr (isv h) h1 h2).mono ?_
        rintro e w' ⟨s1, vf', q1, d, rfl, hs, hd1, k1, k2, k3⟩
        obtain ⟨e1, e2⟩ := h.swept hq hL hs
        rw [hfl, List.nil_append] at e1 e2
        have hjl := (List.getElem?_eq_some_iff.1 hL).1
        have hL1 : (Ls.set j (i :: L2))[j]? = some ([] ++ i :: L2) := List.getElem?_set_self hjl
        obtain ⟨e3, e4⟩ := e1.out hd1 hs.hq hL1
        rw [List.nil_append, List.set_set] at e3 e4
        have hci := hs.core i
        rw [if_neg (fun hh => hiL hh.1), coreOf_some hd1, coreOf_some hd0] at hci
        injection hci with hci
        have hlife : d.life = d0.life := congrArg (fun x => x.2.1) hci
        have hpl : plAt s1 i = plAt s i := by
          unfold plAt
          rw [swept_blks hq hs, hs.core, if_neg (fun hh => hiL hh.1)]
        have hbl : blks { s1 with nodes := outN s1.nodes i d, qs := s1.qs.set j (outQ q1 d) } = blks s := (blks_set (s := s1) (q1 := outQ q1 d) hs.hq rfl).trans (swept_blks hq hs)
        refine ⟨by rw [hlife]; rfl, _, ⟨e3, hbl, ?_⟩, vn, vf', k1, fun k hk => ard_blks hbl k2 hk, k3.mono fun b _ hb => qd_ar hq hb⟩
        rw [e4, e2, hpl]; rfl
    · refine hb.ref fun p hrf => ?_
      have := Rfw.pop_some D j i (refOf s Ls) (plAt s i) L1 L2 p w hrf hr hL hok.nd hx (by rw [plAt_at hd0]; simp [hdd0]) (fun k hk => by rw [alive_dead h hq hL (by simp [hk]), h1 k hk]; rfl) ?_
      · rw [hlf] at this
        exact this
      · have := free_queue h hq hL
        have h3 := h.wf.len
        have h4 := h.wf.room
        show s.free.length + _ ≤ _
        omega

/-! ### What is seen of a queue -/
theorem all_both (h : Pgp s Ls) (hn : Ls.length ≤ 4194304) (hq : s.qs[j]? = some q) (hL : Ls[j]? = some L) :
    (∀ (B : Nat → Prop) (w : World) (A D : Nat) (r : Rf), Both B w A D s r → Calls Try.prog 84 #[.pointer (some ⟨q.blk, 0, none⟩)] w fun e w' => ∃ v, e = .returned v ∧ HRow w' v (wnt s.nodes L) ∧ (∀ k, v.ownBlock = some k → w.heap.size ≤ k) ∧ Only Nil w w') ∧
    (∀ (B : Nat → Prop) (w : World) (A D : Nat) (s0 : Ar), Both B w A D s0 (refOf s Ls) → Calls Try.prog 85 #[.pointer (some ⟨D, 0, none⟩), .int .i64 j] w fun e w' => ∃ v, e = .returned v ∧ HRow w' v (wnt s.nodes L) ∧ (∀ k, v.ownBlock = some k → w.heap.size ≤ k) ∧ Only Nil w w') := by
  constructor
  · rintro B w A D r ⟨vn, vf, p, ha, _, _, _⟩
    have := ArT.all_any A j s vn vf q L w (qst h hq hL ha)
    rw [wnt_hds] at this
    exact this
  · rintro B w A D s0 ⟨vn, vf, p, _, hrf, _, _⟩
    have := Rfw.all_any D j (refOf s Ls) L p w hrf (rwf h hn) hL
    rw [h.rall hq hL (fun k hk => hk)] at this
    exact this
theorem first_both (h : Pgp s Ls) (hn : Ls.length ≤ 4194304) (hq : s.qs[j]? = some q) (hL : Ls[j]? = some L) :
    (∀ (B : Nat → Prop) (w : World) (A D : Nat) (r : Rf), Both B w A D s r → Calls Try.prog 86 #[.pointer (some ⟨q.blk, 0, none⟩)] w fun e w' => e = ansO (wnt s.nodes L).head? ∧ Only Nil w w') ∧
    (∀ (B : Nat → Prop) (w : World) (A D : Nat) (s0 : Ar), Both B w A D s0 (refOf s Ls) → Calls Try.prog 87 #[.pointer (some ⟨D, 0, none⟩), .int .i64 j] w fun e w' => e = ansO (wnt s.nodes L).head? ∧ Only Nil w w') := by
  constructor
  · rintro B w A D r ⟨vn, vf, p, ha, _, _, _⟩
    exact ArT.first_any A j s vn vf q L w (qst h hq hL ha)
  · rintro B w A D s0 ⟨vn, vf, p, _, hrf, _, _⟩
    have := Rfw.first_any D j (refOf s Ls) L p w hrf (rwf h hn) hL
    rw [h.rall hq hL (fun k hk => hk)] at this
    exact this
theorem count_both (h : Pgp s Ls) (hn : Ls.length ≤ 4194304) (hq : s.qs[j]? = some q) (hL : Ls[j]? = some L) : ∃ m : Nat, m ≤ 65536 ∧ (wnt s.nodes L).length ≤ 65536 ∧
    (∀ (B : Nat → Prop) (w : World) (A D : Nat) (r : Rf), Both B w A D s r → Calls Try.prog 88 #[.pointer (some ⟨q.blk, 0, none⟩)] w fun e w' => e = .returned (.int .i64 ((wnt s.nodes L).length : Int)) ∧ w' = w) ∧
    (∀ (B : Nat → Prop) (w : World) (A D : Nat) (r : Rf), Both B w A D s r → Calls Try.prog 89 #[.pointer (some ⟨q.blk, 0, none⟩)] w fun e w' => e = .returned (.int .i64 (m : Int)) ∧ w' = w) ∧
    (∀ (B : Nat → Prop) (w : World) (A D : Nat) (s0 : Ar), Both B w A D s0 (refOf s Ls) → Calls Try.prog 90 #[.pointer (some ⟨D, 0, none⟩), .int .i64 j] w fun e w' => e = .returned (.int .i64 (m : Int)) ∧ Only Nil w w') := by
  have hok := h.ok j q L hq hL
  have h1 := wnt_len hok
  have h2 := h.lo hq hL
  have h3 : (wnt s.nodes L).length ≤ L.length := List.length_filterMap_le _ _
  have hm : ((L.length - (wnt s.nodes L).length : Nat) : Int) = q.dead := by omega
  refine ⟨L.length - (wnt s.nodes L).length, by omega, by omega, ?_, ?_, ?_⟩
  · rintro B w A D r ⟨vn, vf, p, ha, _, _, _⟩
    have := ArT.live_any A j s vn vf q L w (qst h hq hL ha)
    rw [← h1.1] at this
    exact this
  · rintro B w A D r ⟨vn, vf, p, ha, _, _, _⟩
    rw [hm]
    exact ArT.dead_any A j s vn vf q L w (qst h hq hL ha)
  · rintro B w A D s0 ⟨vn, vf, p, _, hrf, _, _⟩
    have := Rfw.dead_any D j (refOf s Ls) L p w hrf (rwf h hn) hL
    rw [h.rall hq hL (fun k hk => hk)] at this
    have e : ((L.length - (wnt s.nodes L).length : Nat) : Int) = (L.length : Int) - ((wnt s.nodes L).length : Int) := by omega
    rw [e]
    exact this
end
end Al
end Go.Proofs.Ytnhedhmffgaohaa

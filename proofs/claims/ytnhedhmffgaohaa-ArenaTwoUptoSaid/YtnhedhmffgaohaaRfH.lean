/- The walk of the document's Next. -/
import Derived.Test.YtnhedhmffgaohaaRfE
namespace Go.Proofs.Ytnhedhmffgaohaa
open Go.RowKit
namespace Rfw

set_option maxHeartbeats 400000 in
set_option maxRecDepth 100000 in
theorem next_no (D q i l : Nat) (r : Rf) (p : Rp) (w : World) (h : RfIs w D r p) (hw : r.wf) (hi : i < 4294967296) (hq : q ≤ 4194304) (hin : r.isIn q i l = false) :
    Calls Try.prog 73 #[.pointer (some ⟨D, 0, none⟩), .int .i64 q, .agg #[.int .u32 i, .int .u32 l]] w fun e w' => e = .returned (.tuple #[.agg #[.int .u32 0, .int .u32 0], .bool false]) ∧ Only Nil w w' := by
  have HI := Lib.hid (fun W (ho : Only Nil w W) => in_any D q i l r p W (h.nil ho) hw hi hq)
  rw [hin] at HI
  clear h
  go_enter Try.func73, Try.ntmps73
  go_wp2_with fail
  refine (HI.out _ (((Only.refl _ _).alloc _).alloc _)).mono ?_
  rintro e w1 ⟨rfl, ho⟩
  have hbx := ho.blk (blk_new' (w.alloc (.cells #[.int .u32 i, .int .u32 l] tH)) (.cells #[.int .u32 0, .int .u32 0] tH) (w.heap.size + 1) (by simp)) (fun h => h)
  have hB0 := blk_cell hbx 0
  have hB1 := blk_cell hbx 1
  have hBf0 := blk_frozen hbx 0
  have hBf1 := blk_frozen hbx 1
  have hBlt := blk_lt hbx
  simp only [List.getElem?_toArray, List.getElem?_cons_zero, List.getElem?_cons_succ] at hB0 hB1
  go_wp2
  refine bodyPost_ret (v := .tuple #[.agg #[.int .u32 0, .int .u32 0], .bool false]) (by simp [results, Try.results73, go_sem, hB0, hB1]) rfl ⟨rfl, ?_⟩
  exact (((((Only.refl Nil w).alloc _).alloc _).trans ho (fun _ _ h => h)).setCell (p := ⟨w.heap.size + 1, 0, none⟩) (.inr (Nat.le_succ _)) _).setCell (p := ⟨w.heap.size + 1, 1, none⟩) (.inr (Nat.le_succ _)) _

theorem rall_take_snoc {pl : List Pl} {l : List Nat} {m j : Nat} {x : Pl} (hj : l[m]? = some j) (hx : pl[j]? = some x) (h0 : rall pl (l.take m) = []) :
    (x.dead = true → rall pl (l.take (m + 1)) = []) ∧ (x.dead = false → (rall pl l).head? = some ⟨j, x.life⟩) := by
  obtain ⟨hm, hj'⟩ := List.getElem?_eq_some_iff.1 hj
  subst hj'
  have hts : l.take (m + 1) = l.take m ++ [l[m]] := by rw [List.take_succ_eq_append_getElem hm]
  constructor
  · intro hd
    rw [hts, rall_snoc pl _ _ hx, h0, hd]; rfl
  · intro hd
    have e : l = l.take (m + 1) ++ l.drop (m + 1) := (List.take_append_drop _ _).symm
    have h1 : rall pl l = rall pl (l.take (m + 1)) ++ rall pl (l.drop (m + 1)) := by
      conv => lhs; rw [e]
      unfold rall; rw [List.filterMap_append]
    rw [h1, hts, rall_snoc pl _ _ hx, h0, hd]; rfl

set_option maxHeartbeats 3200000 in
set_option maxRecDepth 100000 in
theorem next_yes (D q i l : Nat) (r : Rf) (L1 L2 : List Nat) (p : Rp) (w : World) (h : RfIs w D r p) (hw : r.wf) (hi : i < 4294967296) (hq : q ≤ 4194304) (hin : r.isIn q i l = true) (hL : r.queues[q]? = some (L1 ++ i :: L2)) (hn : i ∉ L1) :
    Calls Try.prog 73 #[.pointer (some ⟨D, 0, none⟩), .int .i64 q, .agg #[.int .u32 i, .int .u32 l]] w fun e w' =>
      e = .returned (.tuple #[.agg #[.int .u32 (hIx (rall r.places L2).head?), .int .u32 (hLf (rall r.places L2).head?)], .bool (rall r.places L2).head?.isSome]) ∧ Only Nil w w' := by
  have HI := Lib.hid (fun W (ho : Only Nil w W) => in_any D q i l r p W (h.nil ho) hw hi hq)
  rw [hin] at HI
  have hlen := hw.len
  have hqn := hw.qn
  have hql := (hw.ql _ (List.mem_of_getElem? hL)).1
  have hqi := (hw.ql _ (List.mem_of_getElem? hL)).2
  have hqlt := (List.getElem?_eq_some_iff.1 hL).1
  obtain ⟨gq, cq, A, ca, hvq, _, hcq, _, _, hrq, hca, _, _⟩ := h.qrow hL
  generalize hLe : L1 ++ i :: L2 = L at *
  have hLl : L.length = L1.length + 1 + L2.length := by rw [← hLe]; simp; omega
  have hbef : ∀ k j, k < L1.length → L[k]? = some j → j ≠ i := fun k j hk hj e => by
    rw [← hLe, List.getElem?_append_left hk] at hj
    subst e
    exact hn (List.mem_of_getElem? hj)
  have hat : L[L1.length]? = some i := by rw [← hLe, List.getElem?_append_right (Nat.le_refl _)]; simp
  have hbeh : ∀ k, L1.length < k → L[k]? = L2[k - (L1.length + 1)]? := fun k hk => by
    rw [← hLe, List.getElem?_append_right (by omega), show k - L1.length = (k - (L1.length + 1)) + 1 by omega]; rfl
  have H := Lib.hid h
  have HL := Lib.hid hL
  have Hrq := Lib.hid hrq
  have Hvq := Lib.hid hvq
  have hqlI : (q : Int) < (r.queues.length : Int) := by omega
  have Hbef := Lib.hid hbef
  have Hat := Lib.hid hat
  have Hbeh := Lib.hid hbeh
  have HLl := Lib.hid hLl
  clear h hw hL hrq hvq hin hn hLe hbef hat hbeh hLl
  go_enter Try.func73, Try.ntmps73
  go_wp2_with fail
  refine (HI.out _ (((Only.refl _ _).alloc _).alloc _)).mono ?_
  rintro e w1 ⟨rfl, ho⟩
  have hb5 := ho.blk (blk_alloc (blk_new w (.cells #[.int .u32 i, .int .u32 l] tH)) (.cells #[.int .u32 0, .int .u32 0] tH)) (fun h => h)
  have hb6 := ho.blk (blk_new' (w.alloc (.cells #[.int .u32 i, .int .u32 l] tH)) (.cells #[.int .u32 0, .int .u32 0] tH) (w.heap.size + 1) (by simp)) (fun h => h)
  have o1 : Only Nil w w1 := (((Only.refl Nil w).alloc _).alloc _).trans ho (fun _ _ h => h)
  have h1 := H.out.nil o1
  have H1 := Lib.hid h1
  have O1 := Lib.hid o1
  have facts : ∀ W, Only Nil w1 W → W.cell? ⟨D, 0, none⟩ = some p.vp ∧ W.cell? ⟨D, 3, none⟩ = some (.slice (some ⟨gq, 0, none⟩) r.queues.length cq) ∧ W.cell? ⟨gq, q, none⟩ = some (.slice A L.length ca) ∧ D < W.heap.size ∧ gq < W.heap.size ∧
      W.heap[w.heap.size]? = some (.cells #[.int .u32 i, .int .u32 l] tH (0, 0)) ∧ W.heap[w.heap.size + 1]? = some (.cells #[.int .u32 0, .int .u32 0] tH (0, 0)) := fun W ho => by
    have h2 := H1.out.nil ho
    have hq2 := h2.q
    rw [Hvq.out] at hq2
    exact ⟨h2.base.1, by rw [← Hvq.out]; exact h2.base.2.2.2.1, own_cell hq2 Hrq.out, h2.base.2.2.2.2.2, own_lt hq2 rfl, ho.blk hb5 (fun h => h), ho.blk hb6 (fun h => h)⟩
  have Facts := Lib.hid facts
  clear ho o1 h1 facts hb5 hb6
  go_wp2
  go_loopg [8, 9, 10] (L.length) (fun m v8 v9 v10 wr => ∃ k : Nat, k ≤ L.length ∧ m = L.length - k ∧ v8 = .bool (decide (L1.length < k)) ∧ v9 = .int .i64 k ∧ Hid (rall r.places (L2.take (k - (L1.length + 1))) = []) ∧ Only Nil w1 wr)
  case atStart => exact ⟨0, Nat.zero_le _, rfl, by simp, rfl, Lib.hid (by simp [rall]), Only.refl _ _⟩
  case round =>
    obtain ⟨k, hk, hm, rfl, rfl, hR, hon⟩ := hrel
    obtain ⟨hD0, hD3, hqc, hDlt, hgql, hb5, hb6⟩ := Facts.out wr hon
    have hB0 := blk_cell hb5 0
    have hB1 := blk_cell hb5 1
    have hB5lt := blk_lt hb5
    have hC0 := blk_cell hb6 0
    have hC1 := blk_cell hb6 1
    have hCf0 := blk_frozen hb6 0
    have hCf1 := blk_frozen hb6 1
    have hClt := blk_lt hb6
    simp only [List.getElem?_toArray, List.getElem?_cons_zero, List.getElem?_cons_succ] at hB0 hB1 hC0 hC1
    by_cases hlt : k < L.length
    · have hLk : L[k]? = some L[k] := List.getElem?_eq_getElem hlt
      have hjl := hqi L[k] (List.getElem_mem hlt)
      have h1 := H1.out.nil hon
      obtain ⟨v0, hv0, hqrow⟩ := h1.row q L HL.out
      rw [Hrq.out] at hv0
      injection hv0 with hv0
      subst hv0
      obtain ⟨gl, cl, e, hgl, _, _⟩ := own_row hqrow (by omega)
      injection e with e1 _ e2
      subst e1
      subst e2
      have hLc := row_get hqrow hLk
      obtain ⟨gp, cp, hvp, hgp, hcp, _, _⟩ := h1.prow hjl
      rw [hvp] at hD0
      have hp1 := h1.p
      rw [hvp] at hp1
      have hkI : (k : Int) < (L.length : Int) := by omega
      have hjI : (L[k] : Int) < (r.places.length : Int) := by omega
      have hx : r.places[L[k]]? = some r.places[L[k]] := List.getElem?_eq_getElem hjl
      have hn4 := (pl_of hp1 hx).c4
      generalize r.places[L[k]] = x at *
      generalize L[k] = j at *
      by_cases hk1 : L1.length < k
      · have hL2 := Hbeh.out k hk1
        rw [hLk] at hL2
        have hts := rall_take_snoc hL2.symm hx hR.out
        have hdec : decide (L1.length < k) = true := by simp [hk1]
        rw [hdec]
        cases hd : x.dead with
        | true =>
          rw [hd] at hn4
          have hts1 := hts.1 hd
          rw [show k - (L1.length + 1) + 1 = k + 1 - (L1.length + 1) by omega] at hts1
          have Hts := Lib.hid hts1
          clear hts hts1 hL2 hx hp1 h1 hqrow hLk hvp hb5 hb6 hd hdec
          go_wp2
          go_roundg (L.length - (k + 1))
          case measure => omega
          case rel => exact ⟨k + 1, by omega, rfl, by simp; omega, by go_num, Hts, hon⟩
        | false =>
          rw [hd] at hn4
          have Hts := Lib.hid (hts.2 hd)
          have HA := Lib.hid (handle_at D j r x p.vp p.vd p.vq p.rows wr h1 hlen hx)
          clear hts hL2 hx hp1 h1 hqrow hLk hvp hb5 hb6 hd hdec
          go_wp2_with fail
          refine HA.out.mono ?_
          rintro e w' ⟨rfl, rfl⟩
          go_wp2
          refine bodyPost_ret (v := .tuple #[.agg #[.int .u32 j, .int .u32 x.life], .bool true]) (by simp [results, Try.results73, go_sem, hC0, hC1, hClt]) rfl ⟨by rw [Hts.out]; rfl, ?_⟩
          exact (((O1.out.trans hon (fun _ _ h => h)).setCell (p := ⟨w.heap.size + 1, 0, none⟩) (.inr (Nat.le_succ _)) _).setCell (p := ⟨w.heap.size + 1, 1, none⟩) (.inr (Nat.le_succ _)) _).alloc _
      · have hdec : decide (L1.length < k) = false := by simp; omega
        rw [hdec]
        have hR2 : rall r.places (L2.take (k + 1 - (L1.length + 1))) = [] := by rw [show k + 1 - (L1.length + 1) = 0 by omega]; simp [rall]
        have HR2 := Lib.hid hR2
        by_cases hk2 : k = L1.length
        · have hji : j = i := by
            have := Hat.out
            rw [← hk2, hLk] at this
            injection this
          subst hji
          subst hk2
          clear hx hp1 h1 hqrow hLk hvp hb5 hb6 hdec hR2
          go_wp2
          go_roundg (L.length - (L1.length + 1))
          case measure => omega
          case rel => exact ⟨L1.length + 1, by omega, rfl, by simp, by go_num, HR2, hon⟩
        · have hji : j ≠ i := Hbef.out k j (by omega) hLk
          have hne : ((j : Int) == (i : Int)) = false := by simp; omega
          clear hx hp1 h1 hqrow hLk hvp hb5 hb6 hdec hR2 hji
          go_wp2
          go_roundg (L.length - (k + 1))
          case measure => omega
          case rel => exact ⟨k + 1, by omega, rfl, by simp; omega, by go_num, HR2, hon⟩
    · have he : k = L.length := by omega
      have hfin := hR.out
      rw [he, HLl.out, show L1.length + 1 + L2.length - (L1.length + 1) = L2.length by omega, List.take_length] at hfin
      have Hfin := Lib.hid hfin
      have hkI : ¬ ((k : Int) < (L.length : Int)) := by omega
      clear hfin hb5 hb6 he
      go_wp2
      refine bodyPost_ret (v := .tuple #[.agg #[.int .u32 0, .int .u32 0], .bool false]) (by simp [results, Try.results73, go_sem, hC0, hC1]) rfl ⟨by rw [Hfin.out]; rfl, ?_⟩
      exact ((O1.out.trans hon (fun _ _ h => h)).setCell (p := ⟨w.heap.size + 1, 0, none⟩) (.inr (Nat.le_succ _)) _).setCell (p := ⟨w.heap.size + 1, 1, none⟩) (.inr (Nat.le_succ _)) _
end Rfw
end Go.Proofs.Ytnhedhmffgaohaa

/- The walk of the law's refusing, a cross; refusing as one contract. -/
import Derived.Test.YtcnkbhgdcfckoaaOb
set_option linter.unusedVariables false
set_option linter.unusedSimpArgs false
namespace Go.Proofs.Ytcnkbhgdcfckoaa
open Go.RowKit
namespace Ck
def anyT (l : List Rs) (t : Int) : Int := if (l.any (fun r => r.id == t)) = true then 2 else 1
theorem anyT_two (l : List Rs) (t : Int) : anyT l t = 1 ∨ anyT l t = 2 := by unfold anyT; split <;> simp
theorem anyT_hit {l : List Rs} {t : Int} {k : Nat} {x : Rs} (hx : l[k]? = some x) (he : x.id = t) : anyT (l.take (k + 1)) t = 2 := by
  unfold anyT
  rw [if_pos]
  rw [List.any_eq_true]
  refine ⟨x, ?_, by simp [he]⟩
  rw [List.take_add_one, hx]
  simp
theorem anyT_miss {l : List Rs} {t : Int} {k : Nat} {x : Rs} (hx : l[k]? = some x) (he : x.id ≠ t) : anyT (l.take (k + 1)) t = anyT (l.take k) t := by
  unfold anyT
  rw [List.take_add_one, hx]
  have : (x.id == t) = false := by simp [he]
  simp [List.any_append, this]
def side99 (b : Bk) (e : Ev) : Int := if (b.sells.any (fun r => r.id == e.target) || (decide (e.target = 0) && b.sells.isEmpty)) = true then 2 else 1
theorem side99_hit {b : Bk} {e : Ev} (h : anyT b.sells e.target = 2) : side99 b e = 2 := by
  unfold anyT at h
  unfold side99
  split at h
  · rename_i q; rw [q]; rfl
  · omega
theorem side99_empty {b : Bk} {e : Ev} (h : e.target = 0) (hl : b.sells.length = 0) : side99 b e = 2 := by
  unfold side99
  have : b.sells = [] := List.length_eq_zero_iff.1 hl
  rw [this]
  simp [h]
theorem side99_no {b : Bk} {e : Ev} (h : anyT b.sells e.target = 1) (hc : e.target ≠ 0 ∨ b.sells.length ≠ 0) : side99 b e = 1 := by
  unfold anyT at h
  unfold side99
  split at h
  · omega
  · rename_i q
    have q' : b.sells.any (fun r => r.id == e.target) = false := by cases g : b.sells.any (fun r => r.id == e.target) with | true => exact absurd g q | false => rfl
    rw [q']
    rw [if_neg]
    intro g
    simp only [Bool.false_or, Bool.and_eq_true, decide_eq_true_eq] at g
    rcases hc with hc | hc
    · exact hc g.1
    · have : b.sells = [] := by simpa using g.2
      rw [this] at hc; exact hc rfl
set_option maxHeartbeats 1600000 in
set_option maxRecDepth 100000 in
theorem ref99_1 (b : Bk) (v1 v2 : Value) (e : Ev) (w : World) (i1 : IsSl v1) (h2 : LR w v2 b.sells) (ht : (e.target != 0) = false) (g90 : (e.code == 90) = false) (g91 : (e.code == 91) = false) (g92 : (e.code == 92) = false) (g93 : (e.code == 93) = false) (g94 : (e.code == 94) = false) (g95 : (e.code == 95) = false) (g96 : (e.code == 96) = false) (g99 : (e.code == 99) = true) (res : Cm) (HE : Hid (res = ⟨1, e.id, e.target, 0, side99 b e, 5, if side99 b e = 2 then 0 else 262143, 1, 0⟩)) :
    Calls Try.prog 22 #[.agg (bkRow b v1 v2), .agg e.row] w fun r w' => r = .returned (.agg (cmRow res)) ∧ Only Nil w w' := by
  have htz : (e.target == 0) = true := by simp at ht; simp [ht]
  have HT0 := Lib.hid (show e.target = 0 by simpa using ht)
  have HL := Lib.hid h2
  obtain ⟨A1, n1, c1, rfl⟩ := i1
  obtain ⟨A2, c2, rfl, q1, q2⟩ := h2.sl
  have hm1 : b.sells.length ≤ 9223372036854775807 := by omega
  clear h2 q1 q2
  go_enter Try.func22, Try.ntmps22
  unfold bkRow Ev.row
  go_upto_region 2 with fail
  generalize hW : World.alloc (World.alloc (World.alloc (World.alloc w _) _) _) _ = W0
  have HV0 := Lib.hid (refusing_begin (w := w) (b := b) (v1 := .slice A1 n1 c1) (v2 := .slice A2 b.sells.length c2) (e := e) (c := refC e 1))
  have hW' : ((((w.alloc (.cells (bkRow b (.slice A1 n1 c1) (.slice A2 b.sells.length c2)) tBk)).alloc (.cells e.row tEvt)).alloc (.cells (cmRow zCm) tCm)).alloc (.cells (cmRow (refC e 1)) tCm)) = W0 := hW
  rw [hW'] at HV0
  clear hW hW'
  generalize w.heap.size + 1 + 1 + 1 = K at *
  obtain ⟨e0, e1, e2, e3, e4, e5, e6, e7, e8, e9, e10, e11, e12, ef, el⟩ := evt_cells HV0.out.e
  obtain ⟨d0, d1', d2', d3, d4, d5, d6, d7, d8, df, dl⟩ := cm_cells HV0.out.k
  go_upto_region 23 with fail
  generalize hW : World.setCell (World.setCell W0 _ _) _ _ = W1
  have hW' : (W0.setCell ⟨K, 5, none⟩ (.int .i64 5)).setCell ⟨K, 6, none⟩ (.int .i64 262143) = W1 := hW
  have HV1 : Hid (RfL w b (.slice A1 n1 c1) (.slice A2 b.sells.length c2) e K ⟨1, e.id, e.target, 0, 1, 5, 262143, 1, 0⟩ W1) := Lib.hid (by rw [← hW']; exact RfL.set (c := ⟨1, e.id, e.target, 0, 1, 5, 1, 1, 0⟩) (HV0.out.set rfl) rfl)
  clear hW hW' HV0 e0 e1 e2 e3 e4 e5 e6 e7 e8 e9 e10 e11 e12 ef el d0 d1' d2' d3 d4 d5 d6 d7 d8 df dl g90 g91 g92 g93 g94 g95 g96 g99 ht
  obtain ⟨b0, b1, b2, b3, b4, b5, bf, bl⟩ := blk_cellsof HV1.out.b
  obtain ⟨e0, e1, e2, e3, e4, e5, e6, e7, e8, e9, e10, e11, e12, ef, el⟩ := evt_cells HV1.out.e
  go_wp2
  go_loopg [6, 7] (b.sells.length) (fun m v6 v7 wr => ∃ (k : Nat) (sd : Int), k ≤ b.sells.length ∧ m = b.sells.length - k ∧ v7 = .int .i64 k ∧ v6 = .int .i64 sd ∧ Hid (sd = anyT (b.sells.take k) e.target) ∧ Hid (RfL w b (.slice A1 n1 c1) (.slice A2 b.sells.length c2) e K ⟨1, e.id, e.target, 0, 1, 5, 262143, 1, 0⟩ wr))
  case atStart => exact ⟨0, 1, by omega, by omega, rfl, rfl, Lib.hid rfl, HV1⟩
  case round =>
    obtain ⟨k, sd, hk, hm, rfl, rfl, HSd, HV⟩ := hrel
    have HMs := Lib.hid hm
    clear hm HV1 b0 b1 b2 b3 b4 b5 bf bl e0 e1 e2 e3 e4 e5 e6 e7 e8 e9 e10 e11 e12 ef el
    obtain ⟨b0, b1, b2, b3, b4, b5, bf, bl⟩ := blk_cellsof HV.out.b
    obtain ⟨e0, e1, e2, e3, e4, e5, e6, e7, e8, e9, e10, e11, e12, ef, el⟩ := evt_cells HV.out.e
    by_cases hlt : k < b.sells.length
    · have hkI : (k : Int) < (b.sells.length : Int) := by omega
      have hx : b.sells[k]? = some b.sells[k] := List.getElem?_eq_getElem hlt
      obtain ⟨g, off, rfl, _, _, ha⟩ := (HL.out.nil HV.out.o).get hx
      have a0 := ha.c0
      have lg := ha.lt
      have HX := Lib.hid hx
      generalize b.sells[k] = x at *
      clear ha hx
      by_cases he : x.id = e.target
      · have hb : (x.id == e.target) = true := by simp [he]
        have HS1 : Hid ((2 : Int) = anyT (b.sells.take (k + 1)) e.target) := Lib.hid (anyT_hit HX.out he).symm
        clear he
        go_upto_region 27 with fail
        go_quiet (fail)
        go_wp2
        go_roundg (b.sells.length - (k + 1))
        case measure => have := HMs.out; omega
        case rel => exact ⟨k + 1, 2, by omega, rfl, by go_num, rfl, HS1, Lib.hid (HV.out.nil ((Only.refl _ _).drewN _))⟩
      · have hb : (x.id == e.target) = false := by simp [he]
        have HS1 : Hid (sd = anyT (b.sells.take (k + 1)) e.target) := Lib.hid (HSd.out.trans (anyT_miss HX.out he).symm)
        clear he
        go_upto_region 27 with fail
        go_quiet (fail)
        go_wp2
        go_roundg (b.sells.length - (k + 1))
        case measure => have := HMs.out; omega
        case rel => exact ⟨k + 1, sd, by omega, rfl, by go_num, rfl, HS1, Lib.hid (HV.out.nil ((Only.refl _ _).drewN _))⟩
    · have he : k = b.sells.length := by omega
      subst he
      have hkI : ¬ ((b.sells.length : Int) < (b.sells.length : Int)) := by omega
      rw [List.take_length] at HSd
      have hsd := HSd.out
      obtain ⟨d0, d1', d2', d3, d4, d5, d6, d7, d8, df, dl⟩ := cm_cells HV.out.k
      rcases anyT_two b.sells e.target with hq | hq
      · by_cases hl : b.sells.length = 0
        · have hl0 : ((b.sells.length : Int) == 0) = true := by rw [hl]; rfl
          have HS99 : Hid (side99 b e = 2) := Lib.hid (side99_empty HT0.out hl)
          rw [hq] at hsd
          subst hsd
          clear hq HSd hl
          go_upto_region 32 with fail
          generalize hW : World.setCell wr _ _ = Wa
          have hW' : wr.setCell ⟨K, 4, none⟩ (.int .i64 2) = Wa := hW
          have HVa : Hid (RfL w b (.slice A1 n1 c1) (.slice A2 b.sells.length c2) e K ⟨1, e.id, e.target, 0, 2, 5, 262143, 1, 0⟩ Wa) := Lib.hid (by rw [← hW']; exact HV.out.set rfl)
          clear hW hW' HV e0 e1 e2 e3 e4 e5 e6 e7 e8 e9 e10 e11 e12 ef el d0 d1' d2' d3 d4 d5 d6 d7 d8 df dl b0 b1 b2 b3 b4 b5 bf bl
          obtain ⟨e0, e1, e2, e3, e4, e5, e6, e7, e8, e9, e10, e11, e12, ef, el⟩ := evt_cells HVa.out.e
          obtain ⟨d0, d1', d2', d3, d4, d5, d6, d7, d8, df, dl⟩ := cm_cells HVa.out.k
          go_upto_region 34 with fail
          generalize hW : World.setCell Wa _ _ = Wb
          have hW' : Wa.setCell ⟨K, 6, none⟩ (.int .i64 0) = Wb := hW
          have HVb : Hid (RfL w b (.slice A1 n1 c1) (.slice A2 b.sells.length c2) e K ⟨1, e.id, e.target, 0, 2, 5, 0, 1, 0⟩ Wb) := Lib.hid (by rw [← hW']; exact HVa.out.set rfl)
          clear hW hW' HVa e0 e1 e2 e3 e4 e5 e6 e7 e8 e9 e10 e11 e12 ef el d0 d1' d2' d3 d4 d5 d6 d7 d8 df dl
          obtain ⟨d0, d1', d2', d3, d4, d5, d6, d7, d8, df, dl⟩ := cm_cells HVb.out.k
          obtain ⟨hr1, hr2⟩ := HVb.out.ret
          have HR1 := Lib.hid hr1
          have HR2 := Lib.hid hr2
          clear hr1 hr2
          go_wp2_with (refine wpList_store_row rfl tCm (.tmp 4) (.tmp 78) rfl _ rfl (cmRow ⟨1, e.id, e.target, 0, 2, 5, 0, 1, 0⟩) (cmRow zCm) rfl _ HVb.out.r infoCm rfl (one_cm _) ?_)
          rw [HE.out, HS99.out]
          exact bodyPost_ret (results_cell_row rfl _ _ _ _ _ _ _ rfl HR1.out Try.underlying39 rfl infoCm) rfl ⟨rfl, HR2.out⟩
        · have hl0 : ((b.sells.length : Int) == 0) = false := beq_eq_false_iff_ne.2 (by omega)
          have HS99 : Hid (side99 b e = 1) := Lib.hid (side99_no hq (.inr hl))
          rw [hq] at hsd
          subst hsd
          clear hq HSd hl
          go_upto_region 32 with fail
          generalize hW : World.setCell wr _ _ = Wa
          have hW' : wr.setCell ⟨K, 4, none⟩ (.int .i64 1) = Wa := hW
          have HVa : Hid (RfL w b (.slice A1 n1 c1) (.slice A2 b.sells.length c2) e K ⟨1, e.id, e.target, 0, 1, 5, 262143, 1, 0⟩ Wa) := Lib.hid (by rw [← hW']; exact HV.out.set rfl)
          clear hW hW' HV e0 e1 e2 e3 e4 e5 e6 e7 e8 e9 e10 e11 e12 ef el d0 d1' d2' d3 d4 d5 d6 d7 d8 df dl b0 b1 b2 b3 b4 b5 bf bl
          obtain ⟨e0, e1, e2, e3, e4, e5, e6, e7, e8, e9, e10, e11, e12, ef, el⟩ := evt_cells HVa.out.e
          obtain ⟨d0, d1', d2', d3, d4, d5, d6, d7, d8, df, dl⟩ := cm_cells HVa.out.k
          obtain ⟨hr1, hr2⟩ := HVa.out.ret
          have HR1 := Lib.hid hr1
          have HR2 := Lib.hid hr2
          clear hr1 hr2
          go_wp2_with (refine wpList_store_row rfl tCm (.tmp 4) (.tmp 78) rfl _ rfl (cmRow ⟨1, e.id, e.target, 0, 1, 5, 262143, 1, 0⟩) (cmRow zCm) rfl _ HVa.out.r infoCm rfl (one_cm _) ?_)
          rw [HE.out, HS99.out]
          exact bodyPost_ret (results_cell_row rfl _ _ _ _ _ _ _ rfl HR1.out Try.underlying39 rfl infoCm) rfl ⟨rfl, HR2.out⟩
      · have HS99 : Hid (side99 b e = 2) := Lib.hid (side99_hit hq)
        rw [hq] at hsd
        subst hsd
        clear hq HSd
        by_cases hl : b.sells.length = 0
        · have hl0 : ((b.sells.length : Int) == 0) = true := by rw [hl]; rfl
          clear hl
          go_upto_region 32 with fail
          generalize hW : World.setCell wr _ _ = Wa
          have hW' : wr.setCell ⟨K, 4, none⟩ (.int .i64 2) = Wa := hW
          have HVa : Hid (RfL w b (.slice A1 n1 c1) (.slice A2 b.sells.length c2) e K ⟨1, e.id, e.target, 0, 2, 5, 262143, 1, 0⟩ Wa) := Lib.hid (by rw [← hW']; exact HV.out.set rfl)
          clear hW hW' HV e0 e1 e2 e3 e4 e5 e6 e7 e8 e9 e10 e11 e12 ef el d0 d1' d2' d3 d4 d5 d6 d7 d8 df dl b0 b1 b2 b3 b4 b5 bf bl
          obtain ⟨e0, e1, e2, e3, e4, e5, e6, e7, e8, e9, e10, e11, e12, ef, el⟩ := evt_cells HVa.out.e
          obtain ⟨d0, d1', d2', d3, d4, d5, d6, d7, d8, df, dl⟩ := cm_cells HVa.out.k
          go_upto_region 34 with fail
          generalize hW : World.setCell Wa _ _ = Wb
          have hW' : Wa.setCell ⟨K, 6, none⟩ (.int .i64 0) = Wb := hW
          have HVb : Hid (RfL w b (.slice A1 n1 c1) (.slice A2 b.sells.length c2) e K ⟨1, e.id, e.target, 0, 2, 5, 0, 1, 0⟩ Wb) := Lib.hid (by rw [← hW']; exact HVa.out.set rfl)
          clear hW hW' HVa e0 e1 e2 e3 e4 e5 e6 e7 e8 e9 e10 e11 e12 ef el d0 d1' d2' d3 d4 d5 d6 d7 d8 df dl
          obtain ⟨d0, d1', d2', d3, d4, d5, d6, d7, d8, df, dl⟩ := cm_cells HVb.out.k
          obtain ⟨hr1, hr2⟩ := HVb.out.ret
          have HR1 := Lib.hid hr1
          have HR2 := Lib.hid hr2
          clear hr1 hr2
          go_wp2_with (refine wpList_store_row rfl tCm (.tmp 4) (.tmp 78) rfl _ rfl (cmRow ⟨1, e.id, e.target, 0, 2, 5, 0, 1, 0⟩) (cmRow zCm) rfl _ HVb.out.r infoCm rfl (one_cm _) ?_)
          rw [HE.out, HS99.out]
          exact bodyPost_ret (results_cell_row rfl _ _ _ _ _ _ _ rfl HR1.out Try.underlying39 rfl infoCm) rfl ⟨rfl, HR2.out⟩
        · have hl0 : ((b.sells.length : Int) == 0) = false := beq_eq_false_iff_ne.2 (by omega)
          clear hl
          go_upto_region 32 with fail
          generalize hW : World.setCell wr _ _ = Wa
          have hW' : wr.setCell ⟨K, 4, none⟩ (.int .i64 2) = Wa := hW
          have HVa : Hid (RfL w b (.slice A1 n1 c1) (.slice A2 b.sells.length c2) e K ⟨1, e.id, e.target, 0, 2, 5, 262143, 1, 0⟩ Wa) := Lib.hid (by rw [← hW']; exact HV.out.set rfl)
          clear hW hW' HV e0 e1 e2 e3 e4 e5 e6 e7 e8 e9 e10 e11 e12 ef el d0 d1' d2' d3 d4 d5 d6 d7 d8 df dl b0 b1 b2 b3 b4 b5 bf bl
          obtain ⟨e0, e1, e2, e3, e4, e5, e6, e7, e8, e9, e10, e11, e12, ef, el⟩ := evt_cells HVa.out.e
          obtain ⟨d0, d1', d2', d3, d4, d5, d6, d7, d8, df, dl⟩ := cm_cells HVa.out.k
          go_upto_region 34 with fail
          generalize hW : World.setCell Wa _ _ = Wb
          have hW' : Wa.setCell ⟨K, 6, none⟩ (.int .i64 0) = Wb := hW
          have HVb : Hid (RfL w b (.slice A1 n1 c1) (.slice A2 b.sells.length c2) e K ⟨1, e.id, e.target, 0, 2, 5, 0, 1, 0⟩ Wb) := Lib.hid (by rw [← hW']; exact HVa.out.set rfl)
          clear hW hW' HVa e0 e1 e2 e3 e4 e5 e6 e7 e8 e9 e10 e11 e12 ef el d0 d1' d2' d3 d4 d5 d6 d7 d8 df dl
          obtain ⟨d0, d1', d2', d3, d4, d5, d6, d7, d8, df, dl⟩ := cm_cells HVb.out.k
          obtain ⟨hr1, hr2⟩ := HVb.out.ret
          have HR1 := Lib.hid hr1
          have HR2 := Lib.hid hr2
          clear hr1 hr2
          go_wp2_with (refine wpList_store_row rfl tCm (.tmp 4) (.tmp 78) rfl _ rfl (cmRow ⟨1, e.id, e.target, 0, 2, 5, 0, 1, 0⟩) (cmRow zCm) rfl _ HVb.out.r infoCm rfl (one_cm _) ?_)
          rw [HE.out, HS99.out]
          exact bodyPost_ret (results_cell_row rfl _ _ _ _ _ _ _ rfl HR1.out Try.underlying39 rfl infoCm) rfl ⟨rfl, HR2.out⟩
set_option maxHeartbeats 1600000 in
set_option maxRecDepth 100000 in
theorem ref99_3 (b : Bk) (v1 v2 : Value) (e : Ev) (w : World) (i1 : IsSl v1) (h2 : LR w v2 b.sells) (ht : (e.target != 0) = true) (g90 : (e.code == 90) = false) (g91 : (e.code == 91) = false) (g92 : (e.code == 92) = false) (g93 : (e.code == 93) = false) (g94 : (e.code == 94) = false) (g95 : (e.code == 95) = false) (g96 : (e.code == 96) = false) (g99 : (e.code == 99) = true) (res : Cm) (HE : Hid (res = ⟨3, e.id, e.target, 0, side99 b e, 5, if side99 b e = 2 then 0 else 262143, 1, 0⟩)) :
    Calls Try.prog 22 #[.agg (bkRow b v1 v2), .agg e.row] w fun r w' => r = .returned (.agg (cmRow res)) ∧ Only Nil w w' := by
  have htz : (e.target == 0) = false := by simp at ht; simp [ht]
  have HT0 := Lib.hid (show e.target ≠ 0 by simpa using ht)
  have HL := Lib.hid h2
  obtain ⟨A1, n1, c1, rfl⟩ := i1
  obtain ⟨A2, c2, rfl, q1, q2⟩ := h2.sl
  have hm1 : b.sells.length ≤ 9223372036854775807 := by omega
  clear h2 q1 q2
  go_enter Try.func22, Try.ntmps22
  unfold bkRow Ev.row
  go_upto_region 2 with fail
  generalize hW : World.alloc (World.alloc (World.alloc (World.alloc w _) _) _) _ = W0
  have HV0 := Lib.hid (refusing_begin (w := w) (b := b) (v1 := .slice A1 n1 c1) (v2 := .slice A2 b.sells.length c2) (e := e) (c := refC e 1))
  have hW' : ((((w.alloc (.cells (bkRow b (.slice A1 n1 c1) (.slice A2 b.sells.length c2)) tBk)).alloc (.cells e.row tEvt)).alloc (.cells (cmRow zCm) tCm)).alloc (.cells (cmRow (refC e 1)) tCm)) = W0 := hW
  rw [hW'] at HV0
  clear hW hW'
  generalize w.heap.size + 1 + 1 + 1 = K at *
  obtain ⟨e0, e1, e2, e3, e4, e5, e6, e7, e8, e9, e10, e11, e12, ef, el⟩ := evt_cells HV0.out.e
  obtain ⟨d0, d1', d2', d3, d4, d5, d6, d7, d8, df, dl⟩ := cm_cells HV0.out.k
  go_upto_region 4 with fail
  generalize hW : World.setCell W0 _ _ = W1
  have hW' : W0.setCell ⟨K, 0, none⟩ (.int .i64 3) = W1 := hW
  have HV1 : Hid (RfL w b (.slice A1 n1 c1) (.slice A2 b.sells.length c2) e K (refC e 3) W1) := Lib.hid (by rw [← hW']; exact HV0.out.set rfl)
  clear hW hW' HV0 e0 e1 e2 e3 e4 e5 e6 e7 e8 e9 e10 e11 e12 ef el d0 d1' d2' d3 d4 d5 d6 d7 d8 df dl
  obtain ⟨e0, e1, e2, e3, e4, e5, e6, e7, e8, e9, e10, e11, e12, ef, el⟩ := evt_cells HV1.out.e
  obtain ⟨d0, d1', d2', d3, d4, d5, d6, d7, d8, df, dl⟩ := cm_cells HV1.out.k
  go_upto_region 23 with fail
  generalize hW : World.setCell (World.setCell W1 _ _) _ _ = W2
  have hW' : (W1.setCell ⟨K, 5, none⟩ (.int .i64 5)).setCell ⟨K, 6, none⟩ (.int .i64 262143) = W2 := hW
  have HV2 : Hid (RfL w b (.slice A1 n1 c1) (.slice A2 b.sells.length c2) e K ⟨3, e.id, e.target, 0, 1, 5, 262143, 1, 0⟩ W2) := Lib.hid (by rw [← hW']; exact RfL.set (c := ⟨3, e.id, e.target, 0, 1, 5, 1, 1, 0⟩) (HV1.out.set rfl) rfl)
  clear hW hW' HV1 e0 e1 e2 e3 e4 e5 e6 e7 e8 e9 e10 e11 e12 ef el d0 d1' d2' d3 d4 d5 d6 d7 d8 df dl g90 g91 g92 g93 g94 g95 g96 g99 ht
  obtain ⟨b0, b1, b2, b3, b4, b5, bf, bl⟩ := blk_cellsof HV2.out.b
  obtain ⟨e0, e1, e2, e3, e4, e5, e6, e7, e8, e9, e10, e11, e12, ef, el⟩ := evt_cells HV2.out.e
  go_wp2
  go_loopg [6, 7] (b.sells.length) (fun m v6 v7 wr => ∃ (k : Nat) (sd : Int), k ≤ b.sells.length ∧ m = b.sells.length - k ∧ v7 = .int .i64 k ∧ v6 = .int .i64 sd ∧ Hid (sd = anyT (b.sells.take k) e.target) ∧ Hid (RfL w b (.slice A1 n1 c1) (.slice A2 b.sells.length c2) e K ⟨3, e.id, e.target, 0, 1, 5, 262143, 1, 0⟩ wr))
  case atStart => exact ⟨0, 1, by omega, by omega, rfl, rfl, Lib.hid rfl, HV2⟩
  case round =>
    obtain ⟨k, sd, hk, hm, rfl, rfl, HSd, HV⟩ := hrel
    have HMs := Lib.hid hm
    clear hm HV2 b0 b1 b2 b3 b4 b5 bf bl e0 e1 e2 e3 e4 e5 e6 e7 e8 e9 e10 e11 e12 ef el
    obtain ⟨b0, b1, b2, b3, b4, b5, bf, bl⟩ := blk_cellsof HV.out.b
    obtain ⟨e0, e1, e2, e3, e4, e5, e6, e7, e8, e9, e10, e11, e12, ef, el⟩ := evt_cells HV.out.e
    by_cases hlt : k < b.sells.length
    · have hkI : (k : Int) < (b.sells.length : Int) := by omega
      have hx : b.sells[k]? = some b.sells[k] := List.getElem?_eq_getElem hlt
      obtain ⟨g, off, rfl, _, _, ha⟩ := (HL.out.nil HV.out.o).get hx
      have a0 := ha.c0
      have lg := ha.lt
      have HX := Lib.hid hx
      generalize b.sells[k] = x at *
      clear ha hx
      by_cases he : x.id = e.target
      · have hb : (x.id == e.target) = true := by simp [he]
        have HS1 : Hid ((2 : Int) = anyT (b.sells.take (k + 1)) e.target) := Lib.hid (anyT_hit HX.out he).symm
        clear he
        go_upto_region 27 with fail
        go_quiet (fail)
        go_wp2
        go_roundg (b.sells.length - (k + 1))
        case measure => have := HMs.out; omega
        case rel => exact ⟨k + 1, 2, by omega, rfl, by go_num, rfl, HS1, Lib.hid (HV.out.nil ((Only.refl _ _).drewN _))⟩
      · have hb : (x.id == e.target) = false := by simp [he]
        have HS1 : Hid (sd = anyT (b.sells.take (k + 1)) e.target) := Lib.hid (HSd.out.trans (anyT_miss HX.out he).symm)
        clear he
        go_upto_region 27 with fail
        go_quiet (fail)
        go_wp2
        go_roundg (b.sells.length - (k + 1))
        case measure => have := HMs.out; omega
        case rel => exact ⟨k + 1, sd, by omega, rfl, by go_num, rfl, HS1, Lib.hid (HV.out.nil ((Only.refl _ _).drewN _))⟩
    · have he : k = b.sells.length := by omega
      subst he
      have hkI : ¬ ((b.sells.length : Int) < (b.sells.length : Int)) := by omega
      rw [List.take_length] at HSd
      have hsd := HSd.out
      obtain ⟨d0, d1', d2', d3, d4, d5, d6, d7, d8, df, dl⟩ := cm_cells HV.out.k
      rcases anyT_two b.sells e.target with hq | hq
      · have HS99 : Hid (side99 b e = 1) := Lib.hid (side99_no hq (.inl HT0.out))
        rw [hq] at hsd
        subst hsd
        clear hq HSd
        go_upto_region 32 with fail
        generalize hW : World.setCell wr _ _ = Wa
        have hW' : wr.setCell ⟨K, 4, none⟩ (.int .i64 1) = Wa := hW
        have HVa : Hid (RfL w b (.slice A1 n1 c1) (.slice A2 b.sells.length c2) e K ⟨3, e.id, e.target, 0, 1, 5, 262143, 1, 0⟩ Wa) := Lib.hid (by rw [← hW']; exact HV.out.set rfl)
        clear hW hW' HV e0 e1 e2 e3 e4 e5 e6 e7 e8 e9 e10 e11 e12 ef el d0 d1' d2' d3 d4 d5 d6 d7 d8 df dl b0 b1 b2 b3 b4 b5 bf bl
        obtain ⟨e0, e1, e2, e3, e4, e5, e6, e7, e8, e9, e10, e11, e12, ef, el⟩ := evt_cells HVa.out.e
        obtain ⟨d0, d1', d2', d3, d4, d5, d6, d7, d8, df, dl⟩ := cm_cells HVa.out.k
        obtain ⟨hr1, hr2⟩ := HVa.out.ret
        have HR1 := Lib.hid hr1
        have HR2 := Lib.hid hr2
        clear hr1 hr2
        go_wp2_with (refine wpList_store_row rfl tCm (.tmp 4) (.tmp 78) rfl _ rfl (cmRow ⟨3, e.id, e.target, 0, 1, 5, 262143, 1, 0⟩) (cmRow zCm) rfl _ HVa.out.r infoCm rfl (one_cm _) ?_)
        rw [HE.out, HS99.out]
        exact bodyPost_ret (results_cell_row rfl _ _ _ _ _ _ _ rfl HR1.out Try.underlying39 rfl infoCm) rfl ⟨rfl, HR2.out⟩
      · have HS99 : Hid (side99 b e = 2) := Lib.hid (side99_hit hq)
        rw [hq] at hsd
        subst hsd
        clear hq HSd
        go_upto_region 32 with fail
        generalize hW : World.setCell wr _ _ = Wa
        have hW' : wr.setCell ⟨K, 4, none⟩ (.int .i64 2) = Wa := hW
        have HVa : Hid (RfL w b (.slice A1 n1 c1) (.slice A2 b.sells.length c2) e K ⟨3, e.id, e.target, 0, 2, 5, 262143, 1, 0⟩ Wa) := Lib.hid (by rw [← hW']; exact HV.out.set rfl)
        clear hW hW' HV e0 e1 e2 e3 e4 e5 e6 e7 e8 e9 e10 e11 e12 ef el d0 d1' d2' d3 d4 d5 d6 d7 d8 df dl b0 b1 b2 b3 b4 b5 bf bl
        obtain ⟨e0, e1, e2, e3, e4, e5, e6, e7, e8, e9, e10, e11, e12, ef, el⟩ := evt_cells HVa.out.e
        obtain ⟨d0, d1', d2', d3, d4, d5, d6, d7, d8, df, dl⟩ := cm_cells HVa.out.k
        go_upto_region 34 with fail
        generalize hW : World.setCell Wa _ _ = Wb
        have hW' : Wa.setCell ⟨K, 6, none⟩ (.int .i64 0) = Wb := hW
        have HVb : Hid (RfL w b (.slice A1 n1 c1) (.slice A2 b.sells.length c2) e K ⟨3, e.id, e.target, 0, 2, 5, 0, 1, 0⟩ Wb) := Lib.hid (by rw [← hW']; exact HVa.out.set rfl)
        clear hW hW' HVa e0 e1 e2 e3 e4 e5 e6 e7 e8 e9 e10 e11 e12 ef el d0 d1' d2' d3 d4 d5 d6 d7 d8 df dl
        obtain ⟨d0, d1', d2', d3, d4, d5, d6, d7, d8, df, dl⟩ := cm_cells HVb.out.k
        obtain ⟨hr1, hr2⟩ := HVb.out.ret
        have HR1 := Lib.hid hr1
        have HR2 := Lib.hid hr2
        clear hr1 hr2
        go_wp2_with (refine wpList_store_row rfl tCm (.tmp 4) (.tmp 78) rfl _ rfl (cmRow ⟨3, e.id, e.target, 0, 2, 5, 0, 1, 0⟩) (cmRow zCm) rfl _ HVb.out.r infoCm rfl (one_cm _) ?_)
        rw [HE.out, HS99.out]
        exact bodyPost_ret (results_cell_row rfl _ _ _ _ _ _ _ rfl HR1.out Try.underlying39 rfl infoCm) rfl ⟨rfl, HR2.out⟩
theorem refusing_any (b : Bk) (v1 v2 : Value) (e : Ev) (w : World) (h1 : LR w v1 b.buys) (h2 : LR w v2 b.sells) :
    Calls Try.prog 22 #[.agg (bkRow b v1 v2), .agg e.row] w fun r w' => r = .returned (.agg (cmRow (refusingR b e))) ∧ Only Nil w w' := by
  have i1 := h1.isSl
  have i2 := h2.isSl
  have nb : ∀ n : Int, e.code ≠ n → (e.code == n) = false := fun n h => by simp [h]
  have yb : ∀ n : Int, e.code = n → (e.code == n) = true := fun n h => by simp [h]
  by_cases ht : e.target = 0
  · have htb : (e.target != 0) = false := by simp [ht]
    have hk : (if e.target ≠ 0 then (3 : Int) else 1) = 1 := by rw [if_neg (by simp [ht])]
    by_cases q90 : e.code = 90
    · exact ref90_1 b v1 v2 e w i1 i2 htb (yb 90 q90) _ (Lib.hid (by unfold refusingR; simp only; rw [if_pos q90]))
    by_cases q91 : e.code = 91
    · by_cases hid : e.id = 0
      · exact ref91a_1 b v1 v2 e w i1 i2 htb (nb 90 q90) (yb 91 q91) (by simp [hid]) _ (Lib.hid (by unfold refusingR; simp only; rw [if_neg q90]; rw [if_pos q91]; rw [if_pos hid]))
      · exact ref91b_1 b v1 v2 e w i1 i2 htb (nb 90 q90) (yb 91 q91) (by simp [hid]) _ (Lib.hid (by unfold refusingR; simp only; rw [if_neg q90]; rw [if_pos q91]; rw [if_neg hid]; rfl))
    by_cases q92 : e.code = 92
    · exact ref92_1 b v1 v2 e w i1 i2 htb (nb 90 q90) (nb 91 q91) (yb 92 q92) _ (Lib.hid (by unfold refusingR; simp only; rw [if_neg q90]; rw [if_neg q91]; rw [if_pos q92]; rw [hk]))
    by_cases q93 : e.code = 93
    · exact ref93_1 b v1 v2 e w i1 i2 htb (nb 90 q90) (nb 91 q91) (nb 92 q92) (yb 93 q93) _ (Lib.hid (by unfold refusingR; simp only; rw [if_neg q90]; rw [if_neg q91]; rw [if_neg q92]; rw [if_pos q93]; rw [hk]))
    by_cases q94 : e.code = 94
    · exact ref94_1 b v1 v2 e w i1 i2 htb (nb 90 q90) (nb 91 q91) (nb 92 q92) (nb 93 q93) (yb 94 q94) _ (Lib.hid (by unfold refusingR; simp only; rw [if_neg q90]; rw [if_neg q91]; rw [if_neg q92]; rw [if_neg q93]; rw [if_pos q94]; rw [hk]))
    by_cases q95 : e.code = 95
    · exact ref95_1 b v1 v2 e w i1 i2 htb (nb 90 q90) (nb 91 q91) (nb 92 q92) (nb 93 q93) (nb 94 q94) (yb 95 q95) _ (Lib.hid (by unfold refusingR; simp only; rw [if_neg q90]; rw [if_neg q91]; rw [if_neg q92]; rw [if_neg q93]; rw [if_neg q94]; rw [if_pos q95]; rw [hk]))
    by_cases q96 : e.code = 96
    · exact ref96_1 b v1 v2 e w i1 i2 htb (nb 90 q90) (nb 91 q91) (nb 92 q92) (nb 93 q93) (nb 94 q94) (nb 95 q95) (yb 96 q96) _ (Lib.hid (by unfold refusingR; simp only; rw [if_neg q90]; rw [if_neg q91]; rw [if_neg q92]; rw [if_neg q93]; rw [if_neg q94]; rw [if_neg q95]; rw [if_pos q96]; rw [hk]))
    by_cases q99 : e.code = 99
    · exact ref99_1 b v1 v2 e w i1 h2 htb (nb 90 q90) (nb 91 q91) (nb 92 q92) (nb 93 q93) (nb 94 q94) (nb 95 q95) (nb 96 q96) (yb 99 q99) _ (Lib.hid (by unfold refusingR; simp only; rw [if_neg q90]; rw [if_neg q91]; rw [if_neg q92]; rw [if_neg q93]; rw [if_neg q94]; rw [if_neg q95]; rw [if_neg q96]; rw [if_pos q99]; rw [hk]; rfl))
    exact refo_1 b v1 v2 e w i1 i2 htb (nb 90 q90) (nb 91 q91) (nb 92 q92) (nb 93 q93) (nb 94 q94) (nb 95 q95) (nb 96 q96) (nb 99 q99) _ (Lib.hid (by unfold refusingR; simp only; rw [if_neg q90]; rw [if_neg q91]; rw [if_neg q92]; rw [if_neg q93]; rw [if_neg q94]; rw [if_neg q95]; rw [if_neg q96]; rw [if_neg q99]; rw [hk]; rfl))
  · have htb : (e.target != 0) = true := by simp [ht]
    have hk : (if e.target ≠ 0 then (3 : Int) else 1) = 3 := by rw [if_pos ht]
    by_cases q90 : e.code = 90
    · exact ref90_3 b v1 v2 e w i1 i2 htb (yb 90 q90) _ (Lib.hid (by unfold refusingR; simp only; rw [if_pos q90]))
    by_cases q91 : e.code = 91
    · by_cases hid : e.id = 0
      · exact ref91a_3 b v1 v2 e w i1 i2 htb (nb 90 q90) (yb 91 q91) (by simp [hid]) _ (Lib.hid (by unfold refusingR; simp only; rw [if_neg q90]; rw [if_pos q91]; rw [if_pos hid]))
      · exact ref91b_3 b v1 v2 e w i1 i2 htb (nb 90 q90) (yb 91 q91) (by simp [hid]) _ (Lib.hid (by unfold refusingR; simp only; rw [if_neg q90]; rw [if_pos q91]; rw [if_neg hid]; rfl))
    by_cases q92 : e.code = 92
    · exact ref92_3 b v1 v2 e w i1 i2 htb (nb 90 q90) (nb 91 q91) (yb 92 q92) _ (Lib.hid (by unfold refusingR; simp only; rw [if_neg q90]; rw [if_neg q91]; rw [if_pos q92]; rw [hk]))
    by_cases q93 : e.code = 93
    · exact ref93_3 b v1 v2 e w i1 i2 htb (nb 90 q90) (nb 91 q91) (nb 92 q92) (yb 93 q93) _ (Lib.hid (by unfold refusingR; simp only; rw [if_neg q90]; rw [if_neg q91]; rw [if_neg q92]; rw [if_pos q93]; rw [hk]))
    by_cases q94 : e.code = 94
    · exact ref94_3 b v1 v2 e w i1 i2 htb (nb 90 q90) (nb 91 q91) (nb 92 q92) (nb 93 q93) (yb 94 q94) _ (Lib.hid (by unfold refusingR; simp only; rw [if_neg q90]; rw [if_neg q91]; rw [if_neg q92]; rw [if_neg q93]; rw [if_pos q94]; rw [hk]))
    by_cases q95 : e.code = 95
    · exact ref95_3 b v1 v2 e w i1 i2 htb (nb 90 q90) (nb 91 q91) (nb 92 q92) (nb 93 q93) (nb 94 q94) (yb 95 q95) _ (Lib.hid (by unfold refusingR; simp only; rw [if_neg q90]; rw [if_neg q91]; rw [if_neg q92]; rw [if_neg q93]; rw [if_neg q94]; rw [if_pos q95]; rw [hk]))
    by_cases q96 : e.code = 96
    · exact ref96_3 b v1 v2 e w i1 i2 htb (nb 90 q90) (nb 91 q91) (nb 92 q92) (nb 93 q93) (nb 94 q94) (nb 95 q95) (yb 96 q96) _ (Lib.hid (by unfold refusingR; simp only; rw [if_neg q90]; rw [if_neg q91]; rw [if_neg q92]; rw [if_neg q93]; rw [if_neg q94]; rw [if_neg q95]; rw [if_pos q96]; rw [hk]))
    by_cases q99 : e.code = 99
    · exact ref99_3 b v1 v2 e w i1 h2 htb (nb 90 q90) (nb 91 q91) (nb 92 q92) (nb 93 q93) (nb 94 q94) (nb 95 q95) (nb 96 q96) (yb 99 q99) _ (Lib.hid (by unfold refusingR; simp only; rw [if_neg q90]; rw [if_neg q91]; rw [if_neg q92]; rw [if_neg q93]; rw [if_neg q94]; rw [if_neg q95]; rw [if_neg q96]; rw [if_pos q99]; rw [hk]; rfl))
    exact refo_3 b v1 v2 e w i1 i2 htb (nb 90 q90) (nb 91 q91) (nb 92 q92) (nb 93 q93) (nb 94 q94) (nb 95 q95) (nb 96 q96) (nb 99 q99) _ (Lib.hid (by unfold refusingR; simp only; rw [if_neg q90]; rw [if_neg q91]; rw [if_neg q92]; rw [if_neg q93]; rw [if_neg q94]; rw [if_neg q95]; rw [if_neg q96]; rw [if_neg q99]; rw [hk]; rfl))
end Ck
end Go.Proofs.Ytcnkbhgdcfckoaa

/- The walk of acked. -/
import Derived.Test.YtcnkbhgdcfckoaaMm
import Derived.Test.YtcnkbhgdcfckoaaMn
import Derived.Test.YtcnkbhgdcfckoaaMl
import Derived.Test.YtcnkbhgdcfckoaaMc
set_option linter.unusedVariables false
set_option linter.unusedSimpArgs false
namespace Go.Proofs.Ytcnkbhgdcfckoaa
open Go.RowKit
namespace Ck
/-- What stands in the cell, the order that comes being new. -/
def NowNew (w w' : World) (now : Option Cg) (p6 : Value) : Prop := (now = none ∧ p6 = .pointer none) ∨ ∃ c G, now = some c ∧ p6 = .pointer (some ⟨G, 0, none⟩) ∧ CgAt w' G c ∧ w.heap.size ≤ G
set_option maxHeartbeats 1600000 in
set_option maxRecDepth 100000 in
theorem acked_no (C : Nat) (b : Bk) (e : Ev) (i : Bool) (v1 v2 p6 p7 : Value) (w : World) (h : BkRep w C b v1 v2 p6 p7) (hb : b.ok) (hw : e.wf) (hc : canCome b e i = false) :
    Calls Try.prog 31 #[.pointer (some ⟨C, 0, none⟩), .agg e.row, .bool i] w fun r w' => r = .returned (.int .i64 191) ∧ Only Nil w w' := by
  have HC := Lib.hid (fun W (ho : Only Nil w W) => canCome_any C b e i v1 v2 p6 p7 W (h.nil ho) hb hw)
  rw [hc] at HC
  have HE0 := Lib.hid (blk_new w (.cells e.row tEvt))
  have HO0 := Lib.hid ((Only.refl Nil w).alloc (.cells e.row tEvt))
  clear h hb hw hc
  go_enter Try.func31, Try.ntmps31
  unfold Ev.row
  go_wp2_with fail
  refine (HC.out _ HO0.out).mono ?_
  rintro x w1 ⟨rfl, ho⟩
  go_wp2
  go_ret
  exact ⟨rfl, HO0.out.trans ho (fun _ _ h => h)⟩
set_option maxHeartbeats 3200000 in
set_option maxRecDepth 100000 in
theorem acked_yes (C : Nat) (b : Bk) (e : Ev) (i : Bool) (v1 v2 p6 p7 : Value) (w : World) (h : BkRep w C b v1 v2 p6 p7) (hb : b.ok) (hq : Quiet b) (hw : e.wf) (hroom : i = true → b.count + 1 ≤ 4096) (hc : canCome b e i = true) :
    Calls Try.prog 31 #[.pointer (some ⟨C, 0, none⟩), .agg e.row, .bool i] w fun r w' => r = .returned (.int .i64 0) ∧
      ∃ v1' v2' p6', BkRep w' C (settles { b with high := e.id } (coming e)).1 v1' v2' p6' (.pointer none) ∧ NowNew w w' (settles { b with high := e.id } (coming e)).2 p6' ∧ Fresh w C v1 v2 v1' v2' ∧ Only (Mine C v1 v2) w w' := by
  obtain ⟨hb2, hc2, hlt⟩ := coming_ok hb hq hw hroom hc
  have Hb2 := Lib.hid hb2
  have Hc2 := Lib.hid hc2
  have HC := Lib.hid (fun W (ho : Only Nil w W) => canCome_any C b e i v1 v2 p6 p7 W (h.nil ho) hb hw)
  rw [hc] at HC
  have HX := Lib.hid h
  have HE0 := Lib.hid (blk_new w (.cells e.row tEvt))
  have HO0 := Lib.hid ((Only.refl Nil w).alloc (.cells e.row tEvt))
  clear h hb hw hc hq hroom hb2 hc2 hlt
  go_enter Try.func31, Try.ntmps31
  unfold Ev.row
  go_wp2_with fail
  refine (HC.out _ HO0.out).mono ?_
  rintro x w1 ⟨rfl, ho⟩
  have HE1 : Hid (w1.heap[w.heap.size]? = some (.cells e.row tEvt (0, 0))) := Lib.hid (ho.blk HE0.out (fun h => h))
  have HO1 : Hid (Only Nil w w1) := Lib.hid (HO0.out.trans (S := Nil) ho (fun _ _ h => h))
  have HX1 := Lib.hid (HX.out.nil HO1.out)
  clear ho HE0 HO0 HX
  have a7 := blk_cell HX1.out.blk 7
  have af := fun k => blk_frozen HX1.out.blk k
  have al := blk_lt HX1.out.blk
  simp only [List.getElem?_toArray, List.getElem?_cons_zero, List.getElem?_cons_succ] at a7
  go_upto_region 4 with fail
  generalize hW : World.setCell w1 _ _ = W2
  have hW' : w1.setCell ⟨C, 7, none⟩ (.pointer none) = W2 := hW
  have HX2 : Hid (BkRep W2 C b v1 v2 p6 (.pointer none)) := Lib.hid (by rw [← hW']; exact HX1.out.set7 _)
  have HE2 : Hid (W2.heap[w.heap.size]? = some (.cells e.row tEvt (0, 0))) := Lib.hid (by rw [← hW']; exact blk_far HE1.out (blk_ne HE1.out HX1.out.blk (by decide)) _)
  have HO2 : Hid (Only (Mine C v1 v2) w W2) := Lib.hid (by rw [← hW']; exact (HO1.out.mono (fun _ _ h => h.elim)).setCell (p := ⟨C, 7, none⟩) (.inl (.inl rfl)) _)
  clear hW hW' a7 af al HX1 HE1 HO1
  obtain ⟨e0, e1, e2, e3, e4, e5, e6, e7, e8, e9, e10, e11, e12, ef, el⟩ := ev_cells HE2.out
  have a4 := blk_cell HX2.out.blk 4
  have af := fun k => blk_frozen HX2.out.blk k
  have al := blk_lt HX2.out.blk
  simp only [List.getElem?_toArray, List.getElem?_cons_zero, List.getElem?_cons_succ] at a4
  go_upto_region 5 with fail
  generalize hW : World.setCell W2 _ _ = W3
  have hW' : W2.setCell ⟨C, 4, none⟩ (.int .u64 e.id) = W3 := hW
  have HX3 : Hid (BkRep W3 C { b with high := e.id } v1 v2 p6 (.pointer none)) := Lib.hid (by rw [← hW']; exact HX2.out.set4 _)
  have HE3 : Hid (W3.heap[w.heap.size]? = some (.cells e.row tEvt (0, 0))) := Lib.hid (by rw [← hW']; exact blk_far HE2.out (blk_ne HE2.out HX2.out.blk (by decide)) _)
  have HO3 : Hid (Only (Mine C v1 v2) w W3) := Lib.hid (by rw [← hW']; exact HO2.out.setCell (p := ⟨C, 4, none⟩) (.inl (.inl rfl)) _)
  clear hW hW' a4 af al HX2 HE2 HO2 e0 e1 e2 e3 e4 e5 e6 e7 e8 e9 e10 e11 e12 ef el
  obtain ⟨e0, e1, e2, e3, e4, e5, e6, e7, e8, e9, e10, e11, e12, ef, el⟩ := ev_cells HE3.out
  have a6 := blk_cell HX3.out.blk 6
  have af := fun k => blk_frozen HX3.out.blk k
  have al := blk_lt HX3.out.blk
  simp only [List.getElem?_toArray, List.getElem?_cons_zero, List.getElem?_cons_succ] at a6
  go_upto_region 6 with fail
  generalize hW : World.alloc (World.setCell W3 _ _) _ = W4
  have hW' : (W3.setCell ⟨C, 6, none⟩ (.pointer (some ⟨W3.heap.size, 0, none⟩))).alloc (.cells (coming e).row tCg) = W4 := hW
  have hX4 : BkRep W4 C { b with high := e.id } v1 v2 (.pointer (some ⟨W3.heap.size, 0, none⟩)) (.pointer none) := by rw [← hW']; exact (HX3.out.set6 _).nil ((Only.refl Nil _).alloc _)
  have hG4 : CgAt W4 W3.heap.size (coming e) := by rw [← hW']; exact blk_new' _ _ _ (by simp)
  have HO4 : Hid (Only (Mine C v1 v2) w W4) := Lib.hid (by rw [← hW']; exact (HO3.out.setCell (p := ⟨C, 6, none⟩) (.inl (.inl rfl)) _).alloc _)
  have hGw : w.heap.size ≤ W3.heap.size := HO3.out.size
  clear hW hW' a6 af al HX3 HE3 HO3 e0 e1 e2 e3 e4 e5 e6 e7 e8 e9 e10 e11 e12 ef el
  generalize W3.heap.size = G at *
  have HSt := Lib.hid (settles_any C G { b with high := e.id } (coming e) v1 v2 _ W4 hX4 hG4 Hb2.out Hc2.out (fun _ => ⟨rfl, rfl⟩))
  clear hX4 hG4
  go_wp2_with fail
  refine HSt.out.mono ?_
  rintro x w5 ⟨rfl, v1', v2', p6', hx, hnow, hfr, ho⟩
  go_wp2
  go_ret
  refine ⟨rfl, v1', v2', p6', hx, ?_, fun k hk => (hfr k hk).imp id (fun q => Nat.le_trans HO4.out.size q), HO4.out.trans ho (fun _ _ h => h)⟩
  rcases hnow with ⟨q1, q2, q3⟩ | ⟨q1, q2⟩
  · exact .inr ⟨_, _, q1, q2, q3, hGw⟩
  · exact .inl ⟨q1, q2⟩
end Ck
end Go.Proofs.Ytcnkbhgdcfckoaa

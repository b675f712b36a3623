/- The walk of the law's refusing. -/
import Derived.Test.YtcnkbhgdcfckoaaNp
import Derived.Test.YtcnkbhgdcfckoaaMc
set_option linter.unusedVariables false
set_option linter.unusedSimpArgs false
namespace Go.Proofs.Ytcnkbhgdcfckoaa
open Go.RowKit
namespace Ck
def zCm : Cm := ⟨0, 0, 0, 0, 0, 0, 0, 0, 0⟩
theorem infoCm : (Try.prog.info? tCm).map (·.size) = some 9 := by kernel_rfl
theorem one_cm (c : Cm) : (cmRow c).all (·.oneCell') = true := by cases c; kernel_rfl
theorem laysCm : Lays tCm (cmRow zCm) := fun W => by kernel_rfl
/-- On the way through refusing: the boxes of the book and the event, the result's variable, the command. -/
structure RfL (w : World) (b : Bk) (v1 v2 : Value) (e : Ev) (K : Nat) (c : Cm) (W : World) : Prop where
  b : W.heap[w.heap.size]? = some (.cells (bkRow b v1 v2) tBk (0, 0))
  e : W.heap[w.heap.size + 1]? = some (.cells e.row tEvt (0, 0))
  r : W.heap[w.heap.size + 1 + 1]? = some (.cells (cmRow zCm) tCm (0, 0))
  k : W.heap[K]? = some (.cells (cmRow c) tCm (0, 0))
  o : Only Nil w W
  n : w.heap.size + 1 + 1 < K
theorem RfL.nil {w W W1 : World} {b : Bk} {v1 v2 : Value} {e : Ev} {K : Nat} {c : Cm} (h : RfL w b v1 v2 e K c W) (ho : Only Nil W W1) : RfL w b v1 v2 e K c W1 :=
  ⟨ho.blk h.b (fun q => q), ho.blk h.e (fun q => q), ho.blk h.r (fun q => q), ho.blk h.k (fun q => q), h.o.trans ho (fun _ _ q => q), h.n⟩
theorem RfL.set {w W : World} {b : Bk} {v1 v2 : Value} {e : Ev} {K : Nat} {c : Cm} (h : RfL w b v1 v2 e K c W) {i : Nat} {u : Value} {c' : Cm} (hc : (cmRow c).setIfInBounds i u = cmRow c') : RfL w b v1 v2 e K c' (W.setCell ⟨K, i, none⟩ u) := by
  have ho : Only (fun k => k = K) W (W.setCell ⟨K, i, none⟩ u) := (Only.refl (fun k => k = K) W).setCell (p := ⟨K, i, none⟩) (.inl rfl) u
  have hn := h.n
  exact ⟨ho.blk h.b (fun q => blk_ne h.b h.k (by decide) q), ho.blk h.e (fun q => blk_ne h.e h.k (by decide) q), ho.blk h.r (fun q => by omega), by rw [← hc]; exact blk_set h.k i u, h.o.setCell (p := ⟨K, i, none⟩) (.inr (by show w.heap.size ≤ K; omega)) _, h.n⟩
theorem refusing_begin {w : World} {b : Bk} {v1 v2 : Value} {e : Ev} {c : Cm} :
    RfL w b v1 v2 e (w.heap.size + 1 + 1 + 1) c ((((w.alloc (.cells (bkRow b v1 v2) tBk)).alloc (.cells e.row tEvt)).alloc (.cells (cmRow zCm) tCm)).alloc (.cells (cmRow c) tCm)) :=
  ⟨blk_alloc (blk_alloc (blk_alloc (blk_new _ _) _) _) _, blk_alloc (blk_alloc (blk_new' _ _ _ (by simp)) _) _, blk_alloc (blk_new' _ _ _ (by simp)) _, blk_new' _ _ _ (by simp), (((((Only.refl Nil w).alloc _).alloc _).alloc _).alloc _), by omega⟩
theorem RfL.ret {w W : World} {b : Bk} {v1 v2 : Value} {e : Ev} {K : Nat} {c : Cm} (h : RfL w b v1 v2 e K c W) :
    (W.setRow (w.heap.size + 1 + 1) (cmRow c)).heap[w.heap.size + 1 + 1]? = some (.cells (cmRow c) tCm (0, 0)) ∧ Only Nil w (W.setRow (w.heap.size + 1 + 1) (cmRow c)) :=
  ⟨blk_setRow h.r _, h.o.setRow (.inr (by omega)) _⟩
def refC (e : Ev) (k : Int) : Cm := ⟨k, e.id, e.target, 0, 1, 1, 1, 1, 0⟩
set_option maxHeartbeats 1600000 in
set_option maxRecDepth 100000 in
theorem ref90_1 (b : Bk) (v1 v2 : Value) (e : Ev) (w : World) (i1 : IsSl v1) (i2 : IsSl v2) (ht : (e.target != 0) = false) (g90 : (e.code == 90) = true) (res : Cm) (HE : Hid (res = ⟨9, e.id, e.target, 0, 1, 1, 1, 1, 0⟩)) :
    Calls Try.prog 22 #[.agg (bkRow b v1 v2), .agg e.row] w fun r w' => r = .returned (.agg (cmRow res)) ∧ Only Nil w w' := by
  obtain ⟨A1, n1, c1, rfl⟩ := i1
  obtain ⟨A2, n2, c2, rfl⟩ := i2
  go_enter Try.func22, Try.ntmps22
  unfold bkRow Ev.row
  go_upto_region 2 with fail
  generalize hW : World.alloc (World.alloc (World.alloc (World.alloc w _) _) _) _ = W0
  have HV0 := Lib.hid (refusing_begin (w := w) (b := b) (v1 := .slice A1 n1 c1) (v2 := .slice A2 n2 c2) (e := e) (c := refC e 1))
  have hW' : ((((w.alloc (.cells (bkRow b (.slice A1 n1 c1) (.slice A2 n2 c2)) tBk)).alloc (.cells e.row tEvt)).alloc (.cells (cmRow zCm) tCm)).alloc (.cells (cmRow (refC e 1)) tCm)) = W0 := hW
  rw [hW'] at HV0
  clear hW hW'
  generalize w.heap.size + 1 + 1 + 1 = K at *
  obtain ⟨e0, e1, e2, e3, e4, e5, e6, e7, e8, e9, e10, e11, e12, ef, el⟩ := evt_cells HV0.out.e
  obtain ⟨d0, d1', d2', d3, d4, d5, d6, d7, d8, df, dl⟩ := cm_cells HV0.out.k
  go_upto_region 34 with fail
  generalize hW : World.setCell W0 _ _ = W1
  have hW' : W0.setCell ⟨K, 0, none⟩ (.int .i64 9) = W1 := hW
  have HV1 : Hid (RfL w b (.slice A1 n1 c1) (.slice A2 n2 c2) e K ⟨9, e.id, e.target, 0, 1, 1, 1, 1, 0⟩ W1) := Lib.hid (by rw [← hW']; exact HV0.out.set rfl)
  clear hW hW' HV0 e0 e1 e2 e3 e4 e5 e6 e7 e8 e9 e10 e11 e12 ef el d0 d1' d2' d3 d4 d5 d6 d7 d8 df dl
  obtain ⟨e0, e1, e2, e3, e4, e5, e6, e7, e8, e9, e10, e11, e12, ef, el⟩ := evt_cells HV1.out.e
  obtain ⟨d0, d1', d2', d3, d4, d5, d6, d7, d8, df, dl⟩ := cm_cells HV1.out.k
  obtain ⟨hr1, hr2⟩ := HV1.out.ret
  have HR1 := Lib.hid hr1
  have HR2 := Lib.hid hr2
  clear hr1 hr2
  go_wp2_with (refine wpList_store_row rfl tCm (.tmp 4) (.tmp 78) rfl _ rfl (cmRow ⟨9, e.id, e.target, 0, 1, 1, 1, 1, 0⟩) (cmRow zCm) rfl _ HV1.out.r infoCm rfl (one_cm _) ?_)
  rw [HE.out]
  exact bodyPost_ret (results_cell_row rfl _ _ _ _ _ _ _ rfl HR1.out Try.underlying39 rfl infoCm) rfl ⟨rfl, HR2.out⟩
set_option maxHeartbeats 1600000 in
set_option maxRecDepth 100000 in
theorem ref92_1 (b : Bk) (v1 v2 : Value) (e : Ev) (w : World) (i1 : IsSl v1) (i2 : IsSl v2) (ht : (e.target != 0) = false) (g90 : (e.code == 90) = false) (g91 : (e.code == 91) = false) (g92 : (e.code == 92) = true) (res : Cm) (HE : Hid (res = ⟨1, e.id, e.target, 0, 0, 1, 1, 1, 0⟩)) :
    Calls Try.prog 22 #[.agg (bkRow b v1 v2), .agg e.row] w fun r w' => r = .returned (.agg (cmRow res)) ∧ Only Nil w w' := by
  obtain ⟨A1, n1, c1, rfl⟩ := i1
  obtain ⟨A2, n2, c2, rfl⟩ := i2
  go_enter Try.func22, Try.ntmps22
  unfold bkRow Ev.row
  go_upto_region 2 with fail
  generalize hW : World.alloc (World.alloc (World.alloc (World.alloc w _) _) _) _ = W0
  have HV0 := Lib.hid (refusing_begin (w := w) (b := b) (v1 := .slice A1 n1 c1) (v2 := .slice A2 n2 c2) (e := e) (c := refC e 1))
  have hW' : ((((w.alloc (.cells (bkRow b (.slice A1 n1 c1) (.slice A2 n2 c2)) tBk)).alloc (.cells e.row tEvt)).alloc (.cells (cmRow zCm) tCm)).alloc (.cells (cmRow (refC e 1)) tCm)) = W0 := hW
  rw [hW'] at HV0
  clear hW hW'
  generalize w.heap.size + 1 + 1 + 1 = K at *
  obtain ⟨e0, e1, e2, e3, e4, e5, e6, e7, e8, e9, e10, e11, e12, ef, el⟩ := evt_cells HV0.out.e
  obtain ⟨d0, d1', d2', d3, d4, d5, d6, d7, d8, df, dl⟩ := cm_cells HV0.out.k
  go_upto_region 34 with fail
  generalize hW : World.setCell W0 _ _ = W1
  have hW' : W0.setCell ⟨K, 4, none⟩ (.int .i64 0) = W1 := hW
  have HV1 : Hid (RfL w b (.slice A1 n1 c1) (.slice A2 n2 c2) e K ⟨1, e.id, e.target, 0, 0, 1, 1, 1, 0⟩ W1) := Lib.hid (by rw [← hW']; exact HV0.out.set rfl)
  clear hW hW' HV0 e0 e1 e2 e3 e4 e5 e6 e7 e8 e9 e10 e11 e12 ef el d0 d1' d2' d3 d4 d5 d6 d7 d8 df dl
  obtain ⟨e0, e1, e2, e3, e4, e5, e6, e7, e8, e9, e10, e11, e12, ef, el⟩ := evt_cells HV1.out.e
  obtain ⟨d0, d1', d2', d3, d4, d5, d6, d7, d8, df, dl⟩ := cm_cells HV1.out.k
  obtain ⟨hr1, hr2⟩ := HV1.out.ret
  have HR1 := Lib.hid hr1
  have HR2 := Lib.hid hr2
  clear hr1 hr2
  go_wp2_with (refine wpList_store_row rfl tCm (.tmp 4) (.tmp 78) rfl _ rfl (cmRow ⟨1, e.id, e.target, 0, 0, 1, 1, 1, 0⟩) (cmRow zCm) rfl _ HV1.out.r infoCm rfl (one_cm _) ?_)
  rw [HE.out]
  exact bodyPost_ret (results_cell_row rfl _ _ _ _ _ _ _ rfl HR1.out Try.underlying39 rfl infoCm) rfl ⟨rfl, HR2.out⟩
set_option maxHeartbeats 1600000 in
set_option maxRecDepth 100000 in
theorem ref93_1 (b : Bk) (v1 v2 : Value) (e : Ev) (w : World) (i1 : IsSl v1) (i2 : IsSl v2) (ht : (e.target != 0) = false) (g90 : (e.code == 90) = false) (g91 : (e.code == 91) = false) (g92 : (e.code == 92) = false) (g93 : (e.code == 93) = true) (res : Cm) (HE : Hid (res = ⟨1, e.id, e.target, 0, 1, 0, 1, 1, 0⟩)) :
    Calls Try.prog 22 #[.agg (bkRow b v1 v2), .agg e.row] w fun r w' => r = .returned (.agg (cmRow res)) ∧ Only Nil w w' := by
  obtain ⟨A1, n1, c1, rfl⟩ := i1
  obtain ⟨A2, n2, c2, rfl⟩ := i2
  go_enter Try.func22, Try.ntmps22
  unfold bkRow Ev.row
  go_upto_region 2 with fail
  generalize hW : World.alloc (World.alloc (World.alloc (World.alloc w _) _) _) _ = W0
  have HV0 := Lib.hid (refusing_begin (w := w) (b := b) (v1 := .slice A1 n1 c1) (v2 := .slice A2 n2 c2) (e := e) (c := refC e 1))
  have hW' : ((((w.alloc (.cells (bkRow b (.slice A1 n1 c1) (.slice A2 n2 c2)) tBk)).alloc (.cells e.row tEvt)).alloc (.cells (cmRow zCm) tCm)).alloc (.cells (cmRow (refC e 1)) tCm)) = W0 := hW
  rw [hW'] at HV0
  clear hW hW'
  generalize w.heap.size + 1 + 1 + 1 = K at *
  obtain ⟨e0, e1, e2, e3, e4, e5, e6, e7, e8, e9, e10, e11, e12, ef, el⟩ := evt_cells HV0.out.e
  obtain ⟨d0, d1', d2', d3, d4, d5, d6, d7, d8, df, dl⟩ := cm_cells HV0.out.k
  go_upto_region 34 with fail
  generalize hW : World.setCell W0 _ _ = W1
  have hW' : W0.setCell ⟨K, 5, none⟩ (.int .i64 0) = W1 := hW
  have HV1 : Hid (RfL w b (.slice A1 n1 c1) (.slice A2 n2 c2) e K ⟨1, e.id, e.target, 0, 1, 0, 1, 1, 0⟩ W1) := Lib.hid (by rw [← hW']; exact HV0.out.set rfl)
  clear hW hW' HV0 e0 e1 e2 e3 e4 e5 e6 e7 e8 e9 e10 e11 e12 ef el d0 d1' d2' d3 d4 d5 d6 d7 d8 df dl
  obtain ⟨e0, e1, e2, e3, e4, e5, e6, e7, e8, e9, e10, e11, e12, ef, el⟩ := evt_cells HV1.out.e
  obtain ⟨d0, d1', d2', d3, d4, d5, d6, d7, d8, df, dl⟩ := cm_cells HV1.out.k
  obtain ⟨hr1, hr2⟩ := HV1.out.ret
  have HR1 := Lib.hid hr1
  have HR2 := Lib.hid hr2
  clear hr1 hr2
  go_wp2_with (refine wpList_store_row rfl tCm (.tmp 4) (.tmp 78) rfl _ rfl (cmRow ⟨1, e.id, e.target, 0, 1, 0, 1, 1, 0⟩) (cmRow zCm) rfl _ HV1.out.r infoCm rfl (one_cm _) ?_)
  rw [HE.out]
  exact bodyPost_ret (results_cell_row rfl _ _ _ _ _ _ _ rfl HR1.out Try.underlying39 rfl infoCm) rfl ⟨rfl, HR2.out⟩
set_option maxHeartbeats 1600000 in
set_option maxRecDepth 100000 in
theorem ref94_1 (b : Bk) (v1 v2 : Value) (e : Ev) (w : World) (i1 : IsSl v1) (i2 : IsSl v2) (ht : (e.target != 0) = false) (g90 : (e.code == 90) = false) (g91 : (e.code == 91) = false) (g92 : (e.code == 92) = false) (g93 : (e.code == 93) = false) (g94 : (e.code == 94) = true) (res : Cm) (HE : Hid (res = ⟨1, e.id, e.target, 0, 1, 1, -1, 1, 0⟩)) :
    Calls Try.prog 22 #[.agg (bkRow b v1 v2), .agg e.row] w fun r w' => r = .returned (.agg (cmRow res)) ∧ Only Nil w w' := by
  obtain ⟨A1, n1, c1, rfl⟩ := i1
  obtain ⟨A2, n2, c2, rfl⟩ := i2
  go_enter Try.func22, Try.ntmps22
  unfold bkRow Ev.row
  go_upto_region 2 with fail
  generalize hW : World.alloc (World.alloc (World.alloc (World.alloc w _) _) _) _ = W0
  have HV0 := Lib.hid (refusing_begin (w := w) (b := b) (v1 := .slice A1 n1 c1) (v2 := .slice A2 n2 c2) (e := e) (c := refC e 1))
  have hW' : ((((w.alloc (.cells (bkRow b (.slice A1 n1 c1) (.slice A2 n2 c2)) tBk)).alloc (.cells e.row tEvt)).alloc (.cells (cmRow zCm) tCm)).alloc (.cells (cmRow (refC e 1)) tCm)) = W0 := hW
  rw [hW'] at HV0
  clear hW hW'
  generalize w.heap.size + 1 + 1 + 1 = K at *
  obtain ⟨e0, e1, e2, e3, e4, e5, e6, e7, e8, e9, e10, e11, e12, ef, el⟩ := evt_cells HV0.out.e
  obtain ⟨d0, d1', d2', d3, d4, d5, d6, d7, d8, df, dl⟩ := cm_cells HV0.out.k
  go_upto_region 34 with fail
  generalize hW : World.setCell W0 _ _ = W1
  have hW' : W0.setCell ⟨K, 6, none⟩ (.int .i64 (-1)) = W1 := hW
  have HV1 : Hid (RfL w b (.slice A1 n1 c1) (.slice A2 n2 c2) e K ⟨1, e.id, e.target, 0, 1, 1, -1, 1, 0⟩ W1) := Lib.hid (by rw [← hW']; exact HV0.out.set rfl)
  clear hW hW' HV0 e0 e1 e2 e3 e4 e5 e6 e7 e8 e9 e10 e11 e12 ef el d0 d1' d2' d3 d4 d5 d6 d7 d8 df dl
  obtain ⟨e0, e1, e2, e3, e4, e5, e6, e7, e8, e9, e10, e11, e12, ef, el⟩ := evt_cells HV1.out.e
  obtain ⟨d0, d1', d2', d3, d4, d5, d6, d7, d8, df, dl⟩ := cm_cells HV1.out.k
  obtain ⟨hr1, hr2⟩ := HV1.out.ret
  have HR1 := Lib.hid hr1
  have HR2 := Lib.hid hr2
  clear hr1 hr2
  go_wp2_with (refine wpList_store_row rfl tCm (.tmp 4) (.tmp 78) rfl _ rfl (cmRow ⟨1, e.id, e.target, 0, 1, 1, -1, 1, 0⟩) (cmRow zCm) rfl _ HV1.out.r infoCm rfl (one_cm _) ?_)
  rw [HE.out]
  exact bodyPost_ret (results_cell_row rfl _ _ _ _ _ _ _ rfl HR1.out Try.underlying39 rfl infoCm) rfl ⟨rfl, HR2.out⟩
set_option maxHeartbeats 1600000 in
set_option maxRecDepth 100000 in
theorem ref95_1 (b : Bk) (v1 v2 : Value) (e : Ev) (w : World) (i1 : IsSl v1) (i2 : IsSl v2) (ht : (e.target != 0) = false) (g90 : (e.code == 90) = false) (g91 : (e.code == 91) = false) (g92 : (e.code == 92) = false) (g93 : (e.code == 93) = false) (g94 : (e.code == 94) = false) (g95 : (e.code == 95) = true) (res : Cm) (HE : Hid (res = ⟨1, e.id, e.target, 0, 1, 1, 1, 0, 0⟩)) :
    Calls Try.prog 22 #[.agg (bkRow b v1 v2), .agg e.row] w fun r w' => r = .returned (.agg (cmRow res)) ∧ Only Nil w w' := by
  obtain ⟨A1, n1, c1, rfl⟩ := i1
  obtain ⟨A2, n2, c2, rfl⟩ := i2
  go_enter Try.func22, Try.ntmps22
  unfold bkRow Ev.row
  go_upto_region 2 with fail
  generalize hW : World.alloc (World.alloc (World.alloc (World.alloc w _) _) _) _ = W0
  have HV0 := Lib.hid (refusing_begin (w := w) (b := b) (v1 := .slice A1 n1 c1) (v2 := .slice A2 n2 c2) (e := e) (c := refC e 1))
  have hW' : ((((w.alloc (.cells (bkRow b (.slice A1 n1 c1) (.slice A2 n2 c2)) tBk)).alloc (.cells e.row tEvt)).alloc (.cells (cmRow zCm) tCm)).alloc (.cells (cmRow (refC e 1)) tCm)) = W0 := hW
  rw [hW'] at HV0
  clear hW hW'
  generalize w.heap.size + 1 + 1 + 1 = K at *
  obtain ⟨e0, e1, e2, e3, e4, e5, e6, e7, e8, e9, e10, e11, e12, ef, el⟩ := evt_cells HV0.out.e
  obtain ⟨d0, d1', d2', d3, d4, d5, d6, d7, d8, df, dl⟩ := cm_cells HV0.out.k
  go_upto_region 34 with fail
  generalize hW : World.setCell W0 _ _ = W1
  have hW' : W0.setCell ⟨K, 7, none⟩ (.int .u64 0) = W1 := hW
  have HV1 : Hid (RfL w b (.slice A1 n1 c1) (.slice A2 n2 c2) e K ⟨1, e.id, e.target, 0, 1, 1, 1, 0, 0⟩ W1) := Lib.hid (by rw [← hW']; exact HV0.out.set rfl)
  clear hW hW' HV0 e0 e1 e2 e3 e4 e5 e6 e7 e8 e9 e10 e11 e12 ef el d0 d1' d2' d3 d4 d5 d6 d7 d8 df dl
  obtain ⟨e0, e1, e2, e3, e4, e5, e6, e7, e8, e9, e10, e11, e12, ef, el⟩ := evt_cells HV1.out.e
  obtain ⟨d0, d1', d2', d3, d4, d5, d6, d7, d8, df, dl⟩ := cm_cells HV1.out.k
  obtain ⟨hr1, hr2⟩ := HV1.out.ret
  have HR1 := Lib.hid hr1
  have HR2 := Lib.hid hr2
  clear hr1 hr2
  go_wp2_with (refine wpList_store_row rfl tCm (.tmp 4) (.tmp 78) rfl _ rfl (cmRow ⟨1, e.id, e.target, 0, 1, 1, 1, 0, 0⟩) (cmRow zCm) rfl _ HV1.out.r infoCm rfl (one_cm _) ?_)
  rw [HE.out]
  exact bodyPost_ret (results_cell_row rfl _ _ _ _ _ _ _ rfl HR1.out Try.underlying39 rfl infoCm) rfl ⟨rfl, HR2.out⟩
set_option maxHeartbeats 1600000 in
set_option maxRecDepth 100000 in
theorem ref96_1 (b : Bk) (v1 v2 : Value) (e : Ev) (w : World) (i1 : IsSl v1) (i2 : IsSl v2) (ht : (e.target != 0) = false) (g90 : (e.code == 90) = false) (g91 : (e.code == 91) = false) (g92 : (e.code == 92) = false) (g93 : (e.code == 93) = false) (g94 : (e.code == 94) = false) (g95 : (e.code == 95) = false) (g96 : (e.code == 96) = true) (res : Cm) (HE : Hid (res = ⟨1, e.id, e.target, 0, 1, 1, 1, 1, 2⟩)) :
    Calls Try.prog 22 #[.agg (bkRow b v1 v2), .agg e.row] w fun r w' => r = .returned (.agg (cmRow res)) ∧ Only Nil w w' := by
  obtain ⟨A1, n1, c1, rfl⟩ := i1
  obtain ⟨A2, n2, c2, rfl⟩ := i2
  go_enter Try.func22, Try.ntmps22
  unfold bkRow Ev.row
  go_upto_region 2 with fail
  generalize hW : World.alloc (World.alloc (World.alloc (World.alloc w _) _) _) _ = W0
  have HV0 := Lib.hid (refusing_begin (w := w) (b := b) (v1 := .slice A1 n1 c1) (v2 := .slice A2 n2 c2) (e := e) (c := refC e 1))
  have hW' : ((((w.alloc (.cells (bkRow b (.slice A1 n1 c1) (.slice A2 n2 c2)) tBk)).alloc (.cells e.row tEvt)).alloc (.cells (cmRow zCm) tCm)).alloc (.cells (cmRow (refC e 1)) tCm)) = W0 := hW
  rw [hW'] at HV0
  clear hW hW'
  generalize w.heap.size + 1 + 1 + 1 = K at *
  obtain ⟨e0, e1, e2, e3, e4, e5, e6, e7, e8, e9, e10, e11, e12, ef, el⟩ := evt_cells HV0.out.e
  obtain ⟨d0, d1', d2', d3, d4, d5, d6, d7, d8, df, dl⟩ := cm_cells HV0.out.k
  go_upto_region 34 with fail
  generalize hW : World.setCell W0 _ _ = W1
  have hW' : W0.setCell ⟨K, 8, none⟩ (.int .u64 2) = W1 := hW
  have HV1 : Hid (RfL w b (.slice A1 n1 c1) (.slice A2 n2 c2) e K ⟨1, e.id, e.target, 0, 1, 1, 1, 1, 2⟩ W1) := Lib.hid (by rw [← hW']; exact HV0.out.set rfl)
  clear hW hW' HV0 e0 e1 e2 e3 e4 e5 e6 e7 e8 e9 e10 e11 e12 ef el d0 d1' d2' d3 d4 d5 d6 d7 d8 df dl
  obtain ⟨e0, e1, e2, e3, e4, e5, e6, e7, e8, e9, e10, e11, e12, ef, el⟩ := evt_cells HV1.out.e
  obtain ⟨d0, d1', d2', d3, d4, d5, d6, d7, d8, df, dl⟩ := cm_cells HV1.out.k
  obtain ⟨hr1, hr2⟩ := HV1.out.ret
  have HR1 := Lib.hid hr1
  have HR2 := Lib.hid hr2
  clear hr1 hr2
  go_wp2_with (refine wpList_store_row rfl tCm (.tmp 4) (.tmp 78) rfl _ rfl (cmRow ⟨1, e.id, e.target, 0, 1, 1, 1, 1, 2⟩) (cmRow zCm) rfl _ HV1.out.r infoCm rfl (one_cm _) ?_)
  rw [HE.out]
  exact bodyPost_ret (results_cell_row rfl _ _ _ _ _ _ _ rfl HR1.out Try.underlying39 rfl infoCm) rfl ⟨rfl, HR2.out⟩
set_option maxHeartbeats 1600000 in
set_option maxRecDepth 100000 in
theorem ref91a_1 (b : Bk) (v1 v2 : Value) (e : Ev) (w : World) (i1 : IsSl v1) (i2 : IsSl v2) (ht : (e.target != 0) = false) (g90 : (e.code == 90) = false) (g91 : (e.code == 91) = true) (hid : (e.id == 0) = true) (res : Cm) (HE : Hid (res = ⟨2, e.id, e.target, 0, 1, 1, 1, 1, 0⟩)) :
    Calls Try.prog 22 #[.agg (bkRow b v1 v2), .agg e.row] w fun r w' => r = .returned (.agg (cmRow res)) ∧ Only Nil w w' := by
  obtain ⟨A1, n1, c1, rfl⟩ := i1
  obtain ⟨A2, n2, c2, rfl⟩ := i2
  go_enter Try.func22, Try.ntmps22
  unfold bkRow Ev.row
  go_upto_region 2 with fail
  generalize hW : World.alloc (World.alloc (World.alloc (World.alloc w _) _) _) _ = W0
  have HV0 := Lib.hid (refusing_begin (w := w) (b := b) (v1 := .slice A1 n1 c1) (v2 := .slice A2 n2 c2) (e := e) (c := refC e 1))
  have hW' : ((((w.alloc (.cells (bkRow b (.slice A1 n1 c1) (.slice A2 n2 c2)) tBk)).alloc (.cells e.row tEvt)).alloc (.cells (cmRow zCm) tCm)).alloc (.cells (cmRow (refC e 1)) tCm)) = W0 := hW
  rw [hW'] at HV0
  clear hW hW'
  generalize w.heap.size + 1 + 1 + 1 = K at *
  obtain ⟨e0, e1, e2, e3, e4, e5, e6, e7, e8, e9, e10, e11, e12, ef, el⟩ := evt_cells HV0.out.e
  obtain ⟨d0, d1', d2', d3, d4, d5, d6, d7, d8, df, dl⟩ := cm_cells HV0.out.k
  go_upto_region 9 with fail
  generalize hW : World.setCell W0 _ _ = W1
  have hW' : W0.setCell ⟨K, 0, none⟩ (.int .i64 3) = W1 := hW
  have HV1 : Hid (RfL w b (.slice A1 n1 c1) (.slice A2 n2 c2) e K (refC e 3) W1) := Lib.hid (by rw [← hW']; exact HV0.out.set rfl)
  clear hW hW' HV0 e0 e1 e2 e3 e4 e5 e6 e7 e8 e9 e10 e11 e12 ef el d0 d1' d2' d3 d4 d5 d6 d7 d8 df dl
  obtain ⟨e0, e1, e2, e3, e4, e5, e6, e7, e8, e9, e10, e11, e12, ef, el⟩ := evt_cells HV1.out.e
  obtain ⟨d0, d1', d2', d3, d4, d5, d6, d7, d8, df, dl⟩ := cm_cells HV1.out.k
  go_upto_region 34 with fail
  generalize hW : World.setCell W1 _ _ = W2
  have hW' : W1.setCell ⟨K, 0, none⟩ (.int .i64 2) = W2 := hW
  have HV2 : Hid (RfL w b (.slice A1 n1 c1) (.slice A2 n2 c2) e K ⟨2, e.id, e.target, 0, 1, 1, 1, 1, 0⟩ W2) := Lib.hid (by rw [← hW']; exact HV1.out.set rfl)
  clear hW hW' HV1 e0 e1 e2 e3 e4 e5 e6 e7 e8 e9 e10 e11 e12 ef el d0 d1' d2' d3 d4 d5 d6 d7 d8 df dl
  obtain ⟨e0, e1, e2, e3, e4, e5, e6, e7, e8, e9, e10, e11, e12, ef, el⟩ := evt_cells HV2.out.e
  obtain ⟨d0, d1', d2', d3, d4, d5, d6, d7, d8, df, dl⟩ := cm_cells HV2.out.k
  obtain ⟨hr1, hr2⟩ := HV2.out.ret
  have HR1 := Lib.hid hr1
  have HR2 := Lib.hid hr2
  clear hr1 hr2
  go_wp2_with (refine wpList_store_row rfl tCm (.tmp 4) (.tmp 78) rfl _ rfl (cmRow ⟨2, e.id, e.target, 0, 1, 1, 1, 1, 0⟩) (cmRow zCm) rfl _ HV2.out.r infoCm rfl (one_cm _) ?_)
  rw [HE.out]
  exact bodyPost_ret (results_cell_row rfl _ _ _ _ _ _ _ rfl HR1.out Try.underlying39 rfl infoCm) rfl ⟨rfl, HR2.out⟩
set_option maxHeartbeats 1600000 in
set_option maxRecDepth 100000 in
theorem ref91b_1 (b : Bk) (v1 v2 : Value) (e : Ev) (w : World) (i1 : IsSl v1) (i2 : IsSl v2) (ht : (e.target != 0) = false) (g90 : (e.code == 90) = false) (g91 : (e.code == 91) = true) (hid : (e.id == 0) = false) (res : Cm) (HE : Hid (res = (refC e 3))) :
    Calls Try.prog 22 #[.agg (bkRow b v1 v2), .agg e.row] w fun r w' => r = .returned (.agg (cmRow res)) ∧ Only Nil w w' := by
  obtain ⟨A1, n1, c1, rfl⟩ := i1
  obtain ⟨A2, n2, c2, rfl⟩ := i2
  go_enter Try.func22, Try.ntmps22
  unfold bkRow Ev.row
  go_upto_region 2 with fail
  generalize hW : World.alloc (World.alloc (World.alloc (World.alloc w _) _) _) _ = W0
  have HV0 := Lib.hid (refusing_begin (w := w) (b := b) (v1 := .slice A1 n1 c1) (v2 := .slice A2 n2 c2) (e := e) (c := refC e 1))
  have hW' : ((((w.alloc (.cells (bkRow b (.slice A1 n1 c1) (.slice A2 n2 c2)) tBk)).alloc (.cells e.row tEvt)).alloc (.cells (cmRow zCm) tCm)).alloc (.cells (cmRow (refC e 1)) tCm)) = W0 := hW
  rw [hW'] at HV0
  clear hW hW'
  generalize w.heap.size + 1 + 1 + 1 = K at *
  obtain ⟨e0, e1, e2, e3, e4, e5, e6, e7, e8, e9, e10, e11, e12, ef, el⟩ := evt_cells HV0.out.e
  obtain ⟨d0, d1', d2', d3, d4, d5, d6, d7, d8, df, dl⟩ := cm_cells HV0.out.k
  go_upto_region 9 with fail
  generalize hW : World.setCell W0 _ _ = W1
  have hW' : W0.setCell ⟨K, 0, none⟩ (.int .i64 3) = W1 := hW
  have HV1 : Hid (RfL w b (.slice A1 n1 c1) (.slice A2 n2 c2) e K (refC e 3) W1) := Lib.hid (by rw [← hW']; exact HV0.out.set rfl)
  clear hW hW' HV0 e0 e1 e2 e3 e4 e5 e6 e7 e8 e9 e10 e11 e12 ef el d0 d1' d2' d3 d4 d5 d6 d7 d8 df dl
  obtain ⟨e0, e1, e2, e3, e4, e5, e6, e7, e8, e9, e10, e11, e12, ef, el⟩ := evt_cells HV1.out.e
  obtain ⟨d0, d1', d2', d3, d4, d5, d6, d7, d8, df, dl⟩ := cm_cells HV1.out.k
  obtain ⟨hr1, hr2⟩ := HV1.out.ret
  have HR1 := Lib.hid hr1
  have HR2 := Lib.hid hr2
  clear hr1 hr2
  go_wp2_with (refine wpList_store_row rfl tCm (.tmp 4) (.tmp 78) rfl _ rfl (cmRow (refC e 3)) (cmRow zCm) rfl _ HV1.out.r infoCm rfl (one_cm _) ?_)
  rw [HE.out]
  exact bodyPost_ret (results_cell_row rfl _ _ _ _ _ _ _ rfl HR1.out Try.underlying39 rfl infoCm) rfl ⟨rfl, HR2.out⟩
set_option maxHeartbeats 1600000 in
set_option maxRecDepth 100000 in
theorem refo_1 (b : Bk) (v1 v2 : Value) (e : Ev) (w : World) (i1 : IsSl v1) (i2 : IsSl v2) (ht : (e.target != 0) = false) (g90 : (e.code == 90) = false) (g91 : (e.code == 91) = false) (g92 : (e.code == 92) = false) (g93 : (e.code == 93) = false) (g94 : (e.code == 94) = false) (g95 : (e.code == 95) = false) (g96 : (e.code == 96) = false) (g99 : (e.code == 99) = false) (res : Cm) (HE : Hid (res = (refC e 1))) :
    Calls Try.prog 22 #[.agg (bkRow b v1 v2), .agg e.row] w fun r w' => r = .returned (.agg (cmRow res)) ∧ Only Nil w w' := by
  obtain ⟨A1, n1, c1, rfl⟩ := i1
  obtain ⟨A2, n2, c2, rfl⟩ := i2
  go_enter Try.func22, Try.ntmps22
  unfold bkRow Ev.row
  go_upto_region 2 with fail
  generalize hW : World.alloc (World.alloc (World.alloc (World.alloc w _) _) _) _ = W0
  have HV0 := Lib.hid (refusing_begin (w := w) (b := b) (v1 := .slice A1 n1 c1) (v2 := .slice A2 n2 c2) (e := e) (c := refC e 1))
  have hW' : ((((w.alloc (.cells (bkRow b (.slice A1 n1 c1) (.slice A2 n2 c2)) tBk)).alloc (.cells e.row tEvt)).alloc (.cells (cmRow zCm) tCm)).alloc (.cells (cmRow (refC e 1)) tCm)) = W0 := hW
  rw [hW'] at HV0
  clear hW hW'
  generalize w.heap.size + 1 + 1 + 1 = K at *
  obtain ⟨e0, e1, e2, e3, e4, e5, e6, e7, e8, e9, e10, e11, e12, ef, el⟩ := evt_cells HV0.out.e
  obtain ⟨d0, d1', d2', d3, d4, d5, d6, d7, d8, df, dl⟩ := cm_cells HV0.out.k
  obtain ⟨hr1, hr2⟩ := HV0.out.ret
  have HR1 := Lib.hid hr1
  have HR2 := Lib.hid hr2
  clear hr1 hr2
  go_wp2_with (refine wpList_store_row rfl tCm (.tmp 4) (.tmp 78) rfl _ rfl (cmRow (refC e 1)) (cmRow zCm) rfl _ HV0.out.r infoCm rfl (one_cm _) ?_)
  rw [HE.out]
  exact bodyPost_ret (results_cell_row rfl _ _ _ _ _ _ _ rfl HR1.out Try.underlying39 rfl infoCm) rfl ⟨rfl, HR2.out⟩
set_option maxHeartbeats 1600000 in
set_option maxRecDepth 100000 in
theorem ref90_3 (b : Bk) (v1 v2 : Value) (e : Ev) (w : World) (i1 : IsSl v1) (i2 : IsSl v2) (ht : (e.target != 0) = true) (g90 : (e.code == 90) = true) (res : Cm) (HE : Hid (res = ⟨9, e.id, e.target, 0, 1, 1, 1, 1, 0⟩)) :
    Calls Try.prog 22 #[.agg (bkRow b v1 v2), .agg e.row] w fun r w' => r = .returned (.agg (cmRow res)) ∧ Only Nil w w' := by
  obtain ⟨A1, n1, c1, rfl⟩ := i1
  obtain ⟨A2, n2, c2, rfl⟩ := i2
  go_enter Try.func22, Try.ntmps22
  unfold bkRow Ev.row
  go_upto_region 2 with fail
  generalize hW : World.alloc (World.alloc (World.alloc (World.alloc w _) _) _) _ = W0
  have HV0 := Lib.hid (refusing_begin (w := w) (b := b) (v1 := .slice A1 n1 c1) (v2 := .slice A2 n2 c2) (e := e) (c := refC e 1))
  have hW' : ((((w.alloc (.cells (bkRow b (.slice A1 n1 c1) (.slice A2 n2 c2)) tBk)).alloc (.cells e.row tEvt)).alloc (.cells (cmRow zCm) tCm)).alloc (.cells (cmRow (refC e 1)) tCm)) = W0 := hW
  rw [hW'] at HV0
  clear hW hW'
  generalize w.heap.size + 1 + 1 + 1 = K at *
  obtain ⟨e0, e1, e2, e3, e4, e5, e6, e7, e8, e9, e10, e11, e12, ef, el⟩ := evt_cells HV0.out.e
  obtain ⟨d0, d1', d2', d3, d4, d5, d6, d7, d8, df, dl⟩ := cm_cells HV0.out.k
  go_upto_region 4 with fail
  generalize hW : World.setCell W0 _ _ = W1
  have hW' : W0.setCell ⟨K, 0, none⟩ (.int .i64 3) = W1 := hW
  have HV1 : Hid (RfL w b (.slice A1 n1 c1) (.slice A2 n2 c2) e K (refC e 3) W1) := Lib.hid (by rw [← hW']; exact HV0.out.set rfl)
  clear hW hW' HV0 e0 e1 e2 e3 e4 e5 e6 e7 e8 e9 e10 e11 e12 ef el d0 d1' d2' d3 d4 d5 d6 d7 d8 df dl
  obtain ⟨e0, e1, e2, e3, e4, e5, e6, e7, e8, e9, e10, e11, e12, ef, el⟩ := evt_cells HV1.out.e
  obtain ⟨d0, d1', d2', d3, d4, d5, d6, d7, d8, df, dl⟩ := cm_cells HV1.out.k
  go_upto_region 34 with fail
  generalize hW : World.setCell W1 _ _ = W2
  have hW' : W1.setCell ⟨K, 0, none⟩ (.int .i64 9) = W2 := hW
  have HV2 : Hid (RfL w b (.slice A1 n1 c1) (.slice A2 n2 c2) e K ⟨9, e.id, e.target, 0, 1, 1, 1, 1, 0⟩ W2) := Lib.hid (by rw [← hW']; exact HV1.out.set rfl)
  clear hW hW' HV1 e0 e1 e2 e3 e4 e5 e6 e7 e8 e9 e10 e11 e12 ef el d0 d1' d2' d3 d4 d5 d6 d7 d8 df dl
  obtain ⟨e0, e1, e2, e3, e4, e5, e6, e7, e8, e9, e10, e11, e12, ef, el⟩ := evt_cells HV2.out.e
  obtain ⟨d0, d1', d2', d3, d4, d5, d6, d7, d8, df, dl⟩ := cm_cells HV2.out.k
  obtain ⟨hr1, hr2⟩ := HV2.out.ret
  have HR1 := Lib.hid hr1
  have HR2 := Lib.hid hr2
  clear hr1 hr2
  go_wp2_with (refine wpList_store_row rfl tCm (.tmp 4) (.tmp 78) rfl _ rfl (cmRow ⟨9, e.id, e.target, 0, 1, 1, 1, 1, 0⟩) (cmRow zCm) rfl _ HV2.out.r infoCm rfl (one_cm _) ?_)
  rw [HE.out]
  exact bodyPost_ret (results_cell_row rfl _ _ _ _ _ _ _ rfl HR1.out Try.underlying39 rfl infoCm) rfl ⟨rfl, HR2.out⟩
set_option maxHeartbeats 1600000 in
set_option maxRecDepth 100000 in
theorem ref92_3 (b : Bk) (v1 v2 : Value) (e : Ev) (w : World) (i1 : IsSl v1) (i2 : IsSl v2) (ht : (e.target != 0) = true) (g90 : (e.code == 90) = false) (g91 : (e.code == 91) = false) (g92 : (e.code == 92) = true) (res : Cm) (HE : Hid (res = ⟨3, e.id, e.target, 0, 0, 1, 1, 1, 0⟩)) :
    Calls Try.prog 22 #[.agg (bkRow b v1 v2), .agg e.row] w fun r w' => r = .returned (.agg (cmRow res)) ∧ Only Nil w w' := by
  obtain ⟨A1, n1, c1, rfl⟩ := i1
  obtain ⟨A2, n2, c2, rfl⟩ := i2
  go_enter Try.func22, Try.ntmps22
  unfold bkRow Ev.row
  go_upto_region 2 with fail
  generalize hW : World.alloc (World.alloc (World.alloc (World.alloc w _) _) _) _ = W0
  have HV0 := Lib.hid (refusing_begin (w := w) (b := b) (v1 := .slice A1 n1 c1) (v2 := .slice A2 n2 c2) (e := e) (c := refC e 1))
  have hW' : ((((w.alloc (.cells (bkRow b (.slice A1 n1 c1) (.slice A2 n2 c2)) tBk)).alloc (.cells e.row tEvt)).alloc (.cells (cmRow zCm) tCm)).alloc (.cells (cmRow (refC e 1)) tCm)) = W0 := hW
  rw [hW'] at HV0
  clear hW hW'
  generalize w.heap.size + 1 + 1 + 1 = K at *
  obtain ⟨e0, e1, e2, e3, e4, e5, e6, e7, e8, e9, e10, e11, e12, ef, el⟩ := evt_cells HV0.out.e
  obtain ⟨d0, d1', d2', d3, d4, d5, d6, d7, d8, df, dl⟩ := cm_cells HV0.out.k
  go_upto_region 4 with fail
  generalize hW : World.setCell W0 _ _ = W1
  have hW' : W0.setCell ⟨K, 0, none⟩ (.int .i64 3) = W1 := hW
  have HV1 : Hid (RfL w b (.slice A1 n1 c1) (.slice A2 n2 c2) e K (refC e 3) W1) := Lib.hid (by rw [← hW']; exact HV0.out.set rfl)
  clear hW hW' HV0 e0 e1 e2 e3 e4 e5 e6 e7 e8 e9 e10 e11 e12 ef el d0 d1' d2' d3 d4 d5 d6 d7 d8 df dl
  obtain ⟨e0, e1, e2, e3, e4, e5, e6, e7, e8, e9, e10, e11, e12, ef, el⟩ := evt_cells HV1.out.e
  obtain ⟨d0, d1', d2', d3, d4, d5, d6, d7, d8, df, dl⟩ := cm_cells HV1.out.k
  go_upto_region 34 with fail
  generalize hW : World.setCell W1 _ _ = W2
  have hW' : W1.setCell ⟨K, 4, none⟩ (.int .i64 0) = W2 := hW
  have HV2 : Hid (RfL w b (.slice A1 n1 c1) (.slice A2 n2 c2) e K ⟨3, e.id, e.target, 0, 0, 1, 1, 1, 0⟩ W2) := Lib.hid (by rw [← hW']; exact HV1.out.set rfl)
  clear hW hW' HV1 e0 e1 e2 e3 e4 e5 e6 e7 e8 e9 e10 e11 e12 ef el d0 d1' d2' d3 d4 d5 d6 d7 d8 df dl
  obtain ⟨e0, e1, e2, e3, e4, e5, e6, e7, e8, e9, e10, e11, e12, ef, el⟩ := evt_cells HV2.out.e
  obtain ⟨d0, d1', d2', d3, d4, d5, d6, d7, d8, df, dl⟩ := cm_cells HV2.out.k
  obtain ⟨hr1, hr2⟩ := HV2.out.ret
  have HR1 := Lib.hid hr1
  have HR2 := Lib.hid hr2
  clear hr1 hr2
  go_wp2_with (refine wpList_store_row rfl tCm (.tmp 4) (.tmp 78) rfl _ rfl (cmRow ⟨3, e.id, e.target, 0, 0, 1, 1, 1, 0⟩) (cmRow zCm) rfl _ HV2.out.r infoCm rfl (one_cm _) ?_)
  rw [HE.out]
  exact bodyPost_ret (results_cell_row rfl _ _ _ _ _ _ _ rfl HR1.out Try.underlying39 rfl infoCm) rfl ⟨rfl, HR2.out⟩
set_option maxHeartbeats 1600000 in
set_option maxRecDepth 100000 in
theorem ref93_3 (b : Bk) (v1 v2 : Value) (e : Ev) (w : World) (i1 : IsSl v1) (i2 : IsSl v2) (ht : (e.target != 0) = true) (g90 : (e.code == 90) = false) (g91 : (e.code == 91) = false) (g92 : (e.code == 92) = false) (g93 : (e.code == 93) = true) (res : Cm) (HE : Hid (res = ⟨3, e.id, e.target, 0, 1, 0, 1, 1, 0⟩)) :
    Calls Try.prog 22 #[.agg (bkRow b v1 v2), .agg e.row] w fun r w' => r = .returned (.agg (cmRow res)) ∧ Only Nil w w' := by
  obtain ⟨A1, n1, c1, rfl⟩ := i1
  obtain ⟨A2, n2, c2, rfl⟩ := i2
  go_enter Try.func22, Try.ntmps22
  unfold bkRow Ev.row
  go_upto_region 2 with fail
  generalize hW : World.alloc (World.alloc (World.alloc (World.alloc w _) _) _) _ = W0
  have HV0 := Lib.hid (refusing_begin (w := w) (b := b) (v1 := .slice A1 n1 c1) (v2 := .slice A2 n2 c2) (e := e) (c := refC e 1))
  have hW' : ((((w.alloc (.cells (bkRow b (.slice A1 n1 c1) (.slice A2 n2 c2)) tBk)).alloc (.cells e.row tEvt)).alloc (.cells (cmRow zCm) tCm)).alloc (.cells (cmRow (refC e 1)) tCm)) = W0 := hW
  rw [hW'] at HV0
  clear hW hW'
  generalize w.heap.size + 1 + 1 + 1 = K at *
  obtain ⟨e0, e1, e2, e3, e4, e5, e6, e7, e8, e9, e10, e11, e12, ef, el⟩ := evt_cells HV0.out.e
  obtain ⟨d0, d1', d2', d3, d4, d5, d6, d7, d8, df, dl⟩ := cm_cells HV0.out.k
  go_upto_region 4 with fail
  generalize hW : World.setCell W0 _ _ = W1
  have hW' : W0.setCell ⟨K, 0, none⟩ (.int .i64 3) = W1 := hW
  have HV1 : Hid (RfL w b (.slice A1 n1 c1) (.slice A2 n2 c2) e K (refC e 3) W1) := Lib.hid (by rw [← hW']; exact HV0.out.set rfl)
  clear hW hW' HV0 e0 e1 e2 e3 e4 e5 e6 e7 e8 e9 e10 e11 e12 ef el d0 d1' d2' d3 d4 d5 d6 d7 d8 df dl
  obtain ⟨e0, e1, e2, e3, e4, e5, e6, e7, e8, e9, e10, e11, e12, ef, el⟩ := evt_cells HV1.out.e
  obtain ⟨d0, d1', d2', d3, d4, d5, d6, d7, d8, df, dl⟩ := cm_cells HV1.out.k
  go_upto_region 34 with fail
  generalize hW : World.setCell W1 _ _ = W2
  have hW' : W1.setCell ⟨K, 5, none⟩ (.int .i64 0) = W2 := hW
  have HV2 : Hid (RfL w b (.slice A1 n1 c1) (.slice A2 n2 c2) e K ⟨3, e.id, e.target, 0, 1, 0, 1, 1, 0⟩ W2) := Lib.hid (by rw [← hW']; exact HV1.out.set rfl)
  clear hW hW' HV1 e0 e1 e2 e3 e4 e5 e6 e7 e8 e9 e10 e11 e12 ef el d0 d1' d2' d3 d4 d5 d6 d7 d8 df dl
  obtain ⟨e0, e1, e2, e3, e4, e5, e6, e7, e8, e9, e10, e11, e12, ef, el⟩ := evt_cells HV2.out.e
  obtain ⟨d0, d1', d2', d3, d4, d5, d6, d7, d8, df, dl⟩ := cm_cells HV2.out.k
  obtain ⟨hr1, hr2⟩ := HV2.out.ret
  have HR1 := Lib.hid hr1
  have HR2 := Lib.hid hr2
  clear hr1 hr2
  go_wp2_with (refine wpList_store_row rfl tCm (.tmp 4) (.tmp 78) rfl _ rfl (cmRow ⟨3, e.id, e.target, 0, 1, 0, 1, 1, 0⟩) (cmRow zCm) rfl _ HV2.out.r infoCm rfl (one_cm _) ?_)
  rw [HE.out]
  exact bodyPost_ret (results_cell_row rfl _ _ _ _ _ _ _ rfl HR1.out Try.underlying39 rfl infoCm) rfl ⟨rfl, HR2.out⟩
set_option maxHeartbeats 1600000 in
set_option maxRecDepth 100000 in
theorem ref94_3 (b : Bk) (v1 v2 : Value) (e : Ev) (w : World) (i1 : IsSl v1) (i2 : IsSl v2) (ht : (e.target != 0) = true) (g90 : (e.code == 90) = false) (g91 : (e.code == 91) = false) (g92 : (e.code == 92) = false) (g93 : (e.code == 93) = false) (g94 : (e.code == 94) = true) (res : Cm) (HE : Hid (res = ⟨3, e.id, e.target, 0, 1, 1, -1, 1, 0⟩)) :
    Calls Try.prog 22 #[.agg (bkRow b v1 v2), .agg e.row] w fun r w' => r = .returned (.agg (cmRow res)) ∧ Only Nil w w' := by
  obtain ⟨A1, n1, c1, rfl⟩ := i1
  obtain ⟨A2, n2, c2, rfl⟩ := i2
  go_enter Try.func22, Try.ntmps22
  unfold bkRow Ev.row
  go_upto_region 2 with fail
  generalize hW : World.alloc (World.alloc (World.alloc (World.alloc w _) _) _) _ = W0
  have HV0 := Lib.hid (refusing_begin (w := w) (b := b) (v1 := .slice A1 n1 c1) (v2 := .slice A2 n2 c2) (e := e) (c := refC e 1))
  have hW' : ((((w.alloc (.cells (bkRow b (.slice A1 n1 c1) (.slice A2 n2 c2)) tBk)).alloc (.cells e.row tEvt)).alloc (.cells (cmRow zCm) tCm)).alloc (.cells (cmRow (refC e 1)) tCm)) = W0 := hW
  rw [hW'] at HV0
  clear hW hW'
  generalize w.heap.size + 1 + 1 + 1 = K at *
  obtain ⟨e0, e1, e2, e3, e4, e5, e6, e7, e8, e9, e10, e11, e12, ef, el⟩ := evt_cells HV0.out.e
  obtain ⟨d0, d1', d2', d3, d4, d5, d6, d7, d8, df, dl⟩ := cm_cells HV0.out.k
  go_upto_region 4 with fail
  generalize hW : World.setCell W0 _ _ = W1
  have hW' : W0.setCell ⟨K, 0, none⟩ (.int .i64 3) = W1 := hW
  have HV1 : Hid (RfL w b (.slice A1 n1 c1) (.slice A2 n2 c2) e K (refC e 3) W1) := Lib.hid (by rw [← hW']; exact HV0.out.set rfl)
  clear hW hW' HV0 e0 e1 e2 e3 e4 e5 e6 e7 e8 e9 e10 e11 e12 ef el d0 d1' d2' d3 d4 d5 d6 d7 d8 df dl
  obtain ⟨e0, e1, e2, e3, e4, e5, e6, e7, e8, e9, e10, e11, e12, ef, el⟩ := evt_cells HV1.out.e
  obtain ⟨d0, d1', d2', d3, d4, d5, d6, d7, d8, df, dl⟩ := cm_cells HV1.out.k
  go_upto_region 34 with fail
  generalize hW : World.setCell W1 _ _ = W2
  have hW' : W1.setCell ⟨K, 6, none⟩ (.int .i64 (-1)) = W2 := hW
  have HV2 : Hid (RfL w b (.slice A1 n1 c1) (.slice A2 n2 c2) e K ⟨3, e.id, e.target, 0, 1, 1, -1, 1, 0⟩ W2) := Lib.hid (by rw [← hW']; exact HV1.out.set rfl)
  clear hW hW' HV1 e0 e1 e2 e3 e4 e5 e6 e7 e8 e9 e10 e11 e12 ef el d0 d1' d2' d3 d4 d5 d6 d7 d8 df dl
  obtain ⟨e0, e1, e2, e3, e4, e5, e6, e7, e8, e9, e10, e11, e12, ef, el⟩ := evt_cells HV2.out.e
  obtain ⟨d0, d1', d2', d3, d4, d5, d6, d7, d8, df, dl⟩ := cm_cells HV2.out.k
  obtain ⟨hr1, hr2⟩ := HV2.out.ret
  have HR1 := Lib.hid hr1
  have HR2 := Lib.hid hr2
  clear hr1 hr2
  go_wp2_with (refine wpList_store_row rfl tCm (.tmp 4) (.tmp 78) rfl _ rfl (cmRow ⟨3, e.id, e.target, 0, 1, 1, -1, 1, 0⟩) (cmRow zCm) rfl _ HV2.out.r infoCm rfl (one_cm _) ?_)
  rw [HE.out]
  exact bodyPost_ret (results_cell_row rfl _ _ _ _ _ _ _ rfl HR1.out Try.underlying39 rfl infoCm) rfl ⟨rfl, HR2.out⟩
set_option maxHeartbeats 1600000 in
set_option maxRecDepth 100000 in
theorem ref95_3 (b : Bk) (v1 v2 : Value) (e : Ev) (w : World) (i1 : IsSl v1) (i2 : IsSl v2) (ht : (e.target != 0) = true) (g90 : (e.code == 90) = false) (g91 : (e.code == 91) = false) (g92 : (e.code == 92) = false) (g93 : (e.code == 93) = false) (g94 : (e.code == 94) = false) (g95 : (e.code == 95) = true) (res : Cm) (HE : Hid (res = ⟨3, e.id, e.target, 0, 1, 1, 1, 0, 0⟩)) :
    Calls Try.prog 22 #[.agg (bkRow b v1 v2), .agg e.row] w fun r w' => r = .returned (.agg (cmRow res)) ∧ Only Nil w w' := by
  obtain ⟨A1, n1, c1, rfl⟩ := i1
  obtain ⟨A2, n2, c2, rfl⟩ := i2
  go_enter Try.func22, Try.ntmps22
  unfold bkRow Ev.row
  go_upto_region 2 with fail
  generalize hW : World.alloc (World.alloc (World.alloc (World.alloc w _) _) _) _ = W0
  have HV0 := Lib.hid (refusing_begin (w := w) (b := b) (v1 := .slice A1 n1 c1) (v2 := .slice A2 n2 c2) (e := e) (c := refC e 1))
  have hW' : ((((w.alloc (.cells (bkRow b (.slice A1 n1 c1) (.slice A2 n2 c2)) tBk)).alloc (.cells e.row tEvt)).alloc (.cells (cmRow zCm) tCm)).alloc (.cells (cmRow (refC e 1)) tCm)) = W0 := hW
  rw [hW'] at HV0
  clear hW hW'
  generalize w.heap.size + 1 + 1 + 1 = K at *
  obtain ⟨e0, e1, e2, e3, e4, e5, e6, e7, e8, e9, e10, e11, e12, ef, el⟩ := evt_cells HV0.out.e
  obtain ⟨d0, d1', d2', d3, d4, d5, d6, d7, d8, df, dl⟩ := cm_cells HV0.out.k
  go_upto_region 4 with fail
  generalize hW : World.setCell W0 _ _ = W1
  have hW' : W0.setCell ⟨K, 0, none⟩ (.int .i64 3) = W1 := hW
  have HV1 : Hid (RfL w b (.slice A1 n1 c1) (.slice A2 n2 c2) e K (refC e 3) W1) := Lib.hid (by rw [← hW']; exact HV0.out.set rfl)
  clear hW hW' HV0 e0 e1 e2 e3 e4 e5 e6 e7 e8 e9 e10 e11 e12 ef el d0 d1' d2' d3 d4 d5 d6 d7 d8 df dl
  obtain ⟨e0, e1, e2, e3, e4, e5, e6, e7, e8, e9, e10, e11, e12, ef, el⟩ := evt_cells HV1.out.e
  obtain ⟨d0, d1', d2', d3, d4, d5, d6, d7, d8, df, dl⟩ := cm_cells HV1.out.k
  go_upto_region 34 with fail
  generalize hW : World.setCell W1 _ _ = W2
  have hW' : W1.setCell ⟨K, 7, none⟩ (.int .u64 0) = W2 := hW
  have HV2 : Hid (RfL w b (.slice A1 n1 c1) (.slice A2 n2 c2) e K ⟨3, e.id, e.target, 0, 1, 1, 1, 0, 0⟩ W2) := Lib.hid (by rw [← hW']; exact HV1.out.set rfl)
  clear hW hW' HV1 e0 e1 e2 e3 e4 e5 e6 e7 e8 e9 e10 e11 e12 ef el d0 d1' d2' d3 d4 d5 d6 d7 d8 df dl
  obtain ⟨e0, e1, e2, e3, e4, e5, e6, e7, e8, e9, e10, e11, e12, ef, el⟩ := evt_cells HV2.out.e
  obtain ⟨d0, d1', d2', d3, d4, d5, d6, d7, d8, df, dl⟩ := cm_cells HV2.out.k
  obtain ⟨hr1, hr2⟩ := HV2.out.ret
  have HR1 := Lib.hid hr1
  have HR2 := Lib.hid hr2
  clear hr1 hr2
  go_wp2_with (refine wpList_store_row rfl tCm (.tmp 4) (.tmp 78) rfl _ rfl (cmRow ⟨3, e.id, e.target, 0, 1, 1, 1, 0, 0⟩) (cmRow zCm) rfl _ HV2.out.r infoCm rfl (one_cm _) ?_)
  rw [HE.out]
  exact bodyPost_ret (results_cell_row rfl _ _ _ _ _ _ _ rfl HR1.out Try.underlying39 rfl infoCm) rfl ⟨rfl, HR2.out⟩
set_option maxHeartbeats 1600000 in
set_option maxRecDepth 100000 in
theorem ref96_3 (b : Bk) (v1 v2 : Value) (e : Ev) (w : World) (i1 : IsSl v1) (i2 : IsSl v2) (ht : (e.target != 0) = true) (g90 : (e.code == 90) = false) (g91 : (e.code == 91) = false) (g92 : (e.code == 92) = false) (g93 : (e.code == 93) = false) (g94 : (e.code == 94) = false) (g95 : (e.code == 95) = false) (g96 : (e.code == 96) = true) (res : Cm) (HE : Hid (res = ⟨3, e.id, e.target, 0, 1, 1, 1, 1, 2⟩)) :
    Calls Try.prog 22 #[.agg (bkRow b v1 v2), .agg e.row] w fun r w' => r = .returned (.agg (cmRow res)) ∧ Only Nil w w' := by
  obtain ⟨A1, n1, c1, rfl⟩ := i1
  obtain ⟨A2, n2, c2, rfl⟩ := i2
  go_enter Try.func22, Try.ntmps22
  unfold bkRow Ev.row
  go_upto_region 2 with fail
  generalize hW : World.alloc (World.alloc (World.alloc (World.alloc w _) _) _) _ = W0
  have HV0 := Lib.hid (refusing_begin (w := w) (b := b) (v1 := .slice A1 n1 c1) (v2 := .slice A2 n2 c2) (e := e) (c := refC e 1))
  have hW' : ((((w.alloc (.cells (bkRow b (.slice A1 n1 c1) (.slice A2 n2 c2)) tBk)).alloc (.cells e.row tEvt)).alloc (.cells (cmRow zCm) tCm)).alloc (.cells (cmRow (refC e 1)) tCm)) = W0 := hW
  rw [hW'] at HV0
  clear hW hW'
  generalize w.heap.size + 1 + 1 + 1 = K at *
  obtain ⟨e0, e1, e2, e3, e4, e5, e6, e7, e8, e9, e10, e11, e12, ef, el⟩ := evt_cells HV0.out.e
  obtain ⟨d0, d1', d2', d3, d4, d5, d6, d7, d8, df, dl⟩ := cm_cells HV0.out.k
  go_upto_region 4 with fail
  generalize hW : World.setCell W0 _ _ = W1
  have hW' : W0.setCell ⟨K, 0, none⟩ (.int .i64 3) = W1 := hW
  have HV1 : Hid (RfL w b (.slice A1 n1 c1) (.slice A2 n2 c2) e K (refC e 3) W1) := Lib.hid (by rw [← hW']; exact HV0.out.set rfl)
  clear hW hW' HV0 e0 e1 e2 e3 e4 e5 e6 e7 e8 e9 e10 e11 e12 ef el d0 d1' d2' d3 d4 d5 d6 d7 d8 df dl
  obtain ⟨e0, e1, e2, e3, e4, e5, e6, e7, e8, e9, e10, e11, e12, ef, el⟩ := evt_cells HV1.out.e
  obtain ⟨d0, d1', d2', d3, d4, d5, d6, d7, d8, df, dl⟩ := cm_cells HV1.out.k
  go_upto_region 34 with fail
  generalize hW : World.setCell W1 _ _ = W2
  have hW' : W1.setCell ⟨K, 8, none⟩ (.int .u64 2) = W2 := hW
  have HV2 : Hid (RfL w b (.slice A1 n1 c1) (.slice A2 n2 c2) e K ⟨3, e.id, e.target, 0, 1, 1, 1, 1, 2⟩ W2) := Lib.hid (by rw [← hW']; exact HV1.out.set rfl)
  clear hW hW' HV1 e0 e1 e2 e3 e4 e5 e6 e7 e8 e9 e10 e11 e12 ef el d0 d1' d2' d3 d4 d5 d6 d7 d8 df dl
  obtain ⟨e0, e1, e2, e3, e4, e5, e6, e7, e8, e9, e10, e11, e12, ef, el⟩ := evt_cells HV2.out.e
  obtain ⟨d0, d1', d2', d3, d4, d5, d6, d7, d8, df, dl⟩ := cm_cells HV2.out.k
  obtain ⟨hr1, hr2⟩ := HV2.out.ret
  have HR1 := Lib.hid hr1
  have HR2 := Lib.hid hr2
  clear hr1 hr2
  go_wp2_with (refine wpList_store_row rfl tCm (.tmp 4) (.tmp 78) rfl _ rfl (cmRow ⟨3, e.id, e.target, 0, 1, 1, 1, 1, 2⟩) (cmRow zCm) rfl _ HV2.out.r infoCm rfl (one_cm _) ?_)
  rw [HE.out]
  exact bodyPost_ret (results_cell_row rfl _ _ _ _ _ _ _ rfl HR1.out Try.underlying39 rfl infoCm) rfl ⟨rfl, HR2.out⟩
set_option maxHeartbeats 1600000 in
set_option maxRecDepth 100000 in
theorem ref91a_3 (b : Bk) (v1 v2 : Value) (e : Ev) (w : World) (i1 : IsSl v1) (i2 : IsSl v2) (ht : (e.target != 0) = true) (g90 : (e.code == 90) = false) (g91 : (e.code == 91) = true) (hid : (e.id == 0) = true) (res : Cm) (HE : Hid (res = ⟨2, e.id, e.target, 0, 1, 1, 1, 1, 0⟩)) :
    Calls Try.prog 22 #[.agg (bkRow b v1 v2), .agg e.row] w fun r w' => r = .returned (.agg (cmRow res)) ∧ Only Nil w w' := by
  obtain ⟨A1, n1, c1, rfl⟩ := i1
  obtain ⟨A2, n2, c2, rfl⟩ := i2
  go_enter Try.func22, Try.ntmps22
  unfold bkRow Ev.row
  go_upto_region 2 with fail
  generalize hW : World.alloc (World.alloc (World.alloc (World.alloc w _) _) _) _ = W0
  have HV0 := Lib.hid (refusing_begin (w := w) (b := b) (v1 := .slice A1 n1 c1) (v2 := .slice A2 n2 c2) (e := e) (c := refC e 1))
  have hW' : ((((w.alloc (.cells (bkRow b (.slice A1 n1 c1) (.slice A2 n2 c2)) tBk)).alloc (.cells e.row tEvt)).alloc (.cells (cmRow zCm) tCm)).alloc (.cells (cmRow (refC e 1)) tCm)) = W0 := hW
  rw [hW'] at HV0
  clear hW hW'
  generalize w.heap.size + 1 + 1 + 1 = K at *
  obtain ⟨e0, e1, e2, e3, e4, e5, e6, e7, e8, e9, e10, e11, e12, ef, el⟩ := evt_cells HV0.out.e
  obtain ⟨d0, d1', d2', d3, d4, d5, d6, d7, d8, df, dl⟩ := cm_cells HV0.out.k
  go_upto_region 4 with fail
  generalize hW : World.setCell W0 _ _ = W1
  have hW' : W0.setCell ⟨K, 0, none⟩ (.int .i64 3) = W1 := hW
  have HV1 : Hid (RfL w b (.slice A1 n1 c1) (.slice A2 n2 c2) e K (refC e 3) W1) := Lib.hid (by rw [← hW']; exact HV0.out.set rfl)
  clear hW hW' HV0 e0 e1 e2 e3 e4 e5 e6 e7 e8 e9 e10 e11 e12 ef el d0 d1' d2' d3 d4 d5 d6 d7 d8 df dl
  obtain ⟨e0, e1, e2, e3, e4, e5, e6, e7, e8, e9, e10, e11, e12, ef, el⟩ := evt_cells HV1.out.e
  obtain ⟨d0, d1', d2', d3, d4, d5, d6, d7, d8, df, dl⟩ := cm_cells HV1.out.k
  go_upto_region 9 with fail
  generalize hW : World.setCell W1 _ _ = W2
  have hW' : W1.setCell ⟨K, 0, none⟩ (.int .i64 3) = W2 := hW
  have HV2 : Hid (RfL w b (.slice A1 n1 c1) (.slice A2 n2 c2) e K (refC e 3) W2) := Lib.hid (by rw [← hW']; exact HV1.out.set rfl)
  clear hW hW' HV1 e0 e1 e2 e3 e4 e5 e6 e7 e8 e9 e10 e11 e12 ef el d0 d1' d2' d3 d4 d5 d6 d7 d8 df dl
  obtain ⟨e0, e1, e2, e3, e4, e5, e6, e7, e8, e9, e10, e11, e12, ef, el⟩ := evt_cells HV2.out.e
  obtain ⟨d0, d1', d2', d3, d4, d5, d6, d7, d8, df, dl⟩ := cm_cells HV2.out.k
  go_upto_region 34 with fail
  generalize hW : World.setCell W2 _ _ = W3
  have hW' : W2.setCell ⟨K, 0, none⟩ (.int .i64 2) = W3 := hW
  have HV3 : Hid (RfL w b (.slice A1 n1 c1) (.slice A2 n2 c2) e K ⟨2, e.id, e.target, 0, 1, 1, 1, 1, 0⟩ W3) := Lib.hid (by rw [← hW']; exact HV2.out.set rfl)
  clear hW hW' HV2 e0 e1 e2 e3 e4 e5 e6 e7 e8 e9 e10 e11 e12 ef el d0 d1' d2' d3 d4 d5 d6 d7 d8 df dl
  obtain ⟨e0, e1, e2, e3, e4, e5, e6, e7, e8, e9, e10, e11, e12, ef, el⟩ := evt_cells HV3.out.e
  obtain ⟨d0, d1', d2', d3, d4, d5, d6, d7, d8, df, dl⟩ := cm_cells HV3.out.k
  obtain ⟨hr1, hr2⟩ := HV3.out.ret
  have HR1 := Lib.hid hr1
  have HR2 := Lib.hid hr2
  clear hr1 hr2
  go_wp2_with (refine wpList_store_row rfl tCm (.tmp 4) (.tmp 78) rfl _ rfl (cmRow ⟨2, e.id, e.target, 0, 1, 1, 1, 1, 0⟩) (cmRow zCm) rfl _ HV3.out.r infoCm rfl (one_cm _) ?_)
  rw [HE.out]
  exact bodyPost_ret (results_cell_row rfl _ _ _ _ _ _ _ rfl HR1.out Try.underlying39 rfl infoCm) rfl ⟨rfl, HR2.out⟩
set_option maxHeartbeats 1600000 in
set_option maxRecDepth 100000 in
theorem ref91b_3 (b : Bk) (v1 v2 : Value) (e : Ev) (w : World) (i1 : IsSl v1) (i2 : IsSl v2) (ht : (e.target != 0) = true) (g90 : (e.code == 90) = false) (g91 : (e.code == 91) = true) (hid : (e.id == 0) = false) (res : Cm) (HE : Hid (res = (refC e 3))) :
    Calls Try.prog 22 #[.agg (bkRow b v1 v2), .agg e.row] w fun r w' => r = .returned (.agg (cmRow res)) ∧ Only Nil w w' := by
  obtain ⟨A1, n1, c1, rfl⟩ := i1
  obtain ⟨A2, n2, c2, rfl⟩ := i2
  go_enter Try.func22, Try.ntmps22
  unfold bkRow Ev.row
  go_upto_region 2 with fail
  generalize hW : World.alloc (World.alloc (World.alloc (World.alloc w _) _) _) _ = W0
  have HV0 := Lib.hid (refusing_begin (w := w) (b := b) (v1 := .slice A1 n1 c1) (v2 := .slice A2 n2 c2) (e := e) (c := refC e 1))
  have hW' : ((((w.alloc (.cells (bkRow b (.slice A1 n1 c1) (.slice A2 n2 c2)) tBk)).alloc (.cells e.row tEvt)).alloc (.cells (cmRow zCm) tCm)).alloc (.cells (cmRow (refC e 1)) tCm)) = W0 := hW
  rw [hW'] at HV0
  clear hW hW'
  generalize w.heap.size + 1 + 1 + 1 = K at *
  obtain ⟨e0, e1, e2, e3, e4, e5, e6, e7, e8, e9, e10, e11, e12, ef, el⟩ := evt_cells HV0.out.e
  obtain ⟨d0, d1', d2', d3, d4, d5, d6, d7, d8, df, dl⟩ := cm_cells HV0.out.k
  go_upto_region 4 with fail
  generalize hW : World.setCell W0 _ _ = W1
  have hW' : W0.setCell ⟨K, 0, none⟩ (.int .i64 3) = W1 := hW
  have HV1 : Hid (RfL w b (.slice A1 n1 c1) (.slice A2 n2 c2) e K (refC e 3) W1) := Lib.hid (by rw [← hW']; exact HV0.out.set rfl)
  clear hW hW' HV0 e0 e1 e2 e3 e4 e5 e6 e7 e8 e9 e10 e11 e12 ef el d0 d1' d2' d3 d4 d5 d6 d7 d8 df dl
  obtain ⟨e0, e1, e2, e3, e4, e5, e6, e7, e8, e9, e10, e11, e12, ef, el⟩ := evt_cells HV1.out.e
  obtain ⟨d0, d1', d2', d3, d4, d5, d6, d7, d8, df, dl⟩ := cm_cells HV1.out.k
  go_upto_region 9 with fail
  generalize hW : World.setCell W1 _ _ = W2
  have hW' : W1.setCell ⟨K, 0, none⟩ (.int .i64 3) = W2 := hW
  have HV2 : Hid (RfL w b (.slice A1 n1 c1) (.slice A2 n2 c2) e K (refC e 3) W2) := Lib.hid (by rw [← hW']; exact HV1.out.set rfl)
  clear hW hW' HV1 e0 e1 e2 e3 e4 e5 e6 e7 e8 e9 e10 e11 e12 ef el d0 d1' d2' d3 d4 d5 d6 d7 d8 df dl
  obtain ⟨e0, e1, e2, e3, e4, e5, e6, e7, e8, e9, e10, e11, e12, ef, el⟩ := evt_cells HV2.out.e
  obtain ⟨d0, d1', d2', d3, d4, d5, d6, d7, d8, df, dl⟩ := cm_cells HV2.out.k
  obtain ⟨hr1, hr2⟩ := HV2.out.ret
  have HR1 := Lib.hid hr1
  have HR2 := Lib.hid hr2
  clear hr1 hr2
  go_wp2_with (refine wpList_store_row rfl tCm (.tmp 4) (.tmp 78) rfl _ rfl (cmRow (refC e 3)) (cmRow zCm) rfl _ HV2.out.r infoCm rfl (one_cm _) ?_)
  rw [HE.out]
  exact bodyPost_ret (results_cell_row rfl _ _ _ _ _ _ _ rfl HR1.out Try.underlying39 rfl infoCm) rfl ⟨rfl, HR2.out⟩
set_option maxHeartbeats 1600000 in
set_option maxRecDepth 100000 in
theorem refo_3 (b : Bk) (v1 v2 : Value) (e : Ev) (w : World) (i1 : IsSl v1) (i2 : IsSl v2) (ht : (e.target != 0) = true) (g90 : (e.code == 90) = false) (g91 : (e.code == 91) = false) (g92 : (e.code == 92) = false) (g93 : (e.code == 93) = false) (g94 : (e.code == 94) = false) (g95 : (e.code == 95) = false) (g96 : (e.code == 96) = false) (g99 : (e.code == 99) = false) (res : Cm) (HE : Hid (res = (refC e 3))) :
    Calls Try.prog 22 #[.agg (bkRow b v1 v2), .agg e.row] w fun r w' => r = .returned (.agg (cmRow res)) ∧ Only Nil w w' := by
  obtain ⟨A1, n1, c1, rfl⟩ := i1
  obtain ⟨A2, n2, c2, rfl⟩ := i2
  go_enter Try.func22, Try.ntmps22
  unfold bkRow Ev.row
  go_upto_region 2 with fail
  generalize hW : World.alloc (World.alloc (World.alloc (World.alloc w _) _) _) _ = W0
  have HV0 := Lib.hid (refusing_begin (w := w) (b := b) (v1 := .slice A1 n1 c1) (v2 := .slice A2 n2 c2) (e := e) (c := refC e 1))
  have hW' : ((((w.alloc (.cells (bkRow b (.slice A1 n1 c1) (.slice A2 n2 c2)) tBk)).alloc (.cells e.row tEvt)).alloc (.cells (cmRow zCm) tCm)).alloc (.cells (cmRow (refC e 1)) tCm)) = W0 := hW
  rw [hW'] at HV0
  clear hW hW'
  generalize w.heap.size + 1 + 1 + 1 = K at *
  obtain ⟨e0, e1, e2, e3, e4, e5, e6, e7, e8, e9, e10, e11, e12, ef, el⟩ := evt_cells HV0.out.e
  obtain ⟨d0, d1', d2', d3, d4, d5, d6, d7, d8, df, dl⟩ := cm_cells HV0.out.k
  go_upto_region 4 with fail
  generalize hW : World.setCell W0 _ _ = W1
  have hW' : W0.setCell ⟨K, 0, none⟩ (.int .i64 3) = W1 := hW
  have HV1 : Hid (RfL w b (.slice A1 n1 c1) (.slice A2 n2 c2) e K (refC e 3) W1) := Lib.hid (by rw [← hW']; exact HV0.out.set rfl)
  clear hW hW' HV0 e0 e1 e2 e3 e4 e5 e6 e7 e8 e9 e10 e11 e12 ef el d0 d1' d2' d3 d4 d5 d6 d7 d8 df dl
  obtain ⟨e0, e1, e2, e3, e4, e5, e6, e7, e8, e9, e10, e11, e12, ef, el⟩ := evt_cells HV1.out.e
  obtain ⟨d0, d1', d2', d3, d4, d5, d6, d7, d8, df, dl⟩ := cm_cells HV1.out.k
  obtain ⟨hr1, hr2⟩ := HV1.out.ret
  have HR1 := Lib.hid hr1
  have HR2 := Lib.hid hr2
  clear hr1 hr2
  go_wp2_with (refine wpList_store_row rfl tCm (.tmp 4) (.tmp 78) rfl _ rfl (cmRow (refC e 3)) (cmRow zCm) rfl _ HV1.out.r infoCm rfl (one_cm _) ?_)
  rw [HE.out]
  exact bodyPost_ret (results_cell_row rfl _ _ _ _ _ _ _ rfl HR1.out Try.underlying39 rfl infoCm) rfl ⟨rfl, HR2.out⟩
end Ck
end Go.Proofs.Ytcnkbhgdcfckoaa

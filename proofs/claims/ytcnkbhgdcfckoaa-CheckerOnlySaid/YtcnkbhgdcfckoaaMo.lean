/- The walks of cancelled. -/
import Derived.Test.YtcnkbhgdcfckoaaMl
import Derived.Test.YtcnkbhgdcfckoaaMw
set_option linter.unusedVariables false
set_option linter.unusedSimpArgs false
namespace Go.Proofs.Ytcnkbhgdcfckoaa
open Go.RowKit
namespace Ck
/-- What stands in the cell of the order in whose place another one must come. -/
def InsIs (w : World) (ins : Option (Int × Int × Int)) (p7 : Value) : Prop := (ins = none ∧ p7 = .pointer none) ∨ ∃ m s k H, ins = some (m, s, k) ∧ p7 = .pointer (some ⟨H, 0, none⟩) ∧ w.heap[H]? = some (.cells #[.int .u32 m, .int .i64 s, .int .i64 k] tRp (0, 0))
theorem find_at {b : Bk} {id s : Int} {i : Nat} (h : b.find id = some (s, i)) : (s = 1 ∨ s = 2) ∧ ∃ r, (b.side s)[i]? = some r ∧ r.id = id := by
  unfold Bk.find at h
  cases h1 : findAt id b.buys with
  | some k =>
    rw [h1] at h
    simp only [Option.some.injEq, Prod.mk.injEq] at h
    obtain ⟨rfl, rfl⟩ := h
    exact ⟨.inl rfl, findAt_lt h1⟩
  | none =>
    rw [h1] at h
    cases h2 : findAt id b.sells with
    | some k =>
      rw [h2] at h
      simp only [Option.some.injEq, Prod.mk.injEq] at h
      obtain ⟨rfl, rfl⟩ := h
      exact ⟨.inr rfl, findAt_lt h2⟩
    | none => rw [h2] at h; cases h

set_option maxHeartbeats 1600000 in
set_option maxRecDepth 100000 in
theorem cancel_reason (C : Nat) (b : Bk) (e : Ev) (v1 v2 p6 p7 : Value) (w : World) (h : BkRep w C b v1 v2 p6 p7) (hb : b.ok) (hw : e.wf) (hr : (e.reason != 1) = true) (hr2 : (e.reason != 2) = true) :
    Calls Try.prog 34 #[.pointer (some ⟨C, 0, none⟩), .agg e.row] w fun r w' => r = .returned (.int .i64 195) ∧ Only Nil w w' := by
  have HX := Lib.hid h
  have HE0 := Lib.hid (blk_new w (.cells e.row tEvt))
  have HO0 := Lib.hid ((Only.refl Nil w).alloc (.cells e.row tEvt))
  clear h hb hw
  go_enter Try.func34, Try.ntmps34
  unfold Ev.row
  go_upto_region 1 with fail
  generalize hW : World.alloc w _ = W1
  have hW' : w.alloc (.cells e.row tEvt) = W1 := hW
  rw [hW'] at HE0 HO0
  clear hW hW'
  have HX1 := Lib.hid (HX.out.nil HO0.out)
  obtain ⟨e0, e1, e2, e3, e4, e5, e6, e7, e8, e9, e10, e11, e12, ef, el⟩ := ev_cells HE0.out
  go_wp2
  go_ret
  exact ⟨rfl, HO0.out⟩

set_option maxHeartbeats 1600000 in
set_option maxRecDepth 100000 in
theorem cancel_none (C : Nat) (b : Bk) (e : Ev) (v1 v2 p6 p7 : Value) (w : World) (h : BkRep w C b v1 v2 p6 p7) (hb : b.ok) (hw : e.wf) (hr : (e.reason != 1) = false ∨ ((e.reason != 1) = true ∧ (e.reason != 2) = false)) (hf : b.find e.id = none) :
    Calls Try.prog 34 #[.pointer (some ⟨C, 0, none⟩), .agg e.row] w fun r w' => r = .returned (.int .i64 192) ∧ Only Nil w w' := by
  have HFi := Lib.hid (fun W (ho : Only Nil w W) => find_any e.id C b v1 v2 p6 p7 W (h.nil ho))
  rw [hf] at HFi
  unfold findV at HFi
  clear hf
  have HX := Lib.hid h
  have HE0 := Lib.hid (blk_new w (.cells e.row tEvt))
  have HO0 := Lib.hid ((Only.refl Nil w).alloc (.cells e.row tEvt))
  clear h hb hw
  go_enter Try.func34, Try.ntmps34
  unfold Ev.row
  go_upto_region 1 with fail
  generalize hW : World.alloc w _ = W1
  have hW' : w.alloc (.cells e.row tEvt) = W1 := hW
  rw [hW'] at HE0 HO0
  clear hW hW'
  have HX1 := Lib.hid (HX.out.nil HO0.out)
  obtain ⟨e0, e1, e2, e3, e4, e5, e6, e7, e8, e9, e10, e11, e12, ef, el⟩ := ev_cells HE0.out
  go_cut [16] from 9 to 76 (fun v16 wc => v16 = .bool false ∧ wc = W1)
  case first =>
    rcases hr with k1 | ⟨k1, k2⟩
    all_goals
      go_wp2
      go_meet
      case rel => exact ⟨rfl, rfl⟩
  case rest =>
    obtain ⟨rfl, rfl⟩ := hcut
    go_wp2_with fail
    refine (HFi.out _ HO0.out).mono ?_
    rintro x w2 ⟨rfl, ho⟩
    go_wp2
    go_ret
    exact ⟨rfl, HO0.out.trans ho (fun _ _ h => h)⟩

set_option maxHeartbeats 1600000 in
set_option maxRecDepth 100000 in
theorem cancel_qty1 (C : Nat) (b : Bk) (e : Ev) (v1 v2 p6 p7 : Value) (w : World) (h : BkRep w C b v1 v2 p6 p7) (hb : b.ok) (hw : e.wf) (hr : (e.reason != 1) = false ∨ ((e.reason != 1) = true ∧ (e.reason != 2) = false)) (i : Nat) (r : Rs) (hf : b.find e.id = some (1, i)) (hd : (b.side 1)[i]? = some r) (hq : (e.qty != r.vis + r.hid) = true) :
    Calls Try.prog 34 #[.pointer (some ⟨C, 0, none⟩), .agg e.row] w fun r w' => r = .returned (.int .i64 193) ∧ Only Nil w w' := by
  have HFi := Lib.hid (fun W (ho : Only Nil w W) => find_any e.id C b v1 v2 p6 p7 W (h.nil ho))
  rw [hf] at HFi
  unfold findV at HFi
  have hd' : b.buys[i]? = some r := hd
  have hi : i < b.buys.length := (List.getElem?_eq_some_iff.1 hd').1
  have hrk : r.ok mx := hb.side 1 r (by have := (List.getElem?_eq_some_iff.1 hd').2; rw [← this]; exact List.getElem_mem _)
  have hsum := hrk.sum
  have hvi := hrk.vis
  have hhi := hrk.hid
  have hwr : IntKind.u64.wrap (r.vis + r.hid) = r.vis + r.hid := by rw [IntKind.wrap_u64]; omega
  have hii : (i : Int) < (b.buys.length : Int) := by omega
  have hi0 : (0 : Int) ≤ (i : Int) := by omega
  have hsb : IntKind.i64.wrap 0 = 0 := by rw [IntKind.wrap_i64]; omega
  obtain ⟨g, cp, rfl, hgl, hnc, hcm⟩ := own_row h.r1 (by omega)
  have Hd := Lib.hid hd'
  clear hsum hvi hhi hrk hd' hd hgl
  clear hf
  have HX := Lib.hid h
  have HE0 := Lib.hid (blk_new w (.cells e.row tEvt))
  have HO0 := Lib.hid ((Only.refl Nil w).alloc (.cells e.row tEvt))
  clear h hb hw
  go_enter Try.func34, Try.ntmps34
  unfold Ev.row
  go_upto_region 1 with fail
  generalize hW : World.alloc w _ = W1
  have hW' : w.alloc (.cells e.row tEvt) = W1 := hW
  rw [hW'] at HE0 HO0
  clear hW hW'
  have HX1 := Lib.hid (HX.out.nil HO0.out)
  obtain ⟨e0, e1, e2, e3, e4, e5, e6, e7, e8, e9, e10, e11, e12, ef, el⟩ := ev_cells HE0.out
  go_cut [16] from 9 to 76 (fun v16 wc => v16 = .bool false ∧ wc = W1)
  case first =>
    rcases hr with k1 | ⟨k1, k2⟩
    all_goals
      go_wp2
      go_meet
      case rel => exact ⟨rfl, rfl⟩
  case rest =>
    obtain ⟨rfl, rfl⟩ := hcut
    go_wp2_with fail
    refine (HFi.out _ HO0.out).mono ?_
    rintro x w2 ⟨rfl, ho⟩
    have HO2 : Hid (Only Nil w w2) := Lib.hid (HO0.out.trans (S := Nil) ho (fun _ _ h => h))
    have HE2 : Hid (w2.heap[w.heap.size]? = some (.cells e.row tEvt (0, 0))) := Lib.hid (ho.blk HE0.out (fun h => h))
    have HX2 := Lib.hid (HX.out.nil HO2.out)
    clear ho HO0 HE0 HX1 e0 e1 e2 e3 e4 e5 e6 e7 e8 e9 e10 e11 e12 ef el
    obtain ⟨e0, e1, e2, e3, e4, e5, e6, e7, e8, e9, e10, e11, e12, ef, el⟩ := ev_cells HE2.out
    have cs := blk_cell HX2.out.blk 2
    have cl := blk_lt HX2.out.blk
    simp only [List.getElem?_toArray, List.getElem?_cons_zero, List.getElem?_cons_succ] at cs
    have q0 := row_at HX2.out.r1 Hd.out 0 (by omega)
    have q1 := row_at HX2.out.r1 Hd.out 1 (by omega)
    have q2 := row_at HX2.out.r1 Hd.out 2 (by omega)
    have q3 := row_at HX2.out.r1 Hd.out 3 (by omega)
    have q4 := row_at HX2.out.r1 Hd.out 4 (by omega)
    have q5 := row_at HX2.out.r1 Hd.out 5 (by omega)
    have q6 := row_at HX2.out.r1 Hd.out 6 (by omega)
    simp only [Rs.cells, Nat.add_zero, List.getElem?_cons_zero, List.getElem?_cons_succ] at q0 q1 q2 q3 q4 q5 q6
    have gl : g < w2.heap.size := own_lt HX2.out.r1 rfl
    go_upto_region 7 with fail
    generalize hW : World.alloc w2 _ = W3
    have hW' : w2.alloc (.cells r.row tR) = W3 := hW
    have ho3 : Only Nil w2 W3 := by rw [← hW']; exact (Only.refl _ _).alloc _
    have HT3 : Hid (W3.heap[w2.heap.size]? = some (.cells r.row tR (0, 0))) := Lib.hid (by rw [← hW']; exact blk_new _ _)
    have HE3 : Hid (W3.heap[w.heap.size]? = some (.cells e.row tEvt (0, 0))) := Lib.hid (ho3.blk HE2.out (fun h => h))
    have HO3 : Hid (Only Nil w W3) := Lib.hid (HO2.out.trans (S := Nil) ho3 (fun _ _ h => h))
    have HX3 := Lib.hid (HX.out.nil HO3.out)
    have HTn : Hid (w.heap.size ≤ w2.heap.size) := Lib.hid HO2.out.size
    clear hW hW' ho3 HE2 HO2 HX2 e0 e1 e2 e3 e4 e5 e6 e7 e8 e9 e10 e11 e12 ef el cs cl q0 q1 q2 q3 q4 q5 q6 gl HX
    generalize w2.heap.size = T at *
    obtain ⟨e0, e1, e2, e3, e4, e5, e6, e7, e8, e9, e10, e11, e12, ef, el⟩ := ev_cells HE3.out
    obtain ⟨t0, t1, t2, t3, t4, t5, t6, tl⟩ := rs_cells HT3.out
    go_wp2
    go_ret
    exact ⟨rfl, HO3.out⟩

set_option maxHeartbeats 1600000 in
set_option maxRecDepth 100000 in
theorem cancel_form1 (C : Nat) (b : Bk) (e : Ev) (v1 v2 p6 p7 : Value) (w : World) (h : BkRep w C b v1 v2 p6 p7) (hb : b.ok) (hw : e.wf) (hr : (e.reason != 1) = false ∨ ((e.reason != 1) = true ∧ (e.reason != 2) = false)) (i : Nat) (r : Rs) (hf : b.find e.id = some (1, i)) (hd : (b.side 1)[i]? = some r) (hq : (e.qty != r.vis + r.hid) = false) (hn : e ≠ evCan e) :
    Calls Try.prog 34 #[.pointer (some ⟨C, 0, none⟩), .agg e.row] w fun r w' => r = .returned (.int .i64 191) ∧ Only Nil w w' := by
  have kk : (!decide (e = evCan e)) = true := by simp [hn]
  have HFi := Lib.hid (fun W (ho : Only Nil w W) => find_any e.id C b v1 v2 p6 p7 W (h.nil ho))
  rw [hf] at HFi
  unfold findV at HFi
  have hd' : b.buys[i]? = some r := hd
  have hi : i < b.buys.length := (List.getElem?_eq_some_iff.1 hd').1
  have hrk : r.ok mx := hb.side 1 r (by have := (List.getElem?_eq_some_iff.1 hd').2; rw [← this]; exact List.getElem_mem _)
  have hsum := hrk.sum
  have hvi := hrk.vis
  have hhi := hrk.hid
  have hwr : IntKind.u64.wrap (r.vis + r.hid) = r.vis + r.hid := by rw [IntKind.wrap_u64]; omega
  have hii : (i : Int) < (b.buys.length : Int) := by omega
  have hi0 : (0 : Int) ≤ (i : Int) := by omega
  have hsb : IntKind.i64.wrap 0 = 0 := by rw [IntKind.wrap_i64]; omega
  obtain ⟨g, cp, rfl, hgl, hnc, hcm⟩ := own_row h.r1 (by omega)
  have Hd := Lib.hid hd'
  clear hsum hvi hhi hrk hd' hd hgl
  clear hf hn
  have HX := Lib.hid h
  have HE0 := Lib.hid (blk_new w (.cells e.row tEvt))
  have HO0 := Lib.hid ((Only.refl Nil w).alloc (.cells e.row tEvt))
  clear h hb hw
  go_enter Try.func34, Try.ntmps34
  unfold Ev.row
  go_upto_region 1 with fail
  generalize hW : World.alloc w _ = W1
  have hW' : w.alloc (.cells e.row tEvt) = W1 := hW
  rw [hW'] at HE0 HO0
  clear hW hW'
  have HX1 := Lib.hid (HX.out.nil HO0.out)
  obtain ⟨e0, e1, e2, e3, e4, e5, e6, e7, e8, e9, e10, e11, e12, ef, el⟩ := ev_cells HE0.out
  go_cut [16] from 9 to 76 (fun v16 wc => v16 = .bool false ∧ wc = W1)
  case first =>
    rcases hr with k1 | ⟨k1, k2⟩
    all_goals
      go_wp2
      go_meet
      case rel => exact ⟨rfl, rfl⟩
  case rest =>
    obtain ⟨rfl, rfl⟩ := hcut
    go_wp2_with fail
    refine (HFi.out _ HO0.out).mono ?_
    rintro x w2 ⟨rfl, ho⟩
    have HO2 : Hid (Only Nil w w2) := Lib.hid (HO0.out.trans (S := Nil) ho (fun _ _ h => h))
    have HE2 : Hid (w2.heap[w.heap.size]? = some (.cells e.row tEvt (0, 0))) := Lib.hid (ho.blk HE0.out (fun h => h))
    have HX2 := Lib.hid (HX.out.nil HO2.out)
    clear ho HO0 HE0 HX1 e0 e1 e2 e3 e4 e5 e6 e7 e8 e9 e10 e11 e12 ef el
    obtain ⟨e0, e1, e2, e3, e4, e5, e6, e7, e8, e9, e10, e11, e12, ef, el⟩ := ev_cells HE2.out
    have cs := blk_cell HX2.out.blk 2
    have cl := blk_lt HX2.out.blk
    simp only [List.getElem?_toArray, List.getElem?_cons_zero, List.getElem?_cons_succ] at cs
    have q0 := row_at HX2.out.r1 Hd.out 0 (by omega)
    have q1 := row_at HX2.out.r1 Hd.out 1 (by omega)
    have q2 := row_at HX2.out.r1 Hd.out 2 (by omega)
    have q3 := row_at HX2.out.r1 Hd.out 3 (by omega)
    have q4 := row_at HX2.out.r1 Hd.out 4 (by omega)
    have q5 := row_at HX2.out.r1 Hd.out 5 (by omega)
    have q6 := row_at HX2.out.r1 Hd.out 6 (by omega)
    simp only [Rs.cells, Nat.add_zero, List.getElem?_cons_zero, List.getElem?_cons_succ] at q0 q1 q2 q3 q4 q5 q6
    have gl : g < w2.heap.size := own_lt HX2.out.r1 rfl
    go_upto_region 7 with fail
    generalize hW : World.alloc w2 _ = W3
    have hW' : w2.alloc (.cells r.row tR) = W3 := hW
    have ho3 : Only Nil w2 W3 := by rw [← hW']; exact (Only.refl _ _).alloc _
    have HT3 : Hid (W3.heap[w2.heap.size]? = some (.cells r.row tR (0, 0))) := Lib.hid (by rw [← hW']; exact blk_new _ _)
    have HE3 : Hid (W3.heap[w.heap.size]? = some (.cells e.row tEvt (0, 0))) := Lib.hid (ho3.blk HE2.out (fun h => h))
    have HO3 : Hid (Only Nil w W3) := Lib.hid (HO2.out.trans (S := Nil) ho3 (fun _ _ h => h))
    have HX3 := Lib.hid (HX.out.nil HO3.out)
    have HTn : Hid (w.heap.size ≤ w2.heap.size) := Lib.hid HO2.out.size
    clear hW hW' ho3 HE2 HO2 HX2 e0 e1 e2 e3 e4 e5 e6 e7 e8 e9 e10 e11 e12 ef el cs cl q0 q1 q2 q3 q4 q5 q6 gl HX
    generalize w2.heap.size = T at *
    obtain ⟨e0, e1, e2, e3, e4, e5, e6, e7, e8, e9, e10, e11, e12, ef, el⟩ := ev_cells HE3.out
    obtain ⟨t0, t1, t2, t3, t4, t5, t6, tl⟩ := rs_cells HT3.out
    go_wp2_with (refine wpList_ev_neq rfl (.tmp 47) (.tmp 58) rfl e (evCan e) rfl rfl ?_)
    go_ret
    exact ⟨rfl, HO3.out⟩

set_option maxHeartbeats 1600000 in
set_option maxRecDepth 100000 in
theorem cancel_ok11 (C : Nat) (b : Bk) (e : Ev) (v1 v2 p6 p7 : Value) (w : World) (h : BkRep w C b v1 v2 p6 p7) (hb : b.ok) (hw : e.wf) (hr : (e.reason != 1) = false ∨ ((e.reason != 1) = true ∧ (e.reason != 2) = false)) (i : Nat) (r : Rs) (hf : b.find e.id = some (1, i)) (hd : (b.side 1)[i]? = some r) (hq : (e.qty != r.vis + r.hid) = false) (hn : e = evCan e) (hk : (e.reason == 2) = false) :
    Calls Try.prog 34 #[.pointer (some ⟨C, 0, none⟩), .agg e.row] w fun r' w' => r' = .returned (.int .i64 0) ∧ ∃ v1' v2', BkRep w' C (b.set 1 ((b.side 1).eraseIdx i)) v1' v2' p6 p7 ∧ Fresh w C v1 v2 v1' v2' ∧ Only (Mine C v1 v2) w w' := by
  have kk : (!decide (e = evCan e)) = false := by rw [decide_eq_true hn]; rfl
  have Hil : Hid (i < (b.side 1).length) := Lib.hid (List.getElem?_eq_some_iff.1 hd).1
  have HFi := Lib.hid (fun W (ho : Only Nil w W) => find_any e.id C b v1 v2 p6 p7 W (h.nil ho))
  rw [hf] at HFi
  unfold findV at HFi
  have hd' : b.buys[i]? = some r := hd
  have hi : i < b.buys.length := (List.getElem?_eq_some_iff.1 hd').1
  have hrk : r.ok mx := hb.side 1 r (by have := (List.getElem?_eq_some_iff.1 hd').2; rw [← this]; exact List.getElem_mem _)
  have hsum := hrk.sum
  have hvi := hrk.vis
  have hhi := hrk.hid
  have hwr : IntKind.u64.wrap (r.vis + r.hid) = r.vis + r.hid := by rw [IntKind.wrap_u64]; omega
  have hii : (i : Int) < (b.buys.length : Int) := by omega
  have hi0 : (0 : Int) ≤ (i : Int) := by omega
  have hsb : IntKind.i64.wrap 0 = 0 := by rw [IntKind.wrap_i64]; omega
  obtain ⟨g, cp, rfl, hgl, hnc, hcm⟩ := own_row h.r1 (by omega)
  have Hd := Lib.hid hd'
  clear hsum hvi hhi hrk hd' hd hgl
  clear hf hn
  have HX := Lib.hid h
  have HX0 := Lib.hid h
  have HE0 := Lib.hid (blk_new w (.cells e.row tEvt))
  have HO0 := Lib.hid ((Only.refl Nil w).alloc (.cells e.row tEvt))
  clear h hb hw
  go_enter Try.func34, Try.ntmps34
  unfold Ev.row
  go_upto_region 1 with fail
  generalize hW : World.alloc w _ = W1
  have hW' : w.alloc (.cells e.row tEvt) = W1 := hW
  rw [hW'] at HE0 HO0
  clear hW hW'
  have HX1 := Lib.hid (HX.out.nil HO0.out)
  obtain ⟨e0, e1, e2, e3, e4, e5, e6, e7, e8, e9, e10, e11, e12, ef, el⟩ := ev_cells HE0.out
  go_cut [16] from 9 to 76 (fun v16 wc => v16 = .bool false ∧ wc = W1)
  case first =>
    rcases hr with k1 | ⟨k1, k2⟩
    all_goals
      go_wp2
      go_meet
      case rel => exact ⟨rfl, rfl⟩
  case rest =>
    obtain ⟨rfl, rfl⟩ := hcut
    go_wp2_with fail
    refine (HFi.out _ HO0.out).mono ?_
    rintro x w2 ⟨rfl, ho⟩
    have HO2 : Hid (Only Nil w w2) := Lib.hid (HO0.out.trans (S := Nil) ho (fun _ _ h => h))
    have HE2 : Hid (w2.heap[w.heap.size]? = some (.cells e.row tEvt (0, 0))) := Lib.hid (ho.blk HE0.out (fun h => h))
    have HX2 := Lib.hid (HX.out.nil HO2.out)
    clear ho HO0 HE0 HX1 e0 e1 e2 e3 e4 e5 e6 e7 e8 e9 e10 e11 e12 ef el
    obtain ⟨e0, e1, e2, e3, e4, e5, e6, e7, e8, e9, e10, e11, e12, ef, el⟩ := ev_cells HE2.out
    have cs := blk_cell HX2.out.blk 2
    have cl := blk_lt HX2.out.blk
    simp only [List.getElem?_toArray, List.getElem?_cons_zero, List.getElem?_cons_succ] at cs
    have q0 := row_at HX2.out.r1 Hd.out 0 (by omega)
    have q1 := row_at HX2.out.r1 Hd.out 1 (by omega)
    have q2 := row_at HX2.out.r1 Hd.out 2 (by omega)
    have q3 := row_at HX2.out.r1 Hd.out 3 (by omega)
    have q4 := row_at HX2.out.r1 Hd.out 4 (by omega)
    have q5 := row_at HX2.out.r1 Hd.out 5 (by omega)
    have q6 := row_at HX2.out.r1 Hd.out 6 (by omega)
    simp only [Rs.cells, Nat.add_zero, List.getElem?_cons_zero, List.getElem?_cons_succ] at q0 q1 q2 q3 q4 q5 q6
    have gl : g < w2.heap.size := own_lt HX2.out.r1 rfl
    go_upto_region 7 with fail
    generalize hW : World.alloc w2 _ = W3
    have hW' : w2.alloc (.cells r.row tR) = W3 := hW
    have ho3 : Only Nil w2 W3 := by rw [← hW']; exact (Only.refl _ _).alloc _
    have HT3 : Hid (W3.heap[w2.heap.size]? = some (.cells r.row tR (0, 0))) := Lib.hid (by rw [← hW']; exact blk_new _ _)
    have HE3 : Hid (W3.heap[w.heap.size]? = some (.cells e.row tEvt (0, 0))) := Lib.hid (ho3.blk HE2.out (fun h => h))
    have HO3 : Hid (Only Nil w W3) := Lib.hid (HO2.out.trans (S := Nil) ho3 (fun _ _ h => h))
    have HX3 := Lib.hid (HX.out.nil HO3.out)
    have HTn : Hid (w.heap.size ≤ w2.heap.size) := Lib.hid HO2.out.size
    clear hW hW' ho3 HE2 HO2 HX2 e0 e1 e2 e3 e4 e5 e6 e7 e8 e9 e10 e11 e12 ef el cs cl q0 q1 q2 q3 q4 q5 q6 gl HX
    generalize w2.heap.size = T at *
    obtain ⟨e0, e1, e2, e3, e4, e5, e6, e7, e8, e9, e10, e11, e12, ef, el⟩ := ev_cells HE3.out
    obtain ⟨t0, t1, t2, t3, t4, t5, t6, tl⟩ := rs_cells HT3.out
    go_wp2_with (refine wpList_ev_neq rfl (.tmp 47) (.tmp 58) rfl e (evCan e) rfl rfl ?_)
    refine (gone_any C i 1 b (.slice (some ⟨g, 0, none⟩) b.buys.length cp) v2 p6 p7 _ HX3.out (by omega) Hil.out).mono ?_
    rintro x W5 ⟨rfl, v1', v2', hx, hf1, hf2, ho⟩
    have hfr : Fresh w C (.slice (some ⟨g, 0, none⟩) b.buys.length cp) v2 v1' v2' := gone_fresh hf1 hf2
    have hEd : ¬ Mine C (.slice (some ⟨g, 0, none⟩) b.buys.length cp) v2 w.heap.size := by
      intro hm
      rcases hm with hm | hm | hm
      · exact blk_ne HX3.out.blk HE3.out (by decide) hm.symm
      · exact own_blk_ne HX3.out.r1 HE3.out (by decide) hm
      · exact own_blk_ne HX3.out.r2 HE3.out (by decide) hm
    have hTd : ¬ Mine C (.slice (some ⟨g, 0, none⟩) b.buys.length cp) v2 T := by
      have hTn := HTn.out
      intro hm
      rcases hm with hm | hm | hm
      · exact blk_ne HX3.out.blk HT3.out (by decide) hm.symm
      · have := own_lt HX0.out.r1 hm; omega
      · have := own_lt HX0.out.r2 hm; omega
    have HE5 : Hid (W5.heap[w.heap.size]? = some (.cells e.row tEvt (0, 0))) := Lib.hid (ho.blk HE3.out hEd)
    have HT5 : Hid (W5.heap[T]? = some (.cells r.row tR (0, 0))) := Lib.hid (ho.blk HT3.out hTd)
    have HO5 : Hid (Only (Mine C (.slice (some ⟨g, 0, none⟩) b.buys.length cp) v2) w W5) := Lib.hid ((HO3.out.mono (fun _ _ h => h.elim)).trans ho (fun _ _ h => h))
    have HX5 := Lib.hid hx
    have HF5 := Lib.hid hfr
    clear hx hf1 hf2 ho hfr hEd hTd e0 e1 e2 e3 e4 e5 e6 e7 e8 e9 e10 e11 e12 ef el t0 t1 t2 t3 t4 t5 t6 tl HX3 HE3 HT3 HO3
    obtain ⟨e0, e1, e2, e3, e4, e5, e6, e7, e8, e9, e10, e11, e12, ef, el⟩ := ev_cells HE5.out
    obtain ⟨t0, t1, t2, t3, t4, t5, t6, tl⟩ := rs_cells HT5.out
    go_wp2
    go_ret
    exact ⟨rfl, v1', v2', HX5.out, HF5.out, HO5.out⟩

set_option maxHeartbeats 1600000 in
set_option maxRecDepth 100000 in
theorem cancel_ok12 (C : Nat) (b : Bk) (e : Ev) (v1 v2 p6 p7 : Value) (w : World) (h : BkRep w C b v1 v2 p6 p7) (hb : b.ok) (hw : e.wf) (hr : (e.reason != 1) = false ∨ ((e.reason != 1) = true ∧ (e.reason != 2) = false)) (i : Nat) (r : Rs) (hf : b.find e.id = some (1, i)) (hd : (b.side 1)[i]? = some r) (hq : (e.qty != r.vis + r.hid) = false) (hn : e = evCan e) (hk : (e.reason == 2) = true) :
    Calls Try.prog 34 #[.pointer (some ⟨C, 0, none⟩), .agg e.row] w fun r' w' => r' = .returned (.int .i64 0) ∧ ∃ v1' v2' H, BkRep w' C (b.set 1 ((b.side 1).eraseIdx i)) v1' v2' p6 (.pointer (some ⟨H, 0, none⟩)) ∧ w'.heap[H]? = some (.cells #[.int .u32 r.mem, .int .i64 1, .int .i64 r.typ] tRp (0, 0)) ∧ Fresh w C v1 v2 v1' v2' ∧ Only (Mine C v1 v2) w w' := by
  have kk : (!decide (e = evCan e)) = false := by rw [decide_eq_true hn]; rfl
  have Hil : Hid (i < (b.side 1).length) := Lib.hid (List.getElem?_eq_some_iff.1 hd).1
  have HFi := Lib.hid (fun W (ho : Only Nil w W) => find_any e.id C b v1 v2 p6 p7 W (h.nil ho))
  rw [hf] at HFi
  unfold findV at HFi
  have hd' : b.buys[i]? = some r := hd
  have hi : i < b.buys.length := (List.getElem?_eq_some_iff.1 hd').1
  have hrk : r.ok mx := hb.side 1 r (by have := (List.getElem?_eq_some_iff.1 hd').2; rw [← this]; exact List.getElem_mem _)
  have hsum := hrk.sum
  have hvi := hrk.vis
  have hhi := hrk.hid
  have hwr : IntKind.u64.wrap (r.vis + r.hid) = r.vis + r.hid := by rw [IntKind.wrap_u64]; omega
  have hii : (i : Int) < (b.buys.length : Int) := by omega
  have hi0 : (0 : Int) ≤ (i : Int) := by omega
  have hsb : IntKind.i64.wrap 0 = 0 := by rw [IntKind.wrap_i64]; omega
  obtain ⟨g, cp, rfl, hgl, hnc, hcm⟩ := own_row h.r1 (by omega)
  have Hd := Lib.hid hd'
  clear hsum hvi hhi hrk hd' hd hgl
  clear hf hn
  have HX := Lib.hid h
  have HX0 := Lib.hid h
  have HE0 := Lib.hid (blk_new w (.cells e.row tEvt))
  have HO0 := Lib.hid ((Only.refl Nil w).alloc (.cells e.row tEvt))
  clear h hb hw
  go_enter Try.func34, Try.ntmps34
  unfold Ev.row
  go_upto_region 1 with fail
  generalize hW : World.alloc w _ = W1
  have hW' : w.alloc (.cells e.row tEvt) = W1 := hW
  rw [hW'] at HE0 HO0
  clear hW hW'
  have HX1 := Lib.hid (HX.out.nil HO0.out)
  obtain ⟨e0, e1, e2, e3, e4, e5, e6, e7, e8, e9, e10, e11, e12, ef, el⟩ := ev_cells HE0.out
  go_cut [16] from 9 to 76 (fun v16 wc => v16 = .bool false ∧ wc = W1)
  case first =>
    rcases hr with k1 | ⟨k1, k2⟩
    all_goals
      go_wp2
      go_meet
      case rel => exact ⟨rfl, rfl⟩
  case rest =>
    obtain ⟨rfl, rfl⟩ := hcut
    go_wp2_with fail
    refine (HFi.out _ HO0.out).mono ?_
    rintro x w2 ⟨rfl, ho⟩
    have HO2 : Hid (Only Nil w w2) := Lib.hid (HO0.out.trans (S := Nil) ho (fun _ _ h => h))
    have HE2 : Hid (w2.heap[w.heap.size]? = some (.cells e.row tEvt (0, 0))) := Lib.hid (ho.blk HE0.out (fun h => h))
    have HX2 := Lib.hid (HX.out.nil HO2.out)
    clear ho HO0 HE0 HX1 e0 e1 e2 e3 e4 e5 e6 e7 e8 e9 e10 e11 e12 ef el
    obtain ⟨e0, e1, e2, e3, e4, e5, e6, e7, e8, e9, e10, e11, e12, ef, el⟩ := ev_cells HE2.out
    have cs := blk_cell HX2.out.blk 2
    have cl := blk_lt HX2.out.blk
    simp only [List.getElem?_toArray, List.getElem?_cons_zero, List.getElem?_cons_succ] at cs
    have q0 := row_at HX2.out.r1 Hd.out 0 (by omega)
    have q1 := row_at HX2.out.r1 Hd.out 1 (by omega)
    have q2 := row_at HX2.out.r1 Hd.out 2 (by omega)
    have q3 := row_at HX2.out.r1 Hd.out 3 (by omega)
    have q4 := row_at HX2.out.r1 Hd.out 4 (by omega)
    have q5 := row_at HX2.out.r1 Hd.out 5 (by omega)
    have q6 := row_at HX2.out.r1 Hd.out 6 (by omega)
    simp only [Rs.cells, Nat.add_zero, List.getElem?_cons_zero, List.getElem?_cons_succ] at q0 q1 q2 q3 q4 q5 q6
    have gl : g < w2.heap.size := own_lt HX2.out.r1 rfl
    go_upto_region 7 with fail
    generalize hW : World.alloc w2 _ = W3
    have hW' : w2.alloc (.cells r.row tR) = W3 := hW
    have ho3 : Only Nil w2 W3 := by rw [← hW']; exact (Only.refl _ _).alloc _
    have HT3 : Hid (W3.heap[w2.heap.size]? = some (.cells r.row tR (0, 0))) := Lib.hid (by rw [← hW']; exact blk_new _ _)
    have HE3 : Hid (W3.heap[w.heap.size]? = some (.cells e.row tEvt (0, 0))) := Lib.hid (ho3.blk HE2.out (fun h => h))
    have HO3 : Hid (Only Nil w W3) := Lib.hid (HO2.out.trans (S := Nil) ho3 (fun _ _ h => h))
    have HX3 := Lib.hid (HX.out.nil HO3.out)
    have HTn : Hid (w.heap.size ≤ w2.heap.size) := Lib.hid HO2.out.size
    clear hW hW' ho3 HE2 HO2 HX2 e0 e1 e2 e3 e4 e5 e6 e7 e8 e9 e10 e11 e12 ef el cs cl q0 q1 q2 q3 q4 q5 q6 gl HX
    generalize w2.heap.size = T at *
    obtain ⟨e0, e1, e2, e3, e4, e5, e6, e7, e8, e9, e10, e11, e12, ef, el⟩ := ev_cells HE3.out
    obtain ⟨t0, t1, t2, t3, t4, t5, t6, tl⟩ := rs_cells HT3.out
    go_wp2_with (refine wpList_ev_neq rfl (.tmp 47) (.tmp 58) rfl e (evCan e) rfl rfl ?_)
    refine (gone_any C i 1 b (.slice (some ⟨g, 0, none⟩) b.buys.length cp) v2 p6 p7 _ HX3.out (by omega) Hil.out).mono ?_
    rintro x W5 ⟨rfl, v1', v2', hx, hf1, hf2, ho⟩
    have hfr : Fresh w C (.slice (some ⟨g, 0, none⟩) b.buys.length cp) v2 v1' v2' := gone_fresh hf1 hf2
    have hEd : ¬ Mine C (.slice (some ⟨g, 0, none⟩) b.buys.length cp) v2 w.heap.size := by
      intro hm
      rcases hm with hm | hm | hm
      · exact blk_ne HX3.out.blk HE3.out (by decide) hm.symm
      · exact own_blk_ne HX3.out.r1 HE3.out (by decide) hm
      · exact own_blk_ne HX3.out.r2 HE3.out (by decide) hm
    have hTd : ¬ Mine C (.slice (some ⟨g, 0, none⟩) b.buys.length cp) v2 T := by
      have hTn := HTn.out
      intro hm
      rcases hm with hm | hm | hm
      · exact blk_ne HX3.out.blk HT3.out (by decide) hm.symm
      · have := own_lt HX0.out.r1 hm; omega
      · have := own_lt HX0.out.r2 hm; omega
    have HE5 : Hid (W5.heap[w.heap.size]? = some (.cells e.row tEvt (0, 0))) := Lib.hid (ho.blk HE3.out hEd)
    have HT5 : Hid (W5.heap[T]? = some (.cells r.row tR (0, 0))) := Lib.hid (ho.blk HT3.out hTd)
    have HO5 : Hid (Only (Mine C (.slice (some ⟨g, 0, none⟩) b.buys.length cp) v2) w W5) := Lib.hid ((HO3.out.mono (fun _ _ h => h.elim)).trans ho (fun _ _ h => h))
    have HX5 := Lib.hid hx
    have HF5 := Lib.hid hfr
    clear hx hf1 hf2 ho hfr hEd hTd e0 e1 e2 e3 e4 e5 e6 e7 e8 e9 e10 e11 e12 ef el t0 t1 t2 t3 t4 t5 t6 tl HX3 HE3 HT3 HO3
    obtain ⟨e0, e1, e2, e3, e4, e5, e6, e7, e8, e9, e10, e11, e12, ef, el⟩ := ev_cells HE5.out
    obtain ⟨t0, t1, t2, t3, t4, t5, t6, tl⟩ := rs_cells HT5.out
    have a7 := blk_cell HX5.out.blk 7
    have af := fun k => blk_frozen HX5.out.blk k
    have al := blk_lt HX5.out.blk
    simp only [List.getElem?_toArray, List.getElem?_cons_zero, List.getElem?_cons_succ] at a7
    go_wp2
    go_ret
    exact ⟨rfl, v1', v2', W5.heap.size, (HX5.out.set7 _).nil ((Only.refl Nil _).alloc _), blk_new' _ _ _ (by simp), HF5.out, (HO5.out.setCell (p := ⟨C, 7, none⟩) (.inl (.inl rfl)) _).alloc _⟩

set_option maxHeartbeats 1600000 in
set_option maxRecDepth 100000 in
theorem cancel_qty2 (C : Nat) (b : Bk) (e : Ev) (v1 v2 p6 p7 : Value) (w : World) (h : BkRep w C b v1 v2 p6 p7) (hb : b.ok) (hw : e.wf) (hr : (e.reason != 1) = false ∨ ((e.reason != 1) = true ∧ (e.reason != 2) = false)) (i : Nat) (r : Rs) (hf : b.find e.id = some (2, i)) (hd : (b.side 2)[i]? = some r) (hq : (e.qty != r.vis + r.hid) = true) :
    Calls Try.prog 34 #[.pointer (some ⟨C, 0, none⟩), .agg e.row] w fun r w' => r = .returned (.int .i64 193) ∧ Only Nil w w' := by
  have HFi := Lib.hid (fun W (ho : Only Nil w W) => find_any e.id C b v1 v2 p6 p7 W (h.nil ho))
  rw [hf] at HFi
  unfold findV at HFi
  have hd' : b.sells[i]? = some r := hd
  have hi : i < b.sells.length := (List.getElem?_eq_some_iff.1 hd').1
  have hrk : r.ok mx := hb.side 2 r (by have := (List.getElem?_eq_some_iff.1 hd').2; rw [← this]; exact List.getElem_mem _)
  have hsum := hrk.sum
  have hvi := hrk.vis
  have hhi := hrk.hid
  have hwr : IntKind.u64.wrap (r.vis + r.hid) = r.vis + r.hid := by rw [IntKind.wrap_u64]; omega
  have hii : (i : Int) < (b.sells.length : Int) := by omega
  have hi0 : (0 : Int) ≤ (i : Int) := by omega
  have hsb : IntKind.i64.wrap 1 = 1 := by rw [IntKind.wrap_i64]; omega
  obtain ⟨g, cp, rfl, hgl, hnc, hcm⟩ := own_row h.r2 (by omega)
  have Hd := Lib.hid hd'
  clear hsum hvi hhi hrk hd' hd hgl
  clear hf
  have HX := Lib.hid h
  have HE0 := Lib.hid (blk_new w (.cells e.row tEvt))
  have HO0 := Lib.hid ((Only.refl Nil w).alloc (.cells e.row tEvt))
  clear h hb hw
  go_enter Try.func34, Try.ntmps34
  unfold Ev.row
  go_upto_region 1 with fail
  generalize hW : World.alloc w _ = W1
  have hW' : w.alloc (.cells e.row tEvt) = W1 := hW
  rw [hW'] at HE0 HO0
  clear hW hW'
  have HX1 := Lib.hid (HX.out.nil HO0.out)
  obtain ⟨e0, e1, e2, e3, e4, e5, e6, e7, e8, e9, e10, e11, e12, ef, el⟩ := ev_cells HE0.out
  go_cut [16] from 9 to 76 (fun v16 wc => v16 = .bool false ∧ wc = W1)
  case first =>
    rcases hr with k1 | ⟨k1, k2⟩
    all_goals
      go_wp2
      go_meet
      case rel => exact ⟨rfl, rfl⟩
  case rest =>
    obtain ⟨rfl, rfl⟩ := hcut
    go_wp2_with fail
    refine (HFi.out _ HO0.out).mono ?_
    rintro x w2 ⟨rfl, ho⟩
    have HO2 : Hid (Only Nil w w2) := Lib.hid (HO0.out.trans (S := Nil) ho (fun _ _ h => h))
    have HE2 : Hid (w2.heap[w.heap.size]? = some (.cells e.row tEvt (0, 0))) := Lib.hid (ho.blk HE0.out (fun h => h))
    have HX2 := Lib.hid (HX.out.nil HO2.out)
    clear ho HO0 HE0 HX1 e0 e1 e2 e3 e4 e5 e6 e7 e8 e9 e10 e11 e12 ef el
    obtain ⟨e0, e1, e2, e3, e4, e5, e6, e7, e8, e9, e10, e11, e12, ef, el⟩ := ev_cells HE2.out
    have cs := blk_cell HX2.out.blk 3
    have cl := blk_lt HX2.out.blk
    simp only [List.getElem?_toArray, List.getElem?_cons_zero, List.getElem?_cons_succ] at cs
    have q0 := row_at HX2.out.r2 Hd.out 0 (by omega)
    have q1 := row_at HX2.out.r2 Hd.out 1 (by omega)
    have q2 := row_at HX2.out.r2 Hd.out 2 (by omega)
    have q3 := row_at HX2.out.r2 Hd.out 3 (by omega)
    have q4 := row_at HX2.out.r2 Hd.out 4 (by omega)
    have q5 := row_at HX2.out.r2 Hd.out 5 (by omega)
    have q6 := row_at HX2.out.r2 Hd.out 6 (by omega)
    simp only [Rs.cells, Nat.add_zero, List.getElem?_cons_zero, List.getElem?_cons_succ] at q0 q1 q2 q3 q4 q5 q6
    have gl : g < w2.heap.size := own_lt HX2.out.r2 rfl
    go_upto_region 7 with fail
    generalize hW : World.alloc w2 _ = W3
    have hW' : w2.alloc (.cells r.row tR) = W3 := hW
    have ho3 : Only Nil w2 W3 := by rw [← hW']; exact (Only.refl _ _).alloc _
    have HT3 : Hid (W3.heap[w2.heap.size]? = some (.cells r.row tR (0, 0))) := Lib.hid (by rw [← hW']; exact blk_new _ _)
    have HE3 : Hid (W3.heap[w.heap.size]? = some (.cells e.row tEvt (0, 0))) := Lib.hid (ho3.blk HE2.out (fun h => h))
    have HO3 : Hid (Only Nil w W3) := Lib.hid (HO2.out.trans (S := Nil) ho3 (fun _ _ h => h))
    have HX3 := Lib.hid (HX.out.nil HO3.out)
    have HTn : Hid (w.heap.size ≤ w2.heap.size) := Lib.hid HO2.out.size
    clear hW hW' ho3 HE2 HO2 HX2 e0 e1 e2 e3 e4 e5 e6 e7 e8 e9 e10 e11 e12 ef el cs cl q0 q1 q2 q3 q4 q5 q6 gl HX
    generalize w2.heap.size = T at *
    obtain ⟨e0, e1, e2, e3, e4, e5, e6, e7, e8, e9, e10, e11, e12, ef, el⟩ := ev_cells HE3.out
    obtain ⟨t0, t1, t2, t3, t4, t5, t6, tl⟩ := rs_cells HT3.out
    go_wp2
    go_ret
    exact ⟨rfl, HO3.out⟩

set_option maxHeartbeats 1600000 in
set_option maxRecDepth 100000 in
theorem cancel_form2 (C : Nat) (b : Bk) (e : Ev) (v1 v2 p6 p7 : Value) (w : World) (h : BkRep w C b v1 v2 p6 p7) (hb : b.ok) (hw : e.wf) (hr : (e.reason != 1) = false ∨ ((e.reason != 1) = true ∧ (e.reason != 2) = false)) (i : Nat) (r : Rs) (hf : b.find e.id = some (2, i)) (hd : (b.side 2)[i]? = some r) (hq : (e.qty != r.vis + r.hid) = false) (hn : e ≠ evCan e) :
    Calls Try.prog 34 #[.pointer (some ⟨C, 0, none⟩), .agg e.row] w fun r w' => r = .returned (.int .i64 191) ∧ Only Nil w w' := by
  have kk : (!decide (e = evCan e)) = true := by simp [hn]
  have HFi := Lib.hid (fun W (ho : Only Nil w W) => find_any e.id C b v1 v2 p6 p7 W (h.nil ho))
  rw [hf] at HFi
  unfold findV at HFi
  have hd' : b.sells[i]? = some r := hd
  have hi : i < b.sells.length := (List.getElem?_eq_some_iff.1 hd').1
  have hrk : r.ok mx := hb.side 2 r (by have := (List.getElem?_eq_some_iff.1 hd').2; rw [← this]; exact List.getElem_mem _)
  have hsum := hrk.sum
  have hvi := hrk.vis
  have hhi := hrk.hid
  have hwr : IntKind.u64.wrap (r.vis + r.hid) = r.vis + r.hid := by rw [IntKind.wrap_u64]; omega
  have hii : (i : Int) < (b.sells.length : Int) := by omega
  have hi0 : (0 : Int) ≤ (i : Int) := by omega
  have hsb : IntKind.i64.wrap 1 = 1 := by rw [IntKind.wrap_i64]; omega
  obtain ⟨g, cp, rfl, hgl, hnc, hcm⟩ := own_row h.r2 (by omega)
  have Hd := Lib.hid hd'
  clear hsum hvi hhi hrk hd' hd hgl
  clear hf hn
  have HX := Lib.hid h
  have HE0 := Lib.hid (blk_new w (.cells e.row tEvt))
  have HO0 := Lib.hid ((Only.refl Nil w).alloc (.cells e.row tEvt))
  clear h hb hw
  go_enter Try.func34, Try.ntmps34
  unfold Ev.row
  go_upto_region 1 with fail
  generalize hW : World.alloc w _ = W1
  have hW' : w.alloc (.cells e.row tEvt) = W1 := hW
  rw [hW'] at HE0 HO0
  clear hW hW'
  have HX1 := Lib.hid (HX.out.nil HO0.out)
  obtain ⟨e0, e1, e2, e3, e4, e5, e6, e7, e8, e9, e10, e11, e12, ef, el⟩ := ev_cells HE0.out
  go_cut [16] from 9 to 76 (fun v16 wc => v16 = .bool false ∧ wc = W1)
  case first =>
    rcases hr with k1 | ⟨k1, k2⟩
    all_goals
      go_wp2
      go_meet
      case rel => exact ⟨rfl, rfl⟩
  case rest =>
    obtain ⟨rfl, rfl⟩ := hcut
    go_wp2_with fail
    refine (HFi.out _ HO0.out).mono ?_
    rintro x w2 ⟨rfl, ho⟩
    have HO2 : Hid (Only Nil w w2) := Lib.hid (HO0.out.trans (S := Nil) ho (fun _ _ h => h))
    have HE2 : Hid (w2.heap[w.heap.size]? = some (.cells e.row tEvt (0, 0))) := Lib.hid (ho.blk HE0.out (fun h => h))
    have HX2 := Lib.hid (HX.out.nil HO2.out)
    clear ho HO0 HE0 HX1 e0 e1 e2 e3 e4 e5 e6 e7 e8 e9 e10 e11 e12 ef el
    obtain ⟨e0, e1, e2, e3, e4, e5, e6, e7, e8, e9, e10, e11, e12, ef, el⟩ := ev_cells HE2.out
    have cs := blk_cell HX2.out.blk 3
    have cl := blk_lt HX2.out.blk
    simp only [List.getElem?_toArray, List.getElem?_cons_zero, List.getElem?_cons_succ] at cs
    have q0 := row_at HX2.out.r2 Hd.out 0 (by omega)
    have q1 := row_at HX2.out.r2 Hd.out 1 (by omega)
    have q2 := row_at HX2.out.r2 Hd.out 2 (by omega)
    have q3 := row_at HX2.out.r2 Hd.out 3 (by omega)
    have q4 := row_at HX2.out.r2 Hd.out 4 (by omega)
    have q5 := row_at HX2.out.r2 Hd.out 5 (by omega)
    have q6 := row_at HX2.out.r2 Hd.out 6 (by omega)
    simp only [Rs.cells, Nat.add_zero, List.getElem?_cons_zero, List.getElem?_cons_succ] at q0 q1 q2 q3 q4 q5 q6
    have gl : g < w2.heap.size := own_lt HX2.out.r2 rfl
    go_upto_region 7 with fail
    generalize hW : World.alloc w2 _ = W3
    have hW' : w2.alloc (.cells r.row tR) = W3 := hW
    have ho3 : Only Nil w2 W3 := by rw [← hW']; exact (Only.refl _ _).alloc _
    have HT3 : Hid (W3.heap[w2.heap.size]? = some (.cells r.row tR (0, 0))) := Lib.hid (by rw [← hW']; exact blk_new _ _)
    have HE3 : Hid (W3.heap[w.heap.size]? = some (.cells e.row tEvt (0, 0))) := Lib.hid (ho3.blk HE2.out (fun h => h))
    have HO3 : Hid (Only Nil w W3) := Lib.hid (HO2.out.trans (S := Nil) ho3 (fun _ _ h => h))
    have HX3 := Lib.hid (HX.out.nil HO3.out)
    have HTn : Hid (w.heap.size ≤ w2.heap.size) := Lib.hid HO2.out.size
    clear hW hW' ho3 HE2 HO2 HX2 e0 e1 e2 e3 e4 e5 e6 e7 e8 e9 e10 e11 e12 ef el cs cl q0 q1 q2 q3 q4 q5 q6 gl HX
    generalize w2.heap.size = T at *
    obtain ⟨e0, e1, e2, e3, e4, e5, e6, e7, e8, e9, e10, e11, e12, ef, el⟩ := ev_cells HE3.out
    obtain ⟨t0, t1, t2, t3, t4, t5, t6, tl⟩ := rs_cells HT3.out
    go_wp2_with (refine wpList_ev_neq rfl (.tmp 47) (.tmp 58) rfl e (evCan e) rfl rfl ?_)
    go_ret
    exact ⟨rfl, HO3.out⟩

set_option maxHeartbeats 1600000 in
set_option maxRecDepth 100000 in
theorem cancel_ok21 (C : Nat) (b : Bk) (e : Ev) (v1 v2 p6 p7 : Value) (w : World) (h : BkRep w C b v1 v2 p6 p7) (hb : b.ok) (hw : e.wf) (hr : (e.reason != 1) = false ∨ ((e.reason != 1) = true ∧ (e.reason != 2) = false)) (i : Nat) (r : Rs) (hf : b.find e.id = some (2, i)) (hd : (b.side 2)[i]? = some r) (hq : (e.qty != r.vis + r.hid) = false) (hn : e = evCan e) (hk : (e.reason == 2) = false) :
    Calls Try.prog 34 #[.pointer (some ⟨C, 0, none⟩), .agg e.row] w fun r' w' => r' = .returned (.int .i64 0) ∧ ∃ v1' v2', BkRep w' C (b.set 2 ((b.side 2).eraseIdx i)) v1' v2' p6 p7 ∧ Fresh w C v1 v2 v1' v2' ∧ Only (Mine C v1 v2) w w' := by
  have kk : (!decide (e = evCan e)) = false := by rw [decide_eq_true hn]; rfl
  have Hil : Hid (i < (b.side 2).length) := Lib.hid (List.getElem?_eq_some_iff.1 hd).1
  have HFi := Lib.hid (fun W (ho : Only Nil w W) => find_any e.id C b v1 v2 p6 p7 W (h.nil ho))
  rw [hf] at HFi
  unfold findV at HFi
  have hd' : b.sells[i]? = some r := hd
  have hi : i < b.sells.length := (List.getElem?_eq_some_iff.1 hd').1
  have hrk : r.ok mx := hb.side 2 r (by have := (List.getElem?_eq_some_iff.1 hd').2; rw [← this]; exact List.getElem_mem _)
  have hsum := hrk.sum
  have hvi := hrk.vis
  have hhi := hrk.hid
  have hwr : IntKind.u64.wrap (r.vis + r.hid) = r.vis + r.hid := by rw [IntKind.wrap_u64]; omega
  have hii : (i : Int) < (b.sells.length : Int) := by omega
  have hi0 : (0 : Int) ≤ (i : Int) := by omega
  have hsb : IntKind.i64.wrap 1 = 1 := by rw [IntKind.wrap_i64]; omega
  obtain ⟨g, cp, rfl, hgl, hnc, hcm⟩ := own_row h.r2 (by omega)
  have Hd := Lib.hid hd'
  clear hsum hvi hhi hrk hd' hd hgl
  clear hf hn
  have HX := Lib.hid h
  have HX0 := Lib.hid h
  have HE0 := Lib.hid (blk_new w (.cells e.row tEvt))
  have HO0 := Lib.hid ((Only.refl Nil w).alloc (.cells e.row tEvt))
  clear h hb hw
  go_enter Try.func34, Try.ntmps34
  unfold Ev.row
  go_upto_region 1 with fail
  generalize hW : World.alloc w _ = W1
  have hW' : w.alloc (.cells e.row tEvt) = W1 := hW
  rw [hW'] at HE0 HO0
  clear hW hW'
  have HX1 := Lib.hid (HX.out.nil HO0.out)
  obtain ⟨e0, e1, e2, e3, e4, e5, e6, e7, e8, e9, e10, e11, e12, ef, el⟩ := ev_cells HE0.out
  go_cut [16] from 9 to 76 (fun v16 wc => v16 = .bool false ∧ wc = W1)
  case first =>
    rcases hr with k1 | ⟨k1, k2⟩
    all_goals
      go_wp2
      go_meet
      case rel => exact ⟨rfl, rfl⟩
  case rest =>
    obtain ⟨rfl, rfl⟩ := hcut
    go_wp2_with fail
    refine (HFi.out _ HO0.out).mono ?_
    rintro x w2 ⟨rfl, ho⟩
    have HO2 : Hid (Only Nil w w2) := Lib.hid (HO0.out.trans (S := Nil) ho (fun _ _ h => h))
    have HE2 : Hid (w2.heap[w.heap.size]? = some (.cells e.row tEvt (0, 0))) := Lib.hid (ho.blk HE0.out (fun h => h))
    have HX2 := Lib.hid (HX.out.nil HO2.out)
    clear ho HO0 HE0 HX1 e0 e1 e2 e3 e4 e5 e6 e7 e8 e9 e10 e11 e12 ef el
    obtain ⟨e0, e1, e2, e3, e4, e5, e6, e7, e8, e9, e10, e11, e12, ef, el⟩ := ev_cells HE2.out
    have cs := blk_cell HX2.out.blk 3
    have cl := blk_lt HX2.out.blk
    simp only [List.getElem?_toArray, List.getElem?_cons_zero, List.getElem?_cons_succ] at cs
    have q0 := row_at HX2.out.r2 Hd.out 0 (by omega)
    have q1 := row_at HX2.out.r2 Hd.out 1 (by omega)
    have q2 := row_at HX2.out.r2 Hd.out 2 (by omega)
    have q3 := row_at HX2.out.r2 Hd.out 3 (by omega)
    have q4 := row_at HX2.out.r2 Hd.out 4 (by omega)
    have q5 := row_at HX2.out.r2 Hd.out 5 (by omega)
    have q6 := row_at HX2.out.r2 Hd.out 6 (by omega)
    simp only [Rs.cells, Nat.add_zero, List.getElem?_cons_zero, List.getElem?_cons_succ] at q0 q1 q2 q3 q4 q5 q6
    have gl : g < w2.heap.size := own_lt HX2.out.r2 rfl
    go_upto_region 7 with fail
    generalize hW : World.alloc w2 _ = W3
    have hW' : w2.alloc (.cells r.row tR) = W3 := hW
    have ho3 : Only Nil w2 W3 := by rw [← hW']; exact (Only.refl _ _).alloc _
    have HT3 : Hid (W3.heap[w2.heap.size]? = some (.cells r.row tR (0, 0))) := Lib.hid (by rw [← hW']; exact blk_new _ _)
    have HE3 : Hid (W3.heap[w.heap.size]? = some (.cells e.row tEvt (0, 0))) := Lib.hid (ho3.blk HE2.out (fun h => h))
    have HO3 : Hid (Only Nil w W3) := Lib.hid (HO2.out.trans (S := Nil) ho3 (fun _ _ h => h))
    have HX3 := Lib.hid (HX.out.nil HO3.out)
    have HTn : Hid (w.heap.size ≤ w2.heap.size) := Lib.hid HO2.out.size
    clear hW hW' ho3 HE2 HO2 HX2 e0 e1 e2 e3 e4 e5 e6 e7 e8 e9 e10 e11 e12 ef el cs cl q0 q1 q2 q3 q4 q5 q6 gl HX
    generalize w2.heap.size = T at *
    obtain ⟨e0, e1, e2, e3, e4, e5, e6, e7, e8, e9, e10, e11, e12, ef, el⟩ := ev_cells HE3.out
    obtain ⟨t0, t1, t2, t3, t4, t5, t6, tl⟩ := rs_cells HT3.out
    go_wp2_with (refine wpList_ev_neq rfl (.tmp 47) (.tmp 58) rfl e (evCan e) rfl rfl ?_)
    refine (gone_any C i 2 b v1 (.slice (some ⟨g, 0, none⟩) b.sells.length cp) p6 p7 _ HX3.out (by omega) Hil.out).mono ?_
    rintro x W5 ⟨rfl, v1', v2', hx, hf1, hf2, ho⟩
    have hfr : Fresh w C v1 (.slice (some ⟨g, 0, none⟩) b.sells.length cp) v1' v2' := gone_fresh hf1 hf2
    have hEd : ¬ Mine C v1 (.slice (some ⟨g, 0, none⟩) b.sells.length cp) w.heap.size := by
      intro hm
      rcases hm with hm | hm | hm
      · exact blk_ne HX3.out.blk HE3.out (by decide) hm.symm
      · exact own_blk_ne HX3.out.r1 HE3.out (by decide) hm
      · exact own_blk_ne HX3.out.r2 HE3.out (by decide) hm
    have hTd : ¬ Mine C v1 (.slice (some ⟨g, 0, none⟩) b.sells.length cp) T := by
      have hTn := HTn.out
      intro hm
      rcases hm with hm | hm | hm
      · exact blk_ne HX3.out.blk HT3.out (by decide) hm.symm
      · have := own_lt HX0.out.r1 hm; omega
      · have := own_lt HX0.out.r2 hm; omega
    have HE5 : Hid (W5.heap[w.heap.size]? = some (.cells e.row tEvt (0, 0))) := Lib.hid (ho.blk HE3.out hEd)
    have HT5 : Hid (W5.heap[T]? = some (.cells r.row tR (0, 0))) := Lib.hid (ho.blk HT3.out hTd)
    have HO5 : Hid (Only (Mine C v1 (.slice (some ⟨g, 0, none⟩) b.sells.length cp)) w W5) := Lib.hid ((HO3.out.mono (fun _ _ h => h.elim)).trans ho (fun _ _ h => h))
    have HX5 := Lib.hid hx
    have HF5 := Lib.hid hfr
    clear hx hf1 hf2 ho hfr hEd hTd e0 e1 e2 e3 e4 e5 e6 e7 e8 e9 e10 e11 e12 ef el t0 t1 t2 t3 t4 t5 t6 tl HX3 HE3 HT3 HO3
    obtain ⟨e0, e1, e2, e3, e4, e5, e6, e7, e8, e9, e10, e11, e12, ef, el⟩ := ev_cells HE5.out
    obtain ⟨t0, t1, t2, t3, t4, t5, t6, tl⟩ := rs_cells HT5.out
    go_wp2
    go_ret
    exact ⟨rfl, v1', v2', HX5.out, HF5.out, HO5.out⟩

set_option maxHeartbeats 1600000 in
set_option maxRecDepth 100000 in
theorem cancel_ok22 (C : Nat) (b : Bk) (e : Ev) (v1 v2 p6 p7 : Value) (w : World) (h : BkRep w C b v1 v2 p6 p7) (hb : b.ok) (hw : e.wf) (hr : (e.reason != 1) = false ∨ ((e.reason != 1) = true ∧ (e.reason != 2) = false)) (i : Nat) (r : Rs) (hf : b.find e.id = some (2, i)) (hd : (b.side 2)[i]? = some r) (hq : (e.qty != r.vis + r.hid) = false) (hn : e = evCan e) (hk : (e.reason == 2) = true) :
    Calls Try.prog 34 #[.pointer (some ⟨C, 0, none⟩), .agg e.row] w fun r' w' => r' = .returned (.int .i64 0) ∧ ∃ v1' v2' H, BkRep w' C (b.set 2 ((b.side 2).eraseIdx i)) v1' v2' p6 (.pointer (some ⟨H, 0, none⟩)) ∧ w'.heap[H]? = some (.cells #[.int .u32 r.mem, .int .i64 2, .int .i64 r.typ] tRp (0, 0)) ∧ Fresh w C v1 v2 v1' v2' ∧ Only (Mine C v1 v2) w w' := by
  have kk : (!decide (e = evCan e)) = false := by rw [decide_eq_true hn]; rfl
  have Hil : Hid (i < (b.side 2).length) := Lib.hid (List.getElem?_eq_some_iff.1 hd).1
  have HFi := Lib.hid (fun W (ho : Only Nil w W) => find_any e.id C b v1 v2 p6 p7 W (h.nil ho))
  rw [hf] at HFi
  unfold findV at HFi
  have hd' : b.sells[i]? = some r := hd
  have hi : i < b.sells.length := (List.getElem?_eq_some_iff.1 hd').1
  have hrk : r.ok mx := hb.side 2 r (by have := (List.getElem?_eq_some_iff.1 hd').2; rw [← this]; exact List.getElem_mem _)
  have hsum := hrk.sum
  have hvi := hrk.vis
  have hhi := hrk.hid
  have hwr : IntKind.u64.wrap (r.vis + r.hid) = r.vis + r.hid := by rw [IntKind.wrap_u64]; omega
  have hii : (i : Int) < (b.sells.length : Int) := by omega
  have hi0 : (0 : Int) ≤ (i : Int) := by omega
  have hsb : IntKind.i64.wrap 1 = 1 := by rw [IntKind.wrap_i64]; omega
  obtain ⟨g, cp, rfl, hgl, hnc, hcm⟩ := own_row h.r2 (by omega)
  have Hd := Lib.hid hd'
  clear hsum hvi hhi hrk hd' hd hgl
  clear hf hn
  have HX := Lib.hid h
  have HX0 := Lib.hid h
  have HE0 := Lib.hid (blk_new w (.cells e.row tEvt))
  have HO0 := Lib.hid ((Only.refl Nil w).alloc (.cells e.row tEvt))
  clear h hb hw
  go_enter Try.func34, Try.ntmps34
  unfold Ev.row
  go_upto_region 1 with fail
  generalize hW : World.alloc w _ = W1
  have hW' : w.alloc (.cells e.row tEvt) = W1 := hW
  rw [hW'] at HE0 HO0
  clear hW hW'
  have HX1 := Lib.hid (HX.out.nil HO0.out)
  obtain ⟨e0, e1, e2, e3, e4, e5, e6, e7, e8, e9, e10, e11, e12, ef, el⟩ := ev_cells HE0.out
  go_cut [16] from 9 to 76 (fun v16 wc => v16 = .bool false ∧ wc = W1)
  case first =>
    rcases hr with k1 | ⟨k1, k2⟩
    all_goals
      go_wp2
      go_meet
      case rel => exact ⟨rfl, rfl⟩
  case rest =>
    obtain ⟨rfl, rfl⟩ := hcut
    go_wp2_with fail
    refine (HFi.out _ HO0.out).mono ?_
    rintro x w2 ⟨rfl, ho⟩
    have HO2 : Hid (Only Nil w w2) := Lib.hid (HO0.out.trans (S := Nil) ho (fun _ _ h => h))
    have HE2 : Hid (w2.heap[w.heap.size]? = some (.cells e.row tEvt (0, 0))) := Lib.hid (ho.blk HE0.out (fun h => h))
    have HX2 := Lib.hid (HX.out.nil HO2.out)
    clear ho HO0 HE0 HX1 e0 e1 e2 e3 e4 e5 e6 e7 e8 e9 e10 e11 e12 ef el
    obtain ⟨e0, e1, e2, e3, e4, e5, e6, e7, e8, e9, e10, e11, e12, ef, el⟩ := ev_cells HE2.out
    have cs := blk_cell HX2.out.blk 3
    have cl := blk_lt HX2.out.blk
    simp only [List.getElem?_toArray, List.getElem?_cons_zero, List.getElem?_cons_succ] at cs
    have q0 := row_at HX2.out.r2 Hd.out 0 (by omega)
    have q1 := row_at HX2.out.r2 Hd.out 1 (by omega)
    have q2 := row_at HX2.out.r2 Hd.out 2 (by omega)
    have q3 := row_at HX2.out.r2 Hd.out 3 (by omega)
    have q4 := row_at HX2.out.r2 Hd.out 4 (by omega)
    have q5 := row_at HX2.out.r2 Hd.out 5 (by omega)
    have q6 := row_at HX2.out.r2 Hd.out 6 (by omega)
    simp only [Rs.cells, Nat.add_zero, List.getElem?_cons_zero, List.getElem?_cons_succ] at q0 q1 q2 q3 q4 q5 q6
    have gl : g < w2.heap.size := own_lt HX2.out.r2 rfl
    go_upto_region 7 with fail
    generalize hW : World.alloc w2 _ = W3
    have hW' : w2.alloc (.cells r.row tR) = W3 := hW
    have ho3 : Only Nil w2 W3 := by rw [← hW']; exact (Only.refl _ _).alloc _
    have HT3 : Hid (W3.heap[w2.heap.size]? = some (.cells r.row tR (0, 0))) := Lib.hid (by rw [← hW']; exact blk_new _ _)
    have HE3 : Hid (W3.heap[w.heap.size]? = some (.cells e.row tEvt (0, 0))) := Lib.hid (ho3.blk HE2.out (fun h => h))
    have HO3 : Hid (Only Nil w W3) := Lib.hid (HO2.out.trans (S := Nil) ho3 (fun _ _ h => h))
    have HX3 := Lib.hid (HX.out.nil HO3.out)
    have HTn : Hid (w.heap.size ≤ w2.heap.size) := Lib.hid HO2.out.size
    clear hW hW' ho3 HE2 HO2 HX2 e0 e1 e2 e3 e4 e5 e6 e7 e8 e9 e10 e11 e12 ef el cs cl q0 q1 q2 q3 q4 q5 q6 gl HX
    generalize w2.heap.size = T at *
    obtain ⟨e0, e1, e2, e3, e4, e5, e6, e7, e8, e9, e10, e11, e12, ef, el⟩ := ev_cells HE3.out
    obtain ⟨t0, t1, t2, t3, t4, t5, t6, tl⟩ := rs_cells HT3.out
    go_wp2_with (refine wpList_ev_neq rfl (.tmp 47) (.tmp 58) rfl e (evCan e) rfl rfl ?_)
    refine (gone_any C i 2 b v1 (.slice (some ⟨g, 0, none⟩) b.sells.length cp) p6 p7 _ HX3.out (by omega) Hil.out).mono ?_
    rintro x W5 ⟨rfl, v1', v2', hx, hf1, hf2, ho⟩
    have hfr : Fresh w C v1 (.slice (some ⟨g, 0, none⟩) b.sells.length cp) v1' v2' := gone_fresh hf1 hf2
    have hEd : ¬ Mine C v1 (.slice (some ⟨g, 0, none⟩) b.sells.length cp) w.heap.size := by
      intro hm
      rcases hm with hm | hm | hm
      · exact blk_ne HX3.out.blk HE3.out (by decide) hm.symm
      · exact own_blk_ne HX3.out.r1 HE3.out (by decide) hm
      · exact own_blk_ne HX3.out.r2 HE3.out (by decide) hm
    have hTd : ¬ Mine C v1 (.slice (some ⟨g, 0, none⟩) b.sells.length cp) T := by
      have hTn := HTn.out
      intro hm
      rcases hm with hm | hm | hm
      · exact blk_ne HX3.out.blk HT3.out (by decide) hm.symm
      · have := own_lt HX0.out.r1 hm; omega
      · have := own_lt HX0.out.r2 hm; omega
    have HE5 : Hid (W5.heap[w.heap.size]? = some (.cells e.row tEvt (0, 0))) := Lib.hid (ho.blk HE3.out hEd)
    have HT5 : Hid (W5.heap[T]? = some (.cells r.row tR (0, 0))) := Lib.hid (ho.blk HT3.out hTd)
    have HO5 : Hid (Only (Mine C v1 (.slice (some ⟨g, 0, none⟩) b.sells.length cp)) w W5) := Lib.hid ((HO3.out.mono (fun _ _ h => h.elim)).trans ho (fun _ _ h => h))
    have HX5 := Lib.hid hx
    have HF5 := Lib.hid hfr
    clear hx hf1 hf2 ho hfr hEd hTd e0 e1 e2 e3 e4 e5 e6 e7 e8 e9 e10 e11 e12 ef el t0 t1 t2 t3 t4 t5 t6 tl HX3 HE3 HT3 HO3
    obtain ⟨e0, e1, e2, e3, e4, e5, e6, e7, e8, e9, e10, e11, e12, ef, el⟩ := ev_cells HE5.out
    obtain ⟨t0, t1, t2, t3, t4, t5, t6, tl⟩ := rs_cells HT5.out
    have a7 := blk_cell HX5.out.blk 7
    have af := fun k => blk_frozen HX5.out.blk k
    have al := blk_lt HX5.out.blk
    simp only [List.getElem?_toArray, List.getElem?_cons_zero, List.getElem?_cons_succ] at a7
    go_wp2
    go_ret
    exact ⟨rfl, v1', v2', W5.heap.size, (HX5.out.set7 _).nil ((Only.refl Nil _).alloc _), blk_new' _ _ _ (by simp), HF5.out, (HO5.out.setCell (p := ⟨C, 7, none⟩) (.inl (.inl rfl)) _).alloc _⟩

end Ck
end Go.Proofs.Ytcnkbhgdcfckoaa

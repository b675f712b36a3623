/- The walk of the law's replayed. -/
import Derived.Test.YtcnkbhgdcfckoaaOc
import Derived.Test.YtcnkbhgdcfckoaaNi
set_option linter.unusedVariables false
set_option linter.unusedSimpArgs false
namespace Go.Proofs.Ytcnkbhgdcfckoaa
open Go.RowKit
namespace Ck
def newC (e : Ev) : Cm := ⟨1, e.id, 0, e.mem, e.side, e.typ, e.price, e.qty, e.peak⟩
/-- On the way through replayed: the boxes of the book and the events, the result's variable, the command. -/
structure RpL (w : World) (b : Bk) (v1 v2 : Value) (e nx : Ev) (W : World) : Prop where
  bb : W.heap[w.heap.size]? = some (.cells (bkRow b v1 v2) tBk (0, 0))
  eb : W.heap[w.heap.size + 1]? = some (.cells e.row tEvt (0, 0))
  nb : W.heap[w.heap.size + 1 + 1]? = some (.cells nx.row tEvt (0, 0))
  rb : W.heap[w.heap.size + 1 + 1 + 1]? = some (.cells (cmRow zCm) tCm (0, 0))
  kb : W.heap[w.heap.size + 1 + 1 + 1 + 1]? = some (.cells (cmRow (newC e)) tCm (0, 0))
  o : Only Nil w W
theorem RpL.nil {w W W1 : World} {b : Bk} {v1 v2 : Value} {e nx : Ev} (h : RpL w b v1 v2 e nx W) (ho : Only Nil W W1) : RpL w b v1 v2 e nx W1 :=
  ⟨ho.blk h.bb (fun q => q), ho.blk h.eb (fun q => q), ho.blk h.nb (fun q => q), ho.blk h.rb (fun q => q), ho.blk h.kb (fun q => q), h.o.trans ho (fun _ _ q => q)⟩
theorem rp_begin {w : World} {b : Bk} {v1 v2 : Value} {e nx : Ev} :
    RpL w b v1 v2 e nx (((((w.alloc (.cells (bkRow b v1 v2) tBk)).alloc (.cells e.row tEvt)).alloc (.cells nx.row tEvt)).alloc (.cells (cmRow zCm) tCm)).alloc (.cells (cmRow (newC e)) tCm)) :=
  ⟨blk_alloc (blk_alloc (blk_alloc (blk_alloc (blk_new _ _) _) _) _) _, blk_alloc (blk_alloc (blk_alloc (blk_new' _ _ _ (by simp)) _) _) _, blk_alloc (blk_alloc (blk_new' _ _ _ (by simp)) _) _, blk_alloc (blk_new' _ _ _ (by simp)) _, blk_new' _ _ _ (by simp),
    ((((((Only.refl Nil w).alloc _).alloc _).alloc _).alloc _).alloc _)⟩
theorem RpL.ret {w W : World} {b : Bk} {v1 v2 : Value} {e nx : Ev} (h : RpL w b v1 v2 e nx W) (c : Cm) :
    (W.setRow (w.heap.size + 1 + 1 + 1) (cmRow c)).heap[w.heap.size + 1 + 1 + 1]? = some (.cells (cmRow c) tCm (0, 0)) ∧ Only Nil w (W.setRow (w.heap.size + 1 + 1 + 1) (cmRow c)) :=
  ⟨blk_setRow h.rb _, h.o.setRow (.inr (by omega)) _⟩
abbrev set9 (W : World) (g : Nat) (c : Cm) : World := ((((((((W.setCell ⟨g, 0, none⟩ (.int .i64 c.kind)).setCell ⟨g, 1, none⟩ (.int .u64 c.id)).setCell ⟨g, 2, none⟩ (.int .u64 c.target)).setCell ⟨g, 3, none⟩ (.int .u32 c.mem)).setCell ⟨g, 4, none⟩ (.int .i64 c.side)).setCell ⟨g, 5, none⟩ (.int .i64 c.typ)).setCell ⟨g, 6, none⟩ (.int .i64 c.price)).setCell ⟨g, 7, none⟩ (.int .u64 c.qty)).setCell ⟨g, 8, none⟩ (.int .u64 c.peak)
theorem set9_raw {W : World} {g : Nat} {t : TypeId} {a0 a1 a2 a3 a4 a5 a6 a7 a8 : Value} (h : W.heap[g]? = some (.cells #[a0, a1, a2, a3, a4, a5, a6, a7, a8] t (0, 0))) (u0 u1 u2 u3 u4 u5 u6 u7 u8 : Value) : (((((((((W.setCell ⟨g, 0, none⟩ u0).setCell ⟨g, 1, none⟩ u1).setCell ⟨g, 2, none⟩ u2).setCell ⟨g, 3, none⟩ u3).setCell ⟨g, 4, none⟩ u4).setCell ⟨g, 5, none⟩ u5).setCell ⟨g, 6, none⟩ u6).setCell ⟨g, 7, none⟩ u7).setCell ⟨g, 8, none⟩ u8).heap[g]? = some (.cells #[u0, u1, u2, u3, u4, u5, u6, u7, u8] t (0, 0)) := by
  have h0 : (W.setCell ⟨g, 0, none⟩ u0).heap[g]? = some (.cells #[u0, a1, a2, a3, a4, a5, a6, a7, a8] t (0, 0)) := blk_set h 0 u0
  have h1 : ((W.setCell ⟨g, 0, none⟩ u0).setCell ⟨g, 1, none⟩ u1).heap[g]? = some (.cells #[u0, u1, a2, a3, a4, a5, a6, a7, a8] t (0, 0)) := blk_set h0 1 u1
  have h2 : (((W.setCell ⟨g, 0, none⟩ u0).setCell ⟨g, 1, none⟩ u1).setCell ⟨g, 2, none⟩ u2).heap[g]? = some (.cells #[u0, u1, u2, a3, a4, a5, a6, a7, a8] t (0, 0)) := blk_set h1 2 u2
  have h3 : ((((W.setCell ⟨g, 0, none⟩ u0).setCell ⟨g, 1, none⟩ u1).setCell ⟨g, 2, none⟩ u2).setCell ⟨g, 3, none⟩ u3).heap[g]? = some (.cells #[u0, u1, u2, u3, a4, a5, a6, a7, a8] t (0, 0)) := blk_set h2 3 u3
  have h4 : (((((W.setCell ⟨g, 0, none⟩ u0).setCell ⟨g, 1, none⟩ u1).setCell ⟨g, 2, none⟩ u2).setCell ⟨g, 3, none⟩ u3).setCell ⟨g, 4, none⟩ u4).heap[g]? = some (.cells #[u0, u1, u2, u3, u4, a5, a6, a7, a8] t (0, 0)) := blk_set h3 4 u4
  have h5 : ((((((W.setCell ⟨g, 0, none⟩ u0).setCell ⟨g, 1, none⟩ u1).setCell ⟨g, 2, none⟩ u2).setCell ⟨g, 3, none⟩ u3).setCell ⟨g, 4, none⟩ u4).setCell ⟨g, 5, none⟩ u5).heap[g]? = some (.cells #[u0, u1, u2, u3, u4, u5, a6, a7, a8] t (0, 0)) := blk_set h4 5 u5
  have h6 : (((((((W.setCell ⟨g, 0, none⟩ u0).setCell ⟨g, 1, none⟩ u1).setCell ⟨g, 2, none⟩ u2).setCell ⟨g, 3, none⟩ u3).setCell ⟨g, 4, none⟩ u4).setCell ⟨g, 5, none⟩ u5).setCell ⟨g, 6, none⟩ u6).heap[g]? = some (.cells #[u0, u1, u2, u3, u4, u5, u6, a7, a8] t (0, 0)) := blk_set h5 6 u6
  have h7 : ((((((((W.setCell ⟨g, 0, none⟩ u0).setCell ⟨g, 1, none⟩ u1).setCell ⟨g, 2, none⟩ u2).setCell ⟨g, 3, none⟩ u3).setCell ⟨g, 4, none⟩ u4).setCell ⟨g, 5, none⟩ u5).setCell ⟨g, 6, none⟩ u6).setCell ⟨g, 7, none⟩ u7).heap[g]? = some (.cells #[u0, u1, u2, u3, u4, u5, u6, u7, a8] t (0, 0)) := blk_set h6 7 u7
  have h8 : (((((((((W.setCell ⟨g, 0, none⟩ u0).setCell ⟨g, 1, none⟩ u1).setCell ⟨g, 2, none⟩ u2).setCell ⟨g, 3, none⟩ u3).setCell ⟨g, 4, none⟩ u4).setCell ⟨g, 5, none⟩ u5).setCell ⟨g, 6, none⟩ u6).setCell ⟨g, 7, none⟩ u7).setCell ⟨g, 8, none⟩ u8).heap[g]? = some (.cells #[u0, u1, u2, u3, u4, u5, u6, u7, u8] t (0, 0)) := blk_set h7 8 u8
  exact h8
theorem set9_blk {W : World} {g : Nat} {d : Cm} (h : W.heap[g]? = some (.cells (cmRow d) tCm (0, 0))) (c : Cm) : (set9 W g c).heap[g]? = some (.cells (cmRow c) tCm (0, 0)) := set9_raw h _ _ _ _ _ _ _ _ _
theorem set9_only (W : World) (g : Nat) (c : Cm) : Only (fun k => k = g) W (set9 W g c) := by
  have h0 := Only.refl (fun k => k = g) W
  exact ((((((((h0.setCell (p := ⟨g, 0, none⟩) (.inl rfl) _).setCell (p := ⟨g, 1, none⟩) (.inl rfl) _).setCell (p := ⟨g, 2, none⟩) (.inl rfl) _).setCell (p := ⟨g, 3, none⟩) (.inl rfl) _).setCell (p := ⟨g, 4, none⟩) (.inl rfl) _).setCell (p := ⟨g, 5, none⟩) (.inl rfl) _).setCell (p := ⟨g, 6, none⟩) (.inl rfl) _).setCell (p := ⟨g, 7, none⟩) (.inl rfl) _).setCell (p := ⟨g, 8, none⟩) (.inl rfl) _
theorem results_cm {fn : Func} {p q : Tmp} (h : fn.results = #[.cell p tCm, .tmp q]) (tmps : Array Value) (w : World) (g1 : Nat) (c : Cm)
    (hp : tmps.getD p undef = .pointer (some ⟨g1, 0, none⟩)) (x : Value) (hq : tmps.getD q undef = x) (hg1 : w.heap[g1]? = some (.cells (cmRow c) tCm (0, 0))) :
    (results fn tmps).run Try.prog w = .ok (.tuple #[.agg (cmRow c), x]) w := results_bk' h tmps w g1 tCm (cmRow c) _ hp x hq hg1 Try.underlying39 rfl infoCm
set_option maxHeartbeats 1600000 in
set_option maxRecDepth 100000 in
theorem rep_ack (b : Bk) (v1 v2 : Value) (e nx : Ev) (w : World) (h1 : LR w v1 b.buys) (h2 : LR w v2 b.sells) (k1 : (e.kind == 1) = true) (HE : Hid (replayedR b e nx = (newC e, true))) :
    Calls Try.prog 8 #[.agg (bkRow b v1 v2), .agg e.row, .agg nx.row] w fun r w' => r = .returned (.tuple #[.agg (cmRow (replayedR b e nx).1), .bool (replayedR b e nx).2]) ∧ Only Nil w w' := by
  obtain ⟨A1, n1, c1, rfl⟩ := h1.isSl
  obtain ⟨A2, n2, c2, rfl⟩ := h2.isSl
  clear h1 h2
  go_enter Try.func8, Try.ntmps8
  unfold bkRow Ev.row
  go_upto_region 2 with fail
  generalize hW : World.alloc (World.alloc (World.alloc (World.alloc (World.alloc w _) _) _) _) _ = W0
  have HV0 := Lib.hid (rp_begin (w := w) (b := b) (v1 := .slice A1 n1 c1) (v2 := .slice A2 n2 c2) (e := e) (nx := nx))
  have hW' : (((((w.alloc (.cells (bkRow b (.slice A1 n1 c1) (.slice A2 n2 c2)) tBk)).alloc (.cells e.row tEvt)).alloc (.cells nx.row tEvt)).alloc (.cells (cmRow zCm) tCm)).alloc (.cells (cmRow (newC e)) tCm)) = W0 := hW
  rw [hW'] at HV0
  clear hW hW'
  obtain ⟨e0, e1, e2, e3, e4, e5, e6, e7, e8, e9, e10, e11, e12, ef, el⟩ := evt_cells HV0.out.eb
  obtain ⟨f0, f1, f2, f3, f4, f5, f6, f7, f8, f9, f10, f11, f12, ff, fl⟩ := evt_cells HV0.out.nb
  obtain ⟨d0, d1', d2', d3, d4, d5, d6, d7, d8, df, dl⟩ := cm_cells HV0.out.kb
  obtain ⟨hr1, hr2⟩ := HV0.out.ret (newC e)
  have HR1 := Lib.hid hr1
  have HR2 := Lib.hid hr2
  clear hr1 hr2
  go_wp2_with (refine wpList_store_row rfl tCm (.tmp 6) (.tmp 28) rfl _ rfl (cmRow (newC e)) (cmRow zCm) rfl _ HV0.out.rb infoCm rfl (one_cm _) ?_)
  rw [HE.out]
  exact bodyPost_ret (results_cm rfl _ _ _ _ rfl _ rfl HR1.out) rfl ⟨rfl, HR2.out⟩
set_option maxHeartbeats 1600000 in
set_option maxRecDepth 100000 in
theorem rep_own (b : Bk) (v1 v2 : Value) (e nx : Ev) (w : World) (h1 : LR w v1 b.buys) (h2 : LR w v2 b.sells) (k1 : (e.kind == 1) = false) (k4 : (e.kind == 4) = true) (kr : (e.reason == 1) = true) (HE : Hid (replayedR b e nx = (⟨2, 0, e.id, 0, 0, 0, 0, 0, 0⟩, true))) :
    Calls Try.prog 8 #[.agg (bkRow b v1 v2), .agg e.row, .agg nx.row] w fun r w' => r = .returned (.tuple #[.agg (cmRow (replayedR b e nx).1), .bool (replayedR b e nx).2]) ∧ Only Nil w w' := by
  obtain ⟨A1, n1, c1, rfl⟩ := h1.isSl
  obtain ⟨A2, n2, c2, rfl⟩ := h2.isSl
  clear h1 h2
  go_enter Try.func8, Try.ntmps8
  unfold bkRow Ev.row
  go_upto_region 2 with fail
  generalize hW : World.alloc (World.alloc (World.alloc (World.alloc (World.alloc w _) _) _) _) _ = W0
  have HV0 := Lib.hid (rp_begin (w := w) (b := b) (v1 := .slice A1 n1 c1) (v2 := .slice A2 n2 c2) (e := e) (nx := nx))
  have hW' : (((((w.alloc (.cells (bkRow b (.slice A1 n1 c1) (.slice A2 n2 c2)) tBk)).alloc (.cells e.row tEvt)).alloc (.cells nx.row tEvt)).alloc (.cells (cmRow zCm) tCm)).alloc (.cells (cmRow (newC e)) tCm)) = W0 := hW
  rw [hW'] at HV0
  clear hW hW'
  obtain ⟨e0, e1, e2, e3, e4, e5, e6, e7, e8, e9, e10, e11, e12, ef, el⟩ := evt_cells HV0.out.eb
  obtain ⟨f0, f1, f2, f3, f4, f5, f6, f7, f8, f9, f10, f11, f12, ff, fl⟩ := evt_cells HV0.out.nb
  obtain ⟨d0, d1', d2', d3, d4, d5, d6, d7, d8, df, dl⟩ := cm_cells HV0.out.kb
  obtain ⟨hr1, hr2⟩ := HV0.out.ret (⟨2, 0, e.id, 0, 0, 0, 0, 0, 0⟩)
  have HR1 := Lib.hid hr1
  have HR2 := Lib.hid hr2
  clear hr1 hr2
  go_wp2_with (refine wpList_store_row rfl tCm (.tmp 6) (.tmp 36) rfl _ rfl (cmRow (⟨2, 0, e.id, 0, 0, 0, 0, 0, 0⟩)) (cmRow zCm) rfl _ HV0.out.rb infoCm rfl (one_cm _) ?_)
  rw [HE.out]
  exact bodyPost_ret (results_cm rfl _ _ _ _ rfl _ rfl HR1.out) rfl ⟨rfl, HR2.out⟩
set_option maxHeartbeats 1600000 in
set_option maxRecDepth 100000 in
theorem rep_other (b : Bk) (v1 v2 : Value) (e nx : Ev) (w : World) (h1 : LR w v1 b.buys) (h2 : LR w v2 b.sells) (k1 : (e.kind == 1) = false) (k4 : (e.kind == 4) = false) (k2 : (e.kind == 2) = false) (HE : Hid (replayedR b e nx = (newC e, false))) :
    Calls Try.prog 8 #[.agg (bkRow b v1 v2), .agg e.row, .agg nx.row] w fun r w' => r = .returned (.tuple #[.agg (cmRow (replayedR b e nx).1), .bool (replayedR b e nx).2]) ∧ Only Nil w w' := by
  obtain ⟨A1, n1, c1, rfl⟩ := h1.isSl
  obtain ⟨A2, n2, c2, rfl⟩ := h2.isSl
  clear h1 h2
  go_enter Try.func8, Try.ntmps8
  unfold bkRow Ev.row
  go_upto_region 2 with fail
  generalize hW : World.alloc (World.alloc (World.alloc (World.alloc (World.alloc w _) _) _) _) _ = W0
  have HV0 := Lib.hid (rp_begin (w := w) (b := b) (v1 := .slice A1 n1 c1) (v2 := .slice A2 n2 c2) (e := e) (nx := nx))
  have hW' : (((((w.alloc (.cells (bkRow b (.slice A1 n1 c1) (.slice A2 n2 c2)) tBk)).alloc (.cells e.row tEvt)).alloc (.cells nx.row tEvt)).alloc (.cells (cmRow zCm) tCm)).alloc (.cells (cmRow (newC e)) tCm)) = W0 := hW
  rw [hW'] at HV0
  clear hW hW'
  obtain ⟨e0, e1, e2, e3, e4, e5, e6, e7, e8, e9, e10, e11, e12, ef, el⟩ := evt_cells HV0.out.eb
  obtain ⟨f0, f1, f2, f3, f4, f5, f6, f7, f8, f9, f10, f11, f12, ff, fl⟩ := evt_cells HV0.out.nb
  obtain ⟨d0, d1', d2', d3, d4, d5, d6, d7, d8, df, dl⟩ := cm_cells HV0.out.kb
  obtain ⟨hr1, hr2⟩ := HV0.out.ret (newC e)
  have HR1 := Lib.hid hr1
  have HR2 := Lib.hid hr2
  clear hr1 hr2
  go_wp2_with (refine wpList_store_row rfl tCm (.tmp 6) (.tmp 56) rfl _ rfl (cmRow (newC e)) (cmRow zCm) rfl _ HV0.out.rb infoCm rfl (one_cm _) ?_)
  rw [HE.out]
  exact bodyPost_ret (results_cm rfl _ _ _ _ rfl _ rfl HR1.out) rfl ⟨rfl, HR2.out⟩
set_option maxHeartbeats 1600000 in
set_option maxRecDepth 100000 in
theorem rep_rej (b : Bk) (v1 v2 : Value) (e nx : Ev) (w : World) (h1 : LR w v1 b.buys) (h2 : LR w v2 b.sells) (k1 : (e.kind == 1) = false) (k4 : (e.kind == 4) = false) (k2 : (e.kind == 2) = true) (HE : Hid (replayedR b e nx = (refusingR b e, true))) :
    Calls Try.prog 8 #[.agg (bkRow b v1 v2), .agg e.row, .agg nx.row] w fun r w' => r = .returned (.tuple #[.agg (cmRow (replayedR b e nx).1), .bool (replayedR b e nx).2]) ∧ Only Nil w w' := by
  have HRf := Lib.hid (fun W (ho : Only Nil w W) => refusing_any b v1 v2 e W (h1.nil ho) (h2.nil ho))
  obtain ⟨A1, n1, c1, rfl⟩ := h1.isSl
  obtain ⟨A2, n2, c2, rfl⟩ := h2.isSl
  clear h1 h2
  go_enter Try.func8, Try.ntmps8
  unfold bkRow Ev.row
  go_upto_region 2 with fail
  generalize hW : World.alloc (World.alloc (World.alloc (World.alloc (World.alloc w _) _) _) _) _ = W0
  have HV0 := Lib.hid (rp_begin (w := w) (b := b) (v1 := .slice A1 n1 c1) (v2 := .slice A2 n2 c2) (e := e) (nx := nx))
  have hW' : (((((w.alloc (.cells (bkRow b (.slice A1 n1 c1) (.slice A2 n2 c2)) tBk)).alloc (.cells e.row tEvt)).alloc (.cells nx.row tEvt)).alloc (.cells (cmRow zCm) tCm)).alloc (.cells (cmRow (newC e)) tCm)) = W0 := hW
  rw [hW'] at HV0
  clear hW hW'
  obtain ⟨e0, e1, e2, e3, e4, e5, e6, e7, e8, e9, e10, e11, e12, ef, el⟩ := evt_cells HV0.out.eb
  obtain ⟨f0, f1, f2, f3, f4, f5, f6, f7, f8, f9, f10, f11, f12, ff, fl⟩ := evt_cells HV0.out.nb
  obtain ⟨d0, d1', d2', d3, d4, d5, d6, d7, d8, df, dl⟩ := cm_cells HV0.out.kb
  obtain ⟨b0, b1, b2, b3, b4, b5, bf, bl⟩ := blk_cellsof HV0.out.bb
  go_wp2_with fail
  refine (HRf.out _ HV0.out.o).mono ?_
  rintro r w1 ⟨rfl, ho⟩
  have HV1 := Lib.hid (HV0.out.nil ho)
  clear ho HRf b0 b1 b2 b3 b4 b5 bf bl e0 e1 e2 e3 e4 e5 e6 e7 e8 e9 e10 e11 e12 ef el f0 f1 f2 f3 f4 f5 f6 f7 f8 f9 f10 f11 f12 ff fl d0 d1' d2' d3 d4 d5 d6 d7 d8 df dl
  generalize refusingR b e = rc at *
  obtain ⟨hr1, hr2⟩ := HV1.out.ret (rc)
  have HR1 := Lib.hid hr1
  have HR2 := Lib.hid hr2
  clear hr1 hr2
  go_wp2_with (refine wpList_store_row rfl tCm (.tmp 6) (.tmp 55) rfl _ rfl (cmRow (rc)) (cmRow zCm) rfl _ HV1.out.rb infoCm rfl (one_cm _) ?_)
  rw [HE.out]
  exact bodyPost_ret (results_cm rfl _ _ _ _ rfl _ rfl HR1.out) rfl ⟨rfl, HR2.out⟩
set_option maxHeartbeats 0 in
set_option maxRecDepth 100000 in
theorem rep_repl (b : Bk) (v1 v2 : Value) (e nx : Ev) (w : World) (h1 : LR w v1 b.buys) (h2 : LR w v2 b.sells) (k1 : (e.kind == 1) = false) (k4 : (e.kind == 4) = true) (kr : (e.reason == 1) = false) (HE : Hid (replayedR b e nx = (⟨3, nx.id, e.id, 0, 0, 0, nx.price, nx.qty, nx.peak⟩, e.reason == 2))) :
    Calls Try.prog 8 #[.agg (bkRow b v1 v2), .agg e.row, .agg nx.row] w fun r w' => r = .returned (.tuple #[.agg (cmRow (replayedR b e nx).1), .bool (replayedR b e nx).2]) ∧ Only Nil w w' := by
  obtain ⟨A1, n1, c1, rfl⟩ := h1.isSl
  obtain ⟨A2, n2, c2, rfl⟩ := h2.isSl
  clear h1 h2
  go_enter Try.func8, Try.ntmps8
  unfold bkRow Ev.row
  go_upto_region 2 with fail
  generalize hW : World.alloc (World.alloc (World.alloc (World.alloc (World.alloc w _) _) _) _) _ = W0
  have HV0 := Lib.hid (rp_begin (w := w) (b := b) (v1 := .slice A1 n1 c1) (v2 := .slice A2 n2 c2) (e := e) (nx := nx))
  have hW' : (((((w.alloc (.cells (bkRow b (.slice A1 n1 c1) (.slice A2 n2 c2)) tBk)).alloc (.cells e.row tEvt)).alloc (.cells nx.row tEvt)).alloc (.cells (cmRow zCm) tCm)).alloc (.cells (cmRow (newC e)) tCm)) = W0 := hW
  rw [hW'] at HV0
  clear hW hW'
  obtain ⟨e0, e1, e2, e3, e4, e5, e6, e7, e8, e9, e10, e11, e12, ef, el⟩ := evt_cells HV0.out.eb
  obtain ⟨f0, f1, f2, f3, f4, f5, f6, f7, f8, f9, f10, f11, f12, ff, fl⟩ := evt_cells HV0.out.nb
  obtain ⟨d0, d1', d2', d3, d4, d5, d6, d7, d8, df, dl⟩ := cm_cells HV0.out.kb
  go_upto_region 8 with fail
  obtain ⟨z0, z1, z2, z3, z4, z5, z6, z7, z8, zf, zl⟩ := cm_cells HV0.out.rb
  have HSof := Lib.hid (fun X (hx : Only (fun k => k = (w.heap.size + 1 + 1 + 1)) W0 X) => And.intro (evt_cells (hx.blk HV0.out.eb (fun q => by omega))) (evt_cells (hx.blk HV0.out.nb (fun q => by omega))))
  refine wp_region_Z (fun w' => (w'.cell? ⟨(w.heap.size + 1), 0, none⟩ = some (.int .u64 e.seq) ∧ w'.cell? ⟨(w.heap.size + 1), 1, none⟩ = some (.int .i64 e.kind) ∧ w'.cell? ⟨(w.heap.size + 1), 2, none⟩ = some (.int .u64 e.id) ∧ w'.cell? ⟨(w.heap.size + 1), 3, none⟩ = some (.int .u64 e.other) ∧ w'.cell? ⟨(w.heap.size + 1), 4, none⟩ = some (.int .u64 e.target) ∧ w'.cell? ⟨(w.heap.size + 1), 5, none⟩ = some (.int .u32 e.mem) ∧ w'.cell? ⟨(w.heap.size + 1), 6, none⟩ = some (.int .i64 e.side) ∧ w'.cell? ⟨(w.heap.size + 1), 7, none⟩ = some (.int .i64 e.typ) ∧ w'.cell? ⟨(w.heap.size + 1), 8, none⟩ = some (.int .i64 e.price) ∧ w'.cell? ⟨(w.heap.size + 1), 9, none⟩ = some (.int .u64 e.qty) ∧ w'.cell? ⟨(w.heap.size + 1), 10, none⟩ = some (.int .u64 e.peak) ∧ w'.cell? ⟨(w.heap.size + 1), 11, none⟩ = some (.int .i64 e.reason) ∧ w'.cell? ⟨(w.heap.size + 1), 12, none⟩ = some (.int .i64 e.code) ∧ (∀ k, w'.frozen? ⟨(w.heap.size + 1), k, none⟩ = false) ∧ (w.heap.size + 1) < w'.heap.size) ∧ (w'.cell? ⟨(w.heap.size + 1 + 1), 0, none⟩ = some (.int .u64 nx.seq) ∧ w'.cell? ⟨(w.heap.size + 1 + 1), 1, none⟩ = some (.int .i64 nx.kind) ∧ w'.cell? ⟨(w.heap.size + 1 + 1), 2, none⟩ = some (.int .u64 nx.id) ∧ w'.cell? ⟨(w.heap.size + 1 + 1), 3, none⟩ = some (.int .u64 nx.other) ∧ w'.cell? ⟨(w.heap.size + 1 + 1), 4, none⟩ = some (.int .u64 nx.target) ∧ w'.cell? ⟨(w.heap.size + 1 + 1), 5, none⟩ = some (.int .u32 nx.mem) ∧ w'.cell? ⟨(w.heap.size + 1 + 1), 6, none⟩ = some (.int .i64 nx.side) ∧ w'.cell? ⟨(w.heap.size + 1 + 1), 7, none⟩ = some (.int .i64 nx.typ) ∧ w'.cell? ⟨(w.heap.size + 1 + 1), 8, none⟩ = some (.int .i64 nx.price) ∧ w'.cell? ⟨(w.heap.size + 1 + 1), 9, none⟩ = some (.int .u64 nx.qty) ∧ w'.cell? ⟨(w.heap.size + 1 + 1), 10, none⟩ = some (.int .u64 nx.peak) ∧ w'.cell? ⟨(w.heap.size + 1 + 1), 11, none⟩ = some (.int .i64 nx.reason) ∧ w'.cell? ⟨(w.heap.size + 1 + 1), 12, none⟩ = some (.int .i64 nx.code) ∧ (∀ k, w'.frozen? ⟨(w.heap.size + 1 + 1), k, none⟩ = false) ∧ (w.heap.size + 1 + 1) < w'.heap.size)) 15 (by kernel_rfl) ?_
  refine' anyZ_take (i := 0) (oi := _) (v := _) rfl (by decide) (by kernel_rfl) (by kernel_rfl) (by kernel_rfl) (by kernel_rfl) (fun _ _ _ h => h) (HSof.out _ (Only.refl _ _).drew) (Or.inl ⟨by rfl, ?hy0⟩) ?rest0
  case hy0 =>
    intro w hSw
    (try dsimp only at hSw)
    go_simp
    try with_reducible rfl
  simp only [Act.put, List.setIfInBounds_toArray, List.set_cons_zero, List.set_cons_succ]
  refine' anyZ_take (i := 1) (oi := _) (v := _) rfl (by decide) (by kernel_rfl) (by kernel_rfl) (by kernel_rfl) (by kernel_rfl) (fun _ _ _ h => h) (HSof.out _ (Only.refl _ _).drew) (Or.inl ⟨by rfl, ?hy1⟩) ?rest1
  case hy1 =>
    intro w hSw
    (try dsimp only at hSw)
    go_simp
    try with_reducible rfl
  simp only [Act.put, List.setIfInBounds_toArray, List.set_cons_zero, List.set_cons_succ]
  refine' anyZ_take (i := 2) (oi := _) (v := _) rfl (by decide) (by kernel_rfl) (by kernel_rfl) (by kernel_rfl) (by kernel_rfl) (fun _ _ _ h => h) (HSof.out _ (Only.refl _ _).drew) (Or.inl ⟨by rfl, ?hy2⟩) ?rest2
  case hy2 =>
    intro w hSw
    (try dsimp only at hSw)
    go_simp
    try with_reducible rfl
  simp only [Act.put, List.setIfInBounds_toArray, List.set_cons_zero, List.set_cons_succ]
  refine' anyZ_take (i := 3) (oi := _) (v := _) rfl (by decide) (by kernel_rfl) (by kernel_rfl) (by kernel_rfl) (by kernel_rfl) (fun _ _ _ h => h) (HSof.out _ (Only.refl _ _).drew) (Or.inl ⟨by rfl, ?hy3⟩) ?rest3
  case hy3 =>
    intro w hSw
    (try dsimp only at hSw)
    go_simp
    try with_reducible rfl
  simp only [Act.put, List.setIfInBounds_toArray, List.set_cons_zero, List.set_cons_succ]
  refine' anyZ_take (i := 4) (oi := _) (v := _) rfl (by decide) (by kernel_rfl) (by kernel_rfl) (by kernel_rfl) (by kernel_rfl) (fun _ _ _ h => h) (HSof.out _ (Only.refl _ _).drew) (Or.inl ⟨by rfl, ?hy4⟩) ?rest4
  case hy4 =>
    intro w hSw
    (try dsimp only at hSw)
    go_simp
    try with_reducible rfl
  simp only [Act.put, List.setIfInBounds_toArray, List.set_cons_zero, List.set_cons_succ]
  refine' anyZ_take (i := 5) (oi := _) (v := _) rfl (by decide) (by kernel_rfl) (by kernel_rfl) (by kernel_rfl) (by kernel_rfl) (fun _ _ _ h => h) (HSof.out _ (Only.refl _ _).drew) (Or.inl ⟨by rfl, ?hy5⟩) ?rest5
  case hy5 =>
    intro w hSw
    (try dsimp only at hSw)
    go_simp
    try with_reducible rfl
  simp only [Act.put, List.setIfInBounds_toArray, List.set_cons_zero, List.set_cons_succ]
  refine' anyZ_take (i := 6) (oi := _) (v := _) rfl (by decide) (by kernel_rfl) (by kernel_rfl) (by kernel_rfl) (by kernel_rfl) (fun _ _ _ h => h) (HSof.out _ (Only.refl _ _).drew) (Or.inl ⟨by rfl, ?hy6⟩) ?rest6
  case hy6 =>
    intro w hSw
    (try dsimp only at hSw)
    go_simp
    try with_reducible rfl
  simp only [Act.put, List.setIfInBounds_toArray, List.set_cons_zero, List.set_cons_succ]
  refine' anyZ_take (i := 7) (oi := _) (v := _) rfl (by decide) (by kernel_rfl) (by kernel_rfl) (by kernel_rfl) (by kernel_rfl) (fun _ _ _ h => h) (HSof.out _ (Only.refl _ _).drew) (Or.inl ⟨by rfl, ?hy7⟩) ?rest7
  case hy7 =>
    intro w hSw
    (try dsimp only at hSw)
    go_simp
    try with_reducible rfl
  simp only [Act.put, List.setIfInBounds_toArray, List.set_cons_zero, List.set_cons_succ]
  refine' anyZ_take (i := 8) (oi := _) (v := _) rfl (by decide) (by kernel_rfl) (by kernel_rfl) (by kernel_rfl) (by kernel_rfl) (fun _ _ _ h => h) (HSof.out _ (Only.refl _ _).drew) (Or.inl ⟨by rfl, ?hy8⟩) ?rest8
  case hy8 =>
    intro w hSw
    (try dsimp only at hSw)
    go_simp
    try with_reducible rfl
  simp only [Act.put, List.setIfInBounds_toArray, List.set_cons_zero, List.set_cons_succ]
  refine' anyZ_take (i := 9) (oi := _) (v := _) rfl (by decide) (by kernel_rfl) (by kernel_rfl) (by kernel_rfl) (by kernel_rfl) (fun _ _ _ h => h) (HSof.out _ (Only.refl _ _).drew) (Or.inl ⟨by rfl, ?hy9⟩) ?rest9
  case hy9 =>
    intro w hSw
    (try dsimp only at hSw)
    go_simp
    try with_reducible rfl
  simp only [Act.put, List.setIfInBounds_toArray, List.set_cons_zero, List.set_cons_succ]
  refine' anyZ_take (i := 10) (oi := _) (v := _) rfl (by decide) (by kernel_rfl) (by kernel_rfl) (by kernel_rfl) (by kernel_rfl) (fun _ _ _ h => h) (HSof.out _ (Only.refl _ _).drew) (Or.inl ⟨by rfl, ?hy10⟩) ?rest10
  case hy10 =>
    intro w hSw
    (try dsimp only at hSw)
    go_simp
    try with_reducible rfl
  simp only [Act.put, List.setIfInBounds_toArray, List.set_cons_zero, List.set_cons_succ]
  refine' anyZ_take (i := 11) (oi := _) (v := _) rfl (by decide) (by kernel_rfl) (by kernel_rfl) (by kernel_rfl) (by kernel_rfl) (fun _ _ _ h => h) (HSof.out _ (Only.refl _ _).drew) (Or.inl ⟨by rfl, ?hy11⟩) ?rest11
  case hy11 =>
    intro w hSw
    (try dsimp only at hSw)
    go_simp
    try with_reducible rfl
  simp only [Act.put, List.setIfInBounds_toArray, List.set_cons_zero, List.set_cons_succ]
  refine' anyZ_take (i := 12) (oi := _) (v := _) rfl (by decide) (by kernel_rfl) (by kernel_rfl) (by kernel_rfl) (by kernel_rfl) (fun _ _ _ h => h) (HSof.out _ (Only.refl _ _).drew) (Or.inl ⟨by rfl, ?hy12⟩) ?rest12
  case hy12 =>
    intro w hSw
    (try dsimp only at hSw)
    go_simp
    try with_reducible rfl
  simp only [Act.put, List.setIfInBounds_toArray, List.set_cons_zero, List.set_cons_succ]
  refine' anyZ_take (i := 13) (oi := _) (v := _) rfl (by decide) (by kernel_rfl) (by kernel_rfl) (by kernel_rfl) (by kernel_rfl) (fun _ _ _ h => h) (HSof.out _ (Only.refl _ _).drew) (Or.inl ⟨by rfl, ?hy13⟩) ?rest13
  case hy13 =>
    intro w hSw
    (try dsimp only at hSw)
    go_simp
    try with_reducible rfl
  simp only [Act.put, List.setIfInBounds_toArray, List.set_cons_zero, List.set_cons_succ]
  refine anyZ_one (i := 14) (by kernel_rfl) rfl (fun K hK => ?_)
  go_simp
  refine hK.out _ _ (fun _ => HSof.out _ (set9_only W0 (w.heap.size + 1 + 1 + 1) ⟨3, nx.id, e.id, 0, 0, 0, nx.price, nx.qty, nx.peak⟩).drew) (fun _ => ?_)
  clear hK K
  try simp only [Act.put, List.setIfInBounds_toArray, List.set_cons_zero, List.set_cons_succ]
  refine anyZ_one (i := 15) (by kernel_rfl) rfl (fun K hK => ?_)
  go_simp
  refine hK.out _ _ (fun q => absurd rfl q) (fun _ => ?_)
  clear hK K
  try simp only [Act.put, List.setIfInBounds_toArray, List.set_cons_zero, List.set_cons_succ]
  refine anyZ_done (by kernel_rfl) ?_ _
  go_wp2
  have hb9 := set9_blk (W := W0) HV0.out.rb ⟨3, nx.id, e.id, 0, 0, 0, nx.price, nx.qty, nx.peak⟩
  have ho9 := (HV0.out.o.trans (set9_only W0 (w.heap.size + 1 + 1 + 1) ⟨3, nx.id, e.id, 0, 0, 0, nx.price, nx.qty, nx.peak⟩) (fun k hk q => by omega)).drew
  rw [HE.out]
  exact bodyPost_ret (results_cm rfl _ _ _ _ rfl _ rfl (blk_drew hb9)) rfl ⟨rfl, ho9⟩
theorem replayed_any (b : Bk) (v1 v2 : Value) (e nx : Ev) (w : World) (h1 : LR w v1 b.buys) (h2 : LR w v2 b.sells) :
    Calls Try.prog 8 #[.agg (bkRow b v1 v2), .agg e.row, .agg nx.row] w fun r w' => r = .returned (.tuple #[.agg (cmRow (replayedR b e nx).1), .bool (replayedR b e nx).2]) ∧ Only Nil w w' := by
  by_cases k1 : e.kind = 1
  · exact rep_ack b v1 v2 e nx w h1 h2 (by simp [k1]) (Lib.hid (by unfold replayedR; rw [if_pos k1]; rfl))
  · by_cases k4 : e.kind = 4
    · by_cases kr : e.reason = 1
      · exact rep_own b v1 v2 e nx w h1 h2 (by simp [k1]) (by simp [k4]) (by simp [kr]) (Lib.hid (by unfold replayedR; rw [if_neg k1, if_pos k4, if_pos kr]))
      · exact rep_repl b v1 v2 e nx w h1 h2 (by simp [k1]) (by simp [k4]) (by simp [kr]) (Lib.hid (by unfold replayedR; rw [if_neg k1, if_pos k4, if_neg kr]))
    · by_cases k2 : e.kind = 2
      · exact rep_rej b v1 v2 e nx w h1 h2 (by simp [k1]) (by simp [k4]) (by simp [k2]) (Lib.hid (by unfold replayedR; rw [if_neg k1, if_neg k4, if_pos k2]))
      · exact rep_other b v1 v2 e nx w h1 h2 (by simp [k1]) (by simp [k4]) (by simp [k2]) (Lib.hid (by unfold replayedR; rw [if_neg k1, if_neg k4, if_neg k2]; rfl))
end Ck
end Go.Proofs.Ytcnkbhgdcfckoaa

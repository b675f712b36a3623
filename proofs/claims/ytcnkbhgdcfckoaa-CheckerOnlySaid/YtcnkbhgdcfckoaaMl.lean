/- The walk of settles. -/
import Derived.Test.YtcnkbhgdcfckoaaMk
set_option linter.unusedVariables false
set_option linter.unusedSimpArgs false
namespace Go.Proofs.Ytcnkbhgdcfckoaa
open Go.RowKit
namespace Ck
theorem BkRep.set6 {w : World} {C : Nat} {b : Bk} {v1 v2 p6 p7 : Value} (h : BkRep w C b v1 v2 p6 p7) (p : Value) : BkRep (w.setCell ⟨C, 6, none⟩ p) C b v1 v2 p p7 :=
  ⟨by have := blk_set h.blk 6 p; simpa using this, own_far h.r1 (own_blk_ne h.r1 h.blk (by decide)) _, own_far h.r2 (own_blk_ne h.r2 h.blk (by decide)) _, h.ne⟩
theorem CgAt.farC {w : World} {C G : Nat} {b : Bk} {c : Cg} {v1 v2 p6 p7 : Value} (hg : CgAt w G c) (h : BkRep w C b v1 v2 p6 p7) (i : Nat) (u : Value) : CgAt (w.setCell ⟨C, i, none⟩ u) G c := hg.far h.blk (by decide) i u
theorem Mine.notG {w : World} {C G : Nat} {b : Bk} {c : Cg} {v1 v2 p6 p7 : Value} (hg : CgAt w G c) (h : BkRep w C b v1 v2 p6 p7) : ¬ Mine C v1 v2 G := by
  unfold CgAt at hg
  intro hm
  rcases hm with hm | hm | hm
  · exact blk_ne h.blk hg (by decide) hm.symm
  · exact own_blk_ne h.r1 hg (by decide) hm
  · exact own_blk_ne h.r2 hg (by decide) hm
/-- What must comes to, whole. -/
theorem must_top (C G : Nat) (b : Bk) (c : Cg) (v1 v2 p6 p7 : Value) (w : World) (h : BkRep w C b v1 v2 p6 p7) (hg : CgAt w G c) (hb : b.ok) (hc : Cg.ok b c) (hf : c.traded = false → c.empty = 0 ∧ c.met = false) :
    Calls Try.prog 49 #[.pointer (some ⟨C, 0, none⟩), .pointer (some ⟨G, 0, none⟩)] w fun e w' => e = .returned (mustV (musts b c)) ∧ Only Nil w w' := by
  refine must_any C G b c v1 v2 p6 p7 (whole b c) w h hg hb hc fun _ ht => ?_
  obtain ⟨h1, h2⟩ := hf ht
  obtain ⟨n, hE, hw⟩ := whole_go ⟨hb, hc, h1⟩ h2
  refine Lib.hid (fun W ho => ?_)
  rw [← hw]
  exact whole_any C G n b c v1 v2 p6 p7 W (h.nil ho) (hg.nil ho) hb hc hE
theorem row_is (o : Rs) : o.v = .agg o.row := rfl
theorem cg_cells {W : World} {G : Nat} {c : Cg} (h : CgAt W G c) :
    W.cell? ⟨G, 0, none⟩ = some (.int .u64 c.o.id) ∧ W.cell? ⟨G, 1, none⟩ = some (.int .u32 c.o.mem) ∧ W.cell? ⟨G, 2, none⟩ = some (.int .i64 c.o.typ) ∧ W.cell? ⟨G, 3, none⟩ = some (.int .i64 c.o.price) ∧ W.cell? ⟨G, 4, none⟩ = some (.int .u64 c.o.vis) ∧
    W.cell? ⟨G, 5, none⟩ = some (.int .u64 c.o.hid) ∧ W.cell? ⟨G, 6, none⟩ = some (.int .u64 c.o.peak) ∧ W.cell? ⟨G, 7, none⟩ = some (.int .i64 c.side) ∧ W.cell? ⟨G, 8, none⟩ = some (.int .i64 c.kind) ∧ W.cell? ⟨G, 9, none⟩ = some (.int .u64 c.left) ∧
    W.cell? ⟨G, 10, none⟩ = some (.bool c.traded) ∧ W.cell? ⟨G, 11, none⟩ = some (.int .u64 c.empty) ∧ W.cell? ⟨G, 12, none⟩ = some (.bool c.met) ∧ G < W.heap.size :=
  ⟨blk_cell h 0, blk_cell h 1, blk_cell h 2, blk_cell h 3, blk_cell h 4, blk_cell h 5, blk_cell h 6, blk_cell h 7, blk_cell h 8, blk_cell h 9, blk_cell h 10, blk_cell h 11, blk_cell h 12, blk_lt h⟩

set_option maxHeartbeats 1600000 in
set_option maxRecDepth 100000 in
theorem settles_must (C G : Nat) (b : Bk) (c : Cg) (v1 v2 p7 : Value) (w : World) (h : BkRep w C b v1 v2 (.pointer (some ⟨G, 0, none⟩)) p7) (hg : CgAt w G c) (hb : b.ok) (hc : Cg.ok b c) (hf : c.traded = false → c.empty = 0 ∧ c.met = false) (m : Ev) (hm : musts b c = some m) :
    Calls Try.prog 48 #[.pointer (some ⟨C, 0, none⟩)] w fun r w' => r = .returned (.tuple #[]) ∧ ∃ v1' v2', BkRep w' C b v1' v2' (.pointer (some ⟨G, 0, none⟩)) p7 ∧ CgAt w' G c ∧ Fresh w C v1 v2 v1' v2' ∧ Only (Mine C v1 v2) w w' := by
  have HM := Lib.hid (fun W (ho : Only Nil w W) => must_top C G b c v1 v2 _ p7 W (h.nil ho) (hg.nil ho) hb hc hf)
  rw [hm] at HM
  have a6 := blk_cell h.blk 6
  have lC := blk_lt h.blk
  simp only [List.getElem?_toArray, List.getElem?_cons_zero, List.getElem?_cons_succ] at a6
  have HX := Lib.hid h
  have HG := Lib.hid hg
  have Hcs := Lib.hid hc.side
  have Hroom := Lib.hid hb.room
  have hleft := hc.left
  clear h hg hb hc hf hm
  go_enter Try.func48, Try.ntmps48
  go_wp2_with fail
  refine (HM.out _ (Only.refl _ _)).mono ?_
  rintro x w1 ⟨rfl, ho⟩
  have HX1 := Lib.hid (HX.out.nil ho)
  have HG1 := Lib.hid (HG.out.nil ho)
  have HO1 : Hid (Only (Mine C v1 v2) w w1) := Lib.hid (ho.mono (fun _ _ h => h.elim))
  clear a6 lC ho
  unfold mustV
  simp only
  go_upto_region 2 with (refine wpList_store_row rfl tEvt (.tmp 3) (.tmp 14) rfl _ rfl m.row zE.row rfl _ (blk_new w1 (.cells zE.row tEvt)) infoEvt rfl (one_ev _) ?_)
  generalize hW : World.setRow (World.alloc w1 _) _ _ = W2
  have hW' : w1.alloc (.cells m.row tEvt) = W2 := by rw [← hW]; exact (setRow_alloc _ _ _ _).symm
  have ho2 : Only Nil w1 W2 := by rw [← hW']; exact (Only.refl _ _).alloc _
  have HX2 := Lib.hid (HX1.out.nil ho2)
  have HG2 := Lib.hid (HG1.out.nil ho2)
  have HO2 : Hid (Only (Mine C v1 v2) w W2) := Lib.hid (HO1.out.trans ho2 (fun _ _ h => h.elim))
  clear hW hW' ho2 HX1 HG1 HO1
  go_wp2
  refine bodyPost_ret (results_none rfl _ _ _) rfl ?_
  exact ⟨rfl, v1, v2, HX2.out, HG2.out, fun k hk => .inl hk, HO2.out⟩

set_option maxHeartbeats 1600000 in
set_option maxRecDepth 100000 in
theorem settles_zero (C G : Nat) (b : Bk) (c : Cg) (v1 v2 p7 : Value) (w : World) (h : BkRep w C b v1 v2 (.pointer (some ⟨G, 0, none⟩)) p7) (hg : CgAt w G c) (hb : b.ok) (hc : Cg.ok b c) (hf : c.traded = false → c.empty = 0 ∧ c.met = false) (hm : musts b c = none) (hl : c.left = 0) :
    Calls Try.prog 48 #[.pointer (some ⟨C, 0, none⟩)] w fun r w' => r = .returned (.tuple #[]) ∧ ∃ v1' v2', BkRep w' C b v1' v2' (.pointer none) p7 ∧ Fresh w C v1 v2 v1' v2' ∧ Only (Mine C v1 v2) w w' := by
  have hl1 : (c.left == 0) = true := by simp [hl]
  clear hl
  have HM := Lib.hid (fun W (ho : Only Nil w W) => must_top C G b c v1 v2 _ p7 W (h.nil ho) (hg.nil ho) hb hc hf)
  rw [hm] at HM
  have a6 := blk_cell h.blk 6
  have lC := blk_lt h.blk
  simp only [List.getElem?_toArray, List.getElem?_cons_zero, List.getElem?_cons_succ] at a6
  have HX := Lib.hid h
  have HG := Lib.hid hg
  have Hcs := Lib.hid hc.side
  have Hroom := Lib.hid hb.room
  have hleft := hc.left
  clear h hg hb hc hf hm
  go_enter Try.func48, Try.ntmps48
  go_wp2_with fail
  refine (HM.out _ (Only.refl _ _)).mono ?_
  rintro x w1 ⟨rfl, ho⟩
  have HX1 := Lib.hid (HX.out.nil ho)
  have HG1 := Lib.hid (HG.out.nil ho)
  have HO1 : Hid (Only (Mine C v1 v2) w w1) := Lib.hid (ho.mono (fun _ _ h => h.elim))
  clear a6 lC ho
  unfold mustV
  simp only
  go_upto_region 2 with (refine wpList_store_row rfl tEvt (.tmp 3) (.tmp 14) rfl _ rfl zE.row zE.row rfl _ (blk_new w1 (.cells zE.row tEvt)) infoEvt rfl (one_ev _) ?_)
  generalize hW : World.setRow (World.alloc w1 _) _ _ = W2
  have hW' : w1.alloc (.cells zE.row tEvt) = W2 := by rw [← hW]; exact (setRow_alloc _ _ _ _).symm
  have ho2 : Only Nil w1 W2 := by rw [← hW']; exact (Only.refl _ _).alloc _
  have HX2 := Lib.hid (HX1.out.nil ho2)
  have HG2 := Lib.hid (HG1.out.nil ho2)
  have HO2 : Hid (Only (Mine C v1 v2) w W2) := Lib.hid (HO1.out.trans ho2 (fun _ _ h => h.elim))
  clear hW hW' ho2 HX1 HG1 HO1
  have c6 := blk_cell HX2.out.blk 6
  have cf := fun k => blk_frozen HX2.out.blk k
  have cl := blk_lt HX2.out.blk
  simp only [List.getElem?_toArray, List.getElem?_cons_zero, List.getElem?_cons_succ] at c6
  go_upto_region 4 with fail
  generalize hW : World.setCell W2 _ _ = W3
  have hW' : W2.setCell ⟨C, 6, none⟩ (.pointer none) = W3 := hW
  have HX3 : Hid (BkRep W3 C b v1 v2 (.pointer none) p7) := Lib.hid (by rw [← hW']; exact HX2.out.set6 _)
  have HG3 : Hid (CgAt W3 G c) := Lib.hid (by rw [← hW']; exact HG2.out.farC HX2.out _ _)
  have HO3 : Hid (Only (Mine C v1 v2) w W3) := Lib.hid (by rw [← hW']; exact HO2.out.setCell (p := ⟨C, 6, none⟩) (.inl (.inl rfl)) _)
  clear hW hW' c6 cf cl HX2 HG2 HO2
  obtain ⟨g0, g1, g2, g3, g4, g5, g6, g7, g8, g9, g10, g11, g12, gl⟩ := cg_cells HG3.out
  go_wp2
  refine bodyPost_ret (results_none rfl _ _ _) rfl ?_
  exact ⟨rfl, v1, v2, HX3.out, fun k hk => .inl hk, HO3.out⟩

set_option maxHeartbeats 1600000 in
set_option maxRecDepth 100000 in
theorem settles_resta (C G : Nat) (b : Bk) (c : Cg) (v1 v2 p7 : Value) (w : World) (h : BkRep w C b v1 v2 (.pointer (some ⟨G, 0, none⟩)) p7) (hg : CgAt w G c) (hb : b.ok) (hc : Cg.ok b c) (hf : c.traded = false → c.empty = 0 ∧ c.met = false) (hm : musts b c = none) (hl : c.left ≠ 0) (hk : c.o.peak = 0) :
    Calls Try.prog 48 #[.pointer (some ⟨C, 0, none⟩)] w fun r w' => r = .returned (.tuple #[]) ∧ ∃ v1' v2', BkRep w' C (b.set c.side (rests c.side (atRest c) (b.side c.side))) v1' v2' (.pointer none) p7 ∧ Fresh w C v1 v2 v1' v2' ∧ Only (Mine C v1 v2) w w' := by
  have hl1 : (c.left == 0) = false := by simp [hl]
  have HA : Hid (atRest c = { c.o with vis := c.left, hid := 0 }) := Lib.hid (by unfold atRest; simp only; rw [if_neg (by omega), show c.left - c.left = 0 by omega])
  have hw : IntKind.u64.wrap (c.left - c.left) = 0 := by
    have h1 := hc.left
    have h2 := hc.peak
    rw [IntKind.wrap_u64]; omega
  have hpk : ¬ (0 < c.o.peak) := by omega
  clear hk  hl
  have HM := Lib.hid (fun W (ho : Only Nil w W) => must_top C G b c v1 v2 _ p7 W (h.nil ho) (hg.nil ho) hb hc hf)
  rw [hm] at HM
  have a6 := blk_cell h.blk 6
  have lC := blk_lt h.blk
  simp only [List.getElem?_toArray, List.getElem?_cons_zero, List.getElem?_cons_succ] at a6
  have HX := Lib.hid h
  have HG := Lib.hid hg
  have Hcs := Lib.hid hc.side
  have Hroom := Lib.hid hb.room
  have hleft := hc.left
  clear h hg hb hc hf hm
  go_enter Try.func48, Try.ntmps48
  go_wp2_with fail
  refine (HM.out _ (Only.refl _ _)).mono ?_
  rintro x w1 ⟨rfl, ho⟩
  have HX1 := Lib.hid (HX.out.nil ho)
  have HG1 := Lib.hid (HG.out.nil ho)
  have HO1 : Hid (Only (Mine C v1 v2) w w1) := Lib.hid (ho.mono (fun _ _ h => h.elim))
  clear a6 lC ho
  unfold mustV
  simp only
  go_upto_region 2 with (refine wpList_store_row rfl tEvt (.tmp 3) (.tmp 14) rfl _ rfl zE.row zE.row rfl _ (blk_new w1 (.cells zE.row tEvt)) infoEvt rfl (one_ev _) ?_)
  generalize hW : World.setRow (World.alloc w1 _) _ _ = W2
  have hW' : w1.alloc (.cells zE.row tEvt) = W2 := by rw [← hW]; exact (setRow_alloc _ _ _ _).symm
  have ho2 : Only Nil w1 W2 := by rw [← hW']; exact (Only.refl _ _).alloc _
  have HX2 := Lib.hid (HX1.out.nil ho2)
  have HG2 := Lib.hid (HG1.out.nil ho2)
  have HO2 : Hid (Only (Mine C v1 v2) w W2) := Lib.hid (HO1.out.trans ho2 (fun _ _ h => h.elim))
  clear hW hW' ho2 HX1 HG1 HO1
  have c6 := blk_cell HX2.out.blk 6
  have cf := fun k => blk_frozen HX2.out.blk k
  have cl := blk_lt HX2.out.blk
  simp only [List.getElem?_toArray, List.getElem?_cons_zero, List.getElem?_cons_succ] at c6
  go_upto_region 4 with fail
  generalize hW : World.setCell W2 _ _ = W3
  have hW' : W2.setCell ⟨C, 6, none⟩ (.pointer none) = W3 := hW
  have HX3 : Hid (BkRep W3 C b v1 v2 (.pointer none) p7) := Lib.hid (by rw [← hW']; exact HX2.out.set6 _)
  have HG3 : Hid (CgAt W3 G c) := Lib.hid (by rw [← hW']; exact HG2.out.farC HX2.out _ _)
  have HO3 : Hid (Only (Mine C v1 v2) w W3) := Lib.hid (by rw [← hW']; exact HO2.out.setCell (p := ⟨C, 6, none⟩) (.inl (.inl rfl)) _)
  clear hW hW' c6 cf cl HX2 HG2 HO2
  obtain ⟨g0, g1, g2, g3, g4, g5, g6, g7, g8, g9, g10, g11, g12, gl⟩ := cg_cells HG3.out
  go_upto_region 6 with fail
  generalize hW : World.alloc W3 _ = W4
  have hW' : W3.alloc (.cells c.o.row tR) = W4 := hW
  have ho4 : Only Nil W3 W4 := by rw [← hW']; exact (Only.refl _ _).alloc _
  have HT4 : Hid (W4.heap[W3.heap.size]? = some (.cells c.o.row tR (0, 0))) := Lib.hid (by rw [← hW']; exact blk_new _ _)
  have HX4 := Lib.hid (HX3.out.nil ho4)
  have HG4 := Lib.hid (HG3.out.nil ho4)
  have HO4 : Hid (Only (Mine C v1 v2) w W4) := Lib.hid (HO3.out.trans ho4 (fun _ _ h => h.elim))
  have hTw : w.heap.size ≤ W3.heap.size := HO3.out.size
  have HTn := Lib.hid (fun k (hk : Mine C v1 v2 k) => (show k < W3.heap.size from by
    rcases hk with hk | hk | hk
    · exact hk ▸ blk_lt HX3.out.blk
    · exact own_lt HX3.out.r1 hk
    · exact own_lt HX3.out.r2 hk))
  have hGT : G < W3.heap.size := gl
  clear hW hW' ho4 g0 g1 g2 g3 g4 g5 g6 g7 g8 g9 g10 g11 g12 gl HX3 HG3 HO3
  generalize W3.heap.size = T at *
  have hGne : G ≠ T := by omega
  have hTne : T ≠ G := by omega
  obtain ⟨g0, g1, g2, g3, g4, g5, g6, g7, g8, g9, g10, g11, g12, gl⟩ := cg_cells HG4.out
  obtain ⟨t0, t1, t2, t3, t4, t5, t6, tl⟩ := rs_cells HT4.out
  have tf := fun k => blk_frozen HT4.out k
  go_upto_region 7 with fail
  generalize hW : World.setCell W4 _ _ = W5
  have hW' : W4.setCell ⟨T, 4, none⟩ (.int .u64 c.left) = W5 := hW
  have hT5 : W5.heap[T]? = some (.cells (Rs.row { c.o with vis := c.left }) tR (0, 0)) := by
    rw [← hW']
    exact blk_set HT4.out 4 (.int .u64 c.left)
  have ho5 : Only (fun k => k = T) W4 W5 := by rw [← hW']; exact (Only.refl (fun k => k = T) W4).setCell (p := ⟨T, 4, none⟩) (.inl rfl) _
  have HX5 : Hid (BkRep W5 C b v1 v2 (.pointer none) p7) := Lib.hid ⟨ho5.blk HX4.out.blk (fun q => by have := HTn.out C (.inl rfl); omega), own_only HX4.out.r1 ho5 (fun k hk q => by have := HTn.out k (.inr (.inl hk)); omega), own_only HX4.out.r2 ho5 (fun k hk q => by have := HTn.out k (.inr (.inr hk)); omega), HX4.out.ne⟩
  have HG5 : Hid (CgAt W5 G c) := Lib.hid (ho5.blk HG4.out (fun q => by omega))
  have HO5 : Hid (Only (Mine C v1 v2) w W5) := Lib.hid (HO4.out.trans (T := fun k => k = T) ho5 (fun k hk q => by omega))
  have HT5 := Lib.hid hT5
  clear hW hW' hT5 ho5 g0 g1 g2 g3 g4 g5 g6 g7 g8 g9 g10 g11 g12 gl t0 t1 t2 t3 t4 t5 t6 tl tf HX4 HG4 HO4 HT4
  obtain ⟨g0, g1, g2, g3, g4, g5, g6, g7, g8, g9, g10, g11, g12, gl⟩ := cg_cells HG5.out
  obtain ⟨t0, t1, t2, t3, t4, t5, t6, tl⟩ := rs_cells HT5.out
  have tf := fun k => blk_frozen HT5.out k
  go_upto_region 9 with fail
  go_still_tail 8, (by kernel_rfl)
  change wpList _ _ _ _ _ W5.drew
  go_upto_region 10 with fail
  generalize hW : World.drew (World.setCell W5 _ _) = W6
  have hW' : (W5.setCell ⟨T, 5, none⟩ (.int .u64 0)).drew = W6 := hW
  have hT5 : W6.heap[T]? = some (.cells (Rs.row { c.o with vis := c.left, hid := 0 }) tR (0, 0)) := by
    rw [← hW']
    exact blk_drew (blk_set HT5.out 5 (.int .u64 0))
  have ho5 : Only (fun k => k = T) W5 W6 := by rw [← hW']; exact ((Only.refl (fun k => k = T) W5).setCell (p := ⟨T, 5, none⟩) (.inl rfl) _).drew
  have HX6 : Hid (BkRep W6 C b v1 v2 (.pointer none) p7) := Lib.hid ⟨ho5.blk HX5.out.blk (fun q => by have := HTn.out C (.inl rfl); omega), own_only HX5.out.r1 ho5 (fun k hk q => by have := HTn.out k (.inr (.inl hk)); omega), own_only HX5.out.r2 ho5 (fun k hk q => by have := HTn.out k (.inr (.inr hk)); omega), HX5.out.ne⟩
  have HG6 : Hid (CgAt W6 G c) := Lib.hid (ho5.blk HG5.out (fun q => by omega))
  have HO6 : Hid (Only (Mine C v1 v2) w W6) := Lib.hid (HO5.out.trans (T := fun k => k = T) ho5 (fun k hk q => by omega))
  have HT6 := Lib.hid hT5
  clear hW hW' hT5 ho5 g0 g1 g2 g3 g4 g5 g6 g7 g8 g9 g10 g11 g12 gl t0 t1 t2 t3 t4 t5 t6 tl tf HX5 HG5 HO5 HT5
  obtain ⟨g0, g1, g2, g3, g4, g5, g6, g7, g8, g9, g10, g11, g12, gl⟩ := cg_cells HG6.out
  obtain ⟨t0, t1, t2, t3, t4, t5, t6, tl⟩ := rs_cells HT6.out
  have tf := fun k => blk_frozen HT6.out k
  go_still_tail 6, (by kernel_rfl)
  change wpList _ _ _ _ _ W6.drew
  go_wp2_with fail
  have hro := Hroom.out
  refine (rests_any C c.side b { c.o with vis := c.left, hid := 0 } v1 v2 _ p7 W6.drew (HX6.out.nil (Only.refl Nil _).drew) Hcs.out (by omega)).mono ?_
  rintro x Wz ⟨rfl, v1', v2', hx, hf6, ho6⟩
  go_wp2
  go_end0
  rw [HA.out]
  exact ⟨rfl, v1', v2', hx, fun k hk => (hf6 k hk).imp id (fun q => Nat.le_trans HO6.out.size q), HO6.out.drew.trans ho6 (fun _ _ h => h)⟩

set_option maxHeartbeats 1600000 in
set_option maxRecDepth 100000 in
theorem settles_restb (C G : Nat) (b : Bk) (c : Cg) (v1 v2 p7 : Value) (w : World) (h : BkRep w C b v1 v2 (.pointer (some ⟨G, 0, none⟩)) p7) (hg : CgAt w G c) (hb : b.ok) (hc : Cg.ok b c) (hf : c.traded = false → c.empty = 0 ∧ c.met = false) (hm : musts b c = none) (hl : c.left ≠ 0) (hk : 0 < c.o.peak) (hq : c.left < c.o.peak) :
    Calls Try.prog 48 #[.pointer (some ⟨C, 0, none⟩)] w fun r w' => r = .returned (.tuple #[]) ∧ ∃ v1' v2', BkRep w' C (b.set c.side (rests c.side (atRest c) (b.side c.side))) v1' v2' (.pointer none) p7 ∧ Fresh w C v1 v2 v1' v2' ∧ Only (Mine C v1 v2) w w' := by
  have hl1 : (c.left == 0) = false := by simp [hl]
  have HA : Hid (atRest c = { c.o with vis := c.left, hid := 0 }) := Lib.hid (by unfold atRest; simp only; rw [if_pos hk, show min c.o.peak c.left = c.left by omega, show c.left - c.left = 0 by omega])
  have hw : IntKind.u64.wrap (c.left - c.left) = 0 := by
    have h1 := hc.left
    have h2 := hc.peak
    rw [IntKind.wrap_u64]; omega
  have hpk : 0 < c.o.peak := hk
  clear hk  hl
  have HM := Lib.hid (fun W (ho : Only Nil w W) => must_top C G b c v1 v2 _ p7 W (h.nil ho) (hg.nil ho) hb hc hf)
  rw [hm] at HM
  have a6 := blk_cell h.blk 6
  have lC := blk_lt h.blk
  simp only [List.getElem?_toArray, List.getElem?_cons_zero, List.getElem?_cons_succ] at a6
  have HX := Lib.hid h
  have HG := Lib.hid hg
  have Hcs := Lib.hid hc.side
  have Hroom := Lib.hid hb.room
  have hleft := hc.left
  clear h hg hb hc hf hm
  go_enter Try.func48, Try.ntmps48
  go_wp2_with fail
  refine (HM.out _ (Only.refl _ _)).mono ?_
  rintro x w1 ⟨rfl, ho⟩
  have HX1 := Lib.hid (HX.out.nil ho)
  have HG1 := Lib.hid (HG.out.nil ho)
  have HO1 : Hid (Only (Mine C v1 v2) w w1) := Lib.hid (ho.mono (fun _ _ h => h.elim))
  clear a6 lC ho
  unfold mustV
  simp only
  go_upto_region 2 with (refine wpList_store_row rfl tEvt (.tmp 3) (.tmp 14) rfl _ rfl zE.row zE.row rfl _ (blk_new w1 (.cells zE.row tEvt)) infoEvt rfl (one_ev _) ?_)
  generalize hW : World.setRow (World.alloc w1 _) _ _ = W2
  have hW' : w1.alloc (.cells zE.row tEvt) = W2 := by rw [← hW]; exact (setRow_alloc _ _ _ _).symm
  have ho2 : Only Nil w1 W2 := by rw [← hW']; exact (Only.refl _ _).alloc _
  have HX2 := Lib.hid (HX1.out.nil ho2)
  have HG2 := Lib.hid (HG1.out.nil ho2)
  have HO2 : Hid (Only (Mine C v1 v2) w W2) := Lib.hid (HO1.out.trans ho2 (fun _ _ h => h.elim))
  clear hW hW' ho2 HX1 HG1 HO1
  have c6 := blk_cell HX2.out.blk 6
  have cf := fun k => blk_frozen HX2.out.blk k
  have cl := blk_lt HX2.out.blk
  simp only [List.getElem?_toArray, List.getElem?_cons_zero, List.getElem?_cons_succ] at c6
  go_upto_region 4 with fail
  generalize hW : World.setCell W2 _ _ = W3
  have hW' : W2.setCell ⟨C, 6, none⟩ (.pointer none) = W3 := hW
  have HX3 : Hid (BkRep W3 C b v1 v2 (.pointer none) p7) := Lib.hid (by rw [← hW']; exact HX2.out.set6 _)
  have HG3 : Hid (CgAt W3 G c) := Lib.hid (by rw [← hW']; exact HG2.out.farC HX2.out _ _)
  have HO3 : Hid (Only (Mine C v1 v2) w W3) := Lib.hid (by rw [← hW']; exact HO2.out.setCell (p := ⟨C, 6, none⟩) (.inl (.inl rfl)) _)
  clear hW hW' c6 cf cl HX2 HG2 HO2
  obtain ⟨g0, g1, g2, g3, g4, g5, g6, g7, g8, g9, g10, g11, g12, gl⟩ := cg_cells HG3.out
  go_upto_region 6 with fail
  generalize hW : World.alloc W3 _ = W4
  have hW' : W3.alloc (.cells c.o.row tR) = W4 := hW
  have ho4 : Only Nil W3 W4 := by rw [← hW']; exact (Only.refl _ _).alloc _
  have HT4 : Hid (W4.heap[W3.heap.size]? = some (.cells c.o.row tR (0, 0))) := Lib.hid (by rw [← hW']; exact blk_new _ _)
  have HX4 := Lib.hid (HX3.out.nil ho4)
  have HG4 := Lib.hid (HG3.out.nil ho4)
  have HO4 : Hid (Only (Mine C v1 v2) w W4) := Lib.hid (HO3.out.trans ho4 (fun _ _ h => h.elim))
  have hTw : w.heap.size ≤ W3.heap.size := HO3.out.size
  have HTn := Lib.hid (fun k (hk : Mine C v1 v2 k) => (show k < W3.heap.size from by
    rcases hk with hk | hk | hk
    · exact hk ▸ blk_lt HX3.out.blk
    · exact own_lt HX3.out.r1 hk
    · exact own_lt HX3.out.r2 hk))
  have hGT : G < W3.heap.size := gl
  clear hW hW' ho4 g0 g1 g2 g3 g4 g5 g6 g7 g8 g9 g10 g11 g12 gl HX3 HG3 HO3
  generalize W3.heap.size = T at *
  have hGne : G ≠ T := by omega
  have hTne : T ≠ G := by omega
  obtain ⟨g0, g1, g2, g3, g4, g5, g6, g7, g8, g9, g10, g11, g12, gl⟩ := cg_cells HG4.out
  obtain ⟨t0, t1, t2, t3, t4, t5, t6, tl⟩ := rs_cells HT4.out
  have tf := fun k => blk_frozen HT4.out k
  go_upto_region 7 with fail
  generalize hW : World.setCell W4 _ _ = W5
  have hW' : W4.setCell ⟨T, 4, none⟩ (.int .u64 c.left) = W5 := hW
  have hT5 : W5.heap[T]? = some (.cells (Rs.row { c.o with vis := c.left }) tR (0, 0)) := by
    rw [← hW']
    exact blk_set HT4.out 4 (.int .u64 c.left)
  have ho5 : Only (fun k => k = T) W4 W5 := by rw [← hW']; exact (Only.refl (fun k => k = T) W4).setCell (p := ⟨T, 4, none⟩) (.inl rfl) _
  have HX5 : Hid (BkRep W5 C b v1 v2 (.pointer none) p7) := Lib.hid ⟨ho5.blk HX4.out.blk (fun q => by have := HTn.out C (.inl rfl); omega), own_only HX4.out.r1 ho5 (fun k hk q => by have := HTn.out k (.inr (.inl hk)); omega), own_only HX4.out.r2 ho5 (fun k hk q => by have := HTn.out k (.inr (.inr hk)); omega), HX4.out.ne⟩
  have HG5 : Hid (CgAt W5 G c) := Lib.hid (ho5.blk HG4.out (fun q => by omega))
  have HO5 : Hid (Only (Mine C v1 v2) w W5) := Lib.hid (HO4.out.trans (T := fun k => k = T) ho5 (fun k hk q => by omega))
  have HT5 := Lib.hid hT5
  clear hW hW' hT5 ho5 g0 g1 g2 g3 g4 g5 g6 g7 g8 g9 g10 g11 g12 gl t0 t1 t2 t3 t4 t5 t6 tl tf HX4 HG4 HO4 HT4
  obtain ⟨g0, g1, g2, g3, g4, g5, g6, g7, g8, g9, g10, g11, g12, gl⟩ := cg_cells HG5.out
  obtain ⟨t0, t1, t2, t3, t4, t5, t6, tl⟩ := rs_cells HT5.out
  have tf := fun k => blk_frozen HT5.out k
  go_upto_region 8 with fail
  go_still_tail 8, (by kernel_rfl)
  change wpList _ _ _ _ _ W5.drew
  go_upto_region 9 with fail
  generalize hW : World.drew (World.setCell W5 _ _) = W6
  have hW' : (W5.setCell ⟨T, 4, none⟩ (.int .u64 c.left)).drew = W6 := hW
  have hT5 : W6.heap[T]? = some (.cells (Rs.row { c.o with vis := c.left }) tR (0, 0)) := by
    rw [← hW']
    exact blk_drew (blk_set HT5.out 4 (.int .u64 (c.left)))
  have ho5 : Only (fun k => k = T) W5 W6 := by rw [← hW']; exact ((Only.refl (fun k => k = T) W5).setCell (p := ⟨T, 4, none⟩) (.inl rfl) _).drew
  have HX6 : Hid (BkRep W6 C b v1 v2 (.pointer none) p7) := Lib.hid ⟨ho5.blk HX5.out.blk (fun q => by have := HTn.out C (.inl rfl); omega), own_only HX5.out.r1 ho5 (fun k hk q => by have := HTn.out k (.inr (.inl hk)); omega), own_only HX5.out.r2 ho5 (fun k hk q => by have := HTn.out k (.inr (.inr hk)); omega), HX5.out.ne⟩
  have HG6 : Hid (CgAt W6 G c) := Lib.hid (ho5.blk HG5.out (fun q => by omega))
  have HO6 : Hid (Only (Mine C v1 v2) w W6) := Lib.hid (HO5.out.trans (T := fun k => k = T) ho5 (fun k hk q => by omega))
  have HT6 := Lib.hid hT5
  clear hW hW' hT5 ho5 g0 g1 g2 g3 g4 g5 g6 g7 g8 g9 g10 g11 g12 gl t0 t1 t2 t3 t4 t5 t6 tl tf HX5 HG5 HO5 HT5
  obtain ⟨g0, g1, g2, g3, g4, g5, g6, g7, g8, g9, g10, g11, g12, gl⟩ := cg_cells HG6.out
  obtain ⟨t0, t1, t2, t3, t4, t5, t6, tl⟩ := rs_cells HT6.out
  have tf := fun k => blk_frozen HT6.out k
  go_still_tail 8, (by kernel_rfl)
  change wpList _ _ _ _ _ W6.drew
  go_upto_region 10 with fail
  generalize hW : World.drew (World.setCell W6 _ _) = W7
  have hW' : (W6.setCell ⟨T, 5, none⟩ (.int .u64 0)).drew = W7 := hW
  have hT5 : W7.heap[T]? = some (.cells (Rs.row { c.o with vis := c.left, hid := 0 }) tR (0, 0)) := by
    rw [← hW']
    exact blk_drew (blk_set HT6.out 5 (.int .u64 0))
  have ho5 : Only (fun k => k = T) W6 W7 := by rw [← hW']; exact ((Only.refl (fun k => k = T) W6).setCell (p := ⟨T, 5, none⟩) (.inl rfl) _).drew
  have HX7 : Hid (BkRep W7 C b v1 v2 (.pointer none) p7) := Lib.hid ⟨ho5.blk HX6.out.blk (fun q => by have := HTn.out C (.inl rfl); omega), own_only HX6.out.r1 ho5 (fun k hk q => by have := HTn.out k (.inr (.inl hk)); omega), own_only HX6.out.r2 ho5 (fun k hk q => by have := HTn.out k (.inr (.inr hk)); omega), HX6.out.ne⟩
  have HG7 : Hid (CgAt W7 G c) := Lib.hid (ho5.blk HG6.out (fun q => by omega))
  have HO7 : Hid (Only (Mine C v1 v2) w W7) := Lib.hid (HO6.out.trans (T := fun k => k = T) ho5 (fun k hk q => by omega))
  have HT7 := Lib.hid hT5
  clear hW hW' hT5 ho5 g0 g1 g2 g3 g4 g5 g6 g7 g8 g9 g10 g11 g12 gl t0 t1 t2 t3 t4 t5 t6 tl tf HX6 HG6 HO6 HT6
  obtain ⟨g0, g1, g2, g3, g4, g5, g6, g7, g8, g9, g10, g11, g12, gl⟩ := cg_cells HG7.out
  obtain ⟨t0, t1, t2, t3, t4, t5, t6, tl⟩ := rs_cells HT7.out
  have tf := fun k => blk_frozen HT7.out k
  go_still_tail 6, (by kernel_rfl)
  change wpList _ _ _ _ _ W7.drew
  go_wp2_with fail
  have hro := Hroom.out
  refine (rests_any C c.side b { c.o with vis := c.left, hid := 0 } v1 v2 _ p7 W7.drew (HX7.out.nil (Only.refl Nil _).drew) Hcs.out (by omega)).mono ?_
  rintro x Wz ⟨rfl, v1', v2', hx, hf6, ho6⟩
  go_wp2
  go_end0
  rw [HA.out]
  exact ⟨rfl, v1', v2', hx, fun k hk => (hf6 k hk).imp id (fun q => Nat.le_trans HO7.out.size q), HO7.out.drew.trans ho6 (fun _ _ h => h)⟩

set_option maxHeartbeats 1600000 in
set_option maxRecDepth 100000 in
theorem settles_restc (C G : Nat) (b : Bk) (c : Cg) (v1 v2 p7 : Value) (w : World) (h : BkRep w C b v1 v2 (.pointer (some ⟨G, 0, none⟩)) p7) (hg : CgAt w G c) (hb : b.ok) (hc : Cg.ok b c) (hf : c.traded = false → c.empty = 0 ∧ c.met = false) (hm : musts b c = none) (hl : c.left ≠ 0) (hk : 0 < c.o.peak) (hq : ¬ c.left < c.o.peak) :
    Calls Try.prog 48 #[.pointer (some ⟨C, 0, none⟩)] w fun r w' => r = .returned (.tuple #[]) ∧ ∃ v1' v2', BkRep w' C (b.set c.side (rests c.side (atRest c) (b.side c.side))) v1' v2' (.pointer none) p7 ∧ Fresh w C v1 v2 v1' v2' ∧ Only (Mine C v1 v2) w w' := by
  have hl1 : (c.left == 0) = false := by simp [hl]
  have HA : Hid (atRest c = { c.o with vis := c.o.peak, hid := (c.left - c.o.peak) }) := Lib.hid (by unfold atRest; simp only; rw [if_pos hk, show min c.o.peak c.left = c.o.peak by omega])
  have hw : IntKind.u64.wrap (c.left - c.o.peak) = (c.left - c.o.peak) := by
    have h1 := hc.left
    have h2 := hc.peak
    rw [IntKind.wrap_u64]; omega
  have hpk : 0 < c.o.peak := hk
  have hF : (c.left < c.o.peak) = False := by simp only [eq_iff_iff, iff_false]; exact hq
  clear hk hq hl
  have HM := Lib.hid (fun W (ho : Only Nil w W) => must_top C G b c v1 v2 _ p7 W (h.nil ho) (hg.nil ho) hb hc hf)
  rw [hm] at HM
  have a6 := blk_cell h.blk 6
  have lC := blk_lt h.blk
  simp only [List.getElem?_toArray, List.getElem?_cons_zero, List.getElem?_cons_succ] at a6
  have HX := Lib.hid h
  have HG := Lib.hid hg
  have Hcs := Lib.hid hc.side
  have Hroom := Lib.hid hb.room
  have hleft := hc.left
  clear h hg hb hc hf hm
  go_enter Try.func48, Try.ntmps48
  go_wp2_with fail
  refine (HM.out _ (Only.refl _ _)).mono ?_
  rintro x w1 ⟨rfl, ho⟩
  have HX1 := Lib.hid (HX.out.nil ho)
  have HG1 := Lib.hid (HG.out.nil ho)
  have HO1 : Hid (Only (Mine C v1 v2) w w1) := Lib.hid (ho.mono (fun _ _ h => h.elim))
  clear a6 lC ho
  unfold mustV
  simp only
  go_upto_region 2 with (refine wpList_store_row rfl tEvt (.tmp 3) (.tmp 14) rfl _ rfl zE.row zE.row rfl _ (blk_new w1 (.cells zE.row tEvt)) infoEvt rfl (one_ev _) ?_)
  generalize hW : World.setRow (World.alloc w1 _) _ _ = W2
  have hW' : w1.alloc (.cells zE.row tEvt) = W2 := by rw [← hW]; exact (setRow_alloc _ _ _ _).symm
  have ho2 : Only Nil w1 W2 := by rw [← hW']; exact (Only.refl _ _).alloc _
  have HX2 := Lib.hid (HX1.out.nil ho2)
  have HG2 := Lib.hid (HG1.out.nil ho2)
  have HO2 : Hid (Only (Mine C v1 v2) w W2) := Lib.hid (HO1.out.trans ho2 (fun _ _ h => h.elim))
  clear hW hW' ho2 HX1 HG1 HO1
  have c6 := blk_cell HX2.out.blk 6
  have cf := fun k => blk_frozen HX2.out.blk k
  have cl := blk_lt HX2.out.blk
  simp only [List.getElem?_toArray, List.getElem?_cons_zero, List.getElem?_cons_succ] at c6
  go_upto_region 4 with fail
  generalize hW : World.setCell W2 _ _ = W3
  have hW' : W2.setCell ⟨C, 6, none⟩ (.pointer none) = W3 := hW
  have HX3 : Hid (BkRep W3 C b v1 v2 (.pointer none) p7) := Lib.hid (by rw [← hW']; exact HX2.out.set6 _)
  have HG3 : Hid (CgAt W3 G c) := Lib.hid (by rw [← hW']; exact HG2.out.farC HX2.out _ _)
  have HO3 : Hid (Only (Mine C v1 v2) w W3) := Lib.hid (by rw [← hW']; exact HO2.out.setCell (p := ⟨C, 6, none⟩) (.inl (.inl rfl)) _)
  clear hW hW' c6 cf cl HX2 HG2 HO2
  obtain ⟨g0, g1, g2, g3, g4, g5, g6, g7, g8, g9, g10, g11, g12, gl⟩ := cg_cells HG3.out
  go_upto_region 6 with fail
  generalize hW : World.alloc W3 _ = W4
  have hW' : W3.alloc (.cells c.o.row tR) = W4 := hW
  have ho4 : Only Nil W3 W4 := by rw [← hW']; exact (Only.refl _ _).alloc _
  have HT4 : Hid (W4.heap[W3.heap.size]? = some (.cells c.o.row tR (0, 0))) := Lib.hid (by rw [← hW']; exact blk_new _ _)
  have HX4 := Lib.hid (HX3.out.nil ho4)
  have HG4 := Lib.hid (HG3.out.nil ho4)
  have HO4 : Hid (Only (Mine C v1 v2) w W4) := Lib.hid (HO3.out.trans ho4 (fun _ _ h => h.elim))
  have hTw : w.heap.size ≤ W3.heap.size := HO3.out.size
  have HTn := Lib.hid (fun k (hk : Mine C v1 v2 k) => (show k < W3.heap.size from by
    rcases hk with hk | hk | hk
    · exact hk ▸ blk_lt HX3.out.blk
    · exact own_lt HX3.out.r1 hk
    · exact own_lt HX3.out.r2 hk))
  have hGT : G < W3.heap.size := gl
  clear hW hW' ho4 g0 g1 g2 g3 g4 g5 g6 g7 g8 g9 g10 g11 g12 gl HX3 HG3 HO3
  generalize W3.heap.size = T at *
  have hGne : G ≠ T := by omega
  have hTne : T ≠ G := by omega
  obtain ⟨g0, g1, g2, g3, g4, g5, g6, g7, g8, g9, g10, g11, g12, gl⟩ := cg_cells HG4.out
  obtain ⟨t0, t1, t2, t3, t4, t5, t6, tl⟩ := rs_cells HT4.out
  have tf := fun k => blk_frozen HT4.out k
  go_upto_region 7 with fail
  generalize hW : World.setCell W4 _ _ = W5
  have hW' : W4.setCell ⟨T, 4, none⟩ (.int .u64 c.left) = W5 := hW
  have hT5 : W5.heap[T]? = some (.cells (Rs.row { c.o with vis := c.left }) tR (0, 0)) := by
    rw [← hW']
    exact blk_set HT4.out 4 (.int .u64 c.left)
  have ho5 : Only (fun k => k = T) W4 W5 := by rw [← hW']; exact (Only.refl (fun k => k = T) W4).setCell (p := ⟨T, 4, none⟩) (.inl rfl) _
  have HX5 : Hid (BkRep W5 C b v1 v2 (.pointer none) p7) := Lib.hid ⟨ho5.blk HX4.out.blk (fun q => by have := HTn.out C (.inl rfl); omega), own_only HX4.out.r1 ho5 (fun k hk q => by have := HTn.out k (.inr (.inl hk)); omega), own_only HX4.out.r2 ho5 (fun k hk q => by have := HTn.out k (.inr (.inr hk)); omega), HX4.out.ne⟩
  have HG5 : Hid (CgAt W5 G c) := Lib.hid (ho5.blk HG4.out (fun q => by omega))
  have HO5 : Hid (Only (Mine C v1 v2) w W5) := Lib.hid (HO4.out.trans (T := fun k => k = T) ho5 (fun k hk q => by omega))
  have HT5 := Lib.hid hT5
  clear hW hW' hT5 ho5 g0 g1 g2 g3 g4 g5 g6 g7 g8 g9 g10 g11 g12 gl t0 t1 t2 t3 t4 t5 t6 tl tf HX4 HG4 HO4 HT4
  obtain ⟨g0, g1, g2, g3, g4, g5, g6, g7, g8, g9, g10, g11, g12, gl⟩ := cg_cells HG5.out
  obtain ⟨t0, t1, t2, t3, t4, t5, t6, tl⟩ := rs_cells HT5.out
  have tf := fun k => blk_frozen HT5.out k
  go_upto_region 8 with fail
  go_still_tail 8, (by kernel_rfl)
  change wpList _ _ _ _ _ W5.drew
  go_upto_region 9 with fail
  generalize hW : World.drew (World.setCell W5 _ _) = W6
  have hW' : (W5.setCell ⟨T, 4, none⟩ (.int .u64 c.o.peak)).drew = W6 := hW
  have hT5 : W6.heap[T]? = some (.cells (Rs.row { c.o with vis := c.o.peak }) tR (0, 0)) := by
    rw [← hW']
    exact blk_drew (blk_set HT5.out 4 (.int .u64 (c.o.peak)))
  have ho5 : Only (fun k => k = T) W5 W6 := by rw [← hW']; exact ((Only.refl (fun k => k = T) W5).setCell (p := ⟨T, 4, none⟩) (.inl rfl) _).drew
  have HX6 : Hid (BkRep W6 C b v1 v2 (.pointer none) p7) := Lib.hid ⟨ho5.blk HX5.out.blk (fun q => by have := HTn.out C (.inl rfl); omega), own_only HX5.out.r1 ho5 (fun k hk q => by have := HTn.out k (.inr (.inl hk)); omega), own_only HX5.out.r2 ho5 (fun k hk q => by have := HTn.out k (.inr (.inr hk)); omega), HX5.out.ne⟩
  have HG6 : Hid (CgAt W6 G c) := Lib.hid (ho5.blk HG5.out (fun q => by omega))
  have HO6 : Hid (Only (Mine C v1 v2) w W6) := Lib.hid (HO5.out.trans (T := fun k => k = T) ho5 (fun k hk q => by omega))
  have HT6 := Lib.hid hT5
  clear hW hW' hT5 ho5 g0 g1 g2 g3 g4 g5 g6 g7 g8 g9 g10 g11 g12 gl t0 t1 t2 t3 t4 t5 t6 tl tf HX5 HG5 HO5 HT5
  obtain ⟨g0, g1, g2, g3, g4, g5, g6, g7, g8, g9, g10, g11, g12, gl⟩ := cg_cells HG6.out
  obtain ⟨t0, t1, t2, t3, t4, t5, t6, tl⟩ := rs_cells HT6.out
  have tf := fun k => blk_frozen HT6.out k
  go_still_tail 8, (by kernel_rfl)
  change wpList _ _ _ _ _ W6.drew
  go_upto_region 10 with fail
  generalize hW : World.drew (World.setCell W6 _ _) = W7
  have hW' : (W6.setCell ⟨T, 5, none⟩ (.int .u64 (c.left - c.o.peak))).drew = W7 := hW
  have hT5 : W7.heap[T]? = some (.cells (Rs.row { c.o with vis := c.o.peak, hid := (c.left - c.o.peak) }) tR (0, 0)) := by
    rw [← hW']
    exact blk_drew (blk_set HT6.out 5 (.int .u64 (c.left - c.o.peak)))
  have ho5 : Only (fun k => k = T) W6 W7 := by rw [← hW']; exact ((Only.refl (fun k => k = T) W6).setCell (p := ⟨T, 5, none⟩) (.inl rfl) _).drew
  have HX7 : Hid (BkRep W7 C b v1 v2 (.pointer none) p7) := Lib.hid ⟨ho5.blk HX6.out.blk (fun q => by have := HTn.out C (.inl rfl); omega), own_only HX6.out.r1 ho5 (fun k hk q => by have := HTn.out k (.inr (.inl hk)); omega), own_only HX6.out.r2 ho5 (fun k hk q => by have := HTn.out k (.inr (.inr hk)); omega), HX6.out.ne⟩
  have HG7 : Hid (CgAt W7 G c) := Lib.hid (ho5.blk HG6.out (fun q => by omega))
  have HO7 : Hid (Only (Mine C v1 v2) w W7) := Lib.hid (HO6.out.trans (T := fun k => k = T) ho5 (fun k hk q => by omega))
  have HT7 := Lib.hid hT5
  clear hW hW' hT5 ho5 g0 g1 g2 g3 g4 g5 g6 g7 g8 g9 g10 g11 g12 gl t0 t1 t2 t3 t4 t5 t6 tl tf HX6 HG6 HO6 HT6
  obtain ⟨g0, g1, g2, g3, g4, g5, g6, g7, g8, g9, g10, g11, g12, gl⟩ := cg_cells HG7.out
  obtain ⟨t0, t1, t2, t3, t4, t5, t6, tl⟩ := rs_cells HT7.out
  have tf := fun k => blk_frozen HT7.out k
  go_still_tail 6, (by kernel_rfl)
  change wpList _ _ _ _ _ W7.drew
  go_wp2_with fail
  have hro := Hroom.out
  refine (rests_any C c.side b { c.o with vis := c.o.peak, hid := (c.left - c.o.peak) } v1 v2 _ p7 W7.drew (HX7.out.nil (Only.refl Nil _).drew) Hcs.out (by omega)).mono ?_
  rintro x Wz ⟨rfl, v1', v2', hx, hf6, ho6⟩
  go_wp2
  go_end0
  rw [HA.out]
  exact ⟨rfl, v1', v2', hx, fun k hk => (hf6 k hk).imp id (fun q => Nat.le_trans HO7.out.size q), HO7.out.drew.trans ho6 (fun _ _ h => h)⟩

/-- settles, whole. -/
theorem settles_any (C G : Nat) (b : Bk) (c : Cg) (v1 v2 p7 : Value) (w : World) (h : BkRep w C b v1 v2 (.pointer (some ⟨G, 0, none⟩)) p7) (hg : CgAt w G c) (hb : b.ok) (hc : Cg.ok b c) (hf : c.traded = false → c.empty = 0 ∧ c.met = false) :
    Calls Try.prog 48 #[.pointer (some ⟨C, 0, none⟩)] w fun r w' => r = .returned (.tuple #[]) ∧ ∃ v1' v2' p6', BkRep w' C (settles b c).1 v1' v2' p6' p7 ∧
      (((settles b c).2 = some c ∧ p6' = .pointer (some ⟨G, 0, none⟩) ∧ CgAt w' G c) ∨ ((settles b c).2 = none ∧ p6' = .pointer none)) ∧ Fresh w C v1 v2 v1' v2' ∧ Only (Mine C v1 v2) w w' := by
  cases hm : musts b c with
  | some m =>
    have hs : settles b c = (b, some c) := by unfold settles; rw [hm]
    rw [hs]
    exact (settles_must C G b c v1 v2 p7 w h hg hb hc hf m hm).mono fun r w' ⟨h1, v1', v2', h2, h3, h4, h5⟩ => ⟨h1, v1', v2', _, h2, .inl ⟨rfl, rfl, h3⟩, h4, h5⟩
  | none =>
    by_cases hl : c.left = 0
    · have hs : settles b c = (b, none) := by unfold settles; rw [hm]; simp [hl]
      rw [hs]
      exact (settles_zero C G b c v1 v2 p7 w h hg hb hc hf hm hl).mono fun r w' ⟨h1, v1', v2', h2, h4, h5⟩ => ⟨h1, v1', v2', _, h2, .inr ⟨rfl, rfl⟩, h4, h5⟩
    · have hs : settles b c = (b.set c.side (rests c.side (atRest c) (b.side c.side)), none) := by unfold settles; rw [hm]; simp [hl]
      rw [hs]
      have hp := hc.peak.1
      by_cases hk : c.o.peak = 0
      · exact (settles_resta C G b c v1 v2 p7 w h hg hb hc hf hm hl hk).mono fun r w' ⟨h1, v1', v2', h2, h4, h5⟩ => ⟨h1, v1', v2', _, h2, .inr ⟨rfl, rfl⟩, h4, h5⟩
      · by_cases hq : c.left < c.o.peak
        · exact (settles_restb C G b c v1 v2 p7 w h hg hb hc hf hm hl (by omega) hq).mono fun r w' ⟨h1, v1', v2', h2, h4, h5⟩ => ⟨h1, v1', v2', _, h2, .inr ⟨rfl, rfl⟩, h4, h5⟩
        · exact (settles_restc C G b c v1 v2 p7 w h hg hb hc hf hm hl (by omega) hq).mono fun r w' ⟨h1, v1', v2', h2, h4, h5⟩ => ⟨h1, v1', v2', _, h2, .inr ⟨rfl, rfl⟩, h4, h5⟩

end Ck
end Go.Proofs.Ytcnkbhgdcfckoaa
namespace Go.Proofs.Ytcnkbhgdcfckoaa
open Go.RowKit
namespace Ck
theorem BkRep.set7 {w : World} {C : Nat} {b : Bk} {v1 v2 p6 p7 : Value} (h : BkRep w C b v1 v2 p6 p7) (p : Value) : BkRep (w.setCell ⟨C, 7, none⟩ p) C b v1 v2 p6 p :=
  ⟨by have := blk_set h.blk 7 p; simpa using this, own_far h.r1 (own_blk_ne h.r1 h.blk (by decide)) _, own_far h.r2 (own_blk_ne h.r2 h.blk (by decide)) _, h.ne⟩
theorem BkRep.set4 {w : World} {C : Nat} {b : Bk} {v1 v2 p6 p7 : Value} (h : BkRep w C b v1 v2 p6 p7) (x : Int) : BkRep (w.setCell ⟨C, 4, none⟩ (.int .u64 x)) C { b with high := x } v1 v2 p6 p7 :=
  ⟨by have := blk_set h.blk 4 (.int .u64 x); simpa using this, own_far h.r1 (own_blk_ne h.r1 h.blk (by decide)) _, own_far h.r2 (own_blk_ne h.r2 h.blk (by decide)) _, h.ne⟩
theorem BkRep.set5 {w : World} {C : Nat} {b : Bk} {v1 v2 p6 p7 : Value} (h : BkRep w C b v1 v2 p6 p7) (x : Int) : BkRep (w.setCell ⟨C, 5, none⟩ (.int .u64 x)) C { b with seq := x } v1 v2 p6 p7 :=
  ⟨by have := blk_set h.blk 5 (.int .u64 x); simpa using this, own_far h.r1 (own_blk_ne h.r1 h.blk (by decide)) _, own_far h.r2 (own_blk_ne h.r2 h.blk (by decide)) _, h.ne⟩
end Ck
end Go.Proofs.Ytcnkbhgdcfckoaa

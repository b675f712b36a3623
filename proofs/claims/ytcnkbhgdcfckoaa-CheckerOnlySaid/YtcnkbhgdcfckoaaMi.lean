/- The walks of takes. -/
import Derived.Test.YtcnkbhgdcfckoaaMg
import Derived.StillTailTactics
set_option linter.unusedVariables false
set_option linter.unusedSimpArgs false
namespace Go.Proofs.Ytcnkbhgdcfckoaa
open Go.RowKit
namespace Ck
/-- The checker's own blocks and the order's that comes. -/
def Ours (C G : Nat) (v1 v2 : Value) (k : Nat) : Prop := Mine C v1 v2 k ∨ k = G
section
variable {w : World} {C G : Nat} {b : Bk} {c : Cg} {v1 v2 p6 p7 : Value}
theorem BkRep.setG (h : BkRep w C b v1 v2 p6 p7) (hg : CgAt w G c) (i : Nat) (u : Value) : BkRep (w.setCell ⟨G, i, none⟩ u) C b v1 v2 p6 p7 := by
  unfold CgAt at hg
  exact ⟨blk_far h.blk (blk_ne h.blk hg (by decide)) u, own_far h.r1 (own_blk_ne h.r1 hg (by decide)) u, own_far h.r2 (own_blk_ne h.r2 hg (by decide)) u, h.ne⟩
theorem CgAt.s9 (hg : CgAt w G c) (x : Int) : CgAt (w.setCell ⟨G, 9, none⟩ (.int .u64 x)) G { c with left := x } := by
  unfold CgAt at *
  have := blk_set hg 9 (.int .u64 x)
  simpa using this
theorem CgAt.s10 (hg : CgAt w G c) (x : Bool) : CgAt (w.setCell ⟨G, 10, none⟩ (.bool x)) G { c with traded := x } := by
  unfold CgAt at *
  have := blk_set hg 10 (.bool x)
  simpa using this
theorem CgAt.s11 (hg : CgAt w G c) (x : Int) : CgAt (w.setCell ⟨G, 11, none⟩ (.int .u64 x)) G { c with empty := x } := by
  unfold CgAt at *
  have := blk_set hg 11 (.int .u64 x)
  simpa using this
theorem CgAt.s12 (hg : CgAt w G c) (x : Bool) : CgAt (w.setCell ⟨G, 12, none⟩ (.bool x)) G { c with met := x } := by
  unfold CgAt at *
  have := blk_set hg 12 (.bool x)
  simpa using this
theorem Fresh.trans {w w1 : World} {v1' v2' v1'' v2'' : Value} (h : Fresh w C v1 v2 v1' v2') (k : Fresh w1 C v1' v2' v1'' v2'') (hs : w.heap.size ≤ w1.heap.size) : Fresh w C v1 v2 v1'' v2'' := fun i hi => by
  rcases k i hi with h1 | h1
  · exact h i h1
  · exact .inr (by omega)
end
theorem ev_cells {W : World} {S : Nat} {e : Ev} (h : W.heap[S]? = some (.cells e.row tEvt (0, 0))) :
    W.cell? ⟨S, 0, none⟩ = some (.int .u64 e.seq) ∧ W.cell? ⟨S, 1, none⟩ = some (.int .i64 e.kind) ∧ W.cell? ⟨S, 2, none⟩ = some (.int .u64 e.id) ∧ W.cell? ⟨S, 3, none⟩ = some (.int .u64 e.other) ∧ W.cell? ⟨S, 4, none⟩ = some (.int .u64 e.target) ∧
    W.cell? ⟨S, 5, none⟩ = some (.int .u32 e.mem) ∧ W.cell? ⟨S, 6, none⟩ = some (.int .i64 e.side) ∧ W.cell? ⟨S, 7, none⟩ = some (.int .i64 e.typ) ∧ W.cell? ⟨S, 8, none⟩ = some (.int .i64 e.price) ∧ W.cell? ⟨S, 9, none⟩ = some (.int .u64 e.qty) ∧
    W.cell? ⟨S, 10, none⟩ = some (.int .u64 e.peak) ∧ W.cell? ⟨S, 11, none⟩ = some (.int .i64 e.reason) ∧ W.cell? ⟨S, 12, none⟩ = some (.int .i64 e.code) ∧ (∀ k, W.frozen? ⟨S, k, none⟩ = false) ∧ S < W.heap.size :=
  ⟨blk_cell h 0, blk_cell h 1, blk_cell h 2, blk_cell h 3, blk_cell h 4, blk_cell h 5, blk_cell h 6, blk_cell h 7, blk_cell h 8, blk_cell h 9, blk_cell h 10, blk_cell h 11, blk_cell h 12, fun k => blk_frozen h k, blk_lt h⟩
theorem CgAt.far {w : World} {G g : Nat} {c : Cg} {t : TypeId} {cs : Array Value} (hg : CgAt w G c) (h : w.heap[g]? = some (.cells cs t (0, 0))) (ht : tCg ≠ t) (i : Nat) (u : Value) : CgAt (w.setCell ⟨g, i, none⟩ u) G c := by
  unfold CgAt at *
  exact blk_far hg (blk_ne hg h ht) u
theorem CgAt.neG {w : World} {G g : Nat} {c : Cg} {t : TypeId} {cs : Array Value} (hg : CgAt w G c) (h : w.heap[g]? = some (.cells cs t (0, 0))) (ht : t ≠ tCg) : g ≠ G := by
  unfold CgAt at hg
  exact blk_ne h hg ht
theorem BkRep.setVis1 {w : World} {C g n cp : Nat} {b : Bk} {v2 p6 p7 : Value} {r : Rs} {l : List Rs} (h : BkRep w C b (.slice (some ⟨g, 0, none⟩) n cp) v2 p6 p7) (hd : b.buys = r :: l) (x : Int) :
    BkRep (w.setCell ⟨g, 4, none⟩ (.int .u64 x)) C (b.set 1 ({ r with vis := x } :: l)) (.slice (some ⟨g, 0, none⟩) n cp) v2 p6 p7 := by
  obtain ⟨A, c', e, _⟩ := own_slice h.r1
  injection e with e1 e2 e3
  subst e2
  have hC : g ≠ C := ob_ne' (own_blk_ne h.r1 h.blk (by decide))
  refine ⟨blk_far h.blk (fun e => hC e.symm) _, ?_, own_far h.r2 (fun e => h.ne g rfl e) _, h.ne⟩
  have := own_set h.r1 4 (.int .u64 x)
  rw [hd] at this
  have e1 : (b.set 1 ({ r with vis := x } :: l)).buys = { r with vis := x } :: l := rfl
  rw [e1]
  rw [hd]
  simpa [Rs.cells] using this
theorem BkRep.setVis2 {w : World} {C g n cp : Nat} {b : Bk} {v1 p6 p7 : Value} {r : Rs} {l : List Rs} (h : BkRep w C b v1 (.slice (some ⟨g, 0, none⟩) n cp) p6 p7) (hd : b.sells = r :: l) (x : Int) :
    BkRep (w.setCell ⟨g, 4, none⟩ (.int .u64 x)) C (b.set 2 ({ r with vis := x } :: l)) v1 (.slice (some ⟨g, 0, none⟩) n cp) p6 p7 := by
  obtain ⟨A, c', e, _⟩ := own_slice h.r2
  injection e with e1 e2 e3
  subst e2
  have hC : g ≠ C := ob_ne' (own_blk_ne h.r2 h.blk (by decide))
  refine ⟨blk_far h.blk (fun e => hC e.symm) _, own_far h.r1 (fun e => h.ne g e rfl) _, ?_, h.ne⟩
  have := own_set h.r2 4 (.int .u64 x)
  rw [hd] at this
  have e1 : (b.set 2 ({ r with vis := x } :: l)).sells = { r with vis := x } :: l := rfl
  rw [e1]
  rw [hd]
  simpa [Rs.cells] using this
theorem erase_first (r : Rs) (l : List Rs) : (r :: l).eraseIdx 0 = l := rfl
theorem own_blkc {w : World} {g n c base : Nat} {e : TypeId} {size : Nat} {xs : List Value} (h : w.ownsRow base e size (.slice (some ⟨g, 0, none⟩) n c) n xs) : ∃ cur, w.heap[g]? = some (.cells cur e (0, 0)) := by
  rcases h.2 with ⟨e, _⟩ | ⟨g', c', cur, e, _, e2, _⟩
  · cases e
  · injection e with e _ _
    injection e with e
    injection e with e
    subst e
    exact ⟨cur, e2⟩

set_option maxHeartbeats 1600000 in
set_option maxRecDepth 100000 in
theorem takes_own1 (C G : Nat) (b : Bk) (c : Cg) (v1 v2 p6 p7 : Value) (e : Ev) (w : World) (h : BkRep w C b v1 v2 p6 p7) (hg : CgAt w G c) (hs : c.side = 1) (hk5 : e.kind ≠ 5) (hk3 : e.kind ≠ 3) (hid : e.id = c.o.id) :
    Calls Try.prog 50 #[.pointer (some ⟨C, 0, none⟩), .pointer (some ⟨G, 0, none⟩), .agg e.row] w fun r w' => r = .returned (.tuple #[]) ∧ ∃ v1' v2', BkRep w' C (takes b c e).1 v1' v2' p6 p7 ∧ CgAt w' G (takes b c e).2 ∧ Fresh w C v1 v2 v1' v2' ∧ Only (Ours C G v1 v2) w w' := by
  have HT : Hid (takes b c e = (b, { c with traded := true, left := 0 })) := Lib.hid (by unfold takes; simp only [if_neg hk5, if_neg hk3, if_pos hid])
  have hk5' : (e.kind == 5) = false := by simp [hk5]
  have hk3' : (e.kind == 3) = false := by simp [hk3]
  have hid' : (e.id == c.o.id) = true := by simp [hid]
  have hsub : IntKind.i64.wrap (3 - 1) = 2 := by rw [IntKind.wrap_i64]; omega
  clear hk5 hk3 hid
  have HX0 := Lib.hid h
  have HG0 := Lib.hid hg
  have HE1 := Lib.hid (blk_new w (.cells e.row tEvt))
  have HX1 := Lib.hid (h.nil ((Only.refl Nil w).alloc (.cells e.row tEvt)))
  have HG1 := Lib.hid (hg.nil ((Only.refl Nil w).alloc (.cells e.row tEvt)))
  have HO1 := Lib.hid ((Only.refl (Ours C G v1 v2) w).alloc (.cells e.row tEvt))
  clear h hg
  go_enter Try.func50, Try.ntmps50
  unfold Ev.row
  go_upto_region 1 with fail
  generalize hW : World.alloc w _ = W1
  have hW' : w.alloc (.cells e.row tEvt) = W1 := hW
  rw [hW'] at HE1 HX1 HG1 HO1
  clear hW hW'
  obtain ⟨a1, a2, a3, lC, g0, g1, g3, g7, g8, g9, g10, g11, g12, lG⟩ := mc_of HX1.out HG1.out
  have gf := fun k => blk_frozen HG1.out k
  obtain ⟨e0, e1, e2, e3, e4, e5, e6, e7, e8, e9, e10, e11, e12, ef, el⟩ := ev_cells HE1.out
  rw [hs] at g7
  go_upto_region 2 with fail
  generalize hW : World.setCell W1 _ _ = W2
  have hW' : W1.setCell ⟨G, 10, none⟩ (.bool true) = W2 := hW
  have HX2 : Hid (BkRep W2 C b v1 v2 p6 p7) := Lib.hid (by rw [← hW']; exact HX1.out.setG HG1.out _ _)
  have HE2 : Hid (W2.heap[w.heap.size]? = some (.cells e.row tEvt (0, 0))) := Lib.hid (by rw [← hW']; exact blk_far HE1.out (HG1.out.neG HE1.out (by decide)) _)
  have HO2 : Hid (Only (Ours C G v1 v2) w W2) := Lib.hid (by rw [← hW']; exact HO1.out.setCell (p := ⟨G, 10, none⟩) (.inl (.inr rfl)) _)
  have HG2 : Hid (CgAt W2 G { c with traded := true }) := Lib.hid (by rw [← hW']; exact HG1.out.s10 true)
  clear hW hW' a1 a2 a3 lC g0 g1 g3 g7 g8 g9 g10 g11 g12 lG gf e0 e1 e2 e3 e4 e5 e6 e7 e8 e9 e10 e11 e12 ef el HX1 HE1 HO1 HG1
  obtain ⟨a1, a2, a3, lC, g0, g1, g3, g7, g8, g9, g10, g11, g12, lG⟩ := mc_of HX2.out HG2.out
  have gf := fun k => blk_frozen HG2.out k
  obtain ⟨e0, e1, e2, e3, e4, e5, e6, e7, e8, e9, e10, e11, e12, ef, el⟩ := ev_cells HE2.out
  rw [hs] at g7
  go_upto_region 21 with fail
  go_quiet (fail)
  go_upto_region 22 with fail
  have HGd : Hid (CgAt (W2.drewN nq) G { c with traded := true }) := Lib.hid (HG2.out.nil ((Only.refl Nil _).drewN _))
  have HXd : Hid (BkRep (W2.drewN nq) C b v1 v2 p6 p7) := Lib.hid (HX2.out.nil ((Only.refl Nil _).drewN _))
  go_wp2
  go_end0
  rw [HT.out]
  exact ⟨rfl, v1, v2, HXd.out.setG HGd.out _ _, HGd.out.s9 0, fun k hk => .inl hk, (HO2.out.drewN _).setCell (p := ⟨G, 9, none⟩) (.inl (.inr rfl)) _⟩

set_option maxHeartbeats 1600000 in
set_option maxRecDepth 100000 in
theorem takes_away1 (C G : Nat) (b : Bk) (c : Cg) (v1 v2 p6 p7 : Value) (e : Ev) (w : World) (h : BkRep w C b v1 v2 p6 p7) (hg : CgAt w G c) (hs : c.side = 1) (hk5 : e.kind ≠ 5) (hk3 : e.kind ≠ 3) (hid : e.id ≠ c.o.id) (hn : 0 < (b.side 2).length) :
    Calls Try.prog 50 #[.pointer (some ⟨C, 0, none⟩), .pointer (some ⟨G, 0, none⟩), .agg e.row] w fun r w' => r = .returned (.tuple #[]) ∧ ∃ v1' v2', BkRep w' C (takes b c e).1 v1' v2' p6 p7 ∧ CgAt w' G (takes b c e).2 ∧ Fresh w C v1 v2 v1' v2' ∧ Only (Ours C G v1 v2) w w' := by
  have hfar : far c.side = 2 := by rw [hs]; rfl
  have HT : Hid (takes b c e = (b.set 2 ((b.side 2).eraseIdx 0), { c with traded := true, met := decide (b.meet = 3) })) := Lib.hid (by unfold takes; simp only [if_neg hk5, if_neg hk3, if_neg hid, hfar]; simp)
  have hk5' : (e.kind == 5) = false := by simp [hk5]
  have hk3' : (e.kind == 3) = false := by simp [hk3]
  have hid' : (e.id == c.o.id) = false := by simp [hid]
  have hsub : IntKind.i64.wrap (3 - 1) = 2 := by rw [IntKind.wrap_i64]; omega
  have HN := Lib.hid hn
  clear hk5 hk3 hid hfar hn
  have HX0 := Lib.hid h
  have HG0 := Lib.hid hg
  have HE1 := Lib.hid (blk_new w (.cells e.row tEvt))
  have HX1 := Lib.hid (h.nil ((Only.refl Nil w).alloc (.cells e.row tEvt)))
  have HG1 := Lib.hid (hg.nil ((Only.refl Nil w).alloc (.cells e.row tEvt)))
  have HO1 := Lib.hid ((Only.refl (Ours C G v1 v2) w).alloc (.cells e.row tEvt))
  clear h hg
  go_enter Try.func50, Try.ntmps50
  unfold Ev.row
  go_upto_region 1 with fail
  generalize hW : World.alloc w _ = W1
  have hW' : w.alloc (.cells e.row tEvt) = W1 := hW
  rw [hW'] at HE1 HX1 HG1 HO1
  clear hW hW'
  obtain ⟨a1, a2, a3, lC, g0, g1, g3, g7, g8, g9, g10, g11, g12, lG⟩ := mc_of HX1.out HG1.out
  have gf := fun k => blk_frozen HG1.out k
  obtain ⟨e0, e1, e2, e3, e4, e5, e6, e7, e8, e9, e10, e11, e12, ef, el⟩ := ev_cells HE1.out
  rw [hs] at g7
  go_upto_region 2 with fail
  generalize hW : World.setCell W1 _ _ = W2
  have hW' : W1.setCell ⟨G, 10, none⟩ (.bool true) = W2 := hW
  have HX2 : Hid (BkRep W2 C b v1 v2 p6 p7) := Lib.hid (by rw [← hW']; exact HX1.out.setG HG1.out _ _)
  have HE2 : Hid (W2.heap[w.heap.size]? = some (.cells e.row tEvt (0, 0))) := Lib.hid (by rw [← hW']; exact blk_far HE1.out (HG1.out.neG HE1.out (by decide)) _)
  have HO2 : Hid (Only (Ours C G v1 v2) w W2) := Lib.hid (by rw [← hW']; exact HO1.out.setCell (p := ⟨G, 10, none⟩) (.inl (.inr rfl)) _)
  have HG2 : Hid (CgAt W2 G { c with traded := true }) := Lib.hid (by rw [← hW']; exact HG1.out.s10 true)
  clear hW hW' a1 a2 a3 lC g0 g1 g3 g7 g8 g9 g10 g11 g12 lG gf e0 e1 e2 e3 e4 e5 e6 e7 e8 e9 e10 e11 e12 ef el HX1 HE1 HO1 HG1
  obtain ⟨a1, a2, a3, lC, g0, g1, g3, g7, g8, g9, g10, g11, g12, lG⟩ := mc_of HX2.out HG2.out
  have gf := fun k => blk_frozen HG2.out k
  obtain ⟨e0, e1, e2, e3, e4, e5, e6, e7, e8, e9, e10, e11, e12, ef, el⟩ := ev_cells HE2.out
  rw [hs] at g7
  go_upto_region 21 with fail
  go_quiet (fail)
  have HGd : Hid (CgAt (W2.drewN nq) G { c with traded := true }) := Lib.hid (HG2.out.nil ((Only.refl Nil _).drewN _))
  have HXd : Hid (BkRep (W2.drewN nq) C b v1 v2 p6 p7) := Lib.hid (HX2.out.nil ((Only.refl Nil _).drewN _))
  have HOd : Hid (Only (Ours C G v1 v2) w (W2.drewN nq)) := Lib.hid (HO2.out.drewN _)
  clear a1 a2 a3 lC g0 g1 g3 g7 g8 g9 g10 g11 g12 lG gf e0 e1 e2 e3 e4 e5 e6 e7 e8 e9 e10 e11 e12 ef el HX2 HE2 HO2 HG2
  go_wp2_with fail
  refine (gone_any C 0 2 b v1 v2 p6 p7 _ HXd.out (by omega) HN.out).mono ?_
  rintro x W3 ⟨rfl, v1', v2', hx, hf1, hf2, ho⟩
  have hfr : Fresh w C v1 v2 v1' v2' := gone_fresh hf1 hf2
  have hGd : ¬ Mine C v1 v2 G := by
    have hgd := HGd.out
    unfold CgAt at hgd
    intro hm
    rcases hm with hm | hm | hm
    · exact blk_ne HXd.out.blk hgd (by decide) hm.symm
    · exact own_blk_ne HXd.out.r1 hgd (by decide) hm
    · exact own_blk_ne HXd.out.r2 hgd (by decide) hm
  have HG3 : Hid (CgAt W3 G { c with traded := true }) := Lib.hid (ho.blk HGd.out hGd)
  have HO3 : Hid (Only (Ours C G v1 v2) w W3) := Lib.hid (HOd.out.trans ho (fun k _ hk => .inl hk))
  have HX3 := Lib.hid hx
  have HF := Lib.hid hfr
  clear hx hf1 hf2 ho hfr hGd HGd HXd HOd
  obtain ⟨a1, a2, a3, lC, g0, g1, g3, g7, g8, g9, g10, g11, g12, lG⟩ := mc_of HX3.out HG3.out
  have gf := fun k => blk_frozen HG3.out k
  have hmm : (b.set 2 ((b.side 2).eraseIdx 0)).meet = b.meet := (b.set_fields _ _).2.1
  rw [hmm] at a1
  go_wp2
  go_end0
  rw [HT.out]
  exact ⟨rfl, v1', v2', HX3.out.setG HG3.out _ _, HG3.out.s12 _, HF.out, HO3.out.setCell (p := ⟨G, 12, none⟩) (.inl (.inr rfl)) _⟩

set_option maxHeartbeats 1600000 in
set_option maxRecDepth 100000 in
theorem takes_fresh1 (C G : Nat) (b : Bk) (c : Cg) (v1 v2 p6 p7 : Value) (e : Ev) (w : World) (h : BkRep w C b v1 v2 p6 p7) (hg : CgAt w G c) (hb : b.ok) (hs : c.side = 1) (hk5 : e.kind = 5) (r : Rs) (l : List Rs) (hd : b.side 2 = r :: l) (hid : e.id = r.id) (hq : 0 ≤ e.qty ∧ e.qty ≤ r.hid) (hr : r.hid ≤ 4294967295) (hcn : b.count ≤ 1000000) :
    Calls Try.prog 50 #[.pointer (some ⟨C, 0, none⟩), .pointer (some ⟨G, 0, none⟩), .agg e.row] w fun r w' => r = .returned (.tuple #[]) ∧ ∃ v1' v2', BkRep w' C (takes b c e).1 v1' v2' p6 p7 ∧ CgAt w' G (takes b c e).2 ∧ Fresh w C v1 v2 v1' v2' ∧ Only (Ours C G v1 v2) w w' := by
  have hfar : far c.side = 2 := by rw [hs]; rfl
  have HT : Hid (takes b c e = (b.set 2 (rests 2 { r with vis := e.qty, hid := r.hid - e.qty } l), { c with traded := true, empty := 0 })) := Lib.hid (by unfold takes; simp only [if_pos hk5, hfar, hd])
  have hk5' : (e.kind == 5) = true := by simp [hk5]
  have hsub : IntKind.i64.wrap (3 - 1) = 2 := by rw [IntKind.wrap_i64]; omega
  have hsub2 : IntKind.i64.wrap 1 = 1 := by rw [IntKind.wrap_i64]; omega
  have hw1 : IntKind.u64.wrap (r.hid - e.qty) = r.hid - e.qty := by rw [IntKind.wrap_u64]; omega
  have hd' : b.sells = r :: l := hd
  have hfind : b.find e.id = some (2, 0) := by rw [hid]; exact find_first hb (by omega) hd
  obtain ⟨g, cp, rfl, hgl, hnc, hcm⟩ := own_row h.r2 (by rw [hd']; simp)
  have Hd := Lib.hid hd'
  have Hn : Hid (0 < (b.side 2).length) := Lib.hid (by rw [hd]; simp)
  have HX := Lib.hid h
  have Hfx : Hid (∀ W, BkRep W C b v1 (.slice (some ⟨g, 0, none⟩) b.sells.length cp) p6 p7 → Calls Try.prog 51 #[.pointer (some ⟨C, 0, none⟩), .int .u64 e.id] W fun e w' => e = .returned (.tuple #[.int .i64 2, .int .i64 0, .bool true]) ∧ Only Nil W w') := Lib.hid (fun W hW => by
    have := find_any e.id C b v1 (.slice (some ⟨g, 0, none⟩) b.sells.length cp) p6 p7 W hW
    rw [hfind] at this
    exact this)
  have hni : (0 : Int) < (b.sells.length : Int) := by rw [hd']; simp
  have hni2 : 0 < b.sells.length := by rw [hd']; simp
  have hb' : ((b.side 2).eraseIdx 0) = l := by rw [hd]; rfl
  have Hb' := Lib.hid hb'
  have Hcn : Hid ((b.set 2 l).count ≤ 1000000) := Lib.hid (by
    unfold Bk.count at hcn ⊢
    unfold Bk.set
    have h1 : b.sells.length = l.length + 1 := by rw [hd']; rfl
    simp
    omega)
  clear hk5 hfar hd hd' hq hr hgl hfind hid hb' hcn
  have HX0 := Lib.hid h
  have HG0 := Lib.hid hg
  have HE1 := Lib.hid (blk_new w (.cells e.row tEvt))
  have HX1 := Lib.hid (h.nil ((Only.refl Nil w).alloc (.cells e.row tEvt)))
  have HG1 := Lib.hid (hg.nil ((Only.refl Nil w).alloc (.cells e.row tEvt)))
  have HO1 := Lib.hid ((Only.refl (Ours C G v1 (.slice (some ⟨g, 0, none⟩) b.sells.length cp)) w).alloc (.cells e.row tEvt))
  clear h hg
  go_enter Try.func50, Try.ntmps50
  unfold Ev.row
  go_upto_region 1 with fail
  generalize hW : World.alloc w _ = W1
  have hW' : w.alloc (.cells e.row tEvt) = W1 := hW
  rw [hW'] at HE1 HX1 HG1 HO1
  clear hW hW'
  obtain ⟨a1, a2, a3, lC, g0, g1, g3, g7, g8, g9, g10, g11, g12, lG⟩ := mc_of HX1.out HG1.out
  have gf := fun k => blk_frozen HG1.out k
  obtain ⟨e0, e1, e2, e3, e4, e5, e6, e7, e8, e9, e10, e11, e12, ef, el⟩ := ev_cells HE1.out
  rw [hs] at g7
  go_upto_region 2 with fail
  generalize hW : World.setCell W1 _ _ = W2
  have hW' : W1.setCell ⟨G, 10, none⟩ (.bool true) = W2 := hW
  have HX2 : Hid (BkRep W2 C b v1 (.slice (some ⟨g, 0, none⟩) b.sells.length cp) p6 p7) := Lib.hid (by rw [← hW']; exact HX1.out.setG HG1.out _ _)
  have HE2 : Hid (W2.heap[w.heap.size]? = some (.cells e.row tEvt (0, 0))) := Lib.hid (by rw [← hW']; exact blk_far HE1.out (HG1.out.neG HE1.out (by decide)) _)
  have HO2 : Hid (Only (Ours C G v1 (.slice (some ⟨g, 0, none⟩) b.sells.length cp)) w W2) := Lib.hid (by rw [← hW']; exact HO1.out.setCell (p := ⟨G, 10, none⟩) (.inl (.inr rfl)) _)
  have HG2 : Hid (CgAt W2 G { c with traded := true }) := Lib.hid (by rw [← hW']; exact HG1.out.s10 true)
  clear hW hW' a1 a2 a3 lC g0 g1 g3 g7 g8 g9 g10 g11 g12 lG gf e0 e1 e2 e3 e4 e5 e6 e7 e8 e9 e10 e11 e12 ef el HX1 HE1 HO1 HG1
  obtain ⟨a1, a2, a3, lC, g0, g1, g3, g7, g8, g9, g10, g11, g12, lG⟩ := mc_of HX2.out HG2.out
  have gf := fun k => blk_frozen HG2.out k
  obtain ⟨e0, e1, e2, e3, e4, e5, e6, e7, e8, e9, e10, e11, e12, ef, el⟩ := ev_cells HE2.out
  rw [hs] at g7
  go_wp2_with fail
  refine (Hfx.out _ HX2.out).mono ?_
  rintro x W3 ⟨rfl, ho⟩
  have HX3 := Lib.hid (HX2.out.nil ho)
  have HE3 : Hid (W3.heap[w.heap.size]? = some (.cells e.row tEvt (0, 0))) := Lib.hid (ho.blk HE2.out (fun h => h))
  have HG3 := Lib.hid (HG2.out.nil ho)
  have HO3 : Hid (Only (Ours C G v1 (.slice (some ⟨g, 0, none⟩) b.sells.length cp)) w W3) := Lib.hid (HO2.out.trans ho (fun _ _ h => h.elim))
  clear a1 a2 a3 lC g0 g1 g3 g7 g8 g9 g10 g11 g12 lG gf e0 e1 e2 e3 e4 e5 e6 e7 e8 e9 e10 e11 e12 ef el HX2 HE2 HO2 HG2 ho
  obtain ⟨a1, a2, a3, lC, g0, g1, g3, g7, g8, g9, g10, g11, g12, lG⟩ := mc_of HX3.out HG3.out
  have gf := fun k => blk_frozen HG3.out k
  obtain ⟨e0, e1, e2, e3, e4, e5, e6, e7, e8, e9, e10, e11, e12, ef, el⟩ := ev_cells HE3.out
  rw [hs] at g7
  have q := fun k (hk : k < 7) => row_at HX3.out.r2 (i := 0) (r := r) (by rw [Hd.out]; rfl) k hk
  have q0 := q 0 (by omega)
  have q1 := q 1 (by omega)
  have q2 := q 2 (by omega)
  have q3 := q 3 (by omega)
  have q4 := q 4 (by omega)
  have q5 := q 5 (by omega)
  have q6 := q 6 (by omega)
  have gl : g < W3.heap.size := own_lt HX3.out.r2 rfl
  simp only [Rs.cells, Nat.zero_mul, Nat.zero_add, List.getElem?_cons_zero, List.getElem?_cons_succ] at q0 q1 q2 q3 q4 q5 q6
  clear q
  go_upto_region 8 with fail
  generalize hW : World.alloc W3 _ = W4
  have hW' : W3.alloc (.cells r.row tR) = W4 := hW
  have ho4 : Only Nil W3 W4 := by rw [← hW']; exact (Only.refl _ _).alloc _
  have HT4 : Hid (W4.heap[W3.heap.size]? = some (.cells r.row tR (0, 0))) := Lib.hid (by rw [← hW']; exact blk_new _ _)
  have HX4 := Lib.hid (HX3.out.nil ho4)
  have HE4 : Hid (W4.heap[w.heap.size]? = some (.cells e.row tEvt (0, 0))) := Lib.hid (ho4.blk HE3.out (fun h => h))
  have HG4 := Lib.hid (HG3.out.nil ho4)
  have HO4 : Hid (Only (Ours C G v1 (.slice (some ⟨g, 0, none⟩) b.sells.length cp)) w W4) := Lib.hid (HO3.out.trans ho4 (fun _ _ h => h.elim))
  have hTw : w.heap.size ≤ W3.heap.size := HO3.out.size
  have HTn := Lib.hid (fun k (hk : Mine C v1 (.slice (some ⟨g, 0, none⟩) b.sells.length cp) k) => (show k < W3.heap.size from by
    rcases hk with hk | hk | hk
    · exact hk ▸ blk_lt HX3.out.blk
    · exact own_lt HX3.out.r1 hk
    · exact own_lt HX3.out.r2 hk))
  have hGT : G < W3.heap.size := by
    have hgd := HG3.out
    unfold CgAt at hgd
    exact blk_lt hgd
  have hET : w.heap.size < W3.heap.size := blk_lt HE3.out
  clear hW hW' ho4 a1 a2 a3 lC g0 g1 g3 g7 g8 g9 g10 g11 g12 lG gf e0 e1 e2 e3 e4 e5 e6 e7 e8 e9 e10 e11 e12 ef el q0 q1 q2 q3 q4 q5 q6 gl HX3 HE3 HG3 HO3
  generalize W3.heap.size = T at *
  go_wp2_with fail
  refine (gone_any C 0 2 b _ _ p6 p7 _ HX4.out (by omega) Hn.out).mono ?_
  rintro x W5 ⟨rfl, u1, u2, hx, hf1, hf2, ho⟩
  rw [Hb'.out] at hx
  have hfr : Fresh w C v1 (.slice (some ⟨g, 0, none⟩) b.sells.length cp) u1 u2 := gone_fresh hf1 hf2
  have hnot : ∀ k, T ≤ k → ¬ Mine C v1 (.slice (some ⟨g, 0, none⟩) b.sells.length cp) k := fun k hk hm => by have := HTn.out k hm; omega
  have hGd : ¬ Mine C v1 (.slice (some ⟨g, 0, none⟩) b.sells.length cp) G := by
    have hgd := HG4.out
    unfold CgAt at hgd
    intro hm
    rcases hm with hm | hm | hm
    · exact blk_ne HX4.out.blk hgd (by decide) hm.symm
    · exact own_blk_ne HX4.out.r1 hgd (by decide) hm
    · exact own_blk_ne HX4.out.r2 hgd (by decide) hm
  have hEd : ¬ Mine C v1 (.slice (some ⟨g, 0, none⟩) b.sells.length cp) w.heap.size := by
    intro hm
    rcases hm with hm | hm | hm
    · exact blk_ne HX4.out.blk HE4.out (by decide) hm.symm
    · exact own_blk_ne HX4.out.r1 HE4.out (by decide) hm
    · exact own_blk_ne HX4.out.r2 HE4.out (by decide) hm
  have HG5 : Hid (CgAt W5 G { c with traded := true }) := Lib.hid (ho.blk HG4.out hGd)
  have HE5 : Hid (W5.heap[w.heap.size]? = some (.cells e.row tEvt (0, 0))) := Lib.hid (ho.blk HE4.out hEd)
  have HT5 : Hid (W5.heap[T]? = some (.cells r.row tR (0, 0))) := Lib.hid (ho.blk HT4.out (hnot T (Nat.le_refl _)))
  have HO5 : Hid (Only (Ours C G v1 (.slice (some ⟨g, 0, none⟩) b.sells.length cp)) w W5) := Lib.hid (HO4.out.trans ho (fun k _ hk => .inl hk))
  have HX5 := Lib.hid hx
  have HF5 := Lib.hid hfr
  have HM5 : Hid (∀ k, Mine C u1 u2 k → k < T) := Lib.hid (fun k hk => HTn.out k (by unfold Mine at *; rw [hf1, hf2] at hk; exact hk))
  clear hx hf1 hf2 ho hfr hGd hEd hnot HX4 HE4 HT4 HG4 HO4 HTn
  obtain ⟨e0, e1, e2, e3, e4, e5, e6, e7, e8, e9, e10, e11, e12, ef, el⟩ := ev_cells HE5.out
  obtain ⟨t0, t1, t2, t3, t4, t5, t6, tl⟩ := rs_cells HT5.out
  have tf := fun k => blk_frozen HT5.out k
  have hTE : T ≠ w.heap.size := by omega
  have hET2 : w.heap.size ≠ T := by omega
  go_upto_region 11 with fail
  generalize hW : World.setCell (World.setCell W5 _ _) _ _ = W6
  have hW' : (W5.setCell ⟨T, 4, none⟩ (.int .u64 e.qty)).setCell ⟨T, 5, none⟩ (.int .u64 (r.hid - e.qty)) = W6 := hW
  have hT6 : W6.heap[T]? = some (.cells (Rs.row { r with vis := e.qty, hid := r.hid - e.qty }) tR (0, 0)) := by
    rw [← hW']
    have := blk_set (blk_set HT5.out 4 (.int .u64 e.qty)) 5 (.int .u64 (r.hid - e.qty))
    exact this
  have ho6 : Only (fun k => k = T) W5 W6 := by rw [← hW']; exact ((Only.refl (fun k => k = T) W5).setCell (p := ⟨T, 4, none⟩) (.inl rfl) _).setCell (p := ⟨T, 5, none⟩) (.inl rfl) _
  have HX6 : Hid (BkRep W6 C (b.set 2 l) u1 u2 p6 p7) := Lib.hid ⟨ho6.blk HX5.out.blk (fun q => by have := HM5.out C (.inl rfl); omega), own_only HX5.out.r1 ho6 (fun k hk q => by have := HM5.out k (.inr (.inl hk)); omega), own_only HX5.out.r2 ho6 (fun k hk q => by have := HM5.out k (.inr (.inr hk)); omega), HX5.out.ne⟩
  have HG6 : Hid (CgAt W6 G { c with traded := true }) := Lib.hid (ho6.blk HG5.out (fun q => by omega))
  have HO6 : Hid (Only (Ours C G v1 (.slice (some ⟨g, 0, none⟩) b.sells.length cp)) w W6) := Lib.hid ((HO5.out.trans (T := fun k => k = T) ho6 (fun k hk q => by omega)))
  have HT6 := Lib.hid hT6
  have h56 := ho6.size
  clear hW hW' hT6 ho6 e0 e1 e2 e3 e4 e5 e6 e7 e8 e9 e10 e11 e12 ef el t0 t1 t2 t3 t4 t5 t6 tl tf HX5 HE5 HT5 HG5 HO5
  obtain ⟨t0, t1, t2, t3, t4, t5, t6, tl⟩ := rs_cells HT6.out
  go_wp2_with fail
  refine (rests_any C 2 (b.set 2 l) { r with vis := e.qty, hid := r.hid - e.qty } u1 u2 p6 p7 _ HX6.out (by omega) Hcn.out).mono ?_
  rintro x W7 ⟨rfl, v1', v2', hx, hf7, ho7⟩
  rw [Bk.side_set, Bk.set_set] at hx
  have hGd : ¬ Mine C u1 u2 G := by
    have hgd := HG6.out
    unfold CgAt at hgd
    intro hm
    rcases hm with hm | hm | hm
    · exact blk_ne HX6.out.blk hgd (by decide) hm.symm
    · exact own_blk_ne HX6.out.r1 hgd (by decide) hm
    · exact own_blk_ne HX6.out.r2 hgd (by decide) hm
  have HG7 : Hid (CgAt W7 G { c with traded := true }) := Lib.hid (ho7.blk HG6.out hGd)
  have HX7 := Lib.hid hx
  have HO7 : Hid (Only (Ours C G v1 (.slice (some ⟨g, 0, none⟩) b.sells.length cp)) w W7) := Lib.hid (HO6.out.trans ho7 (fun k hk hm => by
    rcases HF5.out k hm with q | q
    · exact .inl q
    · omega))
  have HF7 : Hid (Fresh w C v1 (.slice (some ⟨g, 0, none⟩) b.sells.length cp) v1' v2') := Lib.hid (HF5.out.trans hf7 HO6.out.size)
  clear hx hf7 ho7 hGd t0 t1 t2 t3 t4 t5 t6 tl
  obtain ⟨a1, a2, a3, lC, g0, g1, g3, g7, g8, g9, g10, g11, g12, lG⟩ := mc_of HX7.out HG7.out
  have gf := fun k => blk_frozen HG7.out k
  go_wp2
  go_end0
  rw [HT.out]
  exact ⟨rfl, v1', v2', HX7.out.setG HG7.out _ _, HG7.out.s11 0, HF7.out, HO7.out.setCell (p := ⟨G, 11, none⟩) (.inl (.inr rfl)) _⟩

set_option maxHeartbeats 1600000 in
set_option maxRecDepth 100000 in
theorem takes_trade1a (C G : Nat) (b : Bk) (c : Cg) (v1 v2 p6 p7 : Value) (e : Ev) (w : World) (h : BkRep w C b v1 v2 p6 p7) (hg : CgAt w G c) (hs : c.side = 1) (hk3 : e.kind = 3) (r : Rs) (l : List Rs) (hd : b.side 2 = r :: l) (hq : 0 ≤ e.qty ∧ e.qty ≤ r.vis ∧ e.qty ≤ c.left) (hr : r.vis ≤ 4294967295) (hl : c.left ≤ 4294967295) (hz : r.vis - e.qty = 0) (hh : 0 < r.hid) :
    Calls Try.prog 50 #[.pointer (some ⟨C, 0, none⟩), .pointer (some ⟨G, 0, none⟩), .agg e.row] w fun r w' => r = .returned (.tuple #[]) ∧ ∃ v1' v2', BkRep w' C (takes b c e).1 v1' v2' p6 p7 ∧ CgAt w' G (takes b c e).2 ∧ Fresh w C v1 v2 v1' v2' ∧ Only (Ours C G v1 v2) w w' := by
  have hfar : far c.side = 2 := by rw [hs]; rfl
  have HT : Hid (takes b c e = (b.set 2 ({ r with vis := 0 } :: l), { c with traded := true, left := c.left - e.qty, empty := r.id })) := Lib.hid (by rw [takes_trade e hk3 (hfar ▸ hd), hfar]; rw [if_pos ⟨hz, hh⟩, hz])
  have hk5' : (e.kind == 5) = false := by simp [hk3]
  have hk3' : (e.kind == 3) = true := by simp [hk3]
  have hsub : IntKind.i64.wrap (3 - 1) = 2 := by rw [IntKind.wrap_i64]; omega
  have hsub2 : IntKind.i64.wrap 1 = 1 := by rw [IntKind.wrap_i64]; omega
  have hw1 : IntKind.u64.wrap (r.vis - e.qty) = 0 := by rw [IntKind.wrap_u64]; omega
  have hw2 : IntKind.u64.wrap (c.left - e.qty) = c.left - e.qty := by rw [IntKind.wrap_u64]; omega
  have hz1 : ((0 : Int) == 0) = true := rfl
  have hd' : b.sells = r :: l := hd
  obtain ⟨g, cp, rfl, hgl, hnc, hcm⟩ := own_row h.r2 (by rw [hd']; simp)
  have Hd := Lib.hid hd'
  have hni : (0 : Int) < (b.sells.length : Int) := by rw [hd']; simp
  have hni2 : 0 < b.sells.length := by rw [hd']; simp
  clear hk3 hfar hd hd' hq hz hr hl hgl
  have HX0 := Lib.hid h
  have HG0 := Lib.hid hg
  have HE1 := Lib.hid (blk_new w (.cells e.row tEvt))
  have HX1 := Lib.hid (h.nil ((Only.refl Nil w).alloc (.cells e.row tEvt)))
  have HG1 := Lib.hid (hg.nil ((Only.refl Nil w).alloc (.cells e.row tEvt)))
  have HO1 := Lib.hid ((Only.refl (Ours C G v1 (.slice (some ⟨g, 0, none⟩) b.sells.length cp)) w).alloc (.cells e.row tEvt))
  clear h hg
  go_enter Try.func50, Try.ntmps50
  unfold Ev.row
  go_upto_region 1 with fail
  generalize hW : World.alloc w _ = W1
  have hW' : w.alloc (.cells e.row tEvt) = W1 := hW
  rw [hW'] at HE1 HX1 HG1 HO1
  clear hW hW'
  obtain ⟨a1, a2, a3, lC, g0, g1, g3, g7, g8, g9, g10, g11, g12, lG⟩ := mc_of HX1.out HG1.out
  have gf := fun k => blk_frozen HG1.out k
  obtain ⟨e0, e1, e2, e3, e4, e5, e6, e7, e8, e9, e10, e11, e12, ef, el⟩ := ev_cells HE1.out
  rw [hs] at g7
  go_upto_region 2 with fail
  generalize hW : World.setCell W1 _ _ = W2
  have hW' : W1.setCell ⟨G, 10, none⟩ (.bool true) = W2 := hW
  have HX2 : Hid (BkRep W2 C b v1 (.slice (some ⟨g, 0, none⟩) b.sells.length cp) p6 p7) := Lib.hid (by rw [← hW']; exact HX1.out.setG HG1.out _ _)
  have HE2 : Hid (W2.heap[w.heap.size]? = some (.cells e.row tEvt (0, 0))) := Lib.hid (by rw [← hW']; exact blk_far HE1.out (HG1.out.neG HE1.out (by decide)) _)
  have HO2 : Hid (Only (Ours C G v1 (.slice (some ⟨g, 0, none⟩) b.sells.length cp)) w W2) := Lib.hid (by rw [← hW']; exact HO1.out.setCell (p := ⟨G, 10, none⟩) (.inl (.inr rfl)) _)
  have HG2 : Hid (CgAt W2 G { c with traded := true }) := Lib.hid (by rw [← hW']; exact HG1.out.s10 true)
  clear hW hW' a1 a2 a3 lC g0 g1 g3 g7 g8 g9 g10 g11 g12 lG gf e0 e1 e2 e3 e4 e5 e6 e7 e8 e9 e10 e11 e12 ef el HX1 HE1 HO1 HG1
  obtain ⟨a1, a2, a3, lC, g0, g1, g3, g7, g8, g9, g10, g11, g12, lG⟩ := mc_of HX2.out HG2.out
  have gf := fun k => blk_frozen HG2.out k
  obtain ⟨e0, e1, e2, e3, e4, e5, e6, e7, e8, e9, e10, e11, e12, ef, el⟩ := ev_cells HE2.out
  rw [hs] at g7
  have q := fun k (hk : k < 7) => row_at HX2.out.r2 (i := 0) (r := r) (by rw [Hd.out]; rfl) k hk
  have q4 := q 4 (by omega)
  have gl : g < W2.heap.size := own_lt HX2.out.r2 rfl
  have gz : W2.frozen? ⟨g, 4, none⟩ = false := by
    obtain ⟨cur, hcur⟩ := own_blkc HX2.out.r2
    exact blk_frozen hcur 4
  simp only [Rs.cells, Nat.zero_mul, Nat.zero_add, List.getElem?_cons_zero, List.getElem?_cons_succ] at q4
  clear q
  go_upto_region 15 with fail
  go_still_tail 9, (by kernel_rfl)
  change wpList _ _ _ _ _ W2.drew
  go_upto_region 16 with fail
  generalize hW : World.drew (World.setCell W2 _ _) = W3
  have hW' : (W2.setCell ⟨g, 4, none⟩ (.int .u64 (0))).drew = W3 := hW
  have hgE : g ≠ w.heap.size := ob_ne' (own_blk_ne HX2.out.r2 HE2.out (by decide))
  have hgG : g ≠ G := by
    have hgd := HG2.out
    unfold CgAt at hgd
    exact ob_ne' (own_blk_ne HX2.out.r2 hgd (by decide))
  have HX3 : Hid (BkRep W3 C (b.set 2 ({ r with vis := 0 } :: l)) v1 (.slice (some ⟨g, 0, none⟩) b.sells.length cp) p6 p7) := Lib.hid (by rw [← hW']; exact (HX2.out.setVis2 Hd.out (0)).nil (Only.refl Nil _).drew)
  have HE3 : Hid (W3.heap[w.heap.size]? = some (.cells e.row tEvt (0, 0))) := Lib.hid (by rw [← hW']; exact blk_drew (blk_far HE2.out (fun x => hgE x.symm) _))
  have HG3 : Hid (CgAt W3 G { c with traded := true }) := Lib.hid (by rw [← hW']; exact blk_drew (blk_far HG2.out (fun x => hgG x.symm) _))
  have HO3 : Hid (Only (Ours C G v1 (.slice (some ⟨g, 0, none⟩) b.sells.length cp)) w W3) := Lib.hid (by rw [← hW']; exact (HO2.out.setCell (p := ⟨g, 4, none⟩) (.inl (.inl (.inr (.inr rfl)))) _).drew)
  clear hW hW' a1 a2 a3 lC g0 g1 g3 g7 g8 g9 g10 g11 g12 lG gf e0 e1 e2 e3 e4 e5 e6 e7 e8 e9 e10 e11 e12 ef el q4 gl gz HX2 HE2 HO2 HG2 hgE hgG hw1
  obtain ⟨a1, a2, a3, lC, g0, g1, g3, g7, g8, g9, g10, g11, g12, lG⟩ := mc_of HX3.out HG3.out
  have gf := fun k => blk_frozen HG3.out k
  obtain ⟨e0, e1, e2, e3, e4, e5, e6, e7, e8, e9, e10, e11, e12, ef, el⟩ := ev_cells HE3.out
  rw [hs] at g7
  go_still_tail 9, (by kernel_rfl)
  change wpList _ _ _ _ _ W3.drew
  go_upto_region 17 with fail
  generalize hW : World.drew (World.setCell W3 _ _) = W4
  have hW' : (W3.setCell ⟨G, 9, none⟩ (.int .u64 (c.left - e.qty))).drew = W4 := hW
  have HX4 : Hid (BkRep W4 C (b.set 2 ({ r with vis := 0 } :: l)) v1 (.slice (some ⟨g, 0, none⟩) b.sells.length cp) p6 p7) := Lib.hid (by rw [← hW']; exact (HX3.out.setG HG3.out _ _).nil (Only.refl Nil _).drew)
  have HG4 : Hid (CgAt W4 G { c with traded := true, left := c.left - e.qty }) := Lib.hid (by rw [← hW']; exact (HG3.out.s9 _).nil (Only.refl Nil _).drew)
  have HO4 : Hid (Only (Ours C G v1 (.slice (some ⟨g, 0, none⟩) b.sells.length cp)) w W4) := Lib.hid (by rw [← hW']; exact (HO3.out.setCell (p := ⟨G, 9, none⟩) (.inl (.inr rfl)) _).drew)
  clear hW hW' a1 a2 a3 lC g0 g1 g3 g7 g8 g9 g10 g11 g12 lG gf e0 e1 e2 e3 e4 e5 e6 e7 e8 e9 e10 e11 e12 ef el HX3 HE3 HO3 HG3 hw2
  obtain ⟨a1, a2, a3, lC, g0, g1, g3, g7, g8, g9, g10, g11, g12, lG⟩ := mc_of HX4.out HG4.out
  have gf := fun k => blk_frozen HG4.out k
  have hlen : (b.set 2 ({ r with vis := 0 } :: l)).sells.length = b.sells.length := by rw [Hd.out]; rfl
  have hr4 := HX4.out.r2
  rw [hlen] at hr4
  have HR4 := Lib.hid hr4
  clear hr4 hlen
  have q := fun k (hk : k < 7) => row_at (l := (b.set 2 ({ r with vis := 0 } :: l)).sells) (HR4.out) (i := 0) (r := { r with vis := 0 }) rfl k hk
  have q0 := q 0 (by omega)
  have q4 := q 4 (by omega)
  have q5 := q 5 (by omega)
  have gl : g < W4.heap.size := own_lt HR4.out rfl
  simp only [Rs.cells, Nat.zero_mul, Nat.zero_add, List.getElem?_cons_zero, List.getElem?_cons_succ] at q0 q4 q5
  clear q HR4
  go_wp2
  go_end0
  rw [HT.out]
  exact ⟨rfl, _, _, HX4.out.setG HG4.out _ _, HG4.out.s11 _, fun k hk => .inl hk, HO4.out.setCell (p := ⟨G, 11, none⟩) (.inl (.inr rfl)) _⟩

set_option maxHeartbeats 1600000 in
set_option maxRecDepth 100000 in
theorem takes_trade1b (C G : Nat) (b : Bk) (c : Cg) (v1 v2 p6 p7 : Value) (e : Ev) (w : World) (h : BkRep w C b v1 v2 p6 p7) (hg : CgAt w G c) (hs : c.side = 1) (hk3 : e.kind = 3) (r : Rs) (l : List Rs) (hd : b.side 2 = r :: l) (hq : 0 ≤ e.qty ∧ e.qty ≤ r.vis ∧ e.qty ≤ c.left) (hr : r.vis ≤ 4294967295) (hl : c.left ≤ 4294967295) (hz : r.vis - e.qty = 0) (hh : ¬ 0 < r.hid) :
    Calls Try.prog 50 #[.pointer (some ⟨C, 0, none⟩), .pointer (some ⟨G, 0, none⟩), .agg e.row] w fun r w' => r = .returned (.tuple #[]) ∧ ∃ v1' v2', BkRep w' C (takes b c e).1 v1' v2' p6 p7 ∧ CgAt w' G (takes b c e).2 ∧ Fresh w C v1 v2 v1' v2' ∧ Only (Ours C G v1 v2) w w' := by
  have hfar : far c.side = 2 := by rw [hs]; rfl
  have HT : Hid (takes b c e = (b.set 2 l, { c with traded := true, left := c.left - e.qty })) := Lib.hid (by rw [takes_trade e hk3 (hfar ▸ hd), hfar]; rw [if_neg (fun q => hh q.2), if_pos hz])
  have hk5' : (e.kind == 5) = false := by simp [hk3]
  have hk3' : (e.kind == 3) = true := by simp [hk3]
  have hsub : IntKind.i64.wrap (3 - 1) = 2 := by rw [IntKind.wrap_i64]; omega
  have hsub2 : IntKind.i64.wrap 1 = 1 := by rw [IntKind.wrap_i64]; omega
  have hw1 : IntKind.u64.wrap (r.vis - e.qty) = 0 := by rw [IntKind.wrap_u64]; omega
  have hw2 : IntKind.u64.wrap (c.left - e.qty) = c.left - e.qty := by rw [IntKind.wrap_u64]; omega
  have hz1 : ((0 : Int) == 0) = true := rfl
  have hd' : b.sells = r :: l := hd
  obtain ⟨g, cp, rfl, hgl, hnc, hcm⟩ := own_row h.r2 (by rw [hd']; simp)
  have Hd := Lib.hid hd'
  have hni : (0 : Int) < (b.sells.length : Int) := by rw [hd']; simp
  have hni2 : 0 < b.sells.length := by rw [hd']; simp
  clear hk3 hfar hd hd' hq hz hr hl hgl
  have HX0 := Lib.hid h
  have HG0 := Lib.hid hg
  have HE1 := Lib.hid (blk_new w (.cells e.row tEvt))
  have HX1 := Lib.hid (h.nil ((Only.refl Nil w).alloc (.cells e.row tEvt)))
  have HG1 := Lib.hid (hg.nil ((Only.refl Nil w).alloc (.cells e.row tEvt)))
  have HO1 := Lib.hid ((Only.refl (Ours C G v1 (.slice (some ⟨g, 0, none⟩) b.sells.length cp)) w).alloc (.cells e.row tEvt))
  clear h hg
  go_enter Try.func50, Try.ntmps50
  unfold Ev.row
  go_upto_region 1 with fail
  generalize hW : World.alloc w _ = W1
  have hW' : w.alloc (.cells e.row tEvt) = W1 := hW
  rw [hW'] at HE1 HX1 HG1 HO1
  clear hW hW'
  obtain ⟨a1, a2, a3, lC, g0, g1, g3, g7, g8, g9, g10, g11, g12, lG⟩ := mc_of HX1.out HG1.out
  have gf := fun k => blk_frozen HG1.out k
  obtain ⟨e0, e1, e2, e3, e4, e5, e6, e7, e8, e9, e10, e11, e12, ef, el⟩ := ev_cells HE1.out
  rw [hs] at g7
  go_upto_region 2 with fail
  generalize hW : World.setCell W1 _ _ = W2
  have hW' : W1.setCell ⟨G, 10, none⟩ (.bool true) = W2 := hW
  have HX2 : Hid (BkRep W2 C b v1 (.slice (some ⟨g, 0, none⟩) b.sells.length cp) p6 p7) := Lib.hid (by rw [← hW']; exact HX1.out.setG HG1.out _ _)
  have HE2 : Hid (W2.heap[w.heap.size]? = some (.cells e.row tEvt (0, 0))) := Lib.hid (by rw [← hW']; exact blk_far HE1.out (HG1.out.neG HE1.out (by decide)) _)
  have HO2 : Hid (Only (Ours C G v1 (.slice (some ⟨g, 0, none⟩) b.sells.length cp)) w W2) := Lib.hid (by rw [← hW']; exact HO1.out.setCell (p := ⟨G, 10, none⟩) (.inl (.inr rfl)) _)
  have HG2 : Hid (CgAt W2 G { c with traded := true }) := Lib.hid (by rw [← hW']; exact HG1.out.s10 true)
  clear hW hW' a1 a2 a3 lC g0 g1 g3 g7 g8 g9 g10 g11 g12 lG gf e0 e1 e2 e3 e4 e5 e6 e7 e8 e9 e10 e11 e12 ef el HX1 HE1 HO1 HG1
  obtain ⟨a1, a2, a3, lC, g0, g1, g3, g7, g8, g9, g10, g11, g12, lG⟩ := mc_of HX2.out HG2.out
  have gf := fun k => blk_frozen HG2.out k
  obtain ⟨e0, e1, e2, e3, e4, e5, e6, e7, e8, e9, e10, e11, e12, ef, el⟩ := ev_cells HE2.out
  rw [hs] at g7
  have q := fun k (hk : k < 7) => row_at HX2.out.r2 (i := 0) (r := r) (by rw [Hd.out]; rfl) k hk
  have q4 := q 4 (by omega)
  have gl : g < W2.heap.size := own_lt HX2.out.r2 rfl
  have gz : W2.frozen? ⟨g, 4, none⟩ = false := by
    obtain ⟨cur, hcur⟩ := own_blkc HX2.out.r2
    exact blk_frozen hcur 4
  simp only [Rs.cells, Nat.zero_mul, Nat.zero_add, List.getElem?_cons_zero, List.getElem?_cons_succ] at q4
  clear q
  go_upto_region 15 with fail
  go_still_tail 9, (by kernel_rfl)
  change wpList _ _ _ _ _ W2.drew
  go_upto_region 16 with fail
  generalize hW : World.drew (World.setCell W2 _ _) = W3
  have hW' : (W2.setCell ⟨g, 4, none⟩ (.int .u64 (0))).drew = W3 := hW
  have hgE : g ≠ w.heap.size := ob_ne' (own_blk_ne HX2.out.r2 HE2.out (by decide))
  have hgG : g ≠ G := by
    have hgd := HG2.out
    unfold CgAt at hgd
    exact ob_ne' (own_blk_ne HX2.out.r2 hgd (by decide))
  have HX3 : Hid (BkRep W3 C (b.set 2 ({ r with vis := 0 } :: l)) v1 (.slice (some ⟨g, 0, none⟩) b.sells.length cp) p6 p7) := Lib.hid (by rw [← hW']; exact (HX2.out.setVis2 Hd.out (0)).nil (Only.refl Nil _).drew)
  have HE3 : Hid (W3.heap[w.heap.size]? = some (.cells e.row tEvt (0, 0))) := Lib.hid (by rw [← hW']; exact blk_drew (blk_far HE2.out (fun x => hgE x.symm) _))
  have HG3 : Hid (CgAt W3 G { c with traded := true }) := Lib.hid (by rw [← hW']; exact blk_drew (blk_far HG2.out (fun x => hgG x.symm) _))
  have HO3 : Hid (Only (Ours C G v1 (.slice (some ⟨g, 0, none⟩) b.sells.length cp)) w W3) := Lib.hid (by rw [← hW']; exact (HO2.out.setCell (p := ⟨g, 4, none⟩) (.inl (.inl (.inr (.inr rfl)))) _).drew)
  clear hW hW' a1 a2 a3 lC g0 g1 g3 g7 g8 g9 g10 g11 g12 lG gf e0 e1 e2 e3 e4 e5 e6 e7 e8 e9 e10 e11 e12 ef el q4 gl gz HX2 HE2 HO2 HG2 hgE hgG hw1
  obtain ⟨a1, a2, a3, lC, g0, g1, g3, g7, g8, g9, g10, g11, g12, lG⟩ := mc_of HX3.out HG3.out
  have gf := fun k => blk_frozen HG3.out k
  obtain ⟨e0, e1, e2, e3, e4, e5, e6, e7, e8, e9, e10, e11, e12, ef, el⟩ := ev_cells HE3.out
  rw [hs] at g7
  go_still_tail 9, (by kernel_rfl)
  change wpList _ _ _ _ _ W3.drew
  go_upto_region 17 with fail
  generalize hW : World.drew (World.setCell W3 _ _) = W4
  have hW' : (W3.setCell ⟨G, 9, none⟩ (.int .u64 (c.left - e.qty))).drew = W4 := hW
  have HX4 : Hid (BkRep W4 C (b.set 2 ({ r with vis := 0 } :: l)) v1 (.slice (some ⟨g, 0, none⟩) b.sells.length cp) p6 p7) := Lib.hid (by rw [← hW']; exact (HX3.out.setG HG3.out _ _).nil (Only.refl Nil _).drew)
  have HG4 : Hid (CgAt W4 G { c with traded := true, left := c.left - e.qty }) := Lib.hid (by rw [← hW']; exact (HG3.out.s9 _).nil (Only.refl Nil _).drew)
  have HO4 : Hid (Only (Ours C G v1 (.slice (some ⟨g, 0, none⟩) b.sells.length cp)) w W4) := Lib.hid (by rw [← hW']; exact (HO3.out.setCell (p := ⟨G, 9, none⟩) (.inl (.inr rfl)) _).drew)
  clear hW hW' a1 a2 a3 lC g0 g1 g3 g7 g8 g9 g10 g11 g12 lG gf e0 e1 e2 e3 e4 e5 e6 e7 e8 e9 e10 e11 e12 ef el HX3 HE3 HO3 HG3 hw2
  obtain ⟨a1, a2, a3, lC, g0, g1, g3, g7, g8, g9, g10, g11, g12, lG⟩ := mc_of HX4.out HG4.out
  have gf := fun k => blk_frozen HG4.out k
  have hlen : (b.set 2 ({ r with vis := 0 } :: l)).sells.length = b.sells.length := by rw [Hd.out]; rfl
  have hr4 := HX4.out.r2
  rw [hlen] at hr4
  have HR4 := Lib.hid hr4
  clear hr4 hlen
  have q := fun k (hk : k < 7) => row_at (l := (b.set 2 ({ r with vis := 0 } :: l)).sells) (HR4.out) (i := 0) (r := { r with vis := 0 }) rfl k hk
  have q0 := q 0 (by omega)
  have q4 := q 4 (by omega)
  have q5 := q 5 (by omega)
  have gl : g < W4.heap.size := own_lt HR4.out rfl
  simp only [Rs.cells, Nat.zero_mul, Nat.zero_add, List.getElem?_cons_zero, List.getElem?_cons_succ] at q0 q4 q5
  clear q HR4
  go_wp2_with fail
  refine (gone_any C 0 2 _ _ _ p6 p7 _ HX4.out (by omega) (by rw [Bk.side_set]; simp)).mono ?_
  rintro x W5 ⟨rfl, v1', v2', hx, hf1, hf2, ho⟩
  have hfr : Fresh w C v1 (.slice (some ⟨g, 0, none⟩) b.sells.length cp) v1' v2' := gone_fresh hf1 hf2
  have hGd : ¬ Mine C v1 (.slice (some ⟨g, 0, none⟩) b.sells.length cp) G := by
    have hgd := HG4.out
    unfold CgAt at hgd
    intro hm
    rcases hm with hm | hm | hm
    · exact blk_ne HX4.out.blk hgd (by decide) hm.symm
    · exact own_blk_ne HX4.out.r1 hgd (by decide) hm
    · exact own_blk_ne HX4.out.r2 hgd (by decide) hm
  have HG5 : Hid (CgAt W5 G { c with traded := true, left := c.left - e.qty }) := Lib.hid (ho.blk HG4.out hGd)
  have HO5 : Hid (Only (Ours C G v1 (.slice (some ⟨g, 0, none⟩) b.sells.length cp)) w W5) := Lib.hid (HO4.out.trans ho (fun k _ hk => .inl hk))
  rw [Bk.side_set, Bk.set_set, erase_first] at hx
  have HX5 := Lib.hid hx
  have HF := Lib.hid hfr
  clear hx hf1 hf2 ho hfr hGd a1 a2 a3 lC g0 g1 g3 g7 g8 g9 g10 g11 g12 lG gf q0 q4 q5 gl
  go_wp2
  go_end0
  rw [HT.out]
  exact ⟨rfl, v1', v2', HX5.out, HG5.out, HF.out, HO5.out⟩

set_option maxHeartbeats 1600000 in
set_option maxRecDepth 100000 in
theorem takes_trade1c (C G : Nat) (b : Bk) (c : Cg) (v1 v2 p6 p7 : Value) (e : Ev) (w : World) (h : BkRep w C b v1 v2 p6 p7) (hg : CgAt w G c) (hs : c.side = 1) (hk3 : e.kind = 3) (r : Rs) (l : List Rs) (hd : b.side 2 = r :: l) (hq : 0 ≤ e.qty ∧ e.qty ≤ r.vis ∧ e.qty ≤ c.left) (hr : r.vis ≤ 4294967295) (hl : c.left ≤ 4294967295) (hz : r.vis - e.qty ≠ 0) :
    Calls Try.prog 50 #[.pointer (some ⟨C, 0, none⟩), .pointer (some ⟨G, 0, none⟩), .agg e.row] w fun r w' => r = .returned (.tuple #[]) ∧ ∃ v1' v2', BkRep w' C (takes b c e).1 v1' v2' p6 p7 ∧ CgAt w' G (takes b c e).2 ∧ Fresh w C v1 v2 v1' v2' ∧ Only (Ours C G v1 v2) w w' := by
  have hfar : far c.side = 2 := by rw [hs]; rfl
  have HT : Hid (takes b c e = (b.set 2 ({ r with vis := r.vis - e.qty } :: l), { c with traded := true, left := c.left - e.qty })) := Lib.hid (by rw [takes_trade e hk3 (hfar ▸ hd), hfar]; rw [if_neg (fun q => hz q.1), if_neg hz])
  have hk5' : (e.kind == 5) = false := by simp [hk3]
  have hk3' : (e.kind == 3) = true := by simp [hk3]
  have hsub : IntKind.i64.wrap (3 - 1) = 2 := by rw [IntKind.wrap_i64]; omega
  have hsub2 : IntKind.i64.wrap 1 = 1 := by rw [IntKind.wrap_i64]; omega
  have hw1 : IntKind.u64.wrap (r.vis - e.qty) = r.vis - e.qty := by rw [IntKind.wrap_u64]; omega
  have hw2 : IntKind.u64.wrap (c.left - e.qty) = c.left - e.qty := by rw [IntKind.wrap_u64]; omega
  have hz1 : (r.vis - e.qty == 0) = false := by simp [hz]
  have hd' : b.sells = r :: l := hd
  obtain ⟨g, cp, rfl, hgl, hnc, hcm⟩ := own_row h.r2 (by rw [hd']; simp)
  have Hd := Lib.hid hd'
  have hni : (0 : Int) < (b.sells.length : Int) := by rw [hd']; simp
  have hni2 : 0 < b.sells.length := by rw [hd']; simp
  clear hk3 hfar hd hd' hq hz hr hl hgl
  have HX0 := Lib.hid h
  have HG0 := Lib.hid hg
  have HE1 := Lib.hid (blk_new w (.cells e.row tEvt))
  have HX1 := Lib.hid (h.nil ((Only.refl Nil w).alloc (.cells e.row tEvt)))
  have HG1 := Lib.hid (hg.nil ((Only.refl Nil w).alloc (.cells e.row tEvt)))
  have HO1 := Lib.hid ((Only.refl (Ours C G v1 (.slice (some ⟨g, 0, none⟩) b.sells.length cp)) w).alloc (.cells e.row tEvt))
  clear h hg
  go_enter Try.func50, Try.ntmps50
  unfold Ev.row
  go_upto_region 1 with fail
  generalize hW : World.alloc w _ = W1
  have hW' : w.alloc (.cells e.row tEvt) = W1 := hW
  rw [hW'] at HE1 HX1 HG1 HO1
  clear hW hW'
  obtain ⟨a1, a2, a3, lC, g0, g1, g3, g7, g8, g9, g10, g11, g12, lG⟩ := mc_of HX1.out HG1.out
  have gf := fun k => blk_frozen HG1.out k
  obtain ⟨e0, e1, e2, e3, e4, e5, e6, e7, e8, e9, e10, e11, e12, ef, el⟩ := ev_cells HE1.out
  rw [hs] at g7
  go_upto_region 2 with fail
  generalize hW : World.setCell W1 _ _ = W2
  have hW' : W1.setCell ⟨G, 10, none⟩ (.bool true) = W2 := hW
  have HX2 : Hid (BkRep W2 C b v1 (.slice (some ⟨g, 0, none⟩) b.sells.length cp) p6 p7) := Lib.hid (by rw [← hW']; exact HX1.out.setG HG1.out _ _)
  have HE2 : Hid (W2.heap[w.heap.size]? = some (.cells e.row tEvt (0, 0))) := Lib.hid (by rw [← hW']; exact blk_far HE1.out (HG1.out.neG HE1.out (by decide)) _)
  have HO2 : Hid (Only (Ours C G v1 (.slice (some ⟨g, 0, none⟩) b.sells.length cp)) w W2) := Lib.hid (by rw [← hW']; exact HO1.out.setCell (p := ⟨G, 10, none⟩) (.inl (.inr rfl)) _)
  have HG2 : Hid (CgAt W2 G { c with traded := true }) := Lib.hid (by rw [← hW']; exact HG1.out.s10 true)
  clear hW hW' a1 a2 a3 lC g0 g1 g3 g7 g8 g9 g10 g11 g12 lG gf e0 e1 e2 e3 e4 e5 e6 e7 e8 e9 e10 e11 e12 ef el HX1 HE1 HO1 HG1
  obtain ⟨a1, a2, a3, lC, g0, g1, g3, g7, g8, g9, g10, g11, g12, lG⟩ := mc_of HX2.out HG2.out
  have gf := fun k => blk_frozen HG2.out k
  obtain ⟨e0, e1, e2, e3, e4, e5, e6, e7, e8, e9, e10, e11, e12, ef, el⟩ := ev_cells HE2.out
  rw [hs] at g7
  have q := fun k (hk : k < 7) => row_at HX2.out.r2 (i := 0) (r := r) (by rw [Hd.out]; rfl) k hk
  have q4 := q 4 (by omega)
  have gl : g < W2.heap.size := own_lt HX2.out.r2 rfl
  have gz : W2.frozen? ⟨g, 4, none⟩ = false := by
    obtain ⟨cur, hcur⟩ := own_blkc HX2.out.r2
    exact blk_frozen hcur 4
  simp only [Rs.cells, Nat.zero_mul, Nat.zero_add, List.getElem?_cons_zero, List.getElem?_cons_succ] at q4
  clear q
  go_upto_region 15 with fail
  go_still_tail 9, (by kernel_rfl)
  change wpList _ _ _ _ _ W2.drew
  go_upto_region 16 with fail
  generalize hW : World.drew (World.setCell W2 _ _) = W3
  have hW' : (W2.setCell ⟨g, 4, none⟩ (.int .u64 (r.vis - e.qty))).drew = W3 := hW
  have hgE : g ≠ w.heap.size := ob_ne' (own_blk_ne HX2.out.r2 HE2.out (by decide))
  have hgG : g ≠ G := by
    have hgd := HG2.out
    unfold CgAt at hgd
    exact ob_ne' (own_blk_ne HX2.out.r2 hgd (by decide))
  have HX3 : Hid (BkRep W3 C (b.set 2 ({ r with vis := r.vis - e.qty } :: l)) v1 (.slice (some ⟨g, 0, none⟩) b.sells.length cp) p6 p7) := Lib.hid (by rw [← hW']; exact (HX2.out.setVis2 Hd.out (r.vis - e.qty)).nil (Only.refl Nil _).drew)
  have HE3 : Hid (W3.heap[w.heap.size]? = some (.cells e.row tEvt (0, 0))) := Lib.hid (by rw [← hW']; exact blk_drew (blk_far HE2.out (fun x => hgE x.symm) _))
  have HG3 : Hid (CgAt W3 G { c with traded := true }) := Lib.hid (by rw [← hW']; exact blk_drew (blk_far HG2.out (fun x => hgG x.symm) _))
  have HO3 : Hid (Only (Ours C G v1 (.slice (some ⟨g, 0, none⟩) b.sells.length cp)) w W3) := Lib.hid (by rw [← hW']; exact (HO2.out.setCell (p := ⟨g, 4, none⟩) (.inl (.inl (.inr (.inr rfl)))) _).drew)
  clear hW hW' a1 a2 a3 lC g0 g1 g3 g7 g8 g9 g10 g11 g12 lG gf e0 e1 e2 e3 e4 e5 e6 e7 e8 e9 e10 e11 e12 ef el q4 gl gz HX2 HE2 HO2 HG2 hgE hgG hw1
  obtain ⟨a1, a2, a3, lC, g0, g1, g3, g7, g8, g9, g10, g11, g12, lG⟩ := mc_of HX3.out HG3.out
  have gf := fun k => blk_frozen HG3.out k
  obtain ⟨e0, e1, e2, e3, e4, e5, e6, e7, e8, e9, e10, e11, e12, ef, el⟩ := ev_cells HE3.out
  rw [hs] at g7
  go_still_tail 9, (by kernel_rfl)
  change wpList _ _ _ _ _ W3.drew
  go_upto_region 17 with fail
  generalize hW : World.drew (World.setCell W3 _ _) = W4
  have hW' : (W3.setCell ⟨G, 9, none⟩ (.int .u64 (c.left - e.qty))).drew = W4 := hW
  have HX4 : Hid (BkRep W4 C (b.set 2 ({ r with vis := r.vis - e.qty } :: l)) v1 (.slice (some ⟨g, 0, none⟩) b.sells.length cp) p6 p7) := Lib.hid (by rw [← hW']; exact (HX3.out.setG HG3.out _ _).nil (Only.refl Nil _).drew)
  have HG4 : Hid (CgAt W4 G { c with traded := true, left := c.left - e.qty }) := Lib.hid (by rw [← hW']; exact (HG3.out.s9 _).nil (Only.refl Nil _).drew)
  have HO4 : Hid (Only (Ours C G v1 (.slice (some ⟨g, 0, none⟩) b.sells.length cp)) w W4) := Lib.hid (by rw [← hW']; exact (HO3.out.setCell (p := ⟨G, 9, none⟩) (.inl (.inr rfl)) _).drew)
  clear hW hW' a1 a2 a3 lC g0 g1 g3 g7 g8 g9 g10 g11 g12 lG gf e0 e1 e2 e3 e4 e5 e6 e7 e8 e9 e10 e11 e12 ef el HX3 HE3 HO3 HG3 hw2
  obtain ⟨a1, a2, a3, lC, g0, g1, g3, g7, g8, g9, g10, g11, g12, lG⟩ := mc_of HX4.out HG4.out
  have gf := fun k => blk_frozen HG4.out k
  have hlen : (b.set 2 ({ r with vis := r.vis - e.qty } :: l)).sells.length = b.sells.length := by rw [Hd.out]; rfl
  have hr4 := HX4.out.r2
  rw [hlen] at hr4
  have HR4 := Lib.hid hr4
  clear hr4 hlen
  have q := fun k (hk : k < 7) => row_at (l := (b.set 2 ({ r with vis := r.vis - e.qty } :: l)).sells) (HR4.out) (i := 0) (r := { r with vis := r.vis - e.qty }) rfl k hk
  have q0 := q 0 (by omega)
  have q4 := q 4 (by omega)
  have q5 := q 5 (by omega)
  have gl : g < W4.heap.size := own_lt HR4.out rfl
  simp only [Rs.cells, Nat.zero_mul, Nat.zero_add, List.getElem?_cons_zero, List.getElem?_cons_succ] at q0 q4 q5
  clear q HR4
  go_wp2
  go_end0
  rw [HT.out]
  exact ⟨rfl, _, _, HX4.out, HG4.out, fun k hk => .inl hk, HO4.out⟩

set_option maxHeartbeats 1600000 in
set_option maxRecDepth 100000 in
theorem takes_own2 (C G : Nat) (b : Bk) (c : Cg) (v1 v2 p6 p7 : Value) (e : Ev) (w : World) (h : BkRep w C b v1 v2 p6 p7) (hg : CgAt w G c) (hs : c.side = 2) (hk5 : e.kind ≠ 5) (hk3 : e.kind ≠ 3) (hid : e.id = c.o.id) :
    Calls Try.prog 50 #[.pointer (some ⟨C, 0, none⟩), .pointer (some ⟨G, 0, none⟩), .agg e.row] w fun r w' => r = .returned (.tuple #[]) ∧ ∃ v1' v2', BkRep w' C (takes b c e).1 v1' v2' p6 p7 ∧ CgAt w' G (takes b c e).2 ∧ Fresh w C v1 v2 v1' v2' ∧ Only (Ours C G v1 v2) w w' := by
  have HT : Hid (takes b c e = (b, { c with traded := true, left := 0 })) := Lib.hid (by unfold takes; simp only [if_neg hk5, if_neg hk3, if_pos hid])
  have hk5' : (e.kind == 5) = false := by simp [hk5]
  have hk3' : (e.kind == 3) = false := by simp [hk3]
  have hid' : (e.id == c.o.id) = true := by simp [hid]
  have hsub : IntKind.i64.wrap (3 - 2) = 1 := by rw [IntKind.wrap_i64]; omega
  clear hk5 hk3 hid
  have HX0 := Lib.hid h
  have HG0 := Lib.hid hg
  have HE1 := Lib.hid (blk_new w (.cells e.row tEvt))
  have HX1 := Lib.hid (h.nil ((Only.refl Nil w).alloc (.cells e.row tEvt)))
  have HG1 := Lib.hid (hg.nil ((Only.refl Nil w).alloc (.cells e.row tEvt)))
  have HO1 := Lib.hid ((Only.refl (Ours C G v1 v2) w).alloc (.cells e.row tEvt))
  clear h hg
  go_enter Try.func50, Try.ntmps50
  unfold Ev.row
  go_upto_region 1 with fail
  generalize hW : World.alloc w _ = W1
  have hW' : w.alloc (.cells e.row tEvt) = W1 := hW
  rw [hW'] at HE1 HX1 HG1 HO1
  clear hW hW'
  obtain ⟨a1, a2, a3, lC, g0, g1, g3, g7, g8, g9, g10, g11, g12, lG⟩ := mc_of HX1.out HG1.out
  have gf := fun k => blk_frozen HG1.out k
  obtain ⟨e0, e1, e2, e3, e4, e5, e6, e7, e8, e9, e10, e11, e12, ef, el⟩ := ev_cells HE1.out
  rw [hs] at g7
  go_upto_region 2 with fail
  generalize hW : World.setCell W1 _ _ = W2
  have hW' : W1.setCell ⟨G, 10, none⟩ (.bool true) = W2 := hW
  have HX2 : Hid (BkRep W2 C b v1 v2 p6 p7) := Lib.hid (by rw [← hW']; exact HX1.out.setG HG1.out _ _)
  have HE2 : Hid (W2.heap[w.heap.size]? = some (.cells e.row tEvt (0, 0))) := Lib.hid (by rw [← hW']; exact blk_far HE1.out (HG1.out.neG HE1.out (by decide)) _)
  have HO2 : Hid (Only (Ours C G v1 v2) w W2) := Lib.hid (by rw [← hW']; exact HO1.out.setCell (p := ⟨G, 10, none⟩) (.inl (.inr rfl)) _)
  have HG2 : Hid (CgAt W2 G { c with traded := true }) := Lib.hid (by rw [← hW']; exact HG1.out.s10 true)
  clear hW hW' a1 a2 a3 lC g0 g1 g3 g7 g8 g9 g10 g11 g12 lG gf e0 e1 e2 e3 e4 e5 e6 e7 e8 e9 e10 e11 e12 ef el HX1 HE1 HO1 HG1
  obtain ⟨a1, a2, a3, lC, g0, g1, g3, g7, g8, g9, g10, g11, g12, lG⟩ := mc_of HX2.out HG2.out
  have gf := fun k => blk_frozen HG2.out k
  obtain ⟨e0, e1, e2, e3, e4, e5, e6, e7, e8, e9, e10, e11, e12, ef, el⟩ := ev_cells HE2.out
  rw [hs] at g7
  go_upto_region 21 with fail
  go_quiet (fail)
  go_upto_region 22 with fail
  have HGd : Hid (CgAt (W2.drewN nq) G { c with traded := true }) := Lib.hid (HG2.out.nil ((Only.refl Nil _).drewN _))
  have HXd : Hid (BkRep (W2.drewN nq) C b v1 v2 p6 p7) := Lib.hid (HX2.out.nil ((Only.refl Nil _).drewN _))
  go_wp2
  go_end0
  rw [HT.out]
  exact ⟨rfl, v1, v2, HXd.out.setG HGd.out _ _, HGd.out.s9 0, fun k hk => .inl hk, (HO2.out.drewN _).setCell (p := ⟨G, 9, none⟩) (.inl (.inr rfl)) _⟩

set_option maxHeartbeats 1600000 in
set_option maxRecDepth 100000 in
theorem takes_away2 (C G : Nat) (b : Bk) (c : Cg) (v1 v2 p6 p7 : Value) (e : Ev) (w : World) (h : BkRep w C b v1 v2 p6 p7) (hg : CgAt w G c) (hs : c.side = 2) (hk5 : e.kind ≠ 5) (hk3 : e.kind ≠ 3) (hid : e.id ≠ c.o.id) (hn : 0 < (b.side 1).length) :
    Calls Try.prog 50 #[.pointer (some ⟨C, 0, none⟩), .pointer (some ⟨G, 0, none⟩), .agg e.row] w fun r w' => r = .returned (.tuple #[]) ∧ ∃ v1' v2', BkRep w' C (takes b c e).1 v1' v2' p6 p7 ∧ CgAt w' G (takes b c e).2 ∧ Fresh w C v1 v2 v1' v2' ∧ Only (Ours C G v1 v2) w w' := by
  have hfar : far c.side = 1 := by rw [hs]; rfl
  have HT : Hid (takes b c e = (b.set 1 ((b.side 1).eraseIdx 0), { c with traded := true, met := decide (b.meet = 3) })) := Lib.hid (by unfold takes; simp only [if_neg hk5, if_neg hk3, if_neg hid, hfar]; simp)
  have hk5' : (e.kind == 5) = false := by simp [hk5]
  have hk3' : (e.kind == 3) = false := by simp [hk3]
  have hid' : (e.id == c.o.id) = false := by simp [hid]
  have hsub : IntKind.i64.wrap (3 - 2) = 1 := by rw [IntKind.wrap_i64]; omega
  have HN := Lib.hid hn
  clear hk5 hk3 hid hfar hn
  have HX0 := Lib.hid h
  have HG0 := Lib.hid hg
  have HE1 := Lib.hid (blk_new w (.cells e.row tEvt))
  have HX1 := Lib.hid (h.nil ((Only.refl Nil w).alloc (.cells e.row tEvt)))
  have HG1 := Lib.hid (hg.nil ((Only.refl Nil w).alloc (.cells e.row tEvt)))
  have HO1 := Lib.hid ((Only.refl (Ours C G v1 v2) w).alloc (.cells e.row tEvt))
  clear h hg
  go_enter Try.func50, Try.ntmps50
  unfold Ev.row
  go_upto_region 1 with fail
  generalize hW : World.alloc w _ = W1
  have hW' : w.alloc (.cells e.row tEvt) = W1 := hW
  rw [hW'] at HE1 HX1 HG1 HO1
  clear hW hW'
  obtain ⟨a1, a2, a3, lC, g0, g1, g3, g7, g8, g9, g10, g11, g12, lG⟩ := mc_of HX1.out HG1.out
  have gf := fun k => blk_frozen HG1.out k
  obtain ⟨e0, e1, e2, e3, e4, e5, e6, e7, e8, e9, e10, e11, e12, ef, el⟩ := ev_cells HE1.out
  rw [hs] at g7
  go_upto_region 2 with fail
  generalize hW : World.setCell W1 _ _ = W2
  have hW' : W1.setCell ⟨G, 10, none⟩ (.bool true) = W2 := hW
  have HX2 : Hid (BkRep W2 C b v1 v2 p6 p7) := Lib.hid (by rw [← hW']; exact HX1.out.setG HG1.out _ _)
  have HE2 : Hid (W2.heap[w.heap.size]? = some (.cells e.row tEvt (0, 0))) := Lib.hid (by rw [← hW']; exact blk_far HE1.out (HG1.out.neG HE1.out (by decide)) _)
  have HO2 : Hid (Only (Ours C G v1 v2) w W2) := Lib.hid (by rw [← hW']; exact HO1.out.setCell (p := ⟨G, 10, none⟩) (.inl (.inr rfl)) _)
  have HG2 : Hid (CgAt W2 G { c with traded := true }) := Lib.hid (by rw [← hW']; exact HG1.out.s10 true)
  clear hW hW' a1 a2 a3 lC g0 g1 g3 g7 g8 g9 g10 g11 g12 lG gf e0 e1 e2 e3 e4 e5 e6 e7 e8 e9 e10 e11 e12 ef el HX1 HE1 HO1 HG1
  obtain ⟨a1, a2, a3, lC, g0, g1, g3, g7, g8, g9, g10, g11, g12, lG⟩ := mc_of HX2.out HG2.out
  have gf := fun k => blk_frozen HG2.out k
  obtain ⟨e0, e1, e2, e3, e4, e5, e6, e7, e8, e9, e10, e11, e12, ef, el⟩ := ev_cells HE2.out
  rw [hs] at g7
  go_upto_region 21 with fail
  go_quiet (fail)
  have HGd : Hid (CgAt (W2.drewN nq) G { c with traded := true }) := Lib.hid (HG2.out.nil ((Only.refl Nil _).drewN _))
  have HXd : Hid (BkRep (W2.drewN nq) C b v1 v2 p6 p7) := Lib.hid (HX2.out.nil ((Only.refl Nil _).drewN _))
  have HOd : Hid (Only (Ours C G v1 v2) w (W2.drewN nq)) := Lib.hid (HO2.out.drewN _)
  clear a1 a2 a3 lC g0 g1 g3 g7 g8 g9 g10 g11 g12 lG gf e0 e1 e2 e3 e4 e5 e6 e7 e8 e9 e10 e11 e12 ef el HX2 HE2 HO2 HG2
  go_wp2_with fail
  refine (gone_any C 0 1 b v1 v2 p6 p7 _ HXd.out (by omega) HN.out).mono ?_
  rintro x W3 ⟨rfl, v1', v2', hx, hf1, hf2, ho⟩
  have hfr : Fresh w C v1 v2 v1' v2' := gone_fresh hf1 hf2
  have hGd : ¬ Mine C v1 v2 G := by
    have hgd := HGd.out
    unfold CgAt at hgd
    intro hm
    rcases hm with hm | hm | hm
    · exact blk_ne HXd.out.blk hgd (by decide) hm.symm
    · exact own_blk_ne HXd.out.r1 hgd (by decide) hm
    · exact own_blk_ne HXd.out.r2 hgd (by decide) hm
  have HG3 : Hid (CgAt W3 G { c with traded := true }) := Lib.hid (ho.blk HGd.out hGd)
  have HO3 : Hid (Only (Ours C G v1 v2) w W3) := Lib.hid (HOd.out.trans ho (fun k _ hk => .inl hk))
  have HX3 := Lib.hid hx
  have HF := Lib.hid hfr
  clear hx hf1 hf2 ho hfr hGd HGd HXd HOd
  obtain ⟨a1, a2, a3, lC, g0, g1, g3, g7, g8, g9, g10, g11, g12, lG⟩ := mc_of HX3.out HG3.out
  have gf := fun k => blk_frozen HG3.out k
  have hmm : (b.set 1 ((b.side 1).eraseIdx 0)).meet = b.meet := (b.set_fields _ _).2.1
  rw [hmm] at a1
  go_wp2
  go_end0
  rw [HT.out]
  exact ⟨rfl, v1', v2', HX3.out.setG HG3.out _ _, HG3.out.s12 _, HF.out, HO3.out.setCell (p := ⟨G, 12, none⟩) (.inl (.inr rfl)) _⟩

set_option maxHeartbeats 1600000 in
set_option maxRecDepth 100000 in
theorem takes_fresh2 (C G : Nat) (b : Bk) (c : Cg) (v1 v2 p6 p7 : Value) (e : Ev) (w : World) (h : BkRep w C b v1 v2 p6 p7) (hg : CgAt w G c) (hb : b.ok) (hs : c.side = 2) (hk5 : e.kind = 5) (r : Rs) (l : List Rs) (hd : b.side 1 = r :: l) (hid : e.id = r.id) (hq : 0 ≤ e.qty ∧ e.qty ≤ r.hid) (hr : r.hid ≤ 4294967295) (hcn : b.count ≤ 1000000) :
    Calls Try.prog 50 #[.pointer (some ⟨C, 0, none⟩), .pointer (some ⟨G, 0, none⟩), .agg e.row] w fun r w' => r = .returned (.tuple #[]) ∧ ∃ v1' v2', BkRep w' C (takes b c e).1 v1' v2' p6 p7 ∧ CgAt w' G (takes b c e).2 ∧ Fresh w C v1 v2 v1' v2' ∧ Only (Ours C G v1 v2) w w' := by
  have hfar : far c.side = 1 := by rw [hs]; rfl
  have HT : Hid (takes b c e = (b.set 1 (rests 1 { r with vis := e.qty, hid := r.hid - e.qty } l), { c with traded := true, empty := 0 })) := Lib.hid (by unfold takes; simp only [if_pos hk5, hfar, hd])
  have hk5' : (e.kind == 5) = true := by simp [hk5]
  have hsub : IntKind.i64.wrap (3 - 2) = 1 := by rw [IntKind.wrap_i64]; omega
  have hsub2 : IntKind.i64.wrap 0 = 0 := by rw [IntKind.wrap_i64]; omega
  have hw1 : IntKind.u64.wrap (r.hid - e.qty) = r.hid - e.qty := by rw [IntKind.wrap_u64]; omega
  have hd' : b.buys = r :: l := hd
  have hfind : b.find e.id = some (1, 0) := by rw [hid]; exact find_first hb (by omega) hd
  obtain ⟨g, cp, rfl, hgl, hnc, hcm⟩ := own_row h.r1 (by rw [hd']; simp)
  have Hd := Lib.hid hd'
  have Hn : Hid (0 < (b.side 1).length) := Lib.hid (by rw [hd]; simp)
  have HX := Lib.hid h
  have Hfx : Hid (∀ W, BkRep W C b (.slice (some ⟨g, 0, none⟩) b.buys.length cp) v2 p6 p7 → Calls Try.prog 51 #[.pointer (some ⟨C, 0, none⟩), .int .u64 e.id] W fun e w' => e = .returned (.tuple #[.int .i64 1, .int .i64 0, .bool true]) ∧ Only Nil W w') := Lib.hid (fun W hW => by
    have := find_any e.id C b (.slice (some ⟨g, 0, none⟩) b.buys.length cp) v2 p6 p7 W hW
    rw [hfind] at this
    exact this)
  have hni : (0 : Int) < (b.buys.length : Int) := by rw [hd']; simp
  have hni2 : 0 < b.buys.length := by rw [hd']; simp
  have hb' : ((b.side 1).eraseIdx 0) = l := by rw [hd]; rfl
  have Hb' := Lib.hid hb'
  have Hcn : Hid ((b.set 1 l).count ≤ 1000000) := Lib.hid (by
    unfold Bk.count at hcn ⊢
    unfold Bk.set
    have h1 : b.buys.length = l.length + 1 := by rw [hd']; rfl
    simp
    omega)
  clear hk5 hfar hd hd' hq hr hgl hfind hid hb' hcn
  have HX0 := Lib.hid h
  have HG0 := Lib.hid hg
  have HE1 := Lib.hid (blk_new w (.cells e.row tEvt))
  have HX1 := Lib.hid (h.nil ((Only.refl Nil w).alloc (.cells e.row tEvt)))
  have HG1 := Lib.hid (hg.nil ((Only.refl Nil w).alloc (.cells e.row tEvt)))
  have HO1 := Lib.hid ((Only.refl (Ours C G (.slice (some ⟨g, 0, none⟩) b.buys.length cp) v2) w).alloc (.cells e.row tEvt))
  clear h hg
  go_enter Try.func50, Try.ntmps50
  unfold Ev.row
  go_upto_region 1 with fail
  generalize hW : World.alloc w _ = W1
  have hW' : w.alloc (.cells e.row tEvt) = W1 := hW
  rw [hW'] at HE1 HX1 HG1 HO1
  clear hW hW'
  obtain ⟨a1, a2, a3, lC, g0, g1, g3, g7, g8, g9, g10, g11, g12, lG⟩ := mc_of HX1.out HG1.out
  have gf := fun k => blk_frozen HG1.out k
  obtain ⟨e0, e1, e2, e3, e4, e5, e6, e7, e8, e9, e10, e11, e12, ef, el⟩ := ev_cells HE1.out
  rw [hs] at g7
  go_upto_region 2 with fail
  generalize hW : World.setCell W1 _ _ = W2
  have hW' : W1.setCell ⟨G, 10, none⟩ (.bool true) = W2 := hW
  have HX2 : Hid (BkRep W2 C b (.slice (some ⟨g, 0, none⟩) b.buys.length cp) v2 p6 p7) := Lib.hid (by rw [← hW']; exact HX1.out.setG HG1.out _ _)
  have HE2 : Hid (W2.heap[w.heap.size]? = some (.cells e.row tEvt (0, 0))) := Lib.hid (by rw [← hW']; exact blk_far HE1.out (HG1.out.neG HE1.out (by decide)) _)
  have HO2 : Hid (Only (Ours C G (.slice (some ⟨g, 0, none⟩) b.buys.length cp) v2) w W2) := Lib.hid (by rw [← hW']; exact HO1.out.setCell (p := ⟨G, 10, none⟩) (.inl (.inr rfl)) _)
  have HG2 : Hid (CgAt W2 G { c with traded := true }) := Lib.hid (by rw [← hW']; exact HG1.out.s10 true)
  clear hW hW' a1 a2 a3 lC g0 g1 g3 g7 g8 g9 g10 g11 g12 lG gf e0 e1 e2 e3 e4 e5 e6 e7 e8 e9 e10 e11 e12 ef el HX1 HE1 HO1 HG1
  obtain ⟨a1, a2, a3, lC, g0, g1, g3, g7, g8, g9, g10, g11, g12, lG⟩ := mc_of HX2.out HG2.out
  have gf := fun k => blk_frozen HG2.out k
  obtain ⟨e0, e1, e2, e3, e4, e5, e6, e7, e8, e9, e10, e11, e12, ef, el⟩ := ev_cells HE2.out
  rw [hs] at g7
  go_wp2_with fail
  refine (Hfx.out _ HX2.out).mono ?_
  rintro x W3 ⟨rfl, ho⟩
  have HX3 := Lib.hid (HX2.out.nil ho)
  have HE3 : Hid (W3.heap[w.heap.size]? = some (.cells e.row tEvt (0, 0))) := Lib.hid (ho.blk HE2.out (fun h => h))
  have HG3 := Lib.hid (HG2.out.nil ho)
  have HO3 : Hid (Only (Ours C G (.slice (some ⟨g, 0, none⟩) b.buys.length cp) v2) w W3) := Lib.hid (HO2.out.trans ho (fun _ _ h => h.elim))
  clear a1 a2 a3 lC g0 g1 g3 g7 g8 g9 g10 g11 g12 lG gf e0 e1 e2 e3 e4 e5 e6 e7 e8 e9 e10 e11 e12 ef el HX2 HE2 HO2 HG2 ho
  obtain ⟨a1, a2, a3, lC, g0, g1, g3, g7, g8, g9, g10, g11, g12, lG⟩ := mc_of HX3.out HG3.out
  have gf := fun k => blk_frozen HG3.out k
  obtain ⟨e0, e1, e2, e3, e4, e5, e6, e7, e8, e9, e10, e11, e12, ef, el⟩ := ev_cells HE3.out
  rw [hs] at g7
  have q := fun k (hk : k < 7) => row_at HX3.out.r1 (i := 0) (r := r) (by rw [Hd.out]; rfl) k hk
  have q0 := q 0 (by omega)
  have q1 := q 1 (by omega)
  have q2 := q 2 (by omega)
  have q3 := q 3 (by omega)
  have q4 := q 4 (by omega)
  have q5 := q 5 (by omega)
  have q6 := q 6 (by omega)
  have gl : g < W3.heap.size := own_lt HX3.out.r1 rfl
  simp only [Rs.cells, Nat.zero_mul, Nat.zero_add, List.getElem?_cons_zero, List.getElem?_cons_succ] at q0 q1 q2 q3 q4 q5 q6
  clear q
  go_upto_region 8 with fail
  generalize hW : World.alloc W3 _ = W4
  have hW' : W3.alloc (.cells r.row tR) = W4 := hW
  have ho4 : Only Nil W3 W4 := by rw [← hW']; exact (Only.refl _ _).alloc _
  have HT4 : Hid (W4.heap[W3.heap.size]? = some (.cells r.row tR (0, 0))) := Lib.hid (by rw [← hW']; exact blk_new _ _)
  have HX4 := Lib.hid (HX3.out.nil ho4)
  have HE4 : Hid (W4.heap[w.heap.size]? = some (.cells e.row tEvt (0, 0))) := Lib.hid (ho4.blk HE3.out (fun h => h))
  have HG4 := Lib.hid (HG3.out.nil ho4)
  have HO4 : Hid (Only (Ours C G (.slice (some ⟨g, 0, none⟩) b.buys.length cp) v2) w W4) := Lib.hid (HO3.out.trans ho4 (fun _ _ h => h.elim))
  have hTw : w.heap.size ≤ W3.heap.size := HO3.out.size
  have HTn := Lib.hid (fun k (hk : Mine C (.slice (some ⟨g, 0, none⟩) b.buys.length cp) v2 k) => (show k < W3.heap.size from by
    rcases hk with hk | hk | hk
    · exact hk ▸ blk_lt HX3.out.blk
    · exact own_lt HX3.out.r1 hk
    · exact own_lt HX3.out.r2 hk))
  have hGT : G < W3.heap.size := by
    have hgd := HG3.out
    unfold CgAt at hgd
    exact blk_lt hgd
  have hET : w.heap.size < W3.heap.size := blk_lt HE3.out
  clear hW hW' ho4 a1 a2 a3 lC g0 g1 g3 g7 g8 g9 g10 g11 g12 lG gf e0 e1 e2 e3 e4 e5 e6 e7 e8 e9 e10 e11 e12 ef el q0 q1 q2 q3 q4 q5 q6 gl HX3 HE3 HG3 HO3
  generalize W3.heap.size = T at *
  go_wp2_with fail
  refine (gone_any C 0 1 b _ _ p6 p7 _ HX4.out (by omega) Hn.out).mono ?_
  rintro x W5 ⟨rfl, u1, u2, hx, hf1, hf2, ho⟩
  rw [Hb'.out] at hx
  have hfr : Fresh w C (.slice (some ⟨g, 0, none⟩) b.buys.length cp) v2 u1 u2 := gone_fresh hf1 hf2
  have hnot : ∀ k, T ≤ k → ¬ Mine C (.slice (some ⟨g, 0, none⟩) b.buys.length cp) v2 k := fun k hk hm => by have := HTn.out k hm; omega
  have hGd : ¬ Mine C (.slice (some ⟨g, 0, none⟩) b.buys.length cp) v2 G := by
    have hgd := HG4.out
    unfold CgAt at hgd
    intro hm
    rcases hm with hm | hm | hm
    · exact blk_ne HX4.out.blk hgd (by decide) hm.symm
    · exact own_blk_ne HX4.out.r1 hgd (by decide) hm
    · exact own_blk_ne HX4.out.r2 hgd (by decide) hm
  have hEd : ¬ Mine C (.slice (some ⟨g, 0, none⟩) b.buys.length cp) v2 w.heap.size := by
    intro hm
    rcases hm with hm | hm | hm
    · exact blk_ne HX4.out.blk HE4.out (by decide) hm.symm
    · exact own_blk_ne HX4.out.r1 HE4.out (by decide) hm
    · exact own_blk_ne HX4.out.r2 HE4.out (by decide) hm
  have HG5 : Hid (CgAt W5 G { c with traded := true }) := Lib.hid (ho.blk HG4.out hGd)
  have HE5 : Hid (W5.heap[w.heap.size]? = some (.cells e.row tEvt (0, 0))) := Lib.hid (ho.blk HE4.out hEd)
  have HT5 : Hid (W5.heap[T]? = some (.cells r.row tR (0, 0))) := Lib.hid (ho.blk HT4.out (hnot T (Nat.le_refl _)))
  have HO5 : Hid (Only (Ours C G (.slice (some ⟨g, 0, none⟩) b.buys.length cp) v2) w W5) := Lib.hid (HO4.out.trans ho (fun k _ hk => .inl hk))
  have HX5 := Lib.hid hx
  have HF5 := Lib.hid hfr
  have HM5 : Hid (∀ k, Mine C u1 u2 k → k < T) := Lib.hid (fun k hk => HTn.out k (by unfold Mine at *; rw [hf1, hf2] at hk; exact hk))
  clear hx hf1 hf2 ho hfr hGd hEd hnot HX4 HE4 HT4 HG4 HO4 HTn
  obtain ⟨e0, e1, e2, e3, e4, e5, e6, e7, e8, e9, e10, e11, e12, ef, el⟩ := ev_cells HE5.out
  obtain ⟨t0, t1, t2, t3, t4, t5, t6, tl⟩ := rs_cells HT5.out
  have tf := fun k => blk_frozen HT5.out k
  have hTE : T ≠ w.heap.size := by omega
  have hET2 : w.heap.size ≠ T := by omega
  go_upto_region 11 with fail
  generalize hW : World.setCell (World.setCell W5 _ _) _ _ = W6
  have hW' : (W5.setCell ⟨T, 4, none⟩ (.int .u64 e.qty)).setCell ⟨T, 5, none⟩ (.int .u64 (r.hid - e.qty)) = W6 := hW
  have hT6 : W6.heap[T]? = some (.cells (Rs.row { r with vis := e.qty, hid := r.hid - e.qty }) tR (0, 0)) := by
    rw [← hW']
    have := blk_set (blk_set HT5.out 4 (.int .u64 e.qty)) 5 (.int .u64 (r.hid - e.qty))
    exact this
  have ho6 : Only (fun k => k = T) W5 W6 := by rw [← hW']; exact ((Only.refl (fun k => k = T) W5).setCell (p := ⟨T, 4, none⟩) (.inl rfl) _).setCell (p := ⟨T, 5, none⟩) (.inl rfl) _
  have HX6 : Hid (BkRep W6 C (b.set 1 l) u1 u2 p6 p7) := Lib.hid ⟨ho6.blk HX5.out.blk (fun q => by have := HM5.out C (.inl rfl); omega), own_only HX5.out.r1 ho6 (fun k hk q => by have := HM5.out k (.inr (.inl hk)); omega), own_only HX5.out.r2 ho6 (fun k hk q => by have := HM5.out k (.inr (.inr hk)); omega), HX5.out.ne⟩
  have HG6 : Hid (CgAt W6 G { c with traded := true }) := Lib.hid (ho6.blk HG5.out (fun q => by omega))
  have HO6 : Hid (Only (Ours C G (.slice (some ⟨g, 0, none⟩) b.buys.length cp) v2) w W6) := Lib.hid ((HO5.out.trans (T := fun k => k = T) ho6 (fun k hk q => by omega)))
  have HT6 := Lib.hid hT6
  have h56 := ho6.size
  clear hW hW' hT6 ho6 e0 e1 e2 e3 e4 e5 e6 e7 e8 e9 e10 e11 e12 ef el t0 t1 t2 t3 t4 t5 t6 tl tf HX5 HE5 HT5 HG5 HO5
  obtain ⟨t0, t1, t2, t3, t4, t5, t6, tl⟩ := rs_cells HT6.out
  go_wp2_with fail
  refine (rests_any C 1 (b.set 1 l) { r with vis := e.qty, hid := r.hid - e.qty } u1 u2 p6 p7 _ HX6.out (by omega) Hcn.out).mono ?_
  rintro x W7 ⟨rfl, v1', v2', hx, hf7, ho7⟩
  rw [Bk.side_set, Bk.set_set] at hx
  have hGd : ¬ Mine C u1 u2 G := by
    have hgd := HG6.out
    unfold CgAt at hgd
    intro hm
    rcases hm with hm | hm | hm
    · exact blk_ne HX6.out.blk hgd (by decide) hm.symm
    · exact own_blk_ne HX6.out.r1 hgd (by decide) hm
    · exact own_blk_ne HX6.out.r2 hgd (by decide) hm
  have HG7 : Hid (CgAt W7 G { c with traded := true }) := Lib.hid (ho7.blk HG6.out hGd)
  have HX7 := Lib.hid hx
  have HO7 : Hid (Only (Ours C G (.slice (some ⟨g, 0, none⟩) b.buys.length cp) v2) w W7) := Lib.hid (HO6.out.trans ho7 (fun k hk hm => by
    rcases HF5.out k hm with q | q
    · exact .inl q
    · omega))
  have HF7 : Hid (Fresh w C (.slice (some ⟨g, 0, none⟩) b.buys.length cp) v2 v1' v2') := Lib.hid (HF5.out.trans hf7 HO6.out.size)
  clear hx hf7 ho7 hGd t0 t1 t2 t3 t4 t5 t6 tl
  obtain ⟨a1, a2, a3, lC, g0, g1, g3, g7, g8, g9, g10, g11, g12, lG⟩ := mc_of HX7.out HG7.out
  have gf := fun k => blk_frozen HG7.out k
  go_wp2
  go_end0
  rw [HT.out]
  exact ⟨rfl, v1', v2', HX7.out.setG HG7.out _ _, HG7.out.s11 0, HF7.out, HO7.out.setCell (p := ⟨G, 11, none⟩) (.inl (.inr rfl)) _⟩

set_option maxHeartbeats 1600000 in
set_option maxRecDepth 100000 in
theorem takes_trade2a (C G : Nat) (b : Bk) (c : Cg) (v1 v2 p6 p7 : Value) (e : Ev) (w : World) (h : BkRep w C b v1 v2 p6 p7) (hg : CgAt w G c) (hs : c.side = 2) (hk3 : e.kind = 3) (r : Rs) (l : List Rs) (hd : b.side 1 = r :: l) (hq : 0 ≤ e.qty ∧ e.qty ≤ r.vis ∧ e.qty ≤ c.left) (hr : r.vis ≤ 4294967295) (hl : c.left ≤ 4294967295) (hz : r.vis - e.qty = 0) (hh : 0 < r.hid) :
    Calls Try.prog 50 #[.pointer (some ⟨C, 0, none⟩), .pointer (some ⟨G, 0, none⟩), .agg e.row] w fun r w' => r = .returned (.tuple #[]) ∧ ∃ v1' v2', BkRep w' C (takes b c e).1 v1' v2' p6 p7 ∧ CgAt w' G (takes b c e).2 ∧ Fresh w C v1 v2 v1' v2' ∧ Only (Ours C G v1 v2) w w' := by
  have hfar : far c.side = 1 := by rw [hs]; rfl
  have HT : Hid (takes b c e = (b.set 1 ({ r with vis := 0 } :: l), { c with traded := true, left := c.left - e.qty, empty := r.id })) := Lib.hid (by rw [takes_trade e hk3 (hfar ▸ hd), hfar]; rw [if_pos ⟨hz, hh⟩, hz])
  have hk5' : (e.kind == 5) = false := by simp [hk3]
  have hk3' : (e.kind == 3) = true := by simp [hk3]
  have hsub : IntKind.i64.wrap (3 - 2) = 1 := by rw [IntKind.wrap_i64]; omega
  have hsub2 : IntKind.i64.wrap 0 = 0 := by rw [IntKind.wrap_i64]; omega
  have hw1 : IntKind.u64.wrap (r.vis - e.qty) = 0 := by rw [IntKind.wrap_u64]; omega
  have hw2 : IntKind.u64.wrap (c.left - e.qty) = c.left - e.qty := by rw [IntKind.wrap_u64]; omega
  have hz1 : ((0 : Int) == 0) = true := rfl
  have hd' : b.buys = r :: l := hd
  obtain ⟨g, cp, rfl, hgl, hnc, hcm⟩ := own_row h.r1 (by rw [hd']; simp)
  have Hd := Lib.hid hd'
  have hni : (0 : Int) < (b.buys.length : Int) := by rw [hd']; simp
  have hni2 : 0 < b.buys.length := by rw [hd']; simp
  clear hk3 hfar hd hd' hq hz hr hl hgl
  have HX0 := Lib.hid h
  have HG0 := Lib.hid hg
  have HE1 := Lib.hid (blk_new w (.cells e.row tEvt))
  have HX1 := Lib.hid (h.nil ((Only.refl Nil w).alloc (.cells e.row tEvt)))
  have HG1 := Lib.hid (hg.nil ((Only.refl Nil w).alloc (.cells e.row tEvt)))
  have HO1 := Lib.hid ((Only.refl (Ours C G (.slice (some ⟨g, 0, none⟩) b.buys.length cp) v2) w).alloc (.cells e.row tEvt))
  clear h hg
  go_enter Try.func50, Try.ntmps50
  unfold Ev.row
  go_upto_region 1 with fail
  generalize hW : World.alloc w _ = W1
  have hW' : w.alloc (.cells e.row tEvt) = W1 := hW
  rw [hW'] at HE1 HX1 HG1 HO1
  clear hW hW'
  obtain ⟨a1, a2, a3, lC, g0, g1, g3, g7, g8, g9, g10, g11, g12, lG⟩ := mc_of HX1.out HG1.out
  have gf := fun k => blk_frozen HG1.out k
  obtain ⟨e0, e1, e2, e3, e4, e5, e6, e7, e8, e9, e10, e11, e12, ef, el⟩ := ev_cells HE1.out
  rw [hs] at g7
  go_upto_region 2 with fail
  generalize hW : World.setCell W1 _ _ = W2
  have hW' : W1.setCell ⟨G, 10, none⟩ (.bool true) = W2 := hW
  have HX2 : Hid (BkRep W2 C b (.slice (some ⟨g, 0, none⟩) b.buys.length cp) v2 p6 p7) := Lib.hid (by rw [← hW']; exact HX1.out.setG HG1.out _ _)
  have HE2 : Hid (W2.heap[w.heap.size]? = some (.cells e.row tEvt (0, 0))) := Lib.hid (by rw [← hW']; exact blk_far HE1.out (HG1.out.neG HE1.out (by decide)) _)
  have HO2 : Hid (Only (Ours C G (.slice (some ⟨g, 0, none⟩) b.buys.length cp) v2) w W2) := Lib.hid (by rw [← hW']; exact HO1.out.setCell (p := ⟨G, 10, none⟩) (.inl (.inr rfl)) _)
  have HG2 : Hid (CgAt W2 G { c with traded := true }) := Lib.hid (by rw [← hW']; exact HG1.out.s10 true)
  clear hW hW' a1 a2 a3 lC g0 g1 g3 g7 g8 g9 g10 g11 g12 lG gf e0 e1 e2 e3 e4 e5 e6 e7 e8 e9 e10 e11 e12 ef el HX1 HE1 HO1 HG1
  obtain ⟨a1, a2, a3, lC, g0, g1, g3, g7, g8, g9, g10, g11, g12, lG⟩ := mc_of HX2.out HG2.out
  have gf := fun k => blk_frozen HG2.out k
  obtain ⟨e0, e1, e2, e3, e4, e5, e6, e7, e8, e9, e10, e11, e12, ef, el⟩ := ev_cells HE2.out
  rw [hs] at g7
  have q := fun k (hk : k < 7) => row_at HX2.out.r1 (i := 0) (r := r) (by rw [Hd.out]; rfl) k hk
  have q4 := q 4 (by omega)
  have gl : g < W2.heap.size := own_lt HX2.out.r1 rfl
  have gz : W2.frozen? ⟨g, 4, none⟩ = false := by
    obtain ⟨cur, hcur⟩ := own_blkc HX2.out.r1
    exact blk_frozen hcur 4
  simp only [Rs.cells, Nat.zero_mul, Nat.zero_add, List.getElem?_cons_zero, List.getElem?_cons_succ] at q4
  clear q
  go_upto_region 15 with fail
  go_still_tail 9, (by kernel_rfl)
  change wpList _ _ _ _ _ W2.drew
  go_upto_region 16 with fail
  generalize hW : World.drew (World.setCell W2 _ _) = W3
  have hW' : (W2.setCell ⟨g, 4, none⟩ (.int .u64 (0))).drew = W3 := hW
  have hgE : g ≠ w.heap.size := ob_ne' (own_blk_ne HX2.out.r1 HE2.out (by decide))
  have hgG : g ≠ G := by
    have hgd := HG2.out
    unfold CgAt at hgd
    exact ob_ne' (own_blk_ne HX2.out.r1 hgd (by decide))
  have HX3 : Hid (BkRep W3 C (b.set 1 ({ r with vis := 0 } :: l)) (.slice (some ⟨g, 0, none⟩) b.buys.length cp) v2 p6 p7) := Lib.hid (by rw [← hW']; exact (HX2.out.setVis1 Hd.out (0)).nil (Only.refl Nil _).drew)
  have HE3 : Hid (W3.heap[w.heap.size]? = some (.cells e.row tEvt (0, 0))) := Lib.hid (by rw [← hW']; exact blk_drew (blk_far HE2.out (fun x => hgE x.symm) _))
  have HG3 : Hid (CgAt W3 G { c with traded := true }) := Lib.hid (by rw [← hW']; exact blk_drew (blk_far HG2.out (fun x => hgG x.symm) _))
  have HO3 : Hid (Only (Ours C G (.slice (some ⟨g, 0, none⟩) b.buys.length cp) v2) w W3) := Lib.hid (by rw [← hW']; exact (HO2.out.setCell (p := ⟨g, 4, none⟩) (.inl (.inl (.inr (.inl rfl)))) _).drew)
  clear hW hW' a1 a2 a3 lC g0 g1 g3 g7 g8 g9 g10 g11 g12 lG gf e0 e1 e2 e3 e4 e5 e6 e7 e8 e9 e10 e11 e12 ef el q4 gl gz HX2 HE2 HO2 HG2 hgE hgG hw1
  obtain ⟨a1, a2, a3, lC, g0, g1, g3, g7, g8, g9, g10, g11, g12, lG⟩ := mc_of HX3.out HG3.out
  have gf := fun k => blk_frozen HG3.out k
  obtain ⟨e0, e1, e2, e3, e4, e5, e6, e7, e8, e9, e10, e11, e12, ef, el⟩ := ev_cells HE3.out
  rw [hs] at g7
  go_still_tail 9, (by kernel_rfl)
  change wpList _ _ _ _ _ W3.drew
  go_upto_region 17 with fail
  generalize hW : World.drew (World.setCell W3 _ _) = W4
  have hW' : (W3.setCell ⟨G, 9, none⟩ (.int .u64 (c.left - e.qty))).drew = W4 := hW
  have HX4 : Hid (BkRep W4 C (b.set 1 ({ r with vis := 0 } :: l)) (.slice (some ⟨g, 0, none⟩) b.buys.length cp) v2 p6 p7) := Lib.hid (by rw [← hW']; exact (HX3.out.setG HG3.out _ _).nil (Only.refl Nil _).drew)
  have HG4 : Hid (CgAt W4 G { c with traded := true, left := c.left - e.qty }) := Lib.hid (by rw [← hW']; exact (HG3.out.s9 _).nil (Only.refl Nil _).drew)
  have HO4 : Hid (Only (Ours C G (.slice (some ⟨g, 0, none⟩) b.buys.length cp) v2) w W4) := Lib.hid (by rw [← hW']; exact (HO3.out.setCell (p := ⟨G, 9, none⟩) (.inl (.inr rfl)) _).drew)
  clear hW hW' a1 a2 a3 lC g0 g1 g3 g7 g8 g9 g10 g11 g12 lG gf e0 e1 e2 e3 e4 e5 e6 e7 e8 e9 e10 e11 e12 ef el HX3 HE3 HO3 HG3 hw2
  obtain ⟨a1, a2, a3, lC, g0, g1, g3, g7, g8, g9, g10, g11, g12, lG⟩ := mc_of HX4.out HG4.out
  have gf := fun k => blk_frozen HG4.out k
  have hlen : (b.set 1 ({ r with vis := 0 } :: l)).buys.length = b.buys.length := by rw [Hd.out]; rfl
  have hr4 := HX4.out.r1
  rw [hlen] at hr4
  have HR4 := Lib.hid hr4
  clear hr4 hlen
  have q := fun k (hk : k < 7) => row_at (l := (b.set 1 ({ r with vis := 0 } :: l)).buys) (HR4.out) (i := 0) (r := { r with vis := 0 }) rfl k hk
  have q0 := q 0 (by omega)
  have q4 := q 4 (by omega)
  have q5 := q 5 (by omega)
  have gl : g < W4.heap.size := own_lt HR4.out rfl
  simp only [Rs.cells, Nat.zero_mul, Nat.zero_add, List.getElem?_cons_zero, List.getElem?_cons_succ] at q0 q4 q5
  clear q HR4
  go_wp2
  go_end0
  rw [HT.out]
  exact ⟨rfl, _, _, HX4.out.setG HG4.out _ _, HG4.out.s11 _, fun k hk => .inl hk, HO4.out.setCell (p := ⟨G, 11, none⟩) (.inl (.inr rfl)) _⟩

set_option maxHeartbeats 1600000 in
set_option maxRecDepth 100000 in
theorem takes_trade2b (C G : Nat) (b : Bk) (c : Cg) (v1 v2 p6 p7 : Value) (e : Ev) (w : World) (h : BkRep w C b v1 v2 p6 p7) (hg : CgAt w G c) (hs : c.side = 2) (hk3 : e.kind = 3) (r : Rs) (l : List Rs) (hd : b.side 1 = r :: l) (hq : 0 ≤ e.qty ∧ e.qty ≤ r.vis ∧ e.qty ≤ c.left) (hr : r.vis ≤ 4294967295) (hl : c.left ≤ 4294967295) (hz : r.vis - e.qty = 0) (hh : ¬ 0 < r.hid) :
    Calls Try.prog 50 #[.pointer (some ⟨C, 0, none⟩), .pointer (some ⟨G, 0, none⟩), .agg e.row] w fun r w' => r = .returned (.tuple #[]) ∧ ∃ v1' v2', BkRep w' C (takes b c e).1 v1' v2' p6 p7 ∧ CgAt w' G (takes b c e).2 ∧ Fresh w C v1 v2 v1' v2' ∧ Only (Ours C G v1 v2) w w' := by
  have hfar : far c.side = 1 := by rw [hs]; rfl
  have HT : Hid (takes b c e = (b.set 1 l, { c with traded := true, left := c.left - e.qty })) := Lib.hid (by rw [takes_trade e hk3 (hfar ▸ hd), hfar]; rw [if_neg (fun q => hh q.2), if_pos hz])
  have hk5' : (e.kind == 5) = false := by simp [hk3]
  have hk3' : (e.kind == 3) = true := by simp [hk3]
  have hsub : IntKind.i64.wrap (3 - 2) = 1 := by rw [IntKind.wrap_i64]; omega
  have hsub2 : IntKind.i64.wrap 0 = 0 := by rw [IntKind.wrap_i64]; omega
  have hw1 : IntKind.u64.wrap (r.vis - e.qty) = 0 := by rw [IntKind.wrap_u64]; omega
  have hw2 : IntKind.u64.wrap (c.left - e.qty) = c.left - e.qty := by rw [IntKind.wrap_u64]; omega
  have hz1 : ((0 : Int) == 0) = true := rfl
  have hd' : b.buys = r :: l := hd
  obtain ⟨g, cp, rfl, hgl, hnc, hcm⟩ := own_row h.r1 (by rw [hd']; simp)
  have Hd := Lib.hid hd'
  have hni : (0 : Int) < (b.buys.length : Int) := by rw [hd']; simp
  have hni2 : 0 < b.buys.length := by rw [hd']; simp
  clear hk3 hfar hd hd' hq hz hr hl hgl
  have HX0 := Lib.hid h
  have HG0 := Lib.hid hg
  have HE1 := Lib.hid (blk_new w (.cells e.row tEvt))
  have HX1 := Lib.hid (h.nil ((Only.refl Nil w).alloc (.cells e.row tEvt)))
  have HG1 := Lib.hid (hg.nil ((Only.refl Nil w).alloc (.cells e.row tEvt)))
  have HO1 := Lib.hid ((Only.refl (Ours C G (.slice (some ⟨g, 0, none⟩) b.buys.length cp) v2) w).alloc (.cells e.row tEvt))
  clear h hg
  go_enter Try.func50, Try.ntmps50
  unfold Ev.row
  go_upto_region 1 with fail
  generalize hW : World.alloc w _ = W1
  have hW' : w.alloc (.cells e.row tEvt) = W1 := hW
  rw [hW'] at HE1 HX1 HG1 HO1
  clear hW hW'
  obtain ⟨a1, a2, a3, lC, g0, g1, g3, g7, g8, g9, g10, g11, g12, lG⟩ := mc_of HX1.out HG1.out
  have gf := fun k => blk_frozen HG1.out k
  obtain ⟨e0, e1, e2, e3, e4, e5, e6, e7, e8, e9, e10, e11, e12, ef, el⟩ := ev_cells HE1.out
  rw [hs] at g7
  go_upto_region 2 with fail
  generalize hW : World.setCell W1 _ _ = W2
  have hW' : W1.setCell ⟨G, 10, none⟩ (.bool true) = W2 := hW
  have HX2 : Hid (BkRep W2 C b (.slice (some ⟨g, 0, none⟩) b.buys.length cp) v2 p6 p7) := Lib.hid (by rw [← hW']; exact HX1.out.setG HG1.out _ _)
  have HE2 : Hid (W2.heap[w.heap.size]? = some (.cells e.row tEvt (0, 0))) := Lib.hid (by rw [← hW']; exact blk_far HE1.out (HG1.out.neG HE1.out (by decide)) _)
  have HO2 : Hid (Only (Ours C G (.slice (some ⟨g, 0, none⟩) b.buys.length cp) v2) w W2) := Lib.hid (by rw [← hW']; exact HO1.out.setCell (p := ⟨G, 10, none⟩) (.inl (.inr rfl)) _)
  have HG2 : Hid (CgAt W2 G { c with traded := true }) := Lib.hid (by rw [← hW']; exact HG1.out.s10 true)
  clear hW hW' a1 a2 a3 lC g0 g1 g3 g7 g8 g9 g10 g11 g12 lG gf e0 e1 e2 e3 e4 e5 e6 e7 e8 e9 e10 e11 e12 ef el HX1 HE1 HO1 HG1
  obtain ⟨a1, a2, a3, lC, g0, g1, g3, g7, g8, g9, g10, g11, g12, lG⟩ := mc_of HX2.out HG2.out
  have gf := fun k => blk_frozen HG2.out k
  obtain ⟨e0, e1, e2, e3, e4, e5, e6, e7, e8, e9, e10, e11, e12, ef, el⟩ := ev_cells HE2.out
  rw [hs] at g7
  have q := fun k (hk : k < 7) => row_at HX2.out.r1 (i := 0) (r := r) (by rw [Hd.out]; rfl) k hk
  have q4 := q 4 (by omega)
  have gl : g < W2.heap.size := own_lt HX2.out.r1 rfl
  have gz : W2.frozen? ⟨g, 4, none⟩ = false := by
    obtain ⟨cur, hcur⟩ := own_blkc HX2.out.r1
    exact blk_frozen hcur 4
  simp only [Rs.cells, Nat.zero_mul, Nat.zero_add, List.getElem?_cons_zero, List.getElem?_cons_succ] at q4
  clear q
  go_upto_region 15 with fail
  go_still_tail 9, (by kernel_rfl)
  change wpList _ _ _ _ _ W2.drew
  go_upto_region 16 with fail
  generalize hW : World.drew (World.setCell W2 _ _) = W3
  have hW' : (W2.setCell ⟨g, 4, none⟩ (.int .u64 (0))).drew = W3 := hW
  have hgE : g ≠ w.heap.size := ob_ne' (own_blk_ne HX2.out.r1 HE2.out (by decide))
  have hgG : g ≠ G := by
    have hgd := HG2.out
    unfold CgAt at hgd
    exact ob_ne' (own_blk_ne HX2.out.r1 hgd (by decide))
  have HX3 : Hid (BkRep W3 C (b.set 1 ({ r with vis := 0 } :: l)) (.slice (some ⟨g, 0, none⟩) b.buys.length cp) v2 p6 p7) := Lib.hid (by rw [← hW']; exact (HX2.out.setVis1 Hd.out (0)).nil (Only.refl Nil _).drew)
  have HE3 : Hid (W3.heap[w.heap.size]? = some (.cells e.row tEvt (0, 0))) := Lib.hid (by rw [← hW']; exact blk_drew (blk_far HE2.out (fun x => hgE x.symm) _))
  have HG3 : Hid (CgAt W3 G { c with traded := true }) := Lib.hid (by rw [← hW']; exact blk_drew (blk_far HG2.out (fun x => hgG x.symm) _))
  have HO3 : Hid (Only (Ours C G (.slice (some ⟨g, 0, none⟩) b.buys.length cp) v2) w W3) := Lib.hid (by rw [← hW']; exact (HO2.out.setCell (p := ⟨g, 4, none⟩) (.inl (.inl (.inr (.inl rfl)))) _).drew)
  clear hW hW' a1 a2 a3 lC g0 g1 g3 g7 g8 g9 g10 g11 g12 lG gf e0 e1 e2 e3 e4 e5 e6 e7 e8 e9 e10 e11 e12 ef el q4 gl gz HX2 HE2 HO2 HG2 hgE hgG hw1
  obtain ⟨a1, a2, a3, lC, g0, g1, g3, g7, g8, g9, g10, g11, g12, lG⟩ := mc_of HX3.out HG3.out
  have gf := fun k => blk_frozen HG3.out k
  obtain ⟨e0, e1, e2, e3, e4, e5, e6, e7, e8, e9, e10, e11, e12, ef, el⟩ := ev_cells HE3.out
  rw [hs] at g7
  go_still_tail 9, (by kernel_rfl)
  change wpList _ _ _ _ _ W3.drew
  go_upto_region 17 with fail
  generalize hW : World.drew (World.setCell W3 _ _) = W4
  have hW' : (W3.setCell ⟨G, 9, none⟩ (.int .u64 (c.left - e.qty))).drew = W4 := hW
  have HX4 : Hid (BkRep W4 C (b.set 1 ({ r with vis := 0 } :: l)) (.slice (some ⟨g, 0, none⟩) b.buys.length cp) v2 p6 p7) := Lib.hid (by rw [← hW']; exact (HX3.out.setG HG3.out _ _).nil (Only.refl Nil _).drew)
  have HG4 : Hid (CgAt W4 G { c with traded := true, left := c.left - e.qty }) := Lib.hid (by rw [← hW']; exact (HG3.out.s9 _).nil (Only.refl Nil _).drew)
  have HO4 : Hid (Only (Ours C G (.slice (some ⟨g, 0, none⟩) b.buys.length cp) v2) w W4) := Lib.hid (by rw [← hW']; exact (HO3.out.setCell (p := ⟨G, 9, none⟩) (.inl (.inr rfl)) _).drew)
  clear hW hW' a1 a2 a3 lC g0 g1 g3 g7 g8 g9 g10 g11 g12 lG gf e0 e1 e2 e3 e4 e5 e6 e7 e8 e9 e10 e11 e12 ef el HX3 HE3 HO3 HG3 hw2
  obtain ⟨a1, a2, a3, lC, g0, g1, g3, g7, g8, g9, g10, g11, g12, lG⟩ := mc_of HX4.out HG4.out
  have gf := fun k => blk_frozen HG4.out k
  have hlen : (b.set 1 ({ r with vis := 0 } :: l)).buys.length = b.buys.length := by rw [Hd.out]; rfl
  have hr4 := HX4.out.r1
  rw [hlen] at hr4
  have HR4 := Lib.hid hr4
  clear hr4 hlen
  have q := fun k (hk : k < 7) => row_at (l := (b.set 1 ({ r with vis := 0 } :: l)).buys) (HR4.out) (i := 0) (r := { r with vis := 0 }) rfl k hk
  have q0 := q 0 (by omega)
  have q4 := q 4 (by omega)
  have q5 := q 5 (by omega)
  have gl : g < W4.heap.size := own_lt HR4.out rfl
  simp only [Rs.cells, Nat.zero_mul, Nat.zero_add, List.getElem?_cons_zero, List.getElem?_cons_succ] at q0 q4 q5
  clear q HR4
  go_wp2_with fail
  refine (gone_any C 0 1 _ _ _ p6 p7 _ HX4.out (by omega) (by rw [Bk.side_set]; simp)).mono ?_
  rintro x W5 ⟨rfl, v1', v2', hx, hf1, hf2, ho⟩
  have hfr : Fresh w C (.slice (some ⟨g, 0, none⟩) b.buys.length cp) v2 v1' v2' := gone_fresh hf1 hf2
  have hGd : ¬ Mine C (.slice (some ⟨g, 0, none⟩) b.buys.length cp) v2 G := by
    have hgd := HG4.out
    unfold CgAt at hgd
    intro hm
    rcases hm with hm | hm | hm
    · exact blk_ne HX4.out.blk hgd (by decide) hm.symm
    · exact own_blk_ne HX4.out.r1 hgd (by decide) hm
    · exact own_blk_ne HX4.out.r2 hgd (by decide) hm
  have HG5 : Hid (CgAt W5 G { c with traded := true, left := c.left - e.qty }) := Lib.hid (ho.blk HG4.out hGd)
  have HO5 : Hid (Only (Ours C G (.slice (some ⟨g, 0, none⟩) b.buys.length cp) v2) w W5) := Lib.hid (HO4.out.trans ho (fun k _ hk => .inl hk))
  rw [Bk.side_set, Bk.set_set, erase_first] at hx
  have HX5 := Lib.hid hx
  have HF := Lib.hid hfr
  clear hx hf1 hf2 ho hfr hGd a1 a2 a3 lC g0 g1 g3 g7 g8 g9 g10 g11 g12 lG gf q0 q4 q5 gl
  go_wp2
  go_end0
  rw [HT.out]
  exact ⟨rfl, v1', v2', HX5.out, HG5.out, HF.out, HO5.out⟩

set_option maxHeartbeats 1600000 in
set_option maxRecDepth 100000 in
theorem takes_trade2c (C G : Nat) (b : Bk) (c : Cg) (v1 v2 p6 p7 : Value) (e : Ev) (w : World) (h : BkRep w C b v1 v2 p6 p7) (hg : CgAt w G c) (hs : c.side = 2) (hk3 : e.kind = 3) (r : Rs) (l : List Rs) (hd : b.side 1 = r :: l) (hq : 0 ≤ e.qty ∧ e.qty ≤ r.vis ∧ e.qty ≤ c.left) (hr : r.vis ≤ 4294967295) (hl : c.left ≤ 4294967295) (hz : r.vis - e.qty ≠ 0) :
    Calls Try.prog 50 #[.pointer (some ⟨C, 0, none⟩), .pointer (some ⟨G, 0, none⟩), .agg e.row] w fun r w' => r = .returned (.tuple #[]) ∧ ∃ v1' v2', BkRep w' C (takes b c e).1 v1' v2' p6 p7 ∧ CgAt w' G (takes b c e).2 ∧ Fresh w C v1 v2 v1' v2' ∧ Only (Ours C G v1 v2) w w' := by
  have hfar : far c.side = 1 := by rw [hs]; rfl
  have HT : Hid (takes b c e = (b.set 1 ({ r with vis := r.vis - e.qty } :: l), { c with traded := true, left := c.left - e.qty })) := Lib.hid (by rw [takes_trade e hk3 (hfar ▸ hd), hfar]; rw [if_neg (fun q => hz q.1), if_neg hz])
  have hk5' : (e.kind == 5) = false := by simp [hk3]
  have hk3' : (e.kind == 3) = true := by simp [hk3]
  have hsub : IntKind.i64.wrap (3 - 2) = 1 := by rw [IntKind.wrap_i64]; omega
  have hsub2 : IntKind.i64.wrap 0 = 0 := by rw [IntKind.wrap_i64]; omega
  have hw1 : IntKind.u64.wrap (r.vis - e.qty) = r.vis - e.qty := by rw [IntKind.wrap_u64]; omega
  have hw2 : IntKind.u64.wrap (c.left - e.qty) = c.left - e.qty := by rw [IntKind.wrap_u64]; omega
  have hz1 : (r.vis - e.qty == 0) = false := by simp [hz]
  have hd' : b.buys = r :: l := hd
  obtain ⟨g, cp, rfl, hgl, hnc, hcm⟩ := own_row h.r1 (by rw [hd']; simp)
  have Hd := Lib.hid hd'
  have hni : (0 : Int) < (b.buys.length : Int) := by rw [hd']; simp
  have hni2 : 0 < b.buys.length := by rw [hd']; simp
  clear hk3 hfar hd hd' hq hz hr hl hgl
  have HX0 := Lib.hid h
  have HG0 := Lib.hid hg
  have HE1 := Lib.hid (blk_new w (.cells e.row tEvt))
  have HX1 := Lib.hid (h.nil ((Only.refl Nil w).alloc (.cells e.row tEvt)))
  have HG1 := Lib.hid (hg.nil ((Only.refl Nil w).alloc (.cells e.row tEvt)))
  have HO1 := Lib.hid ((Only.refl (Ours C G (.slice (some ⟨g, 0, none⟩) b.buys.length cp) v2) w).alloc (.cells e.row tEvt))
  clear h hg
  go_enter Try.func50, Try.ntmps50
  unfold Ev.row
  go_upto_region 1 with fail
  generalize hW : World.alloc w _ = W1
  have hW' : w.alloc (.cells e.row tEvt) = W1 := hW
  rw [hW'] at HE1 HX1 HG1 HO1
  clear hW hW'
  obtain ⟨a1, a2, a3, lC, g0, g1, g3, g7, g8, g9, g10, g11, g12, lG⟩ := mc_of HX1.out HG1.out
  have gf := fun k => blk_frozen HG1.out k
  obtain ⟨e0, e1, e2, e3, e4, e5, e6, e7, e8, e9, e10, e11, e12, ef, el⟩ := ev_cells HE1.out
  rw [hs] at g7
  go_upto_region 2 with fail
  generalize hW : World.setCell W1 _ _ = W2
  have hW' : W1.setCell ⟨G, 10, none⟩ (.bool true) = W2 := hW
  have HX2 : Hid (BkRep W2 C b (.slice (some ⟨g, 0, none⟩) b.buys.length cp) v2 p6 p7) := Lib.hid (by rw [← hW']; exact HX1.out.setG HG1.out _ _)
  have HE2 : Hid (W2.heap[w.heap.size]? = some (.cells e.row tEvt (0, 0))) := Lib.hid (by rw [← hW']; exact blk_far HE1.out (HG1.out.neG HE1.out (by decide)) _)
  have HO2 : Hid (Only (Ours C G (.slice (some ⟨g, 0, none⟩) b.buys.length cp) v2) w W2) := Lib.hid (by rw [← hW']; exact HO1.out.setCell (p := ⟨G, 10, none⟩) (.inl (.inr rfl)) _)
  have HG2 : Hid (CgAt W2 G { c with traded := true }) := Lib.hid (by rw [← hW']; exact HG1.out.s10 true)
  clear hW hW' a1 a2 a3 lC g0 g1 g3 g7 g8 g9 g10 g11 g12 lG gf e0 e1 e2 e3 e4 e5 e6 e7 e8 e9 e10 e11 e12 ef el HX1 HE1 HO1 HG1
  obtain ⟨a1, a2, a3, lC, g0, g1, g3, g7, g8, g9, g10, g11, g12, lG⟩ := mc_of HX2.out HG2.out
  have gf := fun k => blk_frozen HG2.out k
  obtain ⟨e0, e1, e2, e3, e4, e5, e6, e7, e8, e9, e10, e11, e12, ef, el⟩ := ev_cells HE2.out
  rw [hs] at g7
  have q := fun k (hk : k < 7) => row_at HX2.out.r1 (i := 0) (r := r) (by rw [Hd.out]; rfl) k hk
  have q4 := q 4 (by omega)
  have gl : g < W2.heap.size := own_lt HX2.out.r1 rfl
  have gz : W2.frozen? ⟨g, 4, none⟩ = false := by
    obtain ⟨cur, hcur⟩ := own_blkc HX2.out.r1
    exact blk_frozen hcur 4
  simp only [Rs.cells, Nat.zero_mul, Nat.zero_add, List.getElem?_cons_zero, List.getElem?_cons_succ] at q4
  clear q
  go_upto_region 15 with fail
  go_still_tail 9, (by kernel_rfl)
  change wpList _ _ _ _ _ W2.drew
  go_upto_region 16 with fail
  generalize hW : World.drew (World.setCell W2 _ _) = W3
  have hW' : (W2.setCell ⟨g, 4, none⟩ (.int .u64 (r.vis - e.qty))).drew = W3 := hW
  have hgE : g ≠ w.heap.size := ob_ne' (own_blk_ne HX2.out.r1 HE2.out (by decide))
  have hgG : g ≠ G := by
    have hgd := HG2.out
    unfold CgAt at hgd
    exact ob_ne' (own_blk_ne HX2.out.r1 hgd (by decide))
  have HX3 : Hid (BkRep W3 C (b.set 1 ({ r with vis := r.vis - e.qty } :: l)) (.slice (some ⟨g, 0, none⟩) b.buys.length cp) v2 p6 p7) := Lib.hid (by rw [← hW']; exact (HX2.out.setVis1 Hd.out (r.vis - e.qty)).nil (Only.refl Nil _).drew)
  have HE3 : Hid (W3.heap[w.heap.size]? = some (.cells e.row tEvt (0, 0))) := Lib.hid (by rw [← hW']; exact blk_drew (blk_far HE2.out (fun x => hgE x.symm) _))
  have HG3 : Hid (CgAt W3 G { c with traded := true }) := Lib.hid (by rw [← hW']; exact blk_drew (blk_far HG2.out (fun x => hgG x.symm) _))
  have HO3 : Hid (Only (Ours C G (.slice (some ⟨g, 0, none⟩) b.buys.length cp) v2) w W3) := Lib.hid (by rw [← hW']; exact (HO2.out.setCell (p := ⟨g, 4, none⟩) (.inl (.inl (.inr (.inl rfl)))) _).drew)
  clear hW hW' a1 a2 a3 lC g0 g1 g3 g7 g8 g9 g10 g11 g12 lG gf e0 e1 e2 e3 e4 e5 e6 e7 e8 e9 e10 e11 e12 ef el q4 gl gz HX2 HE2 HO2 HG2 hgE hgG hw1
  obtain ⟨a1, a2, a3, lC, g0, g1, g3, g7, g8, g9, g10, g11, g12, lG⟩ := mc_of HX3.out HG3.out
  have gf := fun k => blk_frozen HG3.out k
  obtain ⟨e0, e1, e2, e3, e4, e5, e6, e7, e8, e9, e10, e11, e12, ef, el⟩ := ev_cells HE3.out
  rw [hs] at g7
  go_still_tail 9, (by kernel_rfl)
  change wpList _ _ _ _ _ W3.drew
  go_upto_region 17 with fail
  generalize hW : World.drew (World.setCell W3 _ _) = W4
  have hW' : (W3.setCell ⟨G, 9, none⟩ (.int .u64 (c.left - e.qty))).drew = W4 := hW
  have HX4 : Hid (BkRep W4 C (b.set 1 ({ r with vis := r.vis - e.qty } :: l)) (.slice (some ⟨g, 0, none⟩) b.buys.length cp) v2 p6 p7) := Lib.hid (by rw [← hW']; exact (HX3.out.setG HG3.out _ _).nil (Only.refl Nil _).drew)
  have HG4 : Hid (CgAt W4 G { c with traded := true, left := c.left - e.qty }) := Lib.hid (by rw [← hW']; exact (HG3.out.s9 _).nil (Only.refl Nil _).drew)
  have HO4 : Hid (Only (Ours C G (.slice (some ⟨g, 0, none⟩) b.buys.length cp) v2) w W4) := Lib.hid (by rw [← hW']; exact (HO3.out.setCell (p := ⟨G, 9, none⟩) (.inl (.inr rfl)) _).drew)
  clear hW hW' a1 a2 a3 lC g0 g1 g3 g7 g8 g9 g10 g11 g12 lG gf e0 e1 e2 e3 e4 e5 e6 e7 e8 e9 e10 e11 e12 ef el HX3 HE3 HO3 HG3 hw2
  obtain ⟨a1, a2, a3, lC, g0, g1, g3, g7, g8, g9, g10, g11, g12, lG⟩ := mc_of HX4.out HG4.out
  have gf := fun k => blk_frozen HG4.out k
  have hlen : (b.set 1 ({ r with vis := r.vis - e.qty } :: l)).buys.length = b.buys.length := by rw [Hd.out]; rfl
  have hr4 := HX4.out.r1
  rw [hlen] at hr4
  have HR4 := Lib.hid hr4
  clear hr4 hlen
  have q := fun k (hk : k < 7) => row_at (l := (b.set 1 ({ r with vis := r.vis - e.qty } :: l)).buys) (HR4.out) (i := 0) (r := { r with vis := r.vis - e.qty }) rfl k hk
  have q0 := q 0 (by omega)
  have q4 := q 4 (by omega)
  have q5 := q 5 (by omega)
  have gl : g < W4.heap.size := own_lt HR4.out rfl
  simp only [Rs.cells, Nat.zero_mul, Nat.zero_add, List.getElem?_cons_zero, List.getElem?_cons_succ] at q0 q4 q5
  clear q HR4
  go_wp2
  go_end0
  rw [HT.out]
  exact ⟨rfl, _, _, HX4.out, HG4.out, fun k hk => .inl hk, HO4.out⟩

/-- The event is one that can come. -/
inductive Due (b : Bk) (c : Cg) (e : Ev) : Prop
  | fresh (r : Rs) (l : List Rs) (hk : e.kind = 5) (hd : b.side (far c.side) = r :: l) (hid : e.id = r.id) (hq : 0 ≤ e.qty ∧ e.qty ≤ r.hid)
  | trade (r : Rs) (l : List Rs) (hk : e.kind = 3) (hd : b.side (far c.side) = r :: l) (hq : 0 ≤ e.qty ∧ e.qty ≤ r.vis ∧ e.qty ≤ c.left)
  | own (h5 : e.kind ≠ 5) (h3 : e.kind ≠ 3) (hid : e.id = c.o.id)
  | away (h5 : e.kind ≠ 5) (h3 : e.kind ≠ 3) (hid : e.id ≠ c.o.id) (hn : 0 < (b.side (far c.side)).length)
theorem takes_any (C G : Nat) (b : Bk) (c : Cg) (v1 v2 p6 p7 : Value) (e : Ev) (w : World) (h : BkRep w C b v1 v2 p6 p7) (hg : CgAt w G c) (hb : b.ok) (hc : Cg.ok b c) (hdue : Due b c e) :
    Calls Try.prog 50 #[.pointer (some ⟨C, 0, none⟩), .pointer (some ⟨G, 0, none⟩), .agg e.row] w fun r w' => r = .returned (.tuple #[]) ∧ ∃ v1' v2', BkRep w' C (takes b c e).1 v1' v2' p6 p7 ∧ CgAt w' G (takes b c e).2 ∧ Fresh w C v1 v2 v1' v2' ∧ Only (Ours C G v1 v2) w w' := by
  have hroom := hb.room
  have hl := hc.left.2
  rcases hc.side with hs | hs
  all_goals
    have hfar : far c.side = _ := congrArg far hs
    cases hdue with
    | fresh r l hk hd hid hq =>
      rw [hfar] at hd
      have hrk := hb.side _ r (by rw [hd]; simp)
      have h1 := hrk.sum
      have h2 := hrk.vis
      first
      | exact takes_fresh1 C G b c v1 v2 p6 p7 e w h hg hb hs hk r l hd hid hq (by omega) (by omega)
      | exact takes_fresh2 C G b c v1 v2 p6 p7 e w h hg hb hs hk r l hd hid hq (by omega) (by omega)
    | trade r l hk hd hq =>
      rw [hfar] at hd
      have hrk := hb.side _ r (by rw [hd]; simp)
      have h1 := hrk.sum
      have h2 := hrk.hid
      by_cases hz : r.vis - e.qty = 0
      · by_cases hh : 0 < r.hid
        · first
          | exact takes_trade1a C G b c v1 v2 p6 p7 e w h hg hs hk r l hd hq (by omega) hl hz hh
          | exact takes_trade2a C G b c v1 v2 p6 p7 e w h hg hs hk r l hd hq (by omega) hl hz hh
        · first
          | exact takes_trade1b C G b c v1 v2 p6 p7 e w h hg hs hk r l hd hq (by omega) hl hz hh
          | exact takes_trade2b C G b c v1 v2 p6 p7 e w h hg hs hk r l hd hq (by omega) hl hz hh
      · first
        | exact takes_trade1c C G b c v1 v2 p6 p7 e w h hg hs hk r l hd hq (by omega) hl hz
        | exact takes_trade2c C G b c v1 v2 p6 p7 e w h hg hs hk r l hd hq (by omega) hl hz
    | own h5 h3 hid =>
      first
      | exact takes_own1 C G b c v1 v2 p6 p7 e w h hg hs h5 h3 hid
      | exact takes_own2 C G b c v1 v2 p6 p7 e w h hg hs h5 h3 hid
    | away h5 h3 hid hn =>
      rw [hfar] at hn
      first
      | exact takes_away1 C G b c v1 v2 p6 p7 e w h hg hs h5 h3 hid hn
      | exact takes_away2 C G b c v1 v2 p6 p7 e w h hg hs h5 h3 hid hn

end Ck
end Go.Proofs.Ytcnkbhgdcfckoaa

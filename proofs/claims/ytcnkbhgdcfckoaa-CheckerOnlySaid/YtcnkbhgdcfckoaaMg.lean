/- The walk of must. -/
import Derived.Test.YtcnkbhgdcfckoaaMf
import Derived.Deep.CutRange
import Derived.Test.YtcnkbhgdcfckoaaMb
set_option linter.unusedVariables false
set_option linter.unusedSimpArgs false
namespace Go.Proofs.Ytcnkbhgdcfckoaa
open Go.RowKit
namespace Ck
section
variable {ops : Array Oper} {o : Oper} {a : Act} {w : World} {K : Act → World → Prop} {Q : Exit → Act → World → Prop} {E : Prop}
/-- A whole row is stored, at a step of a region that draws. -/
theorem step_store_row (hgd : o.guard = none) (T : TypeId) (x y : Operand) (ho : o.op = .store T x y) (g : Nat) (hx : a.eval x = .pointer (some ⟨g, 0, none⟩)) (cs old : Array Value) (hy : a.eval y = .agg cs) (t : TypeId)
    (hg : w.heap[g]? = some (.cells old t (0, 0))) (hi : (Try.prog.info? T).map (·.size) = some cs.size) (hs : old.size = cs.size) (h1 : cs.all (·.oneCell') = true)
    (h : K (a.put o.dst undef) (w.setRow g cs)) : if Region.wanted o (yielded ops a.tmps) = true then Oper.wp Try.prog o a w K Q else E := by
  have hw : Region.wanted o (yielded ops a.tmps) = true := by simp [Region.wanted, hgd]
  rw [if_pos hw]
  unfold Oper.wp execOp
  have hr := run_storeVar_row (P := Try.prog) w g t T old cs hg hi hs h1
  simp only [ho, hx, hy, Instr.storeAt, Instr.sureAddr, Sem.run_bind, Sem.run_pure, Result.andThen_ok, hr]
  exact h
end
def mustV : Option Ev → Value
  | none => .tuple #[.agg zE.row, .bool false]
  | some e => .tuple #[.agg e.row, .bool true]
theorem one_ev (e : Ev) : e.row.all (·.oneCell') = true := by cases e; kernel_rfl
theorem cancel_row (id qty why : Int) (w : World) :
    Calls Try.prog 68 #[.int .u64 id, .int .u64 qty, .int .i64 why] w fun e w' => e = .returned (.tuple #[.agg (evCancel id qty why).row, .bool true]) ∧ Only Nil w w' := cancel_any id qty why w
/-- The cells that must reads. -/
structure MC (W : World) (C G : Nat) (b : Bk) (c : Cg) (v1 v2 : Value) : Prop where
  c1 : W.cell? ⟨C, 1, none⟩ = some (.int .i64 b.meet)
  c2 : W.cell? ⟨C, 2, none⟩ = some v1
  c3 : W.cell? ⟨C, 3, none⟩ = some v2
  lC : C < W.heap.size
  g0 : W.cell? ⟨G, 0, none⟩ = some (.int .u64 c.o.id)
  g1 : W.cell? ⟨G, 1, none⟩ = some (.int .u32 c.o.mem)
  g3 : W.cell? ⟨G, 3, none⟩ = some (.int .i64 c.o.price)
  g7 : W.cell? ⟨G, 7, none⟩ = some (.int .i64 c.side)
  g8 : W.cell? ⟨G, 8, none⟩ = some (.int .i64 c.kind)
  g9 : W.cell? ⟨G, 9, none⟩ = some (.int .u64 c.left)
  g10 : W.cell? ⟨G, 10, none⟩ = some (.bool c.traded)
  g11 : W.cell? ⟨G, 11, none⟩ = some (.int .u64 c.empty)
  g12 : W.cell? ⟨G, 12, none⟩ = some (.bool c.met)
  lG : G < W.heap.size
theorem mc_of {w : World} {C G : Nat} {b : Bk} {c : Cg} {v1 v2 p6 p7 : Value} (h : BkRep w C b v1 v2 p6 p7) (hg : CgAt w G c) : MC w C G b c v1 v2 :=
  ⟨blk_cell h.blk 1, blk_cell h.blk 2, blk_cell h.blk 3, blk_lt h.blk, blk_cell hg 0, blk_cell hg 1, blk_cell hg 3, blk_cell hg 7, blk_cell hg 8, blk_cell hg 9, blk_cell hg 10, blk_cell hg 11, blk_cell hg 12, blk_lt hg⟩
theorem findAt_not {id : Int} : ∀ {l : List Rs}, id ∉ l.map Rs.id → findAt id l = none
  | [], _ => rfl
  | r :: l, h => by
    unfold findAt
    rw [if_neg (fun e => h (by simp [e])), findAt_not (fun hm => h (by simp only [List.map_cons, List.mem_cons]; exact .inr hm))]
    rfl
/-- The first order of a side is found there. -/
theorem find_first {b : Bk} (hb : b.ok) {s : Int} (hs : s = 1 ∨ s = 2) {r : Rs} {l : List Rs} (hd : b.side s = r :: l) : b.find r.id = some (s, 0) := by
  have h0 : findAt r.id (r :: l) = some 0 := by unfold findAt; rw [if_pos rfl]
  rcases hs with rfl | rfl
  · have hd' : b.buys = r :: l := hd
    unfold Bk.find
    rw [hd', h0]
  · have hd' : b.sells = r :: l := hd
    have hone := hb.one
    rw [List.map_append, List.nodup_append] at hone
    unfold Bk.find
    rw [findAt_not (fun hm => hone.2.2 _ hm _ (by rw [hd']; simp) rfl), hd', h0]
theorem run_store_ev {W : World} {S : Nat} {z : Ev} (h : W.heap[S]? = some (.cells z.row tEvt (0, 0))) (e : Ev) : e.row.size = 13 ∧ (storeCells ⟨S, 0, none⟩ e.row.toList).run Try.prog W = .ok () (W.setRow S e.row) := by
  refine ⟨rfl, ?_⟩
  have hr := run_storeVar_row (P := Try.prog) W S tEvt tEvt z.row e.row h infoEvt rfl (one_ev e)
  unfold storeVar at hr
  simpa [Value.cells, show e.row.size = 13 from rfl] using hr
theorem first_ok {b : Bk} {c : Cg} (hb : b.ok) (hs : c.side = 1 ∨ c.side = 2) {p : Rs} (hf : first b c = some p) : p.ok mx ∧ ∃ l, b.side (far c.side) = p :: l ∧ meets c.side c.kind c.o.price p.price = true := by
  unfold first at hf
  cases hd : b.side (far c.side) with
  | nil => rw [hd] at hf; cases hf
  | cons q l =>
    rw [hd] at hf
    simp only at hf
    split at hf
    · rename_i hm
      injection hf with hf
      subst hf
      exact ⟨hb.side _ _ (by rw [hd]; simp), l, rfl, hm⟩
    · cases hf
theorem rs_cells {W : World} {S : Nat} {r : Rs} (h : W.heap[S]? = some (.cells r.row tR (0, 0))) :
    W.cell? ⟨S, 0, none⟩ = some (.int .u64 r.id) ∧ W.cell? ⟨S, 1, none⟩ = some (.int .u32 r.mem) ∧ W.cell? ⟨S, 2, none⟩ = some (.int .i64 r.typ) ∧ W.cell? ⟨S, 3, none⟩ = some (.int .i64 r.price) ∧ W.cell? ⟨S, 4, none⟩ = some (.int .u64 r.vis) ∧
    W.cell? ⟨S, 5, none⟩ = some (.int .u64 r.hid) ∧ W.cell? ⟨S, 6, none⟩ = some (.int .u64 r.peak) ∧ S < W.heap.size :=
  ⟨blk_cell h 0, blk_cell h 1, blk_cell h 2, blk_cell h 3, blk_cell h 4, blk_cell h 5, blk_cell h 6, blk_lt h⟩

set_option maxHeartbeats 1600000 in
set_option maxRecDepth 100000 in
theorem must_fresh1a (C G : Nat) (b : Bk) (c : Cg) (v1 v2 p6 p7 : Value) (wh : Bool) (w : World) (h : BkRep w C b v1 v2 p6 p7) (hg : CgAt w G c) (hb : b.ok) (r : Rs) (l : List Rs) (hd : b.side (far c.side) = r :: l) (hr : r.id = c.empty) (he : c.empty ≠ 0) (hs : c.side = 1) (hlt : r.hid < r.peak) :
    Calls Try.prog 49 #[.pointer (some ⟨C, 0, none⟩), .pointer (some ⟨G, 0, none⟩)] w fun e w' => e = .returned (mustV (must wh b c)) ∧ Only Nil w w' := by
  have hfar : far c.side = 2 := by rw [hs]; rfl
  have hfind : b.find c.empty = some (2, 0) := by rw [← hr]; exact find_first hb (by omega) (hfar ▸ hd)
  have hm : must wh b c = some (evFresh r r.hid) := by
    have : r.hid = min r.peak r.hid := by omega
    unfold must; rw [if_pos he, hd, this]; rfl
  have hd' : b.sells = r :: l := by rw [hfar] at hd; exact hd
  have HF := Lib.hid (fun W (ho : Only Nil w W) => find_any c.empty C b v1 v2 p6 p7 W (h.nil ho))
  have HC := Lib.hid (fun W (ho : Only Nil w W) => mc_of (h.nil ho) (hg.nil ho))
  have HR := Lib.hid (fun W (ho : Only Nil w W) => (h.nil ho).r2)
  have hn : 0 < b.sells.length := by rw [hd']; simp
  obtain ⟨g, cp, rfl, hgl, hnc, hcm⟩ := own_row h.r2 hn
  have Hq := Lib.hid (fun W (ho : Only Nil w W) k (hk : k < 7) => row_at (HR.out W ho) (i := 0) (r := r) (by rw [hd']; rfl) k hk)
  rw [hfind] at HF
  rw [hm]
  unfold findV at HF
  have HZ : Hid ((w.alloc (.cells zE.row tEvt)).heap[w.heap.size]? = some (.cells zE.row tEvt (0, 0))) := Lib.hid (blk_new w (.cells zE.row tEvt))
  have HO := Lib.hid ((Only.refl Nil w).alloc (.cells zE.row tEvt))
  have hne : (c.empty != 0) = true := by simp [he]
  have hw1 : IntKind.i64.wrap 1 = 1 := by rw [IntKind.wrap_i64]; omega
  have hni : (0 : Int) < (b.sells.length : Int) := by omega
  skip
  clear hfind hm hb hg h hfar hr he hd hd' HR
  generalize b.sells.length = N at *
  go_enter Try.func49, Try.ntmps49
  go_upto_region 2 with fail
  generalize hW : World.alloc w _ = W
  have hW' : w.alloc (.cells zE.row tEvt) = W := hW
  rw [hW'] at HZ HO
  clear hW hW'
  obtain ⟨a1, a2, a3, lC, g0, g1, g3, g7, g8, g9, g10, g11, g12, lG⟩ := HC.out W HO.out
  have lz := blk_lt HZ.out
  rw [hs] at g7
  go_wp2_with fail
  refine (HF.out _ HO.out).mono ?_
  rintro e w1 ⟨rfl, ho⟩
  have HO1 := Lib.hid (HO.out.trans (S := Nil) ho (fun _ _ h => h))
  have HZ1 := Lib.hid (ho.blk HZ.out (fun h => h))
  clear a1 a2 a3 lC g0 g1 g3 g7 g8 g9 g10 g11 g12 lG ho HO HZ lz
  obtain ⟨a1, a2, a3, lC, g0, g1, g3, g7, g8, g9, g10, g11, g12, lG⟩ := HC.out w1 HO1.out
  rw [hs] at g7
  have lz := blk_lt HZ1.out
  have lg : g < w1.heap.size := Nat.lt_of_lt_of_le hgl HO1.out.size
  have q0 := Hq.out _ HO1.out 0 (by omega)
  have q1 := Hq.out _ HO1.out 1 (by omega)
  have q2 := Hq.out _ HO1.out 2 (by omega)
  have q3 := Hq.out _ HO1.out 3 (by omega)
  have q4 := Hq.out _ HO1.out 4 (by omega)
  have q5 := Hq.out _ HO1.out 5 (by omega)
  have q6 := Hq.out _ HO1.out 6 (by omega)
  simp only [Rs.cells, Nat.zero_mul, Nat.zero_add, List.getElem?_cons_zero, List.getElem?_cons_succ] at q0 q1 q2 q3 q4 q5 q6
  go_upto_region 4 with fail
  go_cut [10] from 13 to 200 (fun v10 wc => v10 = .pointer (some ⟨w1.heap.size, 0, none⟩) ∧ Hid (wc.heap[w1.heap.size]? = some (.cells r.row tR (0, 0))) ∧ Hid (wc.heap[w.heap.size]? = some (.cells zE.row tEvt (0, 0))) ∧ Hid (Only Nil w wc))
  case first =>
    go_region_law (fail)
    all_goals
      go_wp2
      go_meet
      case rel => exact ⟨rfl, Lib.hid (blk_new w1.drew (.cells r.row tR)), Lib.hid (blk_alloc (blk_drew HZ1.out) _), Lib.hid (HO1.out.drew.alloc _)⟩
  case rest =>
    obtain ⟨rfl, HT, HZ2, HO2⟩ := hcut
    clear a1 a2 a3 lC g0 g1 g3 g7 g8 g9 g10 g11 g12 lG q0 q1 q2 q3 q4 q5 q6 lz
    have q0 := blk_cell HT.out 0
    have q3 := blk_cell HT.out 3
    have q5 := blk_cell HT.out 5
    have q6 := blk_cell HT.out 6
    have lt := blk_lt HT.out
    simp only [Rs.row, List.getElem?_toArray, List.getElem?_cons_zero, List.getElem?_cons_succ] at q0 q3 q5 q6
    go_wp2_with (refine wpList_store_row rfl tEvt (.tmp 4) (.tmp 50) rfl _ rfl (evFresh r r.hid).row zE.row rfl _ HZ2.out infoEvt rfl (one_ev _) ?_)
    refine bodyPost_ret (v := .tuple #[.agg (evFresh r r.hid).row, .bool true]) (results_agg_tmp rfl _ _ _ _ _ _ _ rfl _ rfl (blk_setRow HZ2.out _) Try.underlying37 rfl infoEvt) rfl ⟨rfl, HO2.out.setRow (.inr (Nat.le_refl _)) _⟩

set_option maxHeartbeats 1600000 in
set_option maxRecDepth 100000 in
theorem must_fresh1b (C G : Nat) (b : Bk) (c : Cg) (v1 v2 p6 p7 : Value) (wh : Bool) (w : World) (h : BkRep w C b v1 v2 p6 p7) (hg : CgAt w G c) (hb : b.ok) (r : Rs) (l : List Rs) (hd : b.side (far c.side) = r :: l) (hr : r.id = c.empty) (he : c.empty ≠ 0) (hs : c.side = 1) (hlt : ¬ r.hid < r.peak) :
    Calls Try.prog 49 #[.pointer (some ⟨C, 0, none⟩), .pointer (some ⟨G, 0, none⟩)] w fun e w' => e = .returned (mustV (must wh b c)) ∧ Only Nil w w' := by
  have hfar : far c.side = 2 := by rw [hs]; rfl
  have hfind : b.find c.empty = some (2, 0) := by rw [← hr]; exact find_first hb (by omega) (hfar ▸ hd)
  have hm : must wh b c = some (evFresh r r.peak) := by
    have : r.peak = min r.peak r.hid := by omega
    unfold must; rw [if_pos he, hd, this]; rfl
  have hd' : b.sells = r :: l := by rw [hfar] at hd; exact hd
  have HF := Lib.hid (fun W (ho : Only Nil w W) => find_any c.empty C b v1 v2 p6 p7 W (h.nil ho))
  have HC := Lib.hid (fun W (ho : Only Nil w W) => mc_of (h.nil ho) (hg.nil ho))
  have HR := Lib.hid (fun W (ho : Only Nil w W) => (h.nil ho).r2)
  have hn : 0 < b.sells.length := by rw [hd']; simp
  obtain ⟨g, cp, rfl, hgl, hnc, hcm⟩ := own_row h.r2 hn
  have Hq := Lib.hid (fun W (ho : Only Nil w W) k (hk : k < 7) => row_at (HR.out W ho) (i := 0) (r := r) (by rw [hd']; rfl) k hk)
  rw [hfind] at HF
  rw [hm]
  unfold findV at HF
  have HZ : Hid ((w.alloc (.cells zE.row tEvt)).heap[w.heap.size]? = some (.cells zE.row tEvt (0, 0))) := Lib.hid (blk_new w (.cells zE.row tEvt))
  have HO := Lib.hid ((Only.refl Nil w).alloc (.cells zE.row tEvt))
  have hne : (c.empty != 0) = true := by simp [he]
  have hw1 : IntKind.i64.wrap 1 = 1 := by rw [IntKind.wrap_i64]; omega
  have hni : (0 : Int) < (b.sells.length : Int) := by omega
  have hF : (r.hid < r.peak) = False := by simp only [eq_iff_iff, iff_false]; exact hlt
  clear hlt
  clear hfind hm hb hg h hfar hr he hd hd' HR
  generalize b.sells.length = N at *
  go_enter Try.func49, Try.ntmps49
  go_upto_region 2 with fail
  generalize hW : World.alloc w _ = W
  have hW' : w.alloc (.cells zE.row tEvt) = W := hW
  rw [hW'] at HZ HO
  clear hW hW'
  obtain ⟨a1, a2, a3, lC, g0, g1, g3, g7, g8, g9, g10, g11, g12, lG⟩ := HC.out W HO.out
  have lz := blk_lt HZ.out
  rw [hs] at g7
  go_wp2_with fail
  refine (HF.out _ HO.out).mono ?_
  rintro e w1 ⟨rfl, ho⟩
  have HO1 := Lib.hid (HO.out.trans (S := Nil) ho (fun _ _ h => h))
  have HZ1 := Lib.hid (ho.blk HZ.out (fun h => h))
  clear a1 a2 a3 lC g0 g1 g3 g7 g8 g9 g10 g11 g12 lG ho HO HZ lz
  obtain ⟨a1, a2, a3, lC, g0, g1, g3, g7, g8, g9, g10, g11, g12, lG⟩ := HC.out w1 HO1.out
  rw [hs] at g7
  have lz := blk_lt HZ1.out
  have lg : g < w1.heap.size := Nat.lt_of_lt_of_le hgl HO1.out.size
  have q0 := Hq.out _ HO1.out 0 (by omega)
  have q1 := Hq.out _ HO1.out 1 (by omega)
  have q2 := Hq.out _ HO1.out 2 (by omega)
  have q3 := Hq.out _ HO1.out 3 (by omega)
  have q4 := Hq.out _ HO1.out 4 (by omega)
  have q5 := Hq.out _ HO1.out 5 (by omega)
  have q6 := Hq.out _ HO1.out 6 (by omega)
  simp only [Rs.cells, Nat.zero_mul, Nat.zero_add, List.getElem?_cons_zero, List.getElem?_cons_succ] at q0 q1 q2 q3 q4 q5 q6
  go_upto_region 4 with fail
  go_cut [10] from 13 to 200 (fun v10 wc => v10 = .pointer (some ⟨w1.heap.size, 0, none⟩) ∧ Hid (wc.heap[w1.heap.size]? = some (.cells r.row tR (0, 0))) ∧ Hid (wc.heap[w.heap.size]? = some (.cells zE.row tEvt (0, 0))) ∧ Hid (Only Nil w wc))
  case first =>
    go_region_law (fail)
    all_goals
      go_wp2
      go_meet
      case rel => exact ⟨rfl, Lib.hid (blk_new w1.drew (.cells r.row tR)), Lib.hid (blk_alloc (blk_drew HZ1.out) _), Lib.hid (HO1.out.drew.alloc _)⟩
  case rest =>
    obtain ⟨rfl, HT, HZ2, HO2⟩ := hcut
    clear a1 a2 a3 lC g0 g1 g3 g7 g8 g9 g10 g11 g12 lG q0 q1 q2 q3 q4 q5 q6 lz
    have q0 := blk_cell HT.out 0
    have q3 := blk_cell HT.out 3
    have q5 := blk_cell HT.out 5
    have q6 := blk_cell HT.out 6
    have lt := blk_lt HT.out
    simp only [Rs.row, List.getElem?_toArray, List.getElem?_cons_zero, List.getElem?_cons_succ] at q0 q3 q5 q6
    go_wp2_with (refine wpList_store_row rfl tEvt (.tmp 4) (.tmp 50) rfl _ rfl (evFresh r r.peak).row zE.row rfl _ HZ2.out infoEvt rfl (one_ev _) ?_)
    refine bodyPost_ret (v := .tuple #[.agg (evFresh r r.peak).row, .bool true]) (results_agg_tmp rfl _ _ _ _ _ _ _ rfl _ rfl (blk_setRow HZ2.out _) Try.underlying37 rfl infoEvt) rfl ⟨rfl, HO2.out.setRow (.inr (Nat.le_refl _)) _⟩

set_option maxHeartbeats 1600000 in
set_option maxRecDepth 100000 in
theorem must_fresh2a (C G : Nat) (b : Bk) (c : Cg) (v1 v2 p6 p7 : Value) (wh : Bool) (w : World) (h : BkRep w C b v1 v2 p6 p7) (hg : CgAt w G c) (hb : b.ok) (r : Rs) (l : List Rs) (hd : b.side (far c.side) = r :: l) (hr : r.id = c.empty) (he : c.empty ≠ 0) (hs : c.side = 2) (hlt : r.hid < r.peak) :
    Calls Try.prog 49 #[.pointer (some ⟨C, 0, none⟩), .pointer (some ⟨G, 0, none⟩)] w fun e w' => e = .returned (mustV (must wh b c)) ∧ Only Nil w w' := by
  have hfar : far c.side = 1 := by rw [hs]; rfl
  have hfind : b.find c.empty = some (1, 0) := by rw [← hr]; exact find_first hb (by omega) (hfar ▸ hd)
  have hm : must wh b c = some (evFresh r r.hid) := by
    have : r.hid = min r.peak r.hid := by omega
    unfold must; rw [if_pos he, hd, this]; rfl
  have hd' : b.buys = r :: l := by rw [hfar] at hd; exact hd
  have HF := Lib.hid (fun W (ho : Only Nil w W) => find_any c.empty C b v1 v2 p6 p7 W (h.nil ho))
  have HC := Lib.hid (fun W (ho : Only Nil w W) => mc_of (h.nil ho) (hg.nil ho))
  have HR := Lib.hid (fun W (ho : Only Nil w W) => (h.nil ho).r1)
  have hn : 0 < b.buys.length := by rw [hd']; simp
  obtain ⟨g, cp, rfl, hgl, hnc, hcm⟩ := own_row h.r1 hn
  have Hq := Lib.hid (fun W (ho : Only Nil w W) k (hk : k < 7) => row_at (HR.out W ho) (i := 0) (r := r) (by rw [hd']; rfl) k hk)
  rw [hfind] at HF
  rw [hm]
  unfold findV at HF
  have HZ : Hid ((w.alloc (.cells zE.row tEvt)).heap[w.heap.size]? = some (.cells zE.row tEvt (0, 0))) := Lib.hid (blk_new w (.cells zE.row tEvt))
  have HO := Lib.hid ((Only.refl Nil w).alloc (.cells zE.row tEvt))
  have hne : (c.empty != 0) = true := by simp [he]
  have hw1 : IntKind.i64.wrap 0 = 0 := by rw [IntKind.wrap_i64]; omega
  have hni : (0 : Int) < (b.buys.length : Int) := by omega
  skip
  clear hfind hm hb hg h hfar hr he hd hd' HR
  generalize b.buys.length = N at *
  go_enter Try.func49, Try.ntmps49
  go_upto_region 2 with fail
  generalize hW : World.alloc w _ = W
  have hW' : w.alloc (.cells zE.row tEvt) = W := hW
  rw [hW'] at HZ HO
  clear hW hW'
  obtain ⟨a1, a2, a3, lC, g0, g1, g3, g7, g8, g9, g10, g11, g12, lG⟩ := HC.out W HO.out
  have lz := blk_lt HZ.out
  rw [hs] at g7
  go_wp2_with fail
  refine (HF.out _ HO.out).mono ?_
  rintro e w1 ⟨rfl, ho⟩
  have HO1 := Lib.hid (HO.out.trans (S := Nil) ho (fun _ _ h => h))
  have HZ1 := Lib.hid (ho.blk HZ.out (fun h => h))
  clear a1 a2 a3 lC g0 g1 g3 g7 g8 g9 g10 g11 g12 lG ho HO HZ lz
  obtain ⟨a1, a2, a3, lC, g0, g1, g3, g7, g8, g9, g10, g11, g12, lG⟩ := HC.out w1 HO1.out
  rw [hs] at g7
  have lz := blk_lt HZ1.out
  have lg : g < w1.heap.size := Nat.lt_of_lt_of_le hgl HO1.out.size
  have q0 := Hq.out _ HO1.out 0 (by omega)
  have q1 := Hq.out _ HO1.out 1 (by omega)
  have q2 := Hq.out _ HO1.out 2 (by omega)
  have q3 := Hq.out _ HO1.out 3 (by omega)
  have q4 := Hq.out _ HO1.out 4 (by omega)
  have q5 := Hq.out _ HO1.out 5 (by omega)
  have q6 := Hq.out _ HO1.out 6 (by omega)
  simp only [Rs.cells, Nat.zero_mul, Nat.zero_add, List.getElem?_cons_zero, List.getElem?_cons_succ] at q0 q1 q2 q3 q4 q5 q6
  go_upto_region 4 with fail
  go_cut [10] from 13 to 200 (fun v10 wc => v10 = .pointer (some ⟨w1.heap.size, 0, none⟩) ∧ Hid (wc.heap[w1.heap.size]? = some (.cells r.row tR (0, 0))) ∧ Hid (wc.heap[w.heap.size]? = some (.cells zE.row tEvt (0, 0))) ∧ Hid (Only Nil w wc))
  case first =>
    go_region_law (fail)
    all_goals
      go_wp2
      go_meet
      case rel => exact ⟨rfl, Lib.hid (blk_new w1.drew (.cells r.row tR)), Lib.hid (blk_alloc (blk_drew HZ1.out) _), Lib.hid (HO1.out.drew.alloc _)⟩
  case rest =>
    obtain ⟨rfl, HT, HZ2, HO2⟩ := hcut
    clear a1 a2 a3 lC g0 g1 g3 g7 g8 g9 g10 g11 g12 lG q0 q1 q2 q3 q4 q5 q6 lz
    have q0 := blk_cell HT.out 0
    have q3 := blk_cell HT.out 3
    have q5 := blk_cell HT.out 5
    have q6 := blk_cell HT.out 6
    have lt := blk_lt HT.out
    simp only [Rs.row, List.getElem?_toArray, List.getElem?_cons_zero, List.getElem?_cons_succ] at q0 q3 q5 q6
    go_wp2_with (refine wpList_store_row rfl tEvt (.tmp 4) (.tmp 50) rfl _ rfl (evFresh r r.hid).row zE.row rfl _ HZ2.out infoEvt rfl (one_ev _) ?_)
    refine bodyPost_ret (v := .tuple #[.agg (evFresh r r.hid).row, .bool true]) (results_agg_tmp rfl _ _ _ _ _ _ _ rfl _ rfl (blk_setRow HZ2.out _) Try.underlying37 rfl infoEvt) rfl ⟨rfl, HO2.out.setRow (.inr (Nat.le_refl _)) _⟩

set_option maxHeartbeats 1600000 in
set_option maxRecDepth 100000 in
theorem must_fresh2b (C G : Nat) (b : Bk) (c : Cg) (v1 v2 p6 p7 : Value) (wh : Bool) (w : World) (h : BkRep w C b v1 v2 p6 p7) (hg : CgAt w G c) (hb : b.ok) (r : Rs) (l : List Rs) (hd : b.side (far c.side) = r :: l) (hr : r.id = c.empty) (he : c.empty ≠ 0) (hs : c.side = 2) (hlt : ¬ r.hid < r.peak) :
    Calls Try.prog 49 #[.pointer (some ⟨C, 0, none⟩), .pointer (some ⟨G, 0, none⟩)] w fun e w' => e = .returned (mustV (must wh b c)) ∧ Only Nil w w' := by
  have hfar : far c.side = 1 := by rw [hs]; rfl
  have hfind : b.find c.empty = some (1, 0) := by rw [← hr]; exact find_first hb (by omega) (hfar ▸ hd)
  have hm : must wh b c = some (evFresh r r.peak) := by
    have : r.peak = min r.peak r.hid := by omega
    unfold must; rw [if_pos he, hd, this]; rfl
  have hd' : b.buys = r :: l := by rw [hfar] at hd; exact hd
  have HF := Lib.hid (fun W (ho : Only Nil w W) => find_any c.empty C b v1 v2 p6 p7 W (h.nil ho))
  have HC := Lib.hid (fun W (ho : Only Nil w W) => mc_of (h.nil ho) (hg.nil ho))
  have HR := Lib.hid (fun W (ho : Only Nil w W) => (h.nil ho).r1)
  have hn : 0 < b.buys.length := by rw [hd']; simp
  obtain ⟨g, cp, rfl, hgl, hnc, hcm⟩ := own_row h.r1 hn
  have Hq := Lib.hid (fun W (ho : Only Nil w W) k (hk : k < 7) => row_at (HR.out W ho) (i := 0) (r := r) (by rw [hd']; rfl) k hk)
  rw [hfind] at HF
  rw [hm]
  unfold findV at HF
  have HZ : Hid ((w.alloc (.cells zE.row tEvt)).heap[w.heap.size]? = some (.cells zE.row tEvt (0, 0))) := Lib.hid (blk_new w (.cells zE.row tEvt))
  have HO := Lib.hid ((Only.refl Nil w).alloc (.cells zE.row tEvt))
  have hne : (c.empty != 0) = true := by simp [he]
  have hw1 : IntKind.i64.wrap 0 = 0 := by rw [IntKind.wrap_i64]; omega
  have hni : (0 : Int) < (b.buys.length : Int) := by omega
  have hF : (r.hid < r.peak) = False := by simp only [eq_iff_iff, iff_false]; exact hlt
  clear hlt
  clear hfind hm hb hg h hfar hr he hd hd' HR
  generalize b.buys.length = N at *
  go_enter Try.func49, Try.ntmps49
  go_upto_region 2 with fail
  generalize hW : World.alloc w _ = W
  have hW' : w.alloc (.cells zE.row tEvt) = W := hW
  rw [hW'] at HZ HO
  clear hW hW'
  obtain ⟨a1, a2, a3, lC, g0, g1, g3, g7, g8, g9, g10, g11, g12, lG⟩ := HC.out W HO.out
  have lz := blk_lt HZ.out
  rw [hs] at g7
  go_wp2_with fail
  refine (HF.out _ HO.out).mono ?_
  rintro e w1 ⟨rfl, ho⟩
  have HO1 := Lib.hid (HO.out.trans (S := Nil) ho (fun _ _ h => h))
  have HZ1 := Lib.hid (ho.blk HZ.out (fun h => h))
  clear a1 a2 a3 lC g0 g1 g3 g7 g8 g9 g10 g11 g12 lG ho HO HZ lz
  obtain ⟨a1, a2, a3, lC, g0, g1, g3, g7, g8, g9, g10, g11, g12, lG⟩ := HC.out w1 HO1.out
  rw [hs] at g7
  have lz := blk_lt HZ1.out
  have lg : g < w1.heap.size := Nat.lt_of_lt_of_le hgl HO1.out.size
  have q0 := Hq.out _ HO1.out 0 (by omega)
  have q1 := Hq.out _ HO1.out 1 (by omega)
  have q2 := Hq.out _ HO1.out 2 (by omega)
  have q3 := Hq.out _ HO1.out 3 (by omega)
  have q4 := Hq.out _ HO1.out 4 (by omega)
  have q5 := Hq.out _ HO1.out 5 (by omega)
  have q6 := Hq.out _ HO1.out 6 (by omega)
  simp only [Rs.cells, Nat.zero_mul, Nat.zero_add, List.getElem?_cons_zero, List.getElem?_cons_succ] at q0 q1 q2 q3 q4 q5 q6
  go_upto_region 4 with fail
  go_cut [10] from 13 to 200 (fun v10 wc => v10 = .pointer (some ⟨w1.heap.size, 0, none⟩) ∧ Hid (wc.heap[w1.heap.size]? = some (.cells r.row tR (0, 0))) ∧ Hid (wc.heap[w.heap.size]? = some (.cells zE.row tEvt (0, 0))) ∧ Hid (Only Nil w wc))
  case first =>
    go_region_law (fail)
    all_goals
      go_wp2
      go_meet
      case rel => exact ⟨rfl, Lib.hid (blk_new w1.drew (.cells r.row tR)), Lib.hid (blk_alloc (blk_drew HZ1.out) _), Lib.hid (HO1.out.drew.alloc _)⟩
  case rest =>
    obtain ⟨rfl, HT, HZ2, HO2⟩ := hcut
    clear a1 a2 a3 lC g0 g1 g3 g7 g8 g9 g10 g11 g12 lG q0 q1 q2 q3 q4 q5 q6 lz
    have q0 := blk_cell HT.out 0
    have q3 := blk_cell HT.out 3
    have q5 := blk_cell HT.out 5
    have q6 := blk_cell HT.out 6
    have lt := blk_lt HT.out
    simp only [Rs.row, List.getElem?_toArray, List.getElem?_cons_zero, List.getElem?_cons_succ] at q0 q3 q5 q6
    go_wp2_with (refine wpList_store_row rfl tEvt (.tmp 4) (.tmp 50) rfl _ rfl (evFresh r r.peak).row zE.row rfl _ HZ2.out infoEvt rfl (one_ev _) ?_)
    refine bodyPost_ret (v := .tuple #[.agg (evFresh r r.peak).row, .bool true]) (results_agg_tmp rfl _ _ _ _ _ _ _ rfl _ rfl (blk_setRow HZ2.out _) Try.underlying37 rfl infoEvt) rfl ⟨rfl, HO2.out.setRow (.inr (Nat.le_refl _)) _⟩

set_option maxHeartbeats 1600000 in
set_option maxRecDepth 100000 in
theorem must_fok (C G : Nat) (b : Bk) (c : Cg) (v1 v2 p6 p7 : Value) (wh : Bool) (w : World) (h : BkRep w C b v1 v2 p6 p7) (hg : CgAt w G c) (hs : c.side = 1 ∨ c.side = 2) (he : c.empty = 0) (hk : c.kind = 4) (ht : c.traded = false) (hwh : wh = false) (HW : c.kind = 4 → c.traded = false → Hid (∀ W, Only Nil w W → Calls Try.prog 69 #[.pointer (some ⟨C, 0, none⟩), .pointer (some ⟨G, 0, none⟩)] W fun e w' => e = .returned (.bool wh) ∧ Only Nil W w')) :
    Calls Try.prog 49 #[.pointer (some ⟨C, 0, none⟩), .pointer (some ⟨G, 0, none⟩)] w fun e w' => e = .returned (mustV (must wh b c)) ∧ Only Nil w w' := by
  have HM : Hid (must wh b c = some (evCancel c.o.id c.left 4)) := Lib.hid (by unfold must; rw [if_neg (by rw [he]; simp), if_pos ⟨hk, ht, hwh⟩])
  replace HW := HW hk ht
  have HC := Lib.hid (fun W (ho : Only Nil w W) => mc_of (h.nil ho) (hg.nil ho))
  have HFi := Lib.hid (fun W (ho : Only Nil w W) => first_any C G b c v1 v2 p6 p7 W (h.nil ho) (hg.nil ho) hs)
  have HOw := Lib.hid (fun o W (ho : Only Nil w W) => own_any C G b c o v1 v2 p6 p7 W (h.nil ho) (hg.nil ho))
  have HCn := Lib.hid (fun why W => cancel_row c.o.id c.left why W)
  have HZ : Hid ((w.alloc (.cells zE.row tEvt)).heap[w.heap.size]? = some (.cells zE.row tEvt (0, 0))) := Lib.hid (blk_new w (.cells zE.row tEvt))
  have HO := Lib.hid ((Only.refl Nil w).alloc (.cells zE.row tEvt))
  have hne : (c.empty != 0) = false := by simp [he]
  rw [hwh] at HW
  clear h hg he hs
  go_enter Try.func49, Try.ntmps49
  go_upto_region 2 with fail
  generalize hW : World.alloc w _ = W
  have hW' : w.alloc (.cells zE.row tEvt) = W := hW
  rw [hW'] at HZ HO
  clear hW hW'
  obtain ⟨a1, a2, a3, lC, g0, g1, g3, g7, g8, g9, g10, g11, g12, lG⟩ := HC.out W HO.out
  have lz := blk_lt HZ.out
  rw [hk] at g8
  rw [ht] at g10
  go_wp2_with fail
  refine (HW.out _ HO.out).mono ?_
  rintro e w1 ⟨rfl, ho⟩
  have HO1 := Lib.hid (HO.out.trans (S := Nil) ho (fun _ _ h => h))
  have HZ1 := Lib.hid (ho.blk HZ.out (fun h => h))
  clear a1 a2 a3 lC g0 g1 g3 g7 g8 g9 g10 g11 g12 lG ho HO HZ lz
  obtain ⟨a1, a2, a3, lC, g0, g1, g3, g7, g8, g9, g10, g11, g12, lG⟩ := HC.out w1 HO1.out
  have lz := blk_lt HZ1.out
  go_upto_region 7 with fail
  go_region_law (go_simp; go_at_call 68; (refine (HCn.out 4 _).mono ?_); rintro e wg ⟨rfl, hog⟩; have HZg := Lib.hid (hog.blk (blk_drew HZ1.out) (fun h => h)); have HOg := Lib.hid (HO1.out.drew.trans (S := Nil) hog (fun _ _ h => h)); obtain ⟨hs1, hs2⟩ := run_store_ev HZg.out (evCancel c.o.id c.left 4))
  all_goals
    clear hs1 hs2 a1 a2 a3 lC g0 g1 g3 g7 g8 g9 g10 g11 g12 lG
    go_wp2
    refine bodyPost_ret (v := .tuple #[.agg (evCancel c.o.id c.left 4).row, .bool true]) (results_agg_tmp rfl _ _ _ _ _ _ _ rfl _ rfl (blk_setRow HZg.out _) Try.underlying37 rfl infoEvt) rfl ⟨by rw [HM.out]; rfl, HOg.out.setRow (.inr (Nat.le_refl _)) _⟩

end Ck
end Go.Proofs.Ytcnkbhgdcfckoaa

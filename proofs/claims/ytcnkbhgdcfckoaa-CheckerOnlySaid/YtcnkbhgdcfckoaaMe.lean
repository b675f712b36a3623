/- The walk of first. -/
import Derived.Test.YtcnkbhgdcfckoaaMd
import Derived.Deep.CutRange
import Derived.Deep.RegionLaw
import Derived.Test.YtcnkbhgdcfckoaaMb
set_option linter.unusedVariables false
set_option linter.unusedSimpArgs false
namespace Go.Proofs.Ytcnkbhgdcfckoaa
open Go.RowKit
namespace Ck
set_option maxHeartbeats 1600000 in
set_option maxRecDepth 100000 in
theorem first_any (C G : Nat) (b : Bk) (c : Cg) (v1 v2 p6 p7 : Value) (w : World) (h : BkRep w C b v1 v2 p6 p7) (hg : CgAt w G c) (hc : c.side = 1 ∨ c.side = 2) :
    Calls Try.prog 70 #[.pointer (some ⟨C, 0, none⟩), .pointer (some ⟨G, 0, none⟩)] w fun e w' => e = .returned (firstV (first b c)) ∧ Only Nil w w' := by
  obtain ⟨A1, c1, rfl, _⟩ := own_slice h.r1
  obtain ⟨A2, c2, rfl, _⟩ := own_slice h.r2
  have HB := Lib.hid h
  have l0 := blk_lt h.blk
  have a2 := blk_cell h.blk 2
  have a3 := blk_cell h.blk 3
  simp only [List.getElem?_toArray, List.getElem?_cons_zero, List.getElem?_cons_succ] at a2 a3
  unfold CgAt at hg
  have l1 := blk_lt hg
  have g3 := blk_cell hg 3
  have g7 := blk_cell hg 7
  have g8 := blk_cell hg 8
  simp only [List.getElem?_toArray, List.getElem?_cons_zero, List.getElem?_cons_succ] at g3 g7 g8
  have HM := Lib.hid (fun k o p W => (meets_any c.side k o p W).mono (fun _ _ ⟨h1, h2⟩ => (⟨h1, h2.symm⟩ : _ ∧ _ = W)))
  have HZ := Lib.hid (blk_new w (.cells zR.row tR))
  have HO := Lib.hid ((Only.refl Nil w).alloc (.cells zR.row tR))
  clear h hg
  have hfar : b.side (far c.side) = if c.side = 1 then b.sells else b.buys := by
    rcases hc with h | h <;> rw [h] <;> rfl
  rcases hc with hs | hs
  · have HL : Hid (b.side (far c.side) = b.sells) := Lib.hid (by rw [hfar, if_pos hs])
    have HF : Hid (first b c = match b.sells with
      | [] => none
      | p :: _ => if meets c.side c.kind c.o.price p.price then some p else none) := Lib.hid (by unfold first; rw [HL.out]; rfl)
    have HR := Lib.hid HB.out.r2
    rw [hs] at g7
    clear hfar HB
    go_enter Try.func70, Try.ntmps70
    go_upto_region 1 with fail
    generalize hW : w.alloc (.cells #[.int .u64 0, .int .u32 0, .int .i64 0, .int .i64 0, .int .u64 0, .int .u64 0, .int .u64 0] 50) = W
    have HZ1 : Hid (W.heap[w.heap.size]? = some (.cells zR.row tR (0, 0))) := Lib.hid (by rw [← hW]; exact HZ.out)
    have HO1 : Hid (Only Nil w W) := Lib.hid (by rw [← hW]; exact HO.out)
    clear hW HZ HO
    have HR1 := Lib.hid (own_only HR.out HO1.out (fun _ _ h => h))
    replace a2 := (HO1.out.cell (p := ⟨C, 2, none⟩) l0 (fun h => h)).trans a2
    replace a3 := (HO1.out.cell (p := ⟨C, 3, none⟩) l0 (fun h => h)).trans a3
    replace g3 := (HO1.out.cell (p := ⟨G, 3, none⟩) l1 (fun h => h)).trans g3
    replace g7 := (HO1.out.cell (p := ⟨G, 7, none⟩) l1 (fun h => h)).trans g7
    replace g8 := (HO1.out.cell (p := ⟨G, 8, none⟩) l1 (fun h => h)).trans g8
    replace l0 : C < W.heap.size := Nat.lt_of_lt_of_le l0 HO1.out.size
    replace l1 : G < W.heap.size := Nat.lt_of_lt_of_le l1 HO1.out.size
    have lz := blk_lt HZ1.out
    go_quiet (fail)
    go_wp2
    obtain ⟨Wq, hq⟩ : ∃ x, x = W.drewN nq := ⟨_, rfl⟩
    rw [← hq]
    replace HZ1 : Hid (Wq.heap[w.heap.size]? = some (.cells zR.row tR (0, 0))) := Lib.hid (by rw [hq]; exact HZ1.out)
    replace HO1 : Hid (Only Nil w Wq) := Lib.hid (by rw [hq]; exact HO1.out.drewN _)
    replace HR1 : Hid (Wq.ownsRow 0 tR 7 (.slice A2 b.sells.length c2) b.sells.length (b.sells.flatMap Rs.cells)) := Lib.hid (by rw [hq]; exact HR1.out)
    replace g3 : Wq.cell? ⟨G, 3, none⟩ = some (.int .i64 c.o.price) := by rw [hq]; exact g3
    replace g7 : Wq.cell? ⟨G, 7, none⟩ = some (.int .i64 1) := by rw [hq]; exact g7
    replace g8 : Wq.cell? ⟨G, 8, none⟩ = some (.int .i64 c.kind) := by rw [hq]; exact g8
    replace l1 : G < Wq.heap.size := by rw [hq]; exact l1
    replace lz : w.heap.size < Wq.heap.size := blk_lt HZ1.out
    clear hq a2 a3 l0
    generalize hLL : b.sells = L at *
    cases L with
    | nil =>
      have HF1 : Hid (first b c = none) := Lib.hid (HF.out)
      simp only [List.length_nil] at *
      clear HF HR HR1
      go_quiet (fail)
      go_wp2_with (refine wpList_store_row rfl tR (.tmp 4) (.tmp 41) rfl w.heap.size rfl zR.row zR.row rfl tR HZ1.out infoRs rfl (one_row _) ?_)
      refine bodyPost_ret (v := .tuple #[.agg zR.row, .bool false]) (results_agg_tmp rfl _ _ _ _ _ _ _ rfl _ rfl (blk_setRow HZ1.out zR.row) Try.underlying50 rfl infoRs) rfl ⟨?_, (HO1.out.drewN _).setRow (.inr (Nat.le_refl _)) _⟩
      rw [HF1.out]
      rfl
    | cons p l =>
      have HF1 : Hid (first b c = if meets c.side c.kind c.o.price p.price then some p else none) := Lib.hid (HF.out)
      obtain ⟨g, cp, e1, hg, _, hgm⟩ := own_row HR1.out (by simp)
      injection e1 with e1 _ e1'
      subst e1
      subst e1'
      have q0 := row_at HR1.out (i := 0) (r := p) rfl 0 (by omega)
      have q1 := row_at HR1.out (i := 0) (r := p) rfl 1 (by omega)
      have q2 := row_at HR1.out (i := 0) (r := p) rfl 2 (by omega)
      have q3 := row_at HR1.out (i := 0) (r := p) rfl 3 (by omega)
      have q4 := row_at HR1.out (i := 0) (r := p) rfl 4 (by omega)
      have q5 := row_at HR1.out (i := 0) (r := p) rfl 5 (by omega)
      have q6 := row_at HR1.out (i := 0) (r := p) rfl 6 (by omega)
      simp only [Rs.cells, Nat.zero_mul, Nat.zero_add, List.getElem?_cons_zero, List.getElem?_cons_succ] at q0 q1 q2 q3 q4 q5 q6
      have hn : 0 < (p :: l).length := by simp
      have hn0 : (((p :: l).length : Int) == 0) = false := by simp; omega
      generalize (p :: l).length = N at *
      clear HF HR HR1
      rw [hs] at HM HF1
      go_quiet (refine Calls.quiet_of_same (HM.out _ _ _ _))
      generalize meets 1 c.kind c.o.price p.price = mt at *
      cases mt with
      | false =>
        go_wp2_with (refine wpList_store_row rfl tR (.tmp 4) (.tmp 41) rfl w.heap.size rfl zR.row zR.row rfl tR HZ1.out infoRs rfl (one_row _) ?_)
        refine bodyPost_ret (v := .tuple #[.agg zR.row, .bool false]) (results_agg_tmp rfl _ _ _ _ _ _ _ rfl _ rfl (blk_setRow HZ1.out zR.row) Try.underlying50 rfl infoRs) rfl ⟨?_, (HO1.out.drewN _).setRow (.inr (Nat.le_refl _)) _⟩
        rw [HF1.out]
        rfl
      | true =>
        go_wp2_with (refine wpList_store_row rfl tR (.tmp 4) (.tmp 44) rfl w.heap.size rfl p.row zR.row rfl tR HZ1.out infoRs rfl (one_row _) ?_)
        refine bodyPost_ret (v := .tuple #[.agg p.row, .bool true]) (results_agg_tmp rfl _ _ _ _ _ _ _ rfl _ rfl (blk_setRow HZ1.out p.row) Try.underlying50 rfl infoRs) rfl ⟨?_, (HO1.out.drewN _).setRow (.inr (Nat.le_refl _)) _⟩
        rw [HF1.out]
        rfl
  · have HL : Hid (b.side (far c.side) = b.buys) := Lib.hid (by rw [hfar, if_neg (by omega)])
    have HF : Hid (first b c = match b.buys with
      | [] => none
      | p :: _ => if meets c.side c.kind c.o.price p.price then some p else none) := Lib.hid (by unfold first; rw [HL.out]; rfl)
    have HR := Lib.hid HB.out.r1
    rw [hs] at g7
    clear hfar HB
    go_enter Try.func70, Try.ntmps70
    go_upto_region 1 with fail
    generalize hW : w.alloc (.cells #[.int .u64 0, .int .u32 0, .int .i64 0, .int .i64 0, .int .u64 0, .int .u64 0, .int .u64 0] 50) = W
    have HZ1 : Hid (W.heap[w.heap.size]? = some (.cells zR.row tR (0, 0))) := Lib.hid (by rw [← hW]; exact HZ.out)
    have HO1 : Hid (Only Nil w W) := Lib.hid (by rw [← hW]; exact HO.out)
    clear hW HZ HO
    have HR1 := Lib.hid (own_only HR.out HO1.out (fun _ _ h => h))
    replace a2 := (HO1.out.cell (p := ⟨C, 2, none⟩) l0 (fun h => h)).trans a2
    replace a3 := (HO1.out.cell (p := ⟨C, 3, none⟩) l0 (fun h => h)).trans a3
    replace g3 := (HO1.out.cell (p := ⟨G, 3, none⟩) l1 (fun h => h)).trans g3
    replace g7 := (HO1.out.cell (p := ⟨G, 7, none⟩) l1 (fun h => h)).trans g7
    replace g8 := (HO1.out.cell (p := ⟨G, 8, none⟩) l1 (fun h => h)).trans g8
    replace l0 : C < W.heap.size := Nat.lt_of_lt_of_le l0 HO1.out.size
    replace l1 : G < W.heap.size := Nat.lt_of_lt_of_le l1 HO1.out.size
    have lz := blk_lt HZ1.out
    go_quiet (fail)
    go_wp2
    obtain ⟨Wq, hq⟩ : ∃ x, x = W.drewN nq := ⟨_, rfl⟩
    rw [← hq]
    replace HZ1 : Hid (Wq.heap[w.heap.size]? = some (.cells zR.row tR (0, 0))) := Lib.hid (by rw [hq]; exact HZ1.out)
    replace HO1 : Hid (Only Nil w Wq) := Lib.hid (by rw [hq]; exact HO1.out.drewN _)
    replace HR1 : Hid (Wq.ownsRow 0 tR 7 (.slice A1 b.buys.length c1) b.buys.length (b.buys.flatMap Rs.cells)) := Lib.hid (by rw [hq]; exact HR1.out)
    replace g3 : Wq.cell? ⟨G, 3, none⟩ = some (.int .i64 c.o.price) := by rw [hq]; exact g3
    replace g7 : Wq.cell? ⟨G, 7, none⟩ = some (.int .i64 2) := by rw [hq]; exact g7
    replace g8 : Wq.cell? ⟨G, 8, none⟩ = some (.int .i64 c.kind) := by rw [hq]; exact g8
    replace l1 : G < Wq.heap.size := by rw [hq]; exact l1
    replace lz : w.heap.size < Wq.heap.size := blk_lt HZ1.out
    clear hq a2 a3 l0
    generalize hLL : b.buys = L at *
    cases L with
    | nil =>
      have HF1 : Hid (first b c = none) := Lib.hid (HF.out)
      simp only [List.length_nil] at *
      clear HF HR HR1
      go_quiet (fail)
      go_wp2_with (refine wpList_store_row rfl tR (.tmp 4) (.tmp 41) rfl w.heap.size rfl zR.row zR.row rfl tR HZ1.out infoRs rfl (one_row _) ?_)
      refine bodyPost_ret (v := .tuple #[.agg zR.row, .bool false]) (results_agg_tmp rfl _ _ _ _ _ _ _ rfl _ rfl (blk_setRow HZ1.out zR.row) Try.underlying50 rfl infoRs) rfl ⟨?_, (HO1.out.drewN _).setRow (.inr (Nat.le_refl _)) _⟩
      rw [HF1.out]
      rfl
    | cons p l =>
      have HF1 : Hid (first b c = if meets c.side c.kind c.o.price p.price then some p else none) := Lib.hid (HF.out)
      obtain ⟨g, cp, e1, hg, _, hgm⟩ := own_row HR1.out (by simp)
      injection e1 with e1 _ e1'
      subst e1
      subst e1'
      have q0 := row_at HR1.out (i := 0) (r := p) rfl 0 (by omega)
      have q1 := row_at HR1.out (i := 0) (r := p) rfl 1 (by omega)
      have q2 := row_at HR1.out (i := 0) (r := p) rfl 2 (by omega)
      have q3 := row_at HR1.out (i := 0) (r := p) rfl 3 (by omega)
      have q4 := row_at HR1.out (i := 0) (r := p) rfl 4 (by omega)
      have q5 := row_at HR1.out (i := 0) (r := p) rfl 5 (by omega)
      have q6 := row_at HR1.out (i := 0) (r := p) rfl 6 (by omega)
      simp only [Rs.cells, Nat.zero_mul, Nat.zero_add, List.getElem?_cons_zero, List.getElem?_cons_succ] at q0 q1 q2 q3 q4 q5 q6
      have hn : 0 < (p :: l).length := by simp
      have hn0 : (((p :: l).length : Int) == 0) = false := by simp; omega
      generalize (p :: l).length = N at *
      clear HF HR HR1
      rw [hs] at HM HF1
      go_quiet (refine Calls.quiet_of_same (HM.out _ _ _ _))
      generalize meets 2 c.kind c.o.price p.price = mt at *
      cases mt with
      | false =>
        go_wp2_with (refine wpList_store_row rfl tR (.tmp 4) (.tmp 41) rfl w.heap.size rfl zR.row zR.row rfl tR HZ1.out infoRs rfl (one_row _) ?_)
        refine bodyPost_ret (v := .tuple #[.agg zR.row, .bool false]) (results_agg_tmp rfl _ _ _ _ _ _ _ rfl _ rfl (blk_setRow HZ1.out zR.row) Try.underlying50 rfl infoRs) rfl ⟨?_, (HO1.out.drewN _).setRow (.inr (Nat.le_refl _)) _⟩
        rw [HF1.out]
        rfl
      | true =>
        go_wp2_with (refine wpList_store_row rfl tR (.tmp 4) (.tmp 44) rfl w.heap.size rfl p.row zR.row rfl tR HZ1.out infoRs rfl (one_row _) ?_)
        refine bodyPost_ret (v := .tuple #[.agg p.row, .bool true]) (results_agg_tmp rfl _ _ _ _ _ _ _ rfl _ rfl (blk_setRow HZ1.out p.row) Try.underlying50 rfl infoRs) rfl ⟨?_, (HO1.out.drewN _).setRow (.inr (Nat.le_refl _)) _⟩
        rw [HF1.out]
        rfl
end Ck
end Go.Proofs.Ytcnkbhgdcfckoaa
namespace Go.Proofs.Ytcnkbhgdcfckoaa
open Go.RowKit
namespace Ck
set_option maxHeartbeats 800000 in
set_option maxRecDepth 100000 in
theorem open_any (C : Nat) (b : Bk) (v1 v2 : Value) (q6 q7 : Option Addr) (w : World) (h : BkRep w C b v1 v2 (.pointer q6) (.pointer q7)) :
    Calls Try.prog 15 #[.pointer (some ⟨C, 0, none⟩)] w fun e w' => e = .returned (.bool (q6.isSome || q7.isSome)) ∧ w' = w := by
  have l0 := blk_lt h.blk
  have a6 := blk_cell h.blk 6
  have a7 := blk_cell h.blk 7
  simp only [List.getElem?_toArray, List.getElem?_cons_zero, List.getElem?_cons_succ] at a6 a7
  clear h
  cases q6 with
  | none =>
    cases q7 with
    | none =>
      go_enter Try.func15, Try.ntmps15
      go_wp2
      go_ret
      exact ⟨rfl, rfl⟩
    | some x =>
      go_enter Try.func15, Try.ntmps15
      go_wp2
      go_ret
      exact ⟨rfl, rfl⟩
  | some x =>
    go_enter Try.func15, Try.ntmps15
    go_wp2
    go_ret
    exact ⟨rfl, rfl⟩
end Ck
end Go.Proofs.Ytcnkbhgdcfckoaa
namespace Go.Proofs.Ytcnkbhgdcfckoaa
open Go.RowKit
namespace Ck
theorem rs_len : ∀ l : List Rs, (l.flatMap Rs.cells).length = l.length * 7
  | [] => rfl
  | r :: l => by rw [List.flatMap_cons, List.length_append, rs_len l, r.len, List.length_cons]; omega
theorem rs_drop (l : List Rs) (i j : Nat) (h : i ≤ l.length) : (l.flatMap Rs.cells)[i * 7 + j]? = ((l.drop i).flatMap Rs.cells)[j]? := by
  have e : l.flatMap Rs.cells = (l.take i).flatMap Rs.cells ++ (l.drop i).flatMap Rs.cells := by rw [← List.flatMap_append, List.take_append_drop]
  have h1 : ((l.take i).flatMap Rs.cells).length = i * 7 := by rw [rs_len, List.length_take, Nat.min_eq_left h]
  rw [e, List.getElem?_append_right (by omega), h1]
  congr 1
  omega
theorem infoRsB : (Try.prog.info? tR).map (fun i => (i.zero, i.size, i.bytes)) = some (some (.agg #[.int .u64 0, .int .u32 0, .int .i64 0, .int .i64 0, .int .u64 0, .int .u64 0, .int .u64 0]), 7, 56) := by kernel_rfl
theorem one_flat (l : List Rs) : ∀ u ∈ l.flatMap Rs.cells, u.oneCell' = true := by
  intro u hu
  obtain ⟨r, _, hr⟩ := List.mem_flatMap.1 hu
  simp only [Rs.cells, List.mem_cons, List.not_mem_nil, or_false] at hr
  rcases hr with rfl | rfl | rfl | rfl | rfl | rfl | rfl <;> rfl
theorem blk_setCells {g : Nat} {t : TypeId} : ∀ (vs : List Value) (o : Nat) (w : World) (cur : Array Value), w.heap[g]? = some (.cells cur t (0, 0)) →
    ∃ cur', (w.setCells g o vs).heap[g]? = some (.cells cur' t (0, 0)) ∧ cur'.size = cur.size ∧ (∀ k, k < o ∨ o + vs.length ≤ k → cur'[k]? = cur[k]?) ∧ ∀ j v, vs[j]? = some v → o + j < cur.size → cur'[o + j]? = some v
  | [], o, w, cur, h => ⟨cur, h, rfl, fun _ _ => rfl, fun j v hv => by simp at hv⟩
  | u :: vs, o, w, cur, h => by
    obtain ⟨cur', h1, h2, h3, h4⟩ := blk_setCells vs (o + 1) (w.setCell ⟨g, o, none⟩ u) _ (blk_set h o u)
    refine ⟨cur', h1, by rw [h2, Array.size_setIfInBounds], fun k hk => ?_, fun j v hv hj => ?_⟩
    · simp only [List.length_cons] at hk
      rw [h3 k (by omega), Array.getElem?_setIfInBounds_ne (by omega)]
    · cases j with
      | zero =>
        simp only [List.getElem?_cons_zero, Option.some.injEq] at hv
        subst hv
        rw [Nat.add_zero, h3 o (by omega), Array.getElem?_setIfInBounds_self_of_lt (by omega)]
      | succ j =>
        have := h4 j v (by simpa using hv) (by rw [Array.size_setIfInBounds]; omega)
        rw [show o + (j + 1) = o + 1 + j by omega]
        exact this
theorem only_setCells {g : Nat} {S : Nat → Prop} {w : World} : ∀ (vs : List Value) (o : Nat) (w1 : World), Only S w w1 → S g → Only S w (w1.setCells g o vs)
  | [], _, _, h, _ => h
  | u :: vs, o, _, h, hg => only_setCells vs (o + 1) _ (h.setCell (p := ⟨g, o, none⟩) (.inl hg) u) hg
theorem deleted {w : World} {g cp i : Nat} {l : List Rs} (h : w.ownsRow 0 tR 7 (.slice (some ⟨g, 0, none⟩) l.length cp) l.length (l.flatMap Rs.cells)) (hi : i < l.length) (vs : List Value) :
    ((w.drew.setCells g (i * 7) ((l.drop (i + 1)).flatMap Rs.cells)).setCells g ((l.length - 1) * 7) vs).ownsRow 0 tR 7 (.slice (some ⟨g, 0, none⟩) (l.length - 1) cp) (l.length - 1) ((l.eraseIdx i).flatMap Rs.cells) ∧
    ∃ cur, (w.drew.setCells g (i * 7) ((l.drop (i + 1)).flatMap Rs.cells)).heap[g]? = some (.cells cur tR (0, 0)) ∧ cur.size = cp * 7 := by
  have hlen := h.1
  rcases h.2 with ⟨e, _⟩ | ⟨g', c', cur, e, hb, h2, h3, h4, h5, h6⟩
  · cases e
  injection e with e _ e2
  injection e with e
  injection e with e
  subst e
  subst e2
  have hnl : ((l.drop (i + 1)).flatMap Rs.cells).length = (l.length - (i + 1)) * 7 := by rw [rs_len, List.length_drop]
  obtain ⟨c1, a1, a2, a3, a4⟩ := blk_setCells ((l.drop (i + 1)).flatMap Rs.cells) (i * 7) w.drew cur h2
  obtain ⟨c2, b1, b2, b3, _⟩ := blk_setCells vs ((l.length - 1) * 7) _ c1 a1
  refine ⟨⟨by rw [rs_len, List.length_eraseIdx_of_lt hi], .inr ⟨g, cp, c2, rfl, Nat.zero_le _, b1, by omega, h4, by rw [b2, a2, h5], ?_⟩⟩, c1, a1, by rw [a2, h5]⟩
  apply List.ext_getElem?
  intro k
  by_cases hk : k < (l.length - 1) * 7
  · rw [List.getElem?_take_of_lt hk, Array.getElem?_toList, b3 k (.inl hk), List.eraseIdx_eq_take_drop_succ, List.flatMap_append]
    have htl : ((l.take i).flatMap Rs.cells).length = i * 7 := by rw [rs_len, List.length_take, Nat.min_eq_left (by omega)]
    by_cases hki : k < i * 7
    · rw [a3 k (.inl hki), List.getElem?_append_left (by omega)]
      have e0 : cur[k]? = (l.flatMap Rs.cells)[k]? := by rw [← h6, List.getElem?_take_of_lt (by omega), Array.getElem?_toList]
      rw [e0]
      have e1 : l.flatMap Rs.cells = (l.take i).flatMap Rs.cells ++ (l.drop i).flatMap Rs.cells := by rw [← List.flatMap_append, List.take_append_drop]
      rw [e1, List.getElem?_append_left (by omega)]
    · rw [List.getElem?_append_right (by omega), htl]
      have hj : k - i * 7 < ((l.drop (i + 1)).flatMap Rs.cells).length := by omega
      have := a4 (k - i * 7) _ (List.getElem?_eq_getElem hj) (by rw [h5]; omega)
      rw [show i * 7 + (k - i * 7) = k by omega] at this
      rw [this, List.getElem?_eq_getElem hj]
  · rw [List.getElem?_eq_none (by rw [List.length_take]; omega), List.getElem?_eq_none (by rw [rs_len, List.length_eraseIdx_of_lt hi]; omega)]
def zcs : List Value := [.int .u64 0, .int .u32 0, .int .i64 0, .int .i64 0, .int .u64 0, .int .u64 0, .int .u64 0]
theorem run_clear_one (W : World) (ty : TypeId) (g o c : Nat) (hc : ∀ j, j < 7 → (W.cell? ⟨g, o + j, none⟩).isSome = true) (hf : ∀ j, j < 7 → W.frozen? ⟨g, o + j, none⟩ = false) :
    (Builtin.clear_ #[29] ty #[.slice (some ⟨g, o, none⟩) 1 c]).run Try.prog W = .ok (.tuple #[]) (W.setCells g o zcs) := by
  have hv : ∀ w, (zeroValue tR).run Try.prog w = .ok (.agg zR.row) w := fun w => by kernel_rfl
  have hzc : (Builtin.zeroCells (Value.agg zR.row).cells 1).toList = zcs := by kernel_rfl
  have hst := run_storeCells_cells (P := Try.prog) g o zcs 0 W (by simpa [zcs] using hc) (by simpa [zcs] using hf) (by
    intro v hv'
    simp only [zcs, List.mem_cons, List.not_mem_nil, or_false] at hv'
    rcases hv' with rfl | rfl | rfl | rfl | rfl | rfl | rfl <;> rfl)
  simp only [Nat.add_zero] at hst
  simp [Builtin.clear_, run_underlying Try.underlying29, hv, hzc, hst]
set_option maxHeartbeats 1600000 in
set_option maxRecDepth 100000 in
theorem delete_any (g cp i : Nat) (l : List Rs) (w : World) (h : w.ownsRow 0 tR 7 (.slice (some ⟨g, 0, none⟩) l.length cp) l.length (l.flatMap Rs.cells)) (hi : i < l.length) :
    Calls Try.prog 74 #[.slice (some ⟨g, 0, none⟩) l.length cp, .int .i64 (i : Int), .int .i64 ((i : Int) + 1)] w fun e w' => e = .returned (.slice (some ⟨g, 0, none⟩) (l.length - 1) cp) ∧ w'.ownsRow 0 tR 7 (.slice (some ⟨g, 0, none⟩) (l.length - 1) cp) (l.length - 1) ((l.eraseIdx i).flatMap Rs.cells) ∧ Only (fun b => b = g) w w' := by
  obtain ⟨g', cp', e1, hg, hnc, hm⟩ := own_row h (by omega)
  injection e1 with e1 _ e2
  injection e1 with e1
  injection e1 with e1
  subst e1
  subst e2
  have f0 : (0 : Int) ≤ (i : Int) + 1 := by omega
  have f1 : (i : Int) + 1 ≤ (l.length : Int) := by omega
  have f2 : (l.length : Int) ≤ (cp : Int) := by omega
  have f3 : ((i : Int) == (i : Int) + 1) = false := beq_eq_false_iff_ne.2 (by omega)
  have f4 : (i : Int) ≤ (i : Int) + 1 := by omega
  have HR := Lib.hid h
  obtain ⟨i0, hi0, hz0, hz1, hz2⟩ := info_parts infoRsB
  have hN : ((l.drop (i + 1)).flatMap Rs.cells).length = (l.length - (i + 1)) * 7 := by rw [rs_len, List.length_drop]
  have hget : ∀ j u, ((l.drop (i + 1)).flatMap Rs.cells)[j]? = some u → w.cell? ⟨g, (i + 1) * 7 + j, none⟩ = some u := fun j u hu => own_cell h (by rw [rs_drop l (i + 1) j (by omega)]; exact hu)
  obtain ⟨A, hA, hnews⟩ : ∃ A : Addr, (if cp = i + 1 then some (⟨g, 0, none⟩ : Addr) else some ⟨g, (i + 1) * 7, none⟩) = some A ∧ Hid (∀ j u, ((l.drop (i + 1)).flatMap Rs.cells)[j]? = some u → w.drew.cell? (A.add j) = some u) := by
    by_cases hc : cp = i + 1
    · refine ⟨⟨g, 0, none⟩, by simp [hc], fun j u hu => ?_⟩
      have h0 : ((l.drop (i + 1)).flatMap Rs.cells).length = 0 := by rw [hN]; omega
      rw [List.length_eq_zero_iff.1 h0] at hu
      simp at hu
    · refine ⟨⟨g, (i + 1) * 7, none⟩, by simp [hc], fun j u hu => ?_⟩
      rw [Addr.add_lit]
      exact hget j u hu
  have s1 := Lib.hid hN
  have s2 := Lib.hid (one_flat (l.drop (i + 1)))
  have s3 : Hid (∀ j, j < ((l.drop (i + 1)).flatMap Rs.cells).length → (w.drew.cell? ⟨g, 0 + i * 7 + j, none⟩).isSome = true ∧ w.drew.frozen? ⟨g, 0 + i * 7 + j, none⟩ = false) := Lib.hid (fun j hj => by
    rw [hN] at hj
    have hjl : i * 7 + j < (l.flatMap Rs.cells).length := by rw [rs_len]; omega
    have hcell := own_cell h (List.getElem?_eq_getElem hjl)
    obtain ⟨cur, hcur⟩ : ∃ cur, w.heap[g]? = some (.cells cur tR (0, 0)) := by
      rcases h.2 with ⟨e, _⟩ | ⟨g', c', cur, e, _, e2, _⟩
      · cases e
      · injection e with e _ _
        injection e with e
        injection e with e
        subst e
        exact ⟨cur, e2⟩
    rw [Nat.zero_add]
    exact ⟨by show (w.cell? _).isSome = true; rw [hcell]; rfl, blk_frozen hcur _⟩)
  have hic : i + (l.length - (i + 1)) ≤ cp := by omega
  have hic2 : i ≤ cp := by omega
  have hp2 : ((i : Int) + 1).toNat = i + 1 := by omega
  have hwr : IntKind.i64.wrap ((i : Int) + 1) = (i : Int) + 1 := by rw [IntKind.wrap_i64]; omega
  clear h hget hN
  go_enter Try.func74, Try.ntmps74
  go_wp2_with fail
  go_region_law (refine step_append_room rfl (.tmp 22) (.tmp 25) 29 rfl tR i0 7 Try.underlying29 hi0 hz1 g 0 i cp (by simp [Act.eval, Act.put]) A (l.length - (i + 1)) (cp - (i + 1)) ((l.drop (i + 1)).flatMap Rs.cells) (by simp [Act.eval, Act.put]) s1.out hnews.out s2.out hic s3.out ?_)
  simp only [Act.put]
  have hlen1 : i + (l.length - (i + 1)) = l.length - 1 := by omega
  rw [hlen1]
  obtain ⟨hdel, cur, hcur, hsz⟩ := deleted HR.out hi zcs
  have HD := Lib.hid hdel
  have HO := Lib.hid (only_setCells (g := g) zcs ((l.length - 1) * 7) _ (only_setCells (g := g) ((l.drop (i + 1)).flatMap Rs.cells) (i * 7) _ (Only.refl (fun b => b = g) w).drew rfl) rfl)
  generalize w.drew.setCells g (i * 7) ((l.drop (i + 1)).flatMap Rs.cells) = W at *
  have g0 : (0 : Int) ≤ ((l.length - 1 : Nat) : Int) := by omega
  have g1 : ((l.length - 1 : Nat) : Int) ≤ (l.length : Int) := by omega
  have g2 : l.length - 1 ≤ l.length := by omega
  have h1 : l.length - (l.length - 1) = 1 := by omega
  have hcl := run_clear_one W 0 g ((l.length - 1) * 7) (cp - (l.length - 1)) (fun j hj => by
    have := blk_cell hcur ((l.length - 1) * 7 + j)
    rw [this, Array.getElem?_eq_getElem (by omega)]
    rfl) (fun j _ => blk_frozen hcur _)
  clear hdel hcur hsz
  go_wp2
  go_ret
  exact ⟨rfl, HD.out, HO.out⟩
end Ck
end Go.Proofs.Ytcnkbhgdcfckoaa
namespace Go.Proofs.Ytcnkbhgdcfckoaa
open Go.RowKit
namespace Ck
/-- The checker's own blocks. -/
def Mine (C : Nat) (v1 v2 : Value) (k : Nat) : Prop := k = C ∨ v1.ownBlock = some k ∨ v2.ownBlock = some k
set_option maxHeartbeats 1600000 in
set_option maxRecDepth 100000 in
theorem gone_one (C i : Nat) (b : Bk) (v1 v2 p6 p7 : Value) (w : World) (h : BkRep w C b v1 v2 p6 p7) (hi : i < b.buys.length) :
    Calls Try.prog 53 #[.pointer (some ⟨C, 0, none⟩), .int .i64 1, .int .i64 (i : Int)] w fun e w' => e = .returned (.tuple #[]) ∧
      ∃ v1', BkRep w' C { b with buys := b.buys.eraseIdx i } v1' v2 p6 p7 ∧ v1'.ownBlock = v1.ownBlock ∧ Only (Mine C v1 v2) w w' := by
  obtain ⟨g, c, rfl, hg, hnc, hm⟩ := own_row h.r1 (by omega)
  have hCg : g ≠ C := fun e => by
    have h0 := h.blk
    rw [← e] at h0
    exact absurd (own_ty h.r1 (b := g) rfl _ _ h0) (by decide)
  have HD := Lib.hid (fun W hW => delete_any g c i b.buys W hW hi)
  have HR1 := Lib.hid h.r1
  have HC := Lib.hid h.blk
  have H := Lib.hid h
  have Sof : ∀ X, Only (fun k => k = g) w X → X.cell? ⟨C, 2, none⟩ = some (.slice (some ⟨g, 0, none⟩) b.buys.length c) ∧ X.frozen? ⟨C, 2, none⟩ = false ∧ C < X.heap.size := fun X ho => by
    have hb := ho.blk HC.out (fun e => hCg e.symm)
    exact ⟨blk_cell hb 2, blk_frozen hb 2, blk_lt hb⟩
  have HSof := Lib.hid Sof
  have hw0 : IntKind.i64.wrap 0 = 0 := by rw [IntKind.wrap_i64]; omega
  have hw1 : IntKind.i64.wrap ((i : Int) + 1) = (i : Int) + 1 := by rw [IntKind.wrap_i64]; omega
  clear h Sof
  go_enter Try.func53, Try.ntmps53
  go_wp2
  obtain ⟨q1, q2, q3⟩ := HSof.out w.drew (Only.refl _ _).drew
  go_region_law ((go_simp; go_at_call 74; (refine (HD.out w.drew HR1.out).mono ?_); rintro e wg ⟨rfl, hown, hog⟩; (obtain ⟨r1, r2, r3⟩ := HSof.out wg (Only.trans (Only.refl _ _).drew hog (fun _ _ h => h)))))
  have HX : BkRep (wg.setCell ⟨C, 2, none⟩ (.slice (some ⟨g, 0, none⟩) (b.buys.length - 1) c)) C { b with buys := b.buys.eraseIdx i } (.slice (some ⟨g, 0, none⟩) (b.buys.length - 1) c) v2 p6 p7 ∧ Only (Mine C (.slice (some ⟨g, 0, none⟩) b.buys.length c) v2) w (wg.setCell ⟨C, 2, none⟩ (.slice (some ⟨g, 0, none⟩) (b.buys.length - 1) c)) := by
    have hb := hog.blk (blk_drew HC.out) (fun e => hCg e.symm)
    have hne := H.out.ne g rfl
    have hr2 : wg.ownsRow 0 tR 7 v2 b.sells.length (b.sells.flatMap Rs.cells) := own_only (own_drewN H.out.r2 1) hog (fun k hk e => hne (e ▸ hk))
    have hn : (b.buys.eraseIdx i).length = b.buys.length - 1 := List.length_eraseIdx_of_lt hi
    refine ⟨⟨?_, ?_, ?_, fun k hk => H.out.ne k hk⟩, ?_⟩
    · have := blk_set hb 2 (.slice (some ⟨g, 0, none⟩) (b.buys.length - 1) c)
      simpa using this
    · simp only
      rw [hn]
      exact own_far hown (ob_ne hCg) _
    · exact own_far hr2 (own_blk_ne H.out.r2 H.out.blk (by decide)) _
    · exact (((Only.refl _ w).drew.trans hog (fun k _ e => .inr (.inl (by rw [e]; rfl)))).setCell (p := ⟨C, 2, none⟩) (.inl (.inl rfl)) _)
  go_wp2
  go_end0
  exact ⟨rfl, _, HX.1, rfl, HX.2⟩
set_option maxHeartbeats 1600000 in
set_option maxRecDepth 100000 in
theorem gone_two (C i : Nat) (b : Bk) (v1 v2 p6 p7 : Value) (w : World) (h : BkRep w C b v1 v2 p6 p7) (hi : i < b.sells.length) :
    Calls Try.prog 53 #[.pointer (some ⟨C, 0, none⟩), .int .i64 2, .int .i64 (i : Int)] w fun e w' => e = .returned (.tuple #[]) ∧
      ∃ v2', BkRep w' C { b with sells := b.sells.eraseIdx i } v1 v2' p6 p7 ∧ v2'.ownBlock = v2.ownBlock ∧ Only (Mine C v1 v2) w w' := by
  obtain ⟨g, c, rfl, hg, hnc, hm⟩ := own_row h.r2 (by omega)
  have hCg : g ≠ C := fun e => by
    have h0 := h.blk
    rw [← e] at h0
    exact absurd (own_ty h.r2 (b := g) rfl _ _ h0) (by decide)
  have HD := Lib.hid (fun W hW => delete_any g c i b.sells W hW hi)
  have HR1 := Lib.hid h.r2
  have HC := Lib.hid h.blk
  have H := Lib.hid h
  have Sof : ∀ X, Only (fun k => k = g) w X → X.cell? ⟨C, 3, none⟩ = some (.slice (some ⟨g, 0, none⟩) b.sells.length c) ∧ X.frozen? ⟨C, 3, none⟩ = false ∧ C < X.heap.size := fun X ho => by
    have hb := ho.blk HC.out (fun e => hCg e.symm)
    exact ⟨blk_cell hb 3, blk_frozen hb 3, blk_lt hb⟩
  have HSof := Lib.hid Sof
  have hw0 : IntKind.i64.wrap 1 = 1 := by rw [IntKind.wrap_i64]; omega
  have hw1 : IntKind.i64.wrap ((i : Int) + 1) = (i : Int) + 1 := by rw [IntKind.wrap_i64]; omega
  clear h Sof
  go_enter Try.func53, Try.ntmps53
  go_wp2
  obtain ⟨q1, q2, q3⟩ := HSof.out w.drew (Only.refl _ _).drew
  go_region_law ((go_simp; go_at_call 74; (refine (HD.out w.drew HR1.out).mono ?_); rintro e wg ⟨rfl, hown, hog⟩; (obtain ⟨r1, r2, r3⟩ := HSof.out wg (Only.trans (Only.refl _ _).drew hog (fun _ _ h => h)))))
  have HX : BkRep (wg.setCell ⟨C, 3, none⟩ (.slice (some ⟨g, 0, none⟩) (b.sells.length - 1) c)) C { b with sells := b.sells.eraseIdx i } v1 (.slice (some ⟨g, 0, none⟩) (b.sells.length - 1) c) p6 p7 ∧ Only (Mine C v1 (.slice (some ⟨g, 0, none⟩) b.sells.length c)) w (wg.setCell ⟨C, 3, none⟩ (.slice (some ⟨g, 0, none⟩) (b.sells.length - 1) c)) := by
    have hb := hog.blk (blk_drew HC.out) (fun e => hCg e.symm)
    have hne : ∀ k, v1.ownBlock = some k → k ≠ g := fun k hk e => H.out.ne k hk (by rw [e]; rfl)
    have hr2 : wg.ownsRow 0 tR 7 v1 b.buys.length (b.buys.flatMap Rs.cells) := own_only (own_drewN H.out.r1 1) hog (fun k hk e => hne k hk e)
    have hn : (b.sells.eraseIdx i).length = b.sells.length - 1 := List.length_eraseIdx_of_lt hi
    refine ⟨⟨?_, ?_, ?_, fun k hk => H.out.ne k hk⟩, ?_⟩
    · have := blk_set hb 3 (.slice (some ⟨g, 0, none⟩) (b.sells.length - 1) c)
      simpa using this
    · exact own_far hr2 (own_blk_ne H.out.r1 H.out.blk (by decide)) _
    · simp only
      rw [hn]
      exact own_far hown (ob_ne hCg) _
    · exact (((Only.refl _ w).drew.trans hog (fun k _ e => .inr (.inr (by rw [e]; rfl)))).setCell (p := ⟨C, 3, none⟩) (.inl (.inl rfl)) _)
  go_wp2
  go_end0
  exact ⟨rfl, _, HX.1, rfl, HX.2⟩
theorem gone_any (C i : Nat) (s : Int) (b : Bk) (v1 v2 p6 p7 : Value) (w : World) (h : BkRep w C b v1 v2 p6 p7) (hs : s = 1 ∨ s = 2) (hi : i < (b.side s).length) :
    Calls Try.prog 53 #[.pointer (some ⟨C, 0, none⟩), .int .i64 s, .int .i64 (i : Int)] w fun e w' => e = .returned (.tuple #[]) ∧
      ∃ v1' v2', BkRep w' C (b.set s ((b.side s).eraseIdx i)) v1' v2' p6 p7 ∧ v1'.ownBlock = v1.ownBlock ∧ v2'.ownBlock = v2.ownBlock ∧ Only (Mine C v1 v2) w w' := by
  rcases hs with rfl | rfl
  · exact (gone_one C i b v1 v2 p6 p7 w h hi).mono fun e w' ⟨h1, v', h2, h3, h4⟩ => ⟨h1, v', v2, h2, h3, rfl, h4⟩
  · exact (gone_two C i b v1 v2 p6 p7 w h hi).mono fun e w' ⟨h1, v', h2, h3, h4⟩ => ⟨h1, v1, v', h2, rfl, h3, h4⟩
end Ck
end Go.Proofs.Ytcnkbhgdcfckoaa

/- The walk of the law CheckerOnly: its loop. -/
import Derived.Test.YtcnkbhgdcfckoaaOe
import Derived.Test.YtcnkbhgdcfckoaaNk
import Derived.Deep.RegionHeld3
set_option linter.unusedVariables false
set_option linter.unusedSimpArgs false
namespace Go.Proofs.Ytcnkbhgdcfckoaa
open Go.RowKit
namespace Ck
theorem infoEvtL : (Try.prog.info? tEvt).map (·.size) = some 13 := by kernel_rfl
theorem one_evL (e : Ev) : e.row.all (·.oneCell') = true := by cases e; kernel_rfl
/-- An event of a list, cell by cell. -/
theorem evo_cells {w : World} {A : Option Addr} {n c k : Nat} {l : List Ev} {e : Ev} (h : LA w (.slice A n c) l) (hr : l[k]? = some e) : ∃ g off, A = some ⟨g, off, none⟩ ∧ (w.cell? ⟨g, off + k * 13, none⟩ = some (.int .u64 e.seq) ∧ w.cell? ⟨g, off + k * 13 + 1, none⟩ = some (.int .i64 e.kind) ∧ w.cell? ⟨g, off + k * 13 + 2, none⟩ = some (.int .u64 e.id) ∧ w.cell? ⟨g, off + k * 13 + 3, none⟩ = some (.int .u64 e.other) ∧ w.cell? ⟨g, off + k * 13 + 4, none⟩ = some (.int .u64 e.target) ∧ w.cell? ⟨g, off + k * 13 + 5, none⟩ = some (.int .u32 e.mem) ∧ w.cell? ⟨g, off + k * 13 + 6, none⟩ = some (.int .i64 e.side) ∧ w.cell? ⟨g, off + k * 13 + 7, none⟩ = some (.int .i64 e.typ) ∧ w.cell? ⟨g, off + k * 13 + 8, none⟩ = some (.int .i64 e.price) ∧ w.cell? ⟨g, off + k * 13 + 9, none⟩ = some (.int .u64 e.qty) ∧ w.cell? ⟨g, off + k * 13 + 10, none⟩ = some (.int .u64 e.peak) ∧ w.cell? ⟨g, off + k * 13 + 11, none⟩ = some (.int .i64 e.reason) ∧ w.cell? ⟨g, off + k * 13 + 12, none⟩ = some (.int .i64 e.code) ∧ g < w.heap.size) := by
  obtain ⟨g, off, e1, _, _, hg, ha⟩ := h.gete hr
  have a0 := ha 0 _ (by omega) rfl
  simp only [Nat.add_zero] at a0
  exact ⟨g, off, e1, a0, ha 1 _ (by omega) rfl, ha 2 _ (by omega) rfl, ha 3 _ (by omega) rfl, ha 4 _ (by omega) rfl, ha 5 _ (by omega) rfl, ha 6 _ (by omega) rfl, ha 7 _ (by omega) rfl, ha 8 _ (by omega) rfl, ha 9 _ (by omega) rfl, ha 10 _ (by omega) rfl, ha 11 _ (by omega) rfl, ha 12 _ (by omega) rfl, hg⟩
theorem evo_at {w : World} {g off n c k : Nat} {l : List Ev} {e : Ev} (h : LA w (.slice (some ⟨g, off, none⟩) n c) l) (hr : l[k]? = some e) : (w.cell? ⟨g, off + k * 13, none⟩ = some (.int .u64 e.seq) ∧ w.cell? ⟨g, off + k * 13 + 1, none⟩ = some (.int .i64 e.kind) ∧ w.cell? ⟨g, off + k * 13 + 2, none⟩ = some (.int .u64 e.id) ∧ w.cell? ⟨g, off + k * 13 + 3, none⟩ = some (.int .u64 e.other) ∧ w.cell? ⟨g, off + k * 13 + 4, none⟩ = some (.int .u64 e.target) ∧ w.cell? ⟨g, off + k * 13 + 5, none⟩ = some (.int .u32 e.mem) ∧ w.cell? ⟨g, off + k * 13 + 6, none⟩ = some (.int .i64 e.side) ∧ w.cell? ⟨g, off + k * 13 + 7, none⟩ = some (.int .i64 e.typ) ∧ w.cell? ⟨g, off + k * 13 + 8, none⟩ = some (.int .i64 e.price) ∧ w.cell? ⟨g, off + k * 13 + 9, none⟩ = some (.int .u64 e.qty) ∧ w.cell? ⟨g, off + k * 13 + 10, none⟩ = some (.int .u64 e.peak) ∧ w.cell? ⟨g, off + k * 13 + 11, none⟩ = some (.int .i64 e.reason) ∧ w.cell? ⟨g, off + k * 13 + 12, none⟩ = some (.int .i64 e.code) ∧ g < w.heap.size) := by
  obtain ⟨g', off', h1, h2⟩ := evo_cells h hr
  injection h1 with h1
  injection h1 with h3 h4 _
  subst h3; subst h4
  exact h2
abbrev set9r (W : World) (g : Nat) (u0 u1 u2 u3 u4 u5 u6 u7 u8 : Value) : World := ((((((((W.setCell ⟨g, 0, none⟩ u0).setCell ⟨g, 1, none⟩ u1).setCell ⟨g, 2, none⟩ u2).setCell ⟨g, 3, none⟩ u3).setCell ⟨g, 4, none⟩ u4).setCell ⟨g, 5, none⟩ u5).setCell ⟨g, 6, none⟩ u6).setCell ⟨g, 7, none⟩ u7).setCell ⟨g, 8, none⟩ u8
theorem set9_new {W0 W : World} (h : Only Nil W0 W) {g : Nat} (hg : W0.heap.size ≤ g) (u0 u1 u2 u3 u4 u5 u6 u7 u8 : Value) : Only Nil W0 (set9r W g u0 u1 u2 u3 u4 u5 u6 u7 u8) :=
  ((((((((h.setCell (p := ⟨g, 0, none⟩) (.inr hg) _).setCell (p := ⟨g, 1, none⟩) (.inr hg) _).setCell (p := ⟨g, 2, none⟩) (.inr hg) _).setCell (p := ⟨g, 3, none⟩) (.inr hg) _).setCell (p := ⟨g, 4, none⟩) (.inr hg) _).setCell (p := ⟨g, 5, none⟩) (.inr hg) _).setCell (p := ⟨g, 6, none⟩) (.inr hg) _).setCell (p := ⟨g, 7, none⟩) (.inr hg) _).setCell (p := ⟨g, 8, none⟩) (.inr hg) _
/-- What stands at the loop's head: the book's box. -/
def LpW (w : World) (B : Nat) (y : Pk) (k : Nat) (l : List Ev) (W : World) : Prop :=
  ∃ b x1 x2, W.heap[B]? = some (.cells (bkRow b x1 x2) tBk (0, 0)) ∧ LR W x1 b.buys ∧ LR W x2 b.sells ∧ Pk.ok ⟨b, none, none⟩ ∧ takenP ⟨b, none, none⟩ (l.drop k) = some y
theorem lp_begin {w W : World} {cap meet : Int} {l : List Ev} {y : Pk} {B : Nat} (hb : W.heap[B]? = some (.cells (bk0 cap meet) tBk (0, 0))) (hf : fit cap meet = true) (hy : takenP (pk0 cap meet) l = some y) : LpW w B y 0 l W :=
  ⟨⟨cap, meet, [], [], 0, 0⟩, .slice none 0 0, .slice none 0 0, hb, Lst.empty none 0 (by omega), Lst.empty none 0 (by omega), pk0_ok hf, hy⟩
theorem fin12a {W7 wg : World} {cm : Cm} (h : Only Nil W7 wg) : ∃ K : Nat, (Value.pointer (some ⟨wg.heap.size, 0, none⟩)) = .pointer (some ⟨K, 0, none⟩) ∧ Value.bool true = .bool true ∧
    Hid ((wg.alloc (.cells #[.int .i64 cm.kind, .int .u64 cm.id, .int .u64 cm.target, .int .u32 cm.mem, .int .i64 cm.side, .int .i64 cm.typ, .int .i64 cm.price, .int .u64 cm.qty, .int .u64 cm.peak] tCm)).heap[K]? = some (.cells (cmRow cm) tCm (0, 0))) ∧
    Hid (Only Nil W7 (wg.alloc (.cells #[.int .i64 cm.kind, .int .u64 cm.id, .int .u64 cm.target, .int .u32 cm.mem, .int .i64 cm.side, .int .i64 cm.typ, .int .i64 cm.price, .int .u64 cm.qty, .int .u64 cm.peak] tCm))) :=
  ⟨_, rfl, rfl, Lib.hid (blk_new wg (.cells (cmRow cm) tCm)), Lib.hid (h.alloc _)⟩
theorem fin12b {W7 wg : World} {cm : Cm} (h : Only Nil W7 wg) (hk : wg.heap[W7.heap.size]? = some (.cells (cmRow zCm) tCm (0, 0))) : ∃ K : Nat, (Value.pointer (some ⟨W7.heap.size, 0, none⟩)) = .pointer (some ⟨K, 0, none⟩) ∧ Value.bool true = .bool true ∧
    Hid ((set9r wg W7.heap.size (.int .i64 cm.kind) (.int .u64 cm.id) (.int .u64 cm.target) (.int .u32 cm.mem) (.int .i64 cm.side) (.int .i64 cm.typ) (.int .i64 cm.price) (.int .u64 cm.qty) (.int .u64 cm.peak)).heap[K]? = some (.cells (cmRow cm) tCm (0, 0))) ∧
    Hid (Only Nil W7 (set9r wg W7.heap.size (.int .i64 cm.kind) (.int .u64 cm.id) (.int .u64 cm.target) (.int .u32 cm.mem) (.int .i64 cm.side) (.int .i64 cm.typ) (.int .i64 cm.price) (.int .u64 cm.qty) (.int .u64 cm.peak))) :=
  ⟨_, rfl, rfl, Lib.hid (set9_blk hk cm), Lib.hid (set9_new h (Nat.le_refl _) _ _ _ _ _ _ _ _ _)⟩
theorem do_plain {b : Bk} {cm : Cm} {x1 x2 : Value} {W : World} (hok : Pk.ok ⟨b, none, none⟩) (hw : cm.wf) (h1 : LR W x1 b.buys) (h2 : LR W x2 b.sells) :
    Calls Try.prog 9 #[.agg (bkRow b x1 x2), .agg (cmRow cm)] W (DoPost (doR b cm) W) := by
  have hr := hok.ok.room
  have hm := hok.ok.meet
  unfold Bk.count at hr
  refine do_any b x1 x2 cm W h1 h2 hw ?_ ?_ (ok_okB hok.ok (hok.vis rfl)) hok.ok.seq ?_
  · simp only at hr; omega
  · simp only at hr; omega
  · simp only at hm; omega
theorem told_len {l L M L' : List Ev} {e : Ev} {k : Nat} (h1 : l.drop k = e :: L) (h2 : L = M ++ L') : 1 ≤ (e :: M).length ∧ k + (e :: M).length ≤ l.length := by
  have h := congrArg List.length h1
  rw [List.length_drop, h2, List.length_cons, List.length_append] at h
  rw [List.length_cons]
  omega
theorem lst_mid {W : World} {g off c k : Nat} {l P M L' : List Ev} (h : LA W (.slice (some ⟨g, off, none⟩) l.length c) l) (hl : l = P ++ (M ++ L')) (hk : P.length = k) : LA W (.slice (some ⟨g, off + k * 13, none⟩) M.length (c - k)) M := by
  obtain ⟨A, c', h1, h2, h3⟩ := h.sl
  injection h1 with _ _ h1
  have hlen := congrArg List.length hl
  rw [List.length_append, List.length_append] at hlen
  refine ⟨⟨_, _, rfl, by omega, by omega⟩, fun hM => ?_⟩
  have hl0 : l ≠ [] := by
    intro q
    rw [q] at hlen
    have := List.length_pos_iff.2 hM
    simp at hlen
    omega
  obtain ⟨g', off', c2, e1, e2, e3⟩ := h.row hl0
  injection e1 with e1 _ _
  injection e1 with e1
  injection e1 with q1 q2 _
  subst q1; subst q2
  refine ⟨g, off + k * 13, c - k, rfl, e2, fun j u hj => ?_⟩
  rw [Nat.add_assoc]
  refine e3 _ _ ?_
  have hj' : j < (M.flatMap Ev.cells).length := (List.getElem?_eq_some_iff.1 hj).1
  rw [hl, List.flatMap_append, List.getElem?_append_right (by rw [ev_flat, hk]; omega), ev_flat, hk, Nat.add_sub_cancel_left, List.flatMap_append, List.getElem?_append_left hj']
  exact hj
theorem told_mid {W : World} {g off c k : Nat} {l L M L' : List Ev} {e : Ev} (h : LA W (.slice (some ⟨g, off, none⟩) l.length c) l) (h1 : l.drop k = e :: L) (h2 : L = M ++ L') : l.length ≤ c ∧ LA W (.slice (some ⟨g, off + k * 13, none⟩) (e :: M).length (c - k)) (e :: M) := by
  obtain ⟨A, c', q1, q2, q3⟩ := h.sl
  injection q1 with _ _ q1
  have hk : k ≤ l.length := by
    rcases Nat.lt_or_ge l.length k with g | g
    · rw [List.drop_eq_nil_iff.2 (by omega)] at h1; cases h1
    · exact g
  refine ⟨by omega, lst_mid (P := l.take k) (L' := L') h ?_ (by rw [List.length_take]; omega)⟩
  rw [h2] at h1
  calc l = l.take k ++ l.drop k := (List.take_append_drop k l).symm
    _ = _ := by rw [h1]; rfl
theorem told_drop {l L M L' : List Ev} {e : Ev} {k : Nat} (h1 : l.drop k = e :: L) (h2 : L = M ++ L') : l.drop (k + (e :: M).length) = L' := by
  rw [← List.drop_drop, h1, h2]
  show ((e :: M) ++ L').drop (e :: M).length = L'
  rw [List.drop_left]
/-- What one round of the loop is about. -/
structure RdI (b : Bk) (e nx : Ev) (L : List Ev) (y : Pk) (cm : Cm) (B : Bk) (M L' : List Ev) : Prop where
  two : (replayedR b e nx).2 = true
  hcm : (replayedR b e nx).1 = cm
  spl : L = M ++ L'
  res : doR b cm = (B, e :: M)
  nxt : takenP ⟨B, none, none⟩ L' = some y
  ok : Pk.ok ⟨B, none, none⟩
  wf : cm.wf
theorem round_plain {b : Bk} {e : Ev} {L : List Ev} {y : Pk} (hx : Pk.ok ⟨b, none, none⟩) (hw : ∀ q ∈ e :: L, q.wf) (ht : takenP ⟨b, none, none⟩ (e :: L) = some y) (hy : y.isOpen = false) : ∃ cm B M L', RdI b e (L.headD zE) L y cm B M L' := by
  obtain ⟨h1, M, L', B, h2, h3, h4, h5⟩ := only_step hx hw ht hy
  refine ⟨_, B, M, L', h1, rfl, h2, h3, h5, ?_, replayed_wf (hw e (by simp)) (head_wf (fun q hq => hw q (by simp [hq])))⟩
  exact taken_ok _ hx (fun q hq => by
    rcases List.mem_cons.1 hq with g | g
    · exact hw q (by simp [g])
    · exact hw q (by rw [h2]; simp [g])) h4
set_option maxHeartbeats 3200000 in
set_option maxRecDepth 100000 in
theorem only_ok (cap meet : Int) (v : Value) (l : List Ev) (w : World) (h : LA w v l) (hln : l.length * 104 ≤ 140737488355328) (hf : fit cap meet = true) (hw : ∀ e ∈ l, e.wf) (y : Pk) (hy : takenP (pk0 cap meet) l = some y) (ho : y.isOpen = false) (HCk : Hid (ChkIs cap meet l l.length 0)) :
    Calls Try.prog 3 #[.agg #[.int .i64 cap, .int .i64 meet], v] w fun r w' => r = .returned (.bool true) ∧ Only Nil w w' := by
  obtain ⟨A, c, rfl, hc1, hc2⟩ := h.sl
  obtain ⟨i0, hi0, hz0, hz1, hz2⟩ := info_parts infoEvB
  have hlm : l.length ≤ 9223372036854775807 := by omega
  have HL := Lib.hid h
  have HF0 := Lib.hid (fun W => fitL_any cap meet W)
  rw [hf] at HF0
  have HN := Lib.hid (fun W => new09 cap meet W)
  rw [hf] at HN
  simp only [if_true] at HN
  have HFt := Lib.hid hf
  have HWf := Lib.hid hw
  have HTk := Lib.hid hy
  have HYo := Lib.hid ho
  clear h hc1 hc2 hf hw hy ho
  go_enter Try.func3, Try.ntmps3
  go_upto_region 1 with fail
  generalize hW : World.alloc w _ = W0
  have HC0 : Hid (W0.heap[w.heap.size]? = some (.cells (cfRow cap meet) tCf (0, 0))) := Lib.hid (by rw [← hW]; exact blk_new _ _)
  have HO0 : Hid (Only Nil w W0) := Lib.hid (by rw [← hW]; exact (Only.refl _ _).alloc _)
  clear hW
  have c0 := blk_cell HC0.out 0
  have c1 := blk_cell HC0.out 1
  have cl := blk_lt HC0.out
  simp only [cfRow, List.getElem?_toArray, List.getElem?_cons_zero, List.getElem?_cons_succ] at c0 c1
  have HG0 := Lib.hid (fun X (hx : Only Nil w X) => (HL.out.nil hx).gives)
  go_cut [5, 6] from 7 to 117 (fun v5 v6 wc => v5 = .int .i64 (l.length : Int) ∧ v6 = .int .i64 0 ∧ Hid (Only Nil w wc) ∧ Hid (wc.heap[w.heap.size]? = some (.cells (cfRow cap meet) tCf (0, 0))))
  case first =>
    go_region_law (first
      | ((refine step_append_new rfl (.tmp 17) (.tmp 18) tSe rfl tEvt i0 _ 13 104 Try.underlying24 hi0 hz0 hz1 hz2 rfl (by omega) _ rfl (by first | exact own_e1 _ _ _ | exact own_empty _ _ _) _ l.length (l.flatMap Ev.cells) rfl (by first | exact HG0.out _ (HO0.out.alloc _).drew | exact HG0.out _ (HO0.out.alloc _)) (ev_flat _) (one_evs _) (by unfold maxLen; omega) (by omega) ?_); intro A1 c1x w1 hown1 hgrow1 hat1;
          (have HO1 : Hid (Only Nil w w1) := Lib.hid (Only.grown (by first | exact (HO0.out.alloc _).drew | exact (HO0.out.alloc _)) hgrow1 (fun k hk hlt => by have hk' : W0.heap.size = k := Option.some.inj hk; have hs := HO0.out.size; omega)));
          (have HL1 : Hid (LE w1 (.slice A1 l.length c1x) l) := Lib.hid (Lst.of_own (base := 0) hown1 (by omega)));
          (have HC1 : Hid (w1.heap[w.heap.size]? = some (.cells (cfRow cap meet) tCf (0, 0))) := Lib.hid (blk_grown (by first | exact blk_drew (blk_alloc HC0.out _) | exact blk_alloc HC0.out _) hgrow1 (fun q => by have q' : W0.heap.size = w.heap.size := Option.some.inj q; omega)));
          (have c0' := blk_cell HC1.out 0); (have c1' := blk_cell HC1.out 1); (have cl' := blk_lt HC1.out); (simp only [cfRow, List.getElem?_toArray, List.getElem?_cons_zero, List.getElem?_cons_succ] at c0' c1');
          clear hown1 hgrow1 hat1)
      | (go_simp; go_at_call 5; (refine (HCk.out _ _ HL1.out).mono ?_); rintro r w2 ⟨rfl, ho2⟩;
          (have HO2 : Hid (Only Nil w w2) := Lib.hid (HO1.out.trans (S := Nil) ho2 (fun _ _ q => q))); (have HC2 := Lib.hid (ho2.blk HC1.out (fun q => q))); clear ho2))
    all_goals
      go_wp2
      go_meet
      case rel => exact ⟨rfl, rfl, HO2, HC2⟩
  case rest =>
    obtain ⟨rfl, rfl, HO, HC⟩ := hcut
    clear c0 c1 cl HC0 HO0 HG0 HCk hi0 hz0 hz1 hz2
    have c0 := blk_cell HC.out 0
    have c1 := blk_cell HC.out 1
    have cl := blk_lt HC.out
    simp only [cfRow, List.getElem?_toArray, List.getElem?_cons_zero, List.getElem?_cons_succ] at c0 c1
    go_wp2_with fail
    refine (HN.out _).mono ?_
    rintro r w3 ⟨rfl, ho⟩
    have HO3 := Lib.hid (HO.out.trans (S := Nil) ho (fun _ _ q => q))
    have HC3 := Lib.hid (ho.blk HC.out (fun q => q))
    clear ho HO HC c0 c1 cl HN
    have c0 := blk_cell HC3.out 0
    have c1 := blk_cell HC3.out 1
    have cl := blk_lt HC3.out
    simp only [cfRow, List.getElem?_toArray, List.getElem?_cons_zero, List.getElem?_cons_succ] at c0 c1
    unfold bk0
    go_upto_region 5 with fail
    generalize hW : World.alloc w3 _ = W4
    have hW' : w3.alloc (.cells (bk0 cap meet) tBk) = W4 := hW
    have ho4 : Only Nil w3 W4 := by rw [← hW']; exact (Only.refl _ _).alloc _
    have HB4 : Hid (W4.heap[w3.heap.size]? = some (.cells (bk0 cap meet) tBk (0, 0))) := Lib.hid (by rw [← hW']; exact blk_new _ _)
    have HBn := Lib.hid HO3.out.size
    have HO4 := Lib.hid (HO3.out.trans (S := Nil) ho4 (fun _ _ q => q))
    have HC4 := Lib.hid (ho4.blk HC3.out (fun q => q))
    clear hW hW' ho4 HO3 HC3 c0 c1 cl
    generalize w3.heap.size = B at *
    have c0 := blk_cell HC4.out 0
    have c1 := blk_cell HC4.out 1
    have cl := blk_lt HC4.out
    simp only [cfRow, List.getElem?_toArray, List.getElem?_cons_zero, List.getElem?_cons_succ] at c0 c1
    have hne : ((l.length : Int) != (l.length : Int)) = false := by simp
    go_wp2_with fail
    refine (HF0.out _).mono ?_
    rintro r w5 ⟨rfl, ho⟩
    have HO5 := Lib.hid (HO4.out.trans (S := Nil) ho (fun _ _ q => q))
    have HB5 := Lib.hid (ho.blk HB4.out (fun q => q))
    clear ho HO4 HC4 HB4 c0 c1 cl hne HF0
    go_wp2
    go_loopg [9, 10, 11, 12, 13, 14] (l.length) (fun m v9 v10 v11 v12 v13 v14 wr => ∃ k : Nat, k ≤ l.length ∧ m = l.length - k ∧ v9 = .int .i64 k ∧ Hid (LpW w B y k l wr) ∧ Hid (Only Nil w wr))
    case atStart => exact ⟨0, by omega, by omega, rfl, Lib.hid (lp_begin HB5.out HFt.out HTk.out), HO5⟩
    case round =>
      obtain ⟨k, hk, hm, rfl, HLp, HO⟩ := hrel
      have HMs := Lib.hid hm
      clear hm HB5 HO5
      by_cases hlt : k < l.length
      · have hkI : (k : Int) < (l.length : Int) := by omega
        have hx : l[k]? = some l[k] := List.getElem?_eq_getElem hlt
        have hd : l.drop k = l[k] :: l.drop (k + 1) := List.drop_eq_getElem_cons hlt
        obtain ⟨b, x1, x2, hb, hx1, hx2, hok, htk⟩ := HLp.out
        rw [hd] at htk
        have hwl : ∀ q ∈ l[k] :: l.drop (k + 1), q.wf := fun q hq => HWf.out q (List.mem_of_mem_drop (by rw [hd]; exact hq))
        obtain ⟨cm, b', M, L', hri⟩ := round_plain hok hwl htk HYo.out
        have HRi := Lib.hid hri
        have HOk := Lib.hid hok
        have Hx1 := Lib.hid hx1
        have Hx2 := Lib.hid hx2
        have HB := Lib.hid hb
        have HX := Lib.hid hx
        obtain ⟨X1, p1, f1, rfl⟩ := hx1.isSl
        obtain ⟨X2, p2, f2, rfl⟩ := hx2.isSl
        have HRp := Lib.hid (fun (nx : Ev) W (g1 : LR W (.slice X1 p1 f1) b.buys) (g2 : LR W (.slice X2 p2 f2) b.sells) => replayed_any b (.slice X1 p1 f1) (.slice X2 p2 f2) l[k] nx W g1 g2)
        have HLd := Lib.hid hd
        obtain ⟨g, off, rfl, hev⟩ := evo_cells HL.out hx
        clear hev
        generalize l[k] = e at *
        clear hx1 hx2 hb hx hd hok htk hwl hri HLp
        go_upto_region 10 with fail
        generalize hW : World.alloc wr _ = W6
        have hW' : wr.alloc (.cells zE.row tEvt) = W6 := hW
        have ho6 : Only Nil wr W6 := by rw [← hW']; exact (Only.refl _ _).alloc _
        have HN6 : Hid (W6.heap[wr.heap.size]? = some (.cells zE.row tEvt (0, 0))) := Lib.hid (by rw [← hW']; exact blk_new _ _)
        have HS6 := Lib.hid ho6
        have hNr : wr.heap.size ≤ wr.heap.size := Nat.le_refl _
        clear hW hW' ho6
        generalize hNq : wr.heap.size = N at *
        have HNr := Lib.hid hNq
        clear hNq hNr
        by_cases hlt2 : k + 1 < l.length
        · have hk1 : (k : Int) + 1 < (l.length : Int) := by omega
          have hy2 : l[k + 1]? = some l[k + 1] := List.getElem?_eq_getElem hlt2
          have hd2 : l.drop (k + 1) = l[k + 1] :: l.drop (k + 1 + 1) := List.drop_eq_getElem_cons hlt2
          rw [hd2] at HRi
          obtain ⟨a0, a1, a2, a3, a4, a5, a6, a7, a8, a9, a10, a11, a12, hg⟩ := evo_at (HL.out.nil (HO.out.trans (S := Nil) HS6.out (fun _ _ q => q))) hy2
          generalize l[k + 1] = nx at *
          replace HRi : Hid (RdI b e nx (nx :: l.drop (k + 1 + 1)) y cm b' M L') := HRi
          rw [← hd2] at HRi
          clear hy2 hd2
          go_upto_region 12 with (refine wpList_store_row rfl tEvt (.tmp 10) (.tmp 69) rfl _ rfl nx.row zE.row rfl _ HN6.out infoEvtL rfl (one_evL _) ?_)
          generalize hW : World.setRow _ _ _ = W7
          have hW' : W6.setRow N nx.row = W7 := hW
          have HNx : Hid (W7.heap[N]? = some (.cells nx.row tEvt (0, 0))) := Lib.hid (by rw [← hW']; exact blk_setRow HN6.out _)
          have HS7 : Hid (Only Nil wr W7) := Lib.hid (by rw [← hW']; exact HS6.out.setRow (.inr (by rw [HNr.out]; exact Nat.le_refl _)) _)
          clear hW hW' HN6 HS6 a0 a1 a2 a3 a4 a5 a6 a7 a8 a9 a10 a11 a12 hg hk1
          have HB7 := Lib.hid (HS7.out.blk HB.out (fun q => q))
          obtain ⟨a0, a1, a2, a3, a4, a5, a6, a7, a8, a9, a10, a11, a12, hg⟩ := evo_at (HL.out.nil (HO.out.trans (S := Nil) HS7.out (fun _ _ q => q))) HX.out
          have HRq := Lib.hid (fun W (ho : Only Nil W7 W) => HRp.out nx W (Hx1.out.nil (HS7.out.trans (S := Nil) ho (fun _ _ q => q))) (Hx2.out.nil (HS7.out.trans (S := Nil) ho (fun _ _ q => q))))
          rw [HRi.out.hcm, HRi.out.two] at HRq
          have HSof := Lib.hid (fun X (hx : Only Nil W7 X) => And.intro (And.intro (blk_cellsof (hx.blk HB7.out (fun q => q))) (And.intro (evo_at (HL.out.nil (HO.out.trans (S := Nil) (HS7.out.trans (S := Nil) hx (fun _ _ q => q)) (fun _ _ q => q))) HX.out) (evt_cells (hx.blk HNx.out (fun q => q))))) hx)
          (try simp only [Act.put, List.setIfInBounds_toArray, List.set_cons_zero, List.set_cons_succ])
          go_cut [11, 12] from 55 to 116 (fun v11 v12 wc => ∃ K, v11 = .pointer (some ⟨K, 0, none⟩) ∧ v12 = .bool true ∧ Hid (wc.heap[K]? = some (.cells (cmRow cm) tCm (0, 0))) ∧ Hid (Only Nil W7 wc))
          case first =>
            go_region_held3 (fun w' => ((w'.cell? ⟨B, 0, none⟩ = some (.int .i64 b.cap) ∧ w'.cell? ⟨B, 1, none⟩ = some (.int .i64 b.meet) ∧ w'.cell? ⟨B, 2, none⟩ = some (.slice X1 p1 f1) ∧ w'.cell? ⟨B, 3, none⟩ = some (.slice X2 p2 f2) ∧ w'.cell? ⟨B, 4, none⟩ = some (.int .u64 b.high) ∧ w'.cell? ⟨B, 5, none⟩ = some (.int .u64 b.seq) ∧ (∀ k, w'.frozen? ⟨B, k, none⟩ = false) ∧ B < w'.heap.size) ∧ (w'.cell? ⟨g, off + k * 13, none⟩ = some (.int .u64 e.seq) ∧ w'.cell? ⟨g, off + k * 13 + 1, none⟩ = some (.int .i64 e.kind) ∧ w'.cell? ⟨g, off + k * 13 + 2, none⟩ = some (.int .u64 e.id) ∧ w'.cell? ⟨g, off + k * 13 + 3, none⟩ = some (.int .u64 e.other) ∧ w'.cell? ⟨g, off + k * 13 + 4, none⟩ = some (.int .u64 e.target) ∧ w'.cell? ⟨g, off + k * 13 + 5, none⟩ = some (.int .u32 e.mem) ∧ w'.cell? ⟨g, off + k * 13 + 6, none⟩ = some (.int .i64 e.side) ∧ w'.cell? ⟨g, off + k * 13 + 7, none⟩ = some (.int .i64 e.typ) ∧ w'.cell? ⟨g, off + k * 13 + 8, none⟩ = some (.int .i64 e.price) ∧ w'.cell? ⟨g, off + k * 13 + 9, none⟩ = some (.int .u64 e.qty) ∧ w'.cell? ⟨g, off + k * 13 + 10, none⟩ = some (.int .u64 e.peak) ∧ w'.cell? ⟨g, off + k * 13 + 11, none⟩ = some (.int .i64 e.reason) ∧ w'.cell? ⟨g, off + k * 13 + 12, none⟩ = some (.int .i64 e.code) ∧ g < w'.heap.size) ∧ (w'.cell? ⟨N, 0, none⟩ = some (.int .u64 nx.seq) ∧ w'.cell? ⟨N, 1, none⟩ = some (.int .i64 nx.kind) ∧ w'.cell? ⟨N, 2, none⟩ = some (.int .u64 nx.id) ∧ w'.cell? ⟨N, 3, none⟩ = some (.int .u64 nx.other) ∧ w'.cell? ⟨N, 4, none⟩ = some (.int .u64 nx.target) ∧ w'.cell? ⟨N, 5, none⟩ = some (.int .u32 nx.mem) ∧ w'.cell? ⟨N, 6, none⟩ = some (.int .i64 nx.side) ∧ w'.cell? ⟨N, 7, none⟩ = some (.int .i64 nx.typ) ∧ w'.cell? ⟨N, 8, none⟩ = some (.int .i64 nx.price) ∧ w'.cell? ⟨N, 9, none⟩ = some (.int .u64 nx.qty) ∧ w'.cell? ⟨N, 10, none⟩ = some (.int .u64 nx.peak) ∧ w'.cell? ⟨N, 11, none⟩ = some (.int .i64 nx.reason) ∧ w'.cell? ⟨N, 12, none⟩ = some (.int .i64 nx.code) ∧ (∀ k, w'.frozen? ⟨N, k, none⟩ = false) ∧ N < w'.heap.size)) ∧ Only Nil W7 w')
              ((refine HSof.out _ ?_; ((repeat (first | (with_reducible refine Only.alloc ?_ _) | (with_reducible refine Only.drew ?_) | (with_reducible refine set9_new ?_ (by first | omega | (simp only [World.size_alloc]; omega)) _ _ _ _ _ _ _ _ _))); first | (with_reducible exact hwo) | (with_reducible exact Only.refl _ _))))
              ((first
                | (go_at_call 8; go_split_ands; (refine (HRq.out _ (by assumption)).mono ?_); rintro r wg ⟨rfl, hog⟩;
                    (have hwo := Only.trans (S := Nil) (by assumption : Only Nil W7 _) hog (fun _ _ q => q));
                    (have hzw : W7.heap.size ≤ wg.heap.size := hwo.size);
                    (try ((have HKa : Hid (wg.heap[W7.heap.size]? = some (.cells (cmRow zCm) tCm (0, 0))) := Lib.hid (hog.blk (blk_drew (blk_new W7 _)) (fun q => q))); (obtain ⟨ka0, ka1, ka2, ka3, ka4, ka5, ka6, ka7, ka8, ka9, ka10⟩ := cm_cells HKa.out)));
                    (have HW2 := Lib.hid hwo); unfold cmRow)))
            all_goals
              go_wp2
              go_meet
              case rel =>
                first
                  | (with_reducible exact fin12a HW2.out)
                  | (with_reducible exact fin12b HW2.out HKa.out)
          case rest =>
            obtain ⟨K, rfl, rfl, HK, HS8⟩ := hcut
            have HSw := Lib.hid (HS7.out.trans (S := Nil) HS8.out (fun _ _ q => q))
            clear a0 a1 a2 a3 a4 a5 a6 a7 a8 a9 a10 a11 a12 hg HSof HRq HB7 HNx HS7 HS8
            have HBc := Lib.hid (HSw.out.blk HB.out (fun q => q))
            have Hy1 := Lib.hid (Hx1.out.nil HSw.out)
            have Hy2 := Lib.hid (Hx2.out.nil HSw.out)
            obtain ⟨b0, b1, b2, b3, b4, b5, bf, bl⟩ := blk_cellsof HBc.out
            obtain ⟨d0, d1, d2, d3, d4, d5, d6, d7, d8, df, dl⟩ := cm_cells HK.out
            have HDo := Lib.hid (do_plain HOk.out HRi.out.wf Hy1.out Hy2.out)
            rw [HRi.out.res] at HDo
            go_wp2_with fail
            refine HDo.out.mono ?_
            rintro r wd ⟨z1, z2, z3, rfl, hz1, hz2, hz3, ho⟩
            simp only at hz1 hz2 hz3
            have hN := told_len HLd.out HRi.out.spl
            have HEm := Lib.hid (told_mid HL.out HLd.out HRi.out.spl)
            obtain ⟨Z1, s1, t1, rfl⟩ := hz1.isSl
            obtain ⟨Z2, s2, t2, rfl⟩ := hz2.isSl
            obtain ⟨Z3, t3, rfl, hz4, hz5⟩ := hz3.sl
            have HNl : Hid (l.drop (k + (e :: M).length) = L') := Lib.hid (told_drop HLd.out HRi.out.spl)
            have Hz1 := Lib.hid hz1
            have Hz2 := Lib.hid hz2
            have Hz3 := Lib.hid hz3
            have HSd := Lib.hid (HSw.out.trans (S := Nil) ho (fun _ _ q => q))
            clear ho hz1 hz2 hz3 HSw HBc Hy1 Hy2 HK HDo b0 b1 b2 b3 b4 b5 bf bl d0 d1 d2 d3 d4 d5 d6 d7 d8 df dl
            generalize (e :: M).length = N1 at *
            unfold bkRow
            go_upto_region 16 with fail
            generalize hW : World.alloc wd _ = We
            have hW' : wd.alloc (.cells (bkRow b' (.slice Z1 s1 t1) (.slice Z2 s2 t2)) tBk) = We := hW
            have hoe : Only Nil wd We := by rw [← hW']; exact (Only.refl _ _).alloc _
            have HD : Hid (We.heap[wd.heap.size]? = some (.cells (bkRow b' (.slice Z1 s1 t1) (.slice Z2 s2 t2)) tBk (0, 0))) := Lib.hid (by rw [← hW']; exact blk_new _ _)
            have HSe := Lib.hid (HSd.out.trans (S := Nil) hoe (fun _ _ q => q))
            have Hw1 := Lib.hid (Hz1.out.nil hoe)
            have Hw2 := Lib.hid (Hz2.out.nil hoe)
            have Hw3 := Lib.hid (Hz3.out.nil hoe)
            clear hW hW' hoe Hz1 Hz2 Hz3 HSd
            generalize wd.heap.size = D at *
            obtain ⟨E1, hE1⟩ : ∃ E1, E1 = k + N1 := ⟨_, rfl⟩
            have HEv := Lib.hid (fun W (hx : Only Nil We W) => events_any _ _ (e :: M) (e :: M) W (Hw3.out.nil hx).la (HEm.out.2.nil (HO.out.trans (S := Nil) (HSe.out.trans (S := Nil) hx (fun _ _ q => q)) (fun _ _ q => q))))
            have hdt : decide ((e :: M) = (e :: M)) = true := by simp
            rw [hdt, show N1 = E1 - k by omega] at HEv
            have hmc := HEm.out.1
            have hN0 : (((E1 - k : Nat) : Int) == 0) = false := beq_eq_false_iff_ne.2 (by omega)
            have hwk : wrap64 ((k : Int) + ((E1 - k : Nat) : Int)) = (E1 : Int) := by unfold wrap64; omega
            have g1 : ¬ ((l.length : Int) < (E1 : Int)) := by omega
            have g2 : (0 : Int) ≤ (E1 : Int) ∧ (E1 : Int) ≤ (c : Int) := by omega
            have g3 : (k : Int) ≤ (E1 : Int) := by omega
            have g4 : k ≤ E1 := by omega
            have g5 : k < c := by omega
            have g6 : c - k ≠ 0 := by omega
            have g7 : ¬ (c ≤ k) := by omega
            have g8 : (E1 : Int) ≤ (c : Int) := by omega
            have HE1 := Lib.hid hE1
            have HN := Lib.hid hN
            have hNe : N1 = E1 - k := by omega
            rw [hNe]
            clear hdt hE1 hN hNe
            obtain ⟨b0, b1, b2, b3, b4, b5, bf, bl⟩ := blk_cellsof HD.out
            go_wp2_with fail
            refine (HEv.out _ (Only.refl _ _)).mono ?_
            rintro r wf ⟨rfl, hof⟩
            have HDf := Lib.hid (hof.blk HD.out (fun q => q))
            have HSf := Lib.hid (HSe.out.trans (S := Nil) hof (fun _ _ q => q))
            have Hf1 := Lib.hid (Hw1.out.nil hof)
            have Hf2 := Lib.hid (Hw2.out.nil hof)
            have HBf := Lib.hid (HSf.out.blk HB.out (fun q => q))
            clear hof b0 b1 b2 b3 b4 b5 bf bl HEv HD HSe Hw1 Hw2 Hw3 HEm hN0 g1 g2 g3 g8
            obtain ⟨b0, b1, b2, b3, b4, b5, bf, bl⟩ := blk_cellsof HDf.out
            go_upto_region 19 with (refine wpList_store_row rfl tBk (.tmp 7) (.tmp 112) rfl _ rfl (bkRow b' (.slice Z1 s1 t1) (.slice Z2 s2 t2)) _ rfl _ HBf.out infoBk rfl (one_bk b' ⟨_, _, _, rfl⟩ ⟨_, _, _, rfl⟩) ?_)
            generalize hW : World.setRow _ _ _ = Wg
            have hW' : wf.setRow B (bkRow b' (.slice Z1 s1 t1) (.slice Z2 s2 t2)) = Wg := hW
            have HLn : Hid (LpW w B y E1 l Wg) := Lib.hid (by
              rw [← hW']
              refine ⟨b', _, _, blk_setRow HBf.out _, Hf1.out.only (only_row _ _) (fun k hk => ⟨tBk, hk ▸ blk_ty HBf.out, by decide⟩), Hf2.out.only (only_row _ _) (fun k hk => ⟨tBk, hk ▸ blk_ty HBf.out, by decide⟩), HRi.out.ok, ?_⟩
              have e1 : E1 = k + N1 := HE1.out
              rw [e1, HNl.out]
              exact HRi.out.nxt)
            have HOn : Hid (Only Nil w Wg) := Lib.hid (by rw [← hW']; exact (HO.out.trans (S := Nil) HSf.out (fun _ _ q => q)).setRow (.inr HBn.out) _)
            clear hW hW' b0 b1 b2 b3 b4 b5 bf bl HDf HSf Hf1 Hf2 HBf
            go_wp2
            go_roundg (l.length - E1)
            case measure => have := HMs.out; have := HN.out; have := HE1.out; omega
            case rel => exact ⟨E1, by have := HN.out; have := HE1.out; omega, rfl, by go_num, HLn, HOn⟩
        · have hk1 : ¬ ((k : Int) + 1 < (l.length : Int)) := by omega
          have hd2 : l.drop (k + 1) = [] := List.drop_eq_nil_iff.2 (by omega)
          have HRi' : Hid (RdI b e zE (l.drop (k + 1)) y cm b' M L') := Lib.hid (by have q := HRi.out; rw [hd2] at q ⊢; exact q)
          clear HRi hd2
          have HRi := HRi'
          clear HRi'
          go_upto_region 12 with fail
          have HNx := HN6
          have HS7 := HS6
          clear HN6 HS6 hk1
          generalize W6 = W7 at *
          generalize zE = nx at *
          have HB7 := Lib.hid (HS7.out.blk HB.out (fun q => q))
          obtain ⟨a0, a1, a2, a3, a4, a5, a6, a7, a8, a9, a10, a11, a12, hg⟩ := evo_at (HL.out.nil (HO.out.trans (S := Nil) HS7.out (fun _ _ q => q))) HX.out
          have HRq := Lib.hid (fun W (ho : Only Nil W7 W) => HRp.out nx W (Hx1.out.nil (HS7.out.trans (S := Nil) ho (fun _ _ q => q))) (Hx2.out.nil (HS7.out.trans (S := Nil) ho (fun _ _ q => q))))
          rw [HRi.out.hcm, HRi.out.two] at HRq
          have HSof := Lib.hid (fun X (hx : Only Nil W7 X) => And.intro (And.intro (blk_cellsof (hx.blk HB7.out (fun q => q))) (And.intro (evo_at (HL.out.nil (HO.out.trans (S := Nil) (HS7.out.trans (S := Nil) hx (fun _ _ q => q)) (fun _ _ q => q))) HX.out) (evt_cells (hx.blk HNx.out (fun q => q))))) hx)
          (try simp only [Act.put, List.setIfInBounds_toArray, List.set_cons_zero, List.set_cons_succ])
          go_cut [11, 12] from 55 to 116 (fun v11 v12 wc => ∃ K, v11 = .pointer (some ⟨K, 0, none⟩) ∧ v12 = .bool true ∧ Hid (wc.heap[K]? = some (.cells (cmRow cm) tCm (0, 0))) ∧ Hid (Only Nil W7 wc))
          case first =>
            go_region_held3 (fun w' => ((w'.cell? ⟨B, 0, none⟩ = some (.int .i64 b.cap) ∧ w'.cell? ⟨B, 1, none⟩ = some (.int .i64 b.meet) ∧ w'.cell? ⟨B, 2, none⟩ = some (.slice X1 p1 f1) ∧ w'.cell? ⟨B, 3, none⟩ = some (.slice X2 p2 f2) ∧ w'.cell? ⟨B, 4, none⟩ = some (.int .u64 b.high) ∧ w'.cell? ⟨B, 5, none⟩ = some (.int .u64 b.seq) ∧ (∀ k, w'.frozen? ⟨B, k, none⟩ = false) ∧ B < w'.heap.size) ∧ (w'.cell? ⟨g, off + k * 13, none⟩ = some (.int .u64 e.seq) ∧ w'.cell? ⟨g, off + k * 13 + 1, none⟩ = some (.int .i64 e.kind) ∧ w'.cell? ⟨g, off + k * 13 + 2, none⟩ = some (.int .u64 e.id) ∧ w'.cell? ⟨g, off + k * 13 + 3, none⟩ = some (.int .u64 e.other) ∧ w'.cell? ⟨g, off + k * 13 + 4, none⟩ = some (.int .u64 e.target) ∧ w'.cell? ⟨g, off + k * 13 + 5, none⟩ = some (.int .u32 e.mem) ∧ w'.cell? ⟨g, off + k * 13 + 6, none⟩ = some (.int .i64 e.side) ∧ w'.cell? ⟨g, off + k * 13 + 7, none⟩ = some (.int .i64 e.typ) ∧ w'.cell? ⟨g, off + k * 13 + 8, none⟩ = some (.int .i64 e.price) ∧ w'.cell? ⟨g, off + k * 13 + 9, none⟩ = some (.int .u64 e.qty) ∧ w'.cell? ⟨g, off + k * 13 + 10, none⟩ = some (.int .u64 e.peak) ∧ w'.cell? ⟨g, off + k * 13 + 11, none⟩ = some (.int .i64 e.reason) ∧ w'.cell? ⟨g, off + k * 13 + 12, none⟩ = some (.int .i64 e.code) ∧ g < w'.heap.size) ∧ (w'.cell? ⟨N, 0, none⟩ = some (.int .u64 nx.seq) ∧ w'.cell? ⟨N, 1, none⟩ = some (.int .i64 nx.kind) ∧ w'.cell? ⟨N, 2, none⟩ = some (.int .u64 nx.id) ∧ w'.cell? ⟨N, 3, none⟩ = some (.int .u64 nx.other) ∧ w'.cell? ⟨N, 4, none⟩ = some (.int .u64 nx.target) ∧ w'.cell? ⟨N, 5, none⟩ = some (.int .u32 nx.mem) ∧ w'.cell? ⟨N, 6, none⟩ = some (.int .i64 nx.side) ∧ w'.cell? ⟨N, 7, none⟩ = some (.int .i64 nx.typ) ∧ w'.cell? ⟨N, 8, none⟩ = some (.int .i64 nx.price) ∧ w'.cell? ⟨N, 9, none⟩ = some (.int .u64 nx.qty) ∧ w'.cell? ⟨N, 10, none⟩ = some (.int .u64 nx.peak) ∧ w'.cell? ⟨N, 11, none⟩ = some (.int .i64 nx.reason) ∧ w'.cell? ⟨N, 12, none⟩ = some (.int .i64 nx.code) ∧ (∀ k, w'.frozen? ⟨N, k, none⟩ = false) ∧ N < w'.heap.size)) ∧ Only Nil W7 w')
              ((refine HSof.out _ ?_; ((repeat (first | (with_reducible refine Only.alloc ?_ _) | (with_reducible refine Only.drew ?_) | (with_reducible refine set9_new ?_ (by first | omega | (simp only [World.size_alloc]; omega)) _ _ _ _ _ _ _ _ _))); first | (with_reducible exact hwo) | (with_reducible exact Only.refl _ _))))
              ((first
                | (go_at_call 8; go_split_ands; (refine (HRq.out _ (by assumption)).mono ?_); rintro r wg ⟨rfl, hog⟩;
                    (have hwo := Only.trans (S := Nil) (by assumption : Only Nil W7 _) hog (fun _ _ q => q));
                    (have hzw : W7.heap.size ≤ wg.heap.size := hwo.size);
                    (try ((have HKa : Hid (wg.heap[W7.heap.size]? = some (.cells (cmRow zCm) tCm (0, 0))) := Lib.hid (hog.blk (blk_drew (blk_new W7 _)) (fun q => q))); (obtain ⟨ka0, ka1, ka2, ka3, ka4, ka5, ka6, ka7, ka8, ka9, ka10⟩ := cm_cells HKa.out)));
                    (have HW2 := Lib.hid hwo); unfold cmRow)))
            all_goals
              go_wp2
              go_meet
              case rel =>
                first
                  | (with_reducible exact fin12a HW2.out)
                  | (with_reducible exact fin12b HW2.out HKa.out)
          case rest =>
            obtain ⟨K, rfl, rfl, HK, HS8⟩ := hcut
            have HSw := Lib.hid (HS7.out.trans (S := Nil) HS8.out (fun _ _ q => q))
            clear a0 a1 a2 a3 a4 a5 a6 a7 a8 a9 a10 a11 a12 hg HSof HRq HB7 HNx HS7 HS8
            have HBc := Lib.hid (HSw.out.blk HB.out (fun q => q))
            have Hy1 := Lib.hid (Hx1.out.nil HSw.out)
            have Hy2 := Lib.hid (Hx2.out.nil HSw.out)
            obtain ⟨b0, b1, b2, b3, b4, b5, bf, bl⟩ := blk_cellsof HBc.out
            obtain ⟨d0, d1, d2, d3, d4, d5, d6, d7, d8, df, dl⟩ := cm_cells HK.out
            have HDo := Lib.hid (do_plain HOk.out HRi.out.wf Hy1.out Hy2.out)
            rw [HRi.out.res] at HDo
            go_wp2_with fail
            refine HDo.out.mono ?_
            rintro r wd ⟨z1, z2, z3, rfl, hz1, hz2, hz3, ho⟩
            simp only at hz1 hz2 hz3
            have hN := told_len HLd.out HRi.out.spl
            have HEm := Lib.hid (told_mid HL.out HLd.out HRi.out.spl)
            obtain ⟨Z1, s1, t1, rfl⟩ := hz1.isSl
            obtain ⟨Z2, s2, t2, rfl⟩ := hz2.isSl
            obtain ⟨Z3, t3, rfl, hz4, hz5⟩ := hz3.sl
            have HNl : Hid (l.drop (k + (e :: M).length) = L') := Lib.hid (told_drop HLd.out HRi.out.spl)
            have Hz1 := Lib.hid hz1
            have Hz2 := Lib.hid hz2
            have Hz3 := Lib.hid hz3
            have HSd := Lib.hid (HSw.out.trans (S := Nil) ho (fun _ _ q => q))
            clear ho hz1 hz2 hz3 HSw HBc Hy1 Hy2 HK HDo b0 b1 b2 b3 b4 b5 bf bl d0 d1 d2 d3 d4 d5 d6 d7 d8 df dl
            generalize (e :: M).length = N1 at *
            unfold bkRow
            go_upto_region 16 with fail
            generalize hW : World.alloc wd _ = We
            have hW' : wd.alloc (.cells (bkRow b' (.slice Z1 s1 t1) (.slice Z2 s2 t2)) tBk) = We := hW
            have hoe : Only Nil wd We := by rw [← hW']; exact (Only.refl _ _).alloc _
            have HD : Hid (We.heap[wd.heap.size]? = some (.cells (bkRow b' (.slice Z1 s1 t1) (.slice Z2 s2 t2)) tBk (0, 0))) := Lib.hid (by rw [← hW']; exact blk_new _ _)
            have HSe := Lib.hid (HSd.out.trans (S := Nil) hoe (fun _ _ q => q))
            have Hw1 := Lib.hid (Hz1.out.nil hoe)
            have Hw2 := Lib.hid (Hz2.out.nil hoe)
            have Hw3 := Lib.hid (Hz3.out.nil hoe)
            clear hW hW' hoe Hz1 Hz2 Hz3 HSd
            generalize wd.heap.size = D at *
            obtain ⟨E1, hE1⟩ : ∃ E1, E1 = k + N1 := ⟨_, rfl⟩
            have HEv := Lib.hid (fun W (hx : Only Nil We W) => events_any _ _ (e :: M) (e :: M) W (Hw3.out.nil hx).la (HEm.out.2.nil (HO.out.trans (S := Nil) (HSe.out.trans (S := Nil) hx (fun _ _ q => q)) (fun _ _ q => q))))
            have hdt : decide ((e :: M) = (e :: M)) = true := by simp
            rw [hdt, show N1 = E1 - k by omega] at HEv
            have hmc := HEm.out.1
            have hN0 : (((E1 - k : Nat) : Int) == 0) = false := beq_eq_false_iff_ne.2 (by omega)
            have hwk : wrap64 ((k : Int) + ((E1 - k : Nat) : Int)) = (E1 : Int) := by unfold wrap64; omega
            have g1 : ¬ ((l.length : Int) < (E1 : Int)) := by omega
            have g2 : (0 : Int) ≤ (E1 : Int) ∧ (E1 : Int) ≤ (c : Int) := by omega
            have g3 : (k : Int) ≤ (E1 : Int) := by omega
            have g4 : k ≤ E1 := by omega
            have g5 : k < c := by omega
            have g6 : c - k ≠ 0 := by omega
            have g7 : ¬ (c ≤ k) := by omega
            have g8 : (E1 : Int) ≤ (c : Int) := by omega
            have HE1 := Lib.hid hE1
            have HN := Lib.hid hN
            have hNe : N1 = E1 - k := by omega
            rw [hNe]
            clear hdt hE1 hN hNe
            obtain ⟨b0, b1, b2, b3, b4, b5, bf, bl⟩ := blk_cellsof HD.out
            go_wp2_with fail
            refine (HEv.out _ (Only.refl _ _)).mono ?_
            rintro r wf ⟨rfl, hof⟩
            have HDf := Lib.hid (hof.blk HD.out (fun q => q))
            have HSf := Lib.hid (HSe.out.trans (S := Nil) hof (fun _ _ q => q))
            have Hf1 := Lib.hid (Hw1.out.nil hof)
            have Hf2 := Lib.hid (Hw2.out.nil hof)
            have HBf := Lib.hid (HSf.out.blk HB.out (fun q => q))
            clear hof b0 b1 b2 b3 b4 b5 bf bl HEv HD HSe Hw1 Hw2 Hw3 HEm hN0 g1 g2 g3 g8
            obtain ⟨b0, b1, b2, b3, b4, b5, bf, bl⟩ := blk_cellsof HDf.out
            go_upto_region 19 with (refine wpList_store_row rfl tBk (.tmp 7) (.tmp 112) rfl _ rfl (bkRow b' (.slice Z1 s1 t1) (.slice Z2 s2 t2)) _ rfl _ HBf.out infoBk rfl (one_bk b' ⟨_, _, _, rfl⟩ ⟨_, _, _, rfl⟩) ?_)
            generalize hW : World.setRow _ _ _ = Wg
            have hW' : wf.setRow B (bkRow b' (.slice Z1 s1 t1) (.slice Z2 s2 t2)) = Wg := hW
            have HLn : Hid (LpW w B y E1 l Wg) := Lib.hid (by
              rw [← hW']
              refine ⟨b', _, _, blk_setRow HBf.out _, Hf1.out.only (only_row _ _) (fun k hk => ⟨tBk, hk ▸ blk_ty HBf.out, by decide⟩), Hf2.out.only (only_row _ _) (fun k hk => ⟨tBk, hk ▸ blk_ty HBf.out, by decide⟩), HRi.out.ok, ?_⟩
              have e1 : E1 = k + N1 := HE1.out
              rw [e1, HNl.out]
              exact HRi.out.nxt)
            have HOn : Hid (Only Nil w Wg) := Lib.hid (by rw [← hW']; exact (HO.out.trans (S := Nil) HSf.out (fun _ _ q => q)).setRow (.inr HBn.out) _)
            clear hW hW' b0 b1 b2 b3 b4 b5 bf bl HDf HSf Hf1 Hf2 HBf
            go_wp2
            go_roundg (l.length - E1)
            case measure => have := HMs.out; have := HN.out; have := HE1.out; omega
            case rel => exact ⟨E1, by have := HN.out; have := HE1.out; omega, rfl, by go_num, HLn, HOn⟩
      · have hkI : ¬ ((k : Int) < (l.length : Int)) := by omega
        go_wp2
        go_ret
        exact ⟨rfl, HO.out⟩
end Ck
end Go.Proofs.Ytcnkbhgdcfckoaa

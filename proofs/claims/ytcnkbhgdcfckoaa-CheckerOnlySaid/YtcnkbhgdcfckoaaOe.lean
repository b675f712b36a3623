/- The walk of the law CheckerOnly. -/
import Derived.Test.YtcnkbhgdcfckoaaOa
import Derived.Test.YtcnkbhgdcfckoaaOd
import Derived.Test.YtcnkbhgdcfckoaaNp
set_option linter.unusedVariables false
set_option linter.unusedSimpArgs false
namespace Go.Proofs.Ytcnkbhgdcfckoaa
open Go.RowKit
namespace Ck
abbrev tCf : Nat := 23
def cfRow (cap meet : Int) : Array Value := #[.int .i64 cap, .int .i64 meet]
/-- What Check is asked to hand back. -/
def ChkIs (cap meet : Int) (l : List Ev) (n : Nat) (code : Int) : Prop := ∀ W v, LE W v l → Calls Try.prog 5 #[.agg (cfRow cap meet), v] W fun r w' => r = .returned (.tuple #[.int .i64 n, .int .i64 code]) ∧ Only Nil W w'
set_option maxHeartbeats 3200000 in
set_option maxRecDepth 100000 in
theorem only_no (cap meet : Int) (v : Value) (l : List Ev) (w : World) (h : LA w v l) (hln : l.length * 104 ≤ 140737488355328) (hf : fit cap meet = false) (HCk : Hid (ChkIs cap meet l 0 1)) :
    Calls Try.prog 3 #[.agg #[.int .i64 cap, .int .i64 meet], v] w fun r w' => r = .returned (.bool true) ∧ Only Nil w w' := by
  obtain ⟨A, c, rfl, hc1, hc2⟩ := h.sl
  obtain ⟨i0, hi0, hz0, hz1, hz2⟩ := info_parts infoEvB
  have hlm : l.length ≤ 9223372036854775807 := by omega
  have HL := Lib.hid h
  have HF0 := Lib.hid (fun W => fitL_any cap meet W)
  rw [hf] at HF0
  clear h hc1 hc2 hf
  go_enter Try.func3, Try.ntmps3
  go_upto_region 1 with fail
  generalize hW : World.alloc w _ = W0
  have HC0 : Hid (W0.heap[w.heap.size]? = some (.cells (cfRow cap meet) tCf (0, 0))) := Lib.hid (by rw [← hW]; exact blk_new _ _)
  have HO0 : Hid (Only Nil w W0) := Lib.hid (by rw [← hW]; exact (Only.refl _ _).alloc _)
  clear hW
  have c0 := blk_cell HC0.out 0
  have c1 := blk_cell HC0.out 1
  have cl := blk_lt HC0.out
  simp only [cfRow, List.getElem?_toArray, List.getElem?_cons_zero, List.getElem?_cons_succ] at c0 c1
  have HG0 := Lib.hid (fun X (hx : Only Nil w X) => (HL.out.nil hx).gives)
  go_cut [5, 6] from 7 to 117 (fun v5 v6 wc => v5 = .int .i64 ((0 : Nat) : Int) ∧ v6 = .int .i64 1 ∧ Hid (Only Nil w wc) ∧ Hid (wc.heap[w.heap.size]? = some (.cells (cfRow cap meet) tCf (0, 0))))
  case first =>
    go_region_law (first
      | ((refine step_append_new rfl (.tmp 17) (.tmp 18) tSe rfl tEvt i0 _ 13 104 Try.underlying24 hi0 hz0 hz1 hz2 rfl (by omega) _ rfl (by first | exact own_e1 _ _ _ | exact own_empty _ _ _) _ l.length (l.flatMap Ev.cells) rfl (by first | exact HG0.out _ (HO0.out.alloc _).drew | exact HG0.out _ (HO0.out.alloc _)) (ev_flat _) (one_evs _) (by unfold maxLen; omega) (by omega) ?_); intro A1 c1x w1 hown1 hgrow1 hat1;
          (have HO1 : Hid (Only Nil w w1) := Lib.hid (Only.grown (by first | exact (HO0.out.alloc _).drew | exact (HO0.out.alloc _)) hgrow1 (fun k hk hlt => by have hk' : W0.heap.size = k := Option.some.inj hk; have hs := HO0.out.size; omega)));
          (have HL1 : Hid (LE w1 (.slice A1 l.length c1x) l) := Lib.hid (Lst.of_own (base := 0) hown1 (by omega)));
          (have HC1 : Hid (w1.heap[w.heap.size]? = some (.cells (cfRow cap meet) tCf (0, 0))) := Lib.hid (blk_grown (by first | exact blk_drew (blk_alloc HC0.out _) | exact blk_alloc HC0.out _) hgrow1 (fun q => by have q' : W0.heap.size = w.heap.size := Option.some.inj q; omega)));
          (have c0' := blk_cell HC1.out 0); (have c1' := blk_cell HC1.out 1); (have cl' := blk_lt HC1.out); (simp only [cfRow, List.getElem?_toArray, List.getElem?_cons_zero, List.getElem?_cons_succ] at c0' c1');
          clear hown1 hgrow1 hat1)
      | (go_simp; go_at_call 5; (refine (HCk.out _ _ HL1.out).mono ?_); rintro r w2 ⟨rfl, ho2⟩;
          (have HO2 : Hid (Only Nil w w2) := Lib.hid (HO1.out.trans (S := Nil) ho2 (fun _ _ q => q))); (have HC2 := Lib.hid (ho2.blk HC1.out (fun q => q))); clear ho2))
    all_goals
      go_wp2
      go_meet
      case rel => exact ⟨rfl, rfl, HO2, HC2⟩
  case rest =>
    obtain ⟨rfl, rfl, HO, HC⟩ := hcut
    clear c0 c1 cl HC0 HO0 HG0 HCk hi0 hz0 hz1 hz2
    have c0 := blk_cell HC.out 0
    have c1 := blk_cell HC.out 1
    have cl := blk_lt HC.out
    simp only [cfRow, List.getElem?_toArray, List.getElem?_cons_zero, List.getElem?_cons_succ] at c0 c1
    have hl0 : (0 : Int) ≤ (l.length : Int) := by omega
    simp only [Int.natCast_zero]
    go_wp2_with fail
    refine (HF0.out _).mono ?_
    rintro r w3 ⟨rfl, ho⟩
    have HO3 := Lib.hid (HO.out.trans (S := Nil) ho (fun _ _ q => q))
    go_wp2
    go_ret
    exact ⟨rfl, HO3.out⟩
set_option maxHeartbeats 3200000 in
set_option maxRecDepth 100000 in
theorem only_bad (cap meet : Int) (v : Value) (l : List Ev) (w : World) (h : LA w v l) (hln : l.length * 104 ≤ 140737488355328) (hf : fit cap meet = true) (n : Nat) (hn : n ≤ l.length) (code : Int) (hc0 : code ≠ 0) (hc1' : code ≠ 1) (HCk : Hid (ChkIs cap meet l n code)) :
    Calls Try.prog 3 #[.agg #[.int .i64 cap, .int .i64 meet], v] w fun r w' => r = .returned (.bool true) ∧ Only Nil w w' := by
  obtain ⟨A, c, rfl, hc1, hc2⟩ := h.sl
  obtain ⟨i0, hi0, hz0, hz1, hz2⟩ := info_parts infoEvB
  have hlm : l.length ≤ 9223372036854775807 := by omega
  have HL := Lib.hid h
  have HF0 := Lib.hid (fun W => fitL_any cap meet W)
  rw [hf] at HF0
  clear h hc1 hc2 hf
  go_enter Try.func3, Try.ntmps3
  go_upto_region 1 with fail
  generalize hW : World.alloc w _ = W0
  have HC0 : Hid (W0.heap[w.heap.size]? = some (.cells (cfRow cap meet) tCf (0, 0))) := Lib.hid (by rw [← hW]; exact blk_new _ _)
  have HO0 : Hid (Only Nil w W0) := Lib.hid (by rw [← hW]; exact (Only.refl _ _).alloc _)
  clear hW
  have c0 := blk_cell HC0.out 0
  have c1 := blk_cell HC0.out 1
  have cl := blk_lt HC0.out
  simp only [cfRow, List.getElem?_toArray, List.getElem?_cons_zero, List.getElem?_cons_succ] at c0 c1
  have HG0 := Lib.hid (fun X (hx : Only Nil w X) => (HL.out.nil hx).gives)
  go_cut [5, 6] from 7 to 117 (fun v5 v6 wc => v5 = .int .i64 (n : Int) ∧ v6 = .int .i64 code ∧ Hid (Only Nil w wc) ∧ Hid (wc.heap[w.heap.size]? = some (.cells (cfRow cap meet) tCf (0, 0))))
  case first =>
    go_region_law (first
      | ((refine step_append_new rfl (.tmp 17) (.tmp 18) tSe rfl tEvt i0 _ 13 104 Try.underlying24 hi0 hz0 hz1 hz2 rfl (by omega) _ rfl (by first | exact own_e1 _ _ _ | exact own_empty _ _ _) _ l.length (l.flatMap Ev.cells) rfl (by first | exact HG0.out _ (HO0.out.alloc _).drew | exact HG0.out _ (HO0.out.alloc _)) (ev_flat _) (one_evs _) (by unfold maxLen; omega) (by omega) ?_); intro A1 c1x w1 hown1 hgrow1 hat1;
          (have HO1 : Hid (Only Nil w w1) := Lib.hid (Only.grown (by first | exact (HO0.out.alloc _).drew | exact (HO0.out.alloc _)) hgrow1 (fun k hk hlt => by have hk' : W0.heap.size = k := Option.some.inj hk; have hs := HO0.out.size; omega)));
          (have HL1 : Hid (LE w1 (.slice A1 l.length c1x) l) := Lib.hid (Lst.of_own (base := 0) hown1 (by omega)));
          (have HC1 : Hid (w1.heap[w.heap.size]? = some (.cells (cfRow cap meet) tCf (0, 0))) := Lib.hid (blk_grown (by first | exact blk_drew (blk_alloc HC0.out _) | exact blk_alloc HC0.out _) hgrow1 (fun q => by have q' : W0.heap.size = w.heap.size := Option.some.inj q; omega)));
          (have c0' := blk_cell HC1.out 0); (have c1' := blk_cell HC1.out 1); (have cl' := blk_lt HC1.out); (simp only [cfRow, List.getElem?_toArray, List.getElem?_cons_zero, List.getElem?_cons_succ] at c0' c1');
          clear hown1 hgrow1 hat1)
      | (go_simp; go_at_call 5; (refine (HCk.out _ _ HL1.out).mono ?_); rintro r w2 ⟨rfl, ho2⟩;
          (have HO2 : Hid (Only Nil w w2) := Lib.hid (HO1.out.trans (S := Nil) ho2 (fun _ _ q => q))); (have HC2 := Lib.hid (ho2.blk HC1.out (fun q => q))); clear ho2))
    all_goals
      go_wp2
      go_meet
      case rel => exact ⟨rfl, rfl, HO2, HC2⟩
  case rest =>
    obtain ⟨rfl, rfl, HO, HC⟩ := hcut
    clear c0 c1 cl HC0 HO0 HG0 HCk hi0 hz0 hz1 hz2
    have c0 := blk_cell HC.out 0
    have c1 := blk_cell HC.out 1
    have cl := blk_lt HC.out
    simp only [cfRow, List.getElem?_toArray, List.getElem?_cons_zero, List.getElem?_cons_succ] at c0 c1
    have hl0 : (0 : Int) ≤ (n : Int) := by omega
    have hl1 : (n : Int) ≤ (l.length : Int) := by omega
    have hb0 : (code != 0) = true := by simp [hc0]
    have hb1 : (code == 1) = false := by simp [hc1']
    clear hc0 hc1'
    go_wp2_with fail
    refine (HF0.out _).mono ?_
    rintro r w3 ⟨rfl, ho⟩
    have HO3 := Lib.hid (HO.out.trans (S := Nil) ho (fun _ _ q => q))
    go_wp2
    go_ret
    exact ⟨rfl, HO3.out⟩
end Ck
end Go.Proofs.Ytcnkbhgdcfckoaa

/- HistoryNews: the law's walk. -/
import Derived.Test.YtnhedhmffgaohaaGreatHE
namespace Go.Proofs.YtnhedhmffgaohaaGreat
open Go.RowKit
namespace Hs
theorem asked_any (X P B cap meet each n fr tt id : Nat) (side : Int) (w : World) (h : M0 w X P B cap meet each) (hf : Ck.fit cap meet = true) :
    Calls Tryz.prog 9 #[.pointer (some ⟨X, 0, none⟩), .agg #[.int .u64 (n : Int), .int .u64 (fr : Int), .int .u64 (tt : Int), .int .u64 (id : Int), .int .i64 side]] w fun e w' => e = .returned (.bool true) ∧ Only Nil w w' := by
  by_cases h0 : n = 0
  · refine asked_core X P B cap meet each n fr tt id side cap meet 0 w h hf (fun W ho => ?_) (fun W => ?_)
    · have := book0 P B cap meet each n W (h.only ho).h hf
      simpa only [if_pos h0] using this
    · refine (bookR cap meet each n W hf).mono fun e w' ⟨⟨g1, g2, he⟩, ho⟩ => ⟨⟨some ⟨g1, 0, none⟩, some ⟨g2, 0, none⟩, ?_⟩, ho⟩
      rw [he, if_pos h0, if_pos h0]
      rfl
  · refine asked_core X P B cap meet each n fr tt id side 0 0 300 w h hf (fun W ho => ?_) (fun W => ?_)
    · have := book0 P B cap meet each n W (h.only ho).h hf
      simpa only [if_neg h0] using this
    · refine (bookR cap meet each n W hf).mono fun e w' ⟨⟨g1, g2, he⟩, ho⟩ => ⟨⟨none, none, ?_⟩, ho⟩
      rw [he, if_neg h0, if_neg h0]
      rfl
set_option maxHeartbeats 800000 in
set_option maxRecDepth 100000 in
theorem news_no (cap meet each : Int) (n fr tt id : Nat) (side : Int) (w : World) (hf : hfit cap meet each = false) :
    Calls Tryz.prog 3 #[.agg #[.int .i64 cap, .int .i64 meet], .int .i64 each, .agg #[.int .u64 (n : Int), .int .u64 (fr : Int), .int .u64 (tt : Int), .int .u64 (id : Int), .int .i64 side]] w fun e w' => e = .returned (.bool true) ∧ Below w.heap.size w w' := by
  have HM := Lib.hid (fun W => made_no cap meet each W hf)
  clear hf
  go_enter Tryz.func3, Tryz.ntmps3
  go_wp2_with fail
  refine (HM.out _).mono ?_
  rintro e w1 ⟨⟨X, rfl, hb⟩, ho⟩
  have c0 := blk_cell hb 0
  have l0 := blk_lt hb
  simp only [List.getElem?_toArray, List.getElem?_cons_zero] at c0
  clear hb
  go_wp2
  go_ret
  exact ⟨rfl, ((((Only.refl Nil w).alloc _).alloc _).trans ho (fun _ _ h => h)).toBelow⟩
set_option maxHeartbeats 800000 in
set_option maxRecDepth 100000 in
theorem news_yes (cap meet each : Nat) (n fr tt id : Nat) (side : Int) (w : World) (hf : hfit cap meet each = true) :
    Calls Tryz.prog 3 #[.agg #[.int .i64 (cap : Int), .int .i64 (meet : Int)], .int .i64 (each : Int), .agg #[.int .u64 (n : Int), .int .u64 (fr : Int), .int .u64 (tt : Int), .int .u64 (id : Int), .int .i64 side]] w fun e w' => e = .returned (.bool true) ∧ Below w.heap.size w w' := by
  have HM := Lib.hid (fun W => made_yes cap meet each W hf)
  have HL := Lib.hid (fun X P B W (h : M0 W X P B cap meet each) => laidL X P B cap meet each W h hf)
  have HA := Lib.hid (fun X P B n fr tt id side W (h : M0 W X P B cap meet each) => asked_any X P B cap meet each n fr tt id side W h (hfit_yes hf).1)
  clear hf
  go_enter Tryz.func3, Tryz.ntmps3
  go_wp2_with fail
  refine (HM.out _).mono ?_
  rintro e w1 ⟨⟨X, P, B, rfl, hX, hP, hB, hM⟩, ho⟩
  have ha := ho.blk (blk_new' (w.alloc (.cells #[.int .i64 (cap : Int), .int .i64 (meet : Int)] 23)) (.cells #[.int .u64 (n : Int), .int .u64 (fr : Int), .int .u64 (tt : Int), .int .u64 (id : Int), .int .i64 side] tAsk) (w.heap.size + 1) (by simp)) (fun h => h)
  have O1 := Lib.hid ((((Only.refl Nil w).alloc (.cells #[.int .i64 (cap : Int), .int .i64 (meet : Int)] 23)).alloc (.cells #[.int .u64 (n : Int), .int .u64 (fr : Int), .int .u64 (tt : Int), .int .u64 (id : Int), .int .i64 side] tAsk)).trans ho (fun _ _ h => h))
  have M1 := Lib.hid hM
  have A1 := Lib.hid ha
  obtain ⟨c0, c1, c2, c3, c4, l0⟩ := hM.cells
  clear hM ha ho hX hP hB c1 c2 c3 c4
  go_wp2_with fail
  refine (HL.out _ _ _ _ M1.out).mono ?_
  rintro e w2 ⟨rfl, ho⟩
  have O2 := Lib.hid (O1.out.trans (S := Nil) ho (fun _ _ h => h))
  have M2 := Lib.hid (M1.out.only ho)
  have A2 := Lib.hid (ho.blk A1.out (fun h => h))
  have a0 := blk_cell A2.out 0
  have a1 := blk_cell A2.out 1
  have a2 := blk_cell A2.out 2
  have a3 := blk_cell A2.out 3
  have a4 := blk_cell A2.out 4
  have lA := blk_lt A2.out
  simp only [List.getElem?_toArray, List.getElem?_cons_zero, List.getElem?_cons_succ] at a0 a1 a2 a3 a4
  clear c0 l0 ho O1 M1 A1
  go_wp2_with fail
  refine (HA.out _ _ _ _ _ _ _ _ _ M2.out).mono ?_
  rintro e w3 ⟨rfl, ho⟩
  have O3 := Lib.hid (O2.out.trans (S := Nil) ho (fun _ _ h => h))
  have M3 := Lib.hid (M2.out.only ho)
  clear a0 a1 a2 a3 a4 lA A2 ho O2 M2
  go_wp2_with fail
  refine (HA.out X P B 0 0 0 0 0 _ M3.out).mono ?_
  rintro e w4 ⟨rfl, ho⟩
  have O4 := Lib.hid (O3.out.trans (S := Nil) ho (fun _ _ h => h))
  have M4 := Lib.hid (M3.out.only ho)
  clear ho O3 M3
  go_wp2_with fail
  refine (HA.out X P B 0 0 0 0 1 _ M4.out).mono ?_
  rintro e w5 ⟨rfl, ho⟩
  have O5 := Lib.hid (O4.out.trans (S := Nil) ho (fun _ _ h => h))
  clear ho
  go_wp2
  go_ret
  exact ⟨rfl, O5.out.toBelow⟩
end Hs
end Go.Proofs.YtnhedhmffgaohaaGreat

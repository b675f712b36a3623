/- The walks of New: rules, checker, the document's checker. -/
import Derived.Test.YtnhedhmffgaohaaGreatAg
import Derived.Outline
namespace Go.Proofs.YtnhedhmffgaohaaGreat
open Go.RowKit
namespace Ck
abbrev tC : Nat := 136
abbrev tK : Nat := 102
abbrev tBk : Nat := 71
abbrev tR : Nat := 76
abbrev tE : Nat := 66
def fit (cap meet : Int) : Bool := decide (1 ≤ cap) && decide (cap ≤ 4096) && decide (0 ≤ meet) && decide (meet ≤ 3)
def bk0 (cap meet : Int) : Array Value := #[.int .i64 cap, .int .i64 meet, .slice none 0 0, .slice none 0 0, .int .u64 0, .int .u64 0]
def rk0 (cap meet : Int) : Array Value := #[.int .i64 cap, .int .i64 meet, .slice none 0 0, .slice none 0 0, .int .u64 0, .int .u64 0, .bool false,
  .int .u64 0, .int .u32 0, .int .i64 0, .int .i64 0, .int .u64 0, .int .u64 0, .int .u64 0, .int .i64 0, .bool false,
  .int .u64 0, .int .i64 0, .int .u64 0, .int .u64 0, .int .u64 0, .int .u32 0, .int .i64 0, .int .i64 0, .int .i64 0, .int .u64 0, .int .u64 0, .int .i64 0, .int .i64 0,
  .int .u64 0, .int .u64 0, .bool false, .bool false]
theorem fit_yes {cap meet : Int} (h : fit cap meet = true) : 1 ≤ cap ∧ cap ≤ 4096 ∧ 0 ≤ meet ∧ meet ≤ 3 := by
  unfold fit at h; simp at h; omega
theorem fit_no {cap meet : Int} (h : fit cap meet = false) : cap < 1 ∨ 4096 < cap ∨ meet < 0 ∨ 3 < meet := by
  unfold fit at h; simp at h; omega

set_option maxHeartbeats 400000 in
set_option maxRecDepth 100000 in
theorem config_any (cap meet : Int) (w : World) :
    Calls Tryz.prog 100 #[.agg #[.int .i64 cap, .int .i64 meet]] w fun e w' => e = .returned (.bool (fit cap meet)) ∧ Only Nil w w' := by
  have hq : (decide (1 ≤ cap) = true ∧ decide (cap ≤ 4096) = true ∧ decide (0 ≤ meet) = true) ∨ (decide (1 ≤ cap) = true ∧ decide (cap ≤ 4096) = true ∧ decide (0 ≤ meet) = false) ∨ (decide (1 ≤ cap) = true ∧ decide (cap ≤ 4096) = false) ∨ decide (1 ≤ cap) = false := by
    by_cases h1 : 1 ≤ cap <;> by_cases h2 : cap ≤ 4096 <;> by_cases h3 : 0 ≤ meet <;> simp [h1, h2, h3]
  unfold fit
  rcases hq with ⟨h1, h2, h3⟩ | ⟨h1, h2, h3⟩ | ⟨h1, h2⟩ | h1
  all_goals
    go_enter Tryz.func100, Tryz.ntmps100
    go_wp2
    try (go_quiet (fail); go_wp2)
    go_ret
    refine ⟨?_, ?_⟩
    · simp [*]
    · first | exact (Only.refl Nil w).alloc _ | exact ((Only.refl Nil w).alloc _).drewN _

theorem infoBk : (Tryz.prog.info? tBk).map (·.size) = some 6 := by kernel_rfl
theorem infoK : (Tryz.prog.info? tK).map (·.size) = some 33 := by kernel_rfl
theorem one_bk0 (cap meet : Int) : (bk0 cap meet).all (·.oneCell') = true := by kernel_rfl
theorem one_rk0 (cap meet : Int) : (rk0 cap meet).all (·.oneCell') = true := by kernel_rfl
set_option maxHeartbeats 400000 in
set_option maxRecDepth 100000 in
theorem new09 (cap meet : Int) (w : World) :
    Calls Tryz.prog 65 #[.agg #[.int .i64 cap, .int .i64 meet]] w fun e w' =>
      e = .returned (.tuple #[.agg (if fit cap meet then bk0 cap meet else bk0 0 0), .int .i64 (if fit cap meet then 0 else 1)]) ∧ Only Nil w w' := by
  have HC := Lib.hid (fun W => config_any cap meet W)
  cases hf : fit cap meet with
  | true =>
    rw [hf] at HC
    clear hf
    go_enter Tryz.func65, Tryz.ntmps65
    go_wp2_with fail
    refine (HC.out _).mono ?_
    rintro e w1 ⟨rfl, ho⟩
    have b0 := ho.blk (blk_alloc (blk_new w (.cells #[.int .i64 cap, .int .i64 meet] 23)) (.cells (bk0 0 0) tBk)) (fun h => h)
    have b1 := ho.blk (blk_new' (w.alloc (.cells #[.int .i64 cap, .int .i64 meet] 23)) (.cells (bk0 0 0) tBk) (w.heap.size + 1) (by simp)) (fun h => h)
    have c0 := blk_cell b0 0
    have c1 := blk_cell b0 1
    have l0 := blk_lt b0
    simp only [List.getElem?_toArray, List.getElem?_cons_zero, List.getElem?_cons_succ] at c0 c1
    have B1 := Lib.hid b1
    have O1 := Lib.hid ho
    clear b0 b1 ho
    go_wp2_with (refine wpList_store_row rfl tBk (.tmp 2) (.tmp 9) rfl _ rfl (bk0 cap meet) (bk0 0 0) rfl _ B1.out infoBk rfl (one_bk0 _ _) ?_)
    refine bodyPost_ret (v := .tuple #[.agg (bk0 cap meet), .int .i64 0]) (results_agg_tmp rfl _ _ _ _ _ _ _ rfl _ rfl (blk_setRow B1.out (bk0 cap meet)) Tryz.underlying71 rfl infoBk) rfl ⟨rfl, ?_⟩
    exact ((((Only.refl Nil w).alloc _).alloc _).trans O1.out (fun _ _ h => h)).setRow (.inr (by omega)) _
  | false =>
    rw [hf] at HC
    clear hf
    go_enter Tryz.func65, Tryz.ntmps65
    go_wp2_with fail
    refine (HC.out _).mono ?_
    rintro e w1 ⟨rfl, ho⟩
    have b1 := ho.blk (blk_new' (w.alloc (.cells #[.int .i64 cap, .int .i64 meet] 23)) (.cells (bk0 0 0) tBk) (w.heap.size + 1) (by simp)) (fun h => h)
    have B1 := Lib.hid b1
    have O1 := Lib.hid ho
    clear b1 ho
    go_wp2_with (refine wpList_store_row rfl tBk (.tmp 2) (.tmp 7) rfl _ rfl (bk0 0 0) (bk0 0 0) rfl _ B1.out infoBk rfl (one_bk0 _ _) ?_)
    refine bodyPost_ret (v := .tuple #[.agg (bk0 0 0), .int .i64 1]) (results_agg_tmp rfl _ _ _ _ _ _ _ rfl _ rfl (blk_setRow B1.out (bk0 0 0)) Tryz.underlying71 rfl infoBk) rfl ⟨rfl, ?_⟩
    exact ((((Only.refl Nil w).alloc _).alloc _).trans O1.out (fun _ _ h => h)).setRow (.inr (by omega)) _

theorem laysBk : Lays tBk (bk0 0 0) := fun W => by kernel_rfl
theorem laysK : Lays tK (rk0 0 0) := fun W => by kernel_rfl
theorem buildK (cap meet : Int) (W : World) : (Instr.build tK #[(0, .agg (bk0 cap meet))]).run Tryz.prog W = .ok (.agg (rk0 cap meet)) W := by kernel_rfl

set_option maxHeartbeats 400000 in
set_option maxRecDepth 100000 in
theorem new19 (cap meet : Int) (w : World) :
    Calls Tryz.prog 38 #[.agg #[.int .i64 cap, .int .i64 meet]] w fun e w' =>
      e = .returned (.tuple #[.agg (if fit cap meet then rk0 cap meet else rk0 0 0), .int .i64 (if fit cap meet then 0 else 1)]) ∧ Only Nil w w' := by
  have HC := Lib.hid (fun W => new09 cap meet W)
  have key : ∀ (cap' meet' code : Int), Hid (∀ W, Calls Tryz.prog 65 #[.agg #[.int .i64 cap, .int .i64 meet]] W fun e w' => e = .returned (.tuple #[.agg (bk0 cap' meet'), .int .i64 code]) ∧ Only Nil W w') →
      Calls Tryz.prog 38 #[.agg #[.int .i64 cap, .int .i64 meet]] w fun e w' => e = .returned (.tuple #[.agg (rk0 cap' meet'), .int .i64 code]) ∧ Only Nil w w' := by
    intro cap' meet' code H
    clear HC
    go_enter Tryz.func38, Tryz.ntmps38
    go_wp2_with (refine wpList_alloc_agg rfl tK rfl _ laysK ?_)
    refine (H.out _).mono ?_
    rintro e w1 ⟨rfl, ho⟩
    have b1 := ho.blk (blk_new' (w.alloc (.cells #[.int .i64 cap, .int .i64 meet] 23)) (.cells (rk0 0 0) tK) (w.heap.size + 1) (by simp)) (fun h => h)
    have B1 := Lib.hid b1
    have O1 := Lib.hid ho
    clear b1 ho
    go_wp2_with (first | (refine wpList_alloc_store rfl tBk rfl 4 rfl (bk0 0 0) laysBk rfl (.tmp 9) rfl rfl (bk0 cap' meet') rfl rfl infoBk rfl (one_bk0 _ _) ?_) | (refine wpList_load_row rfl tBk (.tmp 4) rfl _ rfl _ _ _ _ (blk_new w1 (.cells (bk0 cap' meet') tBk)) Tryz.underlying71 rfl infoBk ?_) | (refine wpList_build_agg rfl tK #[(0, .tmp 11)] rfl #[(0, .agg (bk0 cap' meet'))] (by simp only [List.map_toArray, List.map_cons, List.map_nil]; rfl) _ (buildK cap' meet') ?_) | (refine wpList_store_row rfl tK (.tmp 2) (.tmp 12) rfl _ rfl (rk0 cap' meet') (rk0 0 0) rfl _ (blk_alloc B1.out _) infoK rfl (one_rk0 _ _) ?_))
    refine bodyPost_ret (v := .tuple #[.agg (rk0 cap' meet'), .int .i64 code]) (results_agg_tmp rfl _ _ _ _ _ _ _ rfl _ rfl (blk_setRow (blk_alloc B1.out (.cells (bk0 cap' meet') tBk)) (rk0 cap' meet')) Tryz.underlying102 rfl infoK) rfl ⟨rfl, ?_⟩
    exact (((((Only.refl Nil w).alloc _).alloc _).trans O1.out (fun _ _ h => h)).alloc _).setRow (.inr (by omega)) _
  cases hf : fit cap meet with
  | true =>
    rw [hf] at HC
    exact key _ _ _ HC
  | false =>
    rw [hf] at HC
    exact key _ _ _ HC

def ck0 (cap meet : Int) : Array Value := #[.int .i64 cap, .int .i64 meet, .slice none 0 0, .slice none 0 0, .int .u64 0, .int .u64 0, .pointer none, .pointer none]
set_option maxHeartbeats 400000 in
set_option maxRecDepth 100000 in
theorem newP_yes (cap meet : Int) (w : World) (hf : fit cap meet = true) :
    Calls Tryz.prog 36 #[.agg #[.int .i64 cap, .int .i64 meet]] w fun e w' =>
      (∃ C, e = .returned (.tuple #[.pointer (some ⟨C, 0, none⟩), .int .i64 0]) ∧ w.heap.size ≤ C ∧ w'.heap[C]? = some (.cells (ck0 cap meet) tC (0, 0))) ∧ Only Nil w w' := by
  obtain ⟨h1, h2, h3, h4⟩ := fit_yes hf
  clear hf
  go_enter Tryz.func36, Tryz.ntmps36
  go_wp2
  go_ret2
  exact ⟨⟨_, rfl, by omega, blk_new' _ _ _ (by simp)⟩, ((Only.refl Nil w).alloc _).alloc _⟩

set_option maxHeartbeats 400000 in
set_option maxRecDepth 100000 in
theorem newP_no (cap meet : Int) (w : World) (hf : fit cap meet = false) :
    Calls Tryz.prog 36 #[.agg #[.int .i64 cap, .int .i64 meet]] w fun e w' => e = .returned (.tuple #[.pointer none, .int .i64 1]) ∧ Only Nil w w' := by
  have hq : (decide (cap < 1) = true) ∨ (decide (cap < 1) = false ∧ decide (4096 < cap) = true) ∨ (decide (cap < 1) = false ∧ decide (4096 < cap) = false ∧ decide (meet < 0) = true) ∨ (decide (cap < 1) = false ∧ decide (4096 < cap) = false ∧ decide (meet < 0) = false ∧ decide (3 < meet) = true) := by
    have := fit_no hf
    by_cases h1 : cap < 1 <;> by_cases h2 : 4096 < cap <;> by_cases h3 : meet < 0 <;> by_cases h4 : 3 < meet <;> simp [h1, h2, h3, h4] <;> omega
  clear hf
  rcases hq with h1 | ⟨h1, h2⟩ | ⟨h1, h2, h3⟩ | ⟨h1, h2, h3, h4⟩
  all_goals
    go_enter Tryz.func36, Tryz.ntmps36
    go_wp2
    go_ret2
    exact ⟨rfl, (Only.refl Nil w).alloc _⟩
end Ck
end Go.Proofs.YtnhedhmffgaohaaGreat

/- A history of no events: Same, Ahead, Life, About, Best. -/
import Derived.Test.YtnhedhmffgaohaaGreatHx
namespace Go.Proofs.YtnhedhmffgaohaaGreat
open Go.RowKit
namespace Ck
set_option maxHeartbeats 800000 in
set_option maxRecDepth 100000 in
theorem sameO0 (a b : Option Addr) (w : World) : Calls Tryz.prog 49 #[.slice a 0 0, .slice b 0 0] w fun e w' => e = .returned (.bool true) ∧ w = w' := by
  go_enter Tryz.func49, Tryz.ntmps49
  go_wp2
  refine wp_loop_rounds 1 ?_
  rw [rounds_succ]
  go_wp2
  go_ret
  exact ⟨rfl, rfl⟩
set_option maxHeartbeats 800000 in
set_option maxRecDepth 100000 in
theorem same0 (cap meet : Int) (b1 b2 : Option Addr) (w : World) : Calls Tryz.prog 23 #[.agg (bk0 cap meet), .agg #[.int .i64 cap, .int .i64 meet, .slice b1 0 0, .slice b2 0 0, .int .u64 0, .int .u64 0]] w fun e w' => e = .returned (.bool true) ∧ Only Nil w w' := by
  have HS := Lib.hid (fun a b W => sameO0 a b W)
  unfold bk0
  go_enter Tryz.func23, Tryz.ntmps23
  go_wp2_with fail
  refine (HS.out _ _ _).mono ?_
  rintro e w1 ⟨rfl, rfl⟩
  go_wp2_with fail
  refine (HS.out _ _ _).mono ?_
  rintro e w1 ⟨rfl, rfl⟩
  go_wp2
  go_ret
  exact ⟨rfl, ((Only.refl Nil w).alloc _).alloc _⟩
set_option maxHeartbeats 800000 in
set_option maxRecDepth 100000 in
theorem indexFunc0 (f : Value) (w : World) : Calls Tryz.prog 83 #[.slice none 0 0, f] w fun e w' => e = .returned (.int .i64 (-1)) ∧ w = w' := by
  go_enter Tryz.func83, Tryz.ntmps83
  go_wp2
  refine wp_loop_rounds 1 ?_
  rw [rounds_succ]
  go_wp2
  go_ret
  exact ⟨rfl, rfl⟩
set_option maxHeartbeats 800000 in
set_option maxRecDepth 100000 in
theorem aheadP0 (cap meet : Int) (id : Nat) (w : World) : Calls Tryz.prog 50 #[.agg (bk0 cap meet), .int .u64 (id : Int)] w fun e w' => e = .returned (.tuple #[.int .u64 0, .bool false]) ∧ Only Nil w w' := by
  have HI := Lib.hid (fun f W => indexFunc0 f W)
  unfold bk0
  go_enter Tryz.func50, Tryz.ntmps50
  go_wp2
  refine wp_loop_rounds 3 ?_
  rw [rounds_succ]
  go_wp2_with fail
  refine (HI.out _ _).mono ?_
  rintro e w1 ⟨rfl, rfl⟩
  go_wp2
  rw [rounds_succ]
  go_wp2_with fail
  refine (HI.out _ _).mono ?_
  rintro e w1 ⟨rfl, rfl⟩
  go_wp2
  rw [rounds_succ]
  go_wp2
  go_ret2
  exact ⟨rfl, (((Only.refl Nil w).alloc _).alloc _).alloc _⟩
set_option maxHeartbeats 800000 in
set_option maxRecDepth 100000 in
theorem aheadR0 (cap meet : Int) (g1 g2 id : Nat) (w : World) : Calls Tryz.prog 51 #[.agg (bk1 cap meet g1 g2), .int .u64 (id : Int)] w fun e w' => e = .returned (.tuple #[.int .u64 0, .bool false]) ∧ Only Nil w w' := by
  unfold bk1
  go_enter Tryz.func51, Tryz.ntmps51
  go_wp2
  refine wp_loop_rounds 3 ?_
  rw [rounds_succ]
  go_wp2
  refine wp_loop_rounds 1 ?_
  rw [rounds_succ]
  go_wp2
  rw [rounds_succ]
  go_wp2
  refine wp_loop_rounds 1 ?_
  rw [rounds_succ]
  go_wp2
  rw [rounds_succ]
  go_wp2
  go_ret2
  exact ⟨rfl, ((Only.refl Nil w).alloc _).alloc _⟩
end Ck
end Go.Proofs.YtnhedhmffgaohaaGreat

/- A history of no events: what it tells. -/
import Derived.Test.YtnhedhmffgaohaaGreatHu
namespace Go.Proofs.YtnhedhmffgaohaaGreat
open Go.RowKit
namespace Hs
abbrev tEv : Nat := 66
abbrev tLf : Nat := 80
def ev0 : Array Value := #[.int .u64 0, .int .i64 0, .int .u64 0, .int .u64 0, .int .u64 0, .int .u32 0, .int .i64 0, .int .i64 0, .int .i64 0, .int .u64 0, .int .u64 0, .int .i64 0, .int .i64 0]
section
variable {P B cap meet each : Nat}
theorem H0.cells {w : World} (h : H0 w P B cap meet each) : w.cell? ⟨P, 0, none⟩ = some (.int .i64 (cap : Int)) ∧ w.cell? ⟨P, 1, none⟩ = some (.int .i64 (meet : Int)) ∧ w.cell? ⟨P, 2, none⟩ = some (.int .i64 (each : Int)) ∧ w.cell? ⟨P, 3, none⟩ = some (.slice none 0 0) ∧ w.cell? ⟨P, 4, none⟩ = some (.slice none 0 0) ∧ w.cell? ⟨P, 5, none⟩ = some (.slice (some ⟨B, 0, none⟩) 64 64) ∧ P < w.heap.size ∧ B < w.heap.size :=
  ⟨blk_cell h.h 0, blk_cell h.h 1, blk_cell h.h 2, blk_cell h.h 3, blk_cell h.h 4, blk_cell h.h 5, blk_lt h.h, blk_lt h.b⟩
theorem H0.nil {w w1 : World} (h : H0 w P B cap meet each) (ho : Only Nil w w1) : H0 w1 P B cap meet each := h.only ho (fun h => h) (fun h => h)

set_option maxHeartbeats 400000 in
set_option maxRecDepth 100000 in
theorem len0 (w : World) (h : H0 w P B cap meet each) : Calls Tryz.prog 18 #[.pointer (some ⟨P, 0, none⟩)] w fun e w' => e = .returned (.int .u64 0) ∧ w = w' := by
  obtain ⟨_, _, _, c3, _, _, lP, _⟩ := h.cells
  clear h
  go_enter Tryz.func18, Tryz.ntmps18
  go_wp2
  go_ret
  exact ⟨rfl, rfl⟩

set_option maxHeartbeats 400000 in
set_option maxRecDepth 100000 in
theorem event0 (n : Nat) (w : World) (h : H0 w P B cap meet each) : Calls Tryz.prog 19 #[.pointer (some ⟨P, 0, none⟩), .int .u64 (n : Int)] w fun e w' => e = .returned (.tuple #[.agg ev0, .int .i64 300]) ∧ Only Nil w w' := by
  have HL := Lib.hid (fun W (ho : Only Nil w W) => len0 W (h.nil ho))
  clear h
  by_cases h0 : n = 0
  · subst h0
    go_enter Tryz.func19, Tryz.ntmps19
    go_wp2
    refine bodyPost_ret (v := .tuple #[.agg ev0, .int .i64 300]) (by simp [results, Tryz.results19, go_sem, ev0]) rfl ⟨rfl, ?_⟩
    exact (Only.refl Nil w).alloc _
  · have hd : ((n : Int) == 0) = false := by simp [h0]
    have hg : (0 : Int) < (n : Int) := by omega
    clear h0
    go_enter Tryz.func19, Tryz.ntmps19
    go_wp2_with fail
    refine (HL.out _ ((Only.refl Nil w).alloc _)).mono ?_
    rintro e w1 ⟨rfl, rfl⟩
    go_wp2
    refine bodyPost_ret (v := .tuple #[.agg ev0, .int .i64 300]) (by simp [results, Tryz.results19, go_sem, ev0]) rfl ⟨rfl, ?_⟩
    exact (Only.refl Nil w).alloc _

set_option maxHeartbeats 400000 in
set_option maxRecDepth 100000 in
theorem eventR (n : Nat) (a b c : Int) (w : World) : Calls Tryz.prog 20 #[.agg (rh0 a b c), .int .u64 (n : Int)] w fun e w' => e = .returned (.tuple #[.agg ev0, .int .i64 300]) ∧ Only Nil w w' := by
  unfold rh0
  by_cases h0 : n = 0
  · subst h0
    go_enter Tryz.func20, Tryz.ntmps20
    go_wp2
    refine bodyPost_ret (v := .tuple #[.agg ev0, .int .i64 300]) (by simp [results, Tryz.results20, go_sem, ev0]) rfl ⟨rfl, ?_⟩
    exact ((Only.refl Nil w).alloc _).alloc _
  · have hd : ((n : Int) == 0) = false := by simp [h0]
    have hg : (0 : Int) < (n : Int) := by omega
    clear h0
    go_enter Tryz.func20, Tryz.ntmps20
    go_wp2
    refine bodyPost_ret (v := .tuple #[.agg ev0, .int .i64 300]) (by simp [results, Tryz.results20, go_sem, ev0]) rfl ⟨rfl, ?_⟩
    exact ((Only.refl Nil w).alloc _).alloc _
end
end Hs
end Go.Proofs.YtnhedhmffgaohaaGreat

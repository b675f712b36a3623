/- A history of no events: what is asked of it. -/
import Derived.Test.YtnhedhmffgaohaaGreatHy
namespace Go.Proofs.YtnhedhmffgaohaaGreat
open Go.RowKit
namespace Hs
def lf0 : Array Value := #[.int .u64 0, .int .u64 0, .int .u64 0, .int .u64 0, .int .u64 0, .int .u64 0, .int .i64 0, .int .u64 0]
section
variable (P B cap meet each : Nat)
set_option maxHeartbeats 400000 in
set_option maxRecDepth 100000 in
theorem ahead0 (n id : Nat) (w : World) (h : H0 w P B cap meet each) (hf : Ck.fit cap meet = true) :
    Calls Tryz.prog 24 #[.pointer (some ⟨P, 0, none⟩), .int .u64 (n : Int), .int .u64 (id : Int)] w fun e w' => e = .returned (.tuple #[.int .u64 0, .bool false]) ∧ Only Nil w w' := by
  have HB := Lib.hid (book0 P B cap meet each n w h hf)
  have HA := Lib.hid (fun W => Ck.aheadP0 cap meet id W)
  clear h hf
  by_cases h0 : n = 0
  · subst h0
    simp only [if_true] at HB
    unfold Ck.bk0 at HB HA
    go_enter Tryz.func24, Tryz.ntmps24
    go_wp2_with fail
    refine HB.out.mono ?_
    rintro e w1 ⟨rfl, ho⟩
    go_wp2_with fail
    refine (HA.out _).mono ?_
    rintro e w2 ⟨rfl, ho2⟩
    go_wp2
    go_ret2
    exact ⟨rfl, (ho.alloc _).trans ho2 (fun _ _ h => h)⟩
  · simp only [if_neg h0] at HB
    unfold Ck.bk0 at HB
    clear h0
    go_enter Tryz.func24, Tryz.ntmps24
    go_wp2_with fail
    refine HB.out.mono ?_
    rintro e w1 ⟨rfl, ho⟩
    go_wp2
    go_ret2
    exact ⟨rfl, ho.alloc _⟩
set_option maxHeartbeats 400000 in
set_option maxRecDepth 100000 in
theorem aheadR (cap meet each : Int) (n id : Nat) (w : World) (hf : Ck.fit cap meet = true) :
    Calls Tryz.prog 25 #[.agg (rh0 cap meet each), .int .u64 (n : Int), .int .u64 (id : Int)] w fun e w' => e = .returned (.tuple #[.int .u64 0, .bool false]) ∧ Only Nil w w' := by
  have HB := Lib.hid (fun W => bookR cap meet each n W hf)
  have HA := Lib.hid (fun g1 g2 W => Ck.aheadR0 cap meet g1 g2 id W)
  clear hf
  unfold rh0 at *
  by_cases h0 : n = 0
  · subst h0
    simp only [if_true] at HB
    unfold Ck.bk1 at HB HA
    go_enter Tryz.func25, Tryz.ntmps25
    go_wp2_with fail
    refine (HB.out _).mono ?_
    rintro e w1 ⟨⟨g1, g2, rfl⟩, ho⟩
    go_wp2_with fail
    refine (HA.out _ _ _).mono ?_
    rintro e w2 ⟨rfl, ho2⟩
    go_wp2
    go_ret2
    exact ⟨rfl, ((((Only.refl Nil w).alloc _).trans ho (fun _ _ h => h)).alloc _).trans ho2 (fun _ _ h => h)⟩
  · simp only [if_neg h0] at HB
    unfold Ck.bk0 at HB
    clear h0
    go_enter Tryz.func25, Tryz.ntmps25
    go_wp2_with fail
    refine (HB.out _).mono ?_
    rintro e w1 ⟨⟨g1, g2, rfl⟩, ho⟩
    go_wp2
    go_ret2
    exact ⟨rfl, (((Only.refl Nil w).alloc _).trans ho (fun _ _ h => h)).alloc _⟩
set_option maxHeartbeats 400000 in
set_option maxRecDepth 100000 in
theorem about0 (id : Nat) (w : World) (h : H0 w P B cap meet each) :
    Calls Tryz.prog 28 #[.pointer (some ⟨P, 0, none⟩), .int .u64 (id : Int)] w fun e w' => e = .returned (.slice none 0 0) ∧ w = w' := by
  obtain ⟨c0, c1, c2, c3, c4, c5, l1, l2⟩ := h.cells
  clear h c0 c1 c2 c4 c5
  go_enter Tryz.func28, Tryz.ntmps28
  go_wp2
  refine wp_loop_rounds 1 ?_
  rw [rounds_succ]
  go_wp2
  go_ret
  exact ⟨rfl, rfl⟩
set_option maxHeartbeats 400000 in
set_option maxRecDepth 100000 in
theorem aboutR (cap meet each : Int) (id : Nat) (w : World) :
    Calls Tryz.prog 29 #[.agg (rh0 cap meet each), .int .u64 (id : Int)] w fun e w' => e = .returned (.slice none 0 0) ∧ Only Nil w w' := by
  unfold rh0
  go_enter Tryz.func29, Tryz.ntmps29
  go_wp2
  refine wp_loop_rounds 1 ?_
  rw [rounds_succ]
  go_wp2
  go_ret
  exact ⟨rfl, (Only.refl Nil w).alloc _⟩
theorem infoLf : (Tryz.prog.info? tLf).map (·.size) = some 8 := by kernel_rfl
theorem one_lf0 : lf0.all (·.oneCell') = true := by kernel_rfl
set_option maxHeartbeats 400000 in
set_option maxRecDepth 100000 in
theorem life0 (id : Nat) (w : World) (h : H0 w P B cap meet each) :
    Calls Tryz.prog 26 #[.pointer (some ⟨P, 0, none⟩), .int .u64 (id : Int)] w fun e w' => e = .returned (.tuple #[.agg lf0, .bool false]) ∧ Only Nil w w' := by
  have HA := Lib.hid (fun W (ho : Only Nil w W) => about0 P B cap meet each id W (h.nil ho))
  clear h
  go_enter Tryz.func26, Tryz.ntmps26
  go_wp2_with fail
  refine (HA.out _ (((Only.refl Nil w).alloc _).alloc _)).mono ?_
  rintro e w1 ⟨rfl, rfl⟩
  go_wp2
  refine wp_loop_rounds 1 ?_
  rw [rounds_succ]
  go_wp2
  refine bodyPost_ret (v := .tuple #[.agg lf0, .bool false]) (by simp [results, Tryz.results26, go_sem, lf0]) rfl ⟨rfl, ?_⟩
  exact ((Only.refl Nil w).alloc _).alloc _
set_option maxHeartbeats 400000 in
set_option maxRecDepth 100000 in
theorem lifeR (cap meet each : Int) (id : Nat) (w : World) :
    Calls Tryz.prog 27 #[.agg (rh0 cap meet each), .int .u64 (id : Int)] w fun e w' => e = .returned (.tuple #[.agg lf0, .bool false]) ∧ Only Nil w w' := by
  unfold rh0
  go_enter Tryz.func27, Tryz.ntmps27
  go_wp2
  refine wp_loop_rounds 1 ?_
  rw [rounds_succ]
  go_wp2
  refine bodyPost_ret (v := .tuple #[.agg lf0, .bool false]) (by simp [results, Tryz.results27, go_sem, lf0]) rfl ⟨rfl, ?_⟩
  exact (((Only.refl Nil w).alloc _).alloc _).alloc _
end
end Hs
end Go.Proofs.YtnhedhmffgaohaaGreat

/- A history of no events: Best. -/
import Derived.Test.YtnhedhmffgaohaaGreatHz
namespace Go.Proofs.YtnhedhmffgaohaaGreat
open Go.RowKit
namespace Hs
section
variable (P B cap meet each : Nat)
theorem best_ways (side : Int) (fr tt : Nat) : ((side != 1) = true ∧ (side != 2) = true) ∨ (side = 1 ∨ side = 2) ∧ (tt < fr ∨ fr ≤ tt ∧ 0 < tt ∨ fr = 0 ∧ tt = 0) := by
  by_cases h1 : side = 1
  · refine .inr ⟨.inl h1, ?_⟩; omega
  · by_cases h2 : side = 2
    · refine .inr ⟨.inr h2, ?_⟩; omega
    · exact .inl ⟨by simp [h1], by simp [h2]⟩
set_option maxHeartbeats 1600000 in
set_option maxRecDepth 100000 in
theorem best0 (side : Int) (fr tt : Nat) (w : World) (h : H0 w P B cap meet each) (hf : Ck.fit cap meet = true) :
    Calls Tryz.prog 30 #[.pointer (some ⟨P, 0, none⟩), .int .i64 side, .int .u64 (fr : Int), .int .u64 (tt : Int)] w fun e w' => e = .returned (.tuple #[.int .i64 0, .int .i64 0, .bool false]) ∧ Only Nil w w' := by
  have HL := Lib.hid (fun W (ho : Only Nil w W) => len0 W (h.nil ho))
  have HN := Lib.hid (fun W => Ck.newP_yes cap meet W hf)
  have HK := Lib.hid (fun C W hC => Ck.bookP C cap meet W hC)
  obtain ⟨c0, c1, c2, c3, c4, c5, l1, l2⟩ := h.cells
  clear h hf c2 c3 c4 c5 l2
  rcases best_ways side fr tt with ⟨h1, h2⟩ | ⟨rfl | rfl, h1 | ⟨h1, h2⟩ | ⟨rfl, rfl⟩⟩
  · go_enter Tryz.func30, Tryz.ntmps30
    go_wp2
    go_ret3
    exact ⟨rfl, Only.refl _ _⟩
  · have hg : (tt : Int) < (fr : Int) := by omega
    go_enter Tryz.func30, Tryz.ntmps30
    go_wp2
    go_ret3
    exact ⟨rfl, Only.refl _ _⟩
  · have hg : ¬ ((tt : Int) < (fr : Int)) := by omega
    have hg2 : decide ((tt : Int) < (fr : Int)) = false := by simp; omega
    have hp : (0 : Int) < (tt : Int) := by omega
    go_enter Tryz.func30, Tryz.ntmps30
    go_wp2_with fail
    refine (HL.out _ (Only.refl Nil w)).mono ?_
    rintro e w1 ⟨rfl, rfl⟩
    go_wp2
    go_ret3
    exact ⟨rfl, Only.refl _ _⟩
  · go_enter Tryz.func30, Tryz.ntmps30
    go_wp2_with fail
    refine (HL.out _ (Only.refl Nil w)).mono ?_
    rintro e w1 ⟨rfl, rfl⟩
    go_wp2_with fail
    refine (HN.out _).mono ?_
    rintro e w1 ⟨⟨C, rfl, hC, hb⟩, ho⟩
    have HB := Lib.hid hb
    have HO := Lib.hid ho
    clear hb ho c0 c1
    unfold Ck.bk0 at HK
    go_wp2
    refine wp_loop_rounds 2 ?_
    rw [rounds_succ]
    go_wp2_with fail
    refine (HK.out _ _ HB.out).mono ?_
    rintro e w2 ⟨rfl, ho2⟩
    go_wp2
    rw [rounds_succ]
    go_wp2
    go_ret3
    exact ⟨rfl, (HO.out.trans (S := Nil) ho2 (fun _ _ h => h)).alloc _⟩
  · have hg : (tt : Int) < (fr : Int) := by omega
    go_enter Tryz.func30, Tryz.ntmps30
    go_wp2
    go_ret3
    exact ⟨rfl, Only.refl _ _⟩
  · have hg : ¬ ((tt : Int) < (fr : Int)) := by omega
    have hg2 : decide ((tt : Int) < (fr : Int)) = false := by simp; omega
    have hp : (0 : Int) < (tt : Int) := by omega
    go_enter Tryz.func30, Tryz.ntmps30
    go_wp2_with fail
    refine (HL.out _ (Only.refl Nil w)).mono ?_
    rintro e w1 ⟨rfl, rfl⟩
    go_wp2
    go_ret3
    exact ⟨rfl, Only.refl _ _⟩
  · go_enter Tryz.func30, Tryz.ntmps30
    go_wp2_with fail
    refine (HL.out _ (Only.refl Nil w)).mono ?_
    rintro e w1 ⟨rfl, rfl⟩
    go_wp2_with fail
    refine (HN.out _).mono ?_
    rintro e w1 ⟨⟨C, rfl, hC, hb⟩, ho⟩
    have HB := Lib.hid hb
    have HO := Lib.hid ho
    clear hb ho c0 c1
    unfold Ck.bk0 at HK
    go_wp2
    refine wp_loop_rounds 2 ?_
    rw [rounds_succ]
    go_wp2_with fail
    refine (HK.out _ _ HB.out).mono ?_
    rintro e w2 ⟨rfl, ho2⟩
    go_wp2
    rw [rounds_succ]
    go_wp2
    go_ret3
    exact ⟨rfl, (HO.out.trans (S := Nil) ho2 (fun _ _ h => h)).alloc _⟩
set_option maxHeartbeats 1600000 in
set_option maxRecDepth 100000 in
theorem bestR (cap meet each : Int) (side : Int) (fr tt : Nat) (w : World) (hf : Ck.fit cap meet = true) :
    Calls Tryz.prog 31 #[.agg (rh0 cap meet each), .int .i64 side, .int .u64 (fr : Int), .int .u64 (tt : Int)] w fun e w' => e = .returned (.tuple #[.int .i64 0, .int .i64 0, .bool false]) ∧ Only Nil w w' := by
  have HN := Lib.hid (fun W => Ck.new19 cap meet W)
  rw [hf] at HN
  simp only [if_true] at HN
  have HK := Lib.hid (fun W => Ck.book19 cap meet W)
  have HV1 : (Tryz.prog.info? Ck.tK).map (·.size) = some (Ck.rk0 cap meet).size := Ck.infoK
  have HV2 : (Ck.rk0 0 0).size = (Ck.rk0 cap meet).size := rfl
  have HV3 := Ck.one_rk0 cap meet
  generalize Ck.rk0 cap meet = V at *
  clear hf
  unfold rh0
  rcases best_ways side fr tt with ⟨h1, h2⟩ | ⟨rfl | rfl, h1 | ⟨h1, h2⟩ | ⟨rfl, rfl⟩⟩
  · go_enter Tryz.func31, Tryz.ntmps31
    go_wp2
    go_ret3
    exact ⟨rfl, (Only.refl _ _).alloc _⟩
  · have hg : (tt : Int) < (fr : Int) := by omega
    go_enter Tryz.func31, Tryz.ntmps31
    go_wp2
    go_ret3
    exact ⟨rfl, (Only.refl _ _).alloc _⟩
  · have hg : ¬ ((tt : Int) < (fr : Int)) := by omega
    have hg2 : decide ((tt : Int) < (fr : Int)) = false := by simp; omega
    have hp : (0 : Int) < (tt : Int) := by omega
    go_enter Tryz.func31, Tryz.ntmps31
    go_wp2
    go_ret3
    exact ⟨rfl, (Only.refl _ _).alloc _⟩
  · go_enter Tryz.func31, Tryz.ntmps31
    go_wp2_with fail
    refine (HN.out _).mono ?_
    rintro e w1 ⟨rfl, ho⟩
    have K1 := Lib.hid (blk_new w1 (.cells V Ck.tK))
    have O1 := Lib.hid ((((Only.refl Nil w).alloc _).trans ho (fun _ _ h => h)).alloc (.cells V Ck.tK))
    clear ho
    go_wp2_with (refine wpList_alloc_store rfl Ck.tK rfl 14 rfl (Ck.rk0 0 0) Ck.laysK rfl (.tmp 42) rfl rfl V rfl rfl HV1 HV2 HV3 ?_)
    refine wp_loop_rounds 2 ?_
    rw [rounds_succ]
    go_wp2_with (refine wpList_load_row rfl Ck.tK (.tmp 14) rfl _ rfl _ _ _ _ K1.out Tryz.underlying102 rfl HV1 ?_)
    refine (HK.out _).mono ?_
    rintro e w2 ⟨⟨g1, g2, rfl⟩, ho2⟩
    unfold Ck.bk1
    go_wp2
    rw [rounds_succ]
    go_wp2
    go_ret3
    exact ⟨rfl, (O1.out.trans (S := Nil) ho2 (fun _ _ h => h)).alloc _⟩
  · have hg : (tt : Int) < (fr : Int) := by omega
    go_enter Tryz.func31, Tryz.ntmps31
    go_wp2
    go_ret3
    exact ⟨rfl, (Only.refl _ _).alloc _⟩
  · have hg : ¬ ((tt : Int) < (fr : Int)) := by omega
    have hg2 : decide ((tt : Int) < (fr : Int)) = false := by simp; omega
    have hp : (0 : Int) < (tt : Int) := by omega
    go_enter Tryz.func31, Tryz.ntmps31
    go_wp2
    go_ret3
    exact ⟨rfl, (Only.refl _ _).alloc _⟩
  · go_enter Tryz.func31, Tryz.ntmps31
    go_wp2_with fail
    refine (HN.out _).mono ?_
    rintro e w1 ⟨rfl, ho⟩
    have K1 := Lib.hid (blk_new w1 (.cells V Ck.tK))
    have O1 := Lib.hid ((((Only.refl Nil w).alloc _).trans ho (fun _ _ h => h)).alloc (.cells V Ck.tK))
    clear ho
    go_wp2_with (refine wpList_alloc_store rfl Ck.tK rfl 14 rfl (Ck.rk0 0 0) Ck.laysK rfl (.tmp 42) rfl rfl V rfl rfl HV1 HV2 HV3 ?_)
    refine wp_loop_rounds 2 ?_
    rw [rounds_succ]
    go_wp2_with (refine wpList_load_row rfl Ck.tK (.tmp 14) rfl _ rfl _ _ _ _ K1.out Tryz.underlying102 rfl HV1 ?_)
    refine (HK.out _).mono ?_
    rintro e w2 ⟨⟨g1, g2, rfl⟩, ho2⟩
    unfold Ck.bk1
    go_wp2
    rw [rounds_succ]
    go_wp2
    go_ret3
    exact ⟨rfl, (O1.out.trans (S := Nil) ho2 (fun _ _ h => h)).alloc _⟩
end
end Hs
end Go.Proofs.YtnhedhmffgaohaaGreat

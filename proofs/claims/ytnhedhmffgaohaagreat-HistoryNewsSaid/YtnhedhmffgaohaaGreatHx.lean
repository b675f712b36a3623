/- The document's books of no orders; two books are one. -/
import Derived.Test.YtnhedhmffgaohaaGreatHw
namespace Go.Proofs.YtnhedhmffgaohaaGreat
open Go.RowKit
namespace Ck
theorem one_bk1 (cap meet : Int) (g1 g2 : Nat) : (bk1 cap meet g1 g2).all (·.oneCell') = true := by kernel_rfl
set_option maxHeartbeats 800000 in
set_option maxRecDepth 100000 in
theorem book19 (cap meet : Int) (w : World) : Calls Tryz.prog 44 #[.agg (rk0 cap meet)] w fun e w' => (∃ g1 g2, e = .returned (.agg (bk1 cap meet g1 g2))) ∧ Only Nil w w' := by
  have HC := Lib.hid (fun W => copy0 cap meet W)
  unfold bk0 at HC
  generalize hV : rk0 cap meet = V
  go_enter Tryz.func44, Tryz.ntmps44
  go_upto_region 1 with (refine wpList_alloc_agg rfl tBk rfl _ laysBk ?_)
  simp only [Act.put, World.size_alloc]
  have b0 := blk_alloc (blk_new w (.cells V tK)) (.cells (bk0 0 0) tBk)
  have b1 := blk_new' (w.alloc (.cells V tK)) (.cells (bk0 0 0) tBk) (w.heap.size + 1) (by simp)
  have O1 := Lib.hid (((Only.refl Nil w).alloc (.cells V tK)).alloc (.cells (bk0 0 0) tBk))
  generalize (w.alloc (.cells V tK)).alloc (.cells (bk0 0 0) tBk) = W at *
  rw [← hV] at b0
  have c0 : W.cell? ⟨w.heap.size, 0, none⟩ = some (.int .i64 cap) := blk_cell b0 0
  have c1 : W.cell? ⟨w.heap.size, 1, none⟩ = some (.int .i64 meet) := blk_cell b0 1
  have c2 : W.cell? ⟨w.heap.size, 2, none⟩ = some (.slice none 0 0) := blk_cell b0 2
  have c3 : W.cell? ⟨w.heap.size, 3, none⟩ = some (.slice none 0 0) := blk_cell b0 3
  have c4 : W.cell? ⟨w.heap.size, 4, none⟩ = some (.int .u64 0) := blk_cell b0 4
  have c5 : W.cell? ⟨w.heap.size, 5, none⟩ = some (.int .u64 0) := blk_cell b0 5
  have l0 := blk_lt b0
  have B1 := Lib.hid b1
  clear b0 b1 hV
  go_wp2_with fail
  refine (HC.out _).mono ?_
  rintro e w2 ⟨⟨g1, g2, rfl⟩, ho⟩
  have B2 := Lib.hid (ho.blk B1.out (fun h => h))
  have O2 := Lib.hid (O1.out.trans (S := Nil) ho (fun _ _ h => h))
  clear c0 c1 c2 c3 c4 c5 l0 ho
  go_wp2_with (refine wpList_store_row rfl tBk (.tmp 2) (.tmp 5) rfl _ rfl (bk1 cap meet g1 g2) (bk0 0 0) rfl _ B2.out infoBk rfl (one_bk1 _ _ _ _) ?_)
  refine bodyPost_ret (v := .agg (bk1 cap meet g1 g2)) (results_cell_row rfl _ _ _ _ _ _ _ rfl (blk_setRow B2.out (bk1 cap meet g1 g2)) Tryz.underlying71 rfl infoBk) rfl ⟨⟨_, _, rfl⟩, ?_⟩
  exact O2.out.setRow (.inr (by omega)) _
end Ck
namespace Hs
set_option maxHeartbeats 800000 in
set_option maxRecDepth 100000 in
theorem bookR (cap meet each : Int) (n : Nat) (w : World) (hf : Ck.fit cap meet = true) :
    Calls Tryz.prog 22 #[.agg (rh0 cap meet each), .int .u64 (n : Int)] w fun e w' => (∃ g1 g2, e = .returned (.tuple #[.agg (if n = 0 then Ck.bk1 cap meet g1 g2 else Ck.bk0 0 0), .int .i64 (if n = 0 then 0 else 300)])) ∧ Only Nil w w' := by
  have HN := Lib.hid (fun W => Ck.new19 cap meet W)
  rw [hf] at HN
  simp only [if_true] at HN
  have HK := Lib.hid (fun W => Ck.book19 cap meet W)
  have HV1 : (Tryz.prog.info? Ck.tK).map (·.size) = some (Ck.rk0 cap meet).size := Ck.infoK
  have HV2 : (Ck.rk0 0 0).size = (Ck.rk0 cap meet).size := rfl
  have HV3 := Ck.one_rk0 cap meet
  generalize Ck.rk0 cap meet = V at *
  clear hf
  unfold rh0
  by_cases h0 : n = 0
  · subst h0
    simp only [if_true]
    go_enter Tryz.func22, Tryz.ntmps22
    go_wp2_with (refine wpList_alloc_agg rfl Ck.tBk rfl _ Ck.laysBk ?_)
    refine (HN.out _).mono ?_
    rintro e w1 ⟨rfl, ho⟩
    have b1 := ho.blk (blk_new' (w.alloc (.cells #[.int .i64 cap, .int .i64 meet, .int .i64 each, .slice none 0 0] tRH)) (.cells (Ck.bk0 0 0) Ck.tBk) (w.heap.size + 1) (by simp)) (fun h => h)
    have B1 := Lib.hid (blk_alloc b1 (.cells V Ck.tK))
    have O1 := Lib.hid (((((Only.refl Nil w).alloc _).alloc _).trans ho (fun _ _ h => h)).alloc (.cells V Ck.tK))
    have K1 := Lib.hid (blk_new w1 (.cells V Ck.tK))
    clear b1 ho
    go_wp2_with (refine wpList_alloc_store rfl Ck.tK rfl 6 rfl (Ck.rk0 0 0) Ck.laysK rfl (.tmp 20) rfl rfl V rfl rfl HV1 HV2 HV3 ?_)
    refine wp_loop_rounds 1 ?_
    rw [rounds_succ]
    go_wp2_with (refine wpList_load_row rfl Ck.tK (.tmp 6) rfl _ rfl _ _ _ _ K1.out Tryz.underlying102 rfl HV1 ?_)
    refine (HK.out _).mono ?_
    rintro e w2 ⟨⟨g1, g2, rfl⟩, ho⟩
    have B2 := Lib.hid (ho.blk B1.out (fun h => h))
    have O2 := Lib.hid (O1.out.trans (S := Nil) ho (fun _ _ h => h))
    clear ho
    go_wp2_with (refine wpList_store_row rfl Ck.tBk (.tmp 4) (.tmp 35) rfl _ rfl (Ck.bk1 cap meet g1 g2) (Ck.bk0 0 0) rfl _ B2.out Ck.infoBk rfl (Ck.one_bk1 _ _ _ _) ?_)
    refine bodyPost_ret (v := .tuple #[.agg (Ck.bk1 cap meet g1 g2), .int .i64 0]) (results_agg_tmp rfl _ _ _ _ _ _ _ rfl _ rfl (blk_setRow B2.out (Ck.bk1 cap meet g1 g2)) Tryz.underlying71 rfl Ck.infoBk) rfl ⟨⟨_, _, rfl⟩, ?_⟩
    exact O2.out.setRow (.inr (by omega)) _
  · have hg : (0 : Int) < (n : Int) := by omega
    simp only [if_neg h0]
    clear h0
    go_enter Tryz.func22, Tryz.ntmps22
    have B1 := Lib.hid (blk_new' (w.alloc (.cells #[.int .i64 cap, .int .i64 meet, .int .i64 each, .slice none 0 0] tRH)) (.cells (Ck.bk0 0 0) Ck.tBk) (w.heap.size + 1) (by simp))
    go_wp2_with (first | (refine wpList_alloc_agg rfl Ck.tBk rfl _ Ck.laysBk ?_) | (refine wpList_store_row rfl Ck.tBk (.tmp 4) (.tmp 15) rfl _ rfl (Ck.bk0 0 0) (Ck.bk0 0 0) rfl _ B1.out Ck.infoBk rfl (Ck.one_bk0 _ _) ?_))
    refine bodyPost_ret (v := .tuple #[.agg (Ck.bk0 0 0), .int .i64 300]) (results_agg_tmp rfl _ _ _ _ _ _ _ rfl _ rfl (blk_setRow B1.out (Ck.bk0 0 0)) Tryz.underlying71 rfl Ck.infoBk) rfl ⟨⟨0, 0, rfl⟩, ?_⟩
    exact (((Only.refl Nil w).alloc _).alloc _).setRow (.inr (by omega)) _
end Hs
end Go.Proofs.YtnhedhmffgaohaaGreat

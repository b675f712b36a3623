/- Books of no orders: clones, the checkers' Book, a history's Book. -/
import Derived.Test.YtnhedhmffgaohaaGreatHv
import Derived.WalkSpells
namespace Go.Proofs.YtnhedhmffgaohaaGreat
open Go.RowKit
namespace Ck
set_option maxHeartbeats 400000 in
set_option maxRecDepth 100000 in
theorem clone_nil (w : World) : Calls Tryz.prog 82 #[.slice none 0 0] w fun e w' => e = .returned (.slice none 0 0) ∧ w = w' := by
  have hE := fun (W : World) => Lib.run_eql_slice_nil (P := Tryz.prog) W 69 tR none 0 0 0 0 Tryz.underlying69
  go_enter Tryz.func82, Tryz.ntmps82
  go_wp2
  go_ret
  exact ⟨rfl, rfl⟩
theorem clone_nil' (w : World) : Calls Tryz.prog 82 #[.slice none 0 0] w fun e w' => e = .returned (.slice none 0 0) ∧ w' = w :=
  (clone_nil w).mono fun _ _ ⟨h1, h2⟩ => ⟨h1, h2.symm⟩
set_option maxHeartbeats 800000 in
set_option maxRecDepth 100000 in
theorem bookP (C : Nat) (cap meet : Int) (w : World) (h : w.heap[C]? = some (.cells (ck0 cap meet) tC (0, 0))) :
    Calls Tryz.prog 48 #[.pointer (some ⟨C, 0, none⟩)] w fun e w' => e = .returned (.agg (bk0 cap meet)) ∧ Only Nil w w' := by
  have HN := Lib.hid (fun W => clone_nil W)
  have Sof : ∀ X, Only Nil w X → X.cell? ⟨C, 0, none⟩ = some (.int .i64 cap) ∧ X.cell? ⟨C, 1, none⟩ = some (.int .i64 meet) ∧ X.cell? ⟨C, 2, none⟩ = some (.slice none 0 0) ∧ X.cell? ⟨C, 3, none⟩ = some (.slice none 0 0) ∧ X.cell? ⟨C, 4, none⟩ = some (.int .u64 0) ∧ X.cell? ⟨C, 5, none⟩ = some (.int .u64 0) ∧ Only Nil w X := fun X ho => by
    have hb := ho.blk h (fun h => h)
    exact ⟨blk_cell hb 0, blk_cell hb 1, blk_cell hb 2, blk_cell hb 3, blk_cell hb 4, blk_cell hb 5, ho⟩
  have HSof := Lib.hid Sof
  have lC := blk_lt h
  clear h Sof
  go_enter Tryz.func48, Tryz.ntmps48
  go_wp2_with (refine wpList_alloc_agg rfl tBk rfl _ laysBk ?_)
  have b := blk_new w (.cells (bk0 0 0) tBk)
  have HO := Lib.hid ((Only.refl Nil w).alloc (.cells (bk0 0 0) tBk))
  have HB := Lib.hid b
  clear b
  generalize w.alloc (.cells (bk0 0 0) tBk) = W at *
  have b0 := HSof.out W HO.out
  obtain ⟨c0, c1, c2, c3, c4, c5, _⟩ := b0
  have lW : C < W.heap.size := Nat.lt_of_lt_of_le lC HO.out.size
  go_still_tail 25, (by kernel_rfl)
  still_call (clone_nil' _)
  repeat still_step
  still_call (clone_nil' _)
  repeat still_step
  refine wpStill_nil ?_
  change wpList _ _ _ _ _ W.drew
  go_wp2_with (refine wpList_store_row rfl tBk (.tmp 2) (.tmp 27) rfl _ rfl (bk0 cap meet) (bk0 0 0) rfl _ (blk_drew HB.out) infoBk rfl (one_bk0 _ _) ?_)
  refine bodyPost_ret (v := .agg (bk0 cap meet)) (results_cell_row rfl _ _ _ _ _ _ _ rfl (blk_setRow (blk_drew HB.out) (bk0 cap meet)) Tryz.underlying71 rfl infoBk) rfl ⟨rfl, ?_⟩
  exact HO.out.drew.setRow (.inr (Nat.le_refl _)) _

/-- The document's copy of a book of no orders. -/
def bk1 (cap meet : Int) (g1 g2 : Nat) : Array Value := #[.int .i64 cap, .int .i64 meet, .slice (some ⟨g1, 0, none⟩) 0 0, .slice (some ⟨g2, 0, none⟩) 0 0, .int .u64 0, .int .u64 0]
set_option maxHeartbeats 800000 in
set_option maxRecDepth 100000 in
theorem copy0 (cap meet : Int) (w : World) : Calls Tryz.prog 77 #[.agg (bk0 cap meet)] w fun e w' => (∃ g1 g2, e = .returned (.agg (bk1 cap meet g1 g2))) ∧ Only Nil w w' := by
  unfold bk0
  go_enter Tryz.func77, Tryz.ntmps77
  go_wp2
  refine bodyPost_ret (v := .agg (bk1 cap meet (w.heap.size + 1 + 1) (w.heap.size + 1 + 1 + 1))) (results_cell_row rfl _ _ _ _ _ _ _ rfl (blk_alloc (blk_alloc (blk_new' (w.alloc (.cells (bk1 cap meet (w.heap.size + 1 + 1) (w.heap.size + 1 + 1 + 1)) tBk)) (.cells (bk1 cap meet (w.heap.size + 1 + 1) (w.heap.size + 1 + 1 + 1)) tBk) (w.heap.size + 1) (by simp)) _) _) Tryz.underlying71 rfl infoBk) rfl ⟨⟨_, _, rfl⟩, ?_⟩
  exact ((((Only.refl Nil w).alloc _).alloc _).alloc _).alloc _
end Ck
namespace Hs
set_option maxHeartbeats 800000 in
set_option maxRecDepth 100000 in
theorem book0 (P B cap meet each n : Nat) (w : World) (h : H0 w P B cap meet each) (hf : Ck.fit cap meet = true) :
    Calls Tryz.prog 21 #[.pointer (some ⟨P, 0, none⟩), .int .u64 (n : Int)] w fun e w' => e = .returned (.tuple #[.agg (if n = 0 then Ck.bk0 cap meet else Ck.bk0 0 0), .int .i64 (if n = 0 then 0 else 300)]) ∧ Only Nil w w' := by
  have HL := Lib.hid (fun W (ho : Only Nil w W) => len0 W (h.nil ho))
  have HN := Lib.hid (fun W => Ck.newP_yes cap meet W hf)
  have HK := Lib.hid (fun C W hC => Ck.bookP C cap meet W hC)
  have HC := Lib.hid (fun W (ho : Only Nil w W) => (h.nil ho).cells)
  clear h hf
  by_cases h0 : n = 0
  · subst h0
    simp only [if_true]
    go_enter Tryz.func21, Tryz.ntmps21
    go_wp2_with (refine wpList_alloc_agg rfl Ck.tBk rfl _ Ck.laysBk ?_)
    refine (HL.out _ ((Only.refl Nil w).alloc _)).mono ?_
    rintro e w1 ⟨rfl, rfl⟩
    have b0 := blk_new w (.cells (Ck.bk0 0 0) Ck.tBk)
    have o0 : Only Nil w (w.alloc (.cells (Ck.bk0 0 0) Ck.tBk)) := (Only.refl Nil w).alloc _
    obtain ⟨c0, c1, c2, c3, c4, c5, l1, l2⟩ := HC.out _ o0
    have B0 := Lib.hid b0
    have O0 := Lib.hid o0
    clear b0 o0 c2 c3 c4 c5
    go_wp2_with fail
    refine (HN.out _).mono ?_
    rintro e w1 ⟨⟨C, rfl, hC, hb⟩, ho⟩
    have HB := Lib.hid hb
    have O1 := Lib.hid (O0.out.trans (S := Nil) ho (fun _ _ h => h))
    have B1 := Lib.hid (ho.blk B0.out (fun h => h))
    clear c0 c1 l1 l2 hb ho B0 O0
    obtain ⟨c0, c1, c2, c3, c4, c5, l1, l2⟩ := HC.out _ O1.out
    clear c0 c1 c2 c4 c5
    go_wp2
    refine wp_loop_rounds 1 ?_
    rw [rounds_succ]
    go_wp2_with fail
    refine (HK.out _ _ HB.out).mono ?_
    rintro e w2 ⟨rfl, ho⟩
    have B2 := Lib.hid (ho.blk B1.out (fun h => h))
    have O2 := Lib.hid (O1.out.trans (S := Nil) ho (fun _ _ h => h))
    clear c3 l1 l2 ho
    go_wp2_with (refine wpList_store_row rfl Ck.tBk (.tmp 4) (.tmp 40) rfl _ rfl (Ck.bk0 cap meet) (Ck.bk0 0 0) rfl _ B2.out Ck.infoBk rfl (Ck.one_bk0 _ _) ?_)
    refine bodyPost_ret (v := .tuple #[.agg (Ck.bk0 cap meet), .int .i64 0]) (results_agg_tmp rfl _ _ _ _ _ _ _ rfl _ rfl (blk_setRow B2.out (Ck.bk0 cap meet)) Tryz.underlying71 rfl Ck.infoBk) rfl ⟨rfl, ?_⟩
    exact O2.out.setRow (.inr (Nat.le_refl _)) _
  · have hg : (0 : Int) < (n : Int) := by omega
    simp only [if_neg h0]
    clear h0
    go_enter Tryz.func21, Tryz.ntmps21
    go_wp2_with (refine wpList_alloc_agg rfl Ck.tBk rfl _ Ck.laysBk ?_)
    refine (HL.out _ ((Only.refl Nil w).alloc _)).mono ?_
    rintro e w1 ⟨rfl, rfl⟩
    go_wp2_with (refine wpList_store_row rfl Ck.tBk (.tmp 4) (.tmp 14) rfl _ rfl (Ck.bk0 0 0) (Ck.bk0 0 0) rfl _ (blk_new w _) Ck.infoBk rfl (Ck.one_bk0 _ _) ?_)
    refine bodyPost_ret (v := .tuple #[.agg (Ck.bk0 0 0), .int .i64 300]) (results_agg_tmp rfl _ _ _ _ _ _ _ rfl _ rfl (blk_setRow (blk_new w (.cells (Ck.bk0 0 0) Ck.tBk)) (Ck.bk0 0 0)) Tryz.underlying71 rfl Ck.infoBk) rfl ⟨rfl, ?_⟩
    exact ((Only.refl Nil w).alloc _).setRow (.inr (Nat.le_refl _)) _
end Hs
end Go.Proofs.YtnhedhmffgaohaaGreat

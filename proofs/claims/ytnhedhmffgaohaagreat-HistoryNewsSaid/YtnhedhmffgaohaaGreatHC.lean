/- A history of no events: its bytes, the document's Laid. -/
import Derived.Test.YtnhedhmffgaohaaGreatHB
namespace Go.Proofs.YtnhedhmffgaohaaGreat
open Go.RowKit
namespace Hs
abbrev tLd : Nat := 58
section
variable (P B cap meet each : Nat)
set_option maxHeartbeats 400000 in
set_option maxRecDepth 100000 in
theorem clone64 (b : Nat) (F : Nat → Nat) (w : World) (h : w.heap[b]? = some (.cells (by64 F) tB (0, 0))) :
    Calls Tryz.prog 45 #[.slice (some ⟨b, 0, none⟩) 64 64] w fun e w' => (∃ g c, e = .returned (.slice (some ⟨g, 0, none⟩) 64 c) ∧ w.heap.size ≤ g ∧ w'.ownsRow w.heap.size tU8 1 (.slice (some ⟨g, 0, none⟩) 64 c) 64 (u8s 64 F)) ∧ Only Nil w w' := by
  obtain ⟨i0, hi0, hz0, hz1, hz2⟩ := info_parts infoU8
  have hE := fun (W : World) => Lib.run_eql_slice_nil (P := Tryz.prog) W 39 tU8 (some ⟨b, 0, none⟩) 64 64 0 0 Tryz.underlying39
  have HE := Lib.hid (own_empty (W := w) (base := w.heap.size) tU8 (Nat.le_refl _))
  have HA := Lib.hid (blk_alloc h (.cells #[] tU8))
  clear h
  go_enter Tryz.func45, Tryz.ntmps45
  go_wp2_with (at_builtin; (refine wpList_append_lies _ rfl (.tmp 5) (.tmp 6) _ rfl w.heap.size tU8 i0 _ 1 1 Tryz.underlying39 hi0 hz0 hz1 hz2 rfl (by omega) (.slice (some ⟨w.heap.size, 0, none⟩) 0 0) 0 [] rfl HE.out ⟨b, 0, none⟩ 64 64 (u8s 64 F) rfl (u8s_len _ _) (news64 HA.out) (u8s_one _ _) (by omega) (by unfold maxLen; omega) (by omega) (by simp) _ rfl ?_); intro f cap w3 hown hgrow hat hlt)
  go_ret
  have hf := own_ge hown
  simp only [Nat.zero_add, List.nil_append] at hown
  refine ⟨⟨f, cap, rfl, hf, hown⟩, ((Only.refl Nil w).alloc _).grown hgrow (fun k hk hl => ?_)⟩
  simp [Value.ownBlock] at hk
  omega
set_option maxHeartbeats 400000 in
set_option maxRecDepth 100000 in
theorem bytes0 (w : World) (h : H0 w P B cap meet each) :
    Calls Tryz.prog 15 #[.pointer (some ⟨P, 0, none⟩)] w fun e w' => (∃ g c, e = .returned (.slice (some ⟨g, 0, none⟩) 64 c) ∧ w.heap.size ≤ g ∧ w'.ownsRow w.heap.size tU8 1 (.slice (some ⟨g, 0, none⟩) 64 c) 64 (u8s 64 (packed 112 (w4 1 cap meet each)))) ∧ Only Nil w w' := by
  obtain ⟨c0, c1, c2, c3, c4, c5, l1, l2⟩ := h.cells
  have HC := Lib.hid (clone64 B _ w h.b)
  clear h c0 c1 c2 c3 c4
  go_enter Tryz.func15, Tryz.ntmps15
  go_wp2_with fail
  refine HC.out.mono ?_
  rintro e w1 ⟨⟨g, c, rfl, hg, hown⟩, ho⟩
  go_wp2
  go_ret
  exact ⟨⟨g, c, rfl, hg, hown⟩, ho⟩
set_option maxHeartbeats 400000 in
set_option maxRecDepth 100000 in
theorem pictures0 (w : World) (h : H0 w P B cap meet each) :
    Calls Tryz.prog 16 #[.pointer (some ⟨P, 0, none⟩)] w fun e w' => e = .returned (.slice none 0 0) ∧ w = w' := by
  obtain ⟨c0, c1, c2, c3, c4, c5, l1, l2⟩ := h.cells
  clear h c0 c1 c2 c3 c5
  have hE := fun (W : World) => Lib.run_eql_slice_nil (P := Tryz.prog) W 56 tU64 none 0 0 0 0 Tryz.underlying56
  have HC : Hid (∀ W, Calls Tryz.prog 46 #[.slice none 0 0] W fun e w' => e = .returned (.slice none 0 0) ∧ W = w') := Lib.hid (fun W => by
    clear c4 l1 l2
    go_enter Tryz.func46, Tryz.ntmps46
    go_wp2
    go_ret
    exact ⟨rfl, rfl⟩)
  clear hE
  go_enter Tryz.func16, Tryz.ntmps16
  go_wp2_with fail
  refine (HC.out _).mono ?_
  rintro e w1 ⟨rfl, rfl⟩
  go_wp2
  go_ret
  exact ⟨rfl, rfl⟩
set_option maxHeartbeats 400000 in
set_option maxRecDepth 100000 in
theorem numbers0 (w : World) : Calls Tryz.prog 17 #[.slice none 0 0, .slice none 0 0] w fun e w' => e = .returned (.bool true) ∧ w = w' := by
  go_enter Tryz.func17, Tryz.ntmps17
  go_wp2
  refine wp_loop_rounds 1 ?_
  rw [rounds_succ]
  go_wp2
  go_ret
  exact ⟨rfl, rfl⟩
theorem one_ld (a b c d : Option Addr) (x1 x2 x3 x4 y1 y2 y3 y4 : Nat) : (#[Value.slice a x1 y1, .slice b x2 y2, .slice c x3 y3, .slice d x4 y4]).all (·.oneCell') = true := by kernel_rfl
theorem infoLd : (Tryz.prog.info? tLd).map (·.size) = some 4 := by kernel_rfl
set_option maxHeartbeats 800000 in
set_option maxRecDepth 100000 in
theorem laid0 (w : World) (hf : hfit cap meet each = true) :
    Calls Tryz.prog 14 #[.agg (rh0 cap meet each)] w fun e w' => (∃ g c g2 g3, e = .returned (.agg #[.slice (some ⟨g, 0, none⟩) 64 c, .slice (some ⟨g2, 0, none⟩) 1 1, .slice (some ⟨g3, 0, none⟩) 1 1, .slice none 0 0]) ∧ w'.ownsRow w.heap.size tU8 1 (.slice (some ⟨g, 0, none⟩) 64 c) 64 (u8s 64 (packed 112 (w4 1 cap meet each)))) ∧ Only Nil w w' := by
  obtain ⟨h1, h2, h3⟩ := hfit_yes hf
  obtain ⟨h4, h5, h6, h7⟩ := Ck.fit_yes h1
  have HF := Lib.hid (fun W => frame_ref 112 (w4 1 cap meet each) W (by omega))
  rw [frameV4] at HF
  have HN := Lib.hid (fun W => Ck.new19 cap meet W)
  rw [h1] at HN
  simp only [if_true] at HN
  have HV1 : (Tryz.prog.info? Ck.tK).map (·.size) = some (Ck.rk0 cap meet).size := Ck.infoK
  have HV2 : (Ck.rk0 0 0).size = (Ck.rk0 cap meet).size := rfl
  have HV3 := Ck.one_rk0 cap meet
  generalize Ck.rk0 cap meet = V at *
  clear hf h1
  unfold rh0
  go_enter Tryz.func14, Tryz.ntmps14
  go_wp2_with fail
  refine (HF.out _).mono ?_
  rintro e w1 ⟨⟨g, c, rfl, hg, hown⟩, ho⟩
  have b0 := ho.blk (blk_alloc (blk_new w (.cells #[.int .i64 (cap : Int), .int .i64 (meet : Int), .int .i64 (each : Int), .slice none 0 0] tRH)) (.cells #[.slice none 0 0, .slice none 0 0, .slice none 0 0, .slice none 0 0] tLd)) (fun h => h)
  have b1 := ho.blk (blk_new' (w.alloc (.cells #[.int .i64 (cap : Int), .int .i64 (meet : Int), .int .i64 (each : Int), .slice none 0 0] tRH)) (.cells #[.slice none 0 0, .slice none 0 0, .slice none 0 0, .slice none 0 0] tLd) (w.heap.size + 1) (by simp)) (fun h => h)
  have HO := Lib.hid ((((Only.refl Nil w).alloc _).alloc _).trans ho (fun _ _ h => h))
  have c0 := blk_cell b0 0
  have c1 := blk_cell b0 1
  have l0 := blk_lt b0
  simp only [List.getElem?_toArray, List.getElem?_cons_zero, List.getElem?_cons_succ] at c0 c1
  have B0 := Lib.hid b0
  have B1 := Lib.hid b1
  have HW := Lib.hid hown
  simp only [World.size_alloc] at hg
  clear b0 b1 ho hown HF
  go_upto_region 4 with fail
  have b0 := blk_alloc (blk_alloc (blk_alloc B0.out (.cells #[.slice (some ⟨g, 0, none⟩) 64 c, .slice (some ⟨w1.heap.size + 1, 0, none⟩) 1 1, .slice (some ⟨w1.heap.size + 1 + 1, 0, none⟩) 1 1, .slice none 0 0] tLd)) (.cells #[.int .i64 64] 3)) (.cells #[.int .i64 0] 3)
  have b1 := blk_alloc (blk_alloc (blk_alloc B1.out (.cells #[.slice (some ⟨g, 0, none⟩) 64 c, .slice (some ⟨w1.heap.size + 1, 0, none⟩) 1 1, .slice (some ⟨w1.heap.size + 1 + 1, 0, none⟩) 1 1, .slice none 0 0] tLd)) (.cells #[.int .i64 64] 3)) (.cells #[.int .i64 0] 3)
  have b2 := blk_alloc (blk_alloc (blk_new w1 (.cells #[.slice (some ⟨g, 0, none⟩) 64 c, .slice (some ⟨w1.heap.size + 1, 0, none⟩) 1 1, .slice (some ⟨w1.heap.size + 1 + 1, 0, none⟩) 1 1, .slice none 0 0] tLd)) (.cells #[.int .i64 64] 3)) (.cells #[.int .i64 0] 3)
  have HO2 := Lib.hid (((HO.out.alloc (.cells #[.slice (some ⟨g, 0, none⟩) 64 c, .slice (some ⟨w1.heap.size + 1, 0, none⟩) 1 1, .slice (some ⟨w1.heap.size + 1 + 1, 0, none⟩) 1 1, .slice none 0 0] tLd)).alloc (.cells #[.int .i64 64] 3)).alloc (.cells #[.int .i64 0] 3))
  have HW2 := Lib.hid (((HW.out.alloc (.cells #[.slice (some ⟨g, 0, none⟩) 64 c, .slice (some ⟨w1.heap.size + 1, 0, none⟩) 1 1, .slice (some ⟨w1.heap.size + 1 + 1, 0, none⟩) 1 1, .slice none 0 0] tLd)).alloc (.cells #[.int .i64 64] 3)).alloc (.cells #[.int .i64 0] 3))
  have hs1 := HO.out.size
  clear c0 c1 l0 B0 B1 HO HW
  generalize hW1 : ((w1.alloc (.cells #[.slice (some ⟨g, 0, none⟩) 64 c, .slice (some ⟨w1.heap.size + 1, 0, none⟩) 1 1, .slice (some ⟨w1.heap.size + 1 + 1, 0, none⟩) 1 1, .slice none 0 0] tLd)).alloc (.cells #[.int .i64 64] 3)).alloc (.cells #[.int .i64 0] 3) = W at *
  clear hW1
  have c0 := blk_cell b0 0
  have c1 := blk_cell b0 1
  have c3 := blk_cell b0 3
  have l0 := blk_lt b0
  simp only [List.getElem?_toArray, List.getElem?_cons_zero, List.getElem?_cons_succ] at c0 c1 c3
  have B0 := Lib.hid b0
  have B1 := Lib.hid b1
  have B2 := Lib.hid b2
  clear b0 b1 b2
  go_wp2_with fail
  refine (HN.out _).mono ?_
  rintro e w2 ⟨rfl, ho⟩
  have B0' := Lib.hid (blk_alloc (ho.blk B0.out (fun h => h)) (.cells V Ck.tK))
  have B1' := Lib.hid (blk_alloc (ho.blk B1.out (fun h => h)) (.cells V Ck.tK))
  have B2' := Lib.hid (blk_alloc (ho.blk B2.out (fun h => h)) (.cells V Ck.tK))
  have HO3 := Lib.hid ((HO2.out.trans (S := Nil) ho (fun _ _ h => h)).alloc (.cells V Ck.tK))
  have HW3 := Lib.hid ((own_only HW2.out ho (fun _ _ h => h)).alloc (.cells V Ck.tK))
  clear c0 c1 c3 l0 B0 B1 B2 HO2 HW2 ho
  go_upto_region 5 with (refine wpList_alloc_store rfl Ck.tK rfl 4 rfl (Ck.rk0 0 0) Ck.laysK rfl (.tmp 36) rfl rfl V rfl rfl HV1 HV2 HV3 ?_)
  try simp only [Act.put]
  generalize hW2 : w2.alloc (.cells V Ck.tK) = W2 at *
  clear hW2
  have c3 := blk_cell B0'.out 3
  have l0 := blk_lt B0'.out
  have e0 := blk_cell B2'.out 0
  have e1 := blk_cell B2'.out 1
  have e2 := blk_cell B2'.out 2
  have e3 := blk_cell B2'.out 3
  have l2 := blk_lt B2'.out
  simp only [List.getElem?_toArray, List.getElem?_cons_zero, List.getElem?_cons_succ] at c3 e0 e1 e2 e3
  go_wp2
  refine wp_loop_rounds 1 ?_
  rw [rounds_succ]
  go_wp2_with (refine wpList_store_row rfl tLd (.tmp 2) (.tmp 110) rfl _ rfl #[.slice (some ⟨g, 0, none⟩) 64 c, .slice (some ⟨w1.heap.size + 1, 0, none⟩) 1 1, .slice (some ⟨w1.heap.size + 1 + 1, 0, none⟩) 1 1, .slice none 0 0] #[.slice none 0 0, .slice none 0 0, .slice none 0 0, .slice none 0 0] rfl _ B1'.out infoLd rfl (one_ld _ _ _ _ _ _ _ _ _ _ _ _) ?_)
  have hs := hs1
  refine bodyPost_ret (v := .agg #[.slice (some ⟨g, 0, none⟩) 64 c, .slice (some ⟨w1.heap.size + 1, 0, none⟩) 1 1, .slice (some ⟨w1.heap.size + 1 + 1, 0, none⟩) 1 1, .slice none 0 0]) (results_cell_row rfl _ _ _ _ _ _ _ rfl (blk_setRow B1'.out #[.slice (some ⟨g, 0, none⟩) 64 c, .slice (some ⟨w1.heap.size + 1, 0, none⟩) 1 1, .slice (some ⟨w1.heap.size + 1 + 1, 0, none⟩) 1 1, .slice none 0 0]) Tryz.underlying58 rfl infoLd) rfl ⟨⟨g, c, _, _, rfl, ?_⟩, ?_⟩
  · refine own_mono (own_heap HW3.out rfl fun k hk => setRow_other W2 _ k _ ?_) (by simp; omega)
    simp [Value.ownBlock] at hk
    omega
  · exact HO3.out.setRow (.inr (by omega)) _
end
end Hs
end Go.Proofs.YtnhedhmffgaohaaGreat

/- The walks of New of a history: the program's, the document's. -/
import Derived.Test.YtnhedhmffgaohaaGreatHt
import Derived.Test.YtnhedhmffgaohaaGreatHr
namespace Go.Proofs.YtnhedhmffgaohaaGreat
open Go.RowKit
namespace Hs
abbrev tH : Nat := 98
abbrev tRH : Nat := 33
abbrev tPr : Nat := 35
def hfit (cap meet each : Int) : Bool := Ck.fit cap meet && decide (1 ≤ each) && decide (each ≤ 1024)
theorem hfit_yes {cap meet each : Int} (h : hfit cap meet each = true) : Ck.fit cap meet = true ∧ 1 ≤ each ∧ each ≤ 1024 := by
  unfold hfit at h; simp at h; exact ⟨h.1.1, h.1.2, h.2⟩
theorem hfit_no {cap meet each : Int} (h : hfit cap meet each = false) : Ck.fit cap meet = false ∨ (Ck.fit cap meet = true ∧ decide (each < 1) = true) ∨ (Ck.fit cap meet = true ∧ decide (each < 1) = false ∧ decide (1024 < each) = true) := by
  unfold hfit at h
  cases hf : Ck.fit cap meet with
  | false => exact .inl rfl
  | true =>
    rw [hf] at h
    by_cases h1 : each < 1
    · exact .inr (.inl ⟨rfl, by simp [h1]⟩)
    · refine .inr (.inr ⟨rfl, by simp [h1], ?_⟩)
      simp at h
      simp; omega
/-- A history of no events, as it lies in memory: its block, its bytes' block. -/
structure H0 (w : World) (P B : Nat) (cap meet each : Nat) : Prop where
  h : w.heap[P]? = some (.cells #[.int .i64 (cap : Int), .int .i64 (meet : Int), .int .i64 (each : Int), .slice none 0 0, .slice none 0 0, .slice (some ⟨B, 0, none⟩) 64 64] tH (0, 0))
  b : w.heap[B]? = some (.cells (by64 (packed 112 (w4 1 cap meet each))) tB (0, 0))
theorem H0.only {w w1 : World} {P B cap meet each : Nat} (h : H0 w P B cap meet each) {S : Nat → Prop} (ho : Only S w w1) (h1 : ¬ S P) (h2 : ¬ S B) : H0 w1 P B cap meet each := ⟨ho.blk h.h h1, ho.blk h.b h2⟩

set_option maxHeartbeats 400000 in
set_option maxRecDepth 100000 in
theorem newH_no (cap meet each : Int) (w : World) (hf : hfit cap meet each = false) :
    Calls Tryz.prog 12 #[.agg #[.int .i64 cap, .int .i64 meet], .int .i64 each] w fun e w' => e = .returned (.tuple #[.pointer none, .int .i64 1]) ∧ Only Nil w w' := by
  rcases hfit_no hf with h1 | ⟨h1, h2⟩ | ⟨h1, h2, h3⟩
  · clear hf
    have HC := Lib.hid (fun W => Ck.newP_no cap meet W h1)
    go_enter Tryz.func12, Tryz.ntmps12
    go_wp2_with fail
    refine (HC.out _).mono ?_
    rintro e w1 ⟨rfl, ho⟩
    go_wp2
    go_ret2
    exact ⟨rfl, ((Only.refl Nil w).alloc _).trans ho (fun _ _ h => h)⟩
  · clear hf
    have HC := Lib.hid (fun W => Ck.newP_yes cap meet W h1)
    go_enter Tryz.func12, Tryz.ntmps12
    go_wp2_with fail
    refine (HC.out _).mono ?_
    rintro e w1 ⟨⟨C, rfl, _, _⟩, ho⟩
    go_wp2
    go_ret2
    exact ⟨rfl, ((Only.refl Nil w).alloc _).trans ho (fun _ _ h => h)⟩
  · clear hf
    have HC := Lib.hid (fun W => Ck.newP_yes cap meet W h1)
    go_enter Tryz.func12, Tryz.ntmps12
    go_wp2_with fail
    refine (HC.out _).mono ?_
    rintro e w1 ⟨⟨C, rfl, _, _⟩, ho⟩
    go_wp2
    go_ret2
    exact ⟨rfl, ((Only.refl Nil w).alloc _).trans ho (fun _ _ h => h)⟩

set_option maxHeartbeats 400000 in
set_option maxRecDepth 100000 in
theorem newH_yes (cap meet each : Nat) (w : World) (hf : hfit cap meet each = true) :
    Calls Tryz.prog 12 #[.agg #[.int .i64 (cap : Int), .int .i64 (meet : Int)], .int .i64 (each : Int)] w fun e w' =>
      (∃ P B, e = .returned (.tuple #[.pointer (some ⟨P, 0, none⟩), .int .i64 0]) ∧ w.heap.size ≤ P ∧ w.heap.size ≤ B ∧ H0 w' P B cap meet each) ∧ Only Nil w w' := by
  obtain ⟨h1, h2, h3⟩ := hfit_yes hf
  obtain ⟨h4, h5, h6, h7⟩ := Ck.fit_yes h1
  have HC := Lib.hid (fun W => Ck.newP_yes cap meet W h1)
  have HH := Lib.hid (fun W => head_any cap meet each W (by omega) (by omega) (by omega))
  clear hf h1
  go_enter Tryz.func12, Tryz.ntmps12
  go_wp2_with fail
  refine (HC.out _).mono ?_
  rintro e w1 ⟨⟨C, rfl, _, _⟩, ho⟩
  have b0 := ho.blk (blk_new w (.cells #[.int .i64 (cap : Int), .int .i64 (meet : Int)] 23)) (fun h => h)
  have c0 := blk_cell b0 0
  have c1 := blk_cell b0 1
  have l0 := blk_lt b0
  simp only [List.getElem?_toArray, List.getElem?_cons_zero, List.getElem?_cons_succ] at c0 c1
  have O1 := Lib.hid (((Only.refl Nil w).alloc (.cells #[.int .i64 (cap : Int), .int .i64 (meet : Int)] 23)).trans ho (fun _ _ h => h))
  clear b0 ho
  go_wp2
  clear c0 c1 l0
  have b3 := blk_new w1 (.cells #[.int .i64 (cap : Int), .int .i64 (meet : Int), .int .i64 (each : Int)] 96)
  have O2 := Lib.hid (O1.out.alloc (.cells #[.int .i64 (cap : Int), .int .i64 (meet : Int), .int .i64 (each : Int)] 96))
  generalize w1.alloc (.cells #[.int .i64 (cap : Int), .int .i64 (meet : Int), .int .i64 (each : Int)] 96) = W at *
  generalize w1.heap.size = S at *
  have hd1 : decide ((each : Int) < 1) = false := by simp; omega
  have hd2 : decide (1024 < (each : Int)) = false := by simp; omega
  have Sof : ∀ X, Only Nil W X → X.cell? ⟨S, 0, none⟩ = some (.int .i64 (cap : Int)) ∧ X.cell? ⟨S, 1, none⟩ = some (.int .i64 (meet : Int)) ∧ X.cell? ⟨S, 2, none⟩ = some (.int .i64 (each : Int)) ∧ Only Nil W X := fun X ho => by
    have hb := ho.blk b3 (fun h => h)
    exact ⟨blk_cell hb 0, blk_cell hb 1, blk_cell hb 2, ho⟩
  have HSof := Lib.hid Sof
  clear Sof b3
  go_region_held3 (fun X => X.cell? ⟨S, 0, none⟩ = some (.int .i64 (cap : Int)) ∧ X.cell? ⟨S, 1, none⟩ = some (.int .i64 (meet : Int)) ∧ X.cell? ⟨S, 2, none⟩ = some (.int .i64 (each : Int)) ∧ Only Nil W X) (first | exact HSof.out _ (Only.refl _ _).drew | exact HSof.out _ (Only.trans (S := Nil) (T := Nil) (by assumption) hog (fun _ _ h => h)) | exact HSof.out _ ((Only.trans (S := Nil) (T := Nil) (Only.refl _ _).drew hog (fun _ _ h => h)).alloc _)) ((first | (go_at_call 37; go_split_ands; (refine (HH.out _).mono ?_); rintro e wg ⟨⟨r, rfl, hr, hb⟩, hog⟩)))
  all_goals
    have hW : w.heap.size ≤ W.heap.size := O2.out.size
    have hwg : W.heap.size ≤ wg.heap.size := hog.size
    go_wp2
    go_ret2
    exact ⟨⟨_, r, rfl, by omega, Nat.le_trans hW hr, blk_new wg _, blk_alloc hb _⟩, ((O2.out.drew).trans hog (fun _ _ h => h)).alloc _⟩

def rh0 (cap meet each : Int) : Array Value := #[.int .i64 cap, .int .i64 meet, .int .i64 each, .slice none 0 0]
theorem infoRH : (Tryz.prog.info? tRH).map (·.size) = some 4 := by kernel_rfl
theorem one_rh0 (cap meet each : Int) : (rh0 cap meet each).all (·.oneCell') = true := by kernel_rfl
set_option maxHeartbeats 400000 in
set_option maxRecDepth 100000 in
theorem newR (cap meet each : Int) (w : World) :
    Calls Tryz.prog 13 #[.agg #[.int .i64 cap, .int .i64 meet], .int .i64 each] w fun e w' =>
      e = .returned (.tuple #[.agg (if hfit cap meet each then rh0 cap meet each else rh0 0 0 0), .int .i64 (if hfit cap meet each then 0 else 1)]) ∧ Only Nil w w' := by
  have key : ∀ (b : Bool), Ck.fit cap meet = b → Hid (∀ W, Calls Tryz.prog 38 #[.agg #[.int .i64 cap, .int .i64 meet]] W fun e w' => e = .returned (.tuple #[.agg (if b then Ck.rk0 cap meet else Ck.rk0 0 0), .int .i64 (if b then 0 else 1)]) ∧ Only Nil W w') := fun b hb => Lib.hid (fun W => hb ▸ Ck.new19 cap meet W)
  cases hf : hfit cap meet each with
  | true =>
    obtain ⟨h1, h2, h3⟩ := hfit_yes hf
    have HC := key true h1
    simp only [if_true] at HC
    obtain ⟨h4, h5, h6, h7⟩ := Ck.fit_yes h1
    clear key hf h1
    generalize hv : Ck.rk0 cap meet = V at HC
    have hV1 : (Tryz.prog.info? Ck.tK).map (·.size) = some V.size := by rw [← hv]; exact Ck.infoK
    have hV2 : (Ck.rk0 0 0).size = V.size := by rw [← hv]; rfl
    have hV3 : V.all (·.oneCell') = true := by rw [← hv]; exact Ck.one_rk0 _ _
    clear hv
    go_enter Tryz.func13, Tryz.ntmps13
    go_wp2_with fail
    refine (HC.out _).mono ?_
    rintro e w1 ⟨rfl, ho⟩
    have b0 := ho.blk (blk_alloc (blk_new w (.cells #[.int .i64 cap, .int .i64 meet] 23)) (.cells (rh0 0 0 0) tRH)) (fun h => h)
    have b1 := ho.blk (blk_new' (w.alloc (.cells #[.int .i64 cap, .int .i64 meet] 23)) (.cells (rh0 0 0 0) tRH) (w.heap.size + 1) (by simp)) (fun h => h)
    have c0 := blk_cell b0 0
    have c1 := blk_cell b0 1
    have l0 := blk_lt b0
    simp only [List.getElem?_toArray, List.getElem?_cons_zero, List.getElem?_cons_succ] at c0 c1
    have B1 := Lib.hid (blk_alloc b1 (.cells V Ck.tK))
    have O1 := Lib.hid (((((Only.refl Nil w).alloc _).alloc _).trans ho (fun _ _ h => h)).alloc (.cells V Ck.tK))
    have hd1 : decide (each < 1) = false := by simp; omega
    have hd2 : decide (1024 < each) = false := by simp; omega
    clear b0 b1 ho
    go_wp2_with (first | (refine wpList_alloc_store rfl Ck.tK rfl 6 rfl (Ck.rk0 0 0) Ck.laysK rfl (.tmp 11) rfl rfl V rfl rfl hV1 hV2 hV3 ?_) | (refine wpList_store_row rfl tRH (.tmp 4) (.tmp 26) rfl _ rfl (rh0 cap meet each) (rh0 0 0 0) rfl _ B1.out infoRH rfl (one_rh0 _ _ _) ?_))
    refine bodyPost_ret (v := .tuple #[.agg (rh0 cap meet each), .int .i64 0]) (results_agg_tmp rfl _ _ _ _ _ _ _ rfl _ rfl (blk_setRow B1.out (rh0 cap meet each)) Tryz.underlying33 rfl infoRH) rfl ⟨rfl, ?_⟩
    exact O1.out.setRow (.inr (by omega)) _
  | false =>
    have fin : ∀ (V : Array Value) (code : Int), (Tryz.prog.info? Ck.tK).map (·.size) = some V.size → (Ck.rk0 0 0).size = V.size → V.all (·.oneCell') = true → (code = 1 ∨ code = 0 ∧ (decide (each < 1) = true ∨ decide (each < 1) = false ∧ decide (1024 < each) = true)) →
        Hid (∀ W, Calls Tryz.prog 38 #[.agg #[.int .i64 cap, .int .i64 meet]] W fun e w' => e = .returned (.tuple #[.agg V, .int .i64 code]) ∧ Only Nil W w') →
        Calls Tryz.prog 13 #[.agg #[.int .i64 cap, .int .i64 meet], .int .i64 each] w fun e w' => e = .returned (.tuple #[.agg (rh0 0 0 0), .int .i64 1]) ∧ Only Nil w w' := by
      intro V code hV1 hV2 hV3 hc HC
      clear key hf
      rcases hc with rfl | ⟨rfl, h1 | ⟨h1, h2⟩⟩
      all_goals
        go_enter Tryz.func13, Tryz.ntmps13
        go_wp2_with fail
        refine (HC.out _).mono ?_
        rintro e w1 ⟨rfl, ho⟩
        have b1 := ho.blk (blk_new' (w.alloc (.cells #[.int .i64 cap, .int .i64 meet] 23)) (.cells (rh0 0 0 0) tRH) (w.heap.size + 1) (by simp)) (fun h => h)
        have B1 := Lib.hid (blk_alloc b1 (.cells V Ck.tK))
        have O1 := Lib.hid (((((Only.refl Nil w).alloc _).alloc _).trans ho (fun _ _ h => h)).alloc (.cells V Ck.tK))
        clear b1 ho
        go_wp2_with (first | (refine wpList_alloc_store rfl Ck.tK rfl 6 rfl (Ck.rk0 0 0) Ck.laysK rfl (.tmp 11) rfl rfl V rfl rfl hV1 hV2 hV3 ?_) | (refine wpList_store_row rfl tRH (.tmp 4) (.tmp 23) rfl _ rfl (rh0 0 0 0) (rh0 0 0 0) rfl _ B1.out infoRH rfl (one_rh0 _ _ _) ?_))
        refine bodyPost_ret (v := .tuple #[.agg (rh0 0 0 0), .int .i64 1]) (results_agg_tmp rfl _ _ _ _ _ _ _ rfl _ rfl (blk_setRow B1.out (rh0 0 0 0)) Tryz.underlying33 rfl infoRH) rfl ⟨rfl, ?_⟩
        exact O1.out.setRow (.inr (by omega)) _
    rcases hfit_no hf with h1 | ⟨h1, h2⟩ | ⟨h1, h2, h3⟩
    · have HC := key false h1
      exact fin (Ck.rk0 0 0) 1 Ck.infoK rfl (Ck.one_rk0 _ _) (.inl rfl) HC
    · have HC := key true h1
      exact fin (Ck.rk0 cap meet) 0 Ck.infoK rfl (Ck.one_rk0 _ _) (.inr ⟨rfl, .inl h2⟩) HC
    · have HC := key true h1
      exact fin (Ck.rk0 cap meet) 0 Ck.infoK rfl (Ck.one_rk0 _ _) (.inr ⟨rfl, .inr ⟨h2, h3⟩⟩) HC

/-- A pair of histories of no events. -/
structure M0 (w : World) (X P B : Nat) (cap meet each : Nat) : Prop where
  x : w.heap[X]? = some (.cells #[.pointer (some ⟨P, 0, none⟩), .int .i64 (cap : Int), .int .i64 (meet : Int), .int .i64 (each : Int), .slice none 0 0] tPr (0, 0))
  h : H0 w P B cap meet each
theorem laysRH : Lays tRH (rh0 0 0 0) := fun W => by kernel_rfl
set_option maxHeartbeats 400000 in
set_option maxRecDepth 100000 in
theorem made_no (cap meet each : Int) (w : World) (hf : hfit cap meet each = false) :
    Calls Tryz.prog 7 #[.agg #[.int .i64 cap, .int .i64 meet], .int .i64 each] w fun e w' =>
      (∃ X, e = .returned (.tuple #[.pointer (some ⟨X, 0, none⟩), .bool true]) ∧ w'.heap[X]? = some (.cells #[.pointer none, .int .i64 0, .int .i64 0, .int .i64 0, .slice none 0 0] tPr (0, 0))) ∧ Only Nil w w' := by
  have HP := Lib.hid (fun W => newH_no cap meet each W hf)
  have HR := Lib.hid (fun W => newR cap meet each W)
  rw [hf] at HR
  simp only [Bool.false_eq_true, if_false] at HR
  clear hf
  go_enter Tryz.func7, Tryz.ntmps7
  go_wp2_with fail
  refine (HP.out _).mono ?_
  rintro e w1 ⟨rfl, ho⟩
  have b0 := ho.blk (blk_new w (.cells #[.int .i64 cap, .int .i64 meet] 23)) (fun h => h)
  have c0 := blk_cell b0 0
  have c1 := blk_cell b0 1
  have l0 := blk_lt b0
  simp only [List.getElem?_toArray, List.getElem?_cons_zero, List.getElem?_cons_succ] at c0 c1
  clear b0
  go_wp2_with fail
  refine (HR.out _).mono ?_
  rintro e w2 ⟨rfl, ho2⟩
  unfold rh0
  clear c0 c1 l0
  go_wp2
  go_ret2
  exact ⟨⟨_, rfl, blk_new' _ _ _ (by simp)⟩, (((((Only.refl Nil w).alloc _).trans ho (fun _ _ h => h)).trans ho2 (fun _ _ h => h)).alloc _).alloc _⟩
set_option maxHeartbeats 400000 in
set_option maxRecDepth 100000 in
theorem made_yes (cap meet each : Nat) (w : World) (hf : hfit cap meet each = true) :
    Calls Tryz.prog 7 #[.agg #[.int .i64 (cap : Int), .int .i64 (meet : Int)], .int .i64 (each : Int)] w fun e w' =>
      (∃ X P B, e = .returned (.tuple #[.pointer (some ⟨X, 0, none⟩), .bool true]) ∧ w.heap.size ≤ X ∧ w.heap.size ≤ P ∧ w.heap.size ≤ B ∧ M0 w' X P B cap meet each) ∧ Only Nil w w' := by
  have HP := Lib.hid (fun W => newH_yes cap meet each W hf)
  have HR := Lib.hid (fun W => newR cap meet each W)
  rw [hf] at HR
  simp only [if_true] at HR
  clear hf
  go_enter Tryz.func7, Tryz.ntmps7
  go_wp2_with fail
  refine (HP.out _).mono ?_
  rintro e w1 ⟨⟨P, B, rfl, hP, hB, hH⟩, ho⟩
  have b0 := ho.blk (blk_new w (.cells #[.int .i64 (cap : Int), .int .i64 (meet : Int)] 23)) (fun h => h)
  have c0 := blk_cell b0 0
  have c1 := blk_cell b0 1
  have l0 := blk_lt b0
  simp only [List.getElem?_toArray, List.getElem?_cons_zero, List.getElem?_cons_succ] at c0 c1
  clear b0
  simp only [World.size_alloc] at hP hB
  have HH := Lib.hid hH
  have O1 := Lib.hid (((Only.refl Nil w).alloc (.cells #[.int .i64 (cap : Int), .int .i64 (meet : Int)] 23)).trans ho (fun _ _ h => h))
  clear hH ho
  go_wp2_with fail
  refine (HR.out _).mono ?_
  rintro e w2 ⟨rfl, ho2⟩
  have HH2 := Lib.hid ((HH.out.only ho2 (fun h => h) (fun h => h)))
  have O2 := Lib.hid (O1.out.trans (S := Nil) ho2 (fun _ _ h => h))
  unfold rh0
  clear c0 c1 l0 ho2
  go_wp2
  go_ret2
  have hs := O2.out.size
  exact ⟨⟨_, P, B, rfl, by omega, by omega, by omega, blk_new' _ _ _ (by simp), (HH2.out.only (S := Nil) (((Only.refl _ _).alloc _).alloc _) (fun h => h) (fun h => h))⟩, ((O2.out).alloc _).alloc _⟩
end Hs
end Go.Proofs.YtnhedhmffgaohaaGreat

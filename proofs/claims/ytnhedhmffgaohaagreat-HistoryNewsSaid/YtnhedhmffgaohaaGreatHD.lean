/- A history of no events: what the law holds of its bytes ('laid'). -/
import Derived.Test.YtnhedhmffgaohaaGreatHC
import Derived.Laws.BytesArg
import Derived.BigQuiet
import Derived.Deep.QuietTactic
namespace Go.Proofs.YtnhedhmffgaohaaGreat
open Go.RowKit
namespace Hs
abbrev tStr : Nat := 9
theorem infoU64 : (Tryz.prog.info? tU64).map (fun i => (i.zero, i.size, i.bytes)) = some (some (.int .u64 0), 1, 8) := by kernel_rfl
def nums (n : Nat) (F : Nat → Nat) : List Int := (List.range n).map fun k => (F k : Int)
theorem conv64 {W : World} {base g c : Nat} {F : Nat → Nat} (h : W.ownsRow base tU8 1 (.slice (some ⟨g, 0, none⟩) 64 c) 64 (u8s 64 F)) :
    (convert tBs tStr (.slice (some ⟨g, 0, none⟩) 64 c)).run Tryz.prog W = .ok (.string (strOfNums (nums 64 F))) W :=
  run_convert_bytes_arg W tBs tU8 Tryz.underlying39 Tryz.underlying5 g 0 64 c (nums 64 F) (by simp [nums]) (fun i hi => by
    rw [Nat.zero_add, own_cell h (u8s_get F hi)]
    simp [nums, hi, List.getD]) tStr Tryz.underlying9
section
variable (X P B cap meet each : Nat)
theorem M0.only {w w1 : World} {X P B cap meet each : Nat} (h : M0 w X P B cap meet each) (ho : Only Nil w w1) : M0 w1 X P B cap meet each := ⟨ho.blk h.x (fun h => h), h.h.nil ho⟩
theorem M0.cells {w : World} {X P B cap meet each : Nat} (h : M0 w X P B cap meet each) : w.cell? ⟨X, 0, none⟩ = some (.pointer (some ⟨P, 0, none⟩)) ∧ w.cell? ⟨X, 1, none⟩ = some (.int .i64 (cap : Int)) ∧ w.cell? ⟨X, 2, none⟩ = some (.int .i64 (meet : Int)) ∧ w.cell? ⟨X, 3, none⟩ = some (.int .i64 (each : Int)) ∧ w.cell? ⟨X, 4, none⟩ = some (.slice none 0 0) ∧ X < w.heap.size :=
  ⟨blk_cell h.x 0, blk_cell h.x 1, blk_cell h.x 2, blk_cell h.x 3, blk_cell h.x 4, blk_lt h.x⟩
theorem numbers0' (w : World) : Calls Tryz.prog 17 #[.slice none 0 0, .slice none 0 0] w fun e w' => e = .returned (.bool true) ∧ w' = w :=
  (numbers0 w).mono fun _ _ ⟨h1, h2⟩ => ⟨h1, h2.symm⟩
theorem len0' (w : World) (h : H0 w P B cap meet each) : Calls Tryz.prog 18 #[.pointer (some ⟨P, 0, none⟩)] w fun e w' => e = .returned (.int .u64 0) ∧ w' = w :=
  (len0 w h).mono fun _ _ ⟨h1, h2⟩ => ⟨h1, h2.symm⟩
set_option maxHeartbeats 1600000 in
set_option maxRecDepth 100000 in
theorem laidL (w : World) (h : M0 w X P B cap meet each) (hf : hfit cap meet each = true) :
    Calls Tryz.prog 8 #[.pointer (some ⟨X, 0, none⟩)] w fun e w' => e = .returned (.bool true) ∧ Only Nil w w' := by
  obtain ⟨i0, hi0, hz0, hz1, hz2⟩ := info_parts infoU8
  have HL := Lib.hid (fun W => laid0 cap meet each W hf)
  unfold rh0 at HL
  have HM := Lib.hid h
  obtain ⟨c0, c1, c2, c3, c4, l0⟩ := h.cells
  clear h
  go_enter Tryz.func8, Tryz.ntmps8
  go_wp2_with fail
  refine (HL.out _).mono ?_
  rintro e w1 ⟨⟨g, c, g2, g3, rfl, hown⟩, ho⟩
  have HM1 := Lib.hid (HM.out.only ho)
  have HO1 := Lib.hid ho
  have HW1 := Lib.hid hown
  clear ho hown c0 c1 c2 c3 c4 l0 HM HL
  go_upto_region 2 with fail
  have b0 := blk_new w1 (.cells #[.slice (some ⟨g, 0, none⟩) 64 c, .slice (some ⟨g2, 0, none⟩) 1 1, .slice (some ⟨g3, 0, none⟩) 1 1, .slice none 0 0] tLd)
  have o0 : Only Nil w1 (w1.alloc (.cells #[.slice (some ⟨g, 0, none⟩) 64 c, .slice (some ⟨g2, 0, none⟩) 1 1, .slice (some ⟨g3, 0, none⟩) 1 1, .slice none 0 0] tLd)) := (Only.refl _ _).alloc _
  have HW2 := Lib.hid (own_only HW1.out o0 (fun _ _ h => h))
  have HM2 := Lib.hid (HM1.out.only o0)
  have HO2 := Lib.hid (HO1.out.trans (S := Nil) o0 (fun _ _ h => h))
  have B2 := Lib.hid b0
  clear b0 HO1 HM1 HW1
  generalize hD : w1.heap.size = D at *
  generalize w1.alloc (.cells #[.slice (some ⟨g, 0, none⟩) 64 c, .slice (some ⟨g2, 0, none⟩) 1 1, .slice (some ⟨g3, 0, none⟩) 1 1, .slice none 0 0] tLd) = W at *
  clear hD o0
  go_wp2
  go_loopg [4] 2 (fun m v4 wr => ∃ i : Nat, i ≤ 2 ∧ m = 2 - i ∧ v4 = .int .i64 i ∧ Hid (Only Nil W wr))
  case atStart => exact ⟨0, by omega, by omega, rfl, Lib.hid (Only.refl _ _)⟩
  case round =>
    obtain ⟨i, hi, hg, rfl, HP⟩ := hrel
    by_cases hlt : i < 2
    · have hiI : (i : Int) < 2 := by omega
      have HM3 := Lib.hid (HM2.out.only HP.out)
      have HW3 := Lib.hid (own_only HW2.out HP.out (fun _ _ h => h))
      have B3 := Lib.hid (HP.out.blk B2.out (fun h => h))
      have HB := Lib.hid (bytes0 P B cap meet each wr HM3.out.h)
      obtain ⟨c0, c1, c2, c3, c4, l0⟩ := HM3.out.cells
      clear c1 c2 c3 c4
      go_wp2_with fail
      refine HB.out.mono ?_
      rintro e w2 ⟨⟨gb, cb, rfl, hgb, hownb⟩, ho⟩
      have HM4 := Lib.hid (HM3.out.only ho)
      have HW4 := Lib.hid (own_only HW3.out ho (fun _ _ h => h))
      have B4 := Lib.hid (ho.blk B3.out (fun h => h))
      have HP4 := Lib.hid (HP.out.trans (S := Nil) ho (fun _ _ h => h))
      have HV := Lib.hid hownb
      have HQ := Lib.hid (pictures0 P B cap meet each w2 HM4.out.h)
      clear c0 l0 ho hownb HM3 HW3 B3 HB
      obtain ⟨c0, c1, c2, c3, c4, l0⟩ := HM4.out.cells
      clear c1 c2 c3
      go_wp2_with fail
      refine HQ.out.mono ?_
      rintro e w3 ⟨rfl, rfl⟩
      have d0 := blk_cell B4.out 0
      have d3 := blk_cell B4.out 3
      have lD := blk_lt B4.out
      simp only [List.getElem?_toArray, List.getElem?_cons_zero, List.getElem?_cons_succ] at d0 d3
      have k1 := conv64 (W := w2.drew) HV.out
      have k2 := conv64 (W := w2.drew) HW4.out
      go_wp2_with fail
      refine wp_region_still_lit (by kernel_rfl) (by kernel_rfl) ?_
      repeat still_step
      still_call (numbers0' _)
      repeat still_step
      still_call (len0' P B cap meet each _ ⟨HM4.out.h.h, HM4.out.h.b⟩)
      repeat still_step
      refine wpStill_nil ?_
      change Exit.then _ _ _ _ w2.drew
      have HV5 := Lib.hid (own_drewN HV.out 1)
      have HP5 := Lib.hid (HP4.out.drewN 1)
      have HM5 : Hid (M0 w2.drew X P B cap meet each) := Lib.hid ⟨HM4.out.x, HM4.out.h.h, HM4.out.h.b⟩
      have hgb2 : wr.heap.size ≤ gb := hgb
      have hsz : W.heap.size ≤ wr.heap.size := HP.out.size
      have hgbW : W.heap.size ≤ gb := by omega
      have hgw : w.heap.size ≤ W.heap.size := HO2.out.size
      change Hid (w2.drew.ownsRow _ _ _ _ _ _) at HV5
      change Hid (Only Nil W w2.drew) at HP5
      generalize w2.drew = w5 at *
      clear c0 c4 l0 d0 d3 lD k1 k2 HM4 HW4 B4 HP4 HV HQ
      go_wp2
      go_loopg [7] 64 (fun m v7 wi => ∃ (k : Nat) (xs : List Value), k ≤ 64 ∧ m = 64 - k ∧ v7 = .int .i64 k ∧ Hid (wi.ownsRow wr.heap.size tU8 1 (.slice (some ⟨gb, 0, none⟩) 64 cb) 64 xs) ∧ Hid (Only Nil W wi))
      case atStart => exact ⟨0, _, by omega, by omega, rfl, HV5, HP5⟩
      case round =>
        obtain ⟨k, xs, hk, hgk, rfl, HX, HY⟩ := hrel
        clear HV5 HP5
        by_cases hk64 : k < 64
        · have hkI : (k : Int) < 64 := by omega
          have hxl : k < xs.length := by have := HX.out.1; omega
          have hcell := own_cell HX.out (j := k) (u := xs[k]) (List.getElem?_eq_getElem hxl)
          have hfr := HX.out.frozenAt k
          have hll := own_lt HX.out (k := gb) rfl
          have HX2 := Lib.hid (own_set HX.out k (.int .u8 238))
          have HY2 := Lib.hid (HY.out.setCell (p := ⟨gb, k, none⟩) (.inr (by simp only; omega)) (.int .u8 238))
          go_wp2
          go_roundg (64 - (k + 1))
          case measure => omega
          case rel => exact ⟨k + 1, _, by omega, rfl, by go_num, HX2, HY2⟩
        · have he : k = 64 := by omega
          subst he
          go_wp2
          refine wp_loop_rounds 1 ?_
          rw [rounds_succ]
          obtain ⟨j0, hj0, hy0, hy1, hy2⟩ := info_parts infoU64
          have hbase := own_ge HX.out
          go_upto_region 18 with (at_builtin; (refine wpList_append_lies _ rfl (.tmp 74) (.tmp 75) _ rfl _ tU8 i0 _ 1 1 Tryz.underlying39 hi0 hz0 hz1 hz2 rfl (by omega) (.slice (some ⟨gb, 0, none⟩) 64 cb) 64 xs rfl (HX.out.alloc _) ⟨wr.heap.size, 0, none⟩ 1 1 [.int .u8 221] rfl rfl (World.news_of_block (blk_new' _ _ _ rfl)) (by simp [Value.oneCell']) (by omega) (by unfold maxLen; omega) (by omega) (by have := HY.out.size; have := own_lt HX.out (k := gb) rfl; simp; omega) _ rfl ?_); intro f cap w7 hown hgrow hat hlt2)
          have HZ := Lib.hid ((HY.out.alloc (.cells #[.int .u8 221] tU8)).grown hgrow (fun k hk hl => by simp [Value.ownBlock] at hk; omega))
          clear hown hgrow hat hlt2
          go_wp2_with (at_builtin; (refine wpList_append_lies _ rfl (.tmp 77) (.tmp 78) _ rfl 0 tU64 j0 _ 1 8 Tryz.underlying56 hj0 hy0 hy1 hy2 rfl (by omega) (.slice none 0 0) 0 [] rfl (own_nil _ _ _ _) ⟨w7.heap.size, 0, none⟩ 1 1 [.int .u64 4715] rfl rfl (World.news_of_block (blk_new' _ _ _ rfl)) (by simp [Value.oneCell']) (by omega) (by unfold maxLen; omega) (by omega) (by omega) _ rfl ?_); intro f2 cap2 w8 hown hgrow hat hlt2)
          have HZ2 := Lib.hid ((HZ.out.alloc (.cells #[.int .u64 4715] tU64)).grown hgrow (fun k hk hl => by simp [Value.ownBlock] at hk))
          clear hown hgrow hat hlt2
          go_roundg (2 - (i + 1))
          case measure => omega
          case rel => exact ⟨i + 1, by omega, rfl, by go_num, HZ2⟩
    · have he : i = 2 := by omega
      subst he
      go_wp2
      go_ret
      exact ⟨rfl, HO2.out.trans (S := Nil) HP.out (fun _ _ h => h)⟩
end
end Hs
end Go.Proofs.YtnhedhmffgaohaaGreat

/- The walk of the program's parsed: a line behind so many commands. -/
import Derived.Test.YtnhedhmffgaohaaDoorPaV
namespace Go.Proofs.YtnhedhmffgaohaaDoor
open Go.RowKit
namespace Pa
set_option maxHeartbeats 1600000 in
set_option maxRecDepth 100000 in
theorem parsed_any (line : ByteArray) (ahead : Nat) (w : World) (hv : Vars w) :
    Calls Tryd.prog 8 #[.string line, .int .i64 (ahead : Int)] w fun e w' => pOut (lineRes line ahead) w.heap.size e w' ∧ Only Nil w w' := by
  have HZ : Hid ((w.alloc (.cells zSy tSy)).heap[w.heap.size]? = some (.cells zSy tSy (0, 0))) := Lib.hid (blk_new _ _)
  by_cases hlen : 2048 < line.size
  · have HL : Hid (lineRes line ahead = .bad 2048 2) := Lib.hid (by unfold lineRes; rw [if_pos hlen])
    have hlI : (2048 : Int) < (line.size : Int) := by omega
    go_enter Tryd.func8, Tryd.ntmps8
    go_wp2
    refine bodyPost_ret (v := .tuple #[.agg zSy, .int .i64 2048, .int .i64 2]) (results_agg_tmp2 rfl _ _ _ _ _ _ _ rfl _ _ rfl rfl HZ.out Tryd.underlying29 rfl infoSy) rfl ⟨?_, (Only.refl _ _).alloc _⟩
    rw [HL.out]
    rfl
  · have hsz : line.size ≤ 2048 := by omega
    have hlI : (line.size : Int) ≤ 2048 := by omega
    have HW := Lib.hid (fun W => words_any line W (by omega))
    have HI := Lib.hid (words_in line 0)
    have HN := Lib.hid (wordsAt_le line 0)
    have HL : Hid (lineRes line ahead = match words line with
      | [] => .skip
      | w0 :: ws => if hash w0.1 = true then .skip else if 400 ≤ ahead then .bad 0 2 else match cmd line.size w0 ws ahead with
        | .bad a => .bad a 280
        | .good l => .good w0.1 l) := Lib.hid (by unfold lineRes; rw [if_neg hlen]; rfl)
    change Hid (∀ x ∈ words line, _) at HI
    change Hid ((words line).length ≤ _) at HN
    generalize words line = L at *
    clear hlen
    go_enter Tryd.func8, Tryd.ntmps8
    go_wp2_with fail
    refine (HW.out _).mono ?_
    rintro e w1 ⟨v, rfl, hr, ho⟩
    have HZ1 := Lib.hid (ho.blk HZ.out (fun h => h))
    have HO := Lib.hid (((Only.refl Nil w).alloc (.cells zSy tSy)).trans (S := Nil) ho (fun _ _ h => h))
    have HR := Lib.hid hr
    have hB : w.heap.size < w1.heap.size := blk_lt HZ1.out
    have HV0 := Lib.hid hv
    clear hr ho hv HW HZ
    cases L with
    | nil =>
      obtain ⟨A, c, rfl, hc⟩ := own_slice HR.out
      clear HR
      simp only [List.length_nil] at *
      go_wp2_with (refine wpList_store_row rfl tSy (.tmp 4) (.tmp 30) rfl w.heap.size rfl zSy zSy rfl tSy HZ1.out infoSy rfl one_zSy ?_)
      refine bodyPost_ret (v := .tuple #[.agg zSy, .int .i64 0, .int .i64 0]) (results_agg_tmp2 rfl _ _ _ _ _ _ _ rfl _ _ rfl rfl (blk_setRow HZ1.out zSy) Tryd.underlying29 rfl infoSy) rfl ⟨?_, HO.out.setRow (.inr (Nat.le_refl _)) _⟩
      rw [HL.out]
      rfl
    | cons w0 ws =>
      obtain ⟨s0, a0⟩ := w0
      obtain ⟨g, c, rfl, hg, hnc, hcm⟩ := own_row HR.out (by simp)
      obtain ⟨c0, c1⟩ := word_at HR.out (i := 0) (x := (s0, a0)) rfl
      rw [show (0 : Nat) * 2 = 0 from rfl] at c0 c1
      simp only at c0 c1
      have hN := HN.out
      have h0 := HI.out (s0, a0) (by simp)
      have hlenI : (((s0, a0) :: ws).length : Int) = (ws.length : Int) + 1 := by simp
      have hn0 : 0 < ((s0, a0) :: ws).length := by simp
      have hw0 : ws.length + 1 = ((s0, a0) :: ws).length := by simp
      generalize hNN : ((s0, a0) :: ws).length = N at *
      simp only at HL h0
      have hs0 : 0 < s0.size := h0.1
      clear hNN
      cases hh : hash s0 with
      | true =>
        have hb : ((s0[0].toNat : Int) == 35) = true := by
          unfold hash at hh
          rw [List.head?_eq_getElem?, byte_get hs0] at hh
          have := eq_of_beq hh
          injection this with this
          rw [this]
          rfl
        rw [hh] at HL
        clear hh
        go_wp2_with (refine wpList_store_row rfl tSy (.tmp 4) (.tmp 30) rfl w.heap.size rfl zSy zSy rfl tSy HZ1.out infoSy rfl one_zSy ?_)
        refine bodyPost_ret (v := .tuple #[.agg zSy, .int .i64 0, .int .i64 0]) (results_agg_tmp2 rfl _ _ _ _ _ _ _ rfl _ _ rfl rfl (blk_setRow HZ1.out zSy) Tryd.underlying29 rfl infoSy) rfl ⟨?_, HO.out.setRow (.inr (Nat.le_refl _)) _⟩
        rw [HL.out]
        rfl
      | false =>
        have hb : ((s0[0].toNat : Int) == 35) = false := by
          refine beq_eq_false_iff_ne.2 (fun e => ?_)
          unfold hash at hh
          rw [List.head?_eq_getElem?, byte_get hs0] at hh
          have h3 : s0[0] = 35 := UInt8.toNat_inj.1 (by have : s0[0].toNat = 35 := by omega
                                                        exact this)
          rw [h3] at hh
          cases hh
        rw [hh] at HL
        clear hh
        by_cases ha : 400 ≤ ahead
        · have haI : (400 : Int) ≤ (ahead : Int) := by omega
          have HL1 : Hid (lineRes line ahead = .bad 0 2) := Lib.hid (by rw [HL.out]; simp only [Bool.false_eq_true, if_false]; rw [if_pos ha])
          clear HL
          go_wp2_with (refine wpList_store_row rfl tSy (.tmp 4) (.tmp 33) rfl w.heap.size rfl zSy zSy rfl tSy HZ1.out infoSy rfl one_zSy ?_)
          refine bodyPost_ret (v := .tuple #[.agg zSy, .int .i64 0, .int .i64 2]) (results_agg_tmp2 rfl _ _ _ _ _ _ _ rfl _ _ rfl rfl (blk_setRow HZ1.out zSy) Tryd.underlying29 rfl infoSy) rfl ⟨?_, HO.out.setRow (.inr (Nat.le_refl _)) _⟩
          rw [HL1.out]
          rfl
        · have haI : (ahead : Int) < 400 := by omega
          have HL1 : Hid (lineRes line ahead = match cmd line.size (s0, a0) ws ahead with
            | .bad a => .bad a 280
            | .good l => .good s0 l) := Lib.hid (by rw [HL.out]; simp only [Bool.false_eq_true, if_false]; rw [if_neg ha])
          clear HL ha
          have HSh := Lib.hid (fun W => shapes_any W)
          go_upto_region 8 with fail
          go_cut [8, 9] from 34 to 115 (fun v8 v9 W2 => v8 = .string ((look s0 tbl).getD ⟨#[]⟩) ∧ v9 = .bool (look s0 tbl).isSome ∧ Hid (Only Nil w1 W2))
          case first =>
            have HSof := Lib.hid (fun Y (ho : Only Nil w1 Y) => (⟨(ho.cell (p := ⟨g, 0, none⟩) hg (fun h => h)).trans c0, ho⟩ : Y.cell? ⟨g, 0, none⟩ = some (.string s0) ∧ Only Nil w1 Y))
            go_wp2_with fail
            go_region_held3 (fun Y => Y.cell? ⟨g, 0, none⟩ = some (.string s0) ∧ Only Nil w1 Y) (first | (with_reducible exact HSof.out _ (Only.refl _ _).drew) | (with_reducible exact HSof.out _ (Only.trans (S := Nil) (T := Nil) (Only.refl _ _).drew hog (fun _ _ h => h)))) ((first | (go_at_call 15; go_split_ands; (refine (HSh.out _).mono ?_); rintro e wg ⟨b, rfl, hm, hog⟩; have hlk : (Instr.lookup 48 (.map (some b)) (.string s0) true).run Tryd.prog wg = .ok (.tuple #[.string ((look s0 tbl).getD ⟨#[]⟩), .bool (look s0 tbl).isSome]) wg := run_look hm s0 (by omega))))
            go_wp2
            go_meet
            case rel => exact ⟨rfl, rfl, Lib.hid (Only.trans (S := Nil) (T := Nil) (Only.refl _ _).drew hog (fun _ _ h => h))⟩
          case rest =>
            obtain ⟨W2, rfl⟩ : ∃ x : World, x = wc := ⟨_, rfl⟩
            obtain ⟨rfl, rfl, HO2⟩ := hcut
            have HZ2 := Lib.hid (HO2.out.blk HZ1.out (fun h => h))
            have HR2 := Lib.hid (own_only HR.out HO2.out (fun _ _ h => h))
            have HOw := Lib.hid (HO.out.trans (S := Nil) HO2.out (fun _ _ h => h))
            obtain ⟨d0, d1⟩ := word_at HR2.out (i := 0) (x := (s0, a0)) rfl
            rw [show (0 : Nat) * 2 = 0 from rfl] at d0 d1
            simp only [Nat.zero_add] at d0 d1
            have hne1 : g ≠ w.heap.size := own_blk_ne HR2.out HZ2.out (by decide) ∘ fun e => by rw [e]; rfl
            have hne2 : w.heap.size ≠ g := hne1.symm
            have hg2 : g < W2.heap.size := Nat.lt_of_lt_of_le hg HO2.out.size
            have hB2 : w.heap.size < W2.heap.size := blk_lt HZ2.out
            clear HZ1 HR HO HO2 c0 c1 hg hB HSh hb
            have z0 := blk_cell HZ2.out 0
            have z1 := blk_cell HZ2.out 1
            have z2 := blk_cell HZ2.out 2
            simp only [zSy, List.getElem?_toArray, List.getElem?_cons_zero, List.getElem?_cons_succ] at z0 z1 z2
            have zf := fun k => blk_frozen HZ2.out k
            cases hl : look s0 tbl with
            | none =>
              have HX : Hid (lineRes line ahead = .bad a0 280) := Lib.hid (by rw [HL1.out, cmd_none hl])
              clear hl HL1
              simp only [Option.getD, Option.isSome]
              go_upto_region 10 with fail
              go_region
              go_wp2
              refine bodyPost_ret (v := .tuple #[.agg zSy, .int .i64 (a0 : Int), .int .i64 280]) (results_agg_tmp2 rfl _ _ _ _ _ _ _ rfl _ _ rfl rfl (blk_zz HZ2.out) Tryd.underlying29 rfl infoSy) rfl ⟨?_, only_zz HOw.out (Nat.le_refl _)⟩
              rw [HX.out]
              rfl
            | some f =>
              simp only [Option.getD, Option.isSome]
              obtain ⟨hfk, hfs, hfd⟩ := forms_ok hl
              clear hfd
              by_cases hgood : (s0.toList == mkt.toList) = decide (ahead = 0)
              · have hcase : ((s0.toList == [109, 97, 114, 107, 101, 116]) = true ∧ ((ahead : Int) == 0) = true) ∨ ((s0.toList == [109, 97, 114, 107, 101, 116]) = false ∧ ((ahead : Int) == 0) = false) := by
                  have hgood := hgood
                  rw [mkt_list] at hgood
                  by_cases ha : ahead = 0
                  · exact .inl ⟨by rw [hgood]; simp [ha], by simp [ha]⟩
                  · exact .inr ⟨by rw [hgood]; simp [ha], by simp [ha]⟩
                have HX : Hid (lineRes line ahead = match argsGo line.size f.data.toList ws with
                  | .bad a => .bad a 280
                  | .good l => .good s0 l) := Lib.hid (by rw [HL1.out, cmd_on hl hgood])
                have HFk := Lib.hid hfk
                clear hl HL1 hgood hfk
                rcases hcase with ⟨hm, ha⟩ | ⟨hm, ha⟩
                all_goals
                  go_upto_region 11 with fail
                  go_cut [10] from 11 to 115 (fun v10 W3 => ∃ B : Nat, v10 = .pointer (some ⟨B, 0, none⟩) ∧ Hid (W3.heap[B]? = some (.cells #[.int .i64 0, .string s0, .slice none 0 0] tSy (0, 0))) ∧ Hid (Only Nil W2 W3) ∧ W2.heap.size ≤ B)
                  case first =>
                    go_wp2
                    go_meet
                    case rel => exact ⟨_, rfl, Lib.hid (blk_new _ _), Lib.hid ((Only.refl _ _).alloc _), Nat.le_refl _⟩
                  case rest =>
                    obtain ⟨W3, rfl⟩ : ∃ x : World, x = wc := ⟨_, rfl⟩
                    obtain ⟨B, rfl, HB3, HO3, hWB⟩ := hcut
                    rename_i hk
                    refine hk _ _ ?_
                    clear hk
                    subst hw0
                    exact parsed_tail line ahead w W3 s0 a0 ws f w.heap.size B g c hsz HI.out (by omega) HFk.out hfs HX.out (own_mono (own_only HR2.out HO3.out (fun _ _ h => h)) (Nat.zero_le _)) (HO3.out.blk HZ2.out (fun h => h)) HB3.out (by omega) (Nat.le_refl _) (by omega) HV0.out (HOw.out.trans (S := Nil) HO3.out (fun _ _ h => h)) _ _ _ _ _ _ _ _ _ _ _ _ _ _ _ _ _ _ _ _ _ _ _ _ _ _ _ _ _ _ _ _ _ _ _ _ _ _ _ _ _ _ _ _ _ _ _ _ _ _ _ _ _ _ _ _ _ _ _ _ _ _ _ _ _ _ _ _ _ _ _ _ _ _ _ _ _ _ _ _ _ _ _ _ _ _ _ _ _ _ _ _ _ _ _ _ _ _ _ _ _ _ _ _ _
              · have HX : Hid (lineRes line ahead = .bad a0 280) := Lib.hid (by
                  rw [HL1.out, cmd_off hl (by
                    show (s0.toList == mkt.toList) = _
                    cases h1 : (s0.toList == mkt.toList) <;> cases h2 : decide (ahead = 0) <;> first | rfl | (rw [h1, h2] at hgood; exact absurd rfl hgood))])
                have hcase : ((s0.toList == [109, 97, 114, 107, 101, 116]) = true ∧ ((ahead : Int) == 0) = false) ∨ ((s0.toList == [109, 97, 114, 107, 101, 116]) = false ∧ ((ahead : Int) == 0) = true) := by
                  rw [mkt_list] at hgood
                  by_cases ha : ahead = 0
                  · exact .inr ⟨by cases h1 : (s0.toList == [109, 97, 114, 107, 101, 116]) with
                      | false => rfl
                      | true => rw [h1] at hgood; simp [ha] at hgood, by simp [ha]⟩
                  · exact .inl ⟨by cases h1 : (s0.toList == [109, 97, 114, 107, 101, 116]) with
                      | true => rfl
                      | false => rw [h1] at hgood; simp [ha] at hgood, by simp [ha]⟩
                clear hl HL1 hgood hfk
                rcases hcase with ⟨hm, ha⟩ | ⟨hm, ha⟩
                all_goals
                  go_upto_region 10 with fail
                  go_region
                  go_wp2
                  refine bodyPost_ret (v := .tuple #[.agg zSy, .int .i64 (a0 : Int), .int .i64 280]) (results_agg_tmp2 rfl _ _ _ _ _ _ _ rfl _ _ rfl rfl (blk_zz HZ2.out) Tryd.underlying29 rfl infoSy) rfl ⟨?_, only_zz HOw.out (Nat.le_refl _)⟩
                  rw [HX.out]
                  rfl
end Pa
end Go.Proofs.YtnhedhmffgaohaaDoor

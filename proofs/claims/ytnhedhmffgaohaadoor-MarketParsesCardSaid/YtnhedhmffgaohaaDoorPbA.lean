/- The walk of the document's Parse. -/
import Derived.Test.YtnhedhmffgaohaaDoorPaZ
namespace Go.Proofs.YtnhedhmffgaohaaDoor
open Go.RowKit
namespace Pa
theorem hash_yes {t : ByteArray} (h : 0 < t.size) (hh : hash t = true) : ((t[0].toNat : Int) == 35) = true := by
  unfold hash at hh
  rw [List.head?_eq_getElem?, byte_get h] at hh
  have := eq_of_beq hh
  injection this with this
  rw [this]
  rfl
theorem hash_no {t : ByteArray} (h : 0 < t.size) (hh : hash t = false) : ((t[0].toNat : Int) == 35) = false := by
  refine beq_eq_false_iff_ne.2 (fun e => ?_)
  unfold hash at hh
  rw [List.head?_eq_getElem?, byte_get h] at hh
  have h1 : t[0].toNat = 35 := by omega
  have h3 : t[0] = 35 := UInt8.toNat_inj.1 h1
  rw [h3] at hh
  cases hh
theorem lr_long {l : ByteArray} {k : Nat} (h : 2048 < l.size) : lineRes l k = .bad 2048 2 := by unfold lineRes; rw [if_pos h]
theorem lr_none {l : ByteArray} {k : Nat} (h : ¬ 2048 < l.size) (hw : words l = []) : lineRes l k = .skip := by unfold lineRes; rw [if_neg h, hw]
theorem lr_hash {l : ByteArray} {k : Nat} {w0 : ByteArray × Nat} {ws : List (ByteArray × Nat)} (h : ¬ 2048 < l.size) (hw : words l = w0 :: ws) (hh : hash w0.1 = true) : lineRes l k = .skip := by unfold lineRes; rw [if_neg h, hw]; simp only [hh, if_true]
theorem lr_full {l : ByteArray} {k : Nat} {w0 : ByteArray × Nat} {ws : List (ByteArray × Nat)} (h : ¬ 2048 < l.size) (hw : words l = w0 :: ws) (hh : hash w0.1 = false) (hk : 400 ≤ k) : lineRes l k = .bad 0 2 := by unfold lineRes; rw [if_neg h, hw]; simp only [hh, Bool.false_eq_true, if_false]; rw [if_pos hk]
theorem lr_bad {l : ByteArray} {k a : Nat} {w0 : ByteArray × Nat} {ws : List (ByteArray × Nat)} (h : ¬ 2048 < l.size) (hw : words l = w0 :: ws) (hh : hash w0.1 = false) (hk : ¬ 400 ≤ k) (hc : cmd l.size w0 ws k = .bad a) : lineRes l k = .bad a 280 := by unfold lineRes; rw [if_neg h, hw]; simp only [hh, Bool.false_eq_true, if_false]; rw [if_neg hk, hc]
theorem lr_good {l : ByteArray} {k : Nat} {o : List ByteArray} {w0 : ByteArray × Nat} {ws : List (ByteArray × Nat)} (h : ¬ 2048 < l.size) (hw : words l = w0 :: ws) (hh : hash w0.1 = false) (hk : ¬ 400 ≤ k) (hc : cmd l.size w0 ws k = .good o) : lineRes l k = .good w0.1 o := by unfold lineRes; rw [if_neg h, hw]; simp only [hh, Bool.false_eq_true, if_false]; rw [if_neg hk, hc]
theorem drop_line {L : List ByteArray} {i : Nat} {l : ByteArray} (h : L[i]? = some l) : L.drop i = l :: L.drop (i + 1) := by
  obtain ⟨h1, rfl⟩ := List.getElem?_eq_some_iff.1 h
  exact List.drop_eq_getElem_cons h1
theorem lines_in (s : ByteArray) (i : Nat) : ∀ l ∈ linesAt s i, l.size ≤ s.size := by
  fun_induction linesAt s i with
  | case1 i h ih =>
    intro l hl
    rcases List.mem_cons.1 hl with rfl | hl
    · rw [ByteArray.size_extract]; omega
    · exact ih l hl
  | case2 i h => intro l hl; simp at hl
theorem one_3 (n : Int) (t : ByteArray) (A : Option Addr) (k c : Nat) : ∀ u ∈ [Value.int .i64 n, .string t, .slice A k c], u.oneCell' = true := by
  intro u hu
  simp only [List.mem_cons, List.not_mem_nil, or_false] at hu
  rcases hu with rfl | rfl | rfl <;> rfl
set_option maxHeartbeats 1600000 in
set_option maxRecDepth 100000 in
theorem parse_ref (s : ByteArray) (w : World) :
    Calls Tryd.prog 5 #[.string s] w fun e w' => POut (parse s) w.heap.size e w' ∧ Only Nil w w' := by
  obtain ⟨i1, hi0, hz0, hz1, hz2⟩ := info_parts infoSyB
  by_cases hlen : 131072 < s.size
  · have HX : Hid (parse s = .bad 0 0 2) := Lib.hid (by unfold parse; rw [if_pos hlen])
    have hlI : (131072 : Int) < (s.size : Int) := by omega
    go_enter Tryd.func5, Tryd.ntmps5
    go_wp2
    refine bodyPost_ret (results_tmp4 rfl _ _ _) rfl ?_
    rw [HX.out]
    exact ⟨rfl, Only.refl _ _⟩
  · have HX : Hid (parse s = parseGo (linesAt s 0) 1 []) := Lib.hid (by unfold parse; rw [if_neg hlen])
    have hlI : (s.size : Int) ≤ 131072 := by omega
    have HLn := Lib.hid (lines_ref s w (by omega))
    have HIn := Lib.hid (lines_in s 0)
    have hLn := linesAt_le s 0
    generalize linesAt s 0 = L at *
    go_enter Tryd.func5, Tryd.ntmps5
    go_wp2_with fail
    refine HLn.out.mono ?_
    rintro e w1 ⟨v, rfl, hr, ho⟩
    have HR := Lib.hid hr
    have HO := Lib.hid ho
    obtain ⟨A, c, rfl, hc⟩ := own_slice hr
    have hsz := ho.size
    clear hr ho HLn hlen
    go_wp2
    go_loopg [6, 8] (L.length) (fun m v6 v8 wr => ∃ (i : Nat) (ps : List (Sy × Value)), i ≤ L.length ∧ m = L.length - i ∧ v8 = .int .i64 i ∧ ps.length ≤ 400 ∧ Hid (parseGo L 1 [] = parseGo (L.drop i) (i + 1) (ps.map (·.1))) ∧ Hid (Says wr w1.heap.size v6 ps) ∧ Hid (Only Nil w1 wr))
    case atStart => exact ⟨0, [], by omega, by omega, rfl, by simp, Lib.hid rfl, Lib.hid (Says.none _ _), Lib.hid (Only.refl _ _)⟩
    case round =>
      obtain ⟨i, ps, hi, hm, rfl, hps, HP, HS, HO1⟩ := hrel
      have hwr := HO1.out.size
      by_cases hlt : i < L.length
      · have hiI : (i : Int) < (L.length : Int) := by omega
        have hlx : L[i]? = some L[i] := List.getElem?_eq_getElem hlt
        obtain ⟨g, c', hv, hg, hgc, hgm⟩ := own_row (own_only HR.out HO1.out (fun _ _ h => h)) (by omega)
        injection hv with e1 _ e2
        subst e1
        subst e2
        have c0 := str_at (own_only HR.out HO1.out (fun _ _ h => h)) hlx
        have hls := HIn.out L[i] (by simp)
        have HDr := Lib.hid (drop_line hlx)
        generalize L[i] = l at *
        clear hlx
        obtain ⟨B6, c6, rfl, hc6⟩ := own_slice HS.out.row
        have hpsI : (ps.length : Int) ≤ 400 := by omega
        have hpl : (ps.map (·.1)).length = ps.length := by simp
        by_cases hl : 2048 < l.size
        · have hll : (2048 : Int) < (l.size : Int) := by omega
          have HB : Hid (parse s = .bad (i + 1) 2048 2) := Lib.hid (by rw [HX.out, HP.out, HDr.out]; exact go_bad (lr_long hl))
          clear HP HDr
          go_wp2
          refine bodyPost_ret (results_tmp4 rfl _ _ _) rfl ?_
          rw [HB.out]
          exact ⟨rfl, HO.out.trans (S := Nil) HO1.out (fun _ _ h => h)⟩
        · have hll : (l.size : Int) ≤ 2048 := by omega
          have HW := Lib.hid (fun W => words_ref l W (by omega))
          have HI := Lib.hid (words_in l 0)
          have hN := wordsAt_le l 0
          change Hid (∀ x ∈ words l, _) at HI
          change (words l).length ≤ _ at hN
          go_wp2_with fail
          refine (HW.out _).mono ?_
          rintro e w2 ⟨v9, rfl, hr9, ho2⟩
          have HR9 := Lib.hid hr9
          have HO2 := Lib.hid (HO1.out.trans (S := Nil) ho2 (fun _ _ h => h))
          have Ho2 := Lib.hid ho2
          have c1 := (ho2.cell (p := ⟨g, i, none⟩) hg (fun h => h)).trans c0
          have hg2 : g < w2.heap.size := Nat.lt_of_lt_of_le hg ho2.size
          clear hr9 ho2 HW c0 hg
          cases hw : words l with
          | nil =>
            have HP1 : Hid (parseGo L 1 [] = parseGo (L.drop (i + 1)) (i + 1 + 1) (ps.map (·.1))) := Lib.hid (by rw [HP.out, HDr.out]; exact go_skip (lr_none hl hw))
            rw [hw] at HR9
            obtain ⟨A9, c9, rfl, hc9⟩ := own_slice HR9.out
            simp only [List.length_nil] at *
            have HS1 := Lib.hid (HS.out.nil Ho2.out)
            clear HP HDr HR9 hw HI HS
            go_wp2
            go_roundg (L.length - (i + 1))
            case measure => omega
            case rel => exact ⟨i + 1, ps, by omega, rfl, by go_num, hps, HP1, HS1, HO2⟩
          | cons w0 ws =>
            obtain ⟨s0, a0⟩ := w0
            rw [hw, List.length_cons] at HR9
            rw [hw] at HI hN
            obtain ⟨g9, c9, rfl, hg9, hnc9, hcm9⟩ := own_row HR9.out (by omega)
            obtain ⟨d0, d1⟩ := word_at HR9.out (i := 0) (x := (s0, a0)) rfl
            rw [show (0 : Nat) * 2 = 0 from rfl] at d0 d1
            simp only [Nat.zero_add] at d0 d1
            have h0 := HI.out (s0, a0) (by simp)
            have hs0 : 0 < s0.size := h0.1
            have hn0 : 0 < ws.length + 1 := by omega
            rw [List.length_cons] at hN
            cases hh : hash s0 with
            | true =>
              have hb := hash_yes hs0 hh
              have HP1 : Hid (parseGo L 1 [] = parseGo (L.drop (i + 1)) (i + 1 + 1) (ps.map (·.1))) := Lib.hid (by rw [HP.out, HDr.out]; exact go_skip (lr_hash hl hw hh))
              have HS1 := Lib.hid (HS.out.nil Ho2.out)
              clear HP HDr HR9 hw HI HS hh
              go_wp2
              go_roundg (L.length - (i + 1))
              case measure => omega
              case rel => exact ⟨i + 1, ps, by omega, rfl, by go_num, hps, HP1, HS1, HO2⟩
            | false =>
              have hb := hash_no hs0 hh
              by_cases hk : 400 ≤ ps.length
              · have hkI : ((ps.length : Int) == 400) = true := by rw [beq_iff_eq]; omega
                have HB : Hid (parse s = .bad (i + 1) 0 2) := Lib.hid (by rw [HX.out, HP.out, HDr.out]; exact go_bad (lr_full hl hw hh (by rw [hpl]; exact hk)))
                clear HP HDr HR9 hw HI HS hh
                go_wp2
                refine bodyPost_ret (results_tmp4 rfl _ _ _) rfl ?_
                rw [HB.out]
                exact ⟨rfl, HO.out.trans (S := Nil) HO2.out (fun _ _ h => h)⟩
              · have hkI : ((ps.length : Int) == 400) = false := beq_eq_false_iff_ne.2 (by omega)
                have HC := Lib.hid (fun W (hr : W.ownsRow 0 tV 2 (.slice (some ⟨g9, 0, none⟩) (ws.length + 1) c9) (ws.length + 1) (((s0, a0) :: ws).flatMap wcells)) => command_ref l (s0, a0) ws _ ps.length W hr (by omega) (fun x hx => by have := HI.out x hx; omega))
                have HR0 := Lib.hid (own_mono HR9.out (Nat.zero_le _))
                have HK : Hid (∀ o, cmd l.size (s0, a0) ws ps.length = o → lineRes l (ps.map (·.1)).length = match o with
                  | .bad a => .bad a 280
                  | .good l' => .good s0 l') := Lib.hid (fun o ho => by
                  rw [hpl]
                  cases o with
                  | bad a => exact lr_bad hl hw hh hk ho
                  | good l' => exact lr_good hl hw hh hk ho)
                have HGd := Lib.hid (fun t o (h : lineRes l ps.length = .good t o) => lineRes_good h)
                clear HR9 hw hh
                go_wp2_with fail
                refine (HC.out _ HR0.out).mono ?_
                rintro e w3 ⟨hout, ho3⟩
                have HO3 := Lib.hid (HO2.out.trans (S := Nil) ho3 (fun _ _ h => h))
                have Ho3 := Lib.hid (Ho2.out.trans (S := Nil) ho3 (fun _ _ h => h))
                have e0 := (ho3.cell (p := ⟨g9, 0, none⟩) hg9 (fun h => h)).trans d0
                have hg9' : g9 < w3.heap.size := Nat.lt_of_lt_of_le hg9 ho3.size
                have hs23 := Ho2.out.size
                cases hcm : cmd l.size (s0, a0) ws ps.length with
                | bad a =>
                  rw [hcm] at hout
                  simp only [cmdOut] at hout
                  subst hout
                  have HB : Hid (parse s = .bad (i + 1) a 280) := Lib.hid (by rw [HX.out, HP.out, HDr.out]; exact go_bad (HK.out _ hcm))
                  clear HP HDr HI HS hcm ho3 d0 d1 HC HK
                  go_wp2
                  refine bodyPost_ret (results_tmp4 rfl _ _ _) rfl ?_
                  rw [HB.out]
                  exact ⟨rfl, HO.out.trans (S := Nil) HO3.out (fun _ _ h => h)⟩
                | good o =>
                  rw [hcm] at hout
                  simp only [cmdOut] at hout
                  obtain ⟨av, rfl, ha⟩ := hout
                  have hlr := HK.out _ hcm
                  simp only at hlr
                  have HP1 : Hid (parseGo L 1 [] = parseGo (L.drop (i + 1)) (i + 1 + 1) (ps.map (·.1) ++ [⟨i + 1, s0, o⟩])) := Lib.hid (by rw [HP.out, HDr.out]; exact go_good hlr)
                  obtain ⟨Aa, ca, rfl, hca⟩ := own_slice ha
                  have HAv := Lib.hid ha
                  have HO23 := Lib.hid ho3
                  clear HP HDr HI hcm ho3 d0 d1 HC HK ha hlr
                  have hkk : ps.length ≤ 1000000 := by omega
                  have HSn := Lib.hid (HS.out.nil Ho3.out)
                  have hs12 : w1.heap.size ≤ w2.heap.size := HO2.out.size
                  go_wp2_with (at_builtin; (refine wpList_append_lies _ rfl (.tmp 71) (.tmp 80) _ rfl w1.heap.size tSy i1 _ 3 48 Tryd.underlying22 hi0 hz0 hz1 hz2 rfl (by omega) (.slice B6 ps.length c6) ps.length _ rfl (HSn.out.row.alloc _) ⟨w3.heap.size, 0, none⟩ 1 1 [.int .i64 ((i : Int) + 1), .string s0, .slice Aa o.length ca] rfl rfl (World.news_of_block (blk_new' _ _ _ rfl)) (one_3 _ _ _ _ _) (by omega) (bytesSy _ hkk).1 (bytesSy _ hkk).2 (HO3.out.alloc _).size _ rfl ?_); intro g' cap w4 hown hgrow hat hlt1)
                  have hO4 : Only Nil w1 w4 := (HO3.out.alloc _).grown hgrow (fun k hk hlt => by have := (HSn.out.row.lt k hk).1; omega)
                  have hS4 : Says w4 w1.heap.size (.slice (some ⟨g', 0, none⟩) (ps.length + 1) cap) (ps ++ [(⟨i + 1, s0, o⟩, .slice Aa o.length ca)]) := (HS.out.nil Ho2.out).snoc (HO23.out.alloc _) (HAv.out.alloc _) hs12 hgrow (by
                    have e : ((i + 1 : Nat) : Int) = (i : Int) + 1 := by omega
                    simp only [sycells, e]
                    exact hown)
                  go_roundg (L.length - (i + 1))
                  case measure => omega
                  case rel => exact ⟨i + 1, ps ++ [(⟨i + 1, s0, o⟩, .slice Aa o.length ca)], by omega, rfl, by go_num, by simp; omega, by simpa using HP1, Lib.hid hS4, Lib.hid hO4⟩
      · have hie : i = L.length := by omega
        subst hie
        have HB : Hid (parse s = .good (ps.map (·.1))) := Lib.hid (by rw [HX.out, HP.out, List.drop_eq_nil_of_le (Nat.le_refl _)]; rfl)
        clear HP
        obtain ⟨B6, c6, rfl, hc6⟩ := own_slice HS.out.row
        go_wp2
        refine bodyPost_ret (results_tmp4 rfl _ _ _) rfl ?_
        rw [HB.out]
        exact ⟨⟨_, ps, rfl, rfl, HS.out.mono hsz⟩, HO.out.trans (S := Nil) HO1.out (fun _ _ h => h)⟩
end Pa
end Go.Proofs.YtnhedhmffgaohaaDoor

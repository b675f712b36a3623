/- The walk of the program's Parse. -/
import Derived.Test.YtnhedhmffgaohaaDoorPbA
namespace Go.Proofs.YtnhedhmffgaohaaDoor
open Go.RowKit
namespace Pa
theorem lr_code {l : ByteArray} {k a c : Nat} (h : lineRes l k = .bad a c) : c = 2 ∨ c = 280 := by
  unfold lineRes at h
  split at h
  · injection h with _ h; exact .inl h.symm
  · split at h
    · cases h
    · split at h
      · cases h
      · split at h
        · injection h with _ h; exact .inl h.symm
        · split at h
          · injection h with _ h; exact .inr h.symm
          · cases h
theorem ne_nil {t : ByteArray} (h : 0 < t.size) : (t.toList == ([] : List UInt8)) = false := by
  rw [ByteArray.toList_eq]
  refine beq_eq_false_iff_ne.2 (fun e => ?_)
  have := Lib.size_eq t
  rw [e, List.length_nil] at this
  omega
theorem ext_end {s : ByteArray} {b : Nat} (h : s.size ≤ b) : s.extract b s.size = ⟨#[]⟩ := by
  apply ba_of
  rw [data_drop, List.drop_eq_nil_of_le (by have := Lib.size_eq s; omega)]
set_option maxHeartbeats 1600000 in
set_option maxRecDepth 100000 in
theorem parse_any (s : ByteArray) (w : World) (hv : Vars w) :
    Calls Tryd.prog 4 #[.string s] w fun e w' => POut (parse s) w.heap.size e w' ∧ Only Nil w w' := by
  obtain ⟨i1, hi0, hz0, hz1, hz2⟩ := info_parts infoSyB
  by_cases hlen : 131072 < s.size
  · have HX : Hid (parse s = .bad 0 0 2) := Lib.hid (by unfold parse; rw [if_pos hlen])
    have hlI : (131072 : Int) < (s.size : Int) := by omega
    go_enter Tryd.func4, Tryd.ntmps4
    go_wp2
    refine bodyPost_ret (results_tmp4 rfl _ _ _) rfl ?_
    rw [HX.out]
    exact ⟨rfl, Only.refl _ _⟩
  · have HX : Hid (parse s = parseGo (linesAt s 0) 1 []) := Lib.hid (by unfold parse; rw [if_neg hlen])
    have hlI : (s.size : Int) ≤ 131072 := by omega
    have HV := Lib.hid hv
    have hsz : s.size ≤ 131072 := by omega
    have hs0 : s = s.extract 0 s.size := by apply ba_of; rw [data_drop]; rfl
    have HS0 := Lib.hid hs0
    clear hv hlen hs0
    go_enter Tryd.func4, Tryd.ntmps4
    go_wp2
    go_loopg [0, 6, 7] (s.size + 1) (fun m v0 v6 v7 wr => ∃ (b n : Nat) (t : ByteArray) (ps : List (Sy × Value)), b ≤ s.size + 1 ∧ m = s.size + 1 - b ∧ v7 = .int .i64 n ∧ n ≤ b + 1 ∧ v0 = .string t ∧ Hid (t = s.extract b s.size) ∧ ps.length ≤ 400 ∧ Hid (parseGo (linesAt s 0) 1 [] = parseGo (linesAt s b) n (ps.map (·.1))) ∧ Hid (Says wr w.heap.size v6 ps) ∧ Hid (Only Nil w wr))
    case atStart => exact ⟨0, 1, s, [], by omega, by omega, rfl, by omega, rfl, HS0, by simp, Lib.hid rfl, Lib.hid (Says.none _ _), Lib.hid (Only.refl _ _)⟩
    case round =>
      obtain ⟨b, n, t, ps, hb, hm, rfl, hn, rfl, HT, hps, HP, HS, HO⟩ := hrel
      have hwr := HO.out.size
      obtain ⟨B6, c6, rfl, hc6⟩ := own_slice HS.out.row
      have hpl : (ps.map (·.1)).length = ps.length := by simp
      by_cases hlt : b < s.size
      · have htne : (t.toList == ([] : List UInt8)) = false := ne_nil (by rw [HT.out, ByteArray.size_extract]; omega)
        have hge := eol_ge s b
        have hle := eol_le s b (by omega)
        have htsz : t.size ≤ 131072 := by rw [HT.out, ByteArray.size_extract]; omega
        have HC : Hid (∀ W, Only Nil w W → Calls Tryd.prog 7 #[.string t, .string ⟨#[10]⟩] W fun e w' => (∃ fl, e = .returned (.tuple #[.string (s.extract b (eol s b)), .string (s.extract (eol s b + 1) s.size), .bool fl])) ∧ ∃ k, w' = W.drewN k) := Lib.hid (fun W ho => by
          obtain ⟨mm, hmm⟩ := (HV.out.only ho).ml
          refine (Tryd.strings_Cut t ⟨#[10]⟩ mm W (by omega) hmm).mono ?_
          rintro e w' ⟨he, hk⟩
          have e1 : (⟨(Lib.cut t.data.toList (⟨#[10]⟩ : ByteArray).data.toList).1.toArray⟩ : ByteArray) = s.extract b (eol s b) := by rw [HT.out]; exact (cut_at s b hlt).1
          have e2 : (⟨(Lib.cut t.data.toList (⟨#[10]⟩ : ByteArray).data.toList).2.1.toArray⟩ : ByteArray) = s.extract (eol s b + 1) s.size := by rw [HT.out]; exact (cut_at s b hlt).2
          rw [e1, e2] at he
          exact ⟨⟨_, he⟩, hk⟩)
        have HLm := Lib.hid (lines_more hlt)
        have hlz : (s.extract b (eol s b)).size ≤ 131072 := by rw [ByteArray.size_extract]; omega
        have HT1 : Hid (s.extract (eol s b + 1) s.size = s.extract (eol s b + 1) s.size) := Lib.hid rfl
        generalize s.extract b (eol s b) = l at *
        generalize hr : s.extract (eol s b + 1) s.size = r at *
        have HTr : Hid (r = s.extract (eol s b + 1) s.size) := Lib.hid hr.symm
        generalize hq : eol s b = q at *
        clear hr hq HT HT1
        go_wp2_with fail
        refine (HC.out _ HO.out).mono ?_
        rintro e w1 ⟨⟨fl, rfl⟩, kk, rfl⟩
        have HO1 := Lib.hid (HO.out.drewN kk)
        have HS1 := Lib.hid (HS.out.nil ((Only.refl Nil wr).drewN kk))
        generalize wr.drewN kk = w1 at *
        have HPa := Lib.hid (parsed_any l ps.length w1 (HV.out.only HO1.out))
        clear HC HO HS
        go_wp2_with fail
        refine HPa.out.mono ?_
        rintro e w2 ⟨hout, ho2⟩
        have HO2 := Lib.hid (HO1.out.trans (S := Nil) ho2 (fun _ _ h => h))
        have Ho2 := Lib.hid ho2
        clear HPa
        cases hlr : lineRes l ps.length with
        | skip =>
          rw [hlr] at hout
          simp only [pOut] at hout
          subst hout
          have HP1 : Hid (parseGo (linesAt s 0) 1 [] = parseGo (linesAt s (q + 1)) (n + 1) (ps.map (·.1))) := Lib.hid (by rw [HP.out, HLm.out]; exact go_skip (by rw [hpl]; exact hlr))
          have HS2 := Lib.hid ((HS1.out.nil Ho2.out).nil ((Only.refl Nil w2).alloc (.cells zSy tSy)))
          have HO3 := Lib.hid (HO2.out.alloc (.cells zSy tSy))
          clear HP HLm hlr ho2 HS1
          simp only [zSy] at *
          go_wp2
          go_roundg (s.size + 1 - (q + 1))
          case measure => omega
          case rel => exact ⟨q + 1, n + 1, r, ps, by omega, rfl, by go_num, by omega, rfl, HTr, hps, HP1, HS2, HO3⟩
        | bad a c =>
          have hcc := lr_code hlr
          have HB : Hid (parse s = .bad n a c) := Lib.hid (by rw [HX.out, HP.out, HLm.out]; exact go_bad (by rw [hpl]; exact hlr))
          rw [hlr] at hout
          simp only [pOut] at hout
          subst hout
          have HO3 := Lib.hid (HO2.out.alloc (.cells zSy tSy))
          have hc0 : ((c : Int) == 0) = false := beq_eq_false_iff_ne.2 (by omega)
          clear HP HLm hlr ho2 HS1 hcc
          simp only [zSy] at *
          go_wp2
          refine bodyPost_ret (results_tmp4 rfl _ _ _) rfl ?_
          rw [HB.out]
          exact ⟨rfl, HO3.out⟩
        | good t' o =>
          obtain ⟨hk4, hl2, ht0, htl, hol⟩ := lineRes_good hlr
          have HP1 : Hid (parseGo (linesAt s 0) 1 [] = parseGo (linesAt s (q + 1)) (n + 1) (ps.map (·.1) ++ [⟨n, t', o⟩])) := Lib.hid (by rw [HP.out, HLm.out]; exact go_good (by rw [hpl]; exact hlr))
          rw [hlr] at hout
          simp only [pOut] at hout
          obtain ⟨av, rfl, ha⟩ := hout
          obtain ⟨Aa, ca, rfl, hca⟩ := own_slice ha
          have HAv := Lib.hid ha
          have ht'ne : (t'.toList == ([] : List UInt8)) = false := ne_nil ht0
          have HSn := Lib.hid (HS1.out.nil Ho2.out)
          have hw1w : w.heap.size ≤ w1.heap.size := HO1.out.size
          have hkk : ps.length ≤ 1000000 := by omega
          clear HP HLm hlr ho2 ha
          have Hx3 := Lib.hid (blk_new w2 (.cells #[.int .i64 (n : Int), .string t', .slice Aa o.length ca] 29))
          have Ho3 : Hid (Only Nil w2 (w2.alloc (.cells #[.int .i64 (n : Int), .string t', .slice Aa o.length ca] 29))) := Lib.hid ((Only.refl _ _).alloc _)
          go_upto_region 14 with fail
          generalize w2.alloc (.cells #[.int .i64 (n : Int), .string t', .slice Aa o.length ca] 29) = W3 at *
          have x0 := blk_cell Hx3.out 0
          have x1 := blk_cell Hx3.out 1
          have x2 := blk_cell Hx3.out 2
          have xl := blk_lt Hx3.out
          simp only [List.getElem?_toArray, List.getElem?_cons_zero, List.getElem?_cons_succ] at x0 x1 x2
          have HO3 := Lib.hid (HO2.out.trans (S := Nil) Ho3.out (fun _ _ h => h))
          have HS3 := Lib.hid (HSn.out.nil Ho3.out)
          have HA3 := Lib.hid (own_only HAv.out Ho3.out (fun _ _ h => h))
          have HO13 := Lib.hid (Ho2.out.trans (S := Nil) Ho3.out (fun _ _ h => h))
          generalize w2.heap.size = X at *
          go_wp2_with (at_builtin; (refine wpList_append_lies _ rfl (.tmp 43) (.tmp 45) _ rfl w.heap.size tSy i1 _ 3 48 Tryd.underlying22 hi0 hz0 hz1 hz2 rfl (by omega) (.slice B6 ps.length c6) ps.length _ rfl (HS3.out.row.alloc _) ⟨W3.heap.size, 0, none⟩ 1 1 [.int .i64 (n : Int), .string t', .slice Aa o.length ca] rfl rfl (World.news_of_block (blk_new' _ _ _ rfl)) (one_3 _ _ _ _ _) (by omega) (bytesSy _ hkk).1 (bytesSy _ hkk).2 (HO3.out.alloc _).size _ rfl ?_); intro g' cap w4 hown hgrow hat hlt1)
          have hO4 : Only Nil w w4 := (HO3.out.alloc _).grown hgrow (fun k hk hlt => by have := (HS3.out.row.lt k hk).1; omega)
          have hS4 : Says w4 w.heap.size (.slice (some ⟨g', 0, none⟩) (ps.length + 1) cap) (ps ++ [(⟨n, t', o⟩, .slice Aa o.length ca)]) := HS1.out.snoc (HO13.out.alloc _) (HA3.out.alloc _) hw1w hgrow hown
          go_roundg (s.size + 1 - (q + 1))
          case measure => omega
          case rel => exact ⟨q + 1, n + 1, r, ps ++ [(⟨n, t', o⟩, .slice Aa o.length ca)], by omega, rfl, by go_num, by omega, rfl, HTr, by simp; omega, by simpa using HP1, Lib.hid hS4, Lib.hid hO4⟩
      · have htn : (t.toList == ([] : List UInt8)) = true := by
          rw [HT.out, ext_end (by omega), ByteArray.toList_eq]
          rfl
        have HB : Hid (parse s = .good (ps.map (·.1))) := Lib.hid (by rw [HX.out, HP.out, lines_end hlt]; rfl)
        clear HP HT
        go_wp2
        refine bodyPost_ret (results_tmp4 rfl _ _ _) rfl ?_
        rw [HB.out]
        exact ⟨⟨_, ps, rfl, rfl, HS.out⟩, HO.out⟩
end Pa
end Go.Proofs.YtnhedhmffgaohaaDoor

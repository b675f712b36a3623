/- Natural, fits (the document's): a walk each. -/
import Derived.Test.YtnhedhmffgaohaaDoorPaO
namespace Go.Proofs.YtnhedhmffgaohaaDoor
open Go.RowKit
namespace Pa
theorem drop_get {s : ByteArray} {k : Nat} (h : k < s.size) : s.data.toList.drop k = s[k] :: s.data.toList.drop (k + 1) := by
  rw [List.drop_eq_getElem_cons (show k < s.data.toList.length by simpa using h)]
  congr 1
def natO (s : ByteArray) : Value := match natR s.data.toList with
  | some n => .tuple #[.int .u64 n, .bool true]
  | none => .tuple #[.int .u64 0, .bool false]
theorem natO_some {s : ByteArray} {n : Nat} (h : natR s.data.toList = some n) : natO s = .tuple #[.int .u64 n, .bool true] := by unfold natO; rw [h]
theorem natO_none {s : ByteArray} (h : natR s.data.toList = none) : natO s = .tuple #[.int .u64 0, .bool false] := by unfold natO; rw [h]
theorem nat_in {s : ByteArray} (h0 : ¬ (s.size < 1 ∨ 20 < s.size ∨ (1 < s.size ∧ s.data.toList.head? = some 48))) : natR s.data.toList = okNat (Lib.parseUint10 0 s.data.toList) := by
  unfold natR
  rw [if_neg (by simpa using h0)]
theorem nat_out {s : ByteArray} (h0 : s.size < 1 ∨ 20 < s.size ∨ (1 < s.size ∧ s.data.toList.head? = some 48)) : natR s.data.toList = none := by
  unfold natR
  rw [if_pos (by simpa using h0)]
set_option maxHeartbeats 800000 in
set_option maxRecDepth 100000 in
theorem natural_loop (s : ByteArray) (w : World) (hs : 1 ≤ s.size ∧ s.size ≤ 20) (hz : ¬ (1 < s.size ∧ s.data.toList.head? = some 48)) :
    Calls Tryd.prog 22 #[.string s] w fun e w' => e = .returned (natO s) ∧ w = w' := by
  have HN := Lib.hid (nat_in (s := s) (by rintro (h | h | h) <;> first | omega | exact hz h))
  have h1 : (1 : Int) ≤ (s.size : Int) := by omega
  have h2 : (s.size : Int) ≤ 20 := by omega
  have h3 : 0 < s.size := by omega
  have hz' : s.size = 1 ∨ (1 < s.size ∧ ¬ (s[0].toNat : Int) = 48) := by
    by_cases h : 1 < s.size
    · refine .inr ⟨h, fun e => hz ⟨h, ?_⟩⟩
      rw [List.head?_eq_getElem?, byte_get h3]
      congr 1
      apply UInt8.toNat_inj.1
      have : s[0].toNat = 48 := by omega
      exact this
    · exact .inl (by omega)
  clear hz hs
  go_enter Tryd.func22, Tryd.ntmps22
  have hz1 : (s.size : Int) = 1 ∨ (1 : Int) < (s.size : Int) ∧ ¬ (s[0].toNat : Int) = 48 := by
    rcases hz' with h | ⟨h, h'⟩
    · exact .inl (by omega)
    · exact .inr ⟨by omega, h'⟩
  clear hz'
  rcases hz1 with hz | ⟨hz, hz2⟩
  all_goals
    try have hz3 : ((s[0].toNat : Int) == 48) = false := beq_eq_false_iff_ne.2 hz2
    try clear hz2
    go_wp2
    go_loopg [4, 5] (s.size) (fun m v4 v5 wr => ∃ k a : Nat, k ≤ s.size ∧ m = s.size - k ∧ v5 = .int .i64 k ∧ v4 = .int .u64 a ∧ a < 18446744073709551616 ∧ Hid (Lib.parseUint10 0 s.data.toList = Lib.parseUint10 a (s.data.toList.drop k)) ∧ w = wr)
    case atStart => exact ⟨0, 0, by omega, by omega, rfl, rfl, by omega, Lib.hid rfl, rfl⟩
    case round =>
      obtain ⟨k, a, hk, hm, rfl, rfl, ha, HP, rfl⟩ := hrel
      clear hz
      try clear hz3
      by_cases hlt : k < s.size
      · have hkI : (k : Int) < (s.size : Int) := by omega
        have hd := drop_get hlt
        by_cases hb : 48 ≤ s[k].toNat ∧ s[k].toNat ≤ 57
        · by_cases hc : a * 10 + (s[k].toNat - 48) < 18446744073709551616
          · have HP1 : Hid (Lib.parseUint10 0 s.data.toList = Lib.parseUint10 (a * 10 + (s[k].toNat - 48)) (s.data.toList.drop (k + 1))) := Lib.hid (by
              rw [HP.out, hd]
              simp only [Lib.parseUint10]
              rw [if_pos hb, if_neg (by omega), if_neg (by omega)])
            obtain ⟨b1, b2⟩ := hb
            have c1 : (48 : Int) ≤ (s[k].toNat : Int) := by omega
            have c2 : (s[k].toNat : Int) ≤ 57 := by omega
            clear HP hd b1 b2
            have c3 : (a : Int) ≤ (18446744073709551615 - ((s[k].toNat : Int) - 48)) / 10 := by omega
            clear hc
            go_wp2
            go_roundg (s.size - (k + 1))
            case measure => omega
            case rel => exact ⟨k + 1, a * 10 + (s[k].toNat - 48), by omega, rfl, by go_num, by congr 1; omega, by omega, HP1, rfl⟩
          · have HF : Hid (natO s = .tuple #[.int .u64 0, .bool false]) := Lib.hid (natO_none (by
              rw [HN.out, HP.out, hd]
              simp only [Lib.parseUint10]
              rw [if_pos hb]
              split
              · rfl
              · rw [if_pos (by omega)]
                rfl))
            obtain ⟨b1, b2⟩ := hb
            have c1 : (48 : Int) ≤ (s[k].toNat : Int) := by omega
            have c2 : (s[k].toNat : Int) ≤ 57 := by omega
            have c3 : (18446744073709551615 - ((s[k].toNat : Int) - 48)) / 10 < (a : Int) := by omega
            clear HP hd b1 b2 hc
            go_wp2
            go_ret2
            exact ⟨by rw [HF.out]; rfl, rfl⟩
        · have HF : Hid (natO s = .tuple #[.int .u64 0, .bool false]) := Lib.hid (natO_none (by
            rw [HN.out, HP.out, hd]
            simp only [Lib.parseUint10]
            rw [if_neg hb]
            rfl))
          have hb' : (s[k].toNat : Int) < 48 ∨ 57 < (s[k].toNat : Int) := by omega
          clear HP hd hb
          rcases hb' with hb | hb
          all_goals
            go_wp2
            go_ret2
            exact ⟨by rw [HF.out]; rfl, rfl⟩
      · have he : k = s.size := by omega
        subst he
        have HF : Hid (natO s = .tuple #[.int .u64 a, .bool true]) := Lib.hid (natO_some (by
          rw [HN.out, HP.out, List.drop_eq_nil_of_le (by simp)]
          rfl))
        clear HP hlt hk
        go_wp2
        go_ret2
        exact ⟨by rw [HF.out]; rfl, rfl⟩
set_option maxHeartbeats 800000 in
set_option maxRecDepth 100000 in
theorem natural_any (s : ByteArray) (w : World) (hs : s.size ≤ 281474976710656) :
    Calls Tryd.prog 22 #[.string s] w fun e w' => e = .returned (natO s) ∧ w = w' := by
  by_cases h0 : s.size < 1 ∨ 20 < s.size ∨ (1 < s.size ∧ s.data.toList.head? = some 48)
  · have HF := Lib.hid (natO_none (nat_out h0))
    have h1 : (s.size : Int) < 1 ∨ 20 < (s.size : Int) ∨ ((1 : Int) < (s.size : Int) ∧ (s.size : Int) ≤ 20 ∧ ∃ h : 0 < s.size, ((s[0].toNat : Int) == 48) = true) := by
      rcases h0 with h | h | ⟨h, h'⟩
      · exact .inl (by omega)
      · exact .inr (.inl (by omega))
      · by_cases h2 : 20 < s.size
        · exact .inr (.inl (by omega))
        · refine .inr (.inr ⟨by omega, by omega, by omega, ?_⟩)
          rw [List.head?_eq_getElem?, byte_get (by omega)] at h'
          injection h' with h'
          rw [h']
          rfl
    clear h0
    rcases h1 with h | h | ⟨h, h2, h3, h4⟩
    all_goals
      go_enter Tryd.func22, Tryd.ntmps22
      go_wp2
      go_ret2
      exact ⟨by rw [HF.out]; rfl, rfl⟩
  · exact natural_loop s w (by omega) (fun h => h0 (.inr (.inr h)))
set_option maxHeartbeats 1600000 in
set_option maxRecDepth 100000 in
/-- The document's fits. -/
theorem fits_ref (s : ByteArray) (c : UInt8) (w : World) (hc : c = 109 ∨ c = 105 ∨ c = 110 ∨ c = 78 ∨ c = 67) (hs : s.size ≤ 281474976710656) :
    Calls Tryd.prog 18 #[.string s, .int .u8 (c.toNat : Int)] w fun e w' => e = .returned (.bool (fits c s.data.toList)) ∧ w = w' := by
  have N1 := Lib.hid (natural_any s w hs)
  have L1 := Lib.hid (fun a => capitals_any s a w (by omega))
  clear hs
  unfold natO at N1
  cases hn : natR s.data.toList with
  | none =>
    have HI := Lib.hid (fun a b => numIn_none (least := a) (most := b) hn)
    rw [hn] at N1
    clear hn
    simp only at N1
    rcases hc with rfl | rfl | rfl | rfl | rfl
    · have HF : Hid (fits 109 s.data.toList = false) := Lib.hid (HI.out 1 4294967295)
      go_enter Tryd.func18, Tryd.ntmps18
      go_wp2_with fail
      refine N1.out.mono ?_
      rintro e w1 ⟨rfl, rfl⟩
      go_wp2
      go_ret
      exact ⟨by rw [HF.out]; rfl, rfl⟩
    · have HF : Hid (fits 105 s.data.toList = false) := Lib.hid (HI.out 0 999999999)
      go_enter Tryd.func18, Tryd.ntmps18
      go_wp2_with fail
      refine N1.out.mono ?_
      rintro e w1 ⟨rfl, rfl⟩
      go_wp2
      go_ret
      exact ⟨by rw [HF.out]; rfl, rfl⟩
    · have HF : Hid (fits 110 s.data.toList = false) := Lib.hid (HI.out 0 18446744073709551615)
      go_enter Tryd.func18, Tryd.ntmps18
      go_wp2_with fail
      refine N1.out.mono ?_
      rintro e w1 ⟨rfl, rfl⟩
      go_wp2
      go_ret
      exact ⟨by rw [HF.out]; rfl, rfl⟩
    · have HF : Hid (fits 78 s.data.toList = caps s.data.toList 8) := Lib.hid rfl
      go_enter Tryd.func18, Tryd.ntmps18
      go_wp2_with fail
      refine N1.out.mono ?_
      rintro e w1 ⟨rfl, rfl⟩
      go_wp2_with fail
      refine (L1.out 8).mono ?_
      rintro e w1 ⟨rfl, rfl⟩
      go_wp2
      go_ret
      exact ⟨by rw [HF.out]; rfl, rfl⟩
    · have HF : Hid (fits 67 s.data.toList = caps s.data.toList 16) := Lib.hid rfl
      go_enter Tryd.func18, Tryd.ntmps18
      go_wp2_with fail
      refine N1.out.mono ?_
      rintro e w1 ⟨rfl, rfl⟩
      go_wp2_with fail
      refine (L1.out 16).mono ?_
      rintro e w1 ⟨rfl, rfl⟩
      go_wp2
      go_ret
      exact ⟨by rw [HF.out]; rfl, rfl⟩
  | some n =>
    have HI := Lib.hid (fun a b => numIn_some (least := a) (most := b) hn)
    have hu : n < 18446744073709551616 := by
      unfold natR at hn
      split at hn
      · cases hn
      · cases hq : Lib.parseUint10 0 s.data.toList with
        | ok v =>
          rw [hq] at hn
          simp only [okNat, Option.some.injEq] at hn
          subst hn
          exact Lib.parseUint10_lt _ 0 _ (by omega) hq
        | _ => rw [hq] at hn; cases hn
    rw [hn] at N1
    clear hn
    simp only at N1
    rcases hc with rfl | rfl | rfl | rfl | rfl
    · have HF : Hid (fits 109 s.data.toList = decide (1 ≤ n ∧ n ≤ 4294967295)) := Lib.hid (HI.out 1 4294967295)
      by_cases h1 : 1 ≤ n
      · have HG : Hid (fits 109 s.data.toList = decide ((n : Int) ≤ 4294967295)) := Lib.hid (HF.out.trans (decide_eq_decide.2 (by omega)))
        clear HF
        go_enter Tryd.func18, Tryd.ntmps18
        go_wp2_with fail
        refine N1.out.mono ?_
        rintro e w1 ⟨rfl, rfl⟩
        go_wp2
        go_ret
        exact ⟨by rw [HG.out]; rfl, rfl⟩
      · have HG : Hid (fits 109 s.data.toList = false) := Lib.hid (HF.out.trans (by simp [h1]))
        clear HF
        go_enter Tryd.func18, Tryd.ntmps18
        go_wp2_with fail
        refine N1.out.mono ?_
        rintro e w1 ⟨rfl, rfl⟩
        go_wp2
        go_ret
        exact ⟨by rw [HG.out]; rfl, rfl⟩
    · have HF : Hid (fits 105 s.data.toList = decide ((n : Int) ≤ 999999999)) := Lib.hid ((HI.out 0 999999999).trans (decide_eq_decide.2 (by omega)))
      go_enter Tryd.func18, Tryd.ntmps18
      go_wp2_with fail
      refine N1.out.mono ?_
      rintro e w1 ⟨rfl, rfl⟩
      go_wp2
      go_ret
      exact ⟨by rw [HF.out]; rfl, rfl⟩
    · have HF : Hid (fits 110 s.data.toList = true) := Lib.hid ((HI.out 0 18446744073709551615).trans (by simp; omega))
      go_enter Tryd.func18, Tryd.ntmps18
      go_wp2_with fail
      refine N1.out.mono ?_
      rintro e w1 ⟨rfl, rfl⟩
      go_wp2
      go_ret
      exact ⟨by rw [HF.out]; rfl, rfl⟩
    · have HF : Hid (fits 78 s.data.toList = caps s.data.toList 8) := Lib.hid rfl
      go_enter Tryd.func18, Tryd.ntmps18
      go_wp2_with fail
      refine N1.out.mono ?_
      rintro e w1 ⟨rfl, rfl⟩
      go_wp2_with fail
      refine (L1.out 8).mono ?_
      rintro e w1 ⟨rfl, rfl⟩
      go_wp2
      go_ret
      exact ⟨by rw [HF.out]; rfl, rfl⟩
    · have HF : Hid (fits 67 s.data.toList = caps s.data.toList 16) := Lib.hid rfl
      go_enter Tryd.func18, Tryd.ntmps18
      go_wp2_with fail
      refine N1.out.mono ?_
      rintro e w1 ⟨rfl, rfl⟩
      go_wp2_with fail
      refine (L1.out 16).mono ?_
      rintro e w1 ⟨rfl, rfl⟩
      go_wp2
      go_ret
      exact ⟨by rw [HF.out]; rfl, rfl⟩
end Pa
end Go.Proofs.YtnhedhmffgaohaaDoor

/- number (the program's), Natural (the document's), and both fits: a walk each. -/
import Derived.Test.YtnhedhmffgaohaaDoorPaN
namespace Go.Proofs.YtnhedhmffgaohaaDoor
open Go.RowKit
namespace Pa
theorem only_bytesWorld (w : World) (e : TypeId) (s : ByteArray) : Only Nil w (Lib.bytesWorld w e s) := Only.of_below (Lib.bytesWorld_below w e s) _
theorem numIn_some {l : Bs} {n least most : Nat} (h : natR l = some n) : numIn l least most = decide (least ≤ n ∧ n ≤ most) := by unfold numIn; rw [h]
theorem numIn_none {l : Bs} {least most : Nat} (h : natR l = none) : numIn l least most = false := by unfold numIn; rw [h]
theorem ba_eq {s : ByteArray} {l : Bs} (h : l = s.data.toList) : (⟨l.toArray⟩ : ByteArray) = s := by subst h; cases s; simp
theorem bne_of {s t : ByteArray} (h : ¬ t.data.toList = s.data.toList) : (t.toList == s.toList) = false := by
  rw [ByteArray.toList_eq, ByteArray.toList_eq]
  exact beq_eq_false_iff_ne.2 h
theorem beq_of {s t : ByteArray} (h : t.data.toList = s.data.toList) : (t.toList == s.toList) = true := by
  rw [ByteArray.toList_eq, ByteArray.toList_eq]
  exact beq_iff_eq.2 h
theorem ba_ne {s : ByteArray} {l : Bs} (h : ¬ l = s.data.toList) : ((⟨l.toArray⟩ : ByteArray).toList == s.toList) = false := bne_of (by simpa using h)
set_option maxHeartbeats 800000 in
set_option maxRecDepth 100000 in
theorem number_any (s : ByteArray) (least most : Nat) (w : World) (hs : s.size ≤ 281474976710656) (hv : Vars w) :
    Calls Tryd.prog 20 #[.string s, .int .u64 (least : Int), .int .u64 (most : Int)] w fun e w' => (∃ n : Int, e = .returned (.tuple #[.int .u64 n, .bool (numIn s.data.toList least most)])) ∧ Only Nil w w' := by
  have HV := Lib.hid hv
  have hq : natP s.data.toList = natR s.data.toList := nat_eq _
  unfold natP at hq
  cases hp : Lib.parseUintB 64 s.data.toList
  case ok u =>
    have hu : u < 18446744073709551616 := by have := Lib.parseUintB_le hp; omega
    have C := Lib.hid (fun W => Tryd.strconv_ParseUint_10_at64_ok s (by omega) u hp W)
    have F := Lib.hid (fun W (ho : Only Nil w W) => fmt_u u hu W (hv.only ho).tab)
    rw [hp] at hq
    simp only [okNat] at hq
    clear hv
    by_cases hd : Lib.decDigits u = s.data.toList
    · rw [if_pos hd] at hq
      have HN := Lib.hid (fun a b => numIn_some (least := a) (most := b) hq.symm)
      have F1 : Hid (∀ W, Only Nil w W → Calls Tryd.prog 29 #[.int .u64 u, .int .i64 10] W fun e w' => e = .returned (.string s) ∧ Only Nil W w') := Lib.hid (fun W ho => by
        have := F.out W ho
        rw [ba_eq hd] at this
        exact this)
      clear F hq hd hp
      go_enter Tryd.func20, Tryd.ntmps20
      go_wp2_with fail
      refine (C.out _).mono ?_
      rintro e w1 ⟨rfl, ho⟩
      replace ho : Hid (Only Nil w w1) := Lib.hid (by
        rcases ho with rfl | rfl
        · exact Only.refl _ _
        · exact only_bytesWorld _ _ _)
      go_wp2_with fail
      refine (F1.out _ ho.out).mono ?_
      rintro e w2 ⟨rfl, ho2⟩
      by_cases h1 : least ≤ u
      · have e1 : decide (least ≤ u ∧ u ≤ most) = decide (u ≤ most) := by simp [h1]
        have HN1 : Hid (numIn s.data.toList least most = decide (u ≤ most)) := Lib.hid ((HN.out least most).trans e1)
        have h2 : (least : Int) ≤ (u : Int) := by omega
        clear h1 e1 HN
        go_wp2
        go_ret2
        exact ⟨⟨_, by rw [HN1.out]; rfl⟩, ho.out.trans (S := Nil) ho2 (fun _ _ h => h)⟩
      · have HN1 : Hid (numIn s.data.toList least most = false) := Lib.hid ((HN.out least most).trans (by simp [h1]))
        have h2 : (u : Int) < (least : Int) := by omega
        clear h1 HN
        go_wp2
        go_ret2
        exact ⟨⟨_, by rw [HN1.out]; rfl⟩, ho.out.trans (S := Nil) ho2 (fun _ _ h => h)⟩
    · rw [if_neg hd] at hq
      have HN := Lib.hid (numIn_none (least := least) (most := most) hq.symm)
      have hne := ba_ne hd
      generalize (⟨(Lib.decDigits u).toArray⟩ : ByteArray) = t at *
      clear hq hd hp
      go_enter Tryd.func20, Tryd.ntmps20
      go_wp2_with fail
      refine (C.out _).mono ?_
      rintro e w1 ⟨rfl, ho⟩
      replace ho : Hid (Only Nil w w1) := Lib.hid (by
        rcases ho with rfl | rfl
        · exact Only.refl _ _
        · exact only_bytesWorld _ _ _)
      go_wp2_with fail
      refine (F.out _ ho.out).mono ?_
      rintro e w2 ⟨rfl, ho2⟩
      go_wp2
      go_ret2
      exact ⟨⟨_, by rw [HN.out]; rfl⟩, ho.out.trans (S := Nil) ho2 (fun _ _ h => h)⟩
  case range =>
    obtain ⟨tp, p, hvar⟩ := hv.ra
    have C := Lib.hid (Tryd.strconv_ParseUint_10_at64_range_var s hs hp tp p w hvar)
    rw [hp] at hq
    simp only [okNat] at hq
    have HN := Lib.hid (numIn_none (least := least) (most := most) hq.symm)
    clear hv hvar hq hp
    go_enter Tryd.func20, Tryd.ntmps20
    go_wp2_with fail
    refine C.out.mono ?_
    rintro e w1 ⟨N, rfl, _, _, ho⟩
    have HO := Lib.hid (Only.of_below ho Nil)
    clear ho
    go_wp2
    go_ret2
    exact ⟨⟨_, by rw [HN.out]; rfl⟩, HO.out⟩
  · obtain ⟨tp, p, hvar⟩ := hv.sy
    have C : Hid (Calls Tryd.prog 28 #[.string s, .int .i64 10, .int .i64 64] w fun e w' => ∃ N, e = .returned (.tuple #[.int .u64 0, .iface 76 (.pointer (some ⟨N, 0, none⟩))]) ∧ w.heap.size ≤ N ∧ w'.heap[N]? = some (.cells #[.string ⟨#[80, 97, 114, 115, 101, 85, 105, 110, 116]⟩, .string s, .iface tp p] 86 (0, 0)) ∧ Below w.heap.size w w') := Lib.hid (Any.strconv_ParseUint_10_at64_syntax_var Tryd.laysPu14 s hs hp tp p w hvar)
    rw [hp] at hq
    simp only [okNat] at hq
    have HN := Lib.hid (numIn_none (least := least) (most := most) hq.symm)
    clear hv hvar hq hp
    go_enter Tryd.func20, Tryd.ntmps20
    go_wp2_with fail
    refine C.out.mono ?_
    rintro e w1 ⟨N, rfl, _, _, ho⟩
    have HO := Lib.hid (Only.of_below ho Nil)
    clear ho
    go_wp2
    go_ret2
    exact ⟨⟨_, by rw [HN.out]; rfl⟩, HO.out⟩
set_option maxHeartbeats 800000 in
set_option maxRecDepth 100000 in
/-- The program's fits, at a kind that a command has. -/
theorem fits_any (s : ByteArray) (c : UInt8) (w : World) (hc : c = 109 ∨ c = 105 ∨ c = 110 ∨ c = 78 ∨ c = 67) (hs : s.size ≤ 281474976710656) (hv : Vars w) :
    Calls Tryd.prog 16 #[.int .u8 (c.toNat : Int), .string s] w fun e w' => e = .returned (.bool (fits c s.data.toList)) ∧ Only Nil w w' := by
  have N1 := Lib.hid (fun a b => number_any s a b w hs hv)
  have L1 := Lib.hid (fun a => letters_any s a w (by omega))
  clear hv
  rcases hc with rfl | rfl | rfl | rfl | rfl
  · have HF : Hid (fits 109 s.data.toList = numIn s.data.toList 1 4294967295) := Lib.hid rfl
    go_enter Tryd.func16, Tryd.ntmps16
    go_wp2_with fail
    refine (N1.out 1 4294967295).mono ?_
    rintro e w1 ⟨⟨n, rfl⟩, ho⟩
    go_wp2
    go_ret
    exact ⟨by rw [HF.out]; rfl, ho⟩
  · have HF : Hid (fits 105 s.data.toList = numIn s.data.toList 0 999999999) := Lib.hid rfl
    go_enter Tryd.func16, Tryd.ntmps16
    go_wp2_with fail
    refine (N1.out 0 999999999).mono ?_
    rintro e w1 ⟨⟨n, rfl⟩, ho⟩
    go_wp2
    go_ret
    exact ⟨by rw [HF.out]; rfl, ho⟩
  · have HF : Hid (fits 110 s.data.toList = numIn s.data.toList 0 18446744073709551615) := Lib.hid rfl
    go_enter Tryd.func16, Tryd.ntmps16
    go_wp2_with fail
    refine (N1.out 0 18446744073709551615).mono ?_
    rintro e w1 ⟨⟨n, rfl⟩, ho⟩
    go_wp2
    go_ret
    exact ⟨by rw [HF.out]; rfl, ho⟩
  · have HF : Hid (fits 78 s.data.toList = caps s.data.toList 8) := Lib.hid rfl
    go_enter Tryd.func16, Tryd.ntmps16
    go_wp2_with fail
    refine (L1.out 8).mono ?_
    rintro e w1 ⟨rfl, rfl⟩
    go_wp2
    go_ret
    exact ⟨by rw [HF.out]; rfl, Only.refl _ _⟩
  · have HF : Hid (fits 67 s.data.toList = caps s.data.toList 16) := Lib.hid rfl
    go_enter Tryd.func16, Tryd.ntmps16
    go_wp2_with fail
    refine (L1.out 16).mono ?_
    rintro e w1 ⟨rfl, rfl⟩
    go_wp2
    go_ret
    exact ⟨by rw [HF.out]; rfl, Only.refl _ _⟩
end Pa
end Go.Proofs.YtnhedhmffgaohaaDoor

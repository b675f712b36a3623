/- The check sum of bytes: the program's and the document's. -/
import Derived.Test.YtnhedhmffgaohaaGreatBase
import Derived.Test.YtnhedhmffgaohaaGreatProg
import Derived.WalkKit
import Derived.Laws.BitsAll
import Derived.Deep.LoopGhost
import Derived.Deep.CutRange
import Derived.Deep.CutBlock
import Derived.Deep.RegionHeld3
import Derived.Deep.RegionLaw
namespace Go.Proofs.YtnhedhmffgaohaaGreat
open Go.RowKit
namespace Hs

def step (c : Nat) : Nat := if c % 2 = 1 then (c / 2) ^^^ 3988292384 else c / 2
def steps : Nat → Nat → Nat
  | 0, c => c
  | n + 1, c => step (steps n c)
def crc (F : Nat → Nat) : Nat → Nat
  | 0 => 4294967295
  | n + 1 => steps 8 (crc F n ^^^ F n)
def sum (F : Nat → Nat) (n : Nat) : Nat := crc F n ^^^ 4294967295
theorem step_lt {c : Nat} (h : c < 4294967296) : step c < 4294967296 := by
  unfold step
  split
  · exact Nat.xor_lt_two_pow (n := 32) (by omega) (by omega)
  · omega
theorem steps_lt {c : Nat} (h : c < 4294967296) (n : Nat) : steps n c < 4294967296 := by
  induction n with
  | zero => exact h
  | succ n ih => exact step_lt ih
theorem crc_lt {F : Nat → Nat} (hF : ∀ k, F k < 256) (n : Nat) : crc F n < 4294967296 := by
  induction n with
  | zero => show 4294967295 < _; omega
  | succ n ih => exact steps_lt (Nat.xor_lt_two_pow (n := 32) ih (by have := hF n; omega)) 8
theorem crc_congr {F G : Nat → Nat} {n : Nat} (h : ∀ k, k < n → F k = G k) : crc F n = crc G n := by
  induction n with
  | zero => rfl
  | succ n ih =>
    unfold crc
    rw [ih (fun k hk => h k (by omega)), h n (by omega)]
theorem sum_congr {F G : Nat → Nat} {n : Nat} (h : ∀ k, k < n → F k = G k) : sum F n = sum G n := by unfold sum; rw [crc_congr h]

/-- The cells of bytes that a slice shows. -/
def Shows (w : World) (b off n : Nat) (F : Nat → Nat) : Prop := ∀ k, k < n → w.cell? ⟨b, off + k, none⟩ = some (.int .u8 (F k : Int))

set_option maxHeartbeats 1600000 in
set_option maxRecDepth 100000 in
theorem sum_prog (b off n cap : Nat) (F : Nat → Nat) (w : World) (hF : ∀ k, F k < 256) (hb : b < w.heap.size) (hn : n ≤ 9223372036854775807) (hs : Shows w b off n F) :
    Calls Tryz.prog 122 #[.slice (some ⟨b, off, none⟩) n cap] w fun e w' => e = .returned (.int .u32 (sum F n : Int)) ∧ w' = w := by
  have HS := Lib.hid hs
  clear hs
  go_enter Tryz.func122, Tryz.ntmps122
  go_wp2
  go_loopg [3, 5, 8] n (fun g v3 v5 v8 wr => ∃ k : Nat, k ≤ n ∧ g = n - k ∧ v3 = .int .u32 (crc F k : Int) ∧ v8 = .int .i64 k ∧ wr = w)
  case atStart => exact ⟨0, by omega, by omega, rfl, rfl, rfl⟩
  case round =>
    obtain ⟨k, hk, hg, rfl, rfl, rfl⟩ := hrel
    by_cases hlt : k < n
    · have hkI : (k : Int) < (n : Int) := by omega
      have hc := HS.out k hlt
      have hx := u32_xor_nat (crc F k) (F k) (crc_lt hF k) (by have := hF k; omega)
      have hF8 := hF k
      have hw : IntKind.u32.wrap ((F k : Nat) : Int) = ((F k : Nat) : Int) := by rw [IntKind.wrap_u32']; omega
      go_wp2
      go_loopg [3, 16] 8 (fun g v3 v16 wi => ∃ j : Nat, j ≤ 8 ∧ g = 8 - j ∧ v3 = .int .u32 (steps j (crc F k ^^^ F k) : Int) ∧ v16 = .int .i64 j ∧ wi = wr)
      case atStart => exact ⟨0, by omega, by omega, by simp [steps], rfl, rfl⟩
      case round =>
        obtain ⟨j, hj, hgj, rfl, rfl, rfl⟩ := hrel
        have hS := steps_lt (Nat.xor_lt_two_pow (n := 32) (crc_lt hF k) (by have := hF k; omega : F k < 2 ^ 32)) j
        by_cases hj8 : j < 8
        · have hjI : (j : Int) < 8 := by omega
          generalize hc0 : steps j (crc F k ^^^ F k) = c at *
          have ha := u32_and_nat c 1 hS (by omega)
          have hone : c &&& 1 = c % 2 := Nat.and_one_is_mod c
          rw [hone] at ha
          have hd := u32_xor_nat (c / 2) 3988292384 (by omega) (by omega)
          have hst : steps (j + 1) (crc F k ^^^ F k) = step c := by show step (steps j _) = _; rw [hc0]
          have ha' : bits BinOp.and IntKind.u32 (c : Int) 1 = ((c % 2 : Nat) : Int) := by simpa using ha
          have hd' : bits BinOp.xor IntKind.u32 ((c : Int) / 2) 3988292384 = ((c / 2 ^^^ 3988292384 : Nat) : Int) := by simpa using hd
          clear ha hd hone hx
          by_cases hp : c % 2 = 1
          · have hq : (bits BinOp.and IntKind.u32 (c : Int) 1 == 1) = true := by rw [ha', hp]; rfl
            have hst' : step c = c / 2 ^^^ 3988292384 := by unfold step; rw [if_pos hp]
            go_wp2
            go_roundg (8 - (j + 1))
            case measure => omega
            case rel => exact ⟨j + 1, by omega, rfl, by rw [hst, hst'], by go_num, rfl⟩
          · have hq : (bits BinOp.and IntKind.u32 (c : Int) 1 == 1) = false := by
              rw [ha', show c % 2 = 0 by omega]; rfl
            have hst' : step c = c / 2 := by unfold step; rw [if_neg hp]
            go_wp2
            go_roundg (8 - (j + 1))
            case measure => omega
            case rel => exact ⟨j + 1, by omega, rfl, by rw [hst, hst']; simp, by go_num, rfl⟩
        · have hjI : ¬ ((j : Int) < 8) := by omega
          have he : j = 8 := by omega
          subst he
          go_wp2
          go_roundg (n - (k + 1))
          case measure => omega
          case rel => exact ⟨k + 1, by omega, rfl, rfl, by go_num, rfl⟩
    · have hkI : ¬ ((k : Int) < (n : Int)) := by omega
      have he : k = n := by omega
      subst he
      go_wp2
      have hc := crc_lt hF k
      have hx := u32_xor_nat 4294967295 (crc F k) (by omega) hc
      rw [Nat.xor_comm] at hx
      have hx' : bits BinOp.xor IntKind.u32 IntKind.u32.max (crc F k : Int) = (sum F k : Int) := hx
      refine bodyPost_ret (v := .int .u32 (bits BinOp.xor IntKind.u32 IntKind.u32.max (crc F k : Int))) (by simp [results, Tryz.results122, go_sem]) rfl ?_
      exact ⟨by rw [hx'], rfl⟩
set_option maxHeartbeats 1600000 in
set_option maxRecDepth 100000 in
theorem sum_ref (b off n cap : Nat) (F : Nat → Nat) (w : World) (hF : ∀ k, F k < 256) (hb : b < w.heap.size) (hn : n ≤ 9223372036854775807) (hs : Shows w b off n F) :
    Calls Tryz.prog 76 #[.slice (some ⟨b, off, none⟩) n cap] w fun e w' => e = .returned (.int .u32 (sum F n : Int)) ∧ w' = w := by
  have HS := Lib.hid hs
  clear hs
  go_enter Tryz.func76, Tryz.ntmps76
  go_wp2
  go_loopg [3, 4, 5, 6] n (fun g v3 v4 v5 v6 wr => ∃ k : Nat, k ≤ n ∧ g = n - k ∧ v3 = .int .u32 (crc F k : Int) ∧ v4 = .int .i64 k ∧ wr = w)
  case atStart => exact ⟨0, by omega, by omega, rfl, rfl, rfl⟩
  case round =>
    obtain ⟨k, hk, hg, rfl, rfl, rfl⟩ := hrel
    by_cases hlt : k < n
    · have hkI : (k : Int) < (n : Int) := by omega
      have hc := HS.out k hlt
      have hx := u32_xor_nat (crc F k) (F k) (crc_lt hF k) (by have := hF k; omega)
      have hF8 := hF k
      have hw : IntKind.u32.wrap ((F k : Nat) : Int) = ((F k : Nat) : Int) := by rw [IntKind.wrap_u32']; omega
      go_wp2
      go_loopg [3, 5, 6] 8 (fun g v3 v5 v6 wi => ∃ j : Nat, j ≤ 8 ∧ g = 8 - j ∧ v3 = .int .u32 (steps j (crc F k ^^^ F k) : Int) ∧ v5 = .int .i64 j ∧ wi = wr)
      case atStart => exact ⟨0, by omega, by omega, by simp [steps], rfl, rfl⟩
      case round =>
        obtain ⟨j, hj, hgj, rfl, rfl, rfl⟩ := hrel
        have hS := steps_lt (Nat.xor_lt_two_pow (n := 32) (crc_lt hF k) (by have := hF k; omega : F k < 2 ^ 32)) j
        by_cases hj8 : j < 8
        · have hjI : (j : Int) < 8 := by omega
          generalize hc0 : steps j (crc F k ^^^ F k) = c at *
          have hd := u32_xor_nat (c / 2) 3988292384 (by omega) (by omega)
          have hst : steps (j + 1) (crc F k ^^^ F k) = step c := by show step (steps j _) = _; rw [hc0]
          have hd' : bits BinOp.xor IntKind.u32 ((c : Int) / 2) 3988292384 = ((c / 2 ^^^ 3988292384 : Nat) : Int) := by simpa using hd
          have htm : Int.tmod (c : Int) 2 = ((c % 2 : Nat) : Int) := by rw [Int.tmod_eq_emod_of_nonneg (by omega)]; omega
          have htd : Int.tdiv (c : Int) 2 = ((c / 2 : Nat) : Int) := by rw [Int.tdiv_eq_ediv_of_nonneg (by omega)]; omega
          clear hd hx
          by_cases hp : c % 2 = 1
          · have hst' : step c = c / 2 ^^^ 3988292384 := by unfold step; rw [if_pos hp]
            have hm : Int.tmod (c : Int) 2 = 1 := by omega
            clear htm
            go_wp2
            go_roundg (8 - (j + 1))
            case measure => omega
            case rel => exact ⟨j + 1, by omega, rfl, by rw [hst, hst'], by go_num, rfl⟩
          · have hm : Int.tmod (c : Int) 2 = 0 := by omega
            clear htm
            have hst' : step c = c / 2 := by unfold step; rw [if_neg hp]
            go_wp2
            go_roundg (8 - (j + 1))
            case measure => omega
            case rel => exact ⟨j + 1, by omega, rfl, by rw [hst, hst']; simp, by go_num, rfl⟩
        · have hjI : ¬ ((j : Int) < 8) := by omega
          have he : j = 8 := by omega
          subst he
          go_wp2
          go_roundg (n - (k + 1))
          case measure => omega
          case rel => exact ⟨k + 1, by omega, rfl, rfl, by go_num, rfl⟩
    · have hkI : ¬ ((k : Int) < (n : Int)) := by omega
      have he : k = n := by omega
      subst he
      have hc := crc_lt hF k
      have hx := u32_xor_nat (crc F k) 4294967295 hc (by omega)
      have hx' : bits BinOp.xor IntKind.u32 (crc F k : Int) 4294967295 = (sum F k : Int) := hx
      clear hx
      go_wp2
      go_ret
      exact ⟨rfl, rfl⟩
end Hs
end Go.Proofs.YtnhedhmffgaohaaGreat

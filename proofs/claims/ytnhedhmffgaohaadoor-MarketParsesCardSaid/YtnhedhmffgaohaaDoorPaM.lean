/- Scripts, plain: numbers, capitals, what fits, words, lines, commands. No program in sight. -/
import Derived.WalkKit
import Derived.Lib.ItoaNum
import Derived.Lib.ParseIntBCases
namespace Go.Proofs.YtnhedhmffgaohaaDoor
namespace Pa
abbrev Bs := List UInt8
def okNat : Lib.NumEnd Nat → Option Nat
  | .ok n => some n
  | _ => none
/-- A number as the document reads it. -/
def natR (l : Bs) : Option Nat := if l.length < 1 ∨ 20 < l.length ∨ (1 < l.length ∧ l.head? = some 48) then none else okNat (Lib.parseUint10 0 l)
/-- A number as the program reads it. -/
def natP (l : Bs) : Option Nat := match okNat (Lib.parseUintB 64 l) with
  | some n => if Lib.decDigits n = l then some n else none
  | none => none
theorem parse_snoc : ∀ (l : Bs) (c : UInt8) (a : Nat), okNat (Lib.parseUint10 a (l ++ [c])) = (okNat (Lib.parseUint10 a l)).bind fun v => okNat (Lib.parseUint10 v [c])
  | [], c, a => by simp [Lib.parseUint10, okNat]
  | d :: l, c, a => by
    simp only [List.cons_append, Lib.parseUint10]
    split
    · split
      · rfl
      · split
        · rfl
        · exact parse_snoc l c _
    · rfl
theorem parse_one {v u : Nat} {c : UInt8} (h : okNat (Lib.parseUint10 v [c]) = some u) : 48 ≤ c.toNat ∧ c.toNat ≤ 57 ∧ u = v * 10 + (c.toNat - 48) := by
  simp only [Lib.parseUint10] at h
  split at h
  · rename_i hc
    split at h
    · cases h
    · split at h
      · cases h
      · simp only [okNat, Option.some.injEq] at h
        exact ⟨hc.1, hc.2, h.symm⟩
  · cases h
/-- What begins with no 0 is its number's numeral. -/
theorem digits_of : ∀ (n : Nat) (l : Bs) (u : Nat), l.length = n + 1 → okNat (Lib.parseUint10 0 l) = some u → l.head? ≠ some 48 → Lib.decDigits u = l ∧ 1 ≤ u := by
  intro n
  induction n with
  | zero =>
    intro l u hl h hh
    obtain ⟨c, rfl⟩ := List.length_eq_one_iff.1 hl
    obtain ⟨h1, h2, h3⟩ := parse_one h
    have hc : c.toNat ≠ 48 := fun e => hh (by simp [show c = 48 from UInt8.toNat_inj.1 e])
    have hu : u < 10 := by omega
    refine ⟨?_, by omega⟩
    rw [Lib.decDigits_one hu, h3]
    congr 1
    apply UInt8.toNat_inj.1
    simp
    omega
  | succ n ih =>
    intro l u hl h hh
    have hne : l ≠ [] := by rintro rfl; simp at hl
    obtain ⟨l', c, rfl⟩ : ∃ l' c, l = l' ++ [c] := ⟨l.dropLast, l.getLast hne, (List.dropLast_concat_getLast hne).symm⟩
    rw [parse_snoc] at h
    have hl' : l'.length = n + 1 := by simpa using hl
    obtain ⟨d, r, rfl⟩ : ∃ d r, l' = d :: r := by cases l' with
      | nil => simp at hl'
      | cons d r => exact ⟨d, r, rfl⟩
    cases hv : okNat (Lib.parseUint10 0 (d :: r)) with
    | none => rw [hv] at h; cases h
    | some v =>
      rw [hv] at h
      obtain ⟨h1, h2⟩ := ih (d :: r) v hl' hv (by simpa using hh)
      obtain ⟨h3, h4, h5⟩ := parse_one h
      refine ⟨?_, by omega⟩
      rw [Lib.decDigits, dif_neg (by omega)]
      have e1 : u / 10 = v := by omega
      have e2 : u % 10 = c.toNat - 48 := by omega
      rw [e1, h1, e2]
      congr 2
      apply UInt8.toNat_inj.1
      simp
      omega
/-- A numeral of more than one digit begins with no 0. -/
theorem head_digits (u : Nat) : (Lib.decDigits u).head? = some 48 → u = 0 := by
  induction u using Nat.strongRecOn with
  | _ u ih =>
    intro h
    rw [Lib.decDigits] at h
    split at h
    · rename_i hu
      simp only [List.head?_cons, Option.some.injEq] at h
      have := congrArg UInt8.toNat h
      simp at this
      omega
    · rename_i hu
      have hne : Lib.decDigits (u / 10) ≠ [] := fun e => by
        have := Lib.decDigits_length (u / 10)
        rw [e] at this
        rw [Lib.nDigits] at this
        split at this <;> simp at this
      rw [show (Lib.decDigits (u / 10) ++ [UInt8.ofNat (48 + u % 10)]).head? = (Lib.decDigits (u / 10)).head? by
        cases hd : Lib.decDigits (u / 10) with
        | nil => exact absurd hd hne
        | cons a b => rfl] at h
      have := ih (u / 10) (by omega) h
      omega
theorem nat_eq (l : Bs) : natP l = natR l := by
  unfold natP natR
  rw [Lib.parseUintB_64]
  unfold Lib.parseMag
  by_cases h0 : l = []
  · subst h0
    rfl
  rw [if_neg h0]
  have hlen : 1 ≤ l.length := List.length_pos_iff.2 h0
  cases hp : okNat (Lib.parseUint10 0 l) with
  | none => simp
  | some u =>
    have hlt : u < 18446744073709551616 := by
      cases hq : Lib.parseUint10 0 l with
      | ok v =>
        rw [hq] at hp
        simp only [okNat, Option.some.injEq] at hp
        subst hp
        exact Lib.parseUint10_lt l 0 _ (by omega) hq
      | _ => rw [hq] at hp; cases hp
    by_cases h1 : l.head? = some 48
    · by_cases h2 : 1 < l.length
      · rw [if_pos (.inr (.inr ⟨h2, h1⟩))]
        simp only
        rw [if_neg]
        intro e
        have := head_digits u (by rw [e]; exact h1)
        subst this
        have h3 := congrArg List.length e
        rw [Lib.decDigits_one (by omega)] at h3
        simp at h3
        omega
      · rw [if_neg (by omega)]
        simp only
        obtain ⟨c, rfl⟩ := List.length_eq_one_iff.1 (show l.length = 1 by omega)
        simp only [List.head?_cons, Option.some.injEq] at h1
        subst h1
        obtain ⟨_, _, h3⟩ := parse_one hp
        have : u = 0 := by simp at h3; omega
        subst this
        rw [if_pos (by rw [Lib.decDigits_one (by omega)]; rfl)]
    · obtain ⟨h2, _⟩ := digits_of (l.length - 1) l u (by omega) hp h1
      have h3 : l.length ≤ 20 := by
        rw [← h2, Lib.decDigits_length]
        by_cases hu : 1 ≤ u
        · have := Lib.numDigits_eq u hu hlt
          split at this <;> omega
        · have : u = 0 := by omega
          subst this
          rw [Lib.nDigits_small (by omega)]
          omega
      rw [if_neg (by rintro (h | h | ⟨_, h⟩) <;> first | omega | exact h1 h)]
      simp only [h2, if_true]
def caps (l : Bs) (most : Nat) : Bool := l.all (fun b => decide (65 ≤ b.toNat ∧ b.toNat ≤ 90)) && decide (1 ≤ l.length ∧ l.length ≤ most)
def numIn (l : Bs) (least most : Nat) : Bool := match natR l with
  | some n => decide (least ≤ n ∧ n ≤ most)
  | none => false
/-- Whether a word is of a kind. -/
def fits (k : UInt8) (l : Bs) : Bool :=
  if k = 109 then numIn l 1 4294967295
  else if k = 105 then numIn l 0 999999999
  else if k = 110 then numIn l 0 18446744073709551615
  else if k = 78 then caps l 8
  else caps l 16
end Pa
end Go.Proofs.YtnhedhmffgaohaaDoor

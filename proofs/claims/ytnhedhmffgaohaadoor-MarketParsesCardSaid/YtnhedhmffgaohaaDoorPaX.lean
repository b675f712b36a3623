/- Lines, plain; a whole script, plain. -/
import Derived.Test.YtnhedhmffgaohaaDoorPaW
import Derived.Lib.CutLaws
namespace Go.Proofs.YtnhedhmffgaohaaDoor
open Go.RowKit
namespace Pa
/-- Where the line ends that i lies in. -/
def eol (s : ByteArray) (i : Nat) : Nat := if h : i < s.size then (if s[i].toNat = 10 then i else eol s (i + 1)) else i
termination_by s.size - i
theorem eol_ge (s : ByteArray) (i : Nat) : i ≤ eol s i := by
  fun_induction eol s i with
  | case1 i h h' => exact Nat.le_refl _
  | case2 i h h' ih => omega
  | case3 i h => exact Nat.le_refl _
theorem eol_le (s : ByteArray) (i : Nat) (hi : i ≤ s.size) : eol s i ≤ s.size := by
  fun_induction eol s i with
  | case1 i h h' => exact hi
  | case2 i h h' ih => exact ih (by omega)
  | case3 i h => exact hi
theorem eol_nl {s : ByteArray} {i : Nat} (h : i < s.size) (hs : s[i].toNat = 10) : eol s i = i := by rw [eol, dif_pos h, if_pos hs]
theorem eol_no {s : ByteArray} {i : Nat} (h : i < s.size) (hs : ¬ s[i].toNat = 10) : eol s i = eol s (i + 1) := by rw [eol, dif_pos h, if_neg hs]
theorem eol_end {s : ByteArray} {i : Nat} (h : ¬ i < s.size) : eol s i = i := by rw [eol, dif_neg h]
/-- The lines from i on. -/
def linesAt (s : ByteArray) (i : Nat) : List ByteArray := if i < s.size then s.extract i (eol s i) :: linesAt s (eol s i + 1) else []
termination_by s.size - i
decreasing_by have := eol_ge s i; omega
theorem lines_more {s : ByteArray} {i : Nat} (h : i < s.size) : linesAt s i = s.extract i (eol s i) :: linesAt s (eol s i + 1) := by rw [linesAt, if_pos h]
theorem lines_end {s : ByteArray} {i : Nat} (h : ¬ i < s.size) : linesAt s i = [] := by rw [linesAt, if_neg h]
theorem linesAt_le (s : ByteArray) (i : Nat) : (linesAt s i).length ≤ s.size - i := by
  fun_induction linesAt s i with
  | case1 i h ih =>
    have := eol_ge s i
    simp only [List.length_cons]
    omega
  | case2 i h => simp
theorem index_at (s : ByteArray) (i : Nat) : Lib.index (s.data.toList.drop i) [10] = if eol s i < s.size then ((eol s i - i : Nat) : Int) else -1 := by
  fun_induction eol s i with
  | case1 i h h' =>
    rw [if_pos h, drop_get h]
    have : s[i] = 10 := UInt8.toNat_inj.1 h'
    simp [Lib.index, this]
  | case2 i h h' ih =>
    rw [drop_get h]
    have hne : ¬ (10 : UInt8) = s[i] := fun e => h' (by rw [← e]; rfl)
    have hge := eol_ge s (i + 1)
    simp only [Lib.index, List.isPrefixOf, Bool.and_true, beq_iff_eq, hne, if_false, ih]
    by_cases hl : eol s (i + 1) < s.size
    · simp only [hl, if_true]
      rw [if_neg (by omega)]
      omega
    · simp only [hl, if_false, if_true]
  | case3 i h =>
    rw [if_neg h, List.drop_eq_nil_of_le (by simpa using h)]
    rfl
theorem data_drop (s : ByteArray) (i : Nat) : (s.extract i s.size).data.toList = s.data.toList.drop i := by
  rw [Lib.extract_eq]
  simp only
  exact List.take_of_length_le (by simp)
/-- A text cut at its first line. -/
theorem cut_at (s : ByteArray) (i : Nat) (hi : i < s.size) : (⟨(Lib.cut (s.extract i s.size).data.toList [10]).1.toArray⟩ : ByteArray) = s.extract i (eol s i) ∧ (⟨(Lib.cut (s.extract i s.size).data.toList [10]).2.1.toArray⟩ : ByteArray) = s.extract (eol s i + 1) s.size := by
  have h1 := index_at s i
  have h2 := eol_ge s i
  have h3 := eol_le s i (by omega)
  rw [data_drop]
  unfold Lib.cut
  rw [h1]
  by_cases hl : eol s i < s.size
  · rw [if_pos hl, if_pos (by omega)]
    refine ⟨?_, ?_⟩
    · rw [Lib.extract_eq]
      simp
    · apply ba_of
      rw [data_drop]
      simp only [List.drop_drop, List.length_cons, List.length_nil]
      congr 1
      omega
  · rw [if_neg hl, if_neg (by omega)]
    have he : eol s i = s.size := by omega
    refine ⟨?_, ?_⟩
    · apply ba_of
      rw [he, data_drop]
    · apply ba_of
      have e : s.data.toList.drop (s.size + 1) = [] := List.drop_eq_nil_of_le (by have := Lib.size_eq s; omega)
      rw [he, data_drop, e]
/-- A saying: its line, its word, its arguments. -/
structure Sy where
  n : Nat
  word : ByteArray
  args : List ByteArray
inductive PRes where
  | bad (n at_ code : Nat)
  | good (l : List Sy)
/-- The lines from the n-th on, behind the sayings of acc. -/
def parseGo : List ByteArray → Nat → List Sy → PRes
  | [], _, acc => .good acc
  | l :: r, n, acc => match lineRes l acc.length with
    | .skip => parseGo r (n + 1) acc
    | .bad a c => .bad n a c
    | .good t args => parseGo r (n + 1) (acc ++ [⟨n, t, args⟩])
def parse (s : ByteArray) : PRes := if 131072 < s.size then .bad 0 0 2 else parseGo (linesAt s 0) 1 []
theorem go_skip {l : ByteArray} {r : List ByteArray} {n : Nat} {acc : List Sy} (h : lineRes l acc.length = .skip) : parseGo (l :: r) n acc = parseGo r (n + 1) acc := by simp only [parseGo, h]
theorem go_bad {l : ByteArray} {r : List ByteArray} {n a c : Nat} {acc : List Sy} (h : lineRes l acc.length = .bad a c) : parseGo (l :: r) n acc = .bad n a c := by simp only [parseGo, h]
theorem go_good {l t : ByteArray} {r args : List ByteArray} {n : Nat} {acc : List Sy} (h : lineRes l acc.length = .good t args) : parseGo (l :: r) n acc = parseGo r (n + 1) (acc ++ [⟨n, t, args⟩]) := by simp only [parseGo, h]
/-- What a line gives. -/
theorem lineRes_good {l t : ByteArray} {args : List ByteArray} {ahead : Nat} (h : lineRes l ahead = .good t args) : ahead < 400 ∧ l.size ≤ 2048 ∧ 0 < t.size ∧ t.size ≤ l.size ∧ args.length ≤ l.size := by
  unfold lineRes at h
  split at h
  · cases h
  · rename_i hl
    have hi := words_in l 0
    have hn := wordsAt_le l 0
    change ∀ x ∈ words l, _ at hi
    change (words l).length ≤ _ at hn
    split at h
    · cases h
    · rename_i w0 ws hw
      rw [hw] at hi hn
      split at h
      · cases h
      · split at h
        · cases h
        · split at h
          · cases h
          · rename_i l' hc
            injection h with h1 h2
            subst h1
            subst h2
            have h0 := hi w0 (by simp)
            refine ⟨by omega, by omega, h0.1, h0.2.1, ?_⟩
            have : l'.length ≤ ws.length := by
              unfold cmd at hc
              split at hc
              · cases hc
              · split at hc
                · cases hc
                · rename_i f _ _
                  have key : ∀ (ks : List UInt8) (ws : List (ByteArray × Nat)) (o : List ByteArray), argsGo l.size ks ws = .good o → o.length = ws.length := by
                    intro ks
                    induction ks with
                    | nil =>
                      intro ws o h
                      cases ws with
                      | nil => simp only [argsGo, Res.good.injEq] at h; subst h; rfl
                      | cons x ws => simp [argsGo] at h
                    | cons k ks ih =>
                      intro ws o h
                      cases ws with
                      | nil => simp [argsGo] at h
                      | cons x ws =>
                        simp only [argsGo] at h
                        split at h
                        · split at h
                          · rename_i o' h'
                            injection h with h
                            subst h
                            simp [ih ws o' h']
                          · cases h
                        · cases h
                  exact Nat.le_of_eq (key _ _ _ hc)
            simp only [List.length_cons] at hn
            omega
end Pa
end Go.Proofs.YtnhedhmffgaohaaDoor

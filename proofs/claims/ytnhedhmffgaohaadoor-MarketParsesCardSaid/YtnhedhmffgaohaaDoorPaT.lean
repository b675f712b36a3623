/- A line read as a command: plain; the walk of the document's command. -/
import Derived.Test.YtnhedhmffgaohaaDoorPaS
import Derived.StillTailTactics
namespace Go.Proofs.YtnhedhmffgaohaaDoor
open Go.RowKit
namespace Pa
inductive Res where
  | bad (at_ : Nat)
  | good (args : List ByteArray)
/-- The further words held against the form. -/
def argsGo (len : Nat) : List UInt8 → List (ByteArray × Nat) → Res
  | [], [] => .good []
  | [], x :: _ => .bad x.2
  | _ :: _, [] => .bad len
  | k :: ks, x :: ws => if fits k x.1.data.toList = true then (match argsGo len ks ws with
    | .good l => .good (x.1 :: l)
    | .bad a => .bad a) else .bad x.2
def mkt : ByteArray := ⟨#[109, 97, 114, 107, 101, 116]⟩
/-- The words of a line of n bytes, behind so many commands. -/
def cmd (len : Nat) (w0 : ByteArray × Nat) (ws : List (ByteArray × Nat)) (ahead : Nat) : Res := match look w0.1 tbl with
  | none => .bad w0.2
  | some form => if (w0.1.toList == mkt.toList) != decide (ahead = 0) then .bad w0.2 else argsGo len form.data.toList ws
/-- How far the arguments are good. -/
structure Upto (len : Nat) (ks : List UInt8) (ws : List (ByteArray × Nat)) (k : Nat) : Prop where
  hk : k ≤ ks.length
  hw : k ≤ ws.length
  eq : argsGo len ks ws = match argsGo len (ks.drop k) (ws.drop k) with
    | .good l => .good ((ws.take k).map (·.1) ++ l)
    | .bad a => .bad a
theorem Upto.zero (len : Nat) (ks : List UInt8) (ws : List (ByteArray × Nat)) : Upto len ks ws 0 := ⟨Nat.zero_le _, Nat.zero_le _, by cases h : argsGo len ks ws <;> simp [h]⟩
section
variable {len k : Nat} {ks : List UInt8} {ws : List (ByteArray × Nat)}
theorem Upto.next (h : Upto len ks ws k) {c : UInt8} {x : ByteArray × Nat} (hc : ks[k]? = some c) (hx : ws[k]? = some x) (hf : fits c x.1.data.toList = true) : Upto len ks ws (k + 1) := by
  have h1 := (List.getElem?_eq_some_iff.1 hc).1
  have h2 := (List.getElem?_eq_some_iff.1 hx).1
  refine ⟨by omega, by omega, ?_⟩
  have e1 : ks.drop k = c :: ks.drop (k + 1) := by
    rw [List.drop_eq_getElem_cons h1]
    congr 1
    rw [List.getElem?_eq_getElem h1] at hc
    exact Option.some.inj hc
  have e2 : ws.drop k = x :: ws.drop (k + 1) := by
    rw [List.drop_eq_getElem_cons h2]
    congr 1
    rw [List.getElem?_eq_getElem h2] at hx
    exact Option.some.inj hx
  rw [h.eq, e1, e2]
  simp only [argsGo, hf, if_true]
  have e3 : ws.take (k + 1) = ws.take k ++ [x] := by
    rw [List.take_succ_eq_append_getElem h2]
    congr 2
    rw [List.getElem?_eq_getElem h2] at hx
    exact Option.some.inj hx
  rw [e3]
  cases argsGo len (ks.drop (k + 1)) (ws.drop (k + 1)) with
  | bad a => rfl
  | good l => simp
theorem Upto.misfit (h : Upto len ks ws k) {c : UInt8} {x : ByteArray × Nat} (hc : ks[k]? = some c) (hx : ws[k]? = some x) (hf : fits c x.1.data.toList = false) : argsGo len ks ws = .bad x.2 := by
  have h1 := (List.getElem?_eq_some_iff.1 hc).1
  have h2 := (List.getElem?_eq_some_iff.1 hx).1
  have e1 : ks.drop k = c :: ks.drop (k + 1) := by
    rw [List.drop_eq_getElem_cons h1]
    congr 1
    rw [List.getElem?_eq_getElem h1] at hc
    exact Option.some.inj hc
  have e2 : ws.drop k = x :: ws.drop (k + 1) := by
    rw [List.drop_eq_getElem_cons h2]
    congr 1
    rw [List.getElem?_eq_getElem h2] at hx
    exact Option.some.inj hx
  rw [h.eq, e1, e2]
  simp [argsGo, hf]
theorem Upto.few (h : Upto len ks ws k) (h1 : k < ks.length) (h2 : ws.length ≤ k) : argsGo len ks ws = .bad len := by
  rw [h.eq, List.drop_eq_getElem_cons h1, List.drop_eq_nil_of_le h2]
  simp [argsGo]
theorem Upto.many (h : Upto len ks ws k) {x : ByteArray × Nat} (h1 : ks.length ≤ k) (hx : ws[k]? = some x) : argsGo len ks ws = .bad x.2 := by
  have h2 := (List.getElem?_eq_some_iff.1 hx).1
  have e2 : ws.drop k = x :: ws.drop (k + 1) := by
    rw [List.drop_eq_getElem_cons h2]
    congr 1
    rw [List.getElem?_eq_getElem h2] at hx
    exact Option.some.inj hx
  rw [h.eq, e2, List.drop_eq_nil_of_le h1]
  simp [argsGo]
theorem Upto.all (h : Upto len ks ws k) (h1 : ks.length ≤ k) (h2 : ws.length ≤ k) : argsGo len ks ws = .good (ws.map (·.1)) := by
  rw [h.eq, List.drop_eq_nil_of_le h1, List.drop_eq_nil_of_le h2, List.take_of_length_le h2]
  simp [argsGo]
end
end Pa
end Go.Proofs.YtnhedhmffgaohaaDoor

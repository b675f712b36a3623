/-
  No cell of these rows narrows 'for every input' (looked for: loops, veiled, ifaces, maps, wideKeys, modest, calm, conditions, laid).
  DERIVED. THE GIVEN ROWS OF THIS SEAT. 4 by the template 'for every input the law returns true; each argument reads behind the call as it read before'; 0 by the template 'total and deterministic' (their statements: YtnhedhmffgaohaaGreatTotals.lean).
  GIVEN WITH THE SEED: the statements are not yours to turn. If you find one false, say at which input.
  Laid BY PROGRAM, IN A SANDBOX (cutbox-rows.mjs): the forced cells as the released guide's own fill.sh prints them over the translation 402a68d2b2faf55e… (all of the seat's roots in one cut). By AI agents, Wed Nov 11 2026. No macro, syntax, notation, axiom, sorry.
-/
import Derived.Test.YtnhedhmffgaohaaGreatChecked
import GoSem.Claim
import GoSem.ClaimJoined
import GoSem.ClaimMapViews
import Derived.JoinedTies
import Derived.KernelRfl
namespace Go.Proofs.YtnhedhmffgaohaaGreat
/- THE CELL 'sum', in the pinned program and in every row, IS THE sha256 OF THE DUMP (.gsa) THAT YtnhedhmffgaohaaGreatProg.lean LOADS. Nothing in Lean hashes anything: it is a label: what it is worth is what the hold of that sum in a sandbox is worth. -/
noncomputable def Tryz.pinned : Pinned := { name := "ytnhedhmffgaohaagreat", sum := "402a68d2b2faf55ebd6683813dada0f2aea7a5898e6e2f6f44e7076b9039adc8", checked := Tryz.checked }
namespace Rows
def none {H : Type} : Left H := { results := [], args := [] }

/-- 'bourselaw30.HistoryNews': WHATEVER THE INPUT: true; the input reads as it did. -/
def historyNewsSpec : ChangeSpec := { name := "historyNews", fn := fun _ => fun
  | [d1, d2, d3] => { results := [.lit (.bool true)], args := [d1, d2, d3] }
  | _ => none }
def historyNewsRow : OpenClaim := { program := "ytnhedhmffgaohaagreat", sum := "402a68d2b2faf55ebd6683813dada0f2aea7a5898e6e2f6f44e7076b9039adc8", func := "bourse/bourselaw30.HistoryNews", spec := "historyNews", inPlace := ["slices.overlaps[bourse/api.Resting]"], unfollowed := true, recurses := true, apart := false }
def HistoryNewsSaid : Prop := historyNewsRow.holds Tryz.pinned (OpenSpec.ofChange historyNewsSpec)

/-- ITS FALSE NEIGHBOUR: 'it returns false'. Refute it at one input. -/
def historyNewsWrong : ChangeSpec := { name := "historyNews", fn := fun _ => fun
  | [d1, d2, d3] => { results := [.lit (.bool false)], args := [d1, d2, d3] }
  | _ => none }
def HistoryNewsWrongFalsely : Prop := historyNewsRow.holds Tryz.pinned (OpenSpec.ofChange historyNewsWrong)

/-- 'bourselaw30.HistoryOpens': WHATEVER THE INPUT: true; the input reads as it did. -/
def historyOpensSpec : ChangeSpec := { name := "historyOpens", fn := fun _ => fun
  | [d1, d2] => { results := [.lit (.bool true)], args := [d1, d2] }
  | _ => none }
def historyOpensRow : OpenClaim := { program := "ytnhedhmffgaohaagreat", sum := "402a68d2b2faf55ebd6683813dada0f2aea7a5898e6e2f6f44e7076b9039adc8", func := "bourse/bourselaw30.HistoryOpens", spec := "historyOpens", inPlace := ["slices.overlaps[bourse/api.Resting]"], unfollowed := true, recurses := true, apart := false }
def HistoryOpensSaid : Prop := historyOpensRow.holds Tryz.pinned (OpenSpec.ofChange historyOpensSpec)

/-- ITS FALSE NEIGHBOUR: 'it returns false'. Refute it at one input. -/
def historyOpensWrong : ChangeSpec := { name := "historyOpens", fn := fun _ => fun
  | [d1, d2] => { results := [.lit (.bool false)], args := [d1, d2] }
  | _ => none }
def HistoryOpensWrongFalsely : Prop := historyOpensRow.holds Tryz.pinned (OpenSpec.ofChange historyOpensWrong)

/-- 'bourselaw30.HistoryAsks': WHATEVER THE INPUT: true; the input reads as it did. -/
def historyAsksSpec : ChangeSpec := { name := "historyAsks", fn := fun _ => fun
  | [d1, d2, d3, d4] => { results := [.lit (.bool true)], args := [d1, d2, d3, d4] }
  | _ => none }
def historyAsksRow : OpenClaim := { program := "ytnhedhmffgaohaagreat", sum := "402a68d2b2faf55ebd6683813dada0f2aea7a5898e6e2f6f44e7076b9039adc8", func := "bourse/bourselaw30.HistoryAsks", spec := "historyAsks", inPlace := ["slices.overlaps[bourse/api.Resting]"], unfollowed := true, recurses := true, apart := false }
def HistoryAsksSaid : Prop := historyAsksRow.holds Tryz.pinned (OpenSpec.ofChange historyAsksSpec)

/-- ITS FALSE NEIGHBOUR: 'it returns false'. Refute it at one input. -/
def historyAsksWrong : ChangeSpec := { name := "historyAsks", fn := fun _ => fun
  | [d1, d2, d3, d4] => { results := [.lit (.bool false)], args := [d1, d2, d3, d4] }
  | _ => none }
def HistoryAsksWrongFalsely : Prop := historyAsksRow.holds Tryz.pinned (OpenSpec.ofChange historyAsksWrong)

/-- 'bourselaw30.HistoryAll': WHATEVER THE INPUT: true; the input reads as it did. -/
def historyAllSpec : ChangeSpec := { name := "historyAll", fn := fun _ => fun
  | [d1, d2, d3, d4] => { results := [.lit (.bool true)], args := [d1, d2, d3, d4] }
  | _ => none }
def historyAllRow : OpenClaim := { program := "ytnhedhmffgaohaagreat", sum := "402a68d2b2faf55ebd6683813dada0f2aea7a5898e6e2f6f44e7076b9039adc8", func := "bourse/bourselaw30.HistoryAll", spec := "historyAll", inPlace := ["slices.overlaps[bourse/api.Resting]"], unfollowed := true, recurses := true, apart := false }
def HistoryAllSaid : Prop := historyAllRow.holds Tryz.pinned (OpenSpec.ofChange historyAllSpec)

/-- ITS FALSE NEIGHBOUR: 'it returns false'. Refute it at one input. -/
def historyAllWrong : ChangeSpec := { name := "historyAll", fn := fun _ => fun
  | [d1, d2, d3, d4] => { results := [.lit (.bool false)], args := [d1, d2, d3, d4] }
  | _ => none }
def HistoryAllWrongFalsely : Prop := historyAllRow.holds Tryz.pinned (OpenSpec.ofChange historyAllWrong)

/- THE SECOND FORM. 'bulk': how many values and letters a reading holds, each counted each time it is reached (what is shared counts as often as it is met; a slice's spare places count too). A statement '..UptoSaid' is the law's where the arguments, and the package variables that the reading takes, are together of bulk at most 1048576: NARROWER than '..Said'. Prove '..Said' where nothing that the law and all that it calls make is longer than what came in: it says more and counts as full. Else prove '..UptoSaid'. A law counts once. -/
mutual
def uptoBulk {H : Type} : DataW H → Nat
  | .lit (.string bytes) => bytes.length + 1
  | .lit _ => 1
  | .nil => 1
  | .ptr d => uptoBulk d + 1
  | .slice elems spare => uptoBulkAll elems + uptoBulkAll spare + 1
  | .agg parts => uptoBulkAll parts + 1
  | .iface _ d => uptoBulk d + 1
  | .map entries => uptoBulkEntries entries + 1
  | .held _ => 1
def uptoBulkAll {H : Type} : List (DataW H) → Nat
  | [] => 0
  | d :: r => uptoBulk d + uptoBulkAll r
def uptoBulkEntries {H : Type} : List (Lit × DataW H) → Nat
  | [] => 0
  | x :: r => uptoBulkEntry x + uptoBulkEntries r
def uptoBulkEntry {H : Type} : Lit × DataW H → Nat
  | (.string bytes, d) => bytes.length + uptoBulk d + 1
  | (_, d) => uptoBulk d + 1
 end
def uptoSmall : (H : Type) → List (DataW H) → Bool := fun _ ds => decide (uptoBulkAll ds ≤ 1048576)
def OpenSpec.upto (s : _root_.Go.ChangeSpec) : _root_.Go.OpenSpec := { _root_.Go.OpenSpec.ofChange s with cond := some uptoSmall }

/-- 'bourselaw30.HistoryNews', WHERE WHAT IT READS IS OF BULK AT MOST 1048576: true; the input reads as it did. -/
def historyNewsUptoRow : OpenClaim := { program := "ytnhedhmffgaohaagreat", sum := "402a68d2b2faf55ebd6683813dada0f2aea7a5898e6e2f6f44e7076b9039adc8", func := "bourse/bourselaw30.HistoryNews", spec := "historyNews", inPlace := ["slices.overlaps[bourse/api.Resting]"], unfollowed := true, recurses := true, apart := false, narrowed := true }
def HistoryNewsUptoSaid : Prop := historyNewsUptoRow.holds Tryz.pinned (OpenSpec.upto historyNewsSpec)

/-- 'bourselaw30.HistoryOpens', WHERE WHAT IT READS IS OF BULK AT MOST 1048576: true; the input reads as it did. -/
def historyOpensUptoRow : OpenClaim := { program := "ytnhedhmffgaohaagreat", sum := "402a68d2b2faf55ebd6683813dada0f2aea7a5898e6e2f6f44e7076b9039adc8", func := "bourse/bourselaw30.HistoryOpens", spec := "historyOpens", inPlace := ["slices.overlaps[bourse/api.Resting]"], unfollowed := true, recurses := true, apart := false, narrowed := true }
def HistoryOpensUptoSaid : Prop := historyOpensUptoRow.holds Tryz.pinned (OpenSpec.upto historyOpensSpec)

/-- 'bourselaw30.HistoryAsks', WHERE WHAT IT READS IS OF BULK AT MOST 1048576: true; the input reads as it did. -/
def historyAsksUptoRow : OpenClaim := { program := "ytnhedhmffgaohaagreat", sum := "402a68d2b2faf55ebd6683813dada0f2aea7a5898e6e2f6f44e7076b9039adc8", func := "bourse/bourselaw30.HistoryAsks", spec := "historyAsks", inPlace := ["slices.overlaps[bourse/api.Resting]"], unfollowed := true, recurses := true, apart := false, narrowed := true }
def HistoryAsksUptoSaid : Prop := historyAsksUptoRow.holds Tryz.pinned (OpenSpec.upto historyAsksSpec)

/-- 'bourselaw30.HistoryAll', WHERE WHAT IT READS IS OF BULK AT MOST 1048576: true; the input reads as it did. -/
def historyAllUptoRow : OpenClaim := { program := "ytnhedhmffgaohaagreat", sum := "402a68d2b2faf55ebd6683813dada0f2aea7a5898e6e2f6f44e7076b9039adc8", func := "bourse/bourselaw30.HistoryAll", spec := "historyAll", inPlace := ["slices.overlaps[bourse/api.Resting]"], unfollowed := true, recurses := true, apart := false, narrowed := true }
def HistoryAllUptoSaid : Prop := historyAllUptoRow.holds Tryz.pinned (OpenSpec.upto historyAllSpec)

end Rows
end Go.Proofs.YtnhedhmffgaohaaGreat

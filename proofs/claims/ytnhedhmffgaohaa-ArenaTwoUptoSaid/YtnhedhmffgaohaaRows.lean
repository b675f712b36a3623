/-
  No cell of these rows narrows 'for every input' (looked for: loops, veiled, ifaces, maps, wideKeys, modest, calm, conditions, laid).
  DERIVED. THE GIVEN ROWS OF THIS SEAT. 7 by the template 'for every input the law returns true; each argument reads behind the call as it read before'; 0 by the template 'total and deterministic' (their statements: YtnhedhmffgaohaaTotals.lean).
  GIVEN WITH THE SEED: the statements are not yours to turn. If you find one false, say at which input.
  Laid BY PROGRAM, IN A SANDBOX (cutbox-rows.mjs): the forced cells as the released guide's own fill.sh prints them over the translation 56067245c203b088… (all of the seat's roots in one cut). By AI agents, Wed Nov 11 2026. No macro, syntax, notation, axiom, sorry.
-/
import Derived.Test.YtnhedhmffgaohaaChecked
import GoSem.Claim
import GoSem.ClaimJoined
import GoSem.ClaimMapViews
import Derived.JoinedTies
import Derived.KernelRfl
namespace Go.Proofs.Ytnhedhmffgaohaa
/- THE CELL 'sum', in the pinned program and in every row, IS THE sha256 OF THE DUMP (.gsa) THAT YtnhedhmffgaohaaProg.lean LOADS. Nothing in Lean hashes anything: it is a label: what it is worth is what the hold of that sum in a sandbox is worth. -/
noncomputable def Try.pinned : Pinned := { name := "ytnhedhmffgaohaa", sum := "56067245c203b088b1d98c931541b82019a27a4b74cd3347b1c1f4dd91d367a7", checked := Try.checked }
namespace Rows
def none {H : Type} : Left H := { results := [], args := [] }

/-- 'bourselaw05.ArenaLives': WHATEVER THE INPUT: true; the input reads as it did. -/
def arenaLivesSpec : ChangeSpec := { name := "arenaLives", fn := fun _ => fun
  | [d1, d2] => { results := [.lit (.bool true)], args := [d1, d2] }
  | _ => none }
def arenaLivesRow : OpenClaim := { program := "ytnhedhmffgaohaa", sum := "56067245c203b088b1d98c931541b82019a27a4b74cd3347b1c1f4dd91d367a7", func := "bourse/bourselaw05.ArenaLives", spec := "arenaLives", apart := false }
def ArenaLivesSaid : Prop := arenaLivesRow.holds Try.pinned (OpenSpec.ofChange arenaLivesSpec)

/-- ITS FALSE NEIGHBOUR: 'it returns false'. Refute it at one input. -/
def arenaLivesWrong : ChangeSpec := { name := "arenaLives", fn := fun _ => fun
  | [d1, d2] => { results := [.lit (.bool false)], args := [d1, d2] }
  | _ => none }
def ArenaLivesWrongFalsely : Prop := arenaLivesRow.holds Try.pinned (OpenSpec.ofChange arenaLivesWrong)

/-- 'bourselaw05.ArenaStale': WHATEVER THE INPUT: true; the input reads as it did. -/
def arenaStaleSpec : ChangeSpec := { name := "arenaStale", fn := fun _ => fun
  | [d1, d2] => { results := [.lit (.bool true)], args := [d1, d2] }
  | _ => none }
def arenaStaleRow : OpenClaim := { program := "ytnhedhmffgaohaa", sum := "56067245c203b088b1d98c931541b82019a27a4b74cd3347b1c1f4dd91d367a7", func := "bourse/bourselaw05.ArenaStale", spec := "arenaStale", apart := false }
def ArenaStaleSaid : Prop := arenaStaleRow.holds Try.pinned (OpenSpec.ofChange arenaStaleSpec)

/-- ITS FALSE NEIGHBOUR: 'it returns false'. Refute it at one input. -/
def arenaStaleWrong : ChangeSpec := { name := "arenaStale", fn := fun _ => fun
  | [d1, d2] => { results := [.lit (.bool false)], args := [d1, d2] }
  | _ => none }
def ArenaStaleWrongFalsely : Prop := arenaStaleRow.holds Try.pinned (OpenSpec.ofChange arenaStaleWrong)

/-- 'bourselaw05.ArenaOrder': WHATEVER THE INPUT: true; the input reads as it did. -/
def arenaOrderSpec : ChangeSpec := { name := "arenaOrder", fn := fun _ => fun
  | [d] => { results := [.lit (.bool true)], args := [d] }
  | _ => none }
def arenaOrderRow : OpenClaim := { program := "ytnhedhmffgaohaa", sum := "56067245c203b088b1d98c931541b82019a27a4b74cd3347b1c1f4dd91d367a7", func := "bourse/bourselaw05.ArenaOrder", spec := "arenaOrder", apart := false }
def ArenaOrderSaid : Prop := arenaOrderRow.holds Try.pinned (OpenSpec.ofChange arenaOrderSpec)

/-- ITS FALSE NEIGHBOUR: 'it returns false'. Refute it at one input. -/
def arenaOrderWrong : ChangeSpec := { name := "arenaOrder", fn := fun _ => fun
  | [d] => { results := [.lit (.bool false)], args := [d] }
  | _ => none }
def ArenaOrderWrongFalsely : Prop := arenaOrderRow.holds Try.pinned (OpenSpec.ofChange arenaOrderWrong)

/-- 'bourselaw05.ArenaAll': WHATEVER THE INPUT: true; the input reads as it did. -/
def arenaAllSpec : ChangeSpec := { name := "arenaAll", fn := fun _ => fun
  | [d1, d2] => { results := [.lit (.bool true)], args := [d1, d2] }
  | _ => none }
def arenaAllRow : OpenClaim := { program := "ytnhedhmffgaohaa", sum := "56067245c203b088b1d98c931541b82019a27a4b74cd3347b1c1f4dd91d367a7", func := "bourse/bourselaw05.ArenaAll", spec := "arenaAll", apart := false }
def ArenaAllSaid : Prop := arenaAllRow.holds Try.pinned (OpenSpec.ofChange arenaAllSpec)

/-- ITS FALSE NEIGHBOUR: 'it returns false'. Refute it at one input. -/
def arenaAllWrong : ChangeSpec := { name := "arenaAll", fn := fun _ => fun
  | [d1, d2] => { results := [.lit (.bool false)], args := [d1, d2] }
  | _ => none }
def ArenaAllWrongFalsely : Prop := arenaAllRow.holds Try.pinned (OpenSpec.ofChange arenaAllWrong)

/-- 'bourselaw05.ArenaTwo': WHATEVER THE INPUT: true; the input reads as it did. -/
def arenaTwoSpec : ChangeSpec := { name := "arenaTwo", fn := fun _ => fun
  | [d1, d2, d3] => { results := [.lit (.bool true)], args := [d1, d2, d3] }
  | _ => none }
def arenaTwoRow : OpenClaim := { program := "ytnhedhmffgaohaa", sum := "56067245c203b088b1d98c931541b82019a27a4b74cd3347b1c1f4dd91d367a7", func := "bourse/bourselaw05.ArenaTwo", spec := "arenaTwo", apart := false }
def ArenaTwoSaid : Prop := arenaTwoRow.holds Try.pinned (OpenSpec.ofChange arenaTwoSpec)

/-- ITS FALSE NEIGHBOUR: 'it returns false'. Refute it at one input. -/
def arenaTwoWrong : ChangeSpec := { name := "arenaTwo", fn := fun _ => fun
  | [d1, d2, d3] => { results := [.lit (.bool false)], args := [d1, d2, d3] }
  | _ => none }
def ArenaTwoWrongFalsely : Prop := arenaTwoRow.holds Try.pinned (OpenSpec.ofChange arenaTwoWrong)

/-- 'bourselaw19.CheckerOnly': WHATEVER THE INPUT: true; the input reads as it did. -/
def checkerOnlySpec : ChangeSpec := { name := "checkerOnly", fn := fun _ => fun
  | [d1, d2] => { results := [.lit (.bool true)], args := [d1, d2] }
  | _ => none }
def checkerOnlyRow : OpenClaim := { program := "ytnhedhmffgaohaa", sum := "56067245c203b088b1d98c931541b82019a27a4b74cd3347b1c1f4dd91d367a7", func := "bourse/bourselaw19.CheckerOnly", spec := "checkerOnly", inPlace := ["slices.overlaps[bourse/api.Resting]"], unfollowed := true, recurses := true, apart := false }
def CheckerOnlySaid : Prop := checkerOnlyRow.holds Try.pinned (OpenSpec.ofChange checkerOnlySpec)

/-- ITS FALSE NEIGHBOUR: 'it returns false'. Refute it at one input. -/
def checkerOnlyWrong : ChangeSpec := { name := "checkerOnly", fn := fun _ => fun
  | [d1, d2] => { results := [.lit (.bool false)], args := [d1, d2] }
  | _ => none }
def CheckerOnlyWrongFalsely : Prop := checkerOnlyRow.holds Try.pinned (OpenSpec.ofChange checkerOnlyWrong)

/-- 'bourselaw19.CheckerAdds': WHATEVER THE INPUT: true; the input reads as it did. -/
def checkerAddsSpec : ChangeSpec := { name := "checkerAdds", fn := fun _ => fun
  | [d1, d2] => { results := [.lit (.bool true)], args := [d1, d2] }
  | _ => none }
def checkerAddsRow : OpenClaim := { program := "ytnhedhmffgaohaa", sum := "56067245c203b088b1d98c931541b82019a27a4b74cd3347b1c1f4dd91d367a7", func := "bourse/bourselaw19.CheckerAdds", spec := "checkerAdds", inPlace := ["slices.overlaps[bourse/api.Resting]"], unfollowed := true, recurses := true, apart := false }
def CheckerAddsSaid : Prop := checkerAddsRow.holds Try.pinned (OpenSpec.ofChange checkerAddsSpec)

/-- ITS FALSE NEIGHBOUR: 'it returns false'. Refute it at one input. -/
def checkerAddsWrong : ChangeSpec := { name := "checkerAdds", fn := fun _ => fun
  | [d1, d2] => { results := [.lit (.bool false)], args := [d1, d2] }
  | _ => none }
def CheckerAddsWrongFalsely : Prop := checkerAddsRow.holds Try.pinned (OpenSpec.ofChange checkerAddsWrong)

/- THE SECOND FORM. 'bulk': how many values and letters a reading holds, each counted each time it is reached (what is shared counts as often as it is met; a slice's spare places count too). A statement '..UptoSaid' is the law's where the arguments, and the package variables that the reading takes, are together of bulk at most 1048576: NARROWER than '..Said'. Prove '..Said' where nothing that the law and all that it calls make is longer than what came in: it says more and counts as full. Else prove '..UptoSaid'. A law counts once. -/
mutual
def uptoBulk {H : Type} : DataW H → Nat
  | .lit (.string bytes) => bytes.length + 1
  | .lit _ => 1
  | .nil => 1
  | .ptr d => uptoBulk d + 1
  | .slice elems spare => uptoBulkAll elems + uptoBulkAll spare + 1
  | .agg parts => uptoBulkAll parts + 1
  | .iface _ d => uptoBulk d + 1
  | .map entries => uptoBulkEntries entries + 1
  | .held _ => 1
def uptoBulkAll {H : Type} : List (DataW H) → Nat
  | [] => 0
  | d :: r => uptoBulk d + uptoBulkAll r
def uptoBulkEntries {H : Type} : List (Lit × DataW H) → Nat
  | [] => 0
  | x :: r => uptoBulkEntry x + uptoBulkEntries r
def uptoBulkEntry {H : Type} : Lit × DataW H → Nat
  | (.string bytes, d) => bytes.length + uptoBulk d + 1
  | (_, d) => uptoBulk d + 1
 end
def uptoSmall : (H : Type) → List (DataW H) → Bool := fun _ ds => decide (uptoBulkAll ds ≤ 1048576)
def OpenSpec.upto (s : _root_.Go.ChangeSpec) : _root_.Go.OpenSpec := { _root_.Go.OpenSpec.ofChange s with cond := some uptoSmall }

/-- 'bourselaw05.ArenaLives', WHERE WHAT IT READS IS OF BULK AT MOST 1048576: true; the input reads as it did. -/
def arenaLivesUptoRow : OpenClaim := { program := "ytnhedhmffgaohaa", sum := "56067245c203b088b1d98c931541b82019a27a4b74cd3347b1c1f4dd91d367a7", func := "bourse/bourselaw05.ArenaLives", spec := "arenaLives", apart := false, narrowed := true }
def ArenaLivesUptoSaid : Prop := arenaLivesUptoRow.holds Try.pinned (OpenSpec.upto arenaLivesSpec)

/-- 'bourselaw05.ArenaStale', WHERE WHAT IT READS IS OF BULK AT MOST 1048576: true; the input reads as it did. -/
def arenaStaleUptoRow : OpenClaim := { program := "ytnhedhmffgaohaa", sum := "56067245c203b088b1d98c931541b82019a27a4b74cd3347b1c1f4dd91d367a7", func := "bourse/bourselaw05.ArenaStale", spec := "arenaStale", apart := false, narrowed := true }
def ArenaStaleUptoSaid : Prop := arenaStaleUptoRow.holds Try.pinned (OpenSpec.upto arenaStaleSpec)

/-- 'bourselaw05.ArenaOrder', WHERE WHAT IT READS IS OF BULK AT MOST 1048576: true; the input reads as it did. -/
def arenaOrderUptoRow : OpenClaim := { program := "ytnhedhmffgaohaa", sum := "56067245c203b088b1d98c931541b82019a27a4b74cd3347b1c1f4dd91d367a7", func := "bourse/bourselaw05.ArenaOrder", spec := "arenaOrder", apart := false, narrowed := true }
def ArenaOrderUptoSaid : Prop := arenaOrderUptoRow.holds Try.pinned (OpenSpec.upto arenaOrderSpec)

/-- 'bourselaw05.ArenaAll', WHERE WHAT IT READS IS OF BULK AT MOST 1048576: true; the input reads as it did. -/
def arenaAllUptoRow : OpenClaim := { program := "ytnhedhmffgaohaa", sum := "56067245c203b088b1d98c931541b82019a27a4b74cd3347b1c1f4dd91d367a7", func := "bourse/bourselaw05.ArenaAll", spec := "arenaAll", apart := false, narrowed := true }
def ArenaAllUptoSaid : Prop := arenaAllUptoRow.holds Try.pinned (OpenSpec.upto arenaAllSpec)

/-- 'bourselaw05.ArenaTwo', WHERE WHAT IT READS IS OF BULK AT MOST 1048576: true; the input reads as it did. -/
def arenaTwoUptoRow : OpenClaim := { program := "ytnhedhmffgaohaa", sum := "56067245c203b088b1d98c931541b82019a27a4b74cd3347b1c1f4dd91d367a7", func := "bourse/bourselaw05.ArenaTwo", spec := "arenaTwo", apart := false, narrowed := true }
def ArenaTwoUptoSaid : Prop := arenaTwoUptoRow.holds Try.pinned (OpenSpec.upto arenaTwoSpec)

/-- 'bourselaw19.CheckerOnly', WHERE WHAT IT READS IS OF BULK AT MOST 1048576: true; the input reads as it did. -/
def checkerOnlyUptoRow : OpenClaim := { program := "ytnhedhmffgaohaa", sum := "56067245c203b088b1d98c931541b82019a27a4b74cd3347b1c1f4dd91d367a7", func := "bourse/bourselaw19.CheckerOnly", spec := "checkerOnly", inPlace := ["slices.overlaps[bourse/api.Resting]"], unfollowed := true, recurses := true, apart := false, narrowed := true }
def CheckerOnlyUptoSaid : Prop := checkerOnlyUptoRow.holds Try.pinned (OpenSpec.upto checkerOnlySpec)

/-- 'bourselaw19.CheckerAdds', WHERE WHAT IT READS IS OF BULK AT MOST 1048576: true; the input reads as it did. -/
def checkerAddsUptoRow : OpenClaim := { program := "ytnhedhmffgaohaa", sum := "56067245c203b088b1d98c931541b82019a27a4b74cd3347b1c1f4dd91d367a7", func := "bourse/bourselaw19.CheckerAdds", spec := "checkerAdds", inPlace := ["slices.overlaps[bourse/api.Resting]"], unfollowed := true, recurses := true, apart := false, narrowed := true }
def CheckerAddsUptoSaid : Prop := checkerAddsUptoRow.holds Try.pinned (OpenSpec.upto checkerAddsSpec)

end Rows
end Go.Proofs.Ytnhedhmffgaohaa

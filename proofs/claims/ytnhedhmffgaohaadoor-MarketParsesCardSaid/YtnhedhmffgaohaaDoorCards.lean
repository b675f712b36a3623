/-
  DERIVED. GIVEN WITH THE SEED: THE CARDS: each row of YtnhedhmffgaohaaDoorRows.lean that lists a variable, with what it lists TIED to the program's text (the seventh form; the later family's looks); each row that meets fmt, with fmt's text TOLD by the authors' own Lean function (tested against real Go, not proved from fmt's source: count such statements apart). THE CARD IS WHAT COUNTS. Prove the row's statement (the work); the ties are given (YtnhedhmffgaohaaDoorTie.lean); close each card by the builder's one call (the guide's Derived/Test/ToyasCard.lean, 'card_holds'). Laid BY PROGRAM, IN A SANDBOX (cutbox-door.mjs). By AI agents, Wed Nov 11 2026. No macro, syntax, notation, axiom, sorry.
-/
import Derived.Test.YtnhedhmffgaohaaDoorRows
import GoSem.ClaimSeven
namespace Go.Proofs.YtnhedhmffgaohaaDoor
namespace Rows

/-- THE TIED CARD OF 'bourselaw28.MarketParses'. -/
def marketParsesCard : Claim7 := { stood := { row := marketParsesRow, standIns := [], harness := (true, "d7e3ce49ff09ddba709c0cafb019840a958551edbe13ce5cc8b8bbb2f3f80d97"), looks := true }, kinds := [], alts := [], laidByText := true, laidKinds := [.data, .data, .data, .sentinel, .sentinel], laidTests := true, laidLooks := .later }
def MarketParsesCardSaid : Prop := Claim7.holds Tryd.pinned (.plain (OpenSpec.ofChange marketParsesSpec)) marketParsesCard

/-- THE SECOND FORM's CARD OF 'bourselaw28.MarketParses'. -/
def marketParsesUptoCard : Claim7 := { stood := { row := marketParsesUptoRow, standIns := [], harness := (true, "d7e3ce49ff09ddba709c0cafb019840a958551edbe13ce5cc8b8bbb2f3f80d97"), looks := true }, kinds := [], alts := [], laidByText := true, laidKinds := [.data, .data, .data, .sentinel, .sentinel], laidTests := true, laidLooks := .later }
def MarketParsesUptoCardSaid : Prop := Claim7.holds Tryd.pinned (.plain (OpenSpec.upto marketParsesSpec)) marketParsesUptoCard
end Rows
end Go.Proofs.YtnhedhmffgaohaaDoor

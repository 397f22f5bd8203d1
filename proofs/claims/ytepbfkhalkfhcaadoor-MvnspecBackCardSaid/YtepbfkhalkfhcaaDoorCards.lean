/-
  DERIVED. GIVEN WITH THE SEED: THE CARDS: each row of YtepbfkhalkfhcaaDoorRows.lean that lists a variable, with what it lists TIED to the program's text (the seventh form; the later family's looks); each row that meets fmt, with fmt's text TOLD by the authors' own Lean function (tested against real Go, not proved from fmt's source: count such statements apart). THE CARD IS WHAT COUNTS. Prove the row's statement (the work); the ties are given (YtepbfkhalkfhcaaDoorTie.lean); close each card by the builder's one call (the guide's Derived/Test/ToyasCard.lean, 'card_holds'). Laid BY PROGRAM, IN A SANDBOX (cutbox-door.mjs). By AI agents, Wed Nov 11 2026. No macro, syntax, notation, axiom, sorry.
-/
import Derived.Test.YtepbfkhalkfhcaaDoorRows
import GoSem.ClaimSeven
namespace Go.Proofs.YtepbfkhalkfhcaaDoor
namespace Rows

/-- THE TIED CARD OF 'dovetaillaw09.MvnspecBack'. -/
def mvnspecBackCard : Claim7 := { stood := { row := mvnspecBackRow, standIns := [], harness := (true, "d10724a13159281178866eec72e4b0ad082aa42310ea758098ccab7289092bc1"), looks := false }, kinds := [], alts := [], laidByText := true, laidKinds := [.data, .pinned], laidTests := true, laidLooks := .later }
def MvnspecBackCardSaid : Prop := Claim7.holds Tryd.pinned (.plain (OpenSpec.ofChange mvnspecBackSpec)) mvnspecBackCard

/-- THE SECOND FORM's CARD OF 'dovetaillaw09.MvnspecBack'. -/
def mvnspecBackUptoCard : Claim7 := { stood := { row := mvnspecBackUptoRow, standIns := [], harness := (true, "d10724a13159281178866eec72e4b0ad082aa42310ea758098ccab7289092bc1"), looks := false }, kinds := [], alts := [], laidByText := true, laidKinds := [.data, .pinned], laidTests := true, laidLooks := .later }
def MvnspecBackUptoCardSaid : Prop := Claim7.holds Tryd.pinned (.plain (OpenSpec.upto mvnspecBackSpec)) mvnspecBackUptoCard
end Rows
end Go.Proofs.YtepbfkhalkfhcaaDoor

/-
  DERIVED. GIVEN WITH THE SEED: THE CARDS: each row of YtdkmbohpmfakkaaDoorRows.lean that lists a variable, with what it lists TIED to the program's text (the seventh form; the later family's looks); each row that meets fmt, with fmt's text TOLD by the authors' own Lean function (tested against real Go, not proved from fmt's source: count such statements apart). THE CARD IS WHAT COUNTS. Prove the row's statement (the work); the ties are given (YtdkmbohpmfakkaaDoorTie.lean); close each card by the builder's one call (the guide's Derived/Test/ToyasCard.lean, 'card_holds'). Laid BY PROGRAM, IN A SANDBOX (cutbox-door.mjs). By AI agents, Wed Nov 11 2026. No macro, syntax, notation, axiom, sorry.
-/
import Derived.Test.YtdkmbohpmfakkaaDoorRows
import GoSem.ClaimSeven
namespace Go.Proofs.YtdkmbohpmfakkaaDoor
namespace Rows

/-- THE TIED CARD OF 'dovetaillaw06.MavenReads'. -/
def mavenReadsCard : Claim7 := { stood := { row := mavenReadsRow, standIns := [], harness := (true, "5daaa4609a1547be22f0b87f2984ace8f545f7d3af061b574fda843879e520d8"), looks := false }, kinds := [], alts := [], laidByText := true, laidKinds := [.data, .pinned], laidTests := true, laidLooks := .later }
def MavenReadsCardSaid : Prop := Claim7.holds Tryd.pinned (.plain (OpenSpec.ofChange mavenReadsSpec)) mavenReadsCard

/-- THE TIED CARD OF 'dovetaillaw06.MavenTrue'. -/
def mavenTrueCard : Claim7 := { stood := { row := mavenTrueRow, standIns := [], harness := (true, "5daaa4609a1547be22f0b87f2984ace8f545f7d3af061b574fda843879e520d8"), looks := false }, kinds := [], alts := [], laidByText := true, laidKinds := [.data, .pinned], laidTests := true, laidLooks := .later }
def MavenTrueCardSaid : Prop := Claim7.holds Tryd.pinned (.plain (OpenSpec.ofChange mavenTrueSpec)) mavenTrueCard

/-- THE TIED CARD OF 'dovetaillaw06.MavenCanon'. -/
def mavenCanonCard : Claim7 := { stood := { row := mavenCanonRow, standIns := [], harness := (true, "5daaa4609a1547be22f0b87f2984ace8f545f7d3af061b574fda843879e520d8"), looks := false }, kinds := [], alts := [], laidByText := true, laidKinds := [.data, .pinned], laidTests := true, laidLooks := .later }
def MavenCanonCardSaid : Prop := Claim7.holds Tryd.pinned (.plain (OpenSpec.ofChange mavenCanonSpec)) mavenCanonCard

/-- THE TIED CARD OF 'dovetaillaw06.MavenNulls'. -/
def mavenNullsCard : Claim7 := { stood := { row := mavenNullsRow, standIns := [], harness := (true, "5daaa4609a1547be22f0b87f2984ace8f545f7d3af061b574fda843879e520d8"), looks := false }, kinds := [], alts := [], laidByText := true, laidKinds := [.data, .pinned], laidTests := true, laidLooks := .later }
def MavenNullsCardSaid : Prop := Claim7.holds Tryd.pinned (.plain (OpenSpec.ofChange mavenNullsSpec)) mavenNullsCard

/-- THE TIED CARD OF 'dovetaillaw06.MavenOrders'. -/
def mavenOrdersCard : Claim7 := { stood := { row := mavenOrdersRow, standIns := [], harness := (true, "5daaa4609a1547be22f0b87f2984ace8f545f7d3af061b574fda843879e520d8"), looks := false }, kinds := [], alts := [], laidByText := true, laidKinds := [.data, .pinned], laidTests := true, laidLooks := .later }
def MavenOrdersCardSaid : Prop := Claim7.holds Tryd.pinned (.plain (OpenSpec.ofChange mavenOrdersSpec)) mavenOrdersCard

/-- THE SECOND FORM's CARD OF 'dovetaillaw06.MavenReads'. -/
def mavenReadsUptoCard : Claim7 := { stood := { row := mavenReadsUptoRow, standIns := [], harness := (true, "5daaa4609a1547be22f0b87f2984ace8f545f7d3af061b574fda843879e520d8"), looks := false }, kinds := [], alts := [], laidByText := true, laidKinds := [.data, .pinned], laidTests := true, laidLooks := .later }
def MavenReadsUptoCardSaid : Prop := Claim7.holds Tryd.pinned (.plain (OpenSpec.upto mavenReadsSpec)) mavenReadsUptoCard

/-- THE SECOND FORM's CARD OF 'dovetaillaw06.MavenTrue'. -/
def mavenTrueUptoCard : Claim7 := { stood := { row := mavenTrueUptoRow, standIns := [], harness := (true, "5daaa4609a1547be22f0b87f2984ace8f545f7d3af061b574fda843879e520d8"), looks := false }, kinds := [], alts := [], laidByText := true, laidKinds := [.data, .pinned], laidTests := true, laidLooks := .later }
def MavenTrueUptoCardSaid : Prop := Claim7.holds Tryd.pinned (.plain (OpenSpec.upto mavenTrueSpec)) mavenTrueUptoCard

/-- THE SECOND FORM's CARD OF 'dovetaillaw06.MavenCanon'. -/
def mavenCanonUptoCard : Claim7 := { stood := { row := mavenCanonUptoRow, standIns := [], harness := (true, "5daaa4609a1547be22f0b87f2984ace8f545f7d3af061b574fda843879e520d8"), looks := false }, kinds := [], alts := [], laidByText := true, laidKinds := [.data, .pinned], laidTests := true, laidLooks := .later }
def MavenCanonUptoCardSaid : Prop := Claim7.holds Tryd.pinned (.plain (OpenSpec.upto mavenCanonSpec)) mavenCanonUptoCard

/-- THE SECOND FORM's CARD OF 'dovetaillaw06.MavenNulls'. -/
def mavenNullsUptoCard : Claim7 := { stood := { row := mavenNullsUptoRow, standIns := [], harness := (true, "5daaa4609a1547be22f0b87f2984ace8f545f7d3af061b574fda843879e520d8"), looks := false }, kinds := [], alts := [], laidByText := true, laidKinds := [.data, .pinned], laidTests := true, laidLooks := .later }
def MavenNullsUptoCardSaid : Prop := Claim7.holds Tryd.pinned (.plain (OpenSpec.upto mavenNullsSpec)) mavenNullsUptoCard

/-- THE SECOND FORM's CARD OF 'dovetaillaw06.MavenOrders'. -/
def mavenOrdersUptoCard : Claim7 := { stood := { row := mavenOrdersUptoRow, standIns := [], harness := (true, "5daaa4609a1547be22f0b87f2984ace8f545f7d3af061b574fda843879e520d8"), looks := false }, kinds := [], alts := [], laidByText := true, laidKinds := [.data, .pinned], laidTests := true, laidLooks := .later }
def MavenOrdersUptoCardSaid : Prop := Claim7.holds Tryd.pinned (.plain (OpenSpec.upto mavenOrdersSpec)) mavenOrdersUptoCard
end Rows
end Go.Proofs.YtdkmbohpmfakkaaDoor

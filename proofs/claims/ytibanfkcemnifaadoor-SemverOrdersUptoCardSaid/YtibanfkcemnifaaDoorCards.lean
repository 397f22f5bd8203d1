/-
  DERIVED. GIVEN WITH THE SEED: THE CARDS: each row of YtibanfkcemnifaaDoorRows.lean that lists a variable, with what it lists TIED to the program's text (the seventh form; the later family's looks); each row that meets fmt, with fmt's text TOLD by the authors' own Lean function (tested against real Go, not proved from fmt's source: count such statements apart). THE CARD IS WHAT COUNTS. Prove the row's statement (the work); the ties are given (YtibanfkcemnifaaDoorTie.lean); close each card by the builder's one call (the guide's Derived/Test/ToyasCard.lean, 'card_holds'). Laid BY PROGRAM, IN A SANDBOX (cutbox-door.mjs). By AI agents, Wed Nov 11 2026. No macro, syntax, notation, axiom, sorry.
-/
import Derived.Test.YtibanfkcemnifaaDoorRows
import GoSem.ClaimSeven
namespace Go.Proofs.YtibanfkcemnifaaDoor
namespace Rows

/-- THE TIED CARD OF 'dovetaillaw02.SemverTrue'. -/
def semverTrueCard : Claim7 := { stood := { row := semverTrueRow, standIns := [], harness := (true, "920bf8f8c72e2c41e8b251a0ba5c4bb37d2157846e287f7b7fc26d8a4f676783"), looks := false }, kinds := [], alts := [], laidByText := true, laidKinds := [.data, .pinned], laidTests := true, laidLooks := .later }
def SemverTrueCardSaid : Prop := Claim7.holds Tryd.pinned (.plain (OpenSpec.ofChange semverTrueSpec)) semverTrueCard

/-- THE TIED CARD OF 'dovetaillaw02.SemverBack'. -/
def semverBackCard : Claim7 := { stood := { row := semverBackRow, standIns := [], harness := (true, "920bf8f8c72e2c41e8b251a0ba5c4bb37d2157846e287f7b7fc26d8a4f676783"), looks := false }, kinds := [], alts := [], laidByText := true, laidKinds := [.data, .pinned], laidTests := true, laidLooks := .later }
def SemverBackCardSaid : Prop := Claim7.holds Tryd.pinned (.plain (OpenSpec.ofChange semverBackSpec)) semverBackCard

/-- THE TIED CARD OF 'dovetaillaw02.SemverNexts'. -/
def semverNextsCard : Claim7 := { stood := { row := semverNextsRow, standIns := [], harness := (true, "920bf8f8c72e2c41e8b251a0ba5c4bb37d2157846e287f7b7fc26d8a4f676783"), looks := false }, kinds := [], alts := [], laidByText := true, laidKinds := [.data, .pinned], laidTests := true, laidLooks := .later }
def SemverNextsCardSaid : Prop := Claim7.holds Tryd.pinned (.plain (OpenSpec.ofChange semverNextsSpec)) semverNextsCard

/-- THE TIED CARD OF 'dovetaillaw02.SemverWrites'. -/
def semverWritesCard : Claim7 := { stood := { row := semverWritesRow, standIns := [], harness := (true, "920bf8f8c72e2c41e8b251a0ba5c4bb37d2157846e287f7b7fc26d8a4f676783"), looks := false }, kinds := [], alts := [], laidByText := true, laidKinds := [.data, .pinned], laidTests := true, laidLooks := .later }
def SemverWritesCardSaid : Prop := Claim7.holds Tryd.pinned (.plain (OpenSpec.ofChange semverWritesSpec)) semverWritesCard

/-- THE TIED CARD OF 'dovetaillaw02.SemverOrders'. -/
def semverOrdersCard : Claim7 := { stood := { row := semverOrdersRow, standIns := [], harness := (true, "920bf8f8c72e2c41e8b251a0ba5c4bb37d2157846e287f7b7fc26d8a4f676783"), looks := false }, kinds := [], alts := [], laidByText := true, laidKinds := [.data, .pinned], laidTests := true, laidLooks := .later }
def SemverOrdersCardSaid : Prop := Claim7.holds Tryd.pinned (.plain (OpenSpec.ofChange semverOrdersSpec)) semverOrdersCard

/-- THE SECOND FORM's CARD OF 'dovetaillaw02.SemverTrue'. -/
def semverTrueUptoCard : Claim7 := { stood := { row := semverTrueUptoRow, standIns := [], harness := (true, "920bf8f8c72e2c41e8b251a0ba5c4bb37d2157846e287f7b7fc26d8a4f676783"), looks := false }, kinds := [], alts := [], laidByText := true, laidKinds := [.data, .pinned], laidTests := true, laidLooks := .later }
def SemverTrueUptoCardSaid : Prop := Claim7.holds Tryd.pinned (.plain (OpenSpec.upto semverTrueSpec)) semverTrueUptoCard

/-- THE SECOND FORM's CARD OF 'dovetaillaw02.SemverBack'. -/
def semverBackUptoCard : Claim7 := { stood := { row := semverBackUptoRow, standIns := [], harness := (true, "920bf8f8c72e2c41e8b251a0ba5c4bb37d2157846e287f7b7fc26d8a4f676783"), looks := false }, kinds := [], alts := [], laidByText := true, laidKinds := [.data, .pinned], laidTests := true, laidLooks := .later }
def SemverBackUptoCardSaid : Prop := Claim7.holds Tryd.pinned (.plain (OpenSpec.upto semverBackSpec)) semverBackUptoCard

/-- THE SECOND FORM's CARD OF 'dovetaillaw02.SemverNexts'. -/
def semverNextsUptoCard : Claim7 := { stood := { row := semverNextsUptoRow, standIns := [], harness := (true, "920bf8f8c72e2c41e8b251a0ba5c4bb37d2157846e287f7b7fc26d8a4f676783"), looks := false }, kinds := [], alts := [], laidByText := true, laidKinds := [.data, .pinned], laidTests := true, laidLooks := .later }
def SemverNextsUptoCardSaid : Prop := Claim7.holds Tryd.pinned (.plain (OpenSpec.upto semverNextsSpec)) semverNextsUptoCard

/-- THE SECOND FORM's CARD OF 'dovetaillaw02.SemverWrites'. -/
def semverWritesUptoCard : Claim7 := { stood := { row := semverWritesUptoRow, standIns := [], harness := (true, "920bf8f8c72e2c41e8b251a0ba5c4bb37d2157846e287f7b7fc26d8a4f676783"), looks := false }, kinds := [], alts := [], laidByText := true, laidKinds := [.data, .pinned], laidTests := true, laidLooks := .later }
def SemverWritesUptoCardSaid : Prop := Claim7.holds Tryd.pinned (.plain (OpenSpec.upto semverWritesSpec)) semverWritesUptoCard

/-- THE SECOND FORM's CARD OF 'dovetaillaw02.SemverOrders'. -/
def semverOrdersUptoCard : Claim7 := { stood := { row := semverOrdersUptoRow, standIns := [], harness := (true, "920bf8f8c72e2c41e8b251a0ba5c4bb37d2157846e287f7b7fc26d8a4f676783"), looks := false }, kinds := [], alts := [], laidByText := true, laidKinds := [.data, .pinned], laidTests := true, laidLooks := .later }
def SemverOrdersUptoCardSaid : Prop := Claim7.holds Tryd.pinned (.plain (OpenSpec.upto semverOrdersSpec)) semverOrdersUptoCard
end Rows
end Go.Proofs.YtibanfkcemnifaaDoor

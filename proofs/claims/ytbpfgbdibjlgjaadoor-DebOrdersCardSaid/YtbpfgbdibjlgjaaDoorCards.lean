/-
  DERIVED. GIVEN WITH THE SEED: THE CARDS: each row of YtbpfgbdibjlgjaaDoorRows.lean that lists a variable, with what it lists TIED to the program's text (the seventh form; the later family's looks); each row that meets fmt, with fmt's text TOLD by the authors' own Lean function (tested against real Go, not proved from fmt's source: count such statements apart). THE CARD IS WHAT COUNTS. Prove the row's statement (the work); the ties are given (YtbpfgbdibjlgjaaDoorTie.lean); close each card by the builder's one call (the guide's Derived/Test/ToyasCard.lean, 'card_holds'). Laid BY PROGRAM, IN A SANDBOX (cutbox-door.mjs). By AI agents, Wed Nov 11 2026. No macro, syntax, notation, axiom, sorry.
-/
import Derived.Test.YtbpfgbdibjlgjaaDoorRows
import GoSem.ClaimSeven
namespace Go.Proofs.YtbpfgbdibjlgjaaDoor
namespace Rows

/-- THE TIED CARD OF 'dovetaillaw04.DebReads'. -/
def debReadsCard : Claim7 := { stood := { row := debReadsRow, standIns := [], harness := (true, "ed14a3a1e83308c9280350109a5ec4e52ac0ad30278b8a1c2bc00aec5e2f233b"), looks := false }, kinds := [], alts := [], laidByText := true, laidKinds := [.data, .pinned], laidTests := true, laidLooks := .later }
def DebReadsCardSaid : Prop := Claim7.holds Tryd.pinned (.plain (OpenSpec.ofChange debReadsSpec)) debReadsCard

/-- THE TIED CARD OF 'dovetaillaw04.DebTrue'. -/
def debTrueCard : Claim7 := { stood := { row := debTrueRow, standIns := [], harness := (true, "ed14a3a1e83308c9280350109a5ec4e52ac0ad30278b8a1c2bc00aec5e2f233b"), looks := false }, kinds := [], alts := [], laidByText := true, laidKinds := [.data, .pinned], laidTests := true, laidLooks := .later }
def DebTrueCardSaid : Prop := Claim7.holds Tryd.pinned (.plain (OpenSpec.ofChange debTrueSpec)) debTrueCard

/-- THE TIED CARD OF 'dovetaillaw04.DebTilde'. -/
def debTildeCard : Claim7 := { stood := { row := debTildeRow, standIns := [], harness := (true, "ed14a3a1e83308c9280350109a5ec4e52ac0ad30278b8a1c2bc00aec5e2f233b"), looks := false }, kinds := [], alts := [], laidByText := true, laidKinds := [.data, .pinned], laidTests := true, laidLooks := .later }
def DebTildeCardSaid : Prop := Claim7.holds Tryd.pinned (.plain (OpenSpec.ofChange debTildeSpec)) debTildeCard

/-- THE TIED CARD OF 'dovetaillaw04.DebWrites'. -/
def debWritesCard : Claim7 := { stood := { row := debWritesRow, standIns := [], harness := (true, "ed14a3a1e83308c9280350109a5ec4e52ac0ad30278b8a1c2bc00aec5e2f233b"), looks := false }, kinds := [], alts := [], laidByText := true, laidKinds := [.data, .pinned], laidTests := true, laidLooks := .later }
def DebWritesCardSaid : Prop := Claim7.holds Tryd.pinned (.plain (OpenSpec.ofChange debWritesSpec)) debWritesCard

/-- THE TIED CARD OF 'dovetaillaw04.DebBack'. -/
def debBackCard : Claim7 := { stood := { row := debBackRow, standIns := [], harness := (true, "ed14a3a1e83308c9280350109a5ec4e52ac0ad30278b8a1c2bc00aec5e2f233b"), looks := false }, kinds := [], alts := [], laidByText := true, laidKinds := [.data, .pinned], laidTests := true, laidLooks := .later }
def DebBackCardSaid : Prop := Claim7.holds Tryd.pinned (.plain (OpenSpec.ofChange debBackSpec)) debBackCard

/-- THE TIED CARD OF 'dovetaillaw04.DebOrders'. -/
def debOrdersCard : Claim7 := { stood := { row := debOrdersRow, standIns := [], harness := (true, "ed14a3a1e83308c9280350109a5ec4e52ac0ad30278b8a1c2bc00aec5e2f233b"), looks := false }, kinds := [], alts := [], laidByText := true, laidKinds := [.data, .pinned], laidTests := true, laidLooks := .later }
def DebOrdersCardSaid : Prop := Claim7.holds Tryd.pinned (.plain (OpenSpec.ofChange debOrdersSpec)) debOrdersCard

/-- THE SECOND FORM's CARD OF 'dovetaillaw04.DebReads'. -/
def debReadsUptoCard : Claim7 := { stood := { row := debReadsUptoRow, standIns := [], harness := (true, "ed14a3a1e83308c9280350109a5ec4e52ac0ad30278b8a1c2bc00aec5e2f233b"), looks := false }, kinds := [], alts := [], laidByText := true, laidKinds := [.data, .pinned], laidTests := true, laidLooks := .later }
def DebReadsUptoCardSaid : Prop := Claim7.holds Tryd.pinned (.plain (OpenSpec.upto debReadsSpec)) debReadsUptoCard

/-- THE SECOND FORM's CARD OF 'dovetaillaw04.DebTrue'. -/
def debTrueUptoCard : Claim7 := { stood := { row := debTrueUptoRow, standIns := [], harness := (true, "ed14a3a1e83308c9280350109a5ec4e52ac0ad30278b8a1c2bc00aec5e2f233b"), looks := false }, kinds := [], alts := [], laidByText := true, laidKinds := [.data, .pinned], laidTests := true, laidLooks := .later }
def DebTrueUptoCardSaid : Prop := Claim7.holds Tryd.pinned (.plain (OpenSpec.upto debTrueSpec)) debTrueUptoCard

/-- THE SECOND FORM's CARD OF 'dovetaillaw04.DebTilde'. -/
def debTildeUptoCard : Claim7 := { stood := { row := debTildeUptoRow, standIns := [], harness := (true, "ed14a3a1e83308c9280350109a5ec4e52ac0ad30278b8a1c2bc00aec5e2f233b"), looks := false }, kinds := [], alts := [], laidByText := true, laidKinds := [.data, .pinned], laidTests := true, laidLooks := .later }
def DebTildeUptoCardSaid : Prop := Claim7.holds Tryd.pinned (.plain (OpenSpec.upto debTildeSpec)) debTildeUptoCard

/-- THE SECOND FORM's CARD OF 'dovetaillaw04.DebWrites'. -/
def debWritesUptoCard : Claim7 := { stood := { row := debWritesUptoRow, standIns := [], harness := (true, "ed14a3a1e83308c9280350109a5ec4e52ac0ad30278b8a1c2bc00aec5e2f233b"), looks := false }, kinds := [], alts := [], laidByText := true, laidKinds := [.data, .pinned], laidTests := true, laidLooks := .later }
def DebWritesUptoCardSaid : Prop := Claim7.holds Tryd.pinned (.plain (OpenSpec.upto debWritesSpec)) debWritesUptoCard

/-- THE SECOND FORM's CARD OF 'dovetaillaw04.DebBack'. -/
def debBackUptoCard : Claim7 := { stood := { row := debBackUptoRow, standIns := [], harness := (true, "ed14a3a1e83308c9280350109a5ec4e52ac0ad30278b8a1c2bc00aec5e2f233b"), looks := false }, kinds := [], alts := [], laidByText := true, laidKinds := [.data, .pinned], laidTests := true, laidLooks := .later }
def DebBackUptoCardSaid : Prop := Claim7.holds Tryd.pinned (.plain (OpenSpec.upto debBackSpec)) debBackUptoCard

/-- THE SECOND FORM's CARD OF 'dovetaillaw04.DebOrders'. -/
def debOrdersUptoCard : Claim7 := { stood := { row := debOrdersUptoRow, standIns := [], harness := (true, "ed14a3a1e83308c9280350109a5ec4e52ac0ad30278b8a1c2bc00aec5e2f233b"), looks := false }, kinds := [], alts := [], laidByText := true, laidKinds := [.data, .pinned], laidTests := true, laidLooks := .later }
def DebOrdersUptoCardSaid : Prop := Claim7.holds Tryd.pinned (.plain (OpenSpec.upto debOrdersSpec)) debOrdersUptoCard
end Rows
end Go.Proofs.YtbpfgbdibjlgjaaDoor

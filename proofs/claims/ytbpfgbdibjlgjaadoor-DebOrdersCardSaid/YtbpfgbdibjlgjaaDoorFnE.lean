/- Lemmas for the claims of this seat (a verified symbolic evaluator, and contracts of functions): own work; no condition. -/
import Derived.Test.YtbpfgbdibjlgjaaDoorEvD
import Derived.Test.YtbpfgbdibjlgjaaDoorFnA
import Derived.Test.YtbpfgbdibjlgjaaDoorCards
import Derived.Test.YtbpfgbdibjlgjaaDoorTie
import Derived.WalkKit
import Derived.ProofKit
import Derived.OpenShut
import Derived.Deep.DeepHandedRow
import Derived.Lib.LaidTab
namespace Go.Proofs.YtbpfgbdibjlgjaaDoor
open Go.ChangeShapes Go.WideShapes Go.ChangeAt Go.RowKit Go.Ab
theorem own : ownKnob Tryd.prog.godebug = none := by kernel_rfl
theorem laidOut : laidOutB Tryd.prog = true := by kernel_rfl
theorem rec3 : Tryd.prog.readableRec 3 = true ∧ 3 < Tryd.prog.types.size := ⟨by kernel_rfl, of_decide_eq_true (by kernel_rfl)⟩
theorem rec9 : Tryd.prog.readableRec 9 = true ∧ 9 < Tryd.prog.types.size := ⟨by kernel_rfl, of_decide_eq_true (by kernel_rfl)⟩
theorem rec23 : Tryd.prog.readableRec 23 = true ∧ 23 < Tryd.prog.types.size := ⟨by kernel_rfl, of_decide_eq_true (by kernel_rfl)⟩
theorem cells23 : Tryd.prog.cellsOf 23 = 3 := by kernel_rfl
theorem cells9 : Tryd.prog.cellsOf 9 = 1 := by kernel_rfl
noncomputable def theWorld (os : Os) : World := laidWorld Tryd.prog os [(2, flatD 4 (Rows.laid_unicode_utf8_acceptRanges (H := Unit))), (1, flatD 4 Rows.laid_unicode_utf8_first)]
end Go.Proofs.YtbpfgbdibjlgjaaDoor

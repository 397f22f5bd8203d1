/- Lemmas for the claims of this seat (a verified symbolic evaluator, and contracts of functions): own work; no condition. -/
import Derived.Test.YtibanfkcemnifaaDoorFnF
import Derived.Test.YtibanfkcemnifaaDoorEvE
namespace Go.Proofs.YtibanfkcemnifaaDoor
open Go.ChangeShapes Go.WideShapes Go.ChangeAt Go.RowKit Go.Ab Go.Sem
theorem ct27 : Tryd.prog.cellTypes Tryd.prog.depth 27 = some [9, 9, 9, 25, 25] := by kernel_rfl
theorem rec25 : Tryd.prog.readableRec 25 = true ∧ 25 < Tryd.prog.types.size := ⟨by kernel_rfl, of_decide_eq_true (by kernel_rfl)⟩
theorem bulk_row {H : Type} {l : List (List UInt8)} {d : DataW H} (h : RowD l d) : bulkR l ≤ Rows.uptoBulk d := by
  rcases h with ⟨rfl, rfl⟩ | ⟨sp, rfl⟩
  · exact Nat.zero_le _
  · have key : ∀ l : List (List UInt8), bulkR l ≤ Rows.uptoBulkAll (l.map fun s => (DataW.lit (.string s) : DataW H)) := by
      intro l
      induction l with
      | nil => exact Nat.zero_le _
      | cons x l ih =>
        simp only [bulkR, List.map_cons, List.sum_cons, Rows.uptoBulkAll, Rows.uptoBulk] at ih ⊢
        omega
    have := key l
    simp only [Rows.uptoBulk]
    omega
end Go.Proofs.YtibanfkcemnifaaDoor

/-
  NARROWER THAN 'FOR EVERY INPUT', by the rows' own cells (each row's printed sentence says how): SemverTrue: laid · SemverBack: laid · SemverNexts: laid · SemverWrites: laid · SemverOrders: laid.
  DERIVED. THE GIVEN ROWS OF THIS SEAT. 5 by the template 'for every input the law returns true; each argument reads behind the call as it read before'; 0 by the template 'total and deterministic' (their statements: YtibanfkcemnifaaDoorTotals.lean).
  GIVEN WITH THE SEED: the statements are not yours to turn. If you find one false, say at which input.
  Laid BY PROGRAM, IN A SANDBOX (cutbox-rows.mjs): the forced cells as the released guide's own fill.sh prints them over the translation 75107391d4073057… (all of the seat's roots in one cut). By AI agents, Wed Nov 11 2026. No macro, syntax, notation, axiom, sorry.
-/
import Derived.Test.YtibanfkcemnifaaDoorChecked
import GoSem.PinnedTables
import GoSem.Claim
import GoSem.ClaimJoined
import GoSem.ClaimMapViews
import Derived.JoinedTies
import Derived.KernelRfl
namespace Go.Proofs.YtibanfkcemnifaaDoor
/- THE CELL 'sum', in the pinned program and in every row, IS THE sha256 OF THE DUMP (.gsa) THAT YtibanfkcemnifaaDoorProg.lean LOADS. Nothing in Lean hashes anything: it is a label: what it is worth is what the hold of that sum in a sandbox is worth. -/
noncomputable def Tryd.pinned : Pinned := { name := "ytibanfkcemnifaadoor", sum := "75107391d4073057896586fa5b0b8da8e5fffccdef00462619cd256de36a5e67", checked := Tryd.checked }
namespace Rows
def none {H : Type} : Left H := { results := [], args := [] }

/- WHAT THE LISTED PACKAGE-LEVEL VARIABLES READ AS WHEN THE CALL BEGINS. Each datum BY PROGRAM (the guide's laid-datum.mjs) off the statement by which the dump's own 'gosem.cut.vars' lays the variable. In a bare row this is a premise. The card (YtibanfkcemnifaaDoorCards.lean) ties it to the program's text. -/
def laid_unicode_utf8_acceptRanges {H : Type} : DataW H := .agg [.agg [.lit (.int .u8 128), .lit (.int .u8 191)], .agg [.lit (.int .u8 160), .lit (.int .u8 191)], .agg [.lit (.int .u8 128), .lit (.int .u8 159)], .agg [.lit (.int .u8 144), .lit (.int .u8 191)], .agg [.lit (.int .u8 128), .lit (.int .u8 143)], .agg [.lit (.int .u8 0), .lit (.int .u8 0)], .agg [.lit (.int .u8 0), .lit (.int .u8 0)], .agg [.lit (.int .u8 0), .lit (.int .u8 0)], .agg [.lit (.int .u8 0), .lit (.int .u8 0)], .agg [.lit (.int .u8 0), .lit (.int .u8 0)], .agg [.lit (.int .u8 0), .lit (.int .u8 0)], .agg [.lit (.int .u8 0), .lit (.int .u8 0)], .agg [.lit (.int .u8 0), .lit (.int .u8 0)], .agg [.lit (.int .u8 0), .lit (.int .u8 0)], .agg [.lit (.int .u8 0), .lit (.int .u8 0)], .agg [.lit (.int .u8 0), .lit (.int .u8 0)]]
/-- One of Go's own tables, pinned by name: the form's constant. -/
def laid_unicode_utf8_first : DataW Unit := Go.Pinned.utf8First

/-- 'dovetaillaw02.SemverTrue': WHATEVER THE INPUT: true; the input reads as it did. -/
def semverTrueSpec : ChangeSpec := { name := "semverTrue", fn := fun _ => fun
  | [d1, d2, d3] => { results := [.lit (.bool true)], args := [d1, d2, d3] }
  | _ => none }
def semverTrueRow : OpenClaim := { program := "ytibanfkcemnifaadoor", sum := "75107391d4073057896586fa5b0b8da8e5fffccdef00462619cd256de36a5e67", func := "dovetail/dovetaillaw02.SemverTrue", spec := "semverTrue", inPlace := ["internal/abi.NoEscape", "internal/bytealg.MakeNoZero", "internal/bytealg.IndexByteString", "internal/bytealg.IndexString", "internal/bytealg.abigen_runtime_cmpstring"], unfollowed := true, recurses := true, named := ["unicode/utf8.first", "unicode/utf8.acceptRanges", "internal/bytealg.MaxLen"], apart := false, laid := [("unicode/utf8.acceptRanges", laid_unicode_utf8_acceptRanges), ("unicode/utf8.first", laid_unicode_utf8_first)] }
def SemverTrueSaid : Prop := semverTrueRow.holds Tryd.pinned (OpenSpec.ofChange semverTrueSpec)

/-- ITS FALSE NEIGHBOUR: 'it returns false'. Refute it at one input. -/
def semverTrueWrong : ChangeSpec := { name := "semverTrue", fn := fun _ => fun
  | [d1, d2, d3] => { results := [.lit (.bool false)], args := [d1, d2, d3] }
  | _ => none }
def SemverTrueWrongFalsely : Prop := semverTrueRow.holds Tryd.pinned (OpenSpec.ofChange semverTrueWrong)

/-- 'dovetaillaw02.SemverBack': WHATEVER THE INPUT: true; the input reads as it did. -/
def semverBackSpec : ChangeSpec := { name := "semverBack", fn := fun _ => fun
  | [d1, d2] => { results := [.lit (.bool true)], args := [d1, d2] }
  | _ => none }
def semverBackRow : OpenClaim := { program := "ytibanfkcemnifaadoor", sum := "75107391d4073057896586fa5b0b8da8e5fffccdef00462619cd256de36a5e67", func := "dovetail/dovetaillaw02.SemverBack", spec := "semverBack", inPlace := ["internal/abi.NoEscape", "internal/bytealg.MakeNoZero", "internal/bytealg.IndexByteString", "internal/bytealg.IndexString", "internal/bytealg.abigen_runtime_cmpstring"], unfollowed := true, recurses := true, named := ["unicode/utf8.first", "unicode/utf8.acceptRanges", "internal/bytealg.MaxLen"], apart := false, laid := [("unicode/utf8.acceptRanges", laid_unicode_utf8_acceptRanges), ("unicode/utf8.first", laid_unicode_utf8_first)] }
def SemverBackSaid : Prop := semverBackRow.holds Tryd.pinned (OpenSpec.ofChange semverBackSpec)

/-- ITS FALSE NEIGHBOUR: 'it returns false'. Refute it at one input. -/
def semverBackWrong : ChangeSpec := { name := "semverBack", fn := fun _ => fun
  | [d1, d2] => { results := [.lit (.bool false)], args := [d1, d2] }
  | _ => none }
def SemverBackWrongFalsely : Prop := semverBackRow.holds Tryd.pinned (OpenSpec.ofChange semverBackWrong)

/-- 'dovetaillaw02.SemverNexts': WHATEVER THE INPUT: true; the input reads as it did. -/
def semverNextsSpec : ChangeSpec := { name := "semverNexts", fn := fun _ => fun
  | [d1, d2] => { results := [.lit (.bool true)], args := [d1, d2] }
  | _ => none }
def semverNextsRow : OpenClaim := { program := "ytibanfkcemnifaadoor", sum := "75107391d4073057896586fa5b0b8da8e5fffccdef00462619cd256de36a5e67", func := "dovetail/dovetaillaw02.SemverNexts", spec := "semverNexts", inPlace := ["internal/abi.NoEscape", "internal/bytealg.MakeNoZero", "internal/bytealg.IndexByteString", "internal/bytealg.IndexString", "internal/bytealg.abigen_runtime_cmpstring"], unfollowed := true, recurses := true, named := ["unicode/utf8.first", "unicode/utf8.acceptRanges", "internal/bytealg.MaxLen"], apart := false, laid := [("unicode/utf8.acceptRanges", laid_unicode_utf8_acceptRanges), ("unicode/utf8.first", laid_unicode_utf8_first)] }
def SemverNextsSaid : Prop := semverNextsRow.holds Tryd.pinned (OpenSpec.ofChange semverNextsSpec)

/-- ITS FALSE NEIGHBOUR: 'it returns false'. Refute it at one input. -/
def semverNextsWrong : ChangeSpec := { name := "semverNexts", fn := fun _ => fun
  | [d1, d2] => { results := [.lit (.bool false)], args := [d1, d2] }
  | _ => none }
def SemverNextsWrongFalsely : Prop := semverNextsRow.holds Tryd.pinned (OpenSpec.ofChange semverNextsWrong)

/-- 'dovetaillaw02.SemverWrites': WHATEVER THE INPUT: true; the input reads as it did. -/
def semverWritesSpec : ChangeSpec := { name := "semverWrites", fn := fun _ => fun
  | [d1, d2] => { results := [.lit (.bool true)], args := [d1, d2] }
  | _ => none }
def semverWritesRow : OpenClaim := { program := "ytibanfkcemnifaadoor", sum := "75107391d4073057896586fa5b0b8da8e5fffccdef00462619cd256de36a5e67", func := "dovetail/dovetaillaw02.SemverWrites", spec := "semverWrites", inPlace := ["internal/abi.NoEscape", "internal/bytealg.MakeNoZero", "internal/bytealg.IndexByteString", "internal/bytealg.IndexString", "internal/bytealg.abigen_runtime_cmpstring"], unfollowed := true, recurses := true, named := ["unicode/utf8.first", "unicode/utf8.acceptRanges", "internal/bytealg.MaxLen"], apart := false, laid := [("unicode/utf8.acceptRanges", laid_unicode_utf8_acceptRanges), ("unicode/utf8.first", laid_unicode_utf8_first)] }
def SemverWritesSaid : Prop := semverWritesRow.holds Tryd.pinned (OpenSpec.ofChange semverWritesSpec)

/-- ITS FALSE NEIGHBOUR: 'it returns false'. Refute it at one input. -/
def semverWritesWrong : ChangeSpec := { name := "semverWrites", fn := fun _ => fun
  | [d1, d2] => { results := [.lit (.bool false)], args := [d1, d2] }
  | _ => none }
def SemverWritesWrongFalsely : Prop := semverWritesRow.holds Tryd.pinned (OpenSpec.ofChange semverWritesWrong)

/-- 'dovetaillaw02.SemverOrders': WHATEVER THE INPUT: true; the input reads as it did. -/
def semverOrdersSpec : ChangeSpec := { name := "semverOrders", fn := fun _ => fun
  | [d1, d2, d3, d4, d5] => { results := [.lit (.bool true)], args := [d1, d2, d3, d4, d5] }
  | _ => none }
def semverOrdersRow : OpenClaim := { program := "ytibanfkcemnifaadoor", sum := "75107391d4073057896586fa5b0b8da8e5fffccdef00462619cd256de36a5e67", func := "dovetail/dovetaillaw02.SemverOrders", spec := "semverOrders", inPlace := ["internal/abi.NoEscape", "internal/bytealg.MakeNoZero", "internal/bytealg.IndexByteString", "internal/bytealg.IndexString", "internal/bytealg.abigen_runtime_cmpstring"], unfollowed := true, recurses := true, named := ["unicode/utf8.first", "unicode/utf8.acceptRanges", "internal/bytealg.MaxLen"], apart := false, laid := [("unicode/utf8.acceptRanges", laid_unicode_utf8_acceptRanges), ("unicode/utf8.first", laid_unicode_utf8_first)] }
def SemverOrdersSaid : Prop := semverOrdersRow.holds Tryd.pinned (OpenSpec.ofChange semverOrdersSpec)

/-- ITS FALSE NEIGHBOUR: 'it returns false'. Refute it at one input. -/
def semverOrdersWrong : ChangeSpec := { name := "semverOrders", fn := fun _ => fun
  | [d1, d2, d3, d4, d5] => { results := [.lit (.bool false)], args := [d1, d2, d3, d4, d5] }
  | _ => none }
def SemverOrdersWrongFalsely : Prop := semverOrdersRow.holds Tryd.pinned (OpenSpec.ofChange semverOrdersWrong)

/- THE SECOND FORM. 'bulk': how many values and letters a reading holds, each counted each time it is reached (what is shared counts as often as it is met; a slice's spare places count too). A statement '..UptoSaid' is the law's where the arguments, and the package variables that the reading takes, are together of bulk at most 1048576: NARROWER than '..Said'. Prove '..Said' where nothing that the law and all that it calls make is longer than what came in: it says more and counts as full. Else prove '..UptoSaid'. A law counts once. -/
mutual
def uptoBulk {H : Type} : DataW H → Nat
  | .lit (.string bytes) => bytes.length + 1
  | .lit _ => 1
  | .nil => 1
  | .ptr d => uptoBulk d + 1
  | .slice elems spare => uptoBulkAll elems + uptoBulkAll spare + 1
  | .agg parts => uptoBulkAll parts + 1
  | .iface _ d => uptoBulk d + 1
  | .map entries => uptoBulkEntries entries + 1
  | .held _ => 1
def uptoBulkAll {H : Type} : List (DataW H) → Nat
  | [] => 0
  | d :: r => uptoBulk d + uptoBulkAll r
def uptoBulkEntries {H : Type} : List (Lit × DataW H) → Nat
  | [] => 0
  | x :: r => uptoBulkEntry x + uptoBulkEntries r
def uptoBulkEntry {H : Type} : Lit × DataW H → Nat
  | (.string bytes, d) => bytes.length + uptoBulk d + 1
  | (_, d) => uptoBulk d + 1
 end
def uptoSmall : (H : Type) → List (DataW H) → Bool := fun _ ds => decide (uptoBulkAll ds ≤ 1048576)
def OpenSpec.upto (s : _root_.Go.ChangeSpec) : _root_.Go.OpenSpec := { _root_.Go.OpenSpec.ofChange s with cond := some uptoSmall }

/-- 'dovetaillaw02.SemverTrue', WHERE WHAT IT READS IS OF BULK AT MOST 1048576: true; the input reads as it did. -/
def semverTrueUptoRow : OpenClaim := { program := "ytibanfkcemnifaadoor", sum := "75107391d4073057896586fa5b0b8da8e5fffccdef00462619cd256de36a5e67", func := "dovetail/dovetaillaw02.SemverTrue", spec := "semverTrue", inPlace := ["internal/abi.NoEscape", "internal/bytealg.MakeNoZero", "internal/bytealg.IndexByteString", "internal/bytealg.IndexString", "internal/bytealg.abigen_runtime_cmpstring"], unfollowed := true, recurses := true, named := ["unicode/utf8.first", "unicode/utf8.acceptRanges", "internal/bytealg.MaxLen"], apart := false, laid := [("unicode/utf8.acceptRanges", laid_unicode_utf8_acceptRanges), ("unicode/utf8.first", laid_unicode_utf8_first)], narrowed := true }
def SemverTrueUptoSaid : Prop := semverTrueUptoRow.holds Tryd.pinned (OpenSpec.upto semverTrueSpec)

/-- 'dovetaillaw02.SemverBack', WHERE WHAT IT READS IS OF BULK AT MOST 1048576: true; the input reads as it did. -/
def semverBackUptoRow : OpenClaim := { program := "ytibanfkcemnifaadoor", sum := "75107391d4073057896586fa5b0b8da8e5fffccdef00462619cd256de36a5e67", func := "dovetail/dovetaillaw02.SemverBack", spec := "semverBack", inPlace := ["internal/abi.NoEscape", "internal/bytealg.MakeNoZero", "internal/bytealg.IndexByteString", "internal/bytealg.IndexString", "internal/bytealg.abigen_runtime_cmpstring"], unfollowed := true, recurses := true, named := ["unicode/utf8.first", "unicode/utf8.acceptRanges", "internal/bytealg.MaxLen"], apart := false, laid := [("unicode/utf8.acceptRanges", laid_unicode_utf8_acceptRanges), ("unicode/utf8.first", laid_unicode_utf8_first)], narrowed := true }
def SemverBackUptoSaid : Prop := semverBackUptoRow.holds Tryd.pinned (OpenSpec.upto semverBackSpec)

/-- 'dovetaillaw02.SemverNexts', WHERE WHAT IT READS IS OF BULK AT MOST 1048576: true; the input reads as it did. -/
def semverNextsUptoRow : OpenClaim := { program := "ytibanfkcemnifaadoor", sum := "75107391d4073057896586fa5b0b8da8e5fffccdef00462619cd256de36a5e67", func := "dovetail/dovetaillaw02.SemverNexts", spec := "semverNexts", inPlace := ["internal/abi.NoEscape", "internal/bytealg.MakeNoZero", "internal/bytealg.IndexByteString", "internal/bytealg.IndexString", "internal/bytealg.abigen_runtime_cmpstring"], unfollowed := true, recurses := true, named := ["unicode/utf8.first", "unicode/utf8.acceptRanges", "internal/bytealg.MaxLen"], apart := false, laid := [("unicode/utf8.acceptRanges", laid_unicode_utf8_acceptRanges), ("unicode/utf8.first", laid_unicode_utf8_first)], narrowed := true }
def SemverNextsUptoSaid : Prop := semverNextsUptoRow.holds Tryd.pinned (OpenSpec.upto semverNextsSpec)

/-- 'dovetaillaw02.SemverWrites', WHERE WHAT IT READS IS OF BULK AT MOST 1048576: true; the input reads as it did. -/
def semverWritesUptoRow : OpenClaim := { program := "ytibanfkcemnifaadoor", sum := "75107391d4073057896586fa5b0b8da8e5fffccdef00462619cd256de36a5e67", func := "dovetail/dovetaillaw02.SemverWrites", spec := "semverWrites", inPlace := ["internal/abi.NoEscape", "internal/bytealg.MakeNoZero", "internal/bytealg.IndexByteString", "internal/bytealg.IndexString", "internal/bytealg.abigen_runtime_cmpstring"], unfollowed := true, recurses := true, named := ["unicode/utf8.first", "unicode/utf8.acceptRanges", "internal/bytealg.MaxLen"], apart := false, laid := [("unicode/utf8.acceptRanges", laid_unicode_utf8_acceptRanges), ("unicode/utf8.first", laid_unicode_utf8_first)], narrowed := true }
def SemverWritesUptoSaid : Prop := semverWritesUptoRow.holds Tryd.pinned (OpenSpec.upto semverWritesSpec)

/-- 'dovetaillaw02.SemverOrders', WHERE WHAT IT READS IS OF BULK AT MOST 1048576: true; the input reads as it did. -/
def semverOrdersUptoRow : OpenClaim := { program := "ytibanfkcemnifaadoor", sum := "75107391d4073057896586fa5b0b8da8e5fffccdef00462619cd256de36a5e67", func := "dovetail/dovetaillaw02.SemverOrders", spec := "semverOrders", inPlace := ["internal/abi.NoEscape", "internal/bytealg.MakeNoZero", "internal/bytealg.IndexByteString", "internal/bytealg.IndexString", "internal/bytealg.abigen_runtime_cmpstring"], unfollowed := true, recurses := true, named := ["unicode/utf8.first", "unicode/utf8.acceptRanges", "internal/bytealg.MaxLen"], apart := false, laid := [("unicode/utf8.acceptRanges", laid_unicode_utf8_acceptRanges), ("unicode/utf8.first", laid_unicode_utf8_first)], narrowed := true }
def SemverOrdersUptoSaid : Prop := semverOrdersUptoRow.holds Tryd.pinned (OpenSpec.upto semverOrdersSpec)

end Rows
end Go.Proofs.YtibanfkcemnifaaDoor

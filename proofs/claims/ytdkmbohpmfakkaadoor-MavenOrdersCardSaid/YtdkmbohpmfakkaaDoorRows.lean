/-
  NARROWER THAN 'FOR EVERY INPUT', by the rows' own cells (each row's printed sentence says how): MavenReads: laid · MavenTrue: laid · MavenCanon: laid · MavenNulls: laid · MavenOrders: laid.
  DERIVED. THE GIVEN ROWS OF THIS SEAT. 5 by the template 'for every input the law returns true; each argument reads behind the call as it read before'; 0 by the template 'total and deterministic' (their statements: YtdkmbohpmfakkaaDoorTotals.lean).
  GIVEN WITH THE SEED: the statements are not yours to turn. If you find one false, say at which input.
  Laid BY PROGRAM, IN A SANDBOX (cutbox-rows.mjs): the forced cells as the released guide's own fill.sh prints them over the translation e64b0811132126f6… (all of the seat's roots in one cut). By AI agents, Wed Nov 11 2026. No macro, syntax, notation, axiom, sorry.
-/
import Derived.Test.YtdkmbohpmfakkaaDoorChecked
import GoSem.PinnedTables
import GoSem.Claim
import GoSem.ClaimJoined
import GoSem.ClaimMapViews
import Derived.JoinedTies
import Derived.KernelRfl
namespace Go.Proofs.YtdkmbohpmfakkaaDoor
/- THE CELL 'sum', in the pinned program and in every row, IS THE sha256 OF THE DUMP (.gsa) THAT YtdkmbohpmfakkaaDoorProg.lean LOADS. Nothing in Lean hashes anything: it is a label: what it is worth is what the hold of that sum in a sandbox is worth. -/
noncomputable def Tryd.pinned : Pinned := { name := "ytdkmbohpmfakkaadoor", sum := "e64b0811132126f650441241a642d7ced50ab116f660cf31998a7271c1c0ad43", checked := Tryd.checked }
namespace Rows
def none {H : Type} : Left H := { results := [], args := [] }

/- WHAT THE LISTED PACKAGE-LEVEL VARIABLES READ AS WHEN THE CALL BEGINS. Each datum BY PROGRAM (the guide's laid-datum.mjs) off the statement by which the dump's own 'gosem.cut.vars' lays the variable. In a bare row this is a premise. The card (YtdkmbohpmfakkaaDoorCards.lean) ties it to the program's text. -/
def laid_unicode_utf8_acceptRanges {H : Type} : DataW H := .agg [.agg [.lit (.int .u8 128), .lit (.int .u8 191)], .agg [.lit (.int .u8 160), .lit (.int .u8 191)], .agg [.lit (.int .u8 128), .lit (.int .u8 159)], .agg [.lit (.int .u8 144), .lit (.int .u8 191)], .agg [.lit (.int .u8 128), .lit (.int .u8 143)], .agg [.lit (.int .u8 0), .lit (.int .u8 0)], .agg [.lit (.int .u8 0), .lit (.int .u8 0)], .agg [.lit (.int .u8 0), .lit (.int .u8 0)], .agg [.lit (.int .u8 0), .lit (.int .u8 0)], .agg [.lit (.int .u8 0), .lit (.int .u8 0)], .agg [.lit (.int .u8 0), .lit (.int .u8 0)], .agg [.lit (.int .u8 0), .lit (.int .u8 0)], .agg [.lit (.int .u8 0), .lit (.int .u8 0)], .agg [.lit (.int .u8 0), .lit (.int .u8 0)], .agg [.lit (.int .u8 0), .lit (.int .u8 0)], .agg [.lit (.int .u8 0), .lit (.int .u8 0)]]
/-- One of Go's own tables, pinned by name: the form's constant. -/
def laid_unicode_utf8_first : DataW Unit := Go.Pinned.utf8First

/-- 'dovetaillaw06.MavenReads': WHATEVER THE INPUT: true; the input reads as it did. -/
def mavenReadsSpec : ChangeSpec := { name := "mavenReads", fn := fun _ => fun
  | [d] => { results := [.lit (.bool true)], args := [d] }
  | _ => none }
def mavenReadsRow : OpenClaim := { program := "ytdkmbohpmfakkaadoor", sum := "e64b0811132126f650441241a642d7ced50ab116f660cf31998a7271c1c0ad43", func := "dovetail/dovetaillaw06.MavenReads", spec := "mavenReads", inPlace := ["internal/bytealg.IndexByteString", "internal/bytealg.IndexString", "internal/abi.NoEscape", "internal/bytealg.abigen_runtime_cmpstring"], unfollowed := true, recurses := true, named := ["unicode/utf8.first", "unicode/utf8.acceptRanges", "internal/bytealg.MaxLen"], apart := false, laid := [("unicode/utf8.acceptRanges", laid_unicode_utf8_acceptRanges), ("unicode/utf8.first", laid_unicode_utf8_first)] }
def MavenReadsSaid : Prop := mavenReadsRow.holds Tryd.pinned (OpenSpec.ofChange mavenReadsSpec)

/-- ITS FALSE NEIGHBOUR: 'it returns false'. Refute it at one input. -/
def mavenReadsWrong : ChangeSpec := { name := "mavenReads", fn := fun _ => fun
  | [d] => { results := [.lit (.bool false)], args := [d] }
  | _ => none }
def MavenReadsWrongFalsely : Prop := mavenReadsRow.holds Tryd.pinned (OpenSpec.ofChange mavenReadsWrong)

/-- 'dovetaillaw06.MavenTrue': WHATEVER THE INPUT: true; the input reads as it did. -/
def mavenTrueSpec : ChangeSpec := { name := "mavenTrue", fn := fun _ => fun
  | [d1, d2, d3] => { results := [.lit (.bool true)], args := [d1, d2, d3] }
  | _ => none }
def mavenTrueRow : OpenClaim := { program := "ytdkmbohpmfakkaadoor", sum := "e64b0811132126f650441241a642d7ced50ab116f660cf31998a7271c1c0ad43", func := "dovetail/dovetaillaw06.MavenTrue", spec := "mavenTrue", inPlace := ["internal/bytealg.IndexByteString", "internal/bytealg.IndexString", "internal/bytealg.abigen_runtime_cmpstring", "internal/abi.NoEscape"], unfollowed := true, recurses := true, named := ["unicode/utf8.first", "unicode/utf8.acceptRanges", "internal/bytealg.MaxLen"], apart := false, laid := [("unicode/utf8.acceptRanges", laid_unicode_utf8_acceptRanges), ("unicode/utf8.first", laid_unicode_utf8_first)] }
def MavenTrueSaid : Prop := mavenTrueRow.holds Tryd.pinned (OpenSpec.ofChange mavenTrueSpec)

/-- ITS FALSE NEIGHBOUR: 'it returns false'. Refute it at one input. -/
def mavenTrueWrong : ChangeSpec := { name := "mavenTrue", fn := fun _ => fun
  | [d1, d2, d3] => { results := [.lit (.bool false)], args := [d1, d2, d3] }
  | _ => none }
def MavenTrueWrongFalsely : Prop := mavenTrueRow.holds Tryd.pinned (OpenSpec.ofChange mavenTrueWrong)

/-- 'dovetaillaw06.MavenCanon': WHATEVER THE INPUT: true; the input reads as it did. -/
def mavenCanonSpec : ChangeSpec := { name := "mavenCanon", fn := fun _ => fun
  | [d] => { results := [.lit (.bool true)], args := [d] }
  | _ => none }
def mavenCanonRow : OpenClaim := { program := "ytdkmbohpmfakkaadoor", sum := "e64b0811132126f650441241a642d7ced50ab116f660cf31998a7271c1c0ad43", func := "dovetail/dovetaillaw06.MavenCanon", spec := "mavenCanon", inPlace := ["internal/bytealg.IndexByteString", "internal/bytealg.IndexString", "internal/abi.NoEscape", "internal/bytealg.abigen_runtime_cmpstring"], unfollowed := true, recurses := true, named := ["unicode/utf8.first", "unicode/utf8.acceptRanges", "internal/bytealg.MaxLen"], apart := false, laid := [("unicode/utf8.acceptRanges", laid_unicode_utf8_acceptRanges), ("unicode/utf8.first", laid_unicode_utf8_first)] }
def MavenCanonSaid : Prop := mavenCanonRow.holds Tryd.pinned (OpenSpec.ofChange mavenCanonSpec)

/-- ITS FALSE NEIGHBOUR: 'it returns false'. Refute it at one input. -/
def mavenCanonWrong : ChangeSpec := { name := "mavenCanon", fn := fun _ => fun
  | [d] => { results := [.lit (.bool false)], args := [d] }
  | _ => none }
def MavenCanonWrongFalsely : Prop := mavenCanonRow.holds Tryd.pinned (OpenSpec.ofChange mavenCanonWrong)

/-- 'dovetaillaw06.MavenNulls': WHATEVER THE INPUT: true; the input reads as it did. -/
def mavenNullsSpec : ChangeSpec := { name := "mavenNulls", fn := fun _ => fun
  | [d1, d2, d3] => { results := [.lit (.bool true)], args := [d1, d2, d3] }
  | _ => none }
def mavenNullsRow : OpenClaim := { program := "ytdkmbohpmfakkaadoor", sum := "e64b0811132126f650441241a642d7ced50ab116f660cf31998a7271c1c0ad43", func := "dovetail/dovetaillaw06.MavenNulls", spec := "mavenNulls", inPlace := ["internal/bytealg.IndexByteString", "internal/bytealg.IndexString", "internal/bytealg.abigen_runtime_cmpstring", "internal/abi.NoEscape"], unfollowed := true, recurses := true, named := ["unicode/utf8.first", "unicode/utf8.acceptRanges", "internal/bytealg.MaxLen"], apart := false, laid := [("unicode/utf8.acceptRanges", laid_unicode_utf8_acceptRanges), ("unicode/utf8.first", laid_unicode_utf8_first)] }
def MavenNullsSaid : Prop := mavenNullsRow.holds Tryd.pinned (OpenSpec.ofChange mavenNullsSpec)

/-- ITS FALSE NEIGHBOUR: 'it returns false'. Refute it at one input. -/
def mavenNullsWrong : ChangeSpec := { name := "mavenNulls", fn := fun _ => fun
  | [d1, d2, d3] => { results := [.lit (.bool false)], args := [d1, d2, d3] }
  | _ => none }
def MavenNullsWrongFalsely : Prop := mavenNullsRow.holds Tryd.pinned (OpenSpec.ofChange mavenNullsWrong)

/-- 'dovetaillaw06.MavenOrders': WHATEVER THE INPUT: true; the input reads as it did. -/
def mavenOrdersSpec : ChangeSpec := { name := "mavenOrders", fn := fun _ => fun
  | [d1, d2, d3, d4, d5] => { results := [.lit (.bool true)], args := [d1, d2, d3, d4, d5] }
  | _ => none }
def mavenOrdersRow : OpenClaim := { program := "ytdkmbohpmfakkaadoor", sum := "e64b0811132126f650441241a642d7ced50ab116f660cf31998a7271c1c0ad43", func := "dovetail/dovetaillaw06.MavenOrders", spec := "mavenOrders", inPlace := ["internal/bytealg.IndexByteString", "internal/bytealg.IndexString", "internal/bytealg.abigen_runtime_cmpstring", "internal/abi.NoEscape"], unfollowed := true, recurses := true, named := ["unicode/utf8.first", "unicode/utf8.acceptRanges", "internal/bytealg.MaxLen"], apart := false, laid := [("unicode/utf8.acceptRanges", laid_unicode_utf8_acceptRanges), ("unicode/utf8.first", laid_unicode_utf8_first)] }
def MavenOrdersSaid : Prop := mavenOrdersRow.holds Tryd.pinned (OpenSpec.ofChange mavenOrdersSpec)

/-- ITS FALSE NEIGHBOUR: 'it returns false'. Refute it at one input. -/
def mavenOrdersWrong : ChangeSpec := { name := "mavenOrders", fn := fun _ => fun
  | [d1, d2, d3, d4, d5] => { results := [.lit (.bool false)], args := [d1, d2, d3, d4, d5] }
  | _ => none }
def MavenOrdersWrongFalsely : Prop := mavenOrdersRow.holds Tryd.pinned (OpenSpec.ofChange mavenOrdersWrong)

/- THE SECOND FORM. 'bulk': how many values and letters a reading holds, each counted each time it is reached (what is shared counts as often as it is met; a slice's spare places count too). A statement '..UptoSaid' is the law's where the arguments, and the package variables that the reading takes, are together of bulk at most 1048576: NARROWER than '..Said'. Prove '..Said' where nothing that the law and all that it calls make is longer than what came in: it says more and counts as full. Else prove '..UptoSaid'. A law counts once. -/
mutual
def uptoBulk {H : Type} : DataW H → Nat
  | .lit (.string bytes) => bytes.length + 1
  | .lit _ => 1
  | .nil => 1
  | .ptr d => uptoBulk d + 1
  | .slice elems spare => uptoBulkAll elems + uptoBulkAll spare + 1
  | .agg parts => uptoBulkAll parts + 1
  | .iface _ d => uptoBulk d + 1
  | .map entries => uptoBulkEntries entries + 1
  | .held _ => 1
def uptoBulkAll {H : Type} : List (DataW H) → Nat
  | [] => 0
  | d :: r => uptoBulk d + uptoBulkAll r
def uptoBulkEntries {H : Type} : List (Lit × DataW H) → Nat
  | [] => 0
  | x :: r => uptoBulkEntry x + uptoBulkEntries r
def uptoBulkEntry {H : Type} : Lit × DataW H → Nat
  | (.string bytes, d) => bytes.length + uptoBulk d + 1
  | (_, d) => uptoBulk d + 1
 end
def uptoSmall : (H : Type) → List (DataW H) → Bool := fun _ ds => decide (uptoBulkAll ds ≤ 1048576)
def OpenSpec.upto (s : _root_.Go.ChangeSpec) : _root_.Go.OpenSpec := { _root_.Go.OpenSpec.ofChange s with cond := some uptoSmall }

/-- 'dovetaillaw06.MavenReads', WHERE WHAT IT READS IS OF BULK AT MOST 1048576: true; the input reads as it did. -/
def mavenReadsUptoRow : OpenClaim := { program := "ytdkmbohpmfakkaadoor", sum := "e64b0811132126f650441241a642d7ced50ab116f660cf31998a7271c1c0ad43", func := "dovetail/dovetaillaw06.MavenReads", spec := "mavenReads", inPlace := ["internal/bytealg.IndexByteString", "internal/bytealg.IndexString", "internal/abi.NoEscape", "internal/bytealg.abigen_runtime_cmpstring"], unfollowed := true, recurses := true, named := ["unicode/utf8.first", "unicode/utf8.acceptRanges", "internal/bytealg.MaxLen"], apart := false, laid := [("unicode/utf8.acceptRanges", laid_unicode_utf8_acceptRanges), ("unicode/utf8.first", laid_unicode_utf8_first)], narrowed := true }
def MavenReadsUptoSaid : Prop := mavenReadsUptoRow.holds Tryd.pinned (OpenSpec.upto mavenReadsSpec)

/-- 'dovetaillaw06.MavenTrue', WHERE WHAT IT READS IS OF BULK AT MOST 1048576: true; the input reads as it did. -/
def mavenTrueUptoRow : OpenClaim := { program := "ytdkmbohpmfakkaadoor", sum := "e64b0811132126f650441241a642d7ced50ab116f660cf31998a7271c1c0ad43", func := "dovetail/dovetaillaw06.MavenTrue", spec := "mavenTrue", inPlace := ["internal/bytealg.IndexByteString", "internal/bytealg.IndexString", "internal/bytealg.abigen_runtime_cmpstring", "internal/abi.NoEscape"], unfollowed := true, recurses := true, named := ["unicode/utf8.first", "unicode/utf8.acceptRanges", "internal/bytealg.MaxLen"], apart := false, laid := [("unicode/utf8.acceptRanges", laid_unicode_utf8_acceptRanges), ("unicode/utf8.first", laid_unicode_utf8_first)], narrowed := true }
def MavenTrueUptoSaid : Prop := mavenTrueUptoRow.holds Tryd.pinned (OpenSpec.upto mavenTrueSpec)

/-- 'dovetaillaw06.MavenCanon', WHERE WHAT IT READS IS OF BULK AT MOST 1048576: true; the input reads as it did. -/
def mavenCanonUptoRow : OpenClaim := { program := "ytdkmbohpmfakkaadoor", sum := "e64b0811132126f650441241a642d7ced50ab116f660cf31998a7271c1c0ad43", func := "dovetail/dovetaillaw06.MavenCanon", spec := "mavenCanon", inPlace := ["internal/bytealg.IndexByteString", "internal/bytealg.IndexString", "internal/abi.NoEscape", "internal/bytealg.abigen_runtime_cmpstring"], unfollowed := true, recurses := true, named := ["unicode/utf8.first", "unicode/utf8.acceptRanges", "internal/bytealg.MaxLen"], apart := false, laid := [("unicode/utf8.acceptRanges", laid_unicode_utf8_acceptRanges), ("unicode/utf8.first", laid_unicode_utf8_first)], narrowed := true }
def MavenCanonUptoSaid : Prop := mavenCanonUptoRow.holds Tryd.pinned (OpenSpec.upto mavenCanonSpec)

/-- 'dovetaillaw06.MavenNulls', WHERE WHAT IT READS IS OF BULK AT MOST 1048576: true; the input reads as it did. -/
def mavenNullsUptoRow : OpenClaim := { program := "ytdkmbohpmfakkaadoor", sum := "e64b0811132126f650441241a642d7ced50ab116f660cf31998a7271c1c0ad43", func := "dovetail/dovetaillaw06.MavenNulls", spec := "mavenNulls", inPlace := ["internal/bytealg.IndexByteString", "internal/bytealg.IndexString", "internal/bytealg.abigen_runtime_cmpstring", "internal/abi.NoEscape"], unfollowed := true, recurses := true, named := ["unicode/utf8.first", "unicode/utf8.acceptRanges", "internal/bytealg.MaxLen"], apart := false, laid := [("unicode/utf8.acceptRanges", laid_unicode_utf8_acceptRanges), ("unicode/utf8.first", laid_unicode_utf8_first)], narrowed := true }
def MavenNullsUptoSaid : Prop := mavenNullsUptoRow.holds Tryd.pinned (OpenSpec.upto mavenNullsSpec)

/-- 'dovetaillaw06.MavenOrders', WHERE WHAT IT READS IS OF BULK AT MOST 1048576: true; the input reads as it did. -/
def mavenOrdersUptoRow : OpenClaim := { program := "ytdkmbohpmfakkaadoor", sum := "e64b0811132126f650441241a642d7ced50ab116f660cf31998a7271c1c0ad43", func := "dovetail/dovetaillaw06.MavenOrders", spec := "mavenOrders", inPlace := ["internal/bytealg.IndexByteString", "internal/bytealg.IndexString", "internal/bytealg.abigen_runtime_cmpstring", "internal/abi.NoEscape"], unfollowed := true, recurses := true, named := ["unicode/utf8.first", "unicode/utf8.acceptRanges", "internal/bytealg.MaxLen"], apart := false, laid := [("unicode/utf8.acceptRanges", laid_unicode_utf8_acceptRanges), ("unicode/utf8.first", laid_unicode_utf8_first)], narrowed := true }
def MavenOrdersUptoSaid : Prop := mavenOrdersUptoRow.holds Tryd.pinned (OpenSpec.upto mavenOrdersSpec)

end Rows
end Go.Proofs.YtdkmbohpmfakkaaDoor

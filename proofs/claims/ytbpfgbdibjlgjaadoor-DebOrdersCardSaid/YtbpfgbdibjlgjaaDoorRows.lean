/-
  NARROWER THAN 'FOR EVERY INPUT', by the rows' own cells (each row's printed sentence says how): DebReads: laid · DebTrue: laid · DebTilde: laid · DebWrites: laid · DebBack: laid · DebOrders: laid.
  DERIVED. THE GIVEN ROWS OF THIS SEAT. 6 by the template 'for every input the law returns true; each argument reads behind the call as it read before'; 0 by the template 'total and deterministic' (their statements: YtbpfgbdibjlgjaaDoorTotals.lean).
  GIVEN WITH THE SEED: the statements are not yours to turn. If you find one false, say at which input.
  Laid BY PROGRAM, IN A SANDBOX (cutbox-rows.mjs): the forced cells as the released guide's own fill.sh prints them over the translation 73580b58605a5019… (all of the seat's roots in one cut). By AI agents, Wed Nov 11 2026. No macro, syntax, notation, axiom, sorry.
-/
import Derived.Test.YtbpfgbdibjlgjaaDoorChecked
import GoSem.PinnedTables
import GoSem.Claim
import GoSem.ClaimJoined
import GoSem.ClaimMapViews
import Derived.JoinedTies
import Derived.KernelRfl
namespace Go.Proofs.YtbpfgbdibjlgjaaDoor
/- THE CELL 'sum', in the pinned program and in every row, IS THE sha256 OF THE DUMP (.gsa) THAT YtbpfgbdibjlgjaaDoorProg.lean LOADS. Nothing in Lean hashes anything: it is a label: what it is worth is what the hold of that sum in a sandbox is worth. -/
noncomputable def Tryd.pinned : Pinned := { name := "ytbpfgbdibjlgjaadoor", sum := "73580b58605a50191c997aff73402ed008607ce191a3289047bf3a899de7b9d9", checked := Tryd.checked }
namespace Rows
def none {H : Type} : Left H := { results := [], args := [] }

/- WHAT THE LISTED PACKAGE-LEVEL VARIABLES READ AS WHEN THE CALL BEGINS. Each datum BY PROGRAM (the guide's laid-datum.mjs) off the statement by which the dump's own 'gosem.cut.vars' lays the variable. In a bare row this is a premise. The card (YtbpfgbdibjlgjaaDoorCards.lean) ties it to the program's text. -/
def laid_unicode_utf8_acceptRanges {H : Type} : DataW H := .agg [.agg [.lit (.int .u8 128), .lit (.int .u8 191)], .agg [.lit (.int .u8 160), .lit (.int .u8 191)], .agg [.lit (.int .u8 128), .lit (.int .u8 159)], .agg [.lit (.int .u8 144), .lit (.int .u8 191)], .agg [.lit (.int .u8 128), .lit (.int .u8 143)], .agg [.lit (.int .u8 0), .lit (.int .u8 0)], .agg [.lit (.int .u8 0), .lit (.int .u8 0)], .agg [.lit (.int .u8 0), .lit (.int .u8 0)], .agg [.lit (.int .u8 0), .lit (.int .u8 0)], .agg [.lit (.int .u8 0), .lit (.int .u8 0)], .agg [.lit (.int .u8 0), .lit (.int .u8 0)], .agg [.lit (.int .u8 0), .lit (.int .u8 0)], .agg [.lit (.int .u8 0), .lit (.int .u8 0)], .agg [.lit (.int .u8 0), .lit (.int .u8 0)], .agg [.lit (.int .u8 0), .lit (.int .u8 0)], .agg [.lit (.int .u8 0), .lit (.int .u8 0)]]
/-- One of Go's own tables, pinned by name: the form's constant. -/
def laid_unicode_utf8_first : DataW Unit := Go.Pinned.utf8First

/-- 'dovetaillaw04.DebReads': WHATEVER THE INPUT: true; the input reads as it did. -/
def debReadsSpec : ChangeSpec := { name := "debReads", fn := fun _ => fun
  | [d] => { results := [.lit (.bool true)], args := [d] }
  | _ => none }
def debReadsRow : OpenClaim := { program := "ytbpfgbdibjlgjaadoor", sum := "73580b58605a50191c997aff73402ed008607ce191a3289047bf3a899de7b9d9", func := "dovetail/dovetaillaw04.DebReads", spec := "debReads", inPlace := ["internal/bytealg.IndexByteString", "internal/bytealg.IndexString", "internal/bytealg.abigen_runtime_cmpstring"], unfollowed := true, recurses := true, named := ["unicode/utf8.first", "unicode/utf8.acceptRanges", "internal/bytealg.MaxLen"], apart := false, laid := [("unicode/utf8.acceptRanges", laid_unicode_utf8_acceptRanges), ("unicode/utf8.first", laid_unicode_utf8_first)] }
def DebReadsSaid : Prop := debReadsRow.holds Tryd.pinned (OpenSpec.ofChange debReadsSpec)

/-- ITS FALSE NEIGHBOUR: 'it returns false'. Refute it at one input. -/
def debReadsWrong : ChangeSpec := { name := "debReads", fn := fun _ => fun
  | [d] => { results := [.lit (.bool false)], args := [d] }
  | _ => none }
def DebReadsWrongFalsely : Prop := debReadsRow.holds Tryd.pinned (OpenSpec.ofChange debReadsWrong)

/-- 'dovetaillaw04.DebTrue': WHATEVER THE INPUT: true; the input reads as it did. -/
def debTrueSpec : ChangeSpec := { name := "debTrue", fn := fun _ => fun
  | [d1, d2, d3] => { results := [.lit (.bool true)], args := [d1, d2, d3] }
  | _ => none }
def debTrueRow : OpenClaim := { program := "ytbpfgbdibjlgjaadoor", sum := "73580b58605a50191c997aff73402ed008607ce191a3289047bf3a899de7b9d9", func := "dovetail/dovetaillaw04.DebTrue", spec := "debTrue", inPlace := ["internal/bytealg.IndexByteString", "internal/bytealg.IndexString", "internal/bytealg.abigen_runtime_cmpstring"], unfollowed := true, recurses := true, named := ["unicode/utf8.first", "unicode/utf8.acceptRanges", "internal/bytealg.MaxLen"], apart := false, laid := [("unicode/utf8.acceptRanges", laid_unicode_utf8_acceptRanges), ("unicode/utf8.first", laid_unicode_utf8_first)] }
def DebTrueSaid : Prop := debTrueRow.holds Tryd.pinned (OpenSpec.ofChange debTrueSpec)

/-- ITS FALSE NEIGHBOUR: 'it returns false'. Refute it at one input. -/
def debTrueWrong : ChangeSpec := { name := "debTrue", fn := fun _ => fun
  | [d1, d2, d3] => { results := [.lit (.bool false)], args := [d1, d2, d3] }
  | _ => none }
def DebTrueWrongFalsely : Prop := debTrueRow.holds Tryd.pinned (OpenSpec.ofChange debTrueWrong)

/-- 'dovetaillaw04.DebTilde': WHATEVER THE INPUT: true; the input reads as it did. -/
def debTildeSpec : ChangeSpec := { name := "debTilde", fn := fun _ => fun
  | [d1, d2, d3] => { results := [.lit (.bool true)], args := [d1, d2, d3] }
  | _ => none }
def debTildeRow : OpenClaim := { program := "ytbpfgbdibjlgjaadoor", sum := "73580b58605a50191c997aff73402ed008607ce191a3289047bf3a899de7b9d9", func := "dovetail/dovetaillaw04.DebTilde", spec := "debTilde", inPlace := ["internal/bytealg.IndexByteString", "internal/bytealg.IndexString", "internal/bytealg.abigen_runtime_cmpstring"], unfollowed := true, recurses := true, named := ["unicode/utf8.first", "unicode/utf8.acceptRanges", "internal/bytealg.MaxLen"], apart := false, laid := [("unicode/utf8.acceptRanges", laid_unicode_utf8_acceptRanges), ("unicode/utf8.first", laid_unicode_utf8_first)] }
def DebTildeSaid : Prop := debTildeRow.holds Tryd.pinned (OpenSpec.ofChange debTildeSpec)

/-- ITS FALSE NEIGHBOUR: 'it returns false'. Refute it at one input. -/
def debTildeWrong : ChangeSpec := { name := "debTilde", fn := fun _ => fun
  | [d1, d2, d3] => { results := [.lit (.bool false)], args := [d1, d2, d3] }
  | _ => none }
def DebTildeWrongFalsely : Prop := debTildeRow.holds Tryd.pinned (OpenSpec.ofChange debTildeWrong)

/-- 'dovetaillaw04.DebWrites': WHATEVER THE INPUT: true; the input reads as it did. -/
def debWritesSpec : ChangeSpec := { name := "debWrites", fn := fun _ => fun
  | [d] => { results := [.lit (.bool true)], args := [d] }
  | _ => none }
def debWritesRow : OpenClaim := { program := "ytbpfgbdibjlgjaadoor", sum := "73580b58605a50191c997aff73402ed008607ce191a3289047bf3a899de7b9d9", func := "dovetail/dovetaillaw04.DebWrites", spec := "debWrites", inPlace := ["internal/bytealg.IndexByteString", "internal/bytealg.IndexString", "internal/bytealg.abigen_runtime_cmpstring"], unfollowed := true, recurses := true, named := ["unicode/utf8.first", "unicode/utf8.acceptRanges", "internal/bytealg.MaxLen"], apart := false, laid := [("unicode/utf8.acceptRanges", laid_unicode_utf8_acceptRanges), ("unicode/utf8.first", laid_unicode_utf8_first)] }
def DebWritesSaid : Prop := debWritesRow.holds Tryd.pinned (OpenSpec.ofChange debWritesSpec)

/-- ITS FALSE NEIGHBOUR: 'it returns false'. Refute it at one input. -/
def debWritesWrong : ChangeSpec := { name := "debWrites", fn := fun _ => fun
  | [d] => { results := [.lit (.bool false)], args := [d] }
  | _ => none }
def DebWritesWrongFalsely : Prop := debWritesRow.holds Tryd.pinned (OpenSpec.ofChange debWritesWrong)

/-- 'dovetaillaw04.DebBack': WHATEVER THE INPUT: true; the input reads as it did. -/
def debBackSpec : ChangeSpec := { name := "debBack", fn := fun _ => fun
  | [d1, d2] => { results := [.lit (.bool true)], args := [d1, d2] }
  | _ => none }
def debBackRow : OpenClaim := { program := "ytbpfgbdibjlgjaadoor", sum := "73580b58605a50191c997aff73402ed008607ce191a3289047bf3a899de7b9d9", func := "dovetail/dovetaillaw04.DebBack", spec := "debBack", inPlace := ["internal/bytealg.IndexByteString", "internal/bytealg.IndexString", "internal/bytealg.abigen_runtime_cmpstring"], unfollowed := true, recurses := true, named := ["unicode/utf8.first", "unicode/utf8.acceptRanges", "internal/bytealg.MaxLen"], apart := false, laid := [("unicode/utf8.acceptRanges", laid_unicode_utf8_acceptRanges), ("unicode/utf8.first", laid_unicode_utf8_first)] }
def DebBackSaid : Prop := debBackRow.holds Tryd.pinned (OpenSpec.ofChange debBackSpec)

/-- ITS FALSE NEIGHBOUR: 'it returns false'. Refute it at one input. -/
def debBackWrong : ChangeSpec := { name := "debBack", fn := fun _ => fun
  | [d1, d2] => { results := [.lit (.bool false)], args := [d1, d2] }
  | _ => none }
def DebBackWrongFalsely : Prop := debBackRow.holds Tryd.pinned (OpenSpec.ofChange debBackWrong)

/-- 'dovetaillaw04.DebOrders': WHATEVER THE INPUT: true; the input reads as it did. -/
def debOrdersSpec : ChangeSpec := { name := "debOrders", fn := fun _ => fun
  | [d1, d2, d3, d4, d5, d6] => { results := [.lit (.bool true)], args := [d1, d2, d3, d4, d5, d6] }
  | _ => none }
def debOrdersRow : OpenClaim := { program := "ytbpfgbdibjlgjaadoor", sum := "73580b58605a50191c997aff73402ed008607ce191a3289047bf3a899de7b9d9", func := "dovetail/dovetaillaw04.DebOrders", spec := "debOrders", inPlace := ["internal/bytealg.IndexByteString", "internal/bytealg.IndexString", "internal/bytealg.abigen_runtime_cmpstring"], unfollowed := true, recurses := true, named := ["unicode/utf8.first", "unicode/utf8.acceptRanges", "internal/bytealg.MaxLen"], apart := false, laid := [("unicode/utf8.acceptRanges", laid_unicode_utf8_acceptRanges), ("unicode/utf8.first", laid_unicode_utf8_first)] }
def DebOrdersSaid : Prop := debOrdersRow.holds Tryd.pinned (OpenSpec.ofChange debOrdersSpec)

/-- ITS FALSE NEIGHBOUR: 'it returns false'. Refute it at one input. -/
def debOrdersWrong : ChangeSpec := { name := "debOrders", fn := fun _ => fun
  | [d1, d2, d3, d4, d5, d6] => { results := [.lit (.bool false)], args := [d1, d2, d3, d4, d5, d6] }
  | _ => none }
def DebOrdersWrongFalsely : Prop := debOrdersRow.holds Tryd.pinned (OpenSpec.ofChange debOrdersWrong)

/- THE SECOND FORM. 'bulk': how many values and letters a reading holds, each counted each time it is reached (what is shared counts as often as it is met; a slice's spare places count too). A statement '..UptoSaid' is the law's where the arguments, and the package variables that the reading takes, are together of bulk at most 1048576: NARROWER than '..Said'. Prove '..Said' where nothing that the law and all that it calls make is longer than what came in: it says more and counts as full. Else prove '..UptoSaid'. A law counts once. -/
mutual
def uptoBulk {H : Type} : DataW H → Nat
  | .lit (.string bytes) => bytes.length + 1
  | .lit _ => 1
  | .nil => 1
  | .ptr d => uptoBulk d + 1
  | .slice elems spare => uptoBulkAll elems + uptoBulkAll spare + 1
  | .agg parts => uptoBulkAll parts + 1
  | .iface _ d => uptoBulk d + 1
  | .map entries => uptoBulkEntries entries + 1
  | .held _ => 1
def uptoBulkAll {H : Type} : List (DataW H) → Nat
  | [] => 0
  | d :: r => uptoBulk d + uptoBulkAll r
def uptoBulkEntries {H : Type} : List (Lit × DataW H) → Nat
  | [] => 0
  | x :: r => uptoBulkEntry x + uptoBulkEntries r
def uptoBulkEntry {H : Type} : Lit × DataW H → Nat
  | (.string bytes, d) => bytes.length + uptoBulk d + 1
  | (_, d) => uptoBulk d + 1
 end
def uptoSmall : (H : Type) → List (DataW H) → Bool := fun _ ds => decide (uptoBulkAll ds ≤ 1048576)
def OpenSpec.upto (s : _root_.Go.ChangeSpec) : _root_.Go.OpenSpec := { _root_.Go.OpenSpec.ofChange s with cond := some uptoSmall }

/-- 'dovetaillaw04.DebReads', WHERE WHAT IT READS IS OF BULK AT MOST 1048576: true; the input reads as it did. -/
def debReadsUptoRow : OpenClaim := { program := "ytbpfgbdibjlgjaadoor", sum := "73580b58605a50191c997aff73402ed008607ce191a3289047bf3a899de7b9d9", func := "dovetail/dovetaillaw04.DebReads", spec := "debReads", inPlace := ["internal/bytealg.IndexByteString", "internal/bytealg.IndexString", "internal/bytealg.abigen_runtime_cmpstring"], unfollowed := true, recurses := true, named := ["unicode/utf8.first", "unicode/utf8.acceptRanges", "internal/bytealg.MaxLen"], apart := false, laid := [("unicode/utf8.acceptRanges", laid_unicode_utf8_acceptRanges), ("unicode/utf8.first", laid_unicode_utf8_first)], narrowed := true }
def DebReadsUptoSaid : Prop := debReadsUptoRow.holds Tryd.pinned (OpenSpec.upto debReadsSpec)

/-- 'dovetaillaw04.DebTrue', WHERE WHAT IT READS IS OF BULK AT MOST 1048576: true; the input reads as it did. -/
def debTrueUptoRow : OpenClaim := { program := "ytbpfgbdibjlgjaadoor", sum := "73580b58605a50191c997aff73402ed008607ce191a3289047bf3a899de7b9d9", func := "dovetail/dovetaillaw04.DebTrue", spec := "debTrue", inPlace := ["internal/bytealg.IndexByteString", "internal/bytealg.IndexString", "internal/bytealg.abigen_runtime_cmpstring"], unfollowed := true, recurses := true, named := ["unicode/utf8.first", "unicode/utf8.acceptRanges", "internal/bytealg.MaxLen"], apart := false, laid := [("unicode/utf8.acceptRanges", laid_unicode_utf8_acceptRanges), ("unicode/utf8.first", laid_unicode_utf8_first)], narrowed := true }
def DebTrueUptoSaid : Prop := debTrueUptoRow.holds Tryd.pinned (OpenSpec.upto debTrueSpec)

/-- 'dovetaillaw04.DebTilde', WHERE WHAT IT READS IS OF BULK AT MOST 1048576: true; the input reads as it did. -/
def debTildeUptoRow : OpenClaim := { program := "ytbpfgbdibjlgjaadoor", sum := "73580b58605a50191c997aff73402ed008607ce191a3289047bf3a899de7b9d9", func := "dovetail/dovetaillaw04.DebTilde", spec := "debTilde", inPlace := ["internal/bytealg.IndexByteString", "internal/bytealg.IndexString", "internal/bytealg.abigen_runtime_cmpstring"], unfollowed := true, recurses := true, named := ["unicode/utf8.first", "unicode/utf8.acceptRanges", "internal/bytealg.MaxLen"], apart := false, laid := [("unicode/utf8.acceptRanges", laid_unicode_utf8_acceptRanges), ("unicode/utf8.first", laid_unicode_utf8_first)], narrowed := true }
def DebTildeUptoSaid : Prop := debTildeUptoRow.holds Tryd.pinned (OpenSpec.upto debTildeSpec)

/-- 'dovetaillaw04.DebWrites', WHERE WHAT IT READS IS OF BULK AT MOST 1048576: true; the input reads as it did. -/
def debWritesUptoRow : OpenClaim := { program := "ytbpfgbdibjlgjaadoor", sum := "73580b58605a50191c997aff73402ed008607ce191a3289047bf3a899de7b9d9", func := "dovetail/dovetaillaw04.DebWrites", spec := "debWrites", inPlace := ["internal/bytealg.IndexByteString", "internal/bytealg.IndexString", "internal/bytealg.abigen_runtime_cmpstring"], unfollowed := true, recurses := true, named := ["unicode/utf8.first", "unicode/utf8.acceptRanges", "internal/bytealg.MaxLen"], apart := false, laid := [("unicode/utf8.acceptRanges", laid_unicode_utf8_acceptRanges), ("unicode/utf8.first", laid_unicode_utf8_first)], narrowed := true }
def DebWritesUptoSaid : Prop := debWritesUptoRow.holds Tryd.pinned (OpenSpec.upto debWritesSpec)

/-- 'dovetaillaw04.DebBack', WHERE WHAT IT READS IS OF BULK AT MOST 1048576: true; the input reads as it did. -/
def debBackUptoRow : OpenClaim := { program := "ytbpfgbdibjlgjaadoor", sum := "73580b58605a50191c997aff73402ed008607ce191a3289047bf3a899de7b9d9", func := "dovetail/dovetaillaw04.DebBack", spec := "debBack", inPlace := ["internal/bytealg.IndexByteString", "internal/bytealg.IndexString", "internal/bytealg.abigen_runtime_cmpstring"], unfollowed := true, recurses := true, named := ["unicode/utf8.first", "unicode/utf8.acceptRanges", "internal/bytealg.MaxLen"], apart := false, laid := [("unicode/utf8.acceptRanges", laid_unicode_utf8_acceptRanges), ("unicode/utf8.first", laid_unicode_utf8_first)], narrowed := true }
def DebBackUptoSaid : Prop := debBackUptoRow.holds Tryd.pinned (OpenSpec.upto debBackSpec)

/-- 'dovetaillaw04.DebOrders', WHERE WHAT IT READS IS OF BULK AT MOST 1048576: true; the input reads as it did. -/
def debOrdersUptoRow : OpenClaim := { program := "ytbpfgbdibjlgjaadoor", sum := "73580b58605a50191c997aff73402ed008607ce191a3289047bf3a899de7b9d9", func := "dovetail/dovetaillaw04.DebOrders", spec := "debOrders", inPlace := ["internal/bytealg.IndexByteString", "internal/bytealg.IndexString", "internal/bytealg.abigen_runtime_cmpstring"], unfollowed := true, recurses := true, named := ["unicode/utf8.first", "unicode/utf8.acceptRanges", "internal/bytealg.MaxLen"], apart := false, laid := [("unicode/utf8.acceptRanges", laid_unicode_utf8_acceptRanges), ("unicode/utf8.first", laid_unicode_utf8_first)], narrowed := true }
def DebOrdersUptoSaid : Prop := debOrdersUptoRow.holds Tryd.pinned (OpenSpec.upto debOrdersSpec)

end Rows
end Go.Proofs.YtbpfgbdibjlgjaaDoor

/- The law DebWrites holds as its card says: for every input. Conditions: those of the row (laid, recurses, unfollowed). -/
import Derived.Test.YtbpfgbdibjlgjaaDoorFnC
import Derived.Test.YtbpfgbdibjlgjaaDoorEvD
import Derived.Test.YtbpfgbdibjlgjaaDoorCards
import Derived.Test.YtbpfgbdibjlgjaaDoorTie
import Derived.WalkKit
import Derived.ProofKit
import Derived.OpenShut
import Derived.Deep.DeepHandedRow
import Derived.Lib.LaidTab
namespace Go.Proofs.YtbpfgbdibjlgjaaDoor
open Go.ChangeShapes Go.WideShapes Go.ChangeAt Go.RowKit Go.Ab Go.Deb
set_option linter.unusedVariables false
theorem own : ownKnob Tryd.prog.godebug = none := by kernel_rfl
theorem laidOut : laidOutB Tryd.prog = true := by kernel_rfl
theorem rec3 : Tryd.prog.readableRec 3 = true ∧ 3 < Tryd.prog.types.size := ⟨by kernel_rfl, of_decide_eq_true (by kernel_rfl)⟩
theorem rec9 : Tryd.prog.readableRec 9 = true ∧ 9 < Tryd.prog.types.size := ⟨by kernel_rfl, of_decide_eq_true (by kernel_rfl)⟩
theorem rec23 : Tryd.prog.readableRec 23 = true ∧ 23 < Tryd.prog.types.size := ⟨by kernel_rfl, of_decide_eq_true (by kernel_rfl)⟩
theorem cells23 : Tryd.prog.cellsOf 23 = 3 := by kernel_rfl
theorem cells9 : Tryd.prog.cellsOf 9 = 1 := by kernel_rfl
noncomputable def theWorld (os : Os) : World := laidWorld Tryd.prog os [(2, flatD 4 (Rows.laid_unicode_utf8_acceptRanges (H := Unit))), (1, flatD 4 Rows.laid_unicode_utf8_first)]

namespace debWrites
/-- THE LAW's TREE, ENDED. -/
theorem tree (e u r : List UInt8) (h : e.length + u.length + r.length + 2 ≤ bnd) : (evn tabV h6 noLoops 6 [verAV e u r] []).run = some (.bool true, []) := by
  refine (t6 e u r).trans ?_
  simp only [bnd] at h
  simp [h]
theorem contract (H : Type) (enc : TypeId × Value → H) (W : World) (base : Nat) (args : Array Value) (ds gs : List (DataW H)) (before : List MemPlace)
    (hval : ∀ (j : Nat) t v, Tryd.f6.params[j]? = some t → args[j]? = some v → Value.okWide Tryd.prog W .any base t v)
    (hW : DataW.Whole enc Tryd.prog Tryd.f6.params.toList Rows.debWritesSpec.vars false W args.toList ds gs before)
    (hwt : (DataW.weightsEach Tryd.prog (Tryd.f6.params.toList ++ (OpenSpec.ofChange Rows.debWritesSpec).bare.plain.varTypes Tryd.prog) (ds ++ gs)).all (· ≤ reachBytes) = true) :
    Calls Tryd.prog 6 args W fun e W' => ∃ v, e = .returned v ∧ Rows.debWritesSpec.post enc Tryd.prog Tryd.f6 false true false false W args v W' := by
  have hW' := hW
  obtain ⟨p, q, hA, hV, rfl, hfz, hnd⟩ := hW
  rw [Tryd.params6] at hA hval hwt
  obtain ⟨v0, vs0, d0, ds0, p0, q0, hargs, rfl, rfl, h0, r0⟩ := trodAll_cons hA
  obtain ⟨rfl, rfl, rfl⟩ := trodAll_nil r0
  obtain rfl : args = #[v0] := by cases args; simp_all
  obtain ⟨rfl, rfl⟩ := trodVars_none hV
  obtain ⟨x, y, z, rfl, rfl, rfl⟩ := open_str3 Tryd.underlying23 Tryd.underlying9 Tryd.underlying9 Tryd.underlying9 rfl rfl rfl cells23 cells9 cells9 cells9 (hval 0 23 v0 rfl rfl) h0
  have hb : x.size ≤ 140737488351232 ∧ y.size ≤ 140737488351232 ∧ z.size ≤ 140737488351232 := by
    simp [DataW.weightsEach, DataW.weights, Tryd.underlying23, reachBytes] at hwt
    exact ⟨of_decide_eq_true hwt.1, of_decide_eq_true hwt.2.1, of_decide_eq_true hwt.2.2⟩
  obtain ⟨b1, b2, b3⟩ := hb
  have hV2 : VL (fun _ => False) W (fun _ => none) [verAV x.data.toList y.data.toList z.data.toList] [Value.agg #[.string x, .string y, .string z]] := by
    refine ⟨_, _, rfl, ?_, rfl⟩
    unfold verAV
    simp only [V]
    exact ⟨_, rfl, _, _, rfl, V_string (by simp only [bnd]; omega), _, _, rfl, V_string (by simp only [bnd]; omega), _, _, rfl, V_string (by simp only [bnd]; omega), rfl⟩
  have ht := tree x.data.toList y.data.toList z.data.toList (by simp only [Array.length_toList, bnd]; show x.size + y.size + z.size + 2 ≤ _; omega)
  refine (law_calls okV (m := 20) (k := 9) (hs := H0) (Λ := noLoops) (fun i hi => anyLoops) (by kernel_rfl) ht hV2).mono fun e W' ⟨he, hs⟩ => ?_
  subst he
  exact ⟨_, rfl, law_post laidOut (by rw [Tryd.params6]; simpa using rec23) (tb := 4) rfl Tryd.underlying4 rfl hW' hs rfl⟩
theorem laid_met (os : Os) : laidMet Tryd.prog Rows.debWritesRow.laid ((theWorld os).forCall (fun _ _ => 0) ⟨#[], #[.agg #[.string ⟨#[]⟩, .string ⟨#[]⟩, .string ⟨#[]⟩]], []⟩).memory :=
  laidMet_of_run' 8 (by kernel_rfl) (by kernel_rfl)
theorem reads (os : Os) {H : Type} (enc : TypeId × Value → H) : ∃ places, DataW.whole enc Tryd.prog ((theWorld os).forCall (fun _ _ => 0) ⟨#[], #[.agg #[.string ⟨#[]⟩, .string ⟨#[]⟩, .string ⟨#[]⟩]], []⟩).memory Tryd.f6.params.toList Rows.debWritesSpec.vars false #[Value.agg #[.string ⟨#[]⟩, .string ⟨#[]⟩, .string ⟨#[]⟩]].toList 8 = some ([.agg [.lit (.string []), .lit (.string []), .lit (.string [])]], [], places) :=
  ⟨[], by kernel_rfl⟩
set_option maxRecDepth 100000 in
theorem lifted (os : Os) (started : os.Started) (H : Type) (enc : TypeId × Value → H) (F : Stop.Interp) :
    ReturnsInHanded {} Tryd.checked os 6 .any ((OpenSpec.ofChange Rows.debWritesSpec).preRow enc Tryd.prog Tryd.f6 Rows.debWritesRow.domain false Rows.debWritesRow.laid) (((OpenSpec.ofChange Rows.debWritesSpec).at F).post enc Tryd.prog Tryd.f6 false true false false) := by
  obtain ⟨places, hx⟩ := reads os enc
  refine returnsInHanded_of_row (C := Tryd.checked) (s := OpenSpec.ofChange Rows.debWritesSpec) own started (by kernel_rfl) Tryd.func6
    (witness_row_at (enc := enc) (C := Tryd.checked) false (theWorld os) #[.agg #[.string ⟨#[]⟩, .string ⟨#[]⟩, .string ⟨#[]⟩]] rfl (by kernel_rfl) (by kernel_rfl) (by kernel_rfl)
      (OpenSpec.preRow_of_cond 8 hx (by kernel_rfl) (fun k hk => by cases hk) (by kernel_rfl) (laid_met os))) ?_
  intro W base args ds gs before hval hW _ _ hwt hL _ _
  exact contract H enc W base args ds gs before hval hW hwt
theorem said : Rows.DebWritesSaid :=
  OpenClaim.holds_of_cond 6 Tryd.f6 rfl rfl rfl rfl rfl rfl rfl ⟨rfl, rfl, rfl, rfl, rfl⟩ rfl rfl rfl rfl rfl (by kernel_rfl) Tryd.func6 (by kernel_rfl)
    (of_decide_eq_true (by kernel_rfl)) (by unfold Func.isWrapper; first | (rw [if_pos (by decide +kernel)]; kernel_rfl) | (rw [if_neg (by decide +kernel)]; exact ⟨rfl, rfl⟩))
    (fun os started H enc _ F => by rw [OpenClaim.pre_eq_preRow]; exact lifted os started H enc F)
theorem plain (f : FuncId) (fn : Func) (hf : Tryd.pinned.checked.prog.funcNamed "dovetail/dovetaillaw04.DebWrites" = some f) (hfn : Tryd.pinned.checked.prog.funcs[f]? = some fn) :
    false = Tryd.pinned.checked.prog.looks [] ∧ ∀ (j : Nat) t, fn.params[j]? = some t → Tryd.pinned.checked.prog.wantsStandIn t = false := by
  obtain rfl : f = 6 := Option.some.inj ((show Tryd.prog.funcNamed "dovetail/dovetaillaw04.DebWrites" = some 6 by kernel_rfl).symm.trans hf) |>.symm
  obtain rfl : fn = Tryd.f6 := (Option.some.inj (Tryd.func6.symm.trans hfn)).symm
  refine ⟨by kernel_rfl, fun j t ht => ?_⟩
  rw [Tryd.params6] at ht
  obtain rfl : t = 23 := by simpa using Array.mem_of_getElem? ht
  exact (show Tryd.prog.wantsStandIn 23 = false by kernel_rfl)
end debWrites
theorem debWrites_card : Rows.DebWritesCardSaid :=
  Claim7.holds_tied_plain_at .later [] _ _ _ _ debWrites.said (fun _ h => by cases h) (by kernel_rfl) (fun _ h => by cases h) debWrites_row_tie rfl ⟨rfl, rfl⟩ (by kernel_rfl) rfl debWrites.plain (by kernel_rfl)
#print axioms debWrites_card
end Go.Proofs.YtbpfgbdibjlgjaaDoor

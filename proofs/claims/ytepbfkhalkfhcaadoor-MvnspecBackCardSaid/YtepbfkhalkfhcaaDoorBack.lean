/- The law MvnspecBack holds as its card says, for every input. Conditions: those of the row (laid, recurses, unfollowed). -/
import Derived.Test.YtepbfkhalkfhcaaDoorFnG
namespace Go.Proofs.YtepbfkhalkfhcaaDoor
open Go.ChangeShapes Go.WideShapes Go.ChangeAt Go.RowKit Go.Ab Go.Mvs
set_option linter.unusedVariables false
namespace mvnspecBack
theorem recs : ∀ t, t ∈ Tryd.f3.params.toList → Tryd.prog.readableRec t = true ∧ t < Tryd.prog.types.size := by
  rw [Tryd.params3]
  intro t ht
  simp only [List.mem_cons, List.not_mem_nil, or_false] at ht
  rcases ht with rfl | rfl
  · exact rec24
  · exact rec9
set_option maxRecDepth 100000 in
theorem contract (H : Type) (enc : TypeId × Value → H) (W : World) (base : Nat) (args : Array Value) (ds gs : List (DataW H)) (before : List MemPlace)
    (hval : ∀ (j : Nat) t v, Tryd.f3.params[j]? = some t → args[j]? = some v → Value.okWide Tryd.prog W .any base t v)
    (hW : DataW.Whole enc Tryd.prog Tryd.f3.params.toList Rows.mvnspecBackSpec.vars false W args.toList ds gs before)
    (hwt : (DataW.weightsEach Tryd.prog (Tryd.f3.params.toList ++ (OpenSpec.ofChange Rows.mvnspecBackSpec).bare.plain.varTypes Tryd.prog) (ds ++ gs)).all (· ≤ reachBytes) = true) :
    Calls Tryd.prog 3 args W fun e W' => ∃ v, e = .returned v ∧ Rows.mvnspecBackSpec.post enc Tryd.prog Tryd.f3 false true false false W args v W' := by
  have hW' := hW
  obtain ⟨p, q, hA, hV, rfl, hfz, hnd⟩ := hW
  rw [Tryd.params3] at hA hval hwt
  obtain ⟨v0, vs0, d0, ds0, p0, q0, hargs, rfl, rfl, h0, r0⟩ := trodAll_cons hA
  obtain ⟨v1, vs1, d1, ds1, p1, q1, rfl, rfl, rfl, h1, r1⟩ := trodAll_cons r0
  obtain ⟨rfl, rfl, rfl⟩ := trodAll_nil r1
  obtain rfl : args = #[v0, v1] := by cases args; simp_all
  obtain ⟨rfl, rfl⟩ := trodVars_none hV
  obtain ⟨x0, w0v, d0m, l0, rfl, rfl, hd0, hl0⟩ := open_mvs Tryd.underlying24 Tryd.underlying9 Tryd.underlying22 rfl rfl cells24 cells9 cells22 ct24 Tryd.underlying36 Tryd.underlying4 Tryd.underlying9 Tryd.underlying4 Tryd.underlying4 Tryd.underlying9 Tryd.underlying4 rfl rfl rfl rfl rfl rfl cells4 cells9 cells4 cells4 cells9 cells4 cells36 (hval 0 24 v0 rfl rfl) h0
  obtain ⟨x1, rfl, rfl, rfl, hs1⟩ := Go.ChangeMaps.open_string Tryd.underlying9 (hval 1 9 v1 rfl rfl) h1
  have hwt1 : ∀ x ∈ DataW.weightsEach Tryd.prog [24, 9] [(.agg [.lit (.string x0.data.toList), d0m]), (.lit (.string x1.data.toList))], x ≤ reachBytes := fun x hx => of_decide_eq_true (List.all_eq_true.1 hwt x hx)
  simp only [DataW.weightsEach, List.mem_append] at hwt1
  have hb0 := w_mvs Tryd.underlying24 Tryd.underlying22 Tryd.underlying36 bytes36 (by omega) hd0 (fun x hx => hwt1 x (.inl hx))
  have e0 : x0.data.toList.length = x0.size := rfl
  have hb0x := hb0.1
  have hb1 := w_str (fun x hx => hwt1 x (.inr (.inl hx)))
  have e1 : x1.data.toList.length = x1.size := rfl
  simp only [reachBytes] at hb1
  have hV2 : VL (fun _ => False) W (fun _ => none) [.agg [.str x0.data.toList, .sl 6 l0.length (rowG CM (fnG CM.df l0))], .str x1.data.toList] [Value.agg #[.string x0, w0v], Value.string x1] :=
    ⟨_, _, rfl, by simp only [V]; exact ⟨_, rfl, _, _, rfl, V_string (by simp only [bnd]; omega), _, _, rfl, hl0 hb0.2.1 (fun k hk => by have := hb0.2.2 k hk; simp only [smlM, bnd]; omega), rfl⟩, ⟨_, _, rfl, V_string (by simp only [bnd]; omega), rfl⟩⟩
  have ht := tree3 x0.data.toList l0.length (fnG CM.df l0) x1.data.toList hb0.1 hb0.2.1 (fun j hj => by rw [fnG_get hj]; exact hb0.2.2 _ (List.getElem_mem hj))
  refine (law_calls ok_tabB7 (m := 20) (k := 9) (hs := H0) (Λ := noLoops) (fun i hi => anyLoops) (by kernel_rfl) ht hV2).mono fun e W' ⟨he, hs⟩ => ?_
  subst he
  exact ⟨_, rfl, law_post laidOut recs (tb := 4) rfl Tryd.underlying4 rfl hW' hs rfl⟩
theorem laid_met (os : Os) : laidMet Tryd.prog Rows.mvnspecBackRow.laid ((theWorld os).forCall (fun _ _ => 0) ⟨#[], #[.agg #[.string ⟨#[]⟩, .slice none 0 0], .string ⟨#[]⟩], []⟩).memory :=
  laidMet_of_run' 8 (by kernel_rfl) (by kernel_rfl)
theorem reads (os : Os) {H : Type} (enc : TypeId × Value → H) : ∃ places, DataW.whole enc Tryd.prog ((theWorld os).forCall (fun _ _ => 0) ⟨#[], #[.agg #[.string ⟨#[]⟩, .slice none 0 0], .string ⟨#[]⟩], []⟩).memory Tryd.f3.params.toList Rows.mvnspecBackSpec.vars false (#[.agg #[.string ⟨#[]⟩, .slice none 0 0], .string ⟨#[]⟩] : Array Value).toList 8 = some ([.agg [.lit (.string []), .nil], .lit (.string [])], [], places) :=
  ⟨[], by kernel_rfl⟩
set_option maxRecDepth 100000 in
theorem lifted (os : Os) (started : os.Started) (H : Type) (enc : TypeId × Value → H) (F : Stop.Interp) :
    ReturnsInHanded {} Tryd.checked os 3 .any ((OpenSpec.ofChange Rows.mvnspecBackSpec).preRow enc Tryd.prog Tryd.f3 Rows.mvnspecBackRow.domain false Rows.mvnspecBackRow.laid) (((OpenSpec.ofChange Rows.mvnspecBackSpec).at F).post enc Tryd.prog Tryd.f3 false true false false) := by
  obtain ⟨places, hx⟩ := reads os enc
  refine returnsInHanded_of_row (C := Tryd.checked) (s := OpenSpec.ofChange Rows.mvnspecBackSpec) own started (by kernel_rfl) Tryd.func3
    (witness_row_at (enc := enc) (C := Tryd.checked) false (theWorld os) #[.agg #[.string ⟨#[]⟩, .slice none 0 0], .string ⟨#[]⟩] rfl (by kernel_rfl) (by kernel_rfl) (by kernel_rfl)
      (OpenSpec.preRow_of_cond 8 hx (by kernel_rfl) (fun k hk => by cases hk) (by kernel_rfl) (laid_met os))) ?_
  intro W base args ds gs before hval hW _ _ hwt hL _ _
  exact contract H enc W base args ds gs before hval hW hwt
theorem said : Rows.MvnspecBackSaid :=
  OpenClaim.holds_of_cond 3 Tryd.f3 rfl rfl rfl rfl rfl rfl rfl ⟨rfl, rfl, rfl, rfl, rfl⟩ rfl rfl rfl rfl rfl (by kernel_rfl) Tryd.func3 (by kernel_rfl)
    (of_decide_eq_true (by kernel_rfl)) (by unfold Func.isWrapper; first | (rw [if_pos (by decide +kernel)]; kernel_rfl) | (rw [if_neg (by decide +kernel)]; exact ⟨rfl, rfl⟩))
    (fun os started H enc _ F => by rw [OpenClaim.pre_eq_preRow]; exact lifted os started H enc F)
theorem plain (f : FuncId) (fn : Func) (hf : Tryd.pinned.checked.prog.funcNamed "dovetail/dovetaillaw09.MvnspecBack" = some f) (hfn : Tryd.pinned.checked.prog.funcs[f]? = some fn) :
    false = Tryd.pinned.checked.prog.looks [] ∧ ∀ (j : Nat) t, fn.params[j]? = some t → Tryd.pinned.checked.prog.wantsStandIn t = false := by
  obtain rfl : f = 3 := Option.some.inj ((show Tryd.prog.funcNamed "dovetail/dovetaillaw09.MvnspecBack" = some 3 by kernel_rfl).symm.trans hf) |>.symm
  obtain rfl : fn = Tryd.f3 := (Option.some.inj (Tryd.func3.symm.trans hfn)).symm
  refine ⟨by kernel_rfl, fun j t ht => ?_⟩
  rw [Tryd.params3] at ht
  have ht : t = 9 ∨ t = 24 := by
    have := Array.mem_of_getElem? ht
    simp at this
    grind
  rcases ht with rfl | rfl
  · exact (show Tryd.prog.wantsStandIn 9 = false by kernel_rfl)
  · exact (show Tryd.prog.wantsStandIn 24 = false by kernel_rfl)
end mvnspecBack
theorem mvnspecBack_card : Rows.MvnspecBackCardSaid :=
  Claim7.holds_tied_plain_at .later [] _ _ _ _ mvnspecBack.said (fun _ h => by cases h) (by kernel_rfl) (fun _ h => by cases h) mvnspecBack_row_tie rfl ⟨rfl, rfl⟩ (by kernel_rfl) rfl mvnspecBack.plain (by kernel_rfl)
#print axioms mvnspecBack_card
end Go.Proofs.YtepbfkhalkfhcaaDoor

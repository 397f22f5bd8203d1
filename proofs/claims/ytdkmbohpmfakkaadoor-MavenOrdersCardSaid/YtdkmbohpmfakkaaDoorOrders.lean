/- The law MavenOrders holds as its card says, for every input. Conditions: those of the row (laid, recurses, unfollowed). -/
import Derived.Test.YtdkmbohpmfakkaaDoorFnP
namespace Go.Proofs.YtdkmbohpmfakkaaDoor
open Go.ChangeShapes Go.WideShapes Go.ChangeAt Go.RowKit Go.Ab Go.Mvn
set_option linter.unusedVariables false
namespace mavenOrders
theorem recs : ∀ t, t ∈ Tryd.f7.params.toList → Tryd.prog.readableRec t = true ∧ t < Tryd.prog.types.size := by
  rw [Tryd.params7]
  intro t ht
  simp only [List.mem_cons, List.not_mem_nil, or_false] at ht
  rcases ht with rfl | rfl | rfl | rfl | rfl
  · exact rec22
  · exact rec22
  · exact rec9
  · exact rec9
  · exact rec36
set_option maxRecDepth 100000 in
theorem contract (H : Type) (enc : TypeId × Value → H) (W : World) (base : Nat) (args : Array Value) (ds gs : List (DataW H)) (before : List MemPlace)
    (hval : ∀ (j : Nat) t v, Tryd.f7.params[j]? = some t → args[j]? = some v → Value.okWide Tryd.prog W .any base t v)
    (hW : DataW.Whole enc Tryd.prog Tryd.f7.params.toList Rows.mavenOrdersSpec.vars false W args.toList ds gs before)
    (hwt : (DataW.weightsEach Tryd.prog (Tryd.f7.params.toList ++ (OpenSpec.ofChange Rows.mavenOrdersSpec).bare.plain.varTypes Tryd.prog) (ds ++ gs)).all (· ≤ reachBytes) = true) :
    Calls Tryd.prog 7 args W fun e W' => ∃ v, e = .returned v ∧ Rows.mavenOrdersSpec.post enc Tryd.prog Tryd.f7 false true false false W args v W' := by
  have hW' := hW
  obtain ⟨p, q, hA, hV, rfl, hfz, hnd⟩ := hW
  rw [Tryd.params7] at hA hval hwt
  obtain ⟨v0, vs0, d0, ds0, p0, q0, hargs, rfl, rfl, h0, r0⟩ := trodAll_cons hA
  obtain ⟨v1, vs1, d1, ds1, p1, q1, rfl, rfl, rfl, h1, r1⟩ := trodAll_cons r0
  obtain ⟨v2, vs2, d2, ds2, p2, q2, rfl, rfl, rfl, h2, r2⟩ := trodAll_cons r1
  obtain ⟨v3, vs3, d3, ds3, p3, q3, rfl, rfl, rfl, h3, r3⟩ := trodAll_cons r2
  obtain ⟨v4, vs4, d4, ds4, p4, q4, rfl, rfl, rfl, h4, r4⟩ := trodAll_cons r3
  obtain ⟨rfl, rfl, rfl⟩ := trodAll_nil r4
  obtain rfl : args = #[v0, v1, v2, v3, v4] := by cases args; simp_all
  obtain ⟨rfl, rfl⟩ := trodVars_none hV
  obtain ⟨l0, hd0, hl0⟩ := open_toksV Tryd.underlying22 Tryd.underlying51 Tryd.underlying4 Tryd.underlying4 Tryd.underlying9 rfl rfl rfl cells51 cells4 cells4 cells9 (hval 0 22 v0 rfl rfl) h0
  obtain ⟨l1, hd1, hl1⟩ := open_toksV Tryd.underlying22 Tryd.underlying51 Tryd.underlying4 Tryd.underlying4 Tryd.underlying9 rfl rfl rfl cells51 cells4 cells4 cells9 (hval 1 22 v1 rfl rfl) h1
  obtain ⟨x2, rfl, rfl, rfl, hs2⟩ := Go.ChangeMaps.open_string Tryd.underlying9 (hval 2 9 v2 rfl rfl) h2
  obtain ⟨x3, rfl, rfl, rfl, hs3⟩ := Go.ChangeMaps.open_string Tryd.underlying9 (hval 3 9 v3 rfl rfl) h3
  obtain ⟨l4, hd4, hl4⟩ := open_rowV Tryd.underlying36 Tryd.underlying9 cells9 (hval 4 36 v4 rfl rfl) h4
  have hwt1 : ∀ x ∈ DataW.weightsEach Tryd.prog [22, 22, 9, 9, 36] [d0, d1, (.lit (.string x2.data.toList)), (.lit (.string x3.data.toList)), d4], x ≤ reachBytes := fun x hx => of_decide_eq_true (List.all_eq_true.1 hwt x hx)
  simp only [DataW.weightsEach, List.mem_append] at hwt1
  have hb0 := w_toks Tryd.underlying22 Tryd.underlying51 bytes51 (by omega) hd0 (fun x hx => hwt1 x (.inl hx))
  have hb1 := w_toks Tryd.underlying22 Tryd.underlying51 bytes51 (by omega) hd1 (fun x hx => hwt1 x (.inr (.inl hx)))
  have hb2 := w_str (fun x hx => hwt1 x (.inr (.inr (.inl hx))))
  have e2 : x2.data.toList.length = x2.size := rfl
  simp only [reachBytes] at hb2
  have hb3 := w_str (fun x hx => hwt1 x (.inr (.inr (.inr (.inl hx)))))
  have e3 : x3.data.toList.length = x3.size := rfl
  simp only [reachBytes] at hb3
  have hb4 := w_row Tryd.underlying36 bytes9 (by omega) hd4 (fun x hx => hwt1 x (.inr (.inr (.inr (.inr (.inl hx))))))
  have hV2 : VL (fun _ => False) W (fun _ => none) [.sl 3 l0.length (rowT (fnT l0)), .sl 3 l1.length (rowT (fnT l1)), .str x2.data.toList, .str x3.data.toList, .sl 1 l4.length (strF l4)] [v0, v1, Value.string x2, Value.string x3, v4] :=
    ⟨_, _, rfl, hl0 hb0.2, ⟨_, _, rfl, hl1 hb1.2, ⟨_, _, rfl, V_string (by simp only [bnd]; omega), ⟨_, _, rfl, V_string (by simp only [bnd]; omega), ⟨_, _, rfl, hl4 hb4.2, rfl⟩⟩⟩⟩⟩
  have ht := treeOrders l0 l1 x2.data.toList x3.data.toList l4 hb0.1 hb1.1 hb4.1
  refine (law_calls ok_tabZ4 (m := 20) (k := 9) (hs := H0) (Λ := noLoops) (fun i hi => anyLoops) (by kernel_rfl) ht hV2).mono fun e W' ⟨he, hs⟩ => ?_
  subst he
  exact ⟨_, rfl, law_post laidOut recs (tb := 4) rfl Tryd.underlying4 rfl hW' hs rfl⟩
theorem laid_met (os : Os) : laidMet Tryd.prog Rows.mavenOrdersRow.laid ((theWorld os).forCall (fun _ _ => 0) ⟨#[], #[.slice none 0 0, .slice none 0 0, .string ⟨#[]⟩, .string ⟨#[]⟩, .slice none 0 0], []⟩).memory :=
  laidMet_of_run' 8 (by kernel_rfl) (by kernel_rfl)
theorem reads (os : Os) {H : Type} (enc : TypeId × Value → H) : ∃ places, DataW.whole enc Tryd.prog ((theWorld os).forCall (fun _ _ => 0) ⟨#[], #[.slice none 0 0, .slice none 0 0, .string ⟨#[]⟩, .string ⟨#[]⟩, .slice none 0 0], []⟩).memory Tryd.f7.params.toList Rows.mavenOrdersSpec.vars false (#[.slice none 0 0, .slice none 0 0, .string ⟨#[]⟩, .string ⟨#[]⟩, .slice none 0 0] : Array Value).toList 8 = some ([.nil, .nil, .lit (.string []), .lit (.string []), .nil], [], places) :=
  ⟨[], by kernel_rfl⟩
set_option maxRecDepth 100000 in
theorem lifted (os : Os) (started : os.Started) (H : Type) (enc : TypeId × Value → H) (F : Stop.Interp) :
    ReturnsInHanded {} Tryd.checked os 7 .any ((OpenSpec.ofChange Rows.mavenOrdersSpec).preRow enc Tryd.prog Tryd.f7 Rows.mavenOrdersRow.domain false Rows.mavenOrdersRow.laid) (((OpenSpec.ofChange Rows.mavenOrdersSpec).at F).post enc Tryd.prog Tryd.f7 false true false false) := by
  obtain ⟨places, hx⟩ := reads os enc
  refine returnsInHanded_of_row (C := Tryd.checked) (s := OpenSpec.ofChange Rows.mavenOrdersSpec) own started (by kernel_rfl) Tryd.func7
    (witness_row_at (enc := enc) (C := Tryd.checked) false (theWorld os) #[.slice none 0 0, .slice none 0 0, .string ⟨#[]⟩, .string ⟨#[]⟩, .slice none 0 0] rfl (by kernel_rfl) (by kernel_rfl) (by kernel_rfl)
      (OpenSpec.preRow_of_cond 8 hx (by kernel_rfl) (fun k hk => by cases hk) (by kernel_rfl) (laid_met os))) ?_
  intro W base args ds gs before hval hW _ _ hwt hL _ _
  exact contract H enc W base args ds gs before hval hW hwt
theorem said : Rows.MavenOrdersSaid :=
  OpenClaim.holds_of_cond 7 Tryd.f7 rfl rfl rfl rfl rfl rfl rfl ⟨rfl, rfl, rfl, rfl, rfl⟩ rfl rfl rfl rfl rfl (by kernel_rfl) Tryd.func7 (by kernel_rfl)
    (of_decide_eq_true (by kernel_rfl)) (by unfold Func.isWrapper; first | (rw [if_pos (by decide +kernel)]; kernel_rfl) | (rw [if_neg (by decide +kernel)]; exact ⟨rfl, rfl⟩))
    (fun os started H enc _ F => by rw [OpenClaim.pre_eq_preRow]; exact lifted os started H enc F)
theorem plain (f : FuncId) (fn : Func) (hf : Tryd.pinned.checked.prog.funcNamed "dovetail/dovetaillaw06.MavenOrders" = some f) (hfn : Tryd.pinned.checked.prog.funcs[f]? = some fn) :
    false = Tryd.pinned.checked.prog.looks [] ∧ ∀ (j : Nat) t, fn.params[j]? = some t → Tryd.pinned.checked.prog.wantsStandIn t = false := by
  obtain rfl : f = 7 := Option.some.inj ((show Tryd.prog.funcNamed "dovetail/dovetaillaw06.MavenOrders" = some 7 by kernel_rfl).symm.trans hf) |>.symm
  obtain rfl : fn = Tryd.f7 := (Option.some.inj (Tryd.func7.symm.trans hfn)).symm
  refine ⟨by kernel_rfl, fun j t ht => ?_⟩
  rw [Tryd.params7] at ht
  have ht : t = 9 ∨ t = 22 ∨ t = 36 := by
    have := Array.mem_of_getElem? ht
    simp at this
    grind
  rcases ht with rfl | rfl | rfl
  · exact (show Tryd.prog.wantsStandIn 9 = false by kernel_rfl)
  · exact (show Tryd.prog.wantsStandIn 22 = false by kernel_rfl)
  · exact (show Tryd.prog.wantsStandIn 36 = false by kernel_rfl)
end mavenOrders
theorem mavenOrders_card : Rows.MavenOrdersCardSaid :=
  Claim7.holds_tied_plain_at .later [] _ _ _ _ mavenOrders.said (fun _ h => by cases h) (by kernel_rfl) (fun _ h => by cases h) mavenOrders_row_tie rfl ⟨rfl, rfl⟩ (by kernel_rfl) rfl mavenOrders.plain (by kernel_rfl)
#print axioms mavenOrders_card
end Go.Proofs.YtdkmbohpmfakkaaDoor

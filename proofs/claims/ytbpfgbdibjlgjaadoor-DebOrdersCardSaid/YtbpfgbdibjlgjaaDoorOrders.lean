/- The law DebOrders holds as its card says, for every input. Conditions: those of the row (laid, recurses, unfollowed). -/
import Derived.Test.YtbpfgbdibjlgjaaDoorFnL
namespace Go.Proofs.YtbpfgbdibjlgjaaDoor
open Go.ChangeShapes Go.WideShapes Go.ChangeAt Go.RowKit Go.Ab Go.Deb
set_option linter.unusedVariables false
namespace debOrders
theorem recs : ∀ t, t ∈ Tryd.f8.params.toList → Tryd.prog.readableRec t = true ∧ t < Tryd.prog.types.size := by
  rw [Tryd.params8]
  intro t ht
  simp only [List.mem_cons, List.not_mem_nil, or_false] at ht
  rcases ht with rfl | rfl | rfl | rfl | rfl | rfl
  · exact rec23
  · exact rec23
  · exact rec9
  · exact rec9
  · exact rec9
  · exact rec34
set_option maxRecDepth 100000 in
theorem contract (H : Type) (enc : TypeId × Value → H) (W : World) (base : Nat) (args : Array Value) (ds gs : List (DataW H)) (before : List MemPlace)
    (hval : ∀ (j : Nat) t v, Tryd.f8.params[j]? = some t → args[j]? = some v → Value.okWide Tryd.prog W .any base t v)
    (hW : DataW.Whole enc Tryd.prog Tryd.f8.params.toList Rows.debOrdersSpec.vars false W args.toList ds gs before)
    (hwt : (DataW.weightsEach Tryd.prog (Tryd.f8.params.toList ++ (OpenSpec.ofChange Rows.debOrdersSpec).bare.plain.varTypes Tryd.prog) (ds ++ gs)).all (· ≤ reachBytes) = true) :
    Calls Tryd.prog 8 args W fun e W' => ∃ v, e = .returned v ∧ Rows.debOrdersSpec.post enc Tryd.prog Tryd.f8 false true false false W args v W' := by
  have hW' := hW
  obtain ⟨p, q, hA, hV, rfl, hfz, hnd⟩ := hW
  rw [Tryd.params8] at hA hval hwt
  obtain ⟨v0, vs0, d0, ds0, p0, q0, hargs, rfl, rfl, h0, r0⟩ := trodAll_cons hA
  obtain ⟨v1, vs1, d1, ds1, p1, q1, rfl, rfl, rfl, h1, r1⟩ := trodAll_cons r0
  obtain ⟨v2, vs2, d2, ds2, p2, q2, rfl, rfl, rfl, h2, r2⟩ := trodAll_cons r1
  obtain ⟨v3, vs3, d3, ds3, p3, q3, rfl, rfl, rfl, h3, r3⟩ := trodAll_cons r2
  obtain ⟨v4, vs4, d4, ds4, p4, q4, rfl, rfl, rfl, h4, r4⟩ := trodAll_cons r3
  obtain ⟨v5, vs5, d5, ds5, p5, q5, rfl, rfl, rfl, h5, r5⟩ := trodAll_cons r4
  obtain ⟨rfl, rfl, rfl⟩ := trodAll_nil r5
  obtain rfl : args = #[v0, v1, v2, v3, v4, v5] := by cases args; simp_all
  obtain ⟨rfl, rfl⟩ := trodVars_none hV
  obtain ⟨x0, y0, z0, rfl, rfl, rfl⟩ := open_str3 Tryd.underlying23 Tryd.underlying9 Tryd.underlying9 Tryd.underlying9 rfl rfl rfl cells23 cells9 cells9 cells9 (hval 0 23 v0 rfl rfl) h0
  obtain ⟨x1, y1, z1, rfl, rfl, rfl⟩ := open_str3 Tryd.underlying23 Tryd.underlying9 Tryd.underlying9 Tryd.underlying9 rfl rfl rfl cells23 cells9 cells9 cells9 (hval 1 23 v1 rfl rfl) h1
  obtain ⟨x2, rfl, rfl, rfl, hs2⟩ := Go.ChangeMaps.open_string Tryd.underlying9 (hval 2 9 v2 rfl rfl) h2
  obtain ⟨x3, rfl, rfl, rfl, hs3⟩ := Go.ChangeMaps.open_string Tryd.underlying9 (hval 3 9 v3 rfl rfl) h3
  obtain ⟨x4, rfl, rfl, rfl, hs4⟩ := Go.ChangeMaps.open_string Tryd.underlying9 (hval 4 9 v4 rfl rfl) h4
  obtain ⟨l5, hd5, hl5⟩ := open_rowV Tryd.underlying34 Tryd.underlying9 cells9 (hval 5 34 v5 rfl rfl) h5
  have hwt1 : ∀ x ∈ DataW.weightsEach Tryd.prog [23, 23, 9, 9, 9, 34] [(.agg [.lit (.string x0.data.toList), .lit (.string y0.data.toList), .lit (.string z0.data.toList)]), (.agg [.lit (.string x1.data.toList), .lit (.string y1.data.toList), .lit (.string z1.data.toList)]), (.lit (.string x2.data.toList)), (.lit (.string x3.data.toList)), (.lit (.string x4.data.toList)), d5], x ≤ reachBytes := fun x hx => of_decide_eq_true (List.all_eq_true.1 hwt x hx)
  simp only [DataW.weightsEach, List.mem_append] at hwt1
  have hb0 := w_ver Tryd.underlying23 (fun x hx => hwt1 x (.inl hx))
  have e0x : x0.data.toList.length = x0.size := rfl
  have e0y : y0.data.toList.length = y0.size := rfl
  have e0z : z0.data.toList.length = z0.size := rfl
  simp only [reachBytes] at hb0
  have hb1 := w_ver Tryd.underlying23 (fun x hx => hwt1 x (.inr (.inl hx)))
  have e1x : x1.data.toList.length = x1.size := rfl
  have e1y : y1.data.toList.length = y1.size := rfl
  have e1z : z1.data.toList.length = z1.size := rfl
  simp only [reachBytes] at hb1
  have hb2 := w_str (fun x hx => hwt1 x (.inr (.inr (.inl hx))))
  have e2 : x2.data.toList.length = x2.size := rfl
  simp only [reachBytes] at hb2
  have hb3 := w_str (fun x hx => hwt1 x (.inr (.inr (.inr (.inl hx)))))
  have e3 : x3.data.toList.length = x3.size := rfl
  simp only [reachBytes] at hb3
  have hb4 := w_str (fun x hx => hwt1 x (.inr (.inr (.inr (.inr (.inl hx))))))
  have e4 : x4.data.toList.length = x4.size := rfl
  simp only [reachBytes] at hb4
  have hb5 := w_row Tryd.underlying34 bytes9 (by omega) hd5 (fun x hx => hwt1 x (.inr (.inr (.inr (.inr (.inr (.inl hx)))))))
  have hV2 : VL (fun _ => False) W (fun _ => none) [verAV x0.data.toList y0.data.toList z0.data.toList, verAV x1.data.toList y1.data.toList z1.data.toList, .str x2.data.toList, .str x3.data.toList, .str x4.data.toList, .sl 1 l5.length (strF l5)] [Value.agg #[.string x0, .string y0, .string z0], Value.agg #[.string x1, .string y1, .string z1], Value.string x2, Value.string x3, Value.string x4, v5] :=
    ⟨_, _, rfl, by simp only [verAV, V]; exact ⟨_, rfl, _, _, rfl, V_string (by simp only [bnd]; omega), _, _, rfl, V_string (by simp only [bnd]; omega), _, _, rfl, V_string (by simp only [bnd]; omega), rfl⟩, ⟨_, _, rfl, by simp only [verAV, V]; exact ⟨_, rfl, _, _, rfl, V_string (by simp only [bnd]; omega), _, _, rfl, V_string (by simp only [bnd]; omega), _, _, rfl, V_string (by simp only [bnd]; omega), rfl⟩, ⟨_, _, rfl, V_string (by simp only [bnd]; omega), ⟨_, _, rfl, V_string (by simp only [bnd]; omega), ⟨_, _, rfl, V_string (by simp only [bnd]; omega), ⟨_, _, rfl, hl5 hb5.2, rfl⟩⟩⟩⟩⟩⟩
  have ht := tree8 x0.data.toList y0.data.toList z0.data.toList x1.data.toList y1.data.toList z1.data.toList x2.data.toList x3.data.toList x4.data.toList l5 (by simp only [bnd]; omega) (by simp only [bnd]; omega) (by simp only [bnd]; omega) (by simp only [bnd]; omega) hb5.1
  refine (law_calls ok_tabZ4 (m := 20) (k := 9) (hs := H0) (Λ := noLoops) (fun i hi => anyLoops) (by kernel_rfl) ht hV2).mono fun e W' ⟨he, hs⟩ => ?_
  subst he
  exact ⟨_, rfl, law_post laidOut recs (tb := 4) rfl Tryd.underlying4 rfl hW' hs rfl⟩
theorem laid_met (os : Os) : laidMet Tryd.prog Rows.debOrdersRow.laid ((theWorld os).forCall (fun _ _ => 0) ⟨#[], #[.agg #[.string ⟨#[]⟩, .string ⟨#[]⟩, .string ⟨#[]⟩], .agg #[.string ⟨#[]⟩, .string ⟨#[]⟩, .string ⟨#[]⟩], .string ⟨#[]⟩, .string ⟨#[]⟩, .string ⟨#[]⟩, .slice none 0 0], []⟩).memory :=
  laidMet_of_run' 8 (by kernel_rfl) (by kernel_rfl)
theorem reads (os : Os) {H : Type} (enc : TypeId × Value → H) : ∃ places, DataW.whole enc Tryd.prog ((theWorld os).forCall (fun _ _ => 0) ⟨#[], #[.agg #[.string ⟨#[]⟩, .string ⟨#[]⟩, .string ⟨#[]⟩], .agg #[.string ⟨#[]⟩, .string ⟨#[]⟩, .string ⟨#[]⟩], .string ⟨#[]⟩, .string ⟨#[]⟩, .string ⟨#[]⟩, .slice none 0 0], []⟩).memory Tryd.f8.params.toList Rows.debOrdersSpec.vars false (#[.agg #[.string ⟨#[]⟩, .string ⟨#[]⟩, .string ⟨#[]⟩], .agg #[.string ⟨#[]⟩, .string ⟨#[]⟩, .string ⟨#[]⟩], .string ⟨#[]⟩, .string ⟨#[]⟩, .string ⟨#[]⟩, .slice none 0 0] : Array Value).toList 8 = some ([.agg [.lit (.string []), .lit (.string []), .lit (.string [])], .agg [.lit (.string []), .lit (.string []), .lit (.string [])], .lit (.string []), .lit (.string []), .lit (.string []), .nil], [], places) :=
  ⟨[], by kernel_rfl⟩
set_option maxRecDepth 100000 in
theorem lifted (os : Os) (started : os.Started) (H : Type) (enc : TypeId × Value → H) (F : Stop.Interp) :
    ReturnsInHanded {} Tryd.checked os 8 .any ((OpenSpec.ofChange Rows.debOrdersSpec).preRow enc Tryd.prog Tryd.f8 Rows.debOrdersRow.domain false Rows.debOrdersRow.laid) (((OpenSpec.ofChange Rows.debOrdersSpec).at F).post enc Tryd.prog Tryd.f8 false true false false) := by
  obtain ⟨places, hx⟩ := reads os enc
  refine returnsInHanded_of_row (C := Tryd.checked) (s := OpenSpec.ofChange Rows.debOrdersSpec) own started (by kernel_rfl) Tryd.func8
    (witness_row_at (enc := enc) (C := Tryd.checked) false (theWorld os) #[.agg #[.string ⟨#[]⟩, .string ⟨#[]⟩, .string ⟨#[]⟩], .agg #[.string ⟨#[]⟩, .string ⟨#[]⟩, .string ⟨#[]⟩], .string ⟨#[]⟩, .string ⟨#[]⟩, .string ⟨#[]⟩, .slice none 0 0] rfl (by kernel_rfl) (by kernel_rfl) (by kernel_rfl)
      (OpenSpec.preRow_of_cond 8 hx (by kernel_rfl) (fun k hk => by cases hk) (by kernel_rfl) (laid_met os))) ?_
  intro W base args ds gs before hval hW _ _ hwt hL _ _
  exact contract H enc W base args ds gs before hval hW hwt
theorem said : Rows.DebOrdersSaid :=
  OpenClaim.holds_of_cond 8 Tryd.f8 rfl rfl rfl rfl rfl rfl rfl ⟨rfl, rfl, rfl, rfl, rfl⟩ rfl rfl rfl rfl rfl (by kernel_rfl) Tryd.func8 (by kernel_rfl)
    (of_decide_eq_true (by kernel_rfl)) (by unfold Func.isWrapper; first | (rw [if_pos (by decide +kernel)]; kernel_rfl) | (rw [if_neg (by decide +kernel)]; exact ⟨rfl, rfl⟩))
    (fun os started H enc _ F => by rw [OpenClaim.pre_eq_preRow]; exact lifted os started H enc F)
theorem plain (f : FuncId) (fn : Func) (hf : Tryd.pinned.checked.prog.funcNamed "dovetail/dovetaillaw04.DebOrders" = some f) (hfn : Tryd.pinned.checked.prog.funcs[f]? = some fn) :
    false = Tryd.pinned.checked.prog.looks [] ∧ ∀ (j : Nat) t, fn.params[j]? = some t → Tryd.pinned.checked.prog.wantsStandIn t = false := by
  obtain rfl : f = 8 := Option.some.inj ((show Tryd.prog.funcNamed "dovetail/dovetaillaw04.DebOrders" = some 8 by kernel_rfl).symm.trans hf) |>.symm
  obtain rfl : fn = Tryd.f8 := (Option.some.inj (Tryd.func8.symm.trans hfn)).symm
  refine ⟨by kernel_rfl, fun j t ht => ?_⟩
  rw [Tryd.params8] at ht
  have ht : t = 9 ∨ t = 23 ∨ t = 34 := by
    have := Array.mem_of_getElem? ht
    simp at this
    grind
  rcases ht with rfl | rfl | rfl
  · exact (show Tryd.prog.wantsStandIn 9 = false by kernel_rfl)
  · exact (show Tryd.prog.wantsStandIn 23 = false by kernel_rfl)
  · exact (show Tryd.prog.wantsStandIn 34 = false by kernel_rfl)
end debOrders
theorem debOrders_card : Rows.DebOrdersCardSaid :=
  Claim7.holds_tied_plain_at .later [] _ _ _ _ debOrders.said (fun _ h => by cases h) (by kernel_rfl) (fun _ h => by cases h) debOrders_row_tie rfl ⟨rfl, rfl⟩ (by kernel_rfl) rfl debOrders.plain (by kernel_rfl)
#print axioms debOrders_card
end Go.Proofs.YtbpfgbdibjlgjaaDoor

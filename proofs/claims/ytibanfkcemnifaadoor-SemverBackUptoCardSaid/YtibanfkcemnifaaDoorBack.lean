/- The law SemverBack holds as its second card (UptoCardSaid) says, for every input of bulk at most 1048576. Conditions: those of the row (laid, recurses, unfollowed, narrowed). -/
import Derived.Test.YtibanfkcemnifaaDoorFnG
namespace Go.Proofs.YtibanfkcemnifaaDoor
open Go.ChangeShapes Go.WideShapes Go.ChangeAt Go.RowKit Go.Ab Go.Sem
set_option linter.unusedVariables false
namespace semverBack
theorem recs : ∀ t, t ∈ Tryd.f4.params.toList → Tryd.prog.readableRec t = true ∧ t < Tryd.prog.types.size := by
  rw [Tryd.params4]
  intro t ht
  simp only [List.mem_cons, List.not_mem_nil, or_false] at ht
  rcases ht with rfl | rfl
  · exact rec9
  · exact rec27
set_option maxRecDepth 100000 in
theorem contract (H : Type) (enc : TypeId × Value → H) (W : World) (base : Nat) (args : Array Value) (ds gs : List (DataW H)) (before : List MemPlace)
    (hval : ∀ (j : Nat) t v, Tryd.f4.params[j]? = some t → args[j]? = some v → Value.okWide Tryd.prog W .any base t v)
    (hW : DataW.Whole enc Tryd.prog Tryd.f4.params.toList Rows.semverBackSpec.vars false W args.toList ds gs before)
    (hk : Rows.uptoSmall H (ds ++ gs) = true) :
    Calls Tryd.prog 4 args W fun e W' => ∃ v, e = .returned v ∧ Rows.semverBackSpec.post enc Tryd.prog Tryd.f4 false true false false W args v W' := by
  have hW' := hW
  obtain ⟨p, q, hA, hV, rfl, hfz, hnd⟩ := hW
  rw [Tryd.params4] at hA hval
  obtain ⟨v0, vs0, d0, ds0, p0, q0, hargs, rfl, rfl, h0, r0⟩ := trodAll_cons hA
  obtain ⟨v1, vs1, d1, ds1, p1, q1, rfl, rfl, rfl, h1, r1⟩ := trodAll_cons r0
  obtain ⟨rfl, rfl, rfl⟩ := trodAll_nil r1
  obtain rfl : args = #[v0, v1] := by cases args; simp_all
  obtain ⟨rfl, rfl⟩ := trodVars_none hV
  obtain ⟨x0, rfl, rfl, rfl, hs0⟩ := Go.ChangeMaps.open_string Tryd.underlying9 (hval 0 9 v0 rfl rfl) h0
  obtain ⟨x1, y1, z1, p1v, q1v, d1p, d1q, l1, m1, rfl, rfl, hp1, hq1, hl1, hm1⟩ := open_sem Tryd.underlying27 Tryd.underlying9 Tryd.underlying9 Tryd.underlying9 Tryd.underlying25 Tryd.underlying25 Tryd.underlying9 rfl rfl rfl rfl rfl cells27 cells9 cells9 cells9 cells25 cells25 cells9 ct27 (hval 1 27 v1 rfl rfl) h1
  have hk1 := of_decide_eq_true hk
  simp only [Rows.uptoBulkAll, Rows.uptoBulk, List.cons_append, List.nil_append, List.append_nil] at hk1
  have ex0 : x0.data.toList.length = x0.size := rfl
  have hbx0 : x0.size ≤ 1048576 := by omega
  have hbp1 := bulk_row hp1
  have hbq1 := bulk_row hq1
  have e1x : x1.data.toList.length = x1.size := rfl
  have e1y : y1.data.toList.length = y1.size := rfl
  have e1z : z1.data.toList.length = z1.size := rfl
  have hb1 : bulkV ⟨x1.data.toList, y1.data.toList, z1.data.toList, l1, m1⟩ ≤ 1048576 := by simp only [bulkV]; omega
  simp only [bulkV] at hb1
  have hV2 : VL (fun _ => False) W (fun _ => none) [.str x0.data.toList, .agg [.str x1.data.toList, .str y1.data.toList, .str z1.data.toList, .sl 1 l1.length (strF l1), .sl 1 m1.length (strF m1)]] [Value.string x0, Value.agg #[.string x1, .string y1, .string z1, p1v, q1v]] :=
    ⟨_, _, rfl, V_string (by simp only [bnd]; omega), ⟨_, _, rfl, by simp only [V]; exact ⟨_, rfl, _, _, rfl, V_string (by simp only [bnd]; omega), _, _, rfl, V_string (by simp only [bnd]; omega), _, _, rfl, V_string (by simp only [bnd]; omega), _, _, rfl, hl1 (small_of (by omega)), _, _, rfl, hm1 (small_of (by omega)), rfl⟩, rfl⟩⟩
  have ht := treeBack x0.data.toList ⟨x1.data.toList, y1.data.toList, z1.data.toList, l1, m1⟩ hbx0 (by simp only [bulkV]; omega)
  refine (law_calls ok_tabY (m := 20) (k := 9) (hs := H0) (Λ := noLoops) (fun i hi => anyLoops) (by kernel_rfl) ht hV2).mono fun e W' ⟨he, hs⟩ => ?_
  subst he
  exact ⟨_, rfl, law_post laidOut recs (tb := 4) rfl Tryd.underlying4 rfl hW' hs rfl⟩
theorem laid_met (os : Os) : laidMet Tryd.prog Rows.semverBackUptoRow.laid ((theWorld os).forCall (fun _ _ => 0) ⟨#[], #[.string ⟨#[]⟩, .agg #[.string ⟨#[]⟩, .string ⟨#[]⟩, .string ⟨#[]⟩, .slice none 0 0, .slice none 0 0]], []⟩).memory :=
  laidMet_of_run' 8 (by kernel_rfl) (by kernel_rfl)
theorem reads (os : Os) {H : Type} (enc : TypeId × Value → H) : ∃ places, DataW.whole enc Tryd.prog ((theWorld os).forCall (fun _ _ => 0) ⟨#[], #[.string ⟨#[]⟩, .agg #[.string ⟨#[]⟩, .string ⟨#[]⟩, .string ⟨#[]⟩, .slice none 0 0, .slice none 0 0]], []⟩).memory Tryd.f4.params.toList Rows.semverBackSpec.vars false (#[.string ⟨#[]⟩, .agg #[.string ⟨#[]⟩, .string ⟨#[]⟩, .string ⟨#[]⟩, .slice none 0 0, .slice none 0 0]] : Array Value).toList 8 = some ([.lit (.string []), .agg [.lit (.string []), .lit (.string []), .lit (.string []), .nil, .nil]], [], places) :=
  ⟨[], by kernel_rfl⟩
set_option maxRecDepth 100000 in
theorem lifted (os : Os) (started : os.Started) (H : Type) (enc : TypeId × Value → H) (F : Stop.Interp) :
    ReturnsInHanded {} Tryd.checked os 4 .any ((Rows.OpenSpec.upto Rows.semverBackSpec).preRow enc Tryd.prog Tryd.f4 Rows.semverBackUptoRow.domain false Rows.semverBackUptoRow.laid) (((Rows.OpenSpec.upto Rows.semverBackSpec).at F).post enc Tryd.prog Tryd.f4 false true false false) := by
  obtain ⟨places, hx⟩ := reads os enc
  refine returnsInHanded_of_row (C := Tryd.checked) (s := Rows.OpenSpec.upto Rows.semverBackSpec) own started (by kernel_rfl) Tryd.func4
    (witness_row_at (enc := enc) (C := Tryd.checked) false (theWorld os) #[.string ⟨#[]⟩, .agg #[.string ⟨#[]⟩, .string ⟨#[]⟩, .string ⟨#[]⟩, .slice none 0 0, .slice none 0 0]] rfl (by kernel_rfl) (by kernel_rfl) (by kernel_rfl)
      (OpenSpec.preRow_of_cond 8 hx (by kernel_rfl) (fun k hk => by cases hk; kernel_rfl) (by kernel_rfl) (laid_met os))) ?_
  intro W base args ds gs before hval hW _ hcond hwt hL _ _
  exact contract H enc W base args ds gs before hval hW (hcond _ rfl)
theorem said : Rows.SemverBackUptoSaid :=
  OpenClaim.holds_of_cond 4 Tryd.f4 rfl rfl rfl rfl rfl rfl rfl ⟨rfl, rfl, rfl, rfl, rfl⟩ rfl rfl rfl rfl rfl (by kernel_rfl) Tryd.func4 (by kernel_rfl)
    (of_decide_eq_true (by kernel_rfl)) (by unfold Func.isWrapper; first | (rw [if_pos (by decide +kernel)]; kernel_rfl) | (rw [if_neg (by decide +kernel)]; exact ⟨rfl, rfl⟩))
    (fun os started H enc _ F => by rw [OpenClaim.pre_eq_preRow]; exact lifted os started H enc F)
theorem plain (f : FuncId) (fn : Func) (hf : Tryd.pinned.checked.prog.funcNamed "dovetail/dovetaillaw02.SemverBack" = some f) (hfn : Tryd.pinned.checked.prog.funcs[f]? = some fn) :
    false = Tryd.pinned.checked.prog.looks [] ∧ ∀ (j : Nat) t, fn.params[j]? = some t → Tryd.pinned.checked.prog.wantsStandIn t = false := by
  obtain rfl : f = 4 := Option.some.inj ((show Tryd.prog.funcNamed "dovetail/dovetaillaw02.SemverBack" = some 4 by kernel_rfl).symm.trans hf) |>.symm
  obtain rfl : fn = Tryd.f4 := (Option.some.inj (Tryd.func4.symm.trans hfn)).symm
  refine ⟨by kernel_rfl, fun j t ht => ?_⟩
  rw [Tryd.params4] at ht
  have ht : t = 9 ∨ t = 27 := by
    have := Array.mem_of_getElem? ht
    simp at this
    grind
  rcases ht with rfl | rfl
  · exact (show Tryd.prog.wantsStandIn 9 = false by kernel_rfl)
  · exact (show Tryd.prog.wantsStandIn 27 = false by kernel_rfl)
end semverBack
theorem semverBack_upto_card : Rows.SemverBackUptoCardSaid :=
  Claim7.holds_tied_plain_at .later [] _ _ _ _ semverBack.said (fun _ h => by cases h) (by kernel_rfl) (fun _ h => by cases h) semverBackUpto_row_tie rfl ⟨rfl, rfl⟩ (by kernel_rfl) rfl semverBack.plain (by kernel_rfl)
#print axioms semverBack_upto_card
end Go.Proofs.YtibanfkcemnifaaDoor

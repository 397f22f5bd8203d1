/- The law SemverOrders holds as its second card (UptoCardSaid) says, for every input of bulk at most 1048576. Conditions: those of the row (laid, recurses, unfollowed, narrowed). -/
import Derived.Test.YtibanfkcemnifaaDoorFnG
import Derived.Test.YtibanfkcemnifaaDoorFnN
import Derived.Test.YtibanfkcemnifaaDoorEvF
namespace Go.Proofs.YtibanfkcemnifaaDoor
open Go.ChangeShapes Go.WideShapes Go.ChangeAt Go.RowKit Go.Ab Go.Sem
set_option linter.unusedVariables false
namespace semverOrders
theorem recs : ∀ t, t ∈ Tryd.f7.params.toList → Tryd.prog.readableRec t = true ∧ t < Tryd.prog.types.size := by
  rw [Tryd.params7]
  intro t ht
  simp only [List.mem_cons, List.not_mem_nil, or_false] at ht
  rcases ht with rfl | rfl | rfl | rfl | rfl
  · exact rec27
  · exact rec27
  · exact rec9
  · exact rec9
  · exact rec25
set_option maxRecDepth 100000 in
theorem contract (H : Type) (enc : TypeId × Value → H) (W : World) (base : Nat) (args : Array Value) (ds gs : List (DataW H)) (before : List MemPlace)
    (hval : ∀ (j : Nat) t v, Tryd.f7.params[j]? = some t → args[j]? = some v → Value.okWide Tryd.prog W .any base t v)
    (hW : DataW.Whole enc Tryd.prog Tryd.f7.params.toList Rows.semverOrdersSpec.vars false W args.toList ds gs before)
    (hk : Rows.uptoSmall H (ds ++ gs) = true) :
    Calls Tryd.prog 7 args W fun e W' => ∃ v, e = .returned v ∧ Rows.semverOrdersSpec.post enc Tryd.prog Tryd.f7 false true false false W args v W' := by
  have hW' := hW
  obtain ⟨p, q, hA, hV, rfl, hfz, hnd⟩ := hW
  rw [Tryd.params7] at hA hval
  obtain ⟨v0, vs0, d0, ds0, p0, q0, hargs, rfl, rfl, h0, r0⟩ := trodAll_cons hA
  obtain ⟨v1, vs1, d1, ds1, p1, q1, rfl, rfl, rfl, h1, r1⟩ := trodAll_cons r0
  obtain ⟨v2, vs2, d2, ds2, p2, q2, rfl, rfl, rfl, h2, r2⟩ := trodAll_cons r1
  obtain ⟨v3, vs3, d3, ds3, p3, q3, rfl, rfl, rfl, h3, r3⟩ := trodAll_cons r2
  obtain ⟨v4, vs4, d4, ds4, p4, q4, rfl, rfl, rfl, h4, r4⟩ := trodAll_cons r3
  obtain ⟨rfl, rfl, rfl⟩ := trodAll_nil r4
  obtain rfl : args = #[v0, v1, v2, v3, v4] := by cases args; simp_all
  obtain ⟨rfl, rfl⟩ := trodVars_none hV
  obtain ⟨x0, y0, z0, p0v, q0v, d0p, d0q, l0, m0, rfl, rfl, hp0, hq0, hl0, hm0⟩ := open_sem Tryd.underlying27 Tryd.underlying9 Tryd.underlying9 Tryd.underlying9 Tryd.underlying25 Tryd.underlying25 Tryd.underlying9 rfl rfl rfl rfl rfl cells27 cells9 cells9 cells9 cells25 cells25 cells9 ct27 (hval 0 27 v0 rfl rfl) h0
  obtain ⟨x1, y1, z1, p1v, q1v, d1p, d1q, l1, m1, rfl, rfl, hp1, hq1, hl1, hm1⟩ := open_sem Tryd.underlying27 Tryd.underlying9 Tryd.underlying9 Tryd.underlying9 Tryd.underlying25 Tryd.underlying25 Tryd.underlying9 rfl rfl rfl rfl rfl cells27 cells9 cells9 cells9 cells25 cells25 cells9 ct27 (hval 1 27 v1 rfl rfl) h1
  obtain ⟨x2, rfl, rfl, rfl, hs2⟩ := Go.ChangeMaps.open_string Tryd.underlying9 (hval 2 9 v2 rfl rfl) h2
  obtain ⟨x3, rfl, rfl, rfl, hs3⟩ := Go.ChangeMaps.open_string Tryd.underlying9 (hval 3 9 v3 rfl rfl) h3
  obtain ⟨l4, hd4, hl4⟩ := open_rowV Tryd.underlying25 Tryd.underlying9 cells9 (hval 4 25 v4 rfl rfl) h4
  have hk1 := of_decide_eq_true hk
  simp only [Rows.uptoBulkAll, Rows.uptoBulk, List.cons_append, List.nil_append, List.append_nil] at hk1
  have hbp0 := bulk_row hp0
  have hbq0 := bulk_row hq0
  have e0x : x0.data.toList.length = x0.size := rfl
  have e0y : y0.data.toList.length = y0.size := rfl
  have e0z : z0.data.toList.length = z0.size := rfl
  have hb0 : bulkV ⟨x0.data.toList, y0.data.toList, z0.data.toList, l0, m0⟩ ≤ 1048576 := by simp only [bulkV]; omega
  simp only [bulkV] at hb0
  have hbp1 := bulk_row hp1
  have hbq1 := bulk_row hq1
  have e1x : x1.data.toList.length = x1.size := rfl
  have e1y : y1.data.toList.length = y1.size := rfl
  have e1z : z1.data.toList.length = z1.size := rfl
  have hb1 : bulkV ⟨x1.data.toList, y1.data.toList, z1.data.toList, l1, m1⟩ ≤ 1048576 := by simp only [bulkV]; omega
  simp only [bulkV] at hb1
  have ex2 : x2.data.toList.length = x2.size := rfl
  have hbx2 : x2.size ≤ 1048576 := by omega
  have ex3 : x3.data.toList.length = x3.size := rfl
  have hbx3 : x3.size ≤ 1048576 := by omega
  have hb40 := bulk_row hd4
  have hb4 : bulkR l4 ≤ 1048576 := by omega
  have hV2 : VL (fun _ => False) W (fun _ => none) [.agg [.str x0.data.toList, .str y0.data.toList, .str z0.data.toList, .sl 1 l0.length (strF l0), .sl 1 m0.length (strF m0)], .agg [.str x1.data.toList, .str y1.data.toList, .str z1.data.toList, .sl 1 l1.length (strF l1), .sl 1 m1.length (strF m1)], .str x2.data.toList, .str x3.data.toList, .sl 1 l4.length (strF l4)] [Value.agg #[.string x0, .string y0, .string z0, p0v, q0v], Value.agg #[.string x1, .string y1, .string z1, p1v, q1v], Value.string x2, Value.string x3, v4] :=
    ⟨_, _, rfl, by simp only [V]; exact ⟨_, rfl, _, _, rfl, V_string (by simp only [bnd]; omega), _, _, rfl, V_string (by simp only [bnd]; omega), _, _, rfl, V_string (by simp only [bnd]; omega), _, _, rfl, hl0 (small_of (by omega)), _, _, rfl, hm0 (small_of (by omega)), rfl⟩, ⟨_, _, rfl, by simp only [V]; exact ⟨_, rfl, _, _, rfl, V_string (by simp only [bnd]; omega), _, _, rfl, V_string (by simp only [bnd]; omega), _, _, rfl, V_string (by simp only [bnd]; omega), _, _, rfl, hl1 (small_of (by omega)), _, _, rfl, hm1 (small_of (by omega)), rfl⟩, ⟨_, _, rfl, V_string (by simp only [bnd]; omega), ⟨_, _, rfl, V_string (by simp only [bnd]; omega), ⟨_, _, rfl, hl4 (small_of hb4), rfl⟩⟩⟩⟩⟩
  have ht := treeOrders ⟨x0.data.toList, y0.data.toList, z0.data.toList, l0, m0⟩ ⟨x1.data.toList, y1.data.toList, z1.data.toList, l1, m1⟩ x2.data.toList x3.data.toList l4 (by simp only [bulkV]; omega) (by simp only [bulkV]; omega) hbx2 hbx3 hb4
  refine (law_calls ok_tabZ4 (m := 20) (k := 9) (hs := H0) (Λ := noLoops) (fun i hi => anyLoops) (by kernel_rfl) ht hV2).mono fun e W' ⟨he, hs⟩ => ?_
  subst he
  exact ⟨_, rfl, law_post laidOut recs (tb := 4) rfl Tryd.underlying4 rfl hW' hs rfl⟩
theorem laid_met (os : Os) : laidMet Tryd.prog Rows.semverOrdersUptoRow.laid ((theWorld os).forCall (fun _ _ => 0) ⟨#[], #[.agg #[.string ⟨#[]⟩, .string ⟨#[]⟩, .string ⟨#[]⟩, .slice none 0 0, .slice none 0 0], .agg #[.string ⟨#[]⟩, .string ⟨#[]⟩, .string ⟨#[]⟩, .slice none 0 0, .slice none 0 0], .string ⟨#[]⟩, .string ⟨#[]⟩, .slice none 0 0], []⟩).memory :=
  laidMet_of_run' 8 (by kernel_rfl) (by kernel_rfl)
theorem reads (os : Os) {H : Type} (enc : TypeId × Value → H) : ∃ places, DataW.whole enc Tryd.prog ((theWorld os).forCall (fun _ _ => 0) ⟨#[], #[.agg #[.string ⟨#[]⟩, .string ⟨#[]⟩, .string ⟨#[]⟩, .slice none 0 0, .slice none 0 0], .agg #[.string ⟨#[]⟩, .string ⟨#[]⟩, .string ⟨#[]⟩, .slice none 0 0, .slice none 0 0], .string ⟨#[]⟩, .string ⟨#[]⟩, .slice none 0 0], []⟩).memory Tryd.f7.params.toList Rows.semverOrdersSpec.vars false (#[.agg #[.string ⟨#[]⟩, .string ⟨#[]⟩, .string ⟨#[]⟩, .slice none 0 0, .slice none 0 0], .agg #[.string ⟨#[]⟩, .string ⟨#[]⟩, .string ⟨#[]⟩, .slice none 0 0, .slice none 0 0], .string ⟨#[]⟩, .string ⟨#[]⟩, .slice none 0 0] : Array Value).toList 8 = some ([.agg [.lit (.string []), .lit (.string []), .lit (.string []), .nil, .nil], .agg [.lit (.string []), .lit (.string []), .lit (.string []), .nil, .nil], .lit (.string []), .lit (.string []), .nil], [], places) :=
  ⟨[], by kernel_rfl⟩
set_option maxRecDepth 100000 in
theorem lifted (os : Os) (started : os.Started) (H : Type) (enc : TypeId × Value → H) (F : Stop.Interp) :
    ReturnsInHanded {} Tryd.checked os 7 .any ((Rows.OpenSpec.upto Rows.semverOrdersSpec).preRow enc Tryd.prog Tryd.f7 Rows.semverOrdersUptoRow.domain false Rows.semverOrdersUptoRow.laid) (((Rows.OpenSpec.upto Rows.semverOrdersSpec).at F).post enc Tryd.prog Tryd.f7 false true false false) := by
  obtain ⟨places, hx⟩ := reads os enc
  refine returnsInHanded_of_row (C := Tryd.checked) (s := Rows.OpenSpec.upto Rows.semverOrdersSpec) own started (by kernel_rfl) Tryd.func7
    (witness_row_at (enc := enc) (C := Tryd.checked) false (theWorld os) #[.agg #[.string ⟨#[]⟩, .string ⟨#[]⟩, .string ⟨#[]⟩, .slice none 0 0, .slice none 0 0], .agg #[.string ⟨#[]⟩, .string ⟨#[]⟩, .string ⟨#[]⟩, .slice none 0 0, .slice none 0 0], .string ⟨#[]⟩, .string ⟨#[]⟩, .slice none 0 0] rfl (by kernel_rfl) (by kernel_rfl) (by kernel_rfl)
      (OpenSpec.preRow_of_cond 8 hx (by kernel_rfl) (fun k hk => by cases hk; kernel_rfl) (by kernel_rfl) (laid_met os))) ?_
  intro W base args ds gs before hval hW _ hcond hwt hL _ _
  exact contract H enc W base args ds gs before hval hW (hcond _ rfl)
theorem said : Rows.SemverOrdersUptoSaid :=
  OpenClaim.holds_of_cond 7 Tryd.f7 rfl rfl rfl rfl rfl rfl rfl ⟨rfl, rfl, rfl, rfl, rfl⟩ rfl rfl rfl rfl rfl (by kernel_rfl) Tryd.func7 (by kernel_rfl)
    (of_decide_eq_true (by kernel_rfl)) (by unfold Func.isWrapper; first | (rw [if_pos (by decide +kernel)]; kernel_rfl) | (rw [if_neg (by decide +kernel)]; exact ⟨rfl, rfl⟩))
    (fun os started H enc _ F => by rw [OpenClaim.pre_eq_preRow]; exact lifted os started H enc F)
theorem plain (f : FuncId) (fn : Func) (hf : Tryd.pinned.checked.prog.funcNamed "dovetail/dovetaillaw02.SemverOrders" = some f) (hfn : Tryd.pinned.checked.prog.funcs[f]? = some fn) :
    false = Tryd.pinned.checked.prog.looks [] ∧ ∀ (j : Nat) t, fn.params[j]? = some t → Tryd.pinned.checked.prog.wantsStandIn t = false := by
  obtain rfl : f = 7 := Option.some.inj ((show Tryd.prog.funcNamed "dovetail/dovetaillaw02.SemverOrders" = some 7 by kernel_rfl).symm.trans hf) |>.symm
  obtain rfl : fn = Tryd.f7 := (Option.some.inj (Tryd.func7.symm.trans hfn)).symm
  refine ⟨by kernel_rfl, fun j t ht => ?_⟩
  rw [Tryd.params7] at ht
  have ht : t = 9 ∨ t = 25 ∨ t = 27 := by
    have := Array.mem_of_getElem? ht
    simp at this
    grind
  rcases ht with rfl | rfl | rfl
  · exact (show Tryd.prog.wantsStandIn 9 = false by kernel_rfl)
  · exact (show Tryd.prog.wantsStandIn 25 = false by kernel_rfl)
  · exact (show Tryd.prog.wantsStandIn 27 = false by kernel_rfl)
end semverOrders
theorem semverOrders_upto_card : Rows.SemverOrdersUptoCardSaid :=
  Claim7.holds_tied_plain_at .later [] _ _ _ _ semverOrders.said (fun _ h => by cases h) (by kernel_rfl) (fun _ h => by cases h) semverOrdersUpto_row_tie rfl ⟨rfl, rfl⟩ (by kernel_rfl) rfl semverOrders.plain (by kernel_rfl)
#print axioms semverOrders_upto_card
end Go.Proofs.YtibanfkcemnifaaDoor

/- The law PlanChanges holds as its second statement says, wherever what it reads is of bulk at most 1048576. Conditions: those of the row (narrowed, recurses, unfollowed). -/
import Derived.Test.YtnhoihimdkpmnaaRows
import Derived.WalkKit
import Derived.ProofKit
import Derived.OpenShut
import Derived.JoinedCond
import Derived.Test.YtnhoihimdkpmnaaEvE
import Derived.Test.YtnhoihimdkpmnaaFnE
import Derived.Test.YtnhoihimdkpmnaaFnJ
namespace Go.Proofs.Ytnhoihimdkpmnaa
open Go.ChangeShapes Go.WideShapes Go.ChangeAt Go.RowKit Go.Ab Go.Pln
set_option linter.unusedVariables false
theorem own : ownKnob Try.prog.godebug = none := by kernel_rfl
theorem laidOut : laidOutB Try.prog = true := by kernel_rfl
theorem rec3 : Try.prog.readableRec 3 = true ∧ 3 < Try.prog.types.size := ⟨by kernel_rfl, of_decide_eq_true (by kernel_rfl)⟩
theorem rec9 : Try.prog.readableRec 9 = true ∧ 9 < Try.prog.types.size := ⟨by kernel_rfl, of_decide_eq_true (by kernel_rfl)⟩
theorem rec22 : Try.prog.readableRec 22 = true ∧ 22 < Try.prog.types.size := ⟨by kernel_rfl, of_decide_eq_true (by kernel_rfl)⟩
theorem cells61 : Try.prog.cellsOf 61 = 2 := by kernel_rfl
theorem cells9 : Try.prog.cellsOf 9 = 1 := by kernel_rfl
theorem bulk_picks {H : Type} {L : List Pk} {d : DataW H} (h : RowP L d) : L.length ≤ Rows.uptoBulk d ∧ ∀ t ∈ L, t.nm.length ≤ Rows.uptoBulk d ∧ t.vr.length ≤ Rows.uptoBulk d := by
  rcases h with ⟨rfl, rfl⟩ | ⟨sp, rfl⟩
  · exact ⟨Nat.zero_le _, fun t ht => by simp at ht⟩
  · have key : ∀ L : List Pk, L.length ≤ Rows.uptoBulkAll (L.map fun t => (DataW.agg [.lit (.string t.nm), .lit (.string t.vr)] : DataW H)) ∧
        ∀ t ∈ L, t.nm.length ≤ Rows.uptoBulkAll (L.map fun t => (DataW.agg [.lit (.string t.nm), .lit (.string t.vr)] : DataW H)) ∧ t.vr.length ≤ Rows.uptoBulkAll (L.map fun t => (DataW.agg [.lit (.string t.nm), .lit (.string t.vr)] : DataW H)) := by
      intro L
      induction L with
      | nil => exact ⟨Nat.zero_le _, fun t ht => by simp at ht⟩
      | cons x L ih =>
        obtain ⟨i1, i2⟩ := ih
        simp only [List.map_cons, List.length_cons, Rows.uptoBulkAll, Rows.uptoBulk] at i1 i2 ⊢
        refine ⟨by omega, fun t ht => ?_⟩
        rcases List.mem_cons.1 ht with rfl | ht
        · omega
        · have := i2 t ht
          omega
    obtain ⟨k1, k2⟩ := key L
    simp only [Rows.uptoBulk]
    refine ⟨by omega, fun t ht => ?_⟩
    have := k2 t ht
    omega
theorem bulk_chs {H : Type} {L : List Ch} {d : DataW H} (h : RowC L d) : L.length ≤ Rows.uptoBulk d ∧ ∀ t ∈ L, t.nm.length ≤ Rows.uptoBulk d ∧ t.fr.length ≤ Rows.uptoBulk d ∧ t.tt.length ≤ Rows.uptoBulk d := by
  rcases h with ⟨rfl, rfl⟩ | ⟨sp, rfl⟩
  · exact ⟨Nat.zero_le _, fun t ht => by simp at ht⟩
  · have key : ∀ L : List Ch, L.length ≤ Rows.uptoBulkAll (L.map fun t => (DataW.agg [.lit (.string t.nm), .lit (.string t.fr), .lit (.string t.tt)] : DataW H)) ∧
        ∀ t ∈ L, t.nm.length ≤ Rows.uptoBulkAll (L.map fun t => (DataW.agg [.lit (.string t.nm), .lit (.string t.fr), .lit (.string t.tt)] : DataW H)) ∧ t.fr.length ≤ Rows.uptoBulkAll (L.map fun t => (DataW.agg [.lit (.string t.nm), .lit (.string t.fr), .lit (.string t.tt)] : DataW H)) ∧ t.tt.length ≤ Rows.uptoBulkAll (L.map fun t => (DataW.agg [.lit (.string t.nm), .lit (.string t.fr), .lit (.string t.tt)] : DataW H)) := by
      intro L
      induction L with
      | nil => exact ⟨Nat.zero_le _, fun t ht => by simp at ht⟩
      | cons x L ih =>
        obtain ⟨i1, i2⟩ := ih
        simp only [List.map_cons, List.length_cons, Rows.uptoBulkAll, Rows.uptoBulk] at i1 i2 ⊢
        refine ⟨by omega, fun t ht => ?_⟩
        rcases List.mem_cons.1 ht with rfl | ht
        · omega
        · have := i2 t ht
          omega
    obtain ⟨k1, k2⟩ := key L
    simp only [Rows.uptoBulk]
    refine ⟨by omega, fun t ht => ?_⟩
    have := k2 t ht
    omega
theorem rec23 : Try.prog.readableRec 23 = true ∧ 23 < Try.prog.types.size := ⟨by kernel_rfl, of_decide_eq_true (by kernel_rfl)⟩
theorem cells42 : Try.prog.cellsOf 42 = 3 := by kernel_rfl
namespace planChanges
theorem recs : ∀ t, t ∈ Try.f3.params.toList → Try.prog.readableRec t = true ∧ t < Try.prog.types.size := by
  rw [Try.params3]
  intro t ht
  simp only [List.mem_cons, List.not_mem_nil, or_false] at ht
  rcases ht with rfl | rfl | rfl
  · exact rec22
  · exact rec22
  · exact rec23
set_option maxRecDepth 100000 in
theorem contract (H : Type) (enc : TypeId × Value → H) (W : World) (base : Nat) (args : Array Value) (ds gs : List (DataW H)) (before : List MemPlace)
    (hval : ∀ (j : Nat) t v, Try.f3.params[j]? = some t → args[j]? = some v → Value.okWide Try.prog W .any base t v)
    (hW : DataW.Whole enc Try.prog Try.f3.params.toList Rows.planChangesSpec.vars false W args.toList ds gs before)
    (hk : Rows.uptoSmall H (ds ++ gs) = true) :
    Calls Try.prog 3 args W fun e W' => ∃ v, e = .returned v ∧ Rows.planChangesSpec.post enc Try.prog Try.f3 false true false false W args v W' := by
  have hW' := hW
  obtain ⟨p, q, hA, hV, rfl, hfz, hnd⟩ := hW
  rw [Try.params3] at hA hval
  obtain ⟨v0, vs0, d0, ds0, p0, q0, hargs, rfl, rfl, h0, r0⟩ := trodAll_cons hA
  obtain ⟨v1, vs1, d1, ds1, p1, q1, rfl, rfl, rfl, h1, r1⟩ := trodAll_cons r0
  obtain ⟨v2, vs2, d2, ds2, p2, q2, rfl, rfl, rfl, h2, r2⟩ := trodAll_cons r1
  obtain ⟨rfl, rfl, rfl⟩ := trodAll_nil r2
  obtain rfl : args = #[v0, v1, v2] := by cases args; simp_all
  obtain ⟨rfl, rfl⟩ := trodVars_none hV
  obtain ⟨L, hd0, hl0⟩ := open_picksV Try.underlying22 Try.underlying61 Try.underlying9 Try.underlying9 rfl rfl cells61 cells9 cells9 (hval 0 22 v0 rfl rfl) h0
  obtain ⟨M, hd1, hl1⟩ := open_picksV Try.underlying22 Try.underlying61 Try.underlying9 Try.underlying9 rfl rfl cells61 cells9 cells9 (hval 1 22 v1 rfl rfl) h1
  obtain ⟨N, hd2, hl2⟩ := open_chsV Try.underlying23 Try.underlying42 Try.underlying9 Try.underlying9 Try.underlying9 rfl rfl rfl cells42 cells9 cells9 cells9 (hval 2 23 v2 rfl rfl) h2
  have hk1 := of_decide_eq_true hk
  simp only [Rows.uptoBulkAll, Rows.uptoBulk, List.cons_append, List.nil_append, List.append_nil] at hk1
  obtain ⟨b1, b2⟩ := bulk_picks hd0
  obtain ⟨c1, c2⟩ := bulk_picks hd1
  obtain ⟨g1, g2⟩ := bulk_chs hd2
  have hbN : N.length ≤ 1048576 := by omega
  have hbL : L.length ≤ 1048576 := by omega
  have hbM : M.length ≤ 1048576 := by omega
  have hsm : smallP L := ⟨by simp only [bnd]; omega, fun t ht => by have := b2 t ht; simp only [bnd]; omega⟩
  have hsn : smallP M := ⟨by simp only [bnd]; omega, fun t ht => by have := c2 t ht; simp only [bnd]; omega⟩
  have hso : smallC N := ⟨by simp only [bnd]; omega, fun t ht => by have := g2 t ht; simp only [bnd]; omega⟩
  have hV2 : VL (fun _ => False) W (fun _ => none) [.sl 2 L.length (rowK (fnG CK.df L)), .sl 2 M.length (rowK (fnG CK.df M)), .sl 3 N.length (rowG CH (fnG CH.df N))] [v0, v1, v2] :=
    ⟨_, _, rfl, hl0 hsm, ⟨_, _, rfl, hl1 hsn, ⟨_, _, rfl, hl2 hso, rfl⟩⟩⟩
  have ht := tree3 L.length M.length N.length (fnG CK.df L) (fnG CK.df M) (fnG CH.df N) hbL hbM hbN
  refine (law_calls (soundTab_of all_tabZd) (m := 20) (k := 9) (hs := H0) (Λ := noLoops) (fun i hi => anyLoops) (by kernel_rfl) ht hV2).mono fun e W' ⟨he, hs⟩ => ?_
  subst he
  exact ⟨_, rfl, law_post laidOut recs (tb := 4) rfl Try.underlying4 rfl hW' hs rfl⟩
set_option maxRecDepth 100000 in
theorem lifted (os : Os) (started : os.Started) (H : Type) (enc : TypeId × Value → H) (F : Stop.Interp) :
    ReturnsInHanded {} Try.checked os 3 .any ((Rows.OpenSpec.upto Rows.planChangesSpec).pre6 enc Try.prog Try.f3 Rows.planChangesUptoRow.domain false) (((Rows.OpenSpec.upto Rows.planChangesSpec).at F).post enc Try.prog Try.f3 false true false false) := by
  refine returnsInHanded_of_cond (C := Try.checked) (s := Rows.OpenSpec.upto Rows.planChangesSpec) (k := Rows.uptoSmall) rfl own started (by kernel_rfl) Try.func3
    (OpenSpec.witness (enc := enc) (C := Try.checked) (s := Rows.OpenSpec.upto Rows.planChangesSpec) (k := Rows.uptoSmall) rfl false ⟨#[], #[.slice none 0 0, .slice none 0 0, .slice none 0 0], []⟩ 8 (by kernel_rfl) (by kernel_rfl) (by kernel_rfl)
      (x := ([.nil, .nil, .nil], [], [])) (by kernel_rfl) rfl (by kernel_rfl)) ?_
  intro W base args ds gs before hval hW _ hk _
  exact contract H enc W base args ds gs before hval hW hk
theorem over : Rows.planChangesUptoRow.holds Try.pinned (Rows.OpenSpec.upto Rows.planChangesSpec) :=
  OpenClaim.holds_of_cond 3 Try.f3 rfl rfl rfl rfl rfl rfl rfl ⟨rfl, rfl, rfl, rfl, rfl⟩ rfl rfl rfl rfl rfl (by kernel_rfl) Try.func3 (by kernel_rfl)
    (of_decide_eq_true (by kernel_rfl)) (by unfold Func.isWrapper; first | (rw [if_pos (by decide +kernel)]; kernel_rfl) | (rw [if_neg (by decide +kernel)]; exact ⟨rfl, rfl⟩))
    (fun os started H enc _ F => lifted os started H enc F)
end planChanges
theorem planChanges_upto : Rows.PlanChangesUptoSaid := planChanges.over
#print axioms planChanges_upto
end Go.Proofs.Ytnhoihimdkpmnaa

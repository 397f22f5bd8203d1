/- Lemmas for the claims of this seat (a verified symbolic evaluator, and contracts of functions): own work; no condition. -/
import Derived.Test.YtibanfkcemnifaaDoorFnM
namespace Go.Sem

open Go Go.Proofs Go.Ab

set_option maxRecDepth 100000

set_option linter.unusedVariables false

set_option linter.unusedSimpArgs false

/-! ### The law SemverOrders: own rows as slices -/

theorem s22o : Sound1 Tryd.prog ⟨22, false, scon [.rows 1, .rows 1] c22f⟩ := sound_scon s22f [.rows 1, .rows 1]

noncomputable def tabZ4 : Tab := ⟨22, false, scon [.rows 1, .rows 1] c22f⟩ :: tabZ3

theorem all_tabZ4 : ∀ e, e ∈ tabZ4 → Sound1 Tryd.prog e := sound_mem_tab s22o all_tabZ3

theorem ok_tabZ4 : SoundTab Tryd.prog tabZ4 := soundTab_of all_tabZ4
end Go.Sem
namespace Go.Sem

open Go Go.Proofs Go.Ab

set_option maxRecDepth 100000

set_option linter.unusedVariables false

set_option linter.unusedSimpArgs false

/-! ### The law SemverOrders -/

theorem t7 (v w : Ver) (s t : List UInt8) (l : List (List UInt8)) : (evn tabZ4 h7 noLoops 7 [.agg [.str v.mj, .str v.mn, .str v.pt, .sl 1 v.pre.length (strF v.pre), .sl 1 v.bu.length (strF v.bu)], .agg [.str w.mj, .str w.mn, .str w.pt, .sl 1 w.pre.length (strF w.pre), .sl 1 w.bu.length (strF w.bu)], .str s, .str t, .sl 1 l.length (strF l)] []).run =
 bif decide ((0 + l.length) * 16 ≤ 140737488355328 ∧ 0 + l.length ≤ 4611686018427387903) then
  bif decide (IsStrs (strF v.pre) v.pre.length ∧ IsStrs (strF v.bu) v.bu.length ∧ IsStrs (strF w.pre) w.pre.length ∧ IsStrs (strF w.bu) w.bu.length ∧ roomV (vOf v.mj v.mn v.pt v.pre.length (strF v.pre) v.bu.length (strF v.bu)) ∧ roomV (vOf w.mj w.mn w.pt w.pre.length (strF w.pre) w.bu.length (strF w.bu))) then
   bif isEn en20 p20 [.agg [.str v.mj, .str v.mn, .str v.pt, .sl 1 v.pre.length (strF v.pre), .sl 1 v.bu.length (strF v.bu)], .agg [.str w.mj, .str w.mn, .str w.pt, .sl 1 w.pre.length (strF w.pre), .sl 1 w.bu.length (strF w.bu)]] then
    bif ordV (vOf v.mj v.mn v.pt v.pre.length (strF v.pre) v.bu.length (strF v.bu)) (vOf w.mj w.mn w.pt w.pre.length (strF w.pre) w.bu.length (strF w.bu)) == ordV (vOf v.mj v.mn v.pt v.pre.length (strF v.pre) v.bu.length (strF v.bu)) (vOf w.mj w.mn w.pt w.pre.length (strF w.pre) w.bu.length (strF w.bu)) then
     bif cmpV s t == cmpV s t then
      bif isEn en23 p23 ([AV.row 0 1 0 (0 + l.length)], [some (AObj.row 1 (0 + l.length) (appF 0 zZ (strF l)))]) then
       bif isEn en24 p24 ([AV.sl 1 l.length (strF l)], []) then
        bif decide (l.length = 0) then
         bif decide (0 + (0 + l.length) ≤ 0 + l.length) then
          bif isEn en22f p22f [AV.sl 1 (0 + l.length) (fromF 0 (rowS (sortG cmpV (unS (appF 0 zZ (strF l))) 0 (0 + l.length)))), AV.sl 1 0 (strF [])] then
           bif txtF (0 + l.length) 0 (unS (fromF 0 (rowS (sortG cmpV (unS (appF 0 zZ (strF l))) 0 (0 + l.length))))) (unS (strF [])) then
            bif decide (0 + (0 + l.length) ≤ 0 + l.length) then
             bif isEn en22f p22f [AV.sl 1 (0 + l.length) (fromF 0 (rowS (unS (appF 0 zZ (strF l))))), AV.sl 1 l.length (strF l)] then
              bif txtF (0 + l.length) l.length (unS (fromF 0 (rowS (unS (appF 0 zZ (strF l)))))) (unS (strF l)) then
               some ((AV.bool true, []))
              else
               some ((AV.bool false, []))
             else
              none
            else
             none
           else
            some ((AV.bool false, []))
          else
           none
         else
          none
        else
         bif decide (0 + (0 + l.length) ≤ 0 + l.length) then
          bif decide (0 + l.length ≤ l.length) then
           bif isEn en22f p22f [AV.sl 1 (0 + l.length) (fromF 0 (rowS (sortG cmpV (unS (appF 0 zZ (strF l))) 0 (0 + l.length)))), AV.sl 1 l.length (fromF 0 (rowS (outS cmpV nilF (unS (strF l)) l.length)))] then
            bif txtF (0 + l.length) l.length (unS (fromF 0 (rowS (sortG cmpV (unS (appF 0 zZ (strF l))) 0 (0 + l.length))))) (unS (fromF 0 (rowS (outS cmpV nilF (unS (strF l)) l.length)))) then
             bif decide (0 + (0 + l.length) ≤ 0 + l.length) then
              bif isEn en22f p22f [AV.sl 1 (0 + l.length) (fromF 0 (rowS (unS (appF 0 zZ (strF l))))), AV.sl 1 l.length (strF l)] then
               bif txtF (0 + l.length) l.length (unS (fromF 0 (rowS (unS (appF 0 zZ (strF l)))))) (unS (strF l)) then
                some ((AV.bool true, []))
               else
                some ((AV.bool false, []))
              else
               none
             else
              none
            else
             some ((AV.bool false, []))
           else
            none
          else
           none
         else
          none
       else
        none
      else
       none
     else
      some ((AV.bool false, []))
    else
     some ((AV.bool false, []))
   else
    none
  else
   none
 else
  none := by kernel_rfl

theorem fbad_allN {q : Nat → Bool} : ∀ (k i n : Nat), i + k = n → (∀ j, j < n → q j = true) → fbad q k i = n
  | 0, i, n, h1, h2 => by unfold fbad; omega
  | k + 1, i, n, h1, h2 => by
    unfold fbad
    rw [h2 i (by omega), cond_true]
    exact fbad_allN k (i + 1) n (by omega) h2

theorem txt_eq {n : Nat} {f g : Nat → List UInt8} (h : ∀ j, j < n → f j = g j) : txtF n n f g = true := by
  unfold txtF
  rw [fbad_allN n 0 n (by omega) fun j hj => by unfold eqW; rw [h j hj]; simp]
  simp

theorem sort_out (f : Nat → List UInt8) (n : Nat) : ∀ j, j < n → sortG cmpV f 0 n j = outS cmpV nilF f n j := by
  have h := (seg_sortG (F := cmpV) f 0 n).trans (outS_ok cmpV_ord nilF f n).symm
  intro j hj
  have h2 := congrArg (fun l => l.getD j []) h
  rw [seg_get (by omega), seg_get (by omega)] at h2
  simpa using h2


theorem tree7 (v w : Ver) (s t : List UInt8) (l : List (List UInt8)) (hv : roomV v) (hw : roomV w) (h3 : l.length * 16 ≤ 140737488351232) :
    (evn tabZ4 h7 noLoops 7 [.agg [.str v.mj, .str v.mn, .str v.pt, .sl 1 v.pre.length (strF v.pre), .sl 1 v.bu.length (strF v.bu)], .agg [.str w.mj, .str w.mn, .str w.pt, .sl 1 w.pre.length (strF w.pre), .sl 1 w.bu.length (strF w.bu)], .str s, .str t, .sl 1 l.length (strF l)] []).run = some (.bool true, []) := by
  refine (t7 v w s t l).trans ?_
  rw [appF_zero, Nat.zero_add l.length, Nat.zero_add]
  rw [decide_eq_true (show l.length * 16 ≤ 140737488355328 ∧ l.length ≤ 4611686018427387903 by omega), chk_room2 hv hw, k20 v w ⟨hv, hw⟩]
  rw [strF_rowS l]
  generalize (fun i => l.getD i []) = f
  generalize l.length = n at *
  have n1 : n ≤ bnd := by simp only [bnd]; omega
  rw [unS_rowS, k23 _ _ (by omega), k24 _ _ (by omega), decide_eq_true (Nat.le_refl n)]
  rw [show fromF 0 (rowS (sortG cmpV f 0 n)) = rowS (sortG cmpV f 0 n) from rfl, show fromF 0 (rowS f) = rowS f from rfl, show fromF 0 (rowS (outS cmpV nilF f n)) = rowS (outS cmpV nilF f n) from rfl,
    show strF [] = rowS (fun i => ([] : List (List UInt8)).getD i []) from rfl, k22f _ _ _ _ n1, k22f _ _ _ _ n1, k22f _ _ _ _ n1]
  simp only [unS_rowS, cond_true, beq_self_eq_true, decide_true, txt_eq (fun _ _ => rfl), txt_eq (sort_out f n)]
  by_cases h0 : n = 0
  · subst h0
    rfl
  · rw [decide_eq_false h0]
    rfl
theorem treeOrders (v w : Ver) (s t : List UInt8) (l : List (List UInt8)) (hv : bulkV v ≤ 1048576) (hw : bulkV w ≤ 1048576) (hs : s.length ≤ 1048576) (ht : t.length ≤ 1048576) (hl : bulkR l ≤ 1048576) : (evn tabZ4 h7 noLoops 7 [.agg [.str v.mj, .str v.mn, .str v.pt, .sl 1 v.pre.length (strF v.pre), .sl 1 v.bu.length (strF v.bu)], .agg [.str w.mj, .str w.mn, .str w.pt, .sl 1 w.pre.length (strF w.pre), .sl 1 w.bu.length (strF w.bu)], .str s, .str t, .sl 1 l.length (strF l)] []).run = some (.bool true, []) :=
  tree7 v w s t l (room_of hv) (room_of hw) (by have := bulkR_len l; omega)
end Go.Sem

/- Lemmas for the claims of this seat (a verified symbolic evaluator, and contracts of functions): own work; no condition. -/
import Derived.Test.YtbpfgbdibjlgjaaDoorFnK
import Derived.Test.YtbpfgbdibjlgjaaDoorEvF
import Derived.Test.YtbpfgbdibjlgjaaDoorFnE
namespace Go.Deb

open Go Go.Proofs Go.Ab

set_option maxRecDepth 100000

set_option linter.unusedVariables false

set_option linter.unusedSimpArgs false

/-! ### maven.Sort of an own row -/

noncomputable def zZ : Nat → Nat → AV := rowF 1 (List.map (fun i => (List.map aconst1 (Value.string { data := #[] }).cells.toList).getD (i % 1) AV.junk) (List.range 0))

theorem t26 (n : Nat) (f : Nat → List UInt8) : (evn tabZ2 h26 noLoops 26 [.row 0 1 0 n] [some (.row 1 n (rowS f))]).run =
    bif decide (0 + n ≤ n) then bif decide ((0 + n) * 16 ≤ 140737488355328 ∧ 0 + n ≤ 4611686018427387903) then
      bif isEn en66 p66 ([.row 0 1 0 (0 + n), .int .i64 ((0 + n : Nat) : Int), .fn 12 []], [some (.row 1 (0 + n) (appF 0 zZ fun i => rowS f (0 + i)))]) then
        some (.row 1 1 0 (0 + n), [some (.row 1 n (rowS f)), some (.row 1 (0 + n) (rowS (sortG compareD (unS (appF 0 zZ fun i => rowS f (0 + i))) 0 (0 + n))))]) else none else none else none := by kernel_rfl

theorem fn_zero (f : Nat → List UInt8) : (fun i => rowS f (0 + i)) = rowS f := by
  funext i
  rw [Nat.zero_add]

theorem r26 (n : Nat) (f : Nat → List UInt8) (h : n ≤ 8796093022208) : (evn tabZ2 h26 noLoops 26 [.row 0 1 0 n] [some (.row 1 n (rowS f))]).run =
    some (.row 1 1 0 n, [some (.row 1 n (rowS f)), some (.row 1 n (rowS (sortG compareD f 0 n)))]) := by
  refine (t26 n f).trans ?_
  rw [decide_eq_true (show 0 + n ≤ n by omega), decide_eq_true (show (0 + n) * 16 ≤ 140737488355328 ∧ 0 + n ≤ 4611686018427387903 by omega), appF_zero, fn_zero, Nat.zero_add, k66 n f (by omega)]
  rfl

structure X26 where
  n : Nat
  f : Nat → List UInt8

def en26 : X26 → List AV × Hp := fun ⟨n, f⟩ => ([.row 0 1 0 n], [some (.row 1 n (rowS f))])

def de26 : List AV × Hp → X26
  | ([.row _ _ _ n], [some (.row _ _ g)]) => ⟨n, unS g⟩
  | _ => ⟨0, fun _ => []⟩

def p26 : X26 → Prop := fun ⟨n, f⟩ => n ≤ 8796093022208

def rs26 : X26 → T (AV × Hp) := fun ⟨n, f⟩ => .leaf (.row 1 1 0 n, [some (.row 1 n (rowS f)), some (.row 1 n (rowS (sortG compareD f 0 n)))])

noncomputable def c26 : List AV → Hp → T (AV × Hp) := mcon en26 de26 p26 rs26

theorem in26 : ∀ x, de26 (en26 x) = x := by
  rintro ⟨n, f⟩
  simp only [en26, de26, unS_rowS]

theorem k26 (n : Nat) (f : Nat → List UInt8) (h : n ≤ 8796093022208) : isEn en26 p26 ([.row 0 1 0 n], [some (.row 1 n (rowS f))]) = true := isEn_true (enc := en26) (p := p26) ⟨n, f⟩ h

theorem s26 : Sound1 Tryd.prog ⟨26, false, gcon c26⟩ := by
  refine sound_cm (soundTab_of all_tabZ2) in26 (hn := h26) (m := 20) (k := 9) (Λ := noLoops) (fun _ _ i hi => anyLoopsB) ?_
  rintro ⟨n, f⟩ hp hF hH
  exact r26 n f hp

noncomputable def tabZ3 : Tab := ⟨26, false, gcon c26⟩ :: tabZ2

theorem all_tabZ3 : ∀ e, e ∈ tabZ3 → Sound1 Tryd.prog e := (sound_mem_tab s26 all_tabZ2)

theorem ok_tabZ3 : SoundTab Tryd.prog tabZ3 := soundTab_of all_tabZ3
end Go.Deb
namespace Go.Deb

open Go Go.Proofs Go.Ab

set_option maxRecDepth 100000

set_option linter.unusedVariables false

set_option linter.unusedSimpArgs false

/-! ### The law DebOrders: own rows as slices -/

theorem s25o : Sound1 Tryd.prog ⟨25, false, scon [.rows 1, .rows 1] c25⟩ := sound_scon s25 [.rows 1, .rows 1]

noncomputable def tabZ4 : Tab := ⟨25, false, scon [.rows 1, .rows 1] c25⟩ :: tabZ3

theorem all_tabZ4 : ∀ e, e ∈ tabZ4 → Sound1 Tryd.prog e := sound_mem_tab s25o all_tabZ3

theorem ok_tabZ4 : SoundTab Tryd.prog tabZ4 := soundTab_of all_tabZ4
end Go.Deb
namespace Go.Deb

open Go Go.Proofs Go.Ab

set_option maxRecDepth 100000

set_option linter.unusedVariables false

set_option linter.unusedSimpArgs false

/-! ### The law DebOrders -/

theorem t8 (e u r e2 u2 r2 s t o : List UInt8) (l : List (List UInt8)) : (evn tabZ4 h8 noLoops 8 [.agg [.str e, .str u, .str r], .agg [.str e2, .str u2, .str r2], .str s, .str t, .str o, .sl 1 l.length (strF l)] []).run =
 bif decide ((0 + l.length) * 16 ≤ 140737488355328 ∧ 0 + l.length ≤ 4611686018427387903) then
  bif decide (s.length ≤ 4611686018427387903 ∧ t.length ≤ 4611686018427387903) then
   bif partD s t == partD s t then
    bif decide (e.length + u.length + r.length + 2 ≤ 4611686018427387903 ∧ e2.length + u2.length + r2.length + 2 ≤ 4611686018427387903) then
     bif decide (e.length + u.length + r.length + 2 ≤ 4611686018427387903 ∧ e2.length + u2.length + r2.length + 2 ≤ 4611686018427387903) then
      bif orderD e u r e2 u2 r2 == orderD e u r e2 u2 r2 then
       bif compareD s t == compareD s t then
        bif hldD s o t == hldD s o t then
         bif isEn en26 p26 ([AV.row 0 1 0 (0 + l.length)], [some (AObj.row 1 (0 + l.length) (appF 0 zZ (strF l)))]) then
          bif isEn en27 p27 ([AV.sl 1 l.length (strF l)], []) then
           bif decide (l.length = 0) then
            bif decide (0 + (0 + l.length) ≤ 0 + l.length) then
             bif isEn en25 p25 [AV.sl 1 (0 + l.length) (fromF 0 (rowS (sortG compareD (unS (appF 0 zZ (strF l))) 0 (0 + l.length)))), AV.sl 1 0 (strF [])] then
              bif txtF (0 + l.length) 0 (unS (fromF 0 (rowS (sortG compareD (unS (appF 0 zZ (strF l))) 0 (0 + l.length))))) (unS (strF [])) then
               bif decide (0 + (0 + l.length) ≤ 0 + l.length) then
                bif isEn en25 p25 [AV.sl 1 (0 + l.length) (fromF 0 (rowS (unS (appF 0 zZ (strF l))))), AV.sl 1 l.length (strF l)] then
                 bif txtF (0 + l.length) l.length (unS (fromF 0 (rowS (unS (appF 0 zZ (strF l)))))) (unS (strF l)) then
                  some ((AV.bool true, []))
                 else
                  some ((AV.bool false, []))
                else
                 none
               else
                none
              else
               some ((AV.bool false, []))
             else
              none
            else
             none
           else
            bif decide (0 + (0 + l.length) ≤ 0 + l.length) then
             bif decide (0 + l.length ≤ l.length) then
              bif isEn en25 p25 [AV.sl 1 (0 + l.length) (fromF 0 (rowS (sortG compareD (unS (appF 0 zZ (strF l))) 0 (0 + l.length)))), AV.sl 1 l.length (fromF 0 (rowS (outS compareD nilF (unS (strF l)) l.length)))] then
               bif txtF (0 + l.length) l.length (unS (fromF 0 (rowS (sortG compareD (unS (appF 0 zZ (strF l))) 0 (0 + l.length))))) (unS (fromF 0 (rowS (outS compareD nilF (unS (strF l)) l.length)))) then
                bif decide (0 + (0 + l.length) ≤ 0 + l.length) then
                 bif isEn en25 p25 [AV.sl 1 (0 + l.length) (fromF 0 (rowS (unS (appF 0 zZ (strF l))))), AV.sl 1 l.length (strF l)] then
                  bif txtF (0 + l.length) l.length (unS (fromF 0 (rowS (unS (appF 0 zZ (strF l)))))) (unS (strF l)) then
                   some ((AV.bool true, []))
                  else
                   some ((AV.bool false, []))
                 else
                  none
                else
                 none
               else
                some ((AV.bool false, []))
              else
               none
             else
              none
            else
             none
          else
           none
         else
          none
        else
         some ((AV.bool false, []))
       else
        some ((AV.bool false, []))
      else
       some ((AV.bool false, []))
     else
      none
    else
     none
   else
    some ((AV.bool false, []))
  else
   none
 else
  none := by kernel_rfl

theorem fbad_allN {q : Nat → Bool} : ∀ (k i n : Nat), i + k = n → (∀ j, j < n → q j = true) → fbad q k i = n
  | 0, i, n, h1, h2 => by unfold fbad; omega
  | k + 1, i, n, h1, h2 => by
    unfold fbad
    rw [h2 i (by omega), cond_true]
    exact fbad_allN k (i + 1) n (by omega) h2

theorem txt_eq {n : Nat} {f g : Nat → List UInt8} (h : ∀ j, j < n → f j = g j) : txtF n n f g = true := by
  unfold txtF
  rw [fbad_allN n 0 n (by omega) fun j hj => by unfold eqW; rw [h j hj]; simp]
  simp

theorem sort_out (f : Nat → List UInt8) (n : Nat) : ∀ j, j < n → sortG compareD f 0 n j = outS compareD nilF f n j := by
  have h := (seg_sortG (F := compareD) f 0 n).trans (outS_ok cmpX_ord nilF f n).symm
  intro j hj
  have h2 := congrArg (fun l => l.getD j []) h
  rw [seg_get (by omega), seg_get (by omega)] at h2
  simpa using h2


theorem tree8 (e u r e2 u2 r2 s t o : List UInt8) (l : List (List UInt8)) (h1 : e.length + u.length + r.length + 2 ≤ bnd) (h2 : e2.length + u2.length + r2.length + 2 ≤ bnd) (hs : s.length ≤ bnd) (ht : t.length ≤ bnd) (h3 : l.length * 16 ≤ 140737488351232) :
    (evn tabZ4 h8 noLoops 8 [.agg [.str e, .str u, .str r], .agg [.str e2, .str u2, .str r2], .str s, .str t, .str o, .sl 1 l.length (strF l)] []).run = some (.bool true, []) := by
  refine (t8 e u r e2 u2 r2 s t o l).trans ?_
  rw [appF_zero, Nat.zero_add l.length, Nat.zero_add]
  rw [decide_eq_true (show l.length * 16 ≤ 140737488355328 ∧ l.length ≤ 4611686018427387903 by omega), decide_eq_true (show s.length ≤ 4611686018427387903 ∧ t.length ≤ 4611686018427387903 from ⟨hs, ht⟩), decide_eq_true (show e.length + u.length + r.length + 2 ≤ 4611686018427387903 ∧ e2.length + u2.length + r2.length + 2 ≤ 4611686018427387903 from ⟨h1, h2⟩)]
  rw [strF_rowS l]
  generalize (fun i => l.getD i []) = f
  generalize l.length = n at *
  have n1 : n ≤ bnd := by simp only [bnd]; omega
  rw [unS_rowS, k26 _ _ (by omega), k27 _ _ (by omega), decide_eq_true (Nat.le_refl n)]
  rw [show fromF 0 (rowS (sortG compareD f 0 n)) = rowS (sortG compareD f 0 n) from rfl, show fromF 0 (rowS f) = rowS f from rfl, show fromF 0 (rowS (outS compareD nilF f n)) = rowS (outS compareD nilF f n) from rfl,
    show strF [] = rowS (fun i => ([] : List (List UInt8)).getD i []) from rfl, k25 _ _ _ _ n1, k25 _ _ _ _ n1, k25 _ _ _ _ n1]
  simp only [unS_rowS, cond_true, beq_self_eq_true, decide_true, txt_eq (fun _ _ => rfl), txt_eq (sort_out f n)]
  by_cases h0 : n = 0
  · subst h0
    rfl
  · rw [decide_eq_false h0]
    rfl
end Go.Deb
namespace Go.Proofs.YtbpfgbdibjlgjaaDoor
open Go.ChangeShapes Go.WideShapes Go.ChangeAt Go.RowKit Go.Ab
theorem rec34 : Tryd.prog.readableRec 34 = true ∧ 34 < Tryd.prog.types.size := ⟨by kernel_rfl, of_decide_eq_true (by kernel_rfl)⟩
theorem bytes9 : Tryd.prog.bytesOf 9 = 16 := by kernel_rfl
end Go.Proofs.YtbpfgbdibjlgjaaDoor

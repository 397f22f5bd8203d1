/- Lemmas for the claims of this seat (a verified symbolic evaluator, and contracts of functions): own work; no condition. -/
import Derived.Test.YtdkmbohpmfakkaaDoorFnE
import Derived.Test.YtdkmbohpmfakkaaDoorEvF
namespace Go.Mvn

open Go Go.Proofs Go.Ab

set_option maxRecDepth 100000

set_option linter.unusedVariables false

set_option linter.unusedSimpArgs false

/-! ### Canon -/

theorem s72 : Sound1 Tryd.prog ⟨72, true, cNoEsc⟩ := sound_noEscape Tryd.func72 (by kernel_rfl) (by kernel_rfl) (by kernel_rfl) (by kernel_rfl)

noncomputable def tabV1 : Tab := ⟨72, true, cNoEsc⟩ :: tabV

theorem all_tabV1 : ∀ e, e ∈ tabV1 → Sound1 Tryd.prog e := sound_mem_tab s72 all_tabV

/-- What Canon writes of a token. -/
def pieceT (i : Nat) (t : Tok) : List UInt8 := (if i = 0 then [] else bif t.dash then [45] else [46]) ++ (bif t.text == [] then [102, 105, 110, 97, 108] else t.text)

def canL (f : Nat → Tok) : Nat → List UInt8
  | 0 => []
  | i + 1 => canL f i ++ pieceT i (f i)

def canH (f : Nat → Tok) : Nat → Hp
  | 0 => [some (.tcells 58 [.nilp, .nilsl])]
  | i + 1 => [some (.tcells 58 [.ref 0 0, .row 1 1 0 (canL f (i + 1)).length]), some (.bytes (canL f (i + 1)))]

theorem canL_le (f : Nat → Tok) : ∀ {i n : Nat}, i ≤ n → (canL f i).length ≤ (canL f n).length
  | i, 0, h => by obtain rfl : i = 0 := by omega
                  exact Nat.le_refl _
  | i, n + 1, h => by
    rcases Nat.lt_or_ge n i with hl | hl
    · obtain rfl : i = n + 1 := by omega
      exact Nat.le_refl _
    · have := canL_le f hl
      show (canL f i).length ≤ (canL f n ++ pieceT n (f n)).length
      rw [List.length_append]
      omega

theorem qA11 (n : Nat) (f : Nat → Tok) : (rdn tabV1 h11 noLoops 11 0 0 { tm := encGo (mbits 458784 42) [.ref 0 0, .sl 3 n (rowT f), .int .i64 n, .int .i64 0], ms := [], hp := [some (.tcells 58 [.nilp, .nilsl])] }).run =
  bif decide ((0 : Int) < (↑n : Int)) then
   bif decide ((0 : Int) ≤ (0 : Int) ∧ (0 : Int) < (↑n : Int)) then
    bif (f 0).text == [] then
     some ((AX.normal, { tm := tmOf 42 [(5, AV.ref 0 0), (16, AV.sl 3 n (rowT f)), (17, AV.int IntKind.i64 (↑n : Int)), (18, AV.int IntKind.i64 (1 : Int))], ms := [], hp := [some (AObj.tcells 58 [AV.ref 0 0, AV.row 1 1 0 5]), some (AObj.bytes [(102 : UInt8), (105 : UInt8), (110 : UInt8), (97 : UInt8), (108 : UInt8)])] }))
    else
     bif decide ((f 0).text.length = 0) then
      some ((AX.normal, { tm := tmOf 42 [(5, AV.ref 0 0), (16, AV.sl 3 n (rowT f)), (17, AV.int IntKind.i64 (↑n : Int)), (18, AV.int IntKind.i64 (1 : Int))], ms := [], hp := [some (AObj.tcells 58 [AV.ref 0 0, AV.nilsl])] }))
     else
      bif decide ((f 0).text.length * 1 ≤ 140737488355328 ∧ (f 0).text.length ≤ 4611686018427387903) then
       some ((AX.normal, { tm := tmOf 42 [(5, AV.ref 0 0), (16, AV.sl 3 n (rowT f)), (17, AV.int IntKind.i64 (↑n : Int)), (18, AV.int IntKind.i64 (1 : Int))], ms := [], hp := [some (AObj.tcells 58 [AV.ref 0 0, AV.row 1 1 0 (f 0).text.length]), some (AObj.bytes (f 0).text)] }))
      else
       none
   else
    none
  else
   some ((AX.exit 0, { tm := tmOf 42 [(5, AV.ref 0 0), (16, AV.sl 3 n (rowT f)), (17, AV.int IntKind.i64 (↑n : Int)), (18, AV.int IntKind.i64 (0 : Int)), (19, AV.bool false)], ms := [], hp := [some (AObj.tcells 58 [AV.nilp, AV.nilsl])] })) := by kernel_rfl

theorem qB11 (n i : Nat) (f : Nat → Tok) (l : List UInt8) : (rdn tabV1 h11 noLoops 11 0 0 { tm := encGo (mbits 458784 42) [.ref 0 0, .sl 3 n (rowT f), .int .i64 n, .int .i64 i], ms := [], hp := [some (.tcells 58 [.ref 0 0, .row 1 1 0 l.length]), some (.bytes l)] }).run =
  bif decide ((↑i : Int) < (↑n : Int)) then
   bif decide ((0 : Int) ≤ (↑i : Int) ∧ (↑i : Int) < (↑n : Int)) then
    bif decide ((↑i : Int) > (0 : Int)) then
     bif (f (↑i : Int).toNat).dash then
      bif decide (l.length = l.length) then
       bif decide ((l.length + 1) * 1 ≤ 140737488355328 ∧ l.length + 1 ≤ 4611686018427387903) then
        bif (f (↑i : Int).toNat).text == [] then
         bif decide (l.length + 1 = (l ++ [(45 : UInt8)]).length) then
          bif decide ((l.length + 1 + 5) * 1 ≤ 140737488355328 ∧ l.length + 1 + 5 ≤ 4611686018427387903) then
           some ((AX.normal, { tm := tmOf 42 [(5, AV.ref 0 0), (16, AV.sl 3 n (rowT f)), (17, AV.int IntKind.i64 (↑n : Int)), (18, AV.int IntKind.i64 (IntKind.i64.wrap ((↑i : Int) + (1 : Int))))], ms := [], hp := [some (AObj.tcells 58 [AV.ref 0 0, AV.row 1 1 0 (l.length + 1 + 5)]), some (AObj.bytes (l ++ [(45 : UInt8)] ++ [(102 : UInt8), (105 : UInt8), (110 : UInt8), (97 : UInt8), (108 : UInt8)]))] }))
          else
           none
         else
          none
        else
         bif decide (l.length + 1 = (l ++ [(45 : UInt8)]).length) then
          bif decide ((l.length + 1 + (f (↑i : Int).toNat).text.length) * 1 ≤ 140737488355328 ∧ l.length + 1 + (f (↑i : Int).toNat).text.length ≤ 4611686018427387903) then
           some ((AX.normal, { tm := tmOf 42 [(5, AV.ref 0 0), (16, AV.sl 3 n (rowT f)), (17, AV.int IntKind.i64 (↑n : Int)), (18, AV.int IntKind.i64 (IntKind.i64.wrap ((↑i : Int) + (1 : Int))))], ms := [], hp := [some (AObj.tcells 58 [AV.ref 0 0, AV.row 1 1 0 (l.length + 1 + (f (↑i : Int).toNat).text.length)]), some (AObj.bytes (l ++ [(45 : UInt8)] ++ (f (↑i : Int).toNat).text))] }))
          else
           none
         else
          none
       else
        none
      else
       none
     else
      bif decide ((↑i : Int) > (0 : Int)) then
       bif decide (l.length = l.length) then
        bif decide ((l.length + 1) * 1 ≤ 140737488355328 ∧ l.length + 1 ≤ 4611686018427387903) then
         bif (f (↑i : Int).toNat).text == [] then
          bif decide (l.length + 1 = (l ++ [(46 : UInt8)]).length) then
           bif decide ((l.length + 1 + 5) * 1 ≤ 140737488355328 ∧ l.length + 1 + 5 ≤ 4611686018427387903) then
            some ((AX.normal, { tm := tmOf 42 [(5, AV.ref 0 0), (16, AV.sl 3 n (rowT f)), (17, AV.int IntKind.i64 (↑n : Int)), (18, AV.int IntKind.i64 (IntKind.i64.wrap ((↑i : Int) + (1 : Int))))], ms := [], hp := [some (AObj.tcells 58 [AV.ref 0 0, AV.row 1 1 0 (l.length + 1 + 5)]), some (AObj.bytes (l ++ [(46 : UInt8)] ++ [(102 : UInt8), (105 : UInt8), (110 : UInt8), (97 : UInt8), (108 : UInt8)]))] }))
           else
            none
          else
           none
         else
          bif decide (l.length + 1 = (l ++ [(46 : UInt8)]).length) then
           bif decide ((l.length + 1 + (f (↑i : Int).toNat).text.length) * 1 ≤ 140737488355328 ∧ l.length + 1 + (f (↑i : Int).toNat).text.length ≤ 4611686018427387903) then
            some ((AX.normal, { tm := tmOf 42 [(5, AV.ref 0 0), (16, AV.sl 3 n (rowT f)), (17, AV.int IntKind.i64 (↑n : Int)), (18, AV.int IntKind.i64 (IntKind.i64.wrap ((↑i : Int) + (1 : Int))))], ms := [], hp := [some (AObj.tcells 58 [AV.ref 0 0, AV.row 1 1 0 (l.length + 1 + (f (↑i : Int).toNat).text.length)]), some (AObj.bytes (l ++ [(46 : UInt8)] ++ (f (↑i : Int).toNat).text))] }))
           else
            none
          else
           none
        else
         none
       else
        none
      else
       bif (f (↑i : Int).toNat).text == [] then
        bif decide (l.length = l.length) then
         bif decide ((l.length + 5) * 1 ≤ 140737488355328 ∧ l.length + 5 ≤ 4611686018427387903) then
          some ((AX.normal, { tm := tmOf 42 [(5, AV.ref 0 0), (16, AV.sl 3 n (rowT f)), (17, AV.int IntKind.i64 (↑n : Int)), (18, AV.int IntKind.i64 (IntKind.i64.wrap ((↑i : Int) + (1 : Int))))], ms := [], hp := [some (AObj.tcells 58 [AV.ref 0 0, AV.row 1 1 0 (l.length + 5)]), some (AObj.bytes (l ++ [(102 : UInt8), (105 : UInt8), (110 : UInt8), (97 : UInt8), (108 : UInt8)]))] }))
         else
          none
        else
         none
       else
        bif decide (l.length = l.length) then
         bif decide ((l.length + (f (↑i : Int).toNat).text.length) * 1 ≤ 140737488355328 ∧ l.length + (f (↑i : Int).toNat).text.length ≤ 4611686018427387903) then
          some ((AX.normal, { tm := tmOf 42 [(5, AV.ref 0 0), (16, AV.sl 3 n (rowT f)), (17, AV.int IntKind.i64 (↑n : Int)), (18, AV.int IntKind.i64 (IntKind.i64.wrap ((↑i : Int) + (1 : Int))))], ms := [], hp := [some (AObj.tcells 58 [AV.ref 0 0, AV.row 1 1 0 (l.length + (f (↑i : Int).toNat).text.length)]), some (AObj.bytes (l ++ (f (↑i : Int).toNat).text))] }))
         else
          none
        else
         none
    else
     bif decide ((↑i : Int) > (0 : Int)) then
      bif decide (l.length = l.length) then
       bif decide ((l.length + 1) * 1 ≤ 140737488355328 ∧ l.length + 1 ≤ 4611686018427387903) then
        bif (f (↑i : Int).toNat).text == [] then
         bif decide (l.length + 1 = (l ++ [(46 : UInt8)]).length) then
          bif decide ((l.length + 1 + 5) * 1 ≤ 140737488355328 ∧ l.length + 1 + 5 ≤ 4611686018427387903) then
           some ((AX.normal, { tm := tmOf 42 [(5, AV.ref 0 0), (16, AV.sl 3 n (rowT f)), (17, AV.int IntKind.i64 (↑n : Int)), (18, AV.int IntKind.i64 (IntKind.i64.wrap ((↑i : Int) + (1 : Int))))], ms := [], hp := [some (AObj.tcells 58 [AV.ref 0 0, AV.row 1 1 0 (l.length + 1 + 5)]), some (AObj.bytes (l ++ [(46 : UInt8)] ++ [(102 : UInt8), (105 : UInt8), (110 : UInt8), (97 : UInt8), (108 : UInt8)]))] }))
          else
           none
         else
          none
        else
         bif decide (l.length + 1 = (l ++ [(46 : UInt8)]).length) then
          bif decide ((l.length + 1 + (f (↑i : Int).toNat).text.length) * 1 ≤ 140737488355328 ∧ l.length + 1 + (f (↑i : Int).toNat).text.length ≤ 4611686018427387903) then
           some ((AX.normal, { tm := tmOf 42 [(5, AV.ref 0 0), (16, AV.sl 3 n (rowT f)), (17, AV.int IntKind.i64 (↑n : Int)), (18, AV.int IntKind.i64 (IntKind.i64.wrap ((↑i : Int) + (1 : Int))))], ms := [], hp := [some (AObj.tcells 58 [AV.ref 0 0, AV.row 1 1 0 (l.length + 1 + (f (↑i : Int).toNat).text.length)]), some (AObj.bytes (l ++ [(46 : UInt8)] ++ (f (↑i : Int).toNat).text))] }))
          else
           none
         else
          none
       else
        none
      else
       none
     else
      bif (f (↑i : Int).toNat).text == [] then
       bif decide (l.length = l.length) then
        bif decide ((l.length + 5) * 1 ≤ 140737488355328 ∧ l.length + 5 ≤ 4611686018427387903) then
         some ((AX.normal, { tm := tmOf 42 [(5, AV.ref 0 0), (16, AV.sl 3 n (rowT f)), (17, AV.int IntKind.i64 (↑n : Int)), (18, AV.int IntKind.i64 (IntKind.i64.wrap ((↑i : Int) + (1 : Int))))], ms := [], hp := [some (AObj.tcells 58 [AV.ref 0 0, AV.row 1 1 0 (l.length + 5)]), some (AObj.bytes (l ++ [(102 : UInt8), (105 : UInt8), (110 : UInt8), (97 : UInt8), (108 : UInt8)]))] }))
        else
         none
       else
        none
      else
       bif decide (l.length = l.length) then
        bif decide ((l.length + (f (↑i : Int).toNat).text.length) * 1 ≤ 140737488355328 ∧ l.length + (f (↑i : Int).toNat).text.length ≤ 4611686018427387903) then
         some ((AX.normal, { tm := tmOf 42 [(5, AV.ref 0 0), (16, AV.sl 3 n (rowT f)), (17, AV.int IntKind.i64 (↑n : Int)), (18, AV.int IntKind.i64 (IntKind.i64.wrap ((↑i : Int) + (1 : Int))))], ms := [], hp := [some (AObj.tcells 58 [AV.ref 0 0, AV.row 1 1 0 (l.length + (f (↑i : Int).toNat).text.length)]), some (AObj.bytes (l ++ (f (↑i : Int).toNat).text))] }))
        else
         none
       else
        none
   else
    none
  else
   some ((AX.exit 0, { tm := tmOf 42 [(5, AV.ref 0 0), (16, AV.sl 3 n (rowT f)), (17, AV.int IntKind.i64 (↑n : Int)), (18, AV.int IntKind.i64 (↑i : Int)), (19, AV.bool false)], ms := [], hp := [some (AObj.tcells 58 [AV.ref 0 0, AV.row 1 1 0 l.length]), some (AObj.bytes l)] })) := by kernel_rfl

theorem piece0 (t : Tok) (h : (pieceT 0 t).length ≤ 1000000) : t.text.length ≤ 1000000 ∧ (t.text == []) = decide (t.text.length = 0) := by
  have e : (t.text == []) = decide (t.text.length = 0) := by rw [Bool.eq_iff_iff]; simp
  refine ⟨?_, e⟩
  unfold pieceT at h
  rw [if_pos rfl, List.nil_append] at h
  cases hq : t.text == [] with
  | true => rw [e] at hq; have := of_decide_eq_true hq; omega
  | false => rw [hq] at h; exact h

structure Y11 where
  n : Nat
  f : Nat → Tok
  i : Nat

def eL11 : Y11 → List AV × Hp := fun ⟨n, f, i⟩ => ([.ref 0 0, .sl 3 n (rowT f), .int .i64 n, .int .i64 i], canH f i)

def dL11 : List AV × Hp → Y11
  | ([.ref _ _, .sl _ n f_g, .int .i64 _, .int .i64 i], _) => ⟨n, unT f_g, i.toNat⟩
  | _ => ⟨default, default, default⟩

def pL11 : Y11 → Prop := fun ⟨n, f, i⟩ => i ≤ n ∧ (0 < n ∧ n ≤ 1000000) ∧ (canL f n).length ≤ 1000000

def rL11 : Y11 → T (AX × St) := fun ⟨n, f, i⟩ => .leaf (.exit 0, { tm := tmOf 42 [(5, .ref 0 0), (16, .sl 3 n (rowT f)), (17, .int .i64 n), (18, .int .i64 n), (19, .bool false)], ms := [], hp := [some (.tcells 58 [.ref 0 0, .row 1 1 0 (canL f n).length]), some (.bytes (canL f n))] })

noncomputable def L11 : LoopT := fun k => match Nat.beq k 600055 with
  | true => some (lccon (mbits 458784 42) eL11 dL11 pL11 rL11)
  | false => none

theorem iL11 : ∀ x, dL11 (eL11 x) = x := by
  rintro ⟨n, f, i⟩
  simp only [eL11, dL11, Int.toNat_natCast, unT_rowT]

theorem kL11 (n : Nat) (f : Nat → Tok) (i : Nat) (h : i ≤ n ∧ (0 < n ∧ n ≤ 1000000) ∧ (canL f n).length ≤ 1000000) : isEn eL11 pL11 ([.ref 0 0, .sl 3 n (rowT f), .int .i64 n, .int .i64 i], canH f i) = true := isEn_true (enc := eL11) (p := pL11) ⟨n, f, i⟩ h

theorem l11 : LoopOk Tryd.prog tabV1.pf (fun n => hd Tryd.prog tabV1.pf tabV1.con.run (fun f => (H0 f).to) n 9) h11.to 11 0 none L11 (loopAt Tryd.prog 11 0) := by
  rw [show loopAt Tryd.prog 11 0 = .loop (lbody Tryd.prog 11 0) by kernel_rfl]
  refine loop_c (hdT_le (m := 20) 9) (m := 20) (lv := mbits 458784 42) (p := pL11) (res := rL11) iL11 (within_of _ (by rw [show loopsOf (lbody Tryd.prog 11 0) = [] by kernel_rfl]; simp)) (by kernel_rfl) (fun ⟨n, f, i⟩ => n - i) ?_
  rintro ⟨n, f, i⟩ hp
  skip
  obtain ⟨h1, h2, h3⟩ := hp
  by_cases hl : i < n
  · left
    refine ⟨⟨n, f, i + 1⟩, ⟨hl, h2, h3⟩, by simp only; omega, rfl, ?_⟩
    have hle := canL_le f (i := i + 1) hl
    have hs : canL f (i + 1) = canL f i ++ pieceT i (f i) := rfl
    rw [hs, List.length_append] at hle
    cases i with
    | zero =>
      refine (qA11 n f).trans ?_
      have hp0 := piece0 (f 0) (by omega)
      obtain ⟨hp1, hp2⟩ := hp0
      show _ = some (AX.normal, ({ tm := _, ms := [], hp := [some (.tcells 58 [.ref 0 0, .row 1 1 0 ([] ++ pieceT 0 (f 0)).length]), some (.bytes ([] ++ pieceT 0 (f 0)))] } : St))
      unfold pieceT
      simp (disch := omega) only [decT, decF, cond_true, cond_false, Int.toNat_natCast, if_true, List.nil_append, w64n, hp2]
      by_cases hq : (f 0).text.length = 0
      · simp (disch := omega) only [decT, decF, cond_true, cond_false]
        rfl
      · simp (disch := omega) only [decT, decF, cond_true, cond_false]
        rfl
    | succ i =>
      refine (qB11 n (i + 1) f (canL f (i + 1))).trans ?_
      show _ = some (AX.normal, ({ tm := _, ms := [], hp := [some (.tcells 58 [.ref 0 0, .row 1 1 0 (canL f (i + 1) ++ pieceT (i + 1) (f (i + 1))).length]), some (.bytes (canL f (i + 1) ++ pieceT (i + 1) (f (i + 1))))] } : St))
      revert hle
      generalize canL f (i + 1) = l
      unfold pieceT
      rw [if_neg (show ¬ i + 1 = 0 by omega)]
      intro hle
      simp (disch := omega) only [decT, decF, cond_true, cond_false, Int.toNat_natCast, List.length_append, List.length_cons, List.length_nil, w64n] at hle ⊢
      cases hd : (f (i + 1)).dash <;> cases hq : (f (i + 1)).text == [] <;> rw [hd, hq] at hle <;> simp only [cond_true, cond_false, List.length_cons, List.length_nil] at hle ⊢ <;>
        simp (disch := omega) only [decT, decF, cond_true, cond_false, List.append_assoc, List.length_append, List.length_cons, List.length_nil, ← Nat.add_assoc, Nat.zero_add, List.cons_append, List.nil_append, decide_true] <;> rfl
  · have he : i = n := by omega
    subst he
    right
    refine ⟨_, ?_, rfl, ?_⟩
    · simp
    · cases i with
      | zero => exact absurd h2.1 (Nat.lt_irrefl 0)
      | succ i =>
        refine (qB11 (i + 1) (i + 1) f (canL f (i + 1))).trans ?_
        simp (disch := omega) only [decT, decF, cond_true, cond_false]
end Go.Mvn
namespace Go.Mvn

open Go Go.Proofs Go.Ab

set_option maxRecDepth 100000

set_option linter.unusedVariables false

set_option linter.unusedSimpArgs false

/-! ### Tokens of a text: whatever holds of each -/

def TokRowP (Q : Tok → Prop) (n : Nat) (f : Nat → Nat → AV) : Prop := ∃ h : Nat → Tok, (∀ i, i < n → Q (h i)) ∧ ∀ i c, i < n → c < 3 → f i c = rowT h i c

theorem TokRowP.un {Q : Tok → Prop} {n : Nat} {f : Nat → Nat → AV} (h : TokRowP Q n f) : ∀ i, i < n → Q (unT f i) := by
  obtain ⟨h, hq, hh⟩ := h
  intro i hi
  have e : unT f i = h i := by
    unfold unT
    rw [hh i 0 hi (by omega), hh i 1 hi (by omega), hh i 2 hi (by omega)]
    rfl
  rw [e]
  exact hq i hi

theorem TokRowP.app {Q : Tok → Prop} {n : Nat} {f : Nat → Nat → AV} (h : n = 0 ∨ TokRowP Q n f) {d : Bool} {x : List UInt8} {near : Bool} (ht : Q ⟨d, tokN x, tokS x near⟩) : TokRowP Q (n + 1) (appG n f (oneR d x near)) := by
  cases n with
  | zero =>
    refine ⟨fun _ => ⟨d, tokN x, tokS x near⟩, fun _ _ => ht, fun i c hi hc => ?_⟩
    obtain rfl : i = 0 := by omega
    exact oneR_row d x near c hc
  | succ n =>
    obtain ⟨h, hq, hh⟩ := h.resolve_left (by omega)
    refine ⟨fun i => if i < n + 1 then h i else ⟨d, tokN x, tokS x near⟩, fun i hi => ?_, fun i c hi hc => ?_⟩
    · show Q (if i < n + 1 then h i else _)
      split
      · rename_i hl; exact hq i hl
      · exact ht
    · show appF (n + 1) f (oneR d x near) i c = _
      unfold appF
      by_cases hl : i < n + 1
      · rw [if_pos hl, hh i c hl hc]
        unfold rowT
        simp only [if_pos hl]
      · obtain rfl : i = n + 1 := by omega
        rw [if_neg hl, Nat.sub_self, oneR_row d x near c hc]
        unfold rowT
        simp only [if_neg hl]

theorem outP_rowP {Q : Tok → Prop} {s : List UInt8} (hv : ∀ d (a : Nat) near, Q ⟨d, tokN (cutX s a (kN s a)), tokS (cutX s a (kN s a)) near⟩) : ∀ (m : Nat) (d : Bool) (a n : Nat) (f : Nat → Nat → AV), (n = 0 ∨ TokRowP Q n f) → ((outP m s d a n f).n = 0 ∨ TokRowP Q (outP m s d a n f).n (outP m s d a n f).f)
  | 0, d, a, n, f, h => h
  | m + 1, d, a, n, f, h => by
    unfold outP
    split
    · exact h
    · exact outP_rowP hv m _ _ _ _ (.inr (TokRowP.app h (hv _ _ _)))

theorem tok_each {Q : Tok → Prop} {s : List UInt8} (hv : ∀ d (a : Nat) near, Q ⟨d, tokN (cutX s a (kN s a)), tokS (cutX s a (kN s a)) near⟩) (h0 : Q ⟨false, true, [48]⟩) (hd : ∀ t, Q t → Q ⟨false, t.num, t.text⟩) : ∀ i, i < tokL s → Q (tokF s i) := by
  have hr : TokRowP Q (tokC s) (tokR s) := TokRowP.app (outP_rowP hv (s.length + 1) false 0 0 _ (.inl rfl)) (hv _ _ _)
  have hq : ∀ i, i < (trim8 s).2 → Q ((trim8 s).1 i) := trimR_all (Q := Q) (tokC s + 1) (unT (tokR s)) (tokC s) hr.un
  intro i hi
  unfold tokF tokL at *
  cases hz : (trim8 s).2.beq 0 with
  | true =>
    rw [hz, cond_true] at hi
    rw [cond_true]
    obtain rfl : i = 0 := by omega
    exact h0
  | false =>
    rw [hz, cond_false] at hi
    rw [cond_false]
    unfold undash
    by_cases h : i = 0
    · rw [if_pos h]; subst h; exact hd _ (hq 0 hi)
    · rw [if_neg h]; exact hq i hi

theorem dropWhile_le {α : Type} (q : α → Bool) : ∀ l : List α, (l.dropWhile q).length ≤ l.length := fun l => (List.dropWhile_sublist q).length_le

theorem trimD_le (x : List UInt8) : (trimD x).length ≤ x.length + 9 := by
  unfold trimD
  split
  · simp
  · have := dropWhile_le (fun b : UInt8 => ((b.toNat : Int) == 48)) x
    unfold dropB
    refine Nat.le_trans (List.dropWhile_sublist _).length_le ?_
    omega

theorem quaT_le (q : List UInt8) (n : Bool) : (quaT q n).length ≤ q.length + 9 := by
  unfold quaT
  cases (n && q == [97]) <;> cases (n && q == [98]) <;> cases (n && q == [109]) <;> cases (q == [99, 114]) <;> cases (q == [102, 105, 110, 97, 108] || (q == [103, 97] || q == [114, 101, 108, 101, 97, 115, 101])) <;> simp

theorem tokS_le (x : List UInt8) (n : Bool) : (tokS x n).length ≤ x.length + 9 := by
  unfold tokS
  cases tokN x with
  | true => exact trimD_le x
  | false =>
    have := quaT_le (lowF x 0) n
    rw [lowF_len (Nat.zero_le _)] at this
    exact this

theorem tok_short {s : List UInt8} : ∀ i, i < tokL s → (tokF s i).text.length ≤ s.length + 9 :=
  tok_each (Q := fun t => t.text.length ≤ s.length + 9) (fun d a near => by
    refine Nat.le_trans (tokS_le _ _) ?_
    have : (cutX s a (kN s a)).length ≤ s.length := by
      unfold cutX
      simp only [List.length_take, List.length_drop]
      omega
    omega) (by simp) (fun t h => h)

theorem canL_short {f : Nat → Tok} {K : Nat} : ∀ n, (∀ i, i < n → (f i).text.length ≤ K) → (canL f n).length ≤ n * (K + 6)
  | 0, h => by simp [canL]
  | n + 1, h => by
    have h1 := canL_short n fun i hi => h i (by omega)
    have h2 : (pieceT n (f n)).length ≤ K + 6 := by
      unfold pieceT
      have := h n (by omega)
      rw [List.length_append]
      have e1 : (if n = 0 then ([] : List UInt8) else bif (f n).dash then [45] else [46]).length ≤ 1 := by
        split
        · simp
        · cases (f n).dash <;> simp
      have e2 : (bif (f n).text == [] then [102, 105, 110, 97, 108] else (f n).text).length ≤ K + 5 := by
        cases ((f n).text == []) <;> simp <;> omega
      omega
    show (canL f n ++ pieceT n (f n)).length ≤ _
    rw [List.length_append, Nat.succ_mul]
    omega

theorem okT_len {s : List UInt8} (h : okT s = true) : s.length ≤ 64 := by
  unfold okT at h
  simp only [Bool.and_eq_true, Bool.not_eq_true', decide_eq_false_iff_not] at h
  have := h.1
  omega

theorem tokL_66 {s : List UInt8} (h : s.length ≤ 64) : tokL s ≤ 66 := by
  have h2 := tokC_le s
  have h3 : (trim8 s).2 ≤ tokC s := trimR_le _ _ _
  unfold tokL
  cases (trim8 s).2.beq 0 <;> simp <;> omega

theorem tokL_pos (s : List UInt8) : 0 < tokL s := by
  unfold tokL
  cases hz : (trim8 s).2.beq 0 with
  | true => simp
  | false =>
    rw [cond_false]
    rcases Nat.eq_zero_or_pos (trim8 s).2 with h | h
    · rw [h] at hz; cases hz
    · exact h

theorem canL_tok {s : List UInt8} (h : s.length ≤ 64) : (canL (tokF s) (tokL s)).length ≤ 5214 := by
  have h1 := canL_short (f := tokF s) (K := s.length + 9) (tokL s) tok_short
  have h2 := tokL_66 h
  refine Nat.le_trans h1 ?_
  refine Nat.le_trans (Nat.mul_le_mul h2 (show s.length + 9 + 6 ≤ 79 by omega)) ?_
  decide

def canS (s : List UInt8) : List UInt8 := bif okT s then canL (tokF s) (tokL s) else []

theorem canL_ne {f : Nat → Tok} : ∀ {n : Nat}, 0 < n → 0 < (canL f n).length
  | n + 1, _ => by
    show 0 < (canL f n ++ pieceT n (f n)).length
    rw [List.length_append]
    have : 0 < (pieceT n (f n)).length := by
      unfold pieceT
      rw [List.length_append]
      cases h : (f n).text == [] with
      | true => simp
      | false =>
        rw [cond_false]
        cases ht : (f n).text with
        | nil => rw [ht] at h; simp at h
        | cons b l => simp only [List.length_cons]; omega
    omega

theorem t11 (s : List UInt8) : (evn tabV1 h11 L11 11 [.str s] []).run =
  bif decide ((↑s.length : Int) > (64 : Int)) then
   some ((AV.str [], []))
  else
   bif s == [] then
    some ((AV.str [], []))
   else
    bif decide (fxN vb s 0 < s.length) then
     some ((AV.str [], []))
    else
     bif isEn eL11 pL11 ([AV.ref 0 0, AV.sl 3 (tokL s) (rowT (tokF s)), AV.int IntKind.i64 (↑(tokL s) : Int), AV.int IntKind.i64 (0 : Int)], [some (AObj.tcells 58 [AV.nilp, AV.nilsl])]) then
      bif decide (0 < (canL (unT (rowT (tokF s))) (tokL s)).length) then
       bif decide ((0 : Int) < (↑(canL (unT (rowT (tokF s))) (tokL s)).length : Int) ∧ (↑(canL (unT (rowT (tokF s))) (tokL s)).length : Int) ≤ (↑(canL (unT (rowT (tokF s))) (tokL s)).length : Int)) then
        some ((AV.str (List.take (↑(canL (unT (rowT (tokF s))) (tokL s)).length : Int).toNat (canL (unT (rowT (tokF s))) (tokL s))), []))
       else
        none
      else
       none
     else
      none := by kernel_rfl

def c11 : List AV → T AV
  | [.str s] => .leaf (.str (canS s))
  | _ => .fail

theorem e11 (s : List UInt8) (hF : FitsL [.str s]) : (evn tabV1 h11 L11 11 [.str s] []).run = (.leaf (.str (canS s)) : T AV).run.map fun r => (r, []) := by
  refine (t11 s).trans ?_
  unfold canS okT
  cases h1 : decide ((s.length : Int) > 64) with
  | true => rfl
  | false =>
    have h64 : s.length ≤ 64 := by
      have := of_decide_eq_false h1
      omega
    cases (s == []) with
    | true => rfl
    | false =>
      cases decide (fxN vb s 0 < s.length) with
      | true => rfl
      | false =>
        have hc := canL_tok h64
        have hl := tokL_66 h64
        have h0 := tokL_pos s
        have hn := canL_ne (f := tokF s) h0
        have := kL11 (tokL s) (tokF s) 0 ⟨Nat.zero_le _, ⟨h0, by omega⟩, by omega⟩
        simp only [cond_false, cond_true, Bool.not_false, Bool.and_true]
        rw [unT_rowT]
        refine (cond_chk this).trans ?_
        simp (disch := omega) only [decT, decF, cond_true, cond_false, Int.toNat_natCast, List.take_length]
        rfl

theorem s11 : Sound1 Tryd.prog ⟨11, true, pcon c11⟩ := by
  refine sound_pureH (m := 20) (k := 9) (hn := h11) (Λ := L11) (soundTab_of all_tabV1) H0 (oneLoop (by kernel_rfl) l11) fun args r hF h => ?_
  unfold c11 at h
  split at h
  · rename_i s
    have he := e11 s hF
    rw [he, h]; rfl
  · cases h

noncomputable def tabV2 : Tab := ⟨11, true, pcon c11⟩ :: tabV1

theorem all_tabV2 : ∀ e, e ∈ tabV2 → Sound1 Tryd.prog e := (sound_mem_tab s11 all_tabV1)

theorem ok_tabV2 : SoundTab Tryd.prog tabV2 := soundTab_of all_tabV2
end Go.Mvn
namespace Go.Mvn

open Go Go.Proofs Go.Ab

set_option maxRecDepth 100000

set_option linter.unusedVariables false

set_option linter.unusedSimpArgs false

/-! ### awake -/

theorem t17 : (evn tabV2 h17 noLoops 17 [] []).run = some (.bool true, []) := by kernel_rfl

def c17 : List AV → T AV
  | [] => .leaf (.bool true)
  | _ => .fail

theorem s17 : Sound1 Tryd.prog ⟨17, true, pcon c17⟩ := by
  refine sound_pureH (m := 20) (k := 9) (hn := h17) (Λ := noLoops) (soundTab_of all_tabV2) H0 (fun i hi => anyLoops) fun args r hF h => ?_
  unfold c17 at h
  split at h
  · simp only [T.run_leaf, Option.some.injEq] at h
    subst h
    exact t17
  · cases h

noncomputable def tabW : Tab := ⟨17, true, pcon c17⟩ :: tabV2

theorem all_tabW : ∀ e, e ∈ tabW → Sound1 Tryd.prog e := (sound_mem_tab s17 all_tabV2)

theorem ok_tabW : SoundTab Tryd.prog tabW := soundTab_of all_tabW

theorem sgn_range (n : Int) : -1 ≤ sgn n ∧ sgn n ≤ 1 := by
  unfold sgn
  (repeat' split) <;> omega

theorem cmpD_range (a b : List UInt8) : -1 ≤ cmpD a b ∧ cmpD a b ≤ 1 := by
  have h := compareBytes_range (trimD a) (trimD b)
  unfold cmpD cmpI
  (repeat' split) <;> omega

theorem ordT_range (d1 n1 : Bool) (s1 : List UInt8) (d2 n2 : Bool) (s2 : List UInt8) (f : Bool) : -1 ≤ ordT d1 n1 s1 d2 n2 s2 f ∧ ordT d1 n1 s1 d2 n2 s2 f ≤ 1 := by
  have h1 := sgn_range (clsT d1 n1 f - clsT d2 n2 f)
  have h2 := sgn_range (rankN s1 - rankN s2)
  have h3 := cmpD_range s1 s2
  have h4 := compareBytes_range s1 s2
  unfold ordT
  cases (clsT d1 n1 f != clsT d2 n2 f)
  · cases n1
    · cases (rankN s1 != rankN s2)
      · cases decide (rankN s1 < 8)
        · exact h4
        · simp only [cond_true, cond_false]; omega
      · exact h2
    · exact h3
  · exact h1

theorem cmpM_range (a b : List UInt8) : -1 ≤ cmpM a b ∧ cmpM a b ≤ 1 := by
  have h4 := compareBytes_range a b
  unfold cmpM ordL ordTT
  cases okT a <;> cases okT b <;> cases fitT (tokF a) (tokL a) <;> cases fitT (tokF b) (tokL b) <;> simp only [cond_true, cond_false] <;> try omega
  cases decide (fbad (eqO (tokF a) (tokF b) (tokL a) (tokL b)) (max (tokL a) (tokL b)) 0 < max (tokL a) (tokL b))
  · simp only [cond_false]; omega
  · exact ordT_range _ _ _ _ _ _ _

theorem t4 (a b c : List UInt8) : (evn tabW h4 noLoops 4 [.str a, .str b, .str c] []).run =
  bif decide (cmpM a b < (-1 : Int)) then
   some ((AV.bool false, []))
  else
   bif decide (cmpM a b > (1 : Int)) then
    some ((AV.bool false, []))
   else
    bif cmpM b a != IntKind.i64.wrap ((0 : Int) - cmpM a b) then
     some ((AV.bool false, []))
    else
     bif cmpM a a != (0 : Int) then
      some ((AV.bool false, []))
     else
      bif decide (cmpM a b ≤ (0 : Int)) then
       bif decide (cmpM b c ≤ (0 : Int)) then
        bif decide (cmpM a c > (0 : Int)) then
         some ((AV.bool false, []))
        else
         bif decide (cmpM a b ≥ (0 : Int)) then
          bif decide (cmpM b c ≥ (0 : Int)) then
           bif decide (cmpM a c < (0 : Int)) then
            some ((AV.bool false, []))
           else
            bif cmpM a b == (0 : Int) then
             bif !cmpM a c != cmpM b c then
              some ((AV.bool true, []))
             else
              some ((AV.bool false, []))
            else
             some ((AV.bool true, []))
          else
           bif cmpM a b == (0 : Int) then
            bif !cmpM a c != cmpM b c then
             some ((AV.bool true, []))
            else
             some ((AV.bool false, []))
           else
            some ((AV.bool true, []))
         else
          bif cmpM a b == (0 : Int) then
           bif !cmpM a c != cmpM b c then
            some ((AV.bool true, []))
           else
            some ((AV.bool false, []))
          else
           some ((AV.bool true, []))
       else
        bif decide (cmpM a b ≥ (0 : Int)) then
         bif decide (cmpM b c ≥ (0 : Int)) then
          bif decide (cmpM a c < (0 : Int)) then
           some ((AV.bool false, []))
          else
           bif cmpM a b == (0 : Int) then
            bif !cmpM a c != cmpM b c then
             some ((AV.bool true, []))
            else
             some ((AV.bool false, []))
           else
            some ((AV.bool true, []))
         else
          bif cmpM a b == (0 : Int) then
           bif !cmpM a c != cmpM b c then
            some ((AV.bool true, []))
           else
            some ((AV.bool false, []))
          else
           some ((AV.bool true, []))
        else
         bif cmpM a b == (0 : Int) then
          bif !cmpM a c != cmpM b c then
           some ((AV.bool true, []))
          else
           some ((AV.bool false, []))
         else
          some ((AV.bool true, []))
      else
       bif decide (cmpM a b ≥ (0 : Int)) then
        bif decide (cmpM b c ≥ (0 : Int)) then
         bif decide (cmpM a c < (0 : Int)) then
          some ((AV.bool false, []))
         else
          bif cmpM a b == (0 : Int) then
           bif !cmpM a c != cmpM b c then
            some ((AV.bool true, []))
           else
            some ((AV.bool false, []))
          else
           some ((AV.bool true, []))
        else
         bif cmpM a b == (0 : Int) then
          bif !cmpM a c != cmpM b c then
           some ((AV.bool true, []))
          else
           some ((AV.bool false, []))
         else
          some ((AV.bool true, []))
       else
        bif cmpM a b == (0 : Int) then
         bif !cmpM a c != cmpM b c then
          some ((AV.bool true, []))
         else
          some ((AV.bool false, []))
        else
         some ((AV.bool true, [])) := by kernel_rfl

theorem treeTrue (a b c : List UInt8) : (evn tabW h4 noLoops 4 [.str a, .str b, .str c] []).run = some (.bool true, []) := by
  refine (t4 a b c).trans ?_
  have u1 := cmpM_range a b
  have u2 := cmpM_range b c
  have u3 := cmpM_range a c
  have h1 := cmpM_cmp.anti a b
  have h2 := cmpM_cmp.self a
  have t1 := cmpM_cmp.tr a b c
  have t2 := cmpM_cmp.tr c b a
  have e1 := cmpM_cmp.eqr a b c
  have a2 := cmpM_cmp.anti b c
  have a3 := cmpM_cmp.anti a c
  generalize cmpM a b = x at *
  generalize cmpM b c = y at *
  generalize cmpM a c = z at *
  generalize cmpM b a = x' at *
  generalize cmpM c b = y' at *
  generalize cmpM c a = z' at *
  have hw : IntKind.i64.wrap (0 - x) = -x := by rw [w64 (by omega) (by omega)]; omega
  rw [decide_eq_false (show ¬ x < -1 by omega), decide_eq_false (show ¬ x > 1 by omega), hw, h1, h2]
  simp only [bne_self_eq_false, cond_false]
  simp only [Bool.cond_eq_ite, decide_eq_true_eq, beq_iff_eq, bne_iff_ne, ne_eq, Bool.not_eq_true', bne_eq_false_iff_eq]
  (repeat' split) <;> first | rfl | (exfalso; omega)
end Go.Mvn

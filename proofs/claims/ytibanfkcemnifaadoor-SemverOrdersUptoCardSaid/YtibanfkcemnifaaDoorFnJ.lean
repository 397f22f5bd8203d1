/- Lemmas for the claims of this seat (a verified symbolic evaluator, and contracts of functions): own work; no condition. -/
import Derived.Test.YtibanfkcemnifaaDoorFnI
import Derived.Test.YtibanfkcemnifaaDoorEvF
namespace Go.Sem

open Go Go.Proofs Go.Ab

set_option maxRecDepth 100000

set_option linter.unusedVariables false

set_option linter.unusedSimpArgs false

theorem cmpV_ord : IsOrd cmpV := ⟨cmpV_cmp.anti, cmpV_cmp.tr, cmpV_cmp.eqr⟩

/-! ### swapRange -/

structure Y101 where
  N : Nat
  f : Nat → List UInt8
  a : Nat
  b : Nat
  n : Nat
  i : Nat

def eL101 : Y101 → List AV × Hp := fun ⟨N, f, a, b, n, i⟩ => ([.row 0 1 0 N, .int .i64 a, .int .i64 b, .int .i64 n, .int .i64 i], [some (.row 1 N (rowS f))])

def dL101 : List AV × Hp → Y101
  | ([.row _ _ _ N, .int .i64 a, .int .i64 b, .int .i64 n, .int .i64 i], [some (.row _ _ f_g)]) => ⟨N, unS f_g, a.toNat, b.toNat, n.toNat, i.toNat⟩
  | _ => ⟨default, default, default, default, default, default⟩

def pL101 : Y101 → Prop := fun ⟨N, f, a, b, n, i⟩ => i ≤ n ∧ a + n ≤ b ∧ b + n ≤ N ∧ N ≤ bnd

def rL101 : Y101 → T (AX × St) := fun ⟨N, f, a, b, n, i⟩ => .leaf (.exit 0, { tm := tmOf 38 [(0, .row 0 1 0 N), (1, .int .i64 a), (2, .int .i64 b), (3, .int .i64 n), (10, .int .i64 n), (13, .bool false)], ms := [], hp := [some (.row 1 N (rowS (swpR f (a + i) (b + i) (n - i))))] })

noncomputable def L101 : LoopT := fun k => match Nat.beq k 100040 with
  | true => some (lccon (mbits 1039 38) eL101 dL101 pL101 rL101)
  | false => none

theorem iL101 : ∀ x, dL101 (eL101 x) = x := by
  rintro ⟨N, f, a, b, n, i⟩
  simp only [eL101, dL101, Int.toNat_natCast, unS_rowS]

theorem kL101 (N : Nat) (f : Nat → List UInt8) (a : Nat) (b : Nat) (n : Nat) (i : Nat) (h : i ≤ n ∧ a + n ≤ b ∧ b + n ≤ N ∧ N ≤ bnd) : isEn eL101 pL101 ([.row 0 1 0 N, .int .i64 a, .int .i64 b, .int .i64 n, .int .i64 i], [some (.row 1 N (rowS f))]) = true := isEn_true (enc := eL101) (p := pL101) ⟨N, f, a, b, n, i⟩ h

theorem zL101 (N : Nat) (f : Nat → List UInt8) (a : Nat) (b : Nat) (n : Nat) (h : pL101 ⟨N, f, a, b, n, 0⟩) : isEn eL101 pL101 ([.row 0 1 0 N, .int .i64 a, .int .i64 b, .int .i64 n, .int .i64 (0 : Int)], [some (.row 1 N (rowS f))]) = true := isEn_true (enc := eL101) (p := pL101) ⟨N, f, a, b, n, 0⟩ h

theorem q101 (N : Nat) (f : Nat → List UInt8) (a : Nat) (b : Nat) (n : Nat) (i : Nat) : (rdn tabC2 h101 L101 101 1 0 { tm := encGo (mbits 1039 38) [.row 0 1 0 N, .int .i64 a, .int .i64 b, .int .i64 n, .int .i64 i], ms := [], hp := [some (.row 1 N (rowS f))] }).run =
  bif decide ((↑i : Int) < (↑n : Int)) then
   bif decide ((0 : Int) ≤ IntKind.i64.wrap ((↑b : Int) + (↑i : Int)) ∧ IntKind.i64.wrap ((↑b : Int) + (↑i : Int)) < (↑N : Int)) then
    bif decide (0 + (IntKind.i64.wrap ((↑b : Int) + (↑i : Int))).toNat < N) then
     bif decide ((0 : Int) ≤ IntKind.i64.wrap ((↑a : Int) + (↑i : Int)) ∧ IntKind.i64.wrap ((↑a : Int) + (↑i : Int)) < (↑N : Int)) then
      bif decide (0 + (IntKind.i64.wrap ((↑a : Int) + (↑i : Int))).toNat < N) then
       bif decide ((0 : Int) ≤ IntKind.i64.wrap ((↑a : Int) + (↑i : Int)) ∧ IntKind.i64.wrap ((↑a : Int) + (↑i : Int)) < (↑N : Int)) then
        bif decide (0 + (IntKind.i64.wrap ((↑a : Int) + (↑i : Int))).toNat < N) then
         bif decide ((0 : Int) ≤ IntKind.i64.wrap ((↑b : Int) + (↑i : Int)) ∧ IntKind.i64.wrap ((↑b : Int) + (↑i : Int)) < (↑N : Int)) then
          bif decide (0 + (IntKind.i64.wrap ((↑b : Int) + (↑i : Int))).toNat < N) then
           some ((AX.normal, { tm := tmOf 38 [(0, AV.row 0 1 0 N), (1, AV.int IntKind.i64 (↑a : Int)), (2, AV.int IntKind.i64 (↑b : Int)), (3, AV.int IntKind.i64 (↑n : Int)), (10, AV.int IntKind.i64 (IntKind.i64.wrap ((↑i : Int) + (1 : Int))))], ms := [], hp := [some (AObj.row 1 N (updf 1 (updf 1 (rowS f) (0 + (IntKind.i64.wrap ((↑a : Int) + (↑i : Int))).toNat) 0 [AV.str (f (0 + (IntKind.i64.wrap ((↑b : Int) + (↑i : Int))).toNat))]) (0 + (IntKind.i64.wrap ((↑b : Int) + (↑i : Int))).toNat) 0 [AV.str (f (0 + (IntKind.i64.wrap ((↑a : Int) + (↑i : Int))).toNat))]))] }))
          else
           none
         else
          none
        else
         none
       else
        none
      else
       none
     else
      none
    else
     none
   else
    none
  else
   some ((AX.exit 0, { tm := tmOf 38 [(0, AV.row 0 1 0 N), (1, AV.int IntKind.i64 (↑a : Int)), (2, AV.int IntKind.i64 (↑b : Int)), (3, AV.int IntKind.i64 (↑n : Int)), (10, AV.int IntKind.i64 (↑i : Int)), (13, AV.bool false)], ms := [], hp := [some (AObj.row 1 N (rowS f))] })) := by kernel_rfl

theorem l101 : LoopOk Tryd.prog tabC2.pf (fun n => hd Tryd.prog tabC2.pf tabC2.con.run (fun f => (H0 f).to) n 9) h101.to 101 1 none L101 (loopAt Tryd.prog 101 0) := by
  rw [show loopAt Tryd.prog 101 0 = .loop (lbody Tryd.prog 101 0) by kernel_rfl]
  refine loop_c (hdT_le (m := 20) 9) (m := 20) (lv := mbits 1039 38) (p := pL101) (res := rL101) iL101 (within_of _ (by rw [show loopsOf (lbody Tryd.prog 101 0) = [] by kernel_rfl]; simp)) (by kernel_rfl) (fun ⟨N, f, a, b, n, i⟩ => n - i) ?_
  rintro ⟨N, f, a, b, n, i⟩ hp
  have ht := q101 N f a b n i
  obtain ⟨h1, h2, h3, h4⟩ := hp
  simp only [bnd] at h4
  by_cases hl : i < n
  · rw [decide_eq_true (show (i : Int) < n by omega), w64a (by omega), w64a (by omega), w64n (by omega), in_row (show b + i < N by omega), in_row (show a + i < N by omega)] at ht
    simp only [Int.toNat_natCast, Nat.zero_add, cond_true, decide_eq_true (show b + i < N by omega), decide_eq_true (show a + i < N by omega), updS2] at ht
    left
    refine ⟨⟨N, sw f (a + i) (b + i), a, b, n, i + 1⟩, ⟨by omega, h2, h3, by simpa only [bnd] using h4⟩, by simp only; omega, ?_, ht⟩
    simp only [rL101, T.run_leaf]
    obtain ⟨k, hk⟩ : ∃ k, n - i = k + 1 := ⟨n - i - 1, by omega⟩
    rw [hk, show n - (i + 1) = k by omega, ← swpR_head (show a + i + k < b + i by omega)]
    rfl
  · right
    rw [decide_eq_false (show ¬ (i : Int) < n by omega)] at ht
    have he : i = n := by omega
    subst he
    refine ⟨_, ?_, ?_, ht⟩
    · simp
    · simp only [rL101, T.run_leaf, Nat.sub_self, swpR_zero] <;> rfl

theorem t101 (N : Nat) (f : Nat → List UInt8) (a : Nat) (b : Nat) (n : Nat) : (evn tabC2 h101 L101 101 [.row 0 1 0 N, .int .i64 a, .int .i64 b, .int .i64 n, .fn 8 []] [some (.row 1 N (rowS f))]).run =
  bif isEn eL101 pL101 ([AV.row 0 1 0 N, AV.int IntKind.i64 (↑a : Int), AV.int IntKind.i64 (↑b : Int), AV.int IntKind.i64 (↑n : Int), AV.int IntKind.i64 (0 : Int)], [some (AObj.row 1 N (rowS f))]) then
   some ((AV.tup [], [some (AObj.row 1 N (rowS (swpR (unS (rowS f)) ((↑a : Int).toNat + 0) ((↑b : Int).toNat + 0) ((↑n : Int).toNat - 0))))]))
  else
   none := by kernel_rfl

structure X101 where
  N : Nat
  f : Nat → List UInt8
  a : Nat
  b : Nat
  n : Nat

def en101 : X101 → List AV × Hp := fun ⟨N, f, a, b, n⟩ => ([.row 0 1 0 N, .int .i64 a, .int .i64 b, .int .i64 n, .fn 8 []], [some (.row 1 N (rowS f))])

def de101 : List AV × Hp → X101
  | ([.row _ _ _ N, .int .i64 a, .int .i64 b, .int .i64 n, .fn _ _], [some (.row _ _ f_g)]) => ⟨N, unS f_g, a.toNat, b.toNat, n.toNat⟩
  | _ => ⟨default, default, default, default, default⟩

def p101 : X101 → Prop := fun ⟨N, f, a, b, n⟩ => a + n ≤ b ∧ b + n ≤ N ∧ N ≤ bnd

def rs101 : X101 → T (AV × Hp) := fun ⟨N, f, a, b, n⟩ => .leaf (.tup [], [some (.row 1 N (rowS (swpR f a b n)))])

noncomputable def c101 : List AV → Hp → T (AV × Hp) := mcon en101 de101 p101 rs101

theorem in101 : ∀ x, de101 (en101 x) = x := by
  rintro ⟨N, f, a, b, n⟩
  simp only [en101, de101, Int.toNat_natCast, unS_rowS]

theorem k101 (N : Nat) (f : Nat → List UInt8) (a : Nat) (b : Nat) (n : Nat) (h : a + n ≤ b ∧ b + n ≤ N ∧ N ≤ bnd) : isEn en101 p101 ([.row 0 1 0 N, .int .i64 a, .int .i64 b, .int .i64 n, .fn 8 []], [some (.row 1 N (rowS f))]) = true := isEn_true (enc := en101) (p := p101) ⟨N, f, a, b, n⟩ h

theorem e101 (N : Nat) (f : Nat → List UInt8) (a : Nat) (b : Nat) (n : Nat) (hF : FitsL [.row 0 1 0 N, .int .i64 a, .int .i64 b, .int .i64 n, .fn 8 []]) (hH : FitsH [some (.row 1 N (rowS f))]) (hp : a + n ≤ b ∧ b + n ≤ N ∧ N ≤ bnd) : (evn tabC2 h101 L101 101 [.row 0 1 0 N, .int .i64 a, .int .i64 b, .int .i64 n, .fn 8 []] [some (.row 1 N (rowS f))]).run = (.leaf (.tup [], [some (.row 1 N (rowS (swpR f a b n)))]) : T (AV × Hp)).run := by
  refine (t101 N f a b n).trans ?_
  refine (cond_chk (kL101 N f a b n 0 ⟨Nat.zero_le _, hp.1, hp.2.1, hp.2.2⟩)).trans ?_
  rfl

theorem s101 : Sound1 Tryd.prog ⟨101, false, gcon c101⟩ := by
  refine sound_cm (soundTab_of all_tabC2) in101 (hn := h101) (m := 20) (k := 9) (Λ := L101) (fun _ _ => oneLoop (by kernel_rfl) l101) ?_
  rintro ⟨N, f, a, b, n⟩ hp hF hH
  exact e101 N f a b n hF hH hp

noncomputable def tabD1 : Tab := ⟨101, false, gcon c101⟩ :: tabC2

theorem all_tabD1 : ∀ e, e ∈ tabD1 → Sound1 Tryd.prog e := (sound_mem_tab s101 all_tabC2)

theorem ok_tabD1 : SoundTab Tryd.prog tabD1 := soundTab_of all_tabD1

/-! ### rotate -/

structure Y95 where
  N : Nat
  f : Nat → List UInt8
  m : Nat
  i : Nat
  j : Nat

def eL95 : Y95 → List AV × Hp := fun ⟨N, f, m, i, j⟩ => ([.row 0 1 0 N, .int .i64 m, .fn 8 [], .int .i64 i, .int .i64 j], [some (.row 1 N (rowS f))])

def dL95 : List AV × Hp → Y95
  | ([.row _ _ _ N, .int .i64 m, .fn _ _, .int .i64 i, .int .i64 j], [some (.row _ _ f_g)]) => ⟨N, unS f_g, m.toNat, i.toNat, j.toNat⟩
  | _ => ⟨default, default, default, default, default⟩

def pL95 : Y95 → Prop := fun ⟨N, f, m, i, j⟩ => 0 < i ∧ 0 < j ∧ i ≤ m ∧ m + j ≤ N ∧ N ≤ bnd

def rL95 : Y95 → T (AX × St) := fun ⟨N, f, m, i, j⟩ => .leaf (.exit 0, { tm := tmOf 58 [(0, .row 0 1 0 N), (2, .int .i64 m), (4, .fn 8 []), (10, .int .i64 (rotM (i + j) f m i j).2), (11, .int .i64 (rotM (i + j) f m i j).2), (20, .bool false)], ms := [], hp := [some (.row 1 N (rowS (rotM (i + j) f m i j).1))] })

noncomputable def L95 : LoopT := fun k => match Nat.beq k 200050 with
  | true => some (lccon (mbits 3093 58) eL95 dL95 pL95 rL95)
  | false => none

theorem iL95 : ∀ x, dL95 (eL95 x) = x := by
  rintro ⟨N, f, m, i, j⟩
  simp only [eL95, dL95, Int.toNat_natCast, unS_rowS]

theorem kL95 (N : Nat) (f : Nat → List UInt8) (m : Nat) (i : Nat) (j : Nat) (h : 0 < i ∧ 0 < j ∧ i ≤ m ∧ m + j ≤ N ∧ N ≤ bnd) : isEn eL95 pL95 ([.row 0 1 0 N, .int .i64 m, .fn 8 [], .int .i64 i, .int .i64 j], [some (.row 1 N (rowS f))]) = true := isEn_true (enc := eL95) (p := pL95) ⟨N, f, m, i, j⟩ h

theorem zL95 (N : Nat) (f : Nat → List UInt8) (m : Nat) (i : Nat) (h : pL95 ⟨N, f, m, i, 0⟩) : isEn eL95 pL95 ([.row 0 1 0 N, .int .i64 m, .fn 8 [], .int .i64 i, .int .i64 (0 : Int)], [some (.row 1 N (rowS f))]) = true := isEn_true (enc := eL95) (p := pL95) ⟨N, f, m, i, 0⟩ h

theorem q95 (N : Nat) (f : Nat → List UInt8) (m : Nat) (i : Nat) (j : Nat) : (rdn tabD1 h95 L95 95 1 0 { tm := encGo (mbits 3093 58) [.row 0 1 0 N, .int .i64 m, .fn 8 [], .int .i64 i, .int .i64 j], ms := [], hp := [some (.row 1 N (rowS f))] }).run =
  bif (↑i : Int) != (↑j : Int) then
   bif decide ((↑i : Int) > (↑j : Int)) then
    bif isEn en101 p101 ([AV.row 0 1 0 N, AV.int IntKind.i64 (IntKind.i64.wrap ((↑m : Int) - (↑i : Int))), AV.int IntKind.i64 (↑m : Int), AV.int IntKind.i64 (↑j : Int), AV.fn 8 []], [some (AObj.row 1 N (rowS f))]) then
     some ((AX.normal, { tm := tmOf 58 [(0, AV.row 0 1 0 N), (2, AV.int IntKind.i64 (↑m : Int)), (4, AV.fn 8 []), (10, AV.int IntKind.i64 (IntKind.i64.wrap ((↑i : Int) - (↑j : Int)))), (11, AV.int IntKind.i64 (↑j : Int))], ms := [], hp := [some (AObj.row 1 N (rowS (swpR (unS (rowS f)) (IntKind.i64.wrap ((↑m : Int) - (↑i : Int))).toNat (↑m : Int).toNat (↑j : Int).toNat)))] }))
    else
     none
   else
    bif isEn en101 p101 ([AV.row 0 1 0 N, AV.int IntKind.i64 (IntKind.i64.wrap ((↑m : Int) - (↑i : Int))), AV.int IntKind.i64 (IntKind.i64.wrap (IntKind.i64.wrap ((↑m : Int) + (↑j : Int)) - (↑i : Int))), AV.int IntKind.i64 (↑i : Int), AV.fn 8 []], [some (AObj.row 1 N (rowS f))]) then
     some ((AX.normal, { tm := tmOf 58 [(0, AV.row 0 1 0 N), (2, AV.int IntKind.i64 (↑m : Int)), (4, AV.fn 8 []), (10, AV.int IntKind.i64 (↑i : Int)), (11, AV.int IntKind.i64 (IntKind.i64.wrap ((↑j : Int) - (↑i : Int))))], ms := [], hp := [some (AObj.row 1 N (rowS (swpR (unS (rowS f)) (IntKind.i64.wrap ((↑m : Int) - (↑i : Int))).toNat (IntKind.i64.wrap (IntKind.i64.wrap ((↑m : Int) + (↑j : Int)) - (↑i : Int))).toNat (↑i : Int).toNat)))] }))
    else
     none
  else
   some ((AX.exit 0, { tm := tmOf 58 [(0, AV.row 0 1 0 N), (2, AV.int IntKind.i64 (↑m : Int)), (4, AV.fn 8 []), (10, AV.int IntKind.i64 (↑i : Int)), (11, AV.int IntKind.i64 (↑j : Int)), (20, AV.bool false)], ms := [], hp := [some (AObj.row 1 N (rowS f))] })) := by kernel_rfl

theorem l95 : LoopOk Tryd.prog tabD1.pf (fun n => hd Tryd.prog tabD1.pf tabD1.con.run (fun f => (H0 f).to) n 9) h95.to 95 1 none L95 (loopAt Tryd.prog 95 0) := by
  rw [show loopAt Tryd.prog 95 0 = .loop (lbody Tryd.prog 95 0) by kernel_rfl]
  refine loop_c (hdT_le (m := 20) 9) (m := 20) (lv := mbits 3093 58) (p := pL95) (res := rL95) iL95 (within_of _ (by rw [show loopsOf (lbody Tryd.prog 95 0) = [] by kernel_rfl]; simp)) (by kernel_rfl) (fun ⟨N, f, m, i, j⟩ => i + j) ?_
  rintro ⟨N, f, m, i, j⟩ hp
  have ht := q95 N f m i j
  obtain ⟨h1, h2, h3, h4, h5⟩ := hp
  simp only [bnd] at h5
  have hs := rotM_step (f := f) (m := m) h1 h2
  by_cases he : i = j
  · subst he
    rw [if_pos rfl] at hs
    rw [cond_no (by simp)] at ht
    right
    refine ⟨_, ?_, ?_, ht⟩
    · simp
    · simp only [rL95, T.run_leaf, hs]
  · rw [if_neg he] at hs
    rw [cond_chk (show ((i : Int) != (j : Int)) = true by simp; omega)] at ht
    left
    by_cases hl : j < i
    · rw [if_pos hl] at hs
      rw [decide_eq_true (show (i : Int) > j by omega), w64s (by omega) (by omega), w64s (by omega) (by omega), k101 N f (m - i) m j ⟨by omega, by omega, by simp only [bnd]; omega⟩] at ht
      simp only [Int.toNat_natCast, cond_true, unS_rowS] at ht
      refine ⟨⟨N, swpR f (m - i) m j, m, i - j, j⟩, ⟨by omega, h2, by omega, h4, by simpa only [bnd] using h5⟩, by simp only; omega, ?_, ht⟩
      simp only [rL95, T.run_leaf, hs]
    · rw [if_neg hl] at hs
      rw [decide_eq_false (show ¬ (i : Int) > j by omega), w64s (a := m) (b := i) (by omega) (by omega), w64a (a := m) (b := j) (by omega), w64s (a := m + j) (b := i) (by omega) (by omega), w64s (a := j) (b := i) (by omega) (by omega), k101 N f (m - i) (m + j - i) i ⟨by omega, by omega, by simp only [bnd]; omega⟩] at ht
      simp only [Int.toNat_natCast, cond_true, cond_false, unS_rowS] at ht
      refine ⟨⟨N, swpR f (m - i) (m + j - i) i, m, i, j - i⟩, ⟨h1, by omega, h3, by omega, by simpa only [bnd] using h5⟩, by simp only; omega, ?_, ht⟩
      simp only [rL95, T.run_leaf, hs]

theorem t95 (N : Nat) (f : Nat → List UInt8) (a : Nat) (m : Nat) (b : Nat) : (evn tabD1 h95 L95 95 [.row 0 1 0 N, .int .i64 a, .int .i64 m, .int .i64 b, .fn 8 []] [some (.row 1 N (rowS f))]).run =
  bif isEn eL95 pL95 ([AV.row 0 1 0 N, AV.int IntKind.i64 (↑m : Int), AV.fn 8 [], AV.int IntKind.i64 (IntKind.i64.wrap ((↑m : Int) - (↑a : Int))), AV.int IntKind.i64 (IntKind.i64.wrap ((↑b : Int) - (↑m : Int)))], [some (AObj.row 1 N (rowS f))]) then
   bif isEn en101 p101 ([AV.row 0 1 0 N, AV.int IntKind.i64 (IntKind.i64.wrap ((↑(↑m : Int).toNat : Int) - (↑(rotM ((IntKind.i64.wrap ((↑m : Int) - (↑a : Int))).toNat + (IntKind.i64.wrap ((↑b : Int) - (↑m : Int))).toNat) (unS (rowS f)) (↑m : Int).toNat (IntKind.i64.wrap ((↑m : Int) - (↑a : Int))).toNat (IntKind.i64.wrap ((↑b : Int) - (↑m : Int))).toNat).snd : Int))), AV.int IntKind.i64 (↑(↑m : Int).toNat : Int), AV.int IntKind.i64 (↑(rotM ((IntKind.i64.wrap ((↑m : Int) - (↑a : Int))).toNat + (IntKind.i64.wrap ((↑b : Int) - (↑m : Int))).toNat) (unS (rowS f)) (↑m : Int).toNat (IntKind.i64.wrap ((↑m : Int) - (↑a : Int))).toNat (IntKind.i64.wrap ((↑b : Int) - (↑m : Int))).toNat).snd : Int), AV.fn 8 []], [some (AObj.row 1 N (rowS (rotM ((IntKind.i64.wrap ((↑m : Int) - (↑a : Int))).toNat + (IntKind.i64.wrap ((↑b : Int) - (↑m : Int))).toNat) (unS (rowS f)) (↑m : Int).toNat (IntKind.i64.wrap ((↑m : Int) - (↑a : Int))).toNat (IntKind.i64.wrap ((↑b : Int) - (↑m : Int))).toNat).fst))]) then
    some ((AV.tup [], [some (AObj.row 1 N (rowS (swpR (unS (rowS (rotM ((IntKind.i64.wrap ((↑m : Int) - (↑a : Int))).toNat + (IntKind.i64.wrap ((↑b : Int) - (↑m : Int))).toNat) (unS (rowS f)) (↑m : Int).toNat (IntKind.i64.wrap ((↑m : Int) - (↑a : Int))).toNat (IntKind.i64.wrap ((↑b : Int) - (↑m : Int))).toNat).fst)) (IntKind.i64.wrap ((↑(↑m : Int).toNat : Int) - (↑(rotM ((IntKind.i64.wrap ((↑m : Int) - (↑a : Int))).toNat + (IntKind.i64.wrap ((↑b : Int) - (↑m : Int))).toNat) (unS (rowS f)) (↑m : Int).toNat (IntKind.i64.wrap ((↑m : Int) - (↑a : Int))).toNat (IntKind.i64.wrap ((↑b : Int) - (↑m : Int))).toNat).snd : Int))).toNat (↑(↑m : Int).toNat : Int).toNat (↑(rotM ((IntKind.i64.wrap ((↑m : Int) - (↑a : Int))).toNat + (IntKind.i64.wrap ((↑b : Int) - (↑m : Int))).toNat) (unS (rowS f)) (↑m : Int).toNat (IntKind.i64.wrap ((↑m : Int) - (↑a : Int))).toNat (IntKind.i64.wrap ((↑b : Int) - (↑m : Int))).toNat).snd : Int).toNat)))]))
   else
    none
  else
   none := by kernel_rfl

structure X95 where
  N : Nat
  f : Nat → List UInt8
  a : Nat
  m : Nat
  b : Nat

def en95 : X95 → List AV × Hp := fun ⟨N, f, a, m, b⟩ => ([.row 0 1 0 N, .int .i64 a, .int .i64 m, .int .i64 b, .fn 8 []], [some (.row 1 N (rowS f))])

def de95 : List AV × Hp → X95
  | ([.row _ _ _ N, .int .i64 a, .int .i64 m, .int .i64 b, .fn _ _], [some (.row _ _ f_g)]) => ⟨N, unS f_g, a.toNat, m.toNat, b.toNat⟩
  | _ => ⟨default, default, default, default, default⟩

def p95 : X95 → Prop := fun ⟨N, f, a, m, b⟩ => a < m ∧ m < b ∧ b ≤ N ∧ N ≤ bnd

def rs95 : X95 → T (AV × Hp) := fun ⟨N, f, a, m, b⟩ => .leaf (.tup [], [some (.row 1 N (rowS (rotR f a m b)))])

noncomputable def c95 : List AV → Hp → T (AV × Hp) := mcon en95 de95 p95 rs95

theorem in95 : ∀ x, de95 (en95 x) = x := by
  rintro ⟨N, f, a, m, b⟩
  simp only [en95, de95, Int.toNat_natCast, unS_rowS]

theorem k95 (N : Nat) (f : Nat → List UInt8) (a : Nat) (m : Nat) (b : Nat) (h : a < m ∧ m < b ∧ b ≤ N ∧ N ≤ bnd) : isEn en95 p95 ([.row 0 1 0 N, .int .i64 a, .int .i64 m, .int .i64 b, .fn 8 []], [some (.row 1 N (rowS f))]) = true := isEn_true (enc := en95) (p := p95) ⟨N, f, a, m, b⟩ h

theorem e95 (N : Nat) (f : Nat → List UInt8) (a : Nat) (m : Nat) (b : Nat) (hF : FitsL [.row 0 1 0 N, .int .i64 a, .int .i64 m, .int .i64 b, .fn 8 []]) (hH : FitsH [some (.row 1 N (rowS f))]) (hp : a < m ∧ m < b ∧ b ≤ N ∧ N ≤ bnd) : (evn tabD1 h95 L95 95 [.row 0 1 0 N, .int .i64 a, .int .i64 m, .int .i64 b, .fn 8 []] [some (.row 1 N (rowS f))]).run = (.leaf (.tup [], [some (.row 1 N (rowS (rotR f a m b)))]) : T (AV × Hp)).run := by
  refine (t95 N f a m b).trans ?_
  obtain ⟨h1, h2, h3, h4⟩ := hp
  simp only [bnd] at h4
  obtain ⟨o1, o2, o3, o4⟩ := rotM_ok (m - a + (b - m)) f m (m - a) (b - m) (Nat.le_refl _) (by omega) (by omega) (by omega)
  rw [w64s (by omega) (by omega), w64s (by omega) (by omega)]
  refine (cond_chk (kL95 N f m (m - a) (b - m) ⟨by omega, by omega, by omega, by omega, by simp only [bnd]; omega⟩)).trans ?_
  simp only [Int.toNat_natCast, unS_rowS]
  rw [show m - (m - a) = a by omega, show m + (b - m) = b by omega] at o4
  rw [w64s (by omega) (by omega)]
  refine (cond_chk (k101 N (rotM (m - a + (b - m)) f m (m - a) (b - m)).1 (m - (rotM (m - a + (b - m)) f m (m - a) (b - m)).2) m (rotM (m - a + (b - m)) f m (m - a) (b - m)).2 ⟨by omega, by omega, by simp only [bnd]; omega⟩)).trans ?_
  simp only [Int.toNat_natCast, unS_rowS, o4]
  rfl

theorem s95 : Sound1 Tryd.prog ⟨95, false, gcon c95⟩ := by
  refine sound_cm (soundTab_of all_tabD1) in95 (hn := h95) (m := 20) (k := 9) (Λ := L95) (fun _ _ => oneLoop (by kernel_rfl) l95) ?_
  rintro ⟨N, f, a, m, b⟩ hp hF hH
  exact e95 N f a m b hF hH hp

noncomputable def tabD2 : Tab := ⟨95, false, gcon c95⟩ :: tabD1

theorem all_tabD2 : ∀ e, e ∈ tabD2 → Sound1 Tryd.prog e := (sound_mem_tab s95 all_tabD1)

theorem ok_tabD2 : SoundTab Tryd.prog tabD2 := soundTab_of all_tabD2

/-! ### insertionSort -/

structure Y87_1 where
  N : Nat
  f : Nat → List UInt8
  a : Nat
  b : Nat
  i : Nat
  j : Nat

def eL87_1 : Y87_1 → List AV × Hp := fun ⟨N, f, a, b, i, j⟩ => ([.row 0 1 0 N, .int .i64 a, .int .i64 b, .fn 8 [], .int .i64 i, .int .i64 j], [some (.row 1 N (rowS f))])

def dL87_1 : List AV × Hp → Y87_1
  | ([.row _ _ _ N, .int .i64 a, .int .i64 b, .fn _ _, .int .i64 i, .int .i64 j], [some (.row _ _ f_g)]) => ⟨N, unS f_g, a.toNat, b.toNat, i.toNat, j.toNat⟩
  | _ => ⟨default, default, default, default, default, default⟩

def pL87_1 : Y87_1 → Prop := fun ⟨N, f, a, b, i, j⟩ => a ≤ j ∧ j < N ∧ N ≤ bnd

def rL87_1 : Y87_1 → T (AX × St) := fun ⟨N, f, a, b, i, j⟩ => .leaf (.exit 2, { tm := tmOf 53 [(0, .row 0 1 0 N), (1, .int .i64 a), (2, .int .i64 b), (3, .fn 8 []), (8, .int .i64 i), (9, .int .i64 (bub cmpV a j f).2), (34, .bool false)], ms := [], hp := [some (.row 1 N (rowS (bub cmpV a j f).1))] })

noncomputable def LI87 : LoopT := fun k => match Nat.beq k 400048 with
  | true => some (lccon (mbits 783 53) eL87_1 dL87_1 pL87_1 rL87_1)
  | false => none

theorem iL87_1 : ∀ x, dL87_1 (eL87_1 x) = x := by
  rintro ⟨N, f, a, b, i, j⟩
  simp only [eL87_1, dL87_1, Int.toNat_natCast, unS_rowS]

theorem kL87_1 (N : Nat) (f : Nat → List UInt8) (a : Nat) (b : Nat) (i : Nat) (j : Nat) (h : a ≤ j ∧ j < N ∧ N ≤ bnd) : isEn eL87_1 pL87_1 ([.row 0 1 0 N, .int .i64 a, .int .i64 b, .fn 8 [], .int .i64 i, .int .i64 j], [some (.row 1 N (rowS f))]) = true := isEn_true (enc := eL87_1) (p := pL87_1) ⟨N, f, a, b, i, j⟩ h

theorem zL87_1 (N : Nat) (f : Nat → List UInt8) (a : Nat) (b : Nat) (i : Nat) (h : pL87_1 ⟨N, f, a, b, i, 0⟩) : isEn eL87_1 pL87_1 ([.row 0 1 0 N, .int .i64 a, .int .i64 b, .fn 8 [], .int .i64 i, .int .i64 (0 : Int)], [some (.row 1 N (rowS f))]) = true := isEn_true (enc := eL87_1) (p := pL87_1) ⟨N, f, a, b, i, 0⟩ h

theorem q87_1 (N : Nat) (f : Nat → List UInt8) (a : Nat) (b : Nat) (i : Nat) (j : Nat) : (rdn tabD2 h87 LI87 87 1 1 { tm := encGo (mbits 783 53) [.row 0 1 0 N, .int .i64 a, .int .i64 b, .fn 8 [], .int .i64 i, .int .i64 j], ms := [], hp := [some (.row 1 N (rowS f))] }).run =
  bif decide ((↑j : Int) > (↑a : Int)) then
   bif decide ((0 : Int) ≤ (↑j : Int) ∧ (↑j : Int) < (↑N : Int)) then
    bif decide (0 + (↑j : Int).toNat < N) then
     bif decide ((0 : Int) ≤ IntKind.i64.wrap ((↑j : Int) - (1 : Int)) ∧ IntKind.i64.wrap ((↑j : Int) - (1 : Int)) < (↑N : Int)) then
      bif decide (0 + (IntKind.i64.wrap ((↑j : Int) - (1 : Int))).toNat < N) then
       bif decide (cmpV (f (0 + (↑j : Int).toNat)) (f (0 + (IntKind.i64.wrap ((↑j : Int) - (1 : Int))).toNat)) < (0 : Int)) then
        bif decide ((0 : Int) ≤ IntKind.i64.wrap ((↑j : Int) - (1 : Int)) ∧ IntKind.i64.wrap ((↑j : Int) - (1 : Int)) < (↑N : Int)) then
         bif decide (0 + (IntKind.i64.wrap ((↑j : Int) - (1 : Int))).toNat < N) then
          bif decide ((0 : Int) ≤ (↑j : Int) ∧ (↑j : Int) < (↑N : Int)) then
           bif decide (0 + (↑j : Int).toNat < N) then
            bif decide ((0 : Int) ≤ (↑j : Int) ∧ (↑j : Int) < (↑N : Int)) then
             bif decide (0 + (↑j : Int).toNat < N) then
              bif decide ((0 : Int) ≤ IntKind.i64.wrap ((↑j : Int) - (1 : Int)) ∧ IntKind.i64.wrap ((↑j : Int) - (1 : Int)) < (↑N : Int)) then
               bif decide (0 + (IntKind.i64.wrap ((↑j : Int) - (1 : Int))).toNat < N) then
                some ((AX.normal, { tm := tmOf 53 [(0, AV.row 0 1 0 N), (1, AV.int IntKind.i64 (↑a : Int)), (2, AV.int IntKind.i64 (↑b : Int)), (3, AV.fn 8 []), (8, AV.int IntKind.i64 (↑i : Int)), (9, AV.int IntKind.i64 (IntKind.i64.wrap ((↑j : Int) - (1 : Int))))], ms := [], hp := [some (AObj.row 1 N (updf 1 (updf 1 (rowS f) (0 + (↑j : Int).toNat) 0 [AV.str (f (0 + (IntKind.i64.wrap ((↑j : Int) - (1 : Int))).toNat))]) (0 + (IntKind.i64.wrap ((↑j : Int) - (1 : Int))).toNat) 0 [AV.str (f (0 + (↑j : Int).toNat))]))] }))
               else
                none
              else
               none
             else
              none
            else
             none
           else
            none
          else
           none
         else
          none
        else
         none
       else
        some ((AX.exit 2, { tm := tmOf 53 [(0, AV.row 0 1 0 N), (1, AV.int IntKind.i64 (↑a : Int)), (2, AV.int IntKind.i64 (↑b : Int)), (3, AV.fn 8 []), (8, AV.int IntKind.i64 (↑i : Int)), (9, AV.int IntKind.i64 (↑j : Int)), (34, AV.bool false)], ms := [], hp := [some (AObj.row 1 N (rowS f))] }))
      else
       none
     else
      none
    else
     none
   else
    none
  else
   some ((AX.exit 2, { tm := tmOf 53 [(0, AV.row 0 1 0 N), (1, AV.int IntKind.i64 (↑a : Int)), (2, AV.int IntKind.i64 (↑b : Int)), (3, AV.fn 8 []), (8, AV.int IntKind.i64 (↑i : Int)), (9, AV.int IntKind.i64 (↑j : Int)), (34, AV.bool false)], ms := [], hp := [some (AObj.row 1 N (rowS f))] })) := by kernel_rfl

theorem l87_1 : LoopOk Tryd.prog tabD2.pf (fun n => hd Tryd.prog tabD2.pf tabD2.con.run (fun f => (H0 f).to) n 9) h87.to 87 1 none LI87 (loopAt Tryd.prog 87 1) := by
  rw [show loopAt Tryd.prog 87 1 = .loop (lbody Tryd.prog 87 1) by kernel_rfl]
  refine loop_c (hdT_le (m := 20) 9) (m := 20) (lv := mbits 783 53) (p := pL87_1) (res := rL87_1) iL87_1 (within_of _ (by rw [show loopsOf (lbody Tryd.prog 87 1) = [] by kernel_rfl]; simp)) (by kernel_rfl) (fun ⟨N, f, a, b, i, j⟩ => j) ?_
  rintro ⟨N, f, a, b, i, j⟩ hp
  have ht := q87_1 N f a b i j
  obtain ⟨h1, h2, h3⟩ := hp
  simp only [bnd] at h3
  cases j with
  | zero =>
    right
    rw [decide_eq_false (by omega)] at ht
    refine ⟨_, ?_, ?_, ht⟩
    · simp
    · simp only [rL87_1, T.run_leaf, bub] <;> rfl
  | succ j =>
    by_cases hj : a < j + 1
    · rw [decide_eq_true (show ((j + 1 : Nat) : Int) > a by omega), show IntKind.i64.wrap (((j + 1 : Nat) : Int) - 1) = (j : Nat) by rw [w64 (by omega) (by omega)]; omega, in_row h2, in_row (show j < N by omega)] at ht
      simp only [Int.toNat_natCast, Nat.zero_add, cond_true, decide_eq_true h2, decide_eq_true (show j < N by omega), updS2] at ht
      by_cases hc : cmpV (f (j + 1)) (f j) < 0
      · left
        rw [decide_eq_true hc] at ht
        refine ⟨⟨N, sw f (j + 1) j, a, b, i, j⟩, ⟨by omega, by omega, by simpa only [bnd] using h3⟩, by simp only; omega, ?_, ht⟩
        simp only [rL87_1, T.run_leaf]
        conv => rhs; unfold bub
        rw [if_pos ⟨hj, hc⟩]
      · right
        rw [decide_eq_false hc] at ht
        refine ⟨_, ?_, ?_, ht⟩
        · simp
        · simp only [rL87_1, T.run_leaf, bub]
          rw [if_neg (fun q => hc q.2)] <;> rfl
    · right
      rw [decide_eq_false (show ¬ ((j + 1 : Nat) : Int) > a by omega)] at ht
      refine ⟨_, ?_, ?_, ht⟩
      · simp
      · simp only [rL87_1, T.run_leaf, bub]
        rw [if_neg (fun q => hj q.1)] <;> rfl

structure Y87 where
  N : Nat
  f : Nat → List UInt8
  a : Nat
  b : Nat
  i : Nat

def eL87 : Y87 → List AV × Hp := fun ⟨N, f, a, b, i⟩ => ([.row 0 1 0 N, .int .i64 a, .int .i64 b, .fn 8 [], .int .i64 i], [some (.row 1 N (rowS f))])

def dL87 : List AV × Hp → Y87
  | ([.row _ _ _ N, .int .i64 a, .int .i64 b, .fn _ _, .int .i64 i], [some (.row _ _ f_g)]) => ⟨N, unS f_g, a.toNat, b.toNat, i.toNat⟩
  | _ => ⟨default, default, default, default, default⟩

def pL87 : Y87 → Prop := fun ⟨N, f, a, b, i⟩ => a ≤ i ∧ i ≤ N + 1 ∧ b ≤ N ∧ N ≤ bnd ∧ Srt cmpV (seg f a i)

def rL87 : Y87 → T (AX × St) := fun ⟨N, f, a, b, i⟩ => .leaf (.exit 0, { tm := tmOf 53 [(0, .row 0 1 0 N), (1, .int .i64 a), (2, .int .i64 b), (3, .fn 8 []), (8, .int .i64 (max i b : Nat)), (14, .bool false)], ms := [], hp := [some (.row 1 N (rowS (sortG cmpV f a b)))] })

noncomputable def L87 : LoopT := fun k => match Nat.beq k 100069 with
  | true => some (lccon (mbits 271 53) eL87 dL87 pL87 rL87)
  | false => LI87 k

theorem iL87 : ∀ x, dL87 (eL87 x) = x := by
  rintro ⟨N, f, a, b, i⟩
  simp only [eL87, dL87, Int.toNat_natCast, unS_rowS]

theorem kL87 (N : Nat) (f : Nat → List UInt8) (a : Nat) (b : Nat) (i : Nat) (h : a ≤ i ∧ i ≤ N + 1 ∧ b ≤ N ∧ N ≤ bnd ∧ Srt cmpV (seg f a i)) : isEn eL87 pL87 ([.row 0 1 0 N, .int .i64 a, .int .i64 b, .fn 8 [], .int .i64 i], [some (.row 1 N (rowS f))]) = true := isEn_true (enc := eL87) (p := pL87) ⟨N, f, a, b, i⟩ h

theorem zL87 (N : Nat) (f : Nat → List UInt8) (a : Nat) (b : Nat) (h : pL87 ⟨N, f, a, b, 0⟩) : isEn eL87 pL87 ([.row 0 1 0 N, .int .i64 a, .int .i64 b, .fn 8 [], .int .i64 (0 : Int)], [some (.row 1 N (rowS f))]) = true := isEn_true (enc := eL87) (p := pL87) ⟨N, f, a, b, 0⟩ h

theorem q87 (N : Nat) (f : Nat → List UInt8) (a : Nat) (b : Nat) (i : Nat) : (rdn tabD2 h87 L87 87 1 0 { tm := encGo (mbits 271 53) [.row 0 1 0 N, .int .i64 a, .int .i64 b, .fn 8 [], .int .i64 i], ms := [], hp := [some (.row 1 N (rowS f))] }).run =
  bif decide ((↑i : Int) < (↑b : Int)) then
   bif isEn eL87_1 pL87_1 ([AV.row 0 1 0 N, AV.int IntKind.i64 (↑a : Int), AV.int IntKind.i64 (↑b : Int), AV.fn 8 [], AV.int IntKind.i64 (↑i : Int), AV.int IntKind.i64 (↑i : Int)], [some (AObj.row 1 N (rowS f))]) then
    some ((AX.normal, { tm := tmOf 53 [(0, AV.row 0 1 0 N), (1, AV.int IntKind.i64 (↑(↑a : Int).toNat : Int)), (2, AV.int IntKind.i64 (↑(↑b : Int).toNat : Int)), (3, AV.fn 8 []), (8, AV.int IntKind.i64 (IntKind.i64.wrap ((↑(↑i : Int).toNat : Int) + (1 : Int))))], ms := [], hp := [some (AObj.row 1 N (rowS (bub cmpV (↑a : Int).toNat (↑i : Int).toNat (unS (rowS f))).fst))] }))
   else
    none
  else
   some ((AX.exit 0, { tm := tmOf 53 [(0, AV.row 0 1 0 N), (1, AV.int IntKind.i64 (↑a : Int)), (2, AV.int IntKind.i64 (↑b : Int)), (3, AV.fn 8 []), (8, AV.int IntKind.i64 (↑i : Int)), (14, AV.bool false)], ms := [], hp := [some (AObj.row 1 N (rowS f))] })) := by kernel_rfl

theorem l87 : LoopOk Tryd.prog tabD2.pf (fun n => hd Tryd.prog tabD2.pf tabD2.con.run (fun f => (H0 f).to) n 9) h87.to 87 1 none L87 (loopAt Tryd.prog 87 0) := by
  rw [show loopAt Tryd.prog 87 0 = .loop (lbody Tryd.prog 87 0) by kernel_rfl]
  refine loop_c (hdT_le (m := 20) 9) (m := 20) (lv := mbits 271 53) (p := pL87) (res := rL87) iL87 (within_of _ (by
      rw [show loopsOf (lbody Tryd.prog 87 0) = [loopAt Tryd.prog 87 1] by kernel_rfl]
      intro d hd
      simp only [List.mem_cons, List.not_mem_nil, or_false] at hd
      subst hd
      exact l87_1)) (by kernel_rfl) (fun ⟨N, f, a, b, i⟩ => b - i) ?_
  rintro ⟨N, f, a, b, i⟩ hp
  have ht := q87 N f a b i
  obtain ⟨h1, h2, h3, h4, h5⟩ := hp
  simp only [bnd] at h4
  by_cases hl : i < b
  · left
    rw [decide_eq_true (show (i : Int) < b by omega)] at ht
    rw [kL87_1 N f a b i i ⟨h1, by omega, by simp only [bnd]; omega⟩] at ht
    simp only [Int.toNat_natCast, unS_rowS, cond_true, w64n (show i < 9223372036854775807 by omega)] at ht
    obtain ⟨b1, b2⟩ := bub_ins cmpV_ord h1 h5
    refine ⟨⟨N, (bub cmpV a i f).1, a, b, i + 1⟩, ⟨by omega, by omega, h3, by simpa only [bnd] using h4, b2⟩, by simp only; omega, ?_, ht⟩
    simp only [rL87, T.run_leaf]
    rw [sortG_congr cmpV_ord (b1.wide (a' := a) (b' := b) (Nat.le_refl _) (by omega) (by omega)), show max (i + 1) b = max i b by omega]
  · right
    rw [decide_eq_false (by omega)] at ht
    refine ⟨_, ?_, ?_, ht⟩
    · simp
    · simp only [rL87, T.run_leaf, sortG_of cmpV_ord (EqS.refl a b f) (srt_sub h5 (Nat.le_refl _) (by omega)), show max i b = i by omega] <;> rfl

theorem t87 (N : Nat) (f : Nat → List UInt8) (a : Nat) (b : Nat) : (evn tabD2 h87 L87 87 [.row 0 1 0 N, .int .i64 a, .int .i64 b, .fn 8 []] [some (.row 1 N (rowS f))]).run =
  bif isEn eL87 pL87 ([AV.row 0 1 0 N, AV.int IntKind.i64 (↑a : Int), AV.int IntKind.i64 (↑b : Int), AV.fn 8 [], AV.int IntKind.i64 (IntKind.i64.wrap ((↑a : Int) + (1 : Int)))], [some (AObj.row 1 N (rowS f))]) then
   some ((AV.tup [], [some (AObj.row 1 N (rowS (sortG cmpV (unS (rowS f)) (↑a : Int).toNat (↑b : Int).toNat)))]))
  else
   none := by kernel_rfl

structure X87 where
  N : Nat
  f : Nat → List UInt8
  a : Nat
  b : Nat

def en87 : X87 → List AV × Hp := fun ⟨N, f, a, b⟩ => ([.row 0 1 0 N, .int .i64 a, .int .i64 b, .fn 8 []], [some (.row 1 N (rowS f))])

def de87 : List AV × Hp → X87
  | ([.row _ _ _ N, .int .i64 a, .int .i64 b, .fn _ _], [some (.row _ _ f_g)]) => ⟨N, unS f_g, a.toNat, b.toNat⟩
  | _ => ⟨default, default, default, default⟩

def p87 : X87 → Prop := fun ⟨N, f, a, b⟩ => a ≤ b ∧ b ≤ N ∧ N ≤ bnd

def rs87 : X87 → T (AV × Hp) := fun ⟨N, f, a, b⟩ => .leaf (.tup [], [some (.row 1 N (rowS (sortG cmpV f a b)))])

noncomputable def c87 : List AV → Hp → T (AV × Hp) := mcon en87 de87 p87 rs87

theorem in87 : ∀ x, de87 (en87 x) = x := by
  rintro ⟨N, f, a, b⟩
  simp only [en87, de87, Int.toNat_natCast, unS_rowS]

theorem k87 (N : Nat) (f : Nat → List UInt8) (a : Nat) (b : Nat) (h : a ≤ b ∧ b ≤ N ∧ N ≤ bnd) : isEn en87 p87 ([.row 0 1 0 N, .int .i64 a, .int .i64 b, .fn 8 []], [some (.row 1 N (rowS f))]) = true := isEn_true (enc := en87) (p := p87) ⟨N, f, a, b⟩ h

theorem e87 (N : Nat) (f : Nat → List UInt8) (a : Nat) (b : Nat) (hF : FitsL [.row 0 1 0 N, .int .i64 a, .int .i64 b, .fn 8 []]) (hH : FitsH [some (.row 1 N (rowS f))]) (hp : a ≤ b ∧ b ≤ N ∧ N ≤ bnd) : (evn tabD2 h87 L87 87 [.row 0 1 0 N, .int .i64 a, .int .i64 b, .fn 8 []] [some (.row 1 N (rowS f))]).run = (.leaf (.tup [], [some (.row 1 N (rowS (sortG cmpV f a b)))]) : T (AV × Hp)).run := by
  refine (t87 N f a b).trans ?_
  obtain ⟨h1, h2, h3⟩ := hp
  simp only [bnd] at h3
  rw [w64n (by omega)]
  refine (cond_chk (kL87 N f a b (a + 1) ⟨by omega, by omega, h2, by simp only [bnd]; omega, by rw [seg_one]; exact List.pairwise_singleton _ _⟩)).trans ?_
  rfl

theorem s87 : Sound1 Tryd.prog ⟨87, false, gcon c87⟩ := by
  refine sound_cm (soundTab_of all_tabD2) in87 (hn := h87) (m := 20) (k := 9) (Λ := L87) (fun _ _ => twoLoops (by kernel_rfl) l87 l87_1) ?_
  rintro ⟨N, f, a, b⟩ hp hF hH
  exact e87 N f a b hF hH hp

noncomputable def tabD3 : Tab := ⟨87, false, gcon c87⟩ :: tabD2

theorem all_tabD3 : ∀ e, e ∈ tabD3 → Sound1 Tryd.prog e := (sound_mem_tab s87 all_tabD2)

theorem ok_tabD3 : SoundTab Tryd.prog tabD3 := soundTab_of all_tabD3

/-! ### symMerge: the loops -/

def shr1 (n : Int) : Int := IntKind.i64.wrap ((IntKind.u64.wrap n).fdiv 2)

theorem shr1_nat {n : Nat} (h : n < 9223372036854775807) : IntKind.i64.wrap ((IntKind.u64.wrap (n : Int)).fdiv 2) = ((n / 2 : Nat) : Int) := by
  have e : IntKind.u64.wrap (n : Int) = n := by simp [IntKind.wrap, IntKind.bits, IntKind.signed]; omega
  rw [e, Int.fdiv_eq_ediv_of_nonneg _ (by omega), w64 (by omega) (by omega)]
  omega

def CA (f : Nat → List UInt8) (a h : Nat) : Bool := decide (cmpV (f h) (f a) < 0)

def CB (f : Nat → List UInt8) (m h : Nat) : Bool := !decide (cmpV (f m) (f h) < 0)

theorem shr_mid {i j : Nat} (h : i + j < 9223372036854775807) : IntKind.i64.wrap ((IntKind.u64.wrap (IntKind.i64.wrap ((i : Int) + (j : Int)))).fdiv 2) = (((i + j) / 2 : Nat) : Int) := by rw [w64a h, shr1_nat h]

structure X88 where
  N : Nat
  f : Nat → List UInt8
  a : Nat
  m : Nat
  b : Nat

def en88 : X88 → List AV × Hp := fun ⟨N, f, a, m, b⟩ => ([.row 0 1 0 N, .int .i64 a, .int .i64 m, .int .i64 b, .fn 8 []], [some (.row 1 N (rowS f))])

def de88 : List AV × Hp → X88
  | ([.row _ _ _ N, .int .i64 a, .int .i64 m, .int .i64 b, .fn _ _], [some (.row _ _ g)]) => ⟨N, unS g, a.toNat, m.toNat, b.toNat⟩
  | _ => ⟨0, fun _ => [], 0, 0, 0⟩

def p88 (K : Nat) : X88 → Prop := fun ⟨N, f, a, m, b⟩ => a < m ∧ m < b ∧ b ≤ N ∧ N ≤ 1152921504606846976 ∧ b - a ≤ K ∧ Srt cmpV (seg f a m) ∧ Srt cmpV (seg f m b)

noncomputable def rs88 : X88 → T (AV × Hp) := fun ⟨N, f, a, m, b⟩ => .leaf (.tup [], [some (.row 1 N (rowS (sortG cmpV f a b)))])

noncomputable def c88 (K : Nat) : List AV → Hp → T (AV × Hp) := mcon en88 de88 (p88 K) rs88

theorem in88 : ∀ x, de88 (en88 x) = x := by
  rintro ⟨N, f, a, m, b⟩
  simp only [en88, de88, Int.toNat_natCast, unS_rowS]

theorem k88 (K : Nat) (N : Nat) (f : Nat → List UInt8) (a m b : Nat) (h : a < m ∧ m < b ∧ b ≤ N ∧ N ≤ 1152921504606846976 ∧ b - a ≤ K ∧ Srt cmpV (seg f a m) ∧ Srt cmpV (seg f m b)) : isEn en88 (p88 K) ([.row 0 1 0 N, .int .i64 a, .int .i64 m, .int .i64 b, .fn 8 []], [some (.row 1 N (rowS f))]) = true := isEn_true (enc := en88) (p := p88 K) ⟨N, f, a, m, b⟩ h

noncomputable def tabD4 (K : Nat) : Tab := ⟨88, false, gcon (c88 K)⟩ :: tabD3

structure Y88 where
  N : Nat
  f : Nat → List UInt8
  a : Nat
  i : Nat
  j : Nat

def eL88 : Y88 → List AV × Hp := fun ⟨N, f, a, i, j⟩ => ([.row 0 1 0 N, .int .i64 a, .fn 8 [], .int .i64 i, .int .i64 j], [some (.row 1 N (rowS f))])

def dL88 : List AV × Hp → Y88
  | ([.row _ _ _ N, .int .i64 a, .fn _ _, .int .i64 i, .int .i64 j], [some (.row _ _ f_g)]) => ⟨N, unS f_g, a.toNat, i.toNat, j.toNat⟩
  | _ => ⟨default, default, default, default, default⟩

def pL88 : Y88 → Prop := fun ⟨N, f, a, i, j⟩ => i ≤ j ∧ j ≤ N ∧ a < N ∧ N ≤ 1152921504606846976

def rL88 : Y88 → T (AX × St) := fun ⟨N, f, a, i, j⟩ => .leaf (.exit 0, { tm := tmOf 220 [(0, .row 0 1 0 N), (1, .int .i64 a), (4, .fn 8 []), (10, .int .i64 (bsN (CA f a) (j - i) i j)), (11, .int .i64 (bsN (CA f a) (j - i) i j)), (33, .bool false)], ms := [], hp := [some (.row 1 N (rowS f))] })

noncomputable def LA88 : LoopT := fun k => match Nat.beq k 300040 with
  | true => some (lccon (mbits 3091 220) eL88 dL88 pL88 rL88)
  | false => none

theorem iL88 : ∀ x, dL88 (eL88 x) = x := by
  rintro ⟨N, f, a, i, j⟩
  simp only [eL88, dL88, Int.toNat_natCast, unS_rowS]

theorem kL88 (N : Nat) (f : Nat → List UInt8) (a : Nat) (i : Nat) (j : Nat) (h : i ≤ j ∧ j ≤ N ∧ a < N ∧ N ≤ 1152921504606846976) : isEn eL88 pL88 ([.row 0 1 0 N, .int .i64 a, .fn 8 [], .int .i64 i, .int .i64 j], [some (.row 1 N (rowS f))]) = true := isEn_true (enc := eL88) (p := pL88) ⟨N, f, a, i, j⟩ h

theorem zL88 (N : Nat) (f : Nat → List UInt8) (a : Nat) (i : Nat) (h : pL88 ⟨N, f, a, i, 0⟩) : isEn eL88 pL88 ([.row 0 1 0 N, .int .i64 a, .fn 8 [], .int .i64 i, .int .i64 (0 : Int)], [some (.row 1 N (rowS f))]) = true := isEn_true (enc := eL88) (p := pL88) ⟨N, f, a, i, 0⟩ h

theorem q88 (K : Nat) (N : Nat) (f : Nat → List UInt8) (a : Nat) (i : Nat) (j : Nat) : (rdn (tabD4 K) h88 LA88 88 1 0 { tm := encGo (mbits 3091 220) [.row 0 1 0 N, .int .i64 a, .fn 8 [], .int .i64 i, .int .i64 j], ms := [], hp := [some (.row 1 N (rowS f))] }).run =
  bif decide ((↑i : Int) < (↑j : Int)) then
   bif decide ((0 : Int) ≤ IntKind.i64.wrap ((IntKind.u64.wrap (IntKind.i64.wrap ((↑i : Int) + (↑j : Int)))).fdiv (2 : Int)) ∧ IntKind.i64.wrap ((IntKind.u64.wrap (IntKind.i64.wrap ((↑i : Int) + (↑j : Int)))).fdiv (2 : Int)) < (↑N : Int)) then
    bif decide (0 + (IntKind.i64.wrap ((IntKind.u64.wrap (IntKind.i64.wrap ((↑i : Int) + (↑j : Int)))).fdiv (2 : Int))).toNat < N) then
     bif decide ((0 : Int) ≤ (↑a : Int) ∧ (↑a : Int) < (↑N : Int)) then
      bif decide (0 + (↑a : Int).toNat < N) then
       bif decide (cmpV (f (0 + (IntKind.i64.wrap ((IntKind.u64.wrap (IntKind.i64.wrap ((↑i : Int) + (↑j : Int)))).fdiv (2 : Int))).toNat)) (f (0 + (↑a : Int).toNat)) < (0 : Int)) then
        some ((AX.normal, { tm := tmOf 220 [(0, AV.row 0 1 0 N), (1, AV.int IntKind.i64 (↑a : Int)), (4, AV.fn 8 []), (10, AV.int IntKind.i64 (IntKind.i64.wrap (IntKind.i64.wrap ((IntKind.u64.wrap (IntKind.i64.wrap ((↑i : Int) + (↑j : Int)))).fdiv (2 : Int)) + (1 : Int)))), (11, AV.int IntKind.i64 (↑j : Int))], ms := [], hp := [some (AObj.row 1 N (rowS f))] }))
       else
        some ((AX.normal, { tm := tmOf 220 [(0, AV.row 0 1 0 N), (1, AV.int IntKind.i64 (↑a : Int)), (4, AV.fn 8 []), (10, AV.int IntKind.i64 (↑i : Int)), (11, AV.int IntKind.i64 (IntKind.i64.wrap ((IntKind.u64.wrap (IntKind.i64.wrap ((↑i : Int) + (↑j : Int)))).fdiv (2 : Int))))], ms := [], hp := [some (AObj.row 1 N (rowS f))] }))
      else
       none
     else
      none
    else
     none
   else
    none
  else
   some ((AX.exit 0, { tm := tmOf 220 [(0, AV.row 0 1 0 N), (1, AV.int IntKind.i64 (↑a : Int)), (4, AV.fn 8 []), (10, AV.int IntKind.i64 (↑i : Int)), (11, AV.int IntKind.i64 (↑j : Int)), (33, AV.bool false)], ms := [], hp := [some (AObj.row 1 N (rowS f))] })) := by kernel_rfl

theorem l88 (K : Nat) : LoopOk Tryd.prog (tabD4 K).pf (fun n => hd Tryd.prog (tabD4 K).pf (tabD4 K).con.run (fun f => (H0 f).to) n 9) h88.to 88 1 none LA88 (loopAt Tryd.prog 88 0) := by
  rw [show loopAt Tryd.prog 88 0 = .loop (lbody Tryd.prog 88 0) by kernel_rfl]
  refine loop_c (hdT_le (m := 20) 9) (m := 20) (lv := mbits 3091 220) (p := pL88) (res := rL88) iL88 (within_of _ (by rw [show loopsOf (lbody Tryd.prog 88 0) = [] by kernel_rfl]; simp)) (by kernel_rfl) (fun ⟨N, f, a, i, j⟩ => j - i) ?_
  rintro ⟨N, f, a, i, j⟩ hp
  have ht := q88 K N f a i j
  obtain ⟨h1, h2, h3, h4⟩ := hp
  by_cases hl : i < j
  · have hb := bsN_step (C := CA f a) hl
    have hm : (i + j) / 2 < N := by omega
    rw [decide_eq_true (show (i : Int) < j by omega), shr_mid (show i + j < 9223372036854775807 by omega), in_row hm, in_row h3] at ht
    simp only [Int.toNat_natCast, Nat.zero_add, cond_true, decide_eq_true hm, decide_eq_true h3] at ht
    left
    cases hc : CA f a ((i + j) / 2) with
    | true =>
      rw [show decide (cmpV (f ((i + j) / 2)) (f a) < 0) = true from hc, w64n (by omega)] at ht
      rw [hc, cond_true] at hb
      refine ⟨⟨N, f, a, (i + j) / 2 + 1, j⟩, ⟨by omega, h2, h3, h4⟩, by simp only; omega, ?_, ht⟩
      simp only [rL88, T.run_leaf, hb]
    | false =>
      rw [show decide (cmpV (f ((i + j) / 2)) (f a) < 0) = false from hc] at ht
      rw [hc, cond_false] at hb
      refine ⟨⟨N, f, a, i, (i + j) / 2⟩, ⟨by omega, by omega, h3, h4⟩, by simp only; omega, ?_, ht⟩
      simp only [rL88, T.run_leaf, hb]
  · obtain rfl : i = j := by omega
    right
    rw [decide_eq_false (by omega)] at ht
    refine ⟨_, ?_, ?_, ht⟩
    · simp
    · simp only [rL88, T.run_leaf, bsN_end (Nat.le_refl _)] <;> rfl

structure Y88_1 where
  N : Nat
  f : Nat → List UInt8
  i : Nat
  k : Nat

def eL88_1 : Y88_1 → List AV × Hp := fun ⟨N, f, i, k⟩ => ([.row 0 1 0 N, .int .i64 i, .int .i64 k], [some (.row 1 N (rowS f))])

def dL88_1 : List AV × Hp → Y88_1
  | ([.row _ _ _ N, .int .i64 i, .int .i64 k], [some (.row _ _ f_g)]) => ⟨N, unS f_g, i.toNat, k.toNat⟩
  | _ => ⟨default, default, default, default⟩

def pL88_1 : Y88_1 → Prop := fun ⟨N, f, i, k⟩ => k + 1 ≤ i ∧ i ≤ N ∧ N ≤ 1152921504606846976

def rL88_1 : Y88_1 → T (AX × St) := fun ⟨N, f, i, k⟩ => .leaf (.exit 2, { tm := tmOf 220 [(0, .row 0 1 0 N), (10, .int .i64 i), (13, .int .i64 (i - 1 : Nat)), (58, .bool false)], ms := [], hp := [some (.row 1 N (rowS (rotR f k (k + 1) i)))] })

noncomputable def LB88 : LoopT := fun k => match Nat.beq k 900035 with
  | true => some (lccon (mbits 9217 220) eL88_1 dL88_1 pL88_1 rL88_1)
  | false => LA88 k

theorem iL88_1 : ∀ x, dL88_1 (eL88_1 x) = x := by
  rintro ⟨N, f, i, k⟩
  simp only [eL88_1, dL88_1, Int.toNat_natCast, unS_rowS]

theorem kL88_1 (N : Nat) (f : Nat → List UInt8) (i : Nat) (k : Nat) (h : k + 1 ≤ i ∧ i ≤ N ∧ N ≤ 1152921504606846976) : isEn eL88_1 pL88_1 ([.row 0 1 0 N, .int .i64 i, .int .i64 k], [some (.row 1 N (rowS f))]) = true := isEn_true (enc := eL88_1) (p := pL88_1) ⟨N, f, i, k⟩ h

theorem zL88_1 (N : Nat) (f : Nat → List UInt8) (i : Nat) (h : pL88_1 ⟨N, f, i, 0⟩) : isEn eL88_1 pL88_1 ([.row 0 1 0 N, .int .i64 i, .int .i64 (0 : Int)], [some (.row 1 N (rowS f))]) = true := isEn_true (enc := eL88_1) (p := pL88_1) ⟨N, f, i, 0⟩ h

theorem q88_1 (K : Nat) (N : Nat) (f : Nat → List UInt8) (i : Nat) (k : Nat) : (rdn (tabD4 K) h88 LB88 88 1 1 { tm := encGo (mbits 9217 220) [.row 0 1 0 N, .int .i64 i, .int .i64 k], ms := [], hp := [some (.row 1 N (rowS f))] }).run =
  bif decide ((↑k : Int) < IntKind.i64.wrap ((↑i : Int) - (1 : Int))) then
   bif decide ((0 : Int) ≤ IntKind.i64.wrap ((↑k : Int) + (1 : Int)) ∧ IntKind.i64.wrap ((↑k : Int) + (1 : Int)) < (↑N : Int)) then
    bif decide (0 + (IntKind.i64.wrap ((↑k : Int) + (1 : Int))).toNat < N) then
     bif decide ((0 : Int) ≤ (↑k : Int) ∧ (↑k : Int) < (↑N : Int)) then
      bif decide (0 + (↑k : Int).toNat < N) then
       bif decide ((0 : Int) ≤ (↑k : Int) ∧ (↑k : Int) < (↑N : Int)) then
        bif decide (0 + (↑k : Int).toNat < N) then
         bif decide ((0 : Int) ≤ IntKind.i64.wrap ((↑k : Int) + (1 : Int)) ∧ IntKind.i64.wrap ((↑k : Int) + (1 : Int)) < (↑N : Int)) then
          bif decide (0 + (IntKind.i64.wrap ((↑k : Int) + (1 : Int))).toNat < N) then
           some ((AX.normal, { tm := tmOf 220 [(0, AV.row 0 1 0 N), (10, AV.int IntKind.i64 (↑i : Int)), (13, AV.int IntKind.i64 (IntKind.i64.wrap ((↑k : Int) + (1 : Int))))], ms := [], hp := [some (AObj.row 1 N (updf 1 (updf 1 (rowS f) (0 + (↑k : Int).toNat) 0 [AV.str (f (0 + (IntKind.i64.wrap ((↑k : Int) + (1 : Int))).toNat))]) (0 + (IntKind.i64.wrap ((↑k : Int) + (1 : Int))).toNat) 0 [AV.str (f (0 + (↑k : Int).toNat))]))] }))
          else
           none
         else
          none
        else
         none
       else
        none
      else
       none
     else
      none
    else
     none
   else
    none
  else
   some ((AX.exit 2, { tm := tmOf 220 [(0, AV.row 0 1 0 N), (10, AV.int IntKind.i64 (↑i : Int)), (13, AV.int IntKind.i64 (↑k : Int)), (58, AV.bool false)], ms := [], hp := [some (AObj.row 1 N (rowS f))] })) := by kernel_rfl

theorem l88_1 (K : Nat) : LoopOk Tryd.prog (tabD4 K).pf (fun n => hd Tryd.prog (tabD4 K).pf (tabD4 K).con.run (fun f => (H0 f).to) n 9) h88.to 88 1 none LB88 (loopAt Tryd.prog 88 1) := by
  rw [show loopAt Tryd.prog 88 1 = .loop (lbody Tryd.prog 88 1) by kernel_rfl]
  refine loop_c (hdT_le (m := 20) 9) (m := 20) (lv := mbits 9217 220) (p := pL88_1) (res := rL88_1) iL88_1 (within_of _ (by rw [show loopsOf (lbody Tryd.prog 88 1) = [] by kernel_rfl]; simp)) (by kernel_rfl) (fun ⟨N, f, i, k⟩ => i - k) ?_
  rintro ⟨N, f, i, k⟩ hp
  have ht := q88_1 K N f i k
  obtain ⟨h1, h2, h3⟩ := hp
  rw [show IntKind.i64.wrap ((i : Int) - 1) = ((i - 1 : Nat) : Int) by rw [w64 (by omega) (by omega)]; omega] at ht
  by_cases hl : k + 1 < i
  · left
    rw [decide_eq_true (show (k : Int) < (i - 1 : Nat) by omega), w64n (by omega), in_row (show k < N by omega), in_row (show k + 1 < N by omega)] at ht
    simp only [Int.toNat_natCast, Nat.zero_add, cond_true, decide_eq_true (show k < N by omega), decide_eq_true (show k + 1 < N by omega), updS2] at ht
    refine ⟨⟨N, sw f k (k + 1), i, k + 1⟩, ⟨by omega, h2, h3⟩, by simp only; omega, ?_, ht⟩
    simp only [rL88_1, T.run_leaf, rot_up hl]
  · obtain rfl : i = k + 1 := by omega
    right
    rw [decide_eq_false (by omega)] at ht
    refine ⟨_, ?_, ?_, ht⟩
    · simp
    · simp only [rL88_1, T.run_leaf, rotR_same (f := f) (a := k) (m := k + 1) (b := k + 1) (.inr rfl) (by omega) (by omega), Nat.add_sub_cancel] <;> rfl

structure Y88_2 where
  N : Nat
  f : Nat → List UInt8
  m : Nat
  i : Nat
  j : Nat

def eL88_2 : Y88_2 → List AV × Hp := fun ⟨N, f, m, i, j⟩ => ([.row 0 1 0 N, .int .i64 m, .fn 8 [], .int .i64 i, .int .i64 j], [some (.row 1 N (rowS f))])

def dL88_2 : List AV × Hp → Y88_2
  | ([.row _ _ _ N, .int .i64 m, .fn _ _, .int .i64 i, .int .i64 j], [some (.row _ _ f_g)]) => ⟨N, unS f_g, m.toNat, i.toNat, j.toNat⟩
  | _ => ⟨default, default, default, default, default⟩

def pL88_2 : Y88_2 → Prop := fun ⟨N, f, m, i, j⟩ => i ≤ j ∧ j ≤ N ∧ m < N ∧ N ≤ 1152921504606846976

def rL88_2 : Y88_2 → T (AX × St) := fun ⟨N, f, m, i, j⟩ => .leaf (.exit 4, { tm := tmOf 220 [(0, .row 0 1 0 N), (2, .int .i64 m), (4, .fn 8 []), (14, .int .i64 (bsN (CB f m) (j - i) i j)), (15, .int .i64 (bsN (CB f m) (j - i) i j)), (85, .bool false)], ms := [], hp := [some (.row 1 N (rowS f))] })

noncomputable def LC88 : LoopT := fun k => match Nat.beq k 1500041 with
  | true => some (lccon (mbits 49173 220) eL88_2 dL88_2 pL88_2 rL88_2)
  | false => LB88 k

theorem iL88_2 : ∀ x, dL88_2 (eL88_2 x) = x := by
  rintro ⟨N, f, m, i, j⟩
  simp only [eL88_2, dL88_2, Int.toNat_natCast, unS_rowS]

theorem kL88_2 (N : Nat) (f : Nat → List UInt8) (m : Nat) (i : Nat) (j : Nat) (h : i ≤ j ∧ j ≤ N ∧ m < N ∧ N ≤ 1152921504606846976) : isEn eL88_2 pL88_2 ([.row 0 1 0 N, .int .i64 m, .fn 8 [], .int .i64 i, .int .i64 j], [some (.row 1 N (rowS f))]) = true := isEn_true (enc := eL88_2) (p := pL88_2) ⟨N, f, m, i, j⟩ h

theorem zL88_2 (N : Nat) (f : Nat → List UInt8) (m : Nat) (i : Nat) (h : pL88_2 ⟨N, f, m, i, 0⟩) : isEn eL88_2 pL88_2 ([.row 0 1 0 N, .int .i64 m, .fn 8 [], .int .i64 i, .int .i64 (0 : Int)], [some (.row 1 N (rowS f))]) = true := isEn_true (enc := eL88_2) (p := pL88_2) ⟨N, f, m, i, 0⟩ h

theorem q88_2 (K : Nat) (N : Nat) (f : Nat → List UInt8) (m : Nat) (i : Nat) (j : Nat) : (rdn (tabD4 K) h88 LC88 88 1 2 { tm := encGo (mbits 49173 220) [.row 0 1 0 N, .int .i64 m, .fn 8 [], .int .i64 i, .int .i64 j], ms := [], hp := [some (.row 1 N (rowS f))] }).run =
  bif decide ((↑i : Int) < (↑j : Int)) then
   bif decide ((0 : Int) ≤ (↑m : Int) ∧ (↑m : Int) < (↑N : Int)) then
    bif decide (0 + (↑m : Int).toNat < N) then
     bif decide ((0 : Int) ≤ IntKind.i64.wrap ((IntKind.u64.wrap (IntKind.i64.wrap ((↑i : Int) + (↑j : Int)))).fdiv (2 : Int)) ∧ IntKind.i64.wrap ((IntKind.u64.wrap (IntKind.i64.wrap ((↑i : Int) + (↑j : Int)))).fdiv (2 : Int)) < (↑N : Int)) then
      bif decide (0 + (IntKind.i64.wrap ((IntKind.u64.wrap (IntKind.i64.wrap ((↑i : Int) + (↑j : Int)))).fdiv (2 : Int))).toNat < N) then
       bif !decide (cmpV (f (0 + (↑m : Int).toNat)) (f (0 + (IntKind.i64.wrap ((IntKind.u64.wrap (IntKind.i64.wrap ((↑i : Int) + (↑j : Int)))).fdiv (2 : Int))).toNat)) < (0 : Int)) then
        some ((AX.normal, { tm := tmOf 220 [(0, AV.row 0 1 0 N), (2, AV.int IntKind.i64 (↑m : Int)), (4, AV.fn 8 []), (14, AV.int IntKind.i64 (IntKind.i64.wrap (IntKind.i64.wrap ((IntKind.u64.wrap (IntKind.i64.wrap ((↑i : Int) + (↑j : Int)))).fdiv (2 : Int)) + (1 : Int)))), (15, AV.int IntKind.i64 (↑j : Int))], ms := [], hp := [some (AObj.row 1 N (rowS f))] }))
       else
        some ((AX.normal, { tm := tmOf 220 [(0, AV.row 0 1 0 N), (2, AV.int IntKind.i64 (↑m : Int)), (4, AV.fn 8 []), (14, AV.int IntKind.i64 (↑i : Int)), (15, AV.int IntKind.i64 (IntKind.i64.wrap ((IntKind.u64.wrap (IntKind.i64.wrap ((↑i : Int) + (↑j : Int)))).fdiv (2 : Int))))], ms := [], hp := [some (AObj.row 1 N (rowS f))] }))
      else
       none
     else
      none
    else
     none
   else
    none
  else
   some ((AX.exit 4, { tm := tmOf 220 [(0, AV.row 0 1 0 N), (2, AV.int IntKind.i64 (↑m : Int)), (4, AV.fn 8 []), (14, AV.int IntKind.i64 (↑i : Int)), (15, AV.int IntKind.i64 (↑j : Int)), (85, AV.bool false)], ms := [], hp := [some (AObj.row 1 N (rowS f))] })) := by kernel_rfl

theorem l88_2 (K : Nat) : LoopOk Tryd.prog (tabD4 K).pf (fun n => hd Tryd.prog (tabD4 K).pf (tabD4 K).con.run (fun f => (H0 f).to) n 9) h88.to 88 1 none LC88 (loopAt Tryd.prog 88 2) := by
  rw [show loopAt Tryd.prog 88 2 = .loop (lbody Tryd.prog 88 2) by kernel_rfl]
  refine loop_c (hdT_le (m := 20) 9) (m := 20) (lv := mbits 49173 220) (p := pL88_2) (res := rL88_2) iL88_2 (within_of _ (by rw [show loopsOf (lbody Tryd.prog 88 2) = [] by kernel_rfl]; simp)) (by kernel_rfl) (fun ⟨N, f, m, i, j⟩ => j - i) ?_
  rintro ⟨N, f, m, i, j⟩ hp
  have ht := q88_2 K N f m i j
  obtain ⟨h1, h2, h3, h4⟩ := hp
  by_cases hl : i < j
  · have hb := bsN_step (C := CB f m) hl
    have hm : (i + j) / 2 < N := by omega
    rw [decide_eq_true (show (i : Int) < j by omega), shr_mid (show i + j < 9223372036854775807 by omega), in_row hm, in_row h3] at ht
    simp only [Int.toNat_natCast, Nat.zero_add, cond_true, decide_eq_true hm, decide_eq_true h3] at ht
    left
    cases hc : CB f m ((i + j) / 2) with
    | true =>
      rw [show (!decide (cmpV (f m) (f ((i + j) / 2)) < 0)) = true from hc, w64n (by omega)] at ht
      rw [hc, cond_true] at hb
      refine ⟨⟨N, f, m, (i + j) / 2 + 1, j⟩, ⟨by omega, h2, h3, h4⟩, by simp only; omega, ?_, ht⟩
      simp only [rL88_2, T.run_leaf, hb]
    | false =>
      rw [show (!decide (cmpV (f m) (f ((i + j) / 2)) < 0)) = false from hc] at ht
      rw [hc, cond_false] at hb
      refine ⟨⟨N, f, m, i, (i + j) / 2⟩, ⟨by omega, by omega, h3, h4⟩, by simp only; omega, ?_, ht⟩
      simp only [rL88_2, T.run_leaf, hb]
  · obtain rfl : i = j := by omega
    right
    rw [decide_eq_false (by omega)] at ht
    refine ⟨_, ?_, ?_, ht⟩
    · simp
    · simp only [rL88_2, T.run_leaf, bsN_end (Nat.le_refl _)] <;> rfl

structure Y88_3 where
  N : Nat
  f : Nat → List UInt8
  i : Nat
  k : Nat

def eL88_3 : Y88_3 → List AV × Hp := fun ⟨N, f, i, k⟩ => ([.row 0 1 0 N, .int .i64 i, .int .i64 k], [some (.row 1 N (rowS f))])

def dL88_3 : List AV × Hp → Y88_3
  | ([.row _ _ _ N, .int .i64 i, .int .i64 k], [some (.row _ _ f_g)]) => ⟨N, unS f_g, i.toNat, k.toNat⟩
  | _ => ⟨default, default, default, default⟩

def pL88_3 : Y88_3 → Prop := fun ⟨N, f, i, k⟩ => i ≤ k ∧ k < N ∧ N ≤ 1152921504606846976

def rL88_3 : Y88_3 → T (AX × St) := fun ⟨N, f, i, k⟩ => .leaf (.exit 6, { tm := tmOf 220 [(0, .row 0 1 0 N), (14, .int .i64 i), (17, .int .i64 i), (110, .bool false)], ms := [], hp := [some (.row 1 N (rowS (rotR f i k (k + 1))))] })

noncomputable def LD88 : LoopT := fun k => match Nat.beq k 2100034 with
  | true => some (lccon (mbits 147457 220) eL88_3 dL88_3 pL88_3 rL88_3)
  | false => LC88 k

theorem iL88_3 : ∀ x, dL88_3 (eL88_3 x) = x := by
  rintro ⟨N, f, i, k⟩
  simp only [eL88_3, dL88_3, Int.toNat_natCast, unS_rowS]

theorem kL88_3 (N : Nat) (f : Nat → List UInt8) (i : Nat) (k : Nat) (h : i ≤ k ∧ k < N ∧ N ≤ 1152921504606846976) : isEn eL88_3 pL88_3 ([.row 0 1 0 N, .int .i64 i, .int .i64 k], [some (.row 1 N (rowS f))]) = true := isEn_true (enc := eL88_3) (p := pL88_3) ⟨N, f, i, k⟩ h

theorem zL88_3 (N : Nat) (f : Nat → List UInt8) (i : Nat) (h : pL88_3 ⟨N, f, i, 0⟩) : isEn eL88_3 pL88_3 ([.row 0 1 0 N, .int .i64 i, .int .i64 (0 : Int)], [some (.row 1 N (rowS f))]) = true := isEn_true (enc := eL88_3) (p := pL88_3) ⟨N, f, i, 0⟩ h

theorem q88_3 (K : Nat) (N : Nat) (f : Nat → List UInt8) (i : Nat) (k : Nat) : (rdn (tabD4 K) h88 LD88 88 1 3 { tm := encGo (mbits 147457 220) [.row 0 1 0 N, .int .i64 i, .int .i64 k], ms := [], hp := [some (.row 1 N (rowS f))] }).run =
  bif decide ((↑k : Int) > (↑i : Int)) then
   bif decide ((0 : Int) ≤ IntKind.i64.wrap ((↑k : Int) - (1 : Int)) ∧ IntKind.i64.wrap ((↑k : Int) - (1 : Int)) < (↑N : Int)) then
    bif decide (0 + (IntKind.i64.wrap ((↑k : Int) - (1 : Int))).toNat < N) then
     bif decide ((0 : Int) ≤ (↑k : Int) ∧ (↑k : Int) < (↑N : Int)) then
      bif decide (0 + (↑k : Int).toNat < N) then
       bif decide ((0 : Int) ≤ (↑k : Int) ∧ (↑k : Int) < (↑N : Int)) then
        bif decide (0 + (↑k : Int).toNat < N) then
         bif decide ((0 : Int) ≤ IntKind.i64.wrap ((↑k : Int) - (1 : Int)) ∧ IntKind.i64.wrap ((↑k : Int) - (1 : Int)) < (↑N : Int)) then
          bif decide (0 + (IntKind.i64.wrap ((↑k : Int) - (1 : Int))).toNat < N) then
           some ((AX.normal, { tm := tmOf 220 [(0, AV.row 0 1 0 N), (14, AV.int IntKind.i64 (↑i : Int)), (17, AV.int IntKind.i64 (IntKind.i64.wrap ((↑k : Int) - (1 : Int))))], ms := [], hp := [some (AObj.row 1 N (updf 1 (updf 1 (rowS f) (0 + (↑k : Int).toNat) 0 [AV.str (f (0 + (IntKind.i64.wrap ((↑k : Int) - (1 : Int))).toNat))]) (0 + (IntKind.i64.wrap ((↑k : Int) - (1 : Int))).toNat) 0 [AV.str (f (0 + (↑k : Int).toNat))]))] }))
          else
           none
         else
          none
        else
         none
       else
        none
      else
       none
     else
      none
    else
     none
   else
    none
  else
   some ((AX.exit 6, { tm := tmOf 220 [(0, AV.row 0 1 0 N), (14, AV.int IntKind.i64 (↑i : Int)), (17, AV.int IntKind.i64 (↑k : Int)), (110, AV.bool false)], ms := [], hp := [some (AObj.row 1 N (rowS f))] })) := by kernel_rfl

theorem l88_3 (K : Nat) : LoopOk Tryd.prog (tabD4 K).pf (fun n => hd Tryd.prog (tabD4 K).pf (tabD4 K).con.run (fun f => (H0 f).to) n 9) h88.to 88 1 none LD88 (loopAt Tryd.prog 88 3) := by
  rw [show loopAt Tryd.prog 88 3 = .loop (lbody Tryd.prog 88 3) by kernel_rfl]
  refine loop_c (hdT_le (m := 20) 9) (m := 20) (lv := mbits 147457 220) (p := pL88_3) (res := rL88_3) iL88_3 (within_of _ (by rw [show loopsOf (lbody Tryd.prog 88 3) = [] by kernel_rfl]; simp)) (by kernel_rfl) (fun ⟨N, f, i, k⟩ => k - i) ?_
  rintro ⟨N, f, i, k⟩ hp
  have ht := q88_3 K N f i k
  obtain ⟨h1, h2, h3⟩ := hp
  by_cases hl : i < k
  · obtain ⟨k, rfl⟩ : ∃ q, k = q + 1 := ⟨k - 1, by omega⟩
    left
    rw [decide_eq_true (show ((k + 1 : Nat) : Int) > i by omega), show IntKind.i64.wrap (((k + 1 : Nat) : Int) - 1) = (k : Nat) by rw [w64 (by omega) (by omega)]; omega, in_row h2, in_row (show k < N by omega)] at ht
    simp only [Int.toNat_natCast, Nat.zero_add, cond_true, decide_eq_true (show k < N by omega), decide_eq_true h2, updS2] at ht
    refine ⟨⟨N, sw f (k + 1) k, i, k⟩, ⟨by omega, by omega, h3⟩, by simp only; omega, ?_, ht⟩
    simp only [rL88_3, T.run_leaf, rot_dn (show i ≤ k by omega)]
  · obtain rfl : i = k := by omega
    right
    rw [decide_eq_false (by omega)] at ht
    refine ⟨_, ?_, ?_, ht⟩
    · simp
    · simp only [rL88_3, T.run_leaf, rotR_same (f := f) (a := i) (m := i) (b := i + 1) (.inl rfl) (by omega) (by omega)] <;> rfl

structure Y88_4 where
  N : Nat
  f : Nat → List UInt8
  a : Nat
  m : Nat
  b : Nat
  mid : Nat
  n : Nat
  s : Nat
  r : Nat
  p : Nat

def eL88_4 : Y88_4 → List AV × Hp := fun ⟨N, f, a, m, b, mid, n, s, r, p⟩ => ([.row 0 1 0 N, .int .i64 a, .int .i64 m, .int .i64 b, .fn 8 [], .int .i64 mid, .int .i64 n, .int .i64 s, .int .i64 r, .int .i64 p], [some (.row 1 N (rowS f))])

def dL88_4 : List AV × Hp → Y88_4
  | ([.row _ _ _ N, .int .i64 a, .int .i64 m, .int .i64 b, .fn _ _, .int .i64 mid, .int .i64 n, .int .i64 s, .int .i64 r, .int .i64 p], [some (.row _ _ f_g)]) => ⟨N, unS f_g, a.toNat, m.toNat, b.toNat, mid.toNat, n.toNat, s.toNat, r.toNat, p.toNat⟩
  | _ => ⟨default, default, default, default, default, default, default, default, default, default⟩

def pL88_4 : Y88_4 → Prop := fun ⟨N, f, a, m, b, mid, n, s, r, p⟩ => s ≤ r ∧ r ≤ N ∧ r ≤ p + 1 ∧ p < N + s ∧ N ≤ 1152921504606846976

def rL88_4 : Y88_4 → T (AX × St) := fun ⟨N, f, a, m, b, mid, n, s, r, p⟩ => .leaf (.exit 8, { tm := tmOf 220 [(0, .row 0 1 0 N), (1, .int .i64 a), (2, .int .i64 m), (3, .int .i64 b), (4, .fn 8 []), (18, .int .i64 mid), (19, .int .i64 n), (20, .int .i64 (bsN (cutC cmpV f p) (r - s) s r)), (21, .int .i64 (bsN (cutC cmpV f p) (r - s) s r)), (22, .int .i64 p), (151, .bool false)], ms := [], hp := [some (.row 1 N (rowS f))] })

noncomputable def LE88 : LoopT := fun k => match Nat.beq k 3300043 with
  | true => some (lccon (mbits 8126495 220) eL88_4 dL88_4 pL88_4 rL88_4)
  | false => LD88 k

theorem iL88_4 : ∀ x, dL88_4 (eL88_4 x) = x := by
  rintro ⟨N, f, a, m, b, mid, n, s, r, p⟩
  simp only [eL88_4, dL88_4, Int.toNat_natCast, unS_rowS]

theorem kL88_4 (N : Nat) (f : Nat → List UInt8) (a : Nat) (m : Nat) (b : Nat) (mid : Nat) (n : Nat) (s : Nat) (r : Nat) (p : Nat) (h : s ≤ r ∧ r ≤ N ∧ r ≤ p + 1 ∧ p < N + s ∧ N ≤ 1152921504606846976) : isEn eL88_4 pL88_4 ([.row 0 1 0 N, .int .i64 a, .int .i64 m, .int .i64 b, .fn 8 [], .int .i64 mid, .int .i64 n, .int .i64 s, .int .i64 r, .int .i64 p], [some (.row 1 N (rowS f))]) = true := isEn_true (enc := eL88_4) (p := pL88_4) ⟨N, f, a, m, b, mid, n, s, r, p⟩ h

theorem zL88_4 (N : Nat) (f : Nat → List UInt8) (a : Nat) (m : Nat) (b : Nat) (mid : Nat) (n : Nat) (s : Nat) (r : Nat) (h : pL88_4 ⟨N, f, a, m, b, mid, n, s, r, 0⟩) : isEn eL88_4 pL88_4 ([.row 0 1 0 N, .int .i64 a, .int .i64 m, .int .i64 b, .fn 8 [], .int .i64 mid, .int .i64 n, .int .i64 s, .int .i64 r, .int .i64 (0 : Int)], [some (.row 1 N (rowS f))]) = true := isEn_true (enc := eL88_4) (p := pL88_4) ⟨N, f, a, m, b, mid, n, s, r, 0⟩ h

theorem q88_4 (K : Nat) (N : Nat) (f : Nat → List UInt8) (a : Nat) (m : Nat) (b : Nat) (mid : Nat) (n : Nat) (s : Nat) (r : Nat) (p : Nat) : (rdn (tabD4 K) h88 LE88 88 1 4 { tm := encGo (mbits 8126495 220) [.row 0 1 0 N, .int .i64 a, .int .i64 m, .int .i64 b, .fn 8 [], .int .i64 mid, .int .i64 n, .int .i64 s, .int .i64 r, .int .i64 p], ms := [], hp := [some (.row 1 N (rowS f))] }).run =
  bif decide ((↑s : Int) < (↑r : Int)) then
   bif decide ((0 : Int) ≤ IntKind.i64.wrap ((↑p : Int) - IntKind.i64.wrap ((IntKind.u64.wrap (IntKind.i64.wrap ((↑s : Int) + (↑r : Int)))).fdiv (2 : Int))) ∧ IntKind.i64.wrap ((↑p : Int) - IntKind.i64.wrap ((IntKind.u64.wrap (IntKind.i64.wrap ((↑s : Int) + (↑r : Int)))).fdiv (2 : Int))) < (↑N : Int)) then
    bif decide (0 + (IntKind.i64.wrap ((↑p : Int) - IntKind.i64.wrap ((IntKind.u64.wrap (IntKind.i64.wrap ((↑s : Int) + (↑r : Int)))).fdiv (2 : Int)))).toNat < N) then
     bif decide ((0 : Int) ≤ IntKind.i64.wrap ((IntKind.u64.wrap (IntKind.i64.wrap ((↑s : Int) + (↑r : Int)))).fdiv (2 : Int)) ∧ IntKind.i64.wrap ((IntKind.u64.wrap (IntKind.i64.wrap ((↑s : Int) + (↑r : Int)))).fdiv (2 : Int)) < (↑N : Int)) then
      bif decide (0 + (IntKind.i64.wrap ((IntKind.u64.wrap (IntKind.i64.wrap ((↑s : Int) + (↑r : Int)))).fdiv (2 : Int))).toNat < N) then
       bif !decide (cmpV (f (0 + (IntKind.i64.wrap ((↑p : Int) - IntKind.i64.wrap ((IntKind.u64.wrap (IntKind.i64.wrap ((↑s : Int) + (↑r : Int)))).fdiv (2 : Int)))).toNat)) (f (0 + (IntKind.i64.wrap ((IntKind.u64.wrap (IntKind.i64.wrap ((↑s : Int) + (↑r : Int)))).fdiv (2 : Int))).toNat)) < (0 : Int)) then
        some ((AX.normal, { tm := tmOf 220 [(0, AV.row 0 1 0 N), (1, AV.int IntKind.i64 (↑a : Int)), (2, AV.int IntKind.i64 (↑m : Int)), (3, AV.int IntKind.i64 (↑b : Int)), (4, AV.fn 8 []), (18, AV.int IntKind.i64 (↑mid : Int)), (19, AV.int IntKind.i64 (↑n : Int)), (20, AV.int IntKind.i64 (IntKind.i64.wrap (IntKind.i64.wrap ((IntKind.u64.wrap (IntKind.i64.wrap ((↑s : Int) + (↑r : Int)))).fdiv (2 : Int)) + (1 : Int)))), (21, AV.int IntKind.i64 (↑r : Int)), (22, AV.int IntKind.i64 (↑p : Int))], ms := [], hp := [some (AObj.row 1 N (rowS f))] }))
       else
        some ((AX.normal, { tm := tmOf 220 [(0, AV.row 0 1 0 N), (1, AV.int IntKind.i64 (↑a : Int)), (2, AV.int IntKind.i64 (↑m : Int)), (3, AV.int IntKind.i64 (↑b : Int)), (4, AV.fn 8 []), (18, AV.int IntKind.i64 (↑mid : Int)), (19, AV.int IntKind.i64 (↑n : Int)), (20, AV.int IntKind.i64 (↑s : Int)), (21, AV.int IntKind.i64 (IntKind.i64.wrap ((IntKind.u64.wrap (IntKind.i64.wrap ((↑s : Int) + (↑r : Int)))).fdiv (2 : Int)))), (22, AV.int IntKind.i64 (↑p : Int))], ms := [], hp := [some (AObj.row 1 N (rowS f))] }))
      else
       none
     else
      none
    else
     none
   else
    none
  else
   some ((AX.exit 8, { tm := tmOf 220 [(0, AV.row 0 1 0 N), (1, AV.int IntKind.i64 (↑a : Int)), (2, AV.int IntKind.i64 (↑m : Int)), (3, AV.int IntKind.i64 (↑b : Int)), (4, AV.fn 8 []), (18, AV.int IntKind.i64 (↑mid : Int)), (19, AV.int IntKind.i64 (↑n : Int)), (20, AV.int IntKind.i64 (↑s : Int)), (21, AV.int IntKind.i64 (↑r : Int)), (22, AV.int IntKind.i64 (↑p : Int)), (151, AV.bool false)], ms := [], hp := [some (AObj.row 1 N (rowS f))] })) := by kernel_rfl

theorem l88_4 (K : Nat) : LoopOk Tryd.prog (tabD4 K).pf (fun n => hd Tryd.prog (tabD4 K).pf (tabD4 K).con.run (fun f => (H0 f).to) n 9) h88.to 88 1 none LE88 (loopAt Tryd.prog 88 4) := by
  rw [show loopAt Tryd.prog 88 4 = .loop (lbody Tryd.prog 88 4) by kernel_rfl]
  refine loop_c (hdT_le (m := 20) 9) (m := 20) (lv := mbits 8126495 220) (p := pL88_4) (res := rL88_4) iL88_4 (within_of _ (by rw [show loopsOf (lbody Tryd.prog 88 4) = [] by kernel_rfl]; simp)) (by kernel_rfl) (fun ⟨N, f, a, m, b, mid, n, s, r, p⟩ => r - s) ?_
  rintro ⟨N, f, a, m, b, mid, n, s, r, p⟩ hp
  have ht := q88_4 K N f a m b mid n s r p
  obtain ⟨h1, h2, h3, h5, h4⟩ := hp
  by_cases hl : s < r
  · have hb := bsN_step (C := cutC cmpV f p) hl
    have hm : (s + r) / 2 < N := by omega
    have hm2 : p - (s + r) / 2 < N := by omega
    rw [decide_eq_true (show (s : Int) < r by omega), shr_mid (show s + r < 9223372036854775807 by omega), w64s (by omega) (by omega), in_row hm, in_row hm2] at ht
    simp only [Int.toNat_natCast, Nat.zero_add, cond_true, decide_eq_true hm, decide_eq_true hm2] at ht
    left
    cases hc : cutC cmpV f p ((s + r) / 2) with
    | true =>
      rw [show (!decide (cmpV (f (p - (s + r) / 2)) (f ((s + r) / 2)) < 0)) = true from hc, w64n (by omega)] at ht
      rw [hc, cond_true] at hb
      refine ⟨⟨N, f, a, m, b, mid, n, (s + r) / 2 + 1, r, p⟩, ⟨by omega, h2, h3, by omega, h4⟩, by simp only; omega, ?_, ht⟩
      simp only [rL88_4, T.run_leaf, hb]
    | false =>
      rw [show (!decide (cmpV (f (p - (s + r) / 2)) (f ((s + r) / 2)) < 0)) = false from hc] at ht
      rw [hc, cond_false] at hb
      refine ⟨⟨N, f, a, m, b, mid, n, s, (s + r) / 2, p⟩, ⟨by omega, by omega, by omega, h5, h4⟩, by simp only; omega, ?_, ht⟩
      simp only [rL88_4, T.run_leaf, hb]
  · obtain rfl : s = r := by omega
    right
    rw [decide_eq_false (by omega)] at ht
    refine ⟨_, ?_, ?_, ht⟩
    · simp
    · simp only [rL88_4, T.run_leaf, bsN_end (Nat.le_refl _)] <;> rfl

abbrev md (a b : Nat) : Int := IntKind.i64.wrap ((IntKind.u64.wrap (IntKind.i64.wrap ((↑a : Int) + (↑b : Int)))).fdiv (2 : Int))

theorem t88 (K : Nat) (N : Nat) (f : Nat → List UInt8) (a m b : Nat) : (evn (tabD4 K) h88 LE88 88 [.row 0 1 0 N, .int .i64 a, .int .i64 m, .int .i64 b, .fn 8 []] [some (.row 1 N (rowS f))]).run =
 bif IntKind.i64.wrap ((↑m : Int) - (↑a : Int)) == (1 : Int) then
 bif isEn eL88 pL88 ([AV.row 0 1 0 N, AV.int IntKind.i64 (↑a : Int), AV.fn 8 [], AV.int IntKind.i64 (↑m : Int), AV.int IntKind.i64 (↑b : Int)], [some (AObj.row 1 N (rowS f))]) then
 bif isEn eL88_1 pL88_1 ([AV.row 0 1 0 N, AV.int IntKind.i64 (↑(bsN (CA (unS (rowS f)) (↑a : Int).toNat) ((↑b : Int).toNat - (↑m : Int).toNat) (↑m : Int).toNat (↑b : Int).toNat) : Int), AV.int IntKind.i64 (↑(↑a : Int).toNat : Int)], [some (AObj.row 1 N (rowS (unS (rowS f))))]) then
 some ((AV.tup [], [some (AObj.row 1 N (rowS (rotR (unS (rowS (unS (rowS f)))) (↑(↑a : Int).toNat : Int).toNat ((↑(↑a : Int).toNat : Int).toNat + 1) (↑(bsN (CA (unS (rowS f)) (↑a : Int).toNat) ((↑b : Int).toNat - (↑m : Int).toNat) (↑m : Int).toNat (↑b : Int).toNat) : Int).toNat)))]))
 else
 none
 else
 none
 else
 bif IntKind.i64.wrap ((↑b : Int) - (↑m : Int)) == (1 : Int) then
 bif isEn eL88_2 pL88_2 ([AV.row 0 1 0 N, AV.int IntKind.i64 (↑m : Int), AV.fn 8 [], AV.int IntKind.i64 (↑a : Int), AV.int IntKind.i64 (↑m : Int)], [some (AObj.row 1 N (rowS f))]) then
 bif isEn eL88_3 pL88_3 ([AV.row 0 1 0 N, AV.int IntKind.i64 (↑(bsN (CB (unS (rowS f)) (↑m : Int).toNat) ((↑m : Int).toNat - (↑a : Int).toNat) (↑a : Int).toNat (↑m : Int).toNat) : Int), AV.int IntKind.i64 (↑(↑m : Int).toNat : Int)], [some (AObj.row 1 N (rowS (unS (rowS f))))]) then
 some ((AV.tup [], [some (AObj.row 1 N (rowS (rotR (unS (rowS (unS (rowS f)))) (↑(bsN (CB (unS (rowS f)) (↑m : Int).toNat) ((↑m : Int).toNat - (↑a : Int).toNat) (↑a : Int).toNat (↑m : Int).toNat) : Int).toNat (↑(↑m : Int).toNat : Int).toNat ((↑(↑m : Int).toNat : Int).toNat + 1))))]))
 else
 none
 else
 none
 else
 bif decide ((↑m : Int) > md a b) then
 bif isEn eL88_4 pL88_4 ([AV.row 0 1 0 N, AV.int IntKind.i64 (↑a : Int), AV.int IntKind.i64 (↑m : Int), AV.int IntKind.i64 (↑b : Int), AV.fn 8 [], AV.int IntKind.i64 (md a b), AV.int IntKind.i64 (IntKind.i64.wrap (md a b + (↑m : Int))), AV.int IntKind.i64 (IntKind.i64.wrap (IntKind.i64.wrap (md a b + (↑m : Int)) - (↑b : Int))), AV.int IntKind.i64 (md a b), AV.int IntKind.i64 (IntKind.i64.wrap (IntKind.i64.wrap (md a b + (↑m : Int)) - (1 : Int)))], [some (AObj.row 1 N (rowS f))]) then
 bif decide ((↑(bsN (cutC cmpV (unS (rowS f)) (IntKind.i64.wrap (IntKind.i64.wrap (md a b + (↑m : Int)) - (1 : Int))).toNat) ((md a b).toNat - (IntKind.i64.wrap (IntKind.i64.wrap (md a b + (↑m : Int)) - (↑b : Int))).toNat) (IntKind.i64.wrap (IntKind.i64.wrap (md a b + (↑m : Int)) - (↑b : Int))).toNat (md a b).toNat) : Int) < (↑(↑m : Int).toNat : Int)) then
 bif decide ((↑(↑m : Int).toNat : Int) < IntKind.i64.wrap ((↑(IntKind.i64.wrap (md a b + (↑m : Int))).toNat : Int) - (↑(bsN (cutC cmpV (unS (rowS f)) (IntKind.i64.wrap (IntKind.i64.wrap (md a b + (↑m : Int)) - (1 : Int))).toNat) ((md a b).toNat - (IntKind.i64.wrap (IntKind.i64.wrap (md a b + (↑m : Int)) - (↑b : Int))).toNat) (IntKind.i64.wrap (IntKind.i64.wrap (md a b + (↑m : Int)) - (↑b : Int))).toNat (md a b).toNat) : Int))) then
 bif isEn en95 p95 ([AV.row 0 1 0 N, AV.int IntKind.i64 (↑(bsN (cutC cmpV (unS (rowS f)) (IntKind.i64.wrap (IntKind.i64.wrap (md a b + (↑m : Int)) - (1 : Int))).toNat) ((md a b).toNat - (IntKind.i64.wrap (IntKind.i64.wrap (md a b + (↑m : Int)) - (↑b : Int))).toNat) (IntKind.i64.wrap (IntKind.i64.wrap (md a b + (↑m : Int)) - (↑b : Int))).toNat (md a b).toNat) : Int), AV.int IntKind.i64 (↑(↑m : Int).toNat : Int), AV.int IntKind.i64 (IntKind.i64.wrap ((↑(IntKind.i64.wrap (md a b + (↑m : Int))).toNat : Int) - (↑(bsN (cutC cmpV (unS (rowS f)) (IntKind.i64.wrap (IntKind.i64.wrap (md a b + (↑m : Int)) - (1 : Int))).toNat) ((md a b).toNat - (IntKind.i64.wrap (IntKind.i64.wrap (md a b + (↑m : Int)) - (↑b : Int))).toNat) (IntKind.i64.wrap (IntKind.i64.wrap (md a b + (↑m : Int)) - (↑b : Int))).toNat (md a b).toNat) : Int))), AV.fn 8 []], [some (AObj.row 1 N (rowS (unS (rowS f))))]) then
 bif decide ((↑(↑a : Int).toNat : Int) < (↑(bsN (cutC cmpV (unS (rowS f)) (IntKind.i64.wrap (IntKind.i64.wrap (md a b + (↑m : Int)) - (1 : Int))).toNat) ((md a b).toNat - (IntKind.i64.wrap (IntKind.i64.wrap (md a b + (↑m : Int)) - (↑b : Int))).toNat) (IntKind.i64.wrap (IntKind.i64.wrap (md a b + (↑m : Int)) - (↑b : Int))).toNat (md a b).toNat) : Int)) then
 bif decide ((↑(bsN (cutC cmpV (unS (rowS f)) (IntKind.i64.wrap (IntKind.i64.wrap (md a b + (↑m : Int)) - (1 : Int))).toNat) ((md a b).toNat - (IntKind.i64.wrap (IntKind.i64.wrap (md a b + (↑m : Int)) - (↑b : Int))).toNat) (IntKind.i64.wrap (IntKind.i64.wrap (md a b + (↑m : Int)) - (↑b : Int))).toNat (md a b).toNat) : Int) < (↑(md a b).toNat : Int)) then
 bif isEn en88 (p88 K)
 ([AV.row 0 1 0 N, AV.int IntKind.i64 (↑(↑a : Int).toNat : Int), AV.int IntKind.i64 (↑(bsN (cutC cmpV (unS (rowS f)) (IntKind.i64.wrap (IntKind.i64.wrap (md a b + (↑m : Int)) - (1 : Int))).toNat) ((md a b).toNat - (IntKind.i64.wrap (IntKind.i64.wrap (md a b + (↑m : Int)) - (↑b : Int))).toNat) (IntKind.i64.wrap (IntKind.i64.wrap (md a b + (↑m : Int)) - (↑b : Int))).toNat (md a b).toNat) : Int), AV.int IntKind.i64 (↑(md a b).toNat : Int), AV.fn 8 []],
 [some (AObj.row 1 N (rowS (rotR (unS (rowS (unS (rowS f)))) (↑(bsN (cutC cmpV (unS (rowS f)) (IntKind.i64.wrap (IntKind.i64.wrap (md a b + (↑m : Int)) - (1 : Int))).toNat) ((md a b).toNat - (IntKind.i64.wrap (IntKind.i64.wrap (md a b + (↑m : Int)) - (↑b : Int))).toNat) (IntKind.i64.wrap (IntKind.i64.wrap (md a b + (↑m : Int)) - (↑b : Int))).toNat (md a b).toNat) : Int).toNat (↑(↑m : Int).toNat : Int).toNat (IntKind.i64.wrap ((↑(IntKind.i64.wrap (md a b + (↑m : Int))).toNat : Int) - (↑(bsN (cutC cmpV (unS (rowS f)) (IntKind.i64.wrap (IntKind.i64.wrap (md a b + (↑m : Int)) - (1 : Int))).toNat) ((md a b).toNat - (IntKind.i64.wrap (IntKind.i64.wrap (md a b + (↑m : Int)) - (↑b : Int))).toNat) (IntKind.i64.wrap (IntKind.i64.wrap (md a b + (↑m : Int)) - (↑b : Int))).toNat (md a b).toNat) : Int))).toNat)))]) then
 bif decide ((↑(md a b).toNat : Int) < IntKind.i64.wrap ((↑(IntKind.i64.wrap (md a b + (↑m : Int))).toNat : Int) - (↑(bsN (cutC cmpV (unS (rowS f)) (IntKind.i64.wrap (IntKind.i64.wrap (md a b + (↑m : Int)) - (1 : Int))).toNat) ((md a b).toNat - (IntKind.i64.wrap (IntKind.i64.wrap (md a b + (↑m : Int)) - (↑b : Int))).toNat) (IntKind.i64.wrap (IntKind.i64.wrap (md a b + (↑m : Int)) - (↑b : Int))).toNat (md a b).toNat) : Int))) then
 bif decide (IntKind.i64.wrap ((↑(IntKind.i64.wrap (md a b + (↑m : Int))).toNat : Int) - (↑(bsN (cutC cmpV (unS (rowS f)) (IntKind.i64.wrap (IntKind.i64.wrap (md a b + (↑m : Int)) - (1 : Int))).toNat) ((md a b).toNat - (IntKind.i64.wrap (IntKind.i64.wrap (md a b + (↑m : Int)) - (↑b : Int))).toNat) (IntKind.i64.wrap (IntKind.i64.wrap (md a b + (↑m : Int)) - (↑b : Int))).toNat (md a b).toNat) : Int)) < (↑(↑b : Int).toNat : Int)) then
 bif isEn en88 (p88 K)
 ([AV.row 0 1 0 N, AV.int IntKind.i64 (↑(md a b).toNat : Int), AV.int IntKind.i64 (IntKind.i64.wrap ((↑(IntKind.i64.wrap (md a b + (↑m : Int))).toNat : Int) - (↑(bsN (cutC cmpV (unS (rowS f)) (IntKind.i64.wrap (IntKind.i64.wrap (md a b + (↑m : Int)) - (1 : Int))).toNat) ((md a b).toNat - (IntKind.i64.wrap (IntKind.i64.wrap (md a b + (↑m : Int)) - (↑b : Int))).toNat) (IntKind.i64.wrap (IntKind.i64.wrap (md a b + (↑m : Int)) - (↑b : Int))).toNat (md a b).toNat) : Int))), AV.int IntKind.i64 (↑(↑b : Int).toNat : Int), AV.fn 8 []],
 [some
 (AObj.row 1 N
 (rowS (sortG cmpV (unS (rowS (rotR (unS (rowS (unS (rowS f)))) (↑(bsN (cutC cmpV (unS (rowS f)) (IntKind.i64.wrap (IntKind.i64.wrap (md a b + (↑m : Int)) - (1 : Int))).toNat) ((md a b).toNat - (IntKind.i64.wrap (IntKind.i64.wrap (md a b + (↑m : Int)) - (↑b : Int))).toNat) (IntKind.i64.wrap (IntKind.i64.wrap (md a b + (↑m : Int)) - (↑b : Int))).toNat (md a b).toNat) : Int).toNat (↑(↑m : Int).toNat : Int).toNat (IntKind.i64.wrap ((↑(IntKind.i64.wrap (md a b + (↑m : Int))).toNat : Int) - (↑(bsN (cutC cmpV (unS (rowS f)) (IntKind.i64.wrap (IntKind.i64.wrap (md a b + (↑m : Int)) - (1 : Int))).toNat) ((md a b).toNat - (IntKind.i64.wrap (IntKind.i64.wrap (md a b + (↑m : Int)) - (↑b : Int))).toNat) (IntKind.i64.wrap (IntKind.i64.wrap (md a b + (↑m : Int)) - (↑b : Int))).toNat (md a b).toNat) : Int))).toNat))) (↑(↑a : Int).toNat : Int).toNat (↑(md a b).toNat : Int).toNat)))]) then
 some ((AV.tup [],
 [some
 (AObj.row 1 N
 (rowS
 (sortG cmpV (unS (rowS (sortG cmpV (unS (rowS (rotR (unS (rowS (unS (rowS f)))) (↑(bsN (cutC cmpV (unS (rowS f)) (IntKind.i64.wrap (IntKind.i64.wrap (md a b + (↑m : Int)) - (1 : Int))).toNat) ((md a b).toNat - (IntKind.i64.wrap (IntKind.i64.wrap (md a b + (↑m : Int)) - (↑b : Int))).toNat) (IntKind.i64.wrap (IntKind.i64.wrap (md a b + (↑m : Int)) - (↑b : Int))).toNat (md a b).toNat) : Int).toNat (↑(↑m : Int).toNat : Int).toNat (IntKind.i64.wrap ((↑(IntKind.i64.wrap (md a b + (↑m : Int))).toNat : Int) - (↑(bsN (cutC cmpV (unS (rowS f)) (IntKind.i64.wrap (IntKind.i64.wrap (md a b + (↑m : Int)) - (1 : Int))).toNat) ((md a b).toNat - (IntKind.i64.wrap (IntKind.i64.wrap (md a b + (↑m : Int)) - (↑b : Int))).toNat) (IntKind.i64.wrap (IntKind.i64.wrap (md a b + (↑m : Int)) - (↑b : Int))).toNat (md a b).toNat) : Int))).toNat))) (↑(↑a : Int).toNat : Int).toNat (↑(md a b).toNat : Int).toNat)))
 (↑(md a b).toNat : Int).toNat (↑(↑b : Int).toNat : Int).toNat)))]))
 else
 none
 else
 some ((AV.tup [],
 [some
 (AObj.row 1 N (rowS (sortG cmpV (unS (rowS (rotR (unS (rowS (unS (rowS f)))) (↑(bsN (cutC cmpV (unS (rowS f)) (IntKind.i64.wrap (IntKind.i64.wrap (md a b + (↑m : Int)) - (1 : Int))).toNat) ((md a b).toNat - (IntKind.i64.wrap (IntKind.i64.wrap (md a b + (↑m : Int)) - (↑b : Int))).toNat) (IntKind.i64.wrap (IntKind.i64.wrap (md a b + (↑m : Int)) - (↑b : Int))).toNat (md a b).toNat) : Int).toNat (↑(↑m : Int).toNat : Int).toNat (IntKind.i64.wrap ((↑(IntKind.i64.wrap (md a b + (↑m : Int))).toNat : Int) - (↑(bsN (cutC cmpV (unS (rowS f)) (IntKind.i64.wrap (IntKind.i64.wrap (md a b + (↑m : Int)) - (1 : Int))).toNat) ((md a b).toNat - (IntKind.i64.wrap (IntKind.i64.wrap (md a b + (↑m : Int)) - (↑b : Int))).toNat) (IntKind.i64.wrap (IntKind.i64.wrap (md a b + (↑m : Int)) - (↑b : Int))).toNat (md a b).toNat) : Int))).toNat))) (↑(↑a : Int).toNat : Int).toNat (↑(md a b).toNat : Int).toNat)))]))
 else
 some ((AV.tup [],
 [some
 (AObj.row 1 N (rowS (sortG cmpV (unS (rowS (rotR (unS (rowS (unS (rowS f)))) (↑(bsN (cutC cmpV (unS (rowS f)) (IntKind.i64.wrap (IntKind.i64.wrap (md a b + (↑m : Int)) - (1 : Int))).toNat) ((md a b).toNat - (IntKind.i64.wrap (IntKind.i64.wrap (md a b + (↑m : Int)) - (↑b : Int))).toNat) (IntKind.i64.wrap (IntKind.i64.wrap (md a b + (↑m : Int)) - (↑b : Int))).toNat (md a b).toNat) : Int).toNat (↑(↑m : Int).toNat : Int).toNat (IntKind.i64.wrap ((↑(IntKind.i64.wrap (md a b + (↑m : Int))).toNat : Int) - (↑(bsN (cutC cmpV (unS (rowS f)) (IntKind.i64.wrap (IntKind.i64.wrap (md a b + (↑m : Int)) - (1 : Int))).toNat) ((md a b).toNat - (IntKind.i64.wrap (IntKind.i64.wrap (md a b + (↑m : Int)) - (↑b : Int))).toNat) (IntKind.i64.wrap (IntKind.i64.wrap (md a b + (↑m : Int)) - (↑b : Int))).toNat (md a b).toNat) : Int))).toNat))) (↑(↑a : Int).toNat : Int).toNat (↑(md a b).toNat : Int).toNat)))]))
 else
 none
 else
 bif decide ((↑(md a b).toNat : Int) < IntKind.i64.wrap ((↑(IntKind.i64.wrap (md a b + (↑m : Int))).toNat : Int) - (↑(bsN (cutC cmpV (unS (rowS f)) (IntKind.i64.wrap (IntKind.i64.wrap (md a b + (↑m : Int)) - (1 : Int))).toNat) ((md a b).toNat - (IntKind.i64.wrap (IntKind.i64.wrap (md a b + (↑m : Int)) - (↑b : Int))).toNat) (IntKind.i64.wrap (IntKind.i64.wrap (md a b + (↑m : Int)) - (↑b : Int))).toNat (md a b).toNat) : Int))) then
 bif decide (IntKind.i64.wrap ((↑(IntKind.i64.wrap (md a b + (↑m : Int))).toNat : Int) - (↑(bsN (cutC cmpV (unS (rowS f)) (IntKind.i64.wrap (IntKind.i64.wrap (md a b + (↑m : Int)) - (1 : Int))).toNat) ((md a b).toNat - (IntKind.i64.wrap (IntKind.i64.wrap (md a b + (↑m : Int)) - (↑b : Int))).toNat) (IntKind.i64.wrap (IntKind.i64.wrap (md a b + (↑m : Int)) - (↑b : Int))).toNat (md a b).toNat) : Int)) < (↑(↑b : Int).toNat : Int)) then
 bif isEn en88 (p88 K)
 ([AV.row 0 1 0 N, AV.int IntKind.i64 (↑(md a b).toNat : Int), AV.int IntKind.i64 (IntKind.i64.wrap ((↑(IntKind.i64.wrap (md a b + (↑m : Int))).toNat : Int) - (↑(bsN (cutC cmpV (unS (rowS f)) (IntKind.i64.wrap (IntKind.i64.wrap (md a b + (↑m : Int)) - (1 : Int))).toNat) ((md a b).toNat - (IntKind.i64.wrap (IntKind.i64.wrap (md a b + (↑m : Int)) - (↑b : Int))).toNat) (IntKind.i64.wrap (IntKind.i64.wrap (md a b + (↑m : Int)) - (↑b : Int))).toNat (md a b).toNat) : Int))), AV.int IntKind.i64 (↑(↑b : Int).toNat : Int), AV.fn 8 []],
 [some (AObj.row 1 N (rowS (rotR (unS (rowS (unS (rowS f)))) (↑(bsN (cutC cmpV (unS (rowS f)) (IntKind.i64.wrap (IntKind.i64.wrap (md a b + (↑m : Int)) - (1 : Int))).toNat) ((md a b).toNat - (IntKind.i64.wrap (IntKind.i64.wrap (md a b + (↑m : Int)) - (↑b : Int))).toNat) (IntKind.i64.wrap (IntKind.i64.wrap (md a b + (↑m : Int)) - (↑b : Int))).toNat (md a b).toNat) : Int).toNat (↑(↑m : Int).toNat : Int).toNat (IntKind.i64.wrap ((↑(IntKind.i64.wrap (md a b + (↑m : Int))).toNat : Int) - (↑(bsN (cutC cmpV (unS (rowS f)) (IntKind.i64.wrap (IntKind.i64.wrap (md a b + (↑m : Int)) - (1 : Int))).toNat) ((md a b).toNat - (IntKind.i64.wrap (IntKind.i64.wrap (md a b + (↑m : Int)) - (↑b : Int))).toNat) (IntKind.i64.wrap (IntKind.i64.wrap (md a b + (↑m : Int)) - (↑b : Int))).toNat (md a b).toNat) : Int))).toNat)))]) then
 some ((AV.tup [],
 [some
 (AObj.row 1 N (rowS (sortG cmpV (unS (rowS (rotR (unS (rowS (unS (rowS f)))) (↑(bsN (cutC cmpV (unS (rowS f)) (IntKind.i64.wrap (IntKind.i64.wrap (md a b + (↑m : Int)) - (1 : Int))).toNat) ((md a b).toNat - (IntKind.i64.wrap (IntKind.i64.wrap (md a b + (↑m : Int)) - (↑b : Int))).toNat) (IntKind.i64.wrap (IntKind.i64.wrap (md a b + (↑m : Int)) - (↑b : Int))).toNat (md a b).toNat) : Int).toNat (↑(↑m : Int).toNat : Int).toNat (IntKind.i64.wrap ((↑(IntKind.i64.wrap (md a b + (↑m : Int))).toNat : Int) - (↑(bsN (cutC cmpV (unS (rowS f)) (IntKind.i64.wrap (IntKind.i64.wrap (md a b + (↑m : Int)) - (1 : Int))).toNat) ((md a b).toNat - (IntKind.i64.wrap (IntKind.i64.wrap (md a b + (↑m : Int)) - (↑b : Int))).toNat) (IntKind.i64.wrap (IntKind.i64.wrap (md a b + (↑m : Int)) - (↑b : Int))).toNat (md a b).toNat) : Int))).toNat))) (↑(md a b).toNat : Int).toNat (↑(↑b : Int).toNat : Int).toNat)))]))
 else
 none
 else
 some ((AV.tup [], [some (AObj.row 1 N (rowS (rotR (unS (rowS (unS (rowS f)))) (↑(bsN (cutC cmpV (unS (rowS f)) (IntKind.i64.wrap (IntKind.i64.wrap (md a b + (↑m : Int)) - (1 : Int))).toNat) ((md a b).toNat - (IntKind.i64.wrap (IntKind.i64.wrap (md a b + (↑m : Int)) - (↑b : Int))).toNat) (IntKind.i64.wrap (IntKind.i64.wrap (md a b + (↑m : Int)) - (↑b : Int))).toNat (md a b).toNat) : Int).toNat (↑(↑m : Int).toNat : Int).toNat (IntKind.i64.wrap ((↑(IntKind.i64.wrap (md a b + (↑m : Int))).toNat : Int) - (↑(bsN (cutC cmpV (unS (rowS f)) (IntKind.i64.wrap (IntKind.i64.wrap (md a b + (↑m : Int)) - (1 : Int))).toNat) ((md a b).toNat - (IntKind.i64.wrap (IntKind.i64.wrap (md a b + (↑m : Int)) - (↑b : Int))).toNat) (IntKind.i64.wrap (IntKind.i64.wrap (md a b + (↑m : Int)) - (↑b : Int))).toNat (md a b).toNat) : Int))).toNat)))]))
 else
 some ((AV.tup [], [some (AObj.row 1 N (rowS (rotR (unS (rowS (unS (rowS f)))) (↑(bsN (cutC cmpV (unS (rowS f)) (IntKind.i64.wrap (IntKind.i64.wrap (md a b + (↑m : Int)) - (1 : Int))).toNat) ((md a b).toNat - (IntKind.i64.wrap (IntKind.i64.wrap (md a b + (↑m : Int)) - (↑b : Int))).toNat) (IntKind.i64.wrap (IntKind.i64.wrap (md a b + (↑m : Int)) - (↑b : Int))).toNat (md a b).toNat) : Int).toNat (↑(↑m : Int).toNat : Int).toNat (IntKind.i64.wrap ((↑(IntKind.i64.wrap (md a b + (↑m : Int))).toNat : Int) - (↑(bsN (cutC cmpV (unS (rowS f)) (IntKind.i64.wrap (IntKind.i64.wrap (md a b + (↑m : Int)) - (1 : Int))).toNat) ((md a b).toNat - (IntKind.i64.wrap (IntKind.i64.wrap (md a b + (↑m : Int)) - (↑b : Int))).toNat) (IntKind.i64.wrap (IntKind.i64.wrap (md a b + (↑m : Int)) - (↑b : Int))).toNat (md a b).toNat) : Int))).toNat)))]))
 else
 bif decide ((↑(md a b).toNat : Int) < IntKind.i64.wrap ((↑(IntKind.i64.wrap (md a b + (↑m : Int))).toNat : Int) - (↑(bsN (cutC cmpV (unS (rowS f)) (IntKind.i64.wrap (IntKind.i64.wrap (md a b + (↑m : Int)) - (1 : Int))).toNat) ((md a b).toNat - (IntKind.i64.wrap (IntKind.i64.wrap (md a b + (↑m : Int)) - (↑b : Int))).toNat) (IntKind.i64.wrap (IntKind.i64.wrap (md a b + (↑m : Int)) - (↑b : Int))).toNat (md a b).toNat) : Int))) then
 bif decide (IntKind.i64.wrap ((↑(IntKind.i64.wrap (md a b + (↑m : Int))).toNat : Int) - (↑(bsN (cutC cmpV (unS (rowS f)) (IntKind.i64.wrap (IntKind.i64.wrap (md a b + (↑m : Int)) - (1 : Int))).toNat) ((md a b).toNat - (IntKind.i64.wrap (IntKind.i64.wrap (md a b + (↑m : Int)) - (↑b : Int))).toNat) (IntKind.i64.wrap (IntKind.i64.wrap (md a b + (↑m : Int)) - (↑b : Int))).toNat (md a b).toNat) : Int)) < (↑(↑b : Int).toNat : Int)) then
 bif isEn en88 (p88 K)
 ([AV.row 0 1 0 N, AV.int IntKind.i64 (↑(md a b).toNat : Int), AV.int IntKind.i64 (IntKind.i64.wrap ((↑(IntKind.i64.wrap (md a b + (↑m : Int))).toNat : Int) - (↑(bsN (cutC cmpV (unS (rowS f)) (IntKind.i64.wrap (IntKind.i64.wrap (md a b + (↑m : Int)) - (1 : Int))).toNat) ((md a b).toNat - (IntKind.i64.wrap (IntKind.i64.wrap (md a b + (↑m : Int)) - (↑b : Int))).toNat) (IntKind.i64.wrap (IntKind.i64.wrap (md a b + (↑m : Int)) - (↑b : Int))).toNat (md a b).toNat) : Int))), AV.int IntKind.i64 (↑(↑b : Int).toNat : Int), AV.fn 8 []],
 [some (AObj.row 1 N (rowS (rotR (unS (rowS (unS (rowS f)))) (↑(bsN (cutC cmpV (unS (rowS f)) (IntKind.i64.wrap (IntKind.i64.wrap (md a b + (↑m : Int)) - (1 : Int))).toNat) ((md a b).toNat - (IntKind.i64.wrap (IntKind.i64.wrap (md a b + (↑m : Int)) - (↑b : Int))).toNat) (IntKind.i64.wrap (IntKind.i64.wrap (md a b + (↑m : Int)) - (↑b : Int))).toNat (md a b).toNat) : Int).toNat (↑(↑m : Int).toNat : Int).toNat (IntKind.i64.wrap ((↑(IntKind.i64.wrap (md a b + (↑m : Int))).toNat : Int) - (↑(bsN (cutC cmpV (unS (rowS f)) (IntKind.i64.wrap (IntKind.i64.wrap (md a b + (↑m : Int)) - (1 : Int))).toNat) ((md a b).toNat - (IntKind.i64.wrap (IntKind.i64.wrap (md a b + (↑m : Int)) - (↑b : Int))).toNat) (IntKind.i64.wrap (IntKind.i64.wrap (md a b + (↑m : Int)) - (↑b : Int))).toNat (md a b).toNat) : Int))).toNat)))]) then
 some ((AV.tup [],
 [some
 (AObj.row 1 N (rowS (sortG cmpV (unS (rowS (rotR (unS (rowS (unS (rowS f)))) (↑(bsN (cutC cmpV (unS (rowS f)) (IntKind.i64.wrap (IntKind.i64.wrap (md a b + (↑m : Int)) - (1 : Int))).toNat) ((md a b).toNat - (IntKind.i64.wrap (IntKind.i64.wrap (md a b + (↑m : Int)) - (↑b : Int))).toNat) (IntKind.i64.wrap (IntKind.i64.wrap (md a b + (↑m : Int)) - (↑b : Int))).toNat (md a b).toNat) : Int).toNat (↑(↑m : Int).toNat : Int).toNat (IntKind.i64.wrap ((↑(IntKind.i64.wrap (md a b + (↑m : Int))).toNat : Int) - (↑(bsN (cutC cmpV (unS (rowS f)) (IntKind.i64.wrap (IntKind.i64.wrap (md a b + (↑m : Int)) - (1 : Int))).toNat) ((md a b).toNat - (IntKind.i64.wrap (IntKind.i64.wrap (md a b + (↑m : Int)) - (↑b : Int))).toNat) (IntKind.i64.wrap (IntKind.i64.wrap (md a b + (↑m : Int)) - (↑b : Int))).toNat (md a b).toNat) : Int))).toNat))) (↑(md a b).toNat : Int).toNat (↑(↑b : Int).toNat : Int).toNat)))]))
 else
 none
 else
 some ((AV.tup [], [some (AObj.row 1 N (rowS (rotR (unS (rowS (unS (rowS f)))) (↑(bsN (cutC cmpV (unS (rowS f)) (IntKind.i64.wrap (IntKind.i64.wrap (md a b + (↑m : Int)) - (1 : Int))).toNat) ((md a b).toNat - (IntKind.i64.wrap (IntKind.i64.wrap (md a b + (↑m : Int)) - (↑b : Int))).toNat) (IntKind.i64.wrap (IntKind.i64.wrap (md a b + (↑m : Int)) - (↑b : Int))).toNat (md a b).toNat) : Int).toNat (↑(↑m : Int).toNat : Int).toNat (IntKind.i64.wrap ((↑(IntKind.i64.wrap (md a b + (↑m : Int))).toNat : Int) - (↑(bsN (cutC cmpV (unS (rowS f)) (IntKind.i64.wrap (IntKind.i64.wrap (md a b + (↑m : Int)) - (1 : Int))).toNat) ((md a b).toNat - (IntKind.i64.wrap (IntKind.i64.wrap (md a b + (↑m : Int)) - (↑b : Int))).toNat) (IntKind.i64.wrap (IntKind.i64.wrap (md a b + (↑m : Int)) - (↑b : Int))).toNat (md a b).toNat) : Int))).toNat)))]))
 else
 some ((AV.tup [], [some (AObj.row 1 N (rowS (rotR (unS (rowS (unS (rowS f)))) (↑(bsN (cutC cmpV (unS (rowS f)) (IntKind.i64.wrap (IntKind.i64.wrap (md a b + (↑m : Int)) - (1 : Int))).toNat) ((md a b).toNat - (IntKind.i64.wrap (IntKind.i64.wrap (md a b + (↑m : Int)) - (↑b : Int))).toNat) (IntKind.i64.wrap (IntKind.i64.wrap (md a b + (↑m : Int)) - (↑b : Int))).toNat (md a b).toNat) : Int).toNat (↑(↑m : Int).toNat : Int).toNat (IntKind.i64.wrap ((↑(IntKind.i64.wrap (md a b + (↑m : Int))).toNat : Int) - (↑(bsN (cutC cmpV (unS (rowS f)) (IntKind.i64.wrap (IntKind.i64.wrap (md a b + (↑m : Int)) - (1 : Int))).toNat) ((md a b).toNat - (IntKind.i64.wrap (IntKind.i64.wrap (md a b + (↑m : Int)) - (↑b : Int))).toNat) (IntKind.i64.wrap (IntKind.i64.wrap (md a b + (↑m : Int)) - (↑b : Int))).toNat (md a b).toNat) : Int))).toNat)))]))
 else
 none
 else
 bif decide ((↑(↑a : Int).toNat : Int) < (↑(bsN (cutC cmpV (unS (rowS f)) (IntKind.i64.wrap (IntKind.i64.wrap (md a b + (↑m : Int)) - (1 : Int))).toNat) ((md a b).toNat - (IntKind.i64.wrap (IntKind.i64.wrap (md a b + (↑m : Int)) - (↑b : Int))).toNat) (IntKind.i64.wrap (IntKind.i64.wrap (md a b + (↑m : Int)) - (↑b : Int))).toNat (md a b).toNat) : Int)) then
 bif decide ((↑(bsN (cutC cmpV (unS (rowS f)) (IntKind.i64.wrap (IntKind.i64.wrap (md a b + (↑m : Int)) - (1 : Int))).toNat) ((md a b).toNat - (IntKind.i64.wrap (IntKind.i64.wrap (md a b + (↑m : Int)) - (↑b : Int))).toNat) (IntKind.i64.wrap (IntKind.i64.wrap (md a b + (↑m : Int)) - (↑b : Int))).toNat (md a b).toNat) : Int) < (↑(md a b).toNat : Int)) then
 bif isEn en88 (p88 K) ([AV.row 0 1 0 N, AV.int IntKind.i64 (↑(↑a : Int).toNat : Int), AV.int IntKind.i64 (↑(bsN (cutC cmpV (unS (rowS f)) (IntKind.i64.wrap (IntKind.i64.wrap (md a b + (↑m : Int)) - (1 : Int))).toNat) ((md a b).toNat - (IntKind.i64.wrap (IntKind.i64.wrap (md a b + (↑m : Int)) - (↑b : Int))).toNat) (IntKind.i64.wrap (IntKind.i64.wrap (md a b + (↑m : Int)) - (↑b : Int))).toNat (md a b).toNat) : Int), AV.int IntKind.i64 (↑(md a b).toNat : Int), AV.fn 8 []], [some (AObj.row 1 N (rowS (unS (rowS f))))]) then
 bif decide ((↑(md a b).toNat : Int) < IntKind.i64.wrap ((↑(IntKind.i64.wrap (md a b + (↑m : Int))).toNat : Int) - (↑(bsN (cutC cmpV (unS (rowS f)) (IntKind.i64.wrap (IntKind.i64.wrap (md a b + (↑m : Int)) - (1 : Int))).toNat) ((md a b).toNat - (IntKind.i64.wrap (IntKind.i64.wrap (md a b + (↑m : Int)) - (↑b : Int))).toNat) (IntKind.i64.wrap (IntKind.i64.wrap (md a b + (↑m : Int)) - (↑b : Int))).toNat (md a b).toNat) : Int))) then
 bif decide (IntKind.i64.wrap ((↑(IntKind.i64.wrap (md a b + (↑m : Int))).toNat : Int) - (↑(bsN (cutC cmpV (unS (rowS f)) (IntKind.i64.wrap (IntKind.i64.wrap (md a b + (↑m : Int)) - (1 : Int))).toNat) ((md a b).toNat - (IntKind.i64.wrap (IntKind.i64.wrap (md a b + (↑m : Int)) - (↑b : Int))).toNat) (IntKind.i64.wrap (IntKind.i64.wrap (md a b + (↑m : Int)) - (↑b : Int))).toNat (md a b).toNat) : Int)) < (↑(↑b : Int).toNat : Int)) then
 bif isEn en88 (p88 K) ([AV.row 0 1 0 N, AV.int IntKind.i64 (↑(md a b).toNat : Int), AV.int IntKind.i64 (IntKind.i64.wrap ((↑(IntKind.i64.wrap (md a b + (↑m : Int))).toNat : Int) - (↑(bsN (cutC cmpV (unS (rowS f)) (IntKind.i64.wrap (IntKind.i64.wrap (md a b + (↑m : Int)) - (1 : Int))).toNat) ((md a b).toNat - (IntKind.i64.wrap (IntKind.i64.wrap (md a b + (↑m : Int)) - (↑b : Int))).toNat) (IntKind.i64.wrap (IntKind.i64.wrap (md a b + (↑m : Int)) - (↑b : Int))).toNat (md a b).toNat) : Int))), AV.int IntKind.i64 (↑(↑b : Int).toNat : Int), AV.fn 8 []], [some (AObj.row 1 N (rowS (sortG cmpV (unS (rowS (unS (rowS f)))) (↑(↑a : Int).toNat : Int).toNat (↑(md a b).toNat : Int).toNat)))]) then
 some ((AV.tup [], [some (AObj.row 1 N (rowS (sortG cmpV (unS (rowS (sortG cmpV (unS (rowS (unS (rowS f)))) (↑(↑a : Int).toNat : Int).toNat (↑(md a b).toNat : Int).toNat))) (↑(md a b).toNat : Int).toNat (↑(↑b : Int).toNat : Int).toNat)))]))
 else
 none
 else
 some ((AV.tup [], [some (AObj.row 1 N (rowS (sortG cmpV (unS (rowS (unS (rowS f)))) (↑(↑a : Int).toNat : Int).toNat (↑(md a b).toNat : Int).toNat)))]))
 else
 some ((AV.tup [], [some (AObj.row 1 N (rowS (sortG cmpV (unS (rowS (unS (rowS f)))) (↑(↑a : Int).toNat : Int).toNat (↑(md a b).toNat : Int).toNat)))]))
 else
 none
 else
 bif decide ((↑(md a b).toNat : Int) < IntKind.i64.wrap ((↑(IntKind.i64.wrap (md a b + (↑m : Int))).toNat : Int) - (↑(bsN (cutC cmpV (unS (rowS f)) (IntKind.i64.wrap (IntKind.i64.wrap (md a b + (↑m : Int)) - (1 : Int))).toNat) ((md a b).toNat - (IntKind.i64.wrap (IntKind.i64.wrap (md a b + (↑m : Int)) - (↑b : Int))).toNat) (IntKind.i64.wrap (IntKind.i64.wrap (md a b + (↑m : Int)) - (↑b : Int))).toNat (md a b).toNat) : Int))) then
 bif decide (IntKind.i64.wrap ((↑(IntKind.i64.wrap (md a b + (↑m : Int))).toNat : Int) - (↑(bsN (cutC cmpV (unS (rowS f)) (IntKind.i64.wrap (IntKind.i64.wrap (md a b + (↑m : Int)) - (1 : Int))).toNat) ((md a b).toNat - (IntKind.i64.wrap (IntKind.i64.wrap (md a b + (↑m : Int)) - (↑b : Int))).toNat) (IntKind.i64.wrap (IntKind.i64.wrap (md a b + (↑m : Int)) - (↑b : Int))).toNat (md a b).toNat) : Int)) < (↑(↑b : Int).toNat : Int)) then
 bif isEn en88 (p88 K) ([AV.row 0 1 0 N, AV.int IntKind.i64 (↑(md a b).toNat : Int), AV.int IntKind.i64 (IntKind.i64.wrap ((↑(IntKind.i64.wrap (md a b + (↑m : Int))).toNat : Int) - (↑(bsN (cutC cmpV (unS (rowS f)) (IntKind.i64.wrap (IntKind.i64.wrap (md a b + (↑m : Int)) - (1 : Int))).toNat) ((md a b).toNat - (IntKind.i64.wrap (IntKind.i64.wrap (md a b + (↑m : Int)) - (↑b : Int))).toNat) (IntKind.i64.wrap (IntKind.i64.wrap (md a b + (↑m : Int)) - (↑b : Int))).toNat (md a b).toNat) : Int))), AV.int IntKind.i64 (↑(↑b : Int).toNat : Int), AV.fn 8 []], [some (AObj.row 1 N (rowS (unS (rowS f))))]) then
 some ((AV.tup [], [some (AObj.row 1 N (rowS (sortG cmpV (unS (rowS (unS (rowS f)))) (↑(md a b).toNat : Int).toNat (↑(↑b : Int).toNat : Int).toNat)))]))
 else
 none
 else
 some ((AV.tup [], [some (AObj.row 1 N (rowS (unS (rowS f))))]))
 else
 some ((AV.tup [], [some (AObj.row 1 N (rowS (unS (rowS f))))]))
 else
 bif decide ((↑(md a b).toNat : Int) < IntKind.i64.wrap ((↑(IntKind.i64.wrap (md a b + (↑m : Int))).toNat : Int) - (↑(bsN (cutC cmpV (unS (rowS f)) (IntKind.i64.wrap (IntKind.i64.wrap (md a b + (↑m : Int)) - (1 : Int))).toNat) ((md a b).toNat - (IntKind.i64.wrap (IntKind.i64.wrap (md a b + (↑m : Int)) - (↑b : Int))).toNat) (IntKind.i64.wrap (IntKind.i64.wrap (md a b + (↑m : Int)) - (↑b : Int))).toNat (md a b).toNat) : Int))) then
 bif decide (IntKind.i64.wrap ((↑(IntKind.i64.wrap (md a b + (↑m : Int))).toNat : Int) - (↑(bsN (cutC cmpV (unS (rowS f)) (IntKind.i64.wrap (IntKind.i64.wrap (md a b + (↑m : Int)) - (1 : Int))).toNat) ((md a b).toNat - (IntKind.i64.wrap (IntKind.i64.wrap (md a b + (↑m : Int)) - (↑b : Int))).toNat) (IntKind.i64.wrap (IntKind.i64.wrap (md a b + (↑m : Int)) - (↑b : Int))).toNat (md a b).toNat) : Int)) < (↑(↑b : Int).toNat : Int)) then
 bif isEn en88 (p88 K) ([AV.row 0 1 0 N, AV.int IntKind.i64 (↑(md a b).toNat : Int), AV.int IntKind.i64 (IntKind.i64.wrap ((↑(IntKind.i64.wrap (md a b + (↑m : Int))).toNat : Int) - (↑(bsN (cutC cmpV (unS (rowS f)) (IntKind.i64.wrap (IntKind.i64.wrap (md a b + (↑m : Int)) - (1 : Int))).toNat) ((md a b).toNat - (IntKind.i64.wrap (IntKind.i64.wrap (md a b + (↑m : Int)) - (↑b : Int))).toNat) (IntKind.i64.wrap (IntKind.i64.wrap (md a b + (↑m : Int)) - (↑b : Int))).toNat (md a b).toNat) : Int))), AV.int IntKind.i64 (↑(↑b : Int).toNat : Int), AV.fn 8 []], [some (AObj.row 1 N (rowS (unS (rowS f))))]) then
 some ((AV.tup [], [some (AObj.row 1 N (rowS (sortG cmpV (unS (rowS (unS (rowS f)))) (↑(md a b).toNat : Int).toNat (↑(↑b : Int).toNat : Int).toNat)))]))
 else
 none
 else
 some ((AV.tup [], [some (AObj.row 1 N (rowS (unS (rowS f))))]))
 else
 some ((AV.tup [], [some (AObj.row 1 N (rowS (unS (rowS f))))]))
 else
 bif decide ((↑(↑a : Int).toNat : Int) < (↑(bsN (cutC cmpV (unS (rowS f)) (IntKind.i64.wrap (IntKind.i64.wrap (md a b + (↑m : Int)) - (1 : Int))).toNat) ((md a b).toNat - (IntKind.i64.wrap (IntKind.i64.wrap (md a b + (↑m : Int)) - (↑b : Int))).toNat) (IntKind.i64.wrap (IntKind.i64.wrap (md a b + (↑m : Int)) - (↑b : Int))).toNat (md a b).toNat) : Int)) then
 bif decide ((↑(bsN (cutC cmpV (unS (rowS f)) (IntKind.i64.wrap (IntKind.i64.wrap (md a b + (↑m : Int)) - (1 : Int))).toNat) ((md a b).toNat - (IntKind.i64.wrap (IntKind.i64.wrap (md a b + (↑m : Int)) - (↑b : Int))).toNat) (IntKind.i64.wrap (IntKind.i64.wrap (md a b + (↑m : Int)) - (↑b : Int))).toNat (md a b).toNat) : Int) < (↑(md a b).toNat : Int)) then
 bif isEn en88 (p88 K) ([AV.row 0 1 0 N, AV.int IntKind.i64 (↑(↑a : Int).toNat : Int), AV.int IntKind.i64 (↑(bsN (cutC cmpV (unS (rowS f)) (IntKind.i64.wrap (IntKind.i64.wrap (md a b + (↑m : Int)) - (1 : Int))).toNat) ((md a b).toNat - (IntKind.i64.wrap (IntKind.i64.wrap (md a b + (↑m : Int)) - (↑b : Int))).toNat) (IntKind.i64.wrap (IntKind.i64.wrap (md a b + (↑m : Int)) - (↑b : Int))).toNat (md a b).toNat) : Int), AV.int IntKind.i64 (↑(md a b).toNat : Int), AV.fn 8 []], [some (AObj.row 1 N (rowS (unS (rowS f))))]) then
 bif decide ((↑(md a b).toNat : Int) < IntKind.i64.wrap ((↑(IntKind.i64.wrap (md a b + (↑m : Int))).toNat : Int) - (↑(bsN (cutC cmpV (unS (rowS f)) (IntKind.i64.wrap (IntKind.i64.wrap (md a b + (↑m : Int)) - (1 : Int))).toNat) ((md a b).toNat - (IntKind.i64.wrap (IntKind.i64.wrap (md a b + (↑m : Int)) - (↑b : Int))).toNat) (IntKind.i64.wrap (IntKind.i64.wrap (md a b + (↑m : Int)) - (↑b : Int))).toNat (md a b).toNat) : Int))) then
 bif decide (IntKind.i64.wrap ((↑(IntKind.i64.wrap (md a b + (↑m : Int))).toNat : Int) - (↑(bsN (cutC cmpV (unS (rowS f)) (IntKind.i64.wrap (IntKind.i64.wrap (md a b + (↑m : Int)) - (1 : Int))).toNat) ((md a b).toNat - (IntKind.i64.wrap (IntKind.i64.wrap (md a b + (↑m : Int)) - (↑b : Int))).toNat) (IntKind.i64.wrap (IntKind.i64.wrap (md a b + (↑m : Int)) - (↑b : Int))).toNat (md a b).toNat) : Int)) < (↑(↑b : Int).toNat : Int)) then
 bif isEn en88 (p88 K) ([AV.row 0 1 0 N, AV.int IntKind.i64 (↑(md a b).toNat : Int), AV.int IntKind.i64 (IntKind.i64.wrap ((↑(IntKind.i64.wrap (md a b + (↑m : Int))).toNat : Int) - (↑(bsN (cutC cmpV (unS (rowS f)) (IntKind.i64.wrap (IntKind.i64.wrap (md a b + (↑m : Int)) - (1 : Int))).toNat) ((md a b).toNat - (IntKind.i64.wrap (IntKind.i64.wrap (md a b + (↑m : Int)) - (↑b : Int))).toNat) (IntKind.i64.wrap (IntKind.i64.wrap (md a b + (↑m : Int)) - (↑b : Int))).toNat (md a b).toNat) : Int))), AV.int IntKind.i64 (↑(↑b : Int).toNat : Int), AV.fn 8 []], [some (AObj.row 1 N (rowS (sortG cmpV (unS (rowS (unS (rowS f)))) (↑(↑a : Int).toNat : Int).toNat (↑(md a b).toNat : Int).toNat)))]) then
 some ((AV.tup [], [some (AObj.row 1 N (rowS (sortG cmpV (unS (rowS (sortG cmpV (unS (rowS (unS (rowS f)))) (↑(↑a : Int).toNat : Int).toNat (↑(md a b).toNat : Int).toNat))) (↑(md a b).toNat : Int).toNat (↑(↑b : Int).toNat : Int).toNat)))]))
 else
 none
 else
 some ((AV.tup [], [some (AObj.row 1 N (rowS (sortG cmpV (unS (rowS (unS (rowS f)))) (↑(↑a : Int).toNat : Int).toNat (↑(md a b).toNat : Int).toNat)))]))
 else
 some ((AV.tup [], [some (AObj.row 1 N (rowS (sortG cmpV (unS (rowS (unS (rowS f)))) (↑(↑a : Int).toNat : Int).toNat (↑(md a b).toNat : Int).toNat)))]))
 else
 none
 else
 bif decide ((↑(md a b).toNat : Int) < IntKind.i64.wrap ((↑(IntKind.i64.wrap (md a b + (↑m : Int))).toNat : Int) - (↑(bsN (cutC cmpV (unS (rowS f)) (IntKind.i64.wrap (IntKind.i64.wrap (md a b + (↑m : Int)) - (1 : Int))).toNat) ((md a b).toNat - (IntKind.i64.wrap (IntKind.i64.wrap (md a b + (↑m : Int)) - (↑b : Int))).toNat) (IntKind.i64.wrap (IntKind.i64.wrap (md a b + (↑m : Int)) - (↑b : Int))).toNat (md a b).toNat) : Int))) then
 bif decide (IntKind.i64.wrap ((↑(IntKind.i64.wrap (md a b + (↑m : Int))).toNat : Int) - (↑(bsN (cutC cmpV (unS (rowS f)) (IntKind.i64.wrap (IntKind.i64.wrap (md a b + (↑m : Int)) - (1 : Int))).toNat) ((md a b).toNat - (IntKind.i64.wrap (IntKind.i64.wrap (md a b + (↑m : Int)) - (↑b : Int))).toNat) (IntKind.i64.wrap (IntKind.i64.wrap (md a b + (↑m : Int)) - (↑b : Int))).toNat (md a b).toNat) : Int)) < (↑(↑b : Int).toNat : Int)) then
 bif isEn en88 (p88 K) ([AV.row 0 1 0 N, AV.int IntKind.i64 (↑(md a b).toNat : Int), AV.int IntKind.i64 (IntKind.i64.wrap ((↑(IntKind.i64.wrap (md a b + (↑m : Int))).toNat : Int) - (↑(bsN (cutC cmpV (unS (rowS f)) (IntKind.i64.wrap (IntKind.i64.wrap (md a b + (↑m : Int)) - (1 : Int))).toNat) ((md a b).toNat - (IntKind.i64.wrap (IntKind.i64.wrap (md a b + (↑m : Int)) - (↑b : Int))).toNat) (IntKind.i64.wrap (IntKind.i64.wrap (md a b + (↑m : Int)) - (↑b : Int))).toNat (md a b).toNat) : Int))), AV.int IntKind.i64 (↑(↑b : Int).toNat : Int), AV.fn 8 []], [some (AObj.row 1 N (rowS (unS (rowS f))))]) then
 some ((AV.tup [], [some (AObj.row 1 N (rowS (sortG cmpV (unS (rowS (unS (rowS f)))) (↑(md a b).toNat : Int).toNat (↑(↑b : Int).toNat : Int).toNat)))]))
 else
 none
 else
 some ((AV.tup [], [some (AObj.row 1 N (rowS (unS (rowS f))))]))
 else
 some ((AV.tup [], [some (AObj.row 1 N (rowS (unS (rowS f))))]))
 else
 bif decide ((↑(md a b).toNat : Int) < IntKind.i64.wrap ((↑(IntKind.i64.wrap (md a b + (↑m : Int))).toNat : Int) - (↑(bsN (cutC cmpV (unS (rowS f)) (IntKind.i64.wrap (IntKind.i64.wrap (md a b + (↑m : Int)) - (1 : Int))).toNat) ((md a b).toNat - (IntKind.i64.wrap (IntKind.i64.wrap (md a b + (↑m : Int)) - (↑b : Int))).toNat) (IntKind.i64.wrap (IntKind.i64.wrap (md a b + (↑m : Int)) - (↑b : Int))).toNat (md a b).toNat) : Int))) then
 bif decide (IntKind.i64.wrap ((↑(IntKind.i64.wrap (md a b + (↑m : Int))).toNat : Int) - (↑(bsN (cutC cmpV (unS (rowS f)) (IntKind.i64.wrap (IntKind.i64.wrap (md a b + (↑m : Int)) - (1 : Int))).toNat) ((md a b).toNat - (IntKind.i64.wrap (IntKind.i64.wrap (md a b + (↑m : Int)) - (↑b : Int))).toNat) (IntKind.i64.wrap (IntKind.i64.wrap (md a b + (↑m : Int)) - (↑b : Int))).toNat (md a b).toNat) : Int)) < (↑(↑b : Int).toNat : Int)) then
 bif isEn en88 (p88 K) ([AV.row 0 1 0 N, AV.int IntKind.i64 (↑(md a b).toNat : Int), AV.int IntKind.i64 (IntKind.i64.wrap ((↑(IntKind.i64.wrap (md a b + (↑m : Int))).toNat : Int) - (↑(bsN (cutC cmpV (unS (rowS f)) (IntKind.i64.wrap (IntKind.i64.wrap (md a b + (↑m : Int)) - (1 : Int))).toNat) ((md a b).toNat - (IntKind.i64.wrap (IntKind.i64.wrap (md a b + (↑m : Int)) - (↑b : Int))).toNat) (IntKind.i64.wrap (IntKind.i64.wrap (md a b + (↑m : Int)) - (↑b : Int))).toNat (md a b).toNat) : Int))), AV.int IntKind.i64 (↑(↑b : Int).toNat : Int), AV.fn 8 []], [some (AObj.row 1 N (rowS (unS (rowS f))))]) then
 some ((AV.tup [], [some (AObj.row 1 N (rowS (sortG cmpV (unS (rowS (unS (rowS f)))) (↑(md a b).toNat : Int).toNat (↑(↑b : Int).toNat : Int).toNat)))]))
 else
 none
 else
 some ((AV.tup [], [some (AObj.row 1 N (rowS (unS (rowS f))))]))
 else
 some ((AV.tup [], [some (AObj.row 1 N (rowS (unS (rowS f))))]))
 else
 none
 else
 bif isEn eL88_4 pL88_4 ([AV.row 0 1 0 N, AV.int IntKind.i64 (↑a : Int), AV.int IntKind.i64 (↑m : Int), AV.int IntKind.i64 (↑b : Int), AV.fn 8 [], AV.int IntKind.i64 (md a b), AV.int IntKind.i64 (IntKind.i64.wrap (md a b + (↑m : Int))), AV.int IntKind.i64 (↑a : Int), AV.int IntKind.i64 (↑m : Int), AV.int IntKind.i64 (IntKind.i64.wrap (IntKind.i64.wrap (md a b + (↑m : Int)) - (1 : Int)))], [some (AObj.row 1 N (rowS f))]) then
 bif decide ((↑(bsN (cutC cmpV (unS (rowS f)) (IntKind.i64.wrap (IntKind.i64.wrap (md a b + (↑m : Int)) - (1 : Int))).toNat) ((↑m : Int).toNat - (↑a : Int).toNat) (↑a : Int).toNat (↑m : Int).toNat) : Int) < (↑(↑m : Int).toNat : Int)) then
 bif decide ((↑(↑m : Int).toNat : Int) < IntKind.i64.wrap ((↑(IntKind.i64.wrap (md a b + (↑m : Int))).toNat : Int) - (↑(bsN (cutC cmpV (unS (rowS f)) (IntKind.i64.wrap (IntKind.i64.wrap (md a b + (↑m : Int)) - (1 : Int))).toNat) ((↑m : Int).toNat - (↑a : Int).toNat) (↑a : Int).toNat (↑m : Int).toNat) : Int))) then
 bif isEn en95 p95 ([AV.row 0 1 0 N, AV.int IntKind.i64 (↑(bsN (cutC cmpV (unS (rowS f)) (IntKind.i64.wrap (IntKind.i64.wrap (md a b + (↑m : Int)) - (1 : Int))).toNat) ((↑m : Int).toNat - (↑a : Int).toNat) (↑a : Int).toNat (↑m : Int).toNat) : Int), AV.int IntKind.i64 (↑(↑m : Int).toNat : Int), AV.int IntKind.i64 (IntKind.i64.wrap ((↑(IntKind.i64.wrap (md a b + (↑m : Int))).toNat : Int) - (↑(bsN (cutC cmpV (unS (rowS f)) (IntKind.i64.wrap (IntKind.i64.wrap (md a b + (↑m : Int)) - (1 : Int))).toNat) ((↑m : Int).toNat - (↑a : Int).toNat) (↑a : Int).toNat (↑m : Int).toNat) : Int))), AV.fn 8 []], [some (AObj.row 1 N (rowS (unS (rowS f))))]) then
 bif decide ((↑(↑a : Int).toNat : Int) < (↑(bsN (cutC cmpV (unS (rowS f)) (IntKind.i64.wrap (IntKind.i64.wrap (md a b + (↑m : Int)) - (1 : Int))).toNat) ((↑m : Int).toNat - (↑a : Int).toNat) (↑a : Int).toNat (↑m : Int).toNat) : Int)) then
 bif decide ((↑(bsN (cutC cmpV (unS (rowS f)) (IntKind.i64.wrap (IntKind.i64.wrap (md a b + (↑m : Int)) - (1 : Int))).toNat) ((↑m : Int).toNat - (↑a : Int).toNat) (↑a : Int).toNat (↑m : Int).toNat) : Int) < (↑(md a b).toNat : Int)) then
 bif isEn en88 (p88 K) ([AV.row 0 1 0 N, AV.int IntKind.i64 (↑(↑a : Int).toNat : Int), AV.int IntKind.i64 (↑(bsN (cutC cmpV (unS (rowS f)) (IntKind.i64.wrap (IntKind.i64.wrap (md a b + (↑m : Int)) - (1 : Int))).toNat) ((↑m : Int).toNat - (↑a : Int).toNat) (↑a : Int).toNat (↑m : Int).toNat) : Int), AV.int IntKind.i64 (↑(md a b).toNat : Int), AV.fn 8 []], [some (AObj.row 1 N (rowS (rotR (unS (rowS (unS (rowS f)))) (↑(bsN (cutC cmpV (unS (rowS f)) (IntKind.i64.wrap (IntKind.i64.wrap (md a b + (↑m : Int)) - (1 : Int))).toNat) ((↑m : Int).toNat - (↑a : Int).toNat) (↑a : Int).toNat (↑m : Int).toNat) : Int).toNat (↑(↑m : Int).toNat : Int).toNat (IntKind.i64.wrap ((↑(IntKind.i64.wrap (md a b + (↑m : Int))).toNat : Int) - (↑(bsN (cutC cmpV (unS (rowS f)) (IntKind.i64.wrap (IntKind.i64.wrap (md a b + (↑m : Int)) - (1 : Int))).toNat) ((↑m : Int).toNat - (↑a : Int).toNat) (↑a : Int).toNat (↑m : Int).toNat) : Int))).toNat)))]) then
 bif decide ((↑(md a b).toNat : Int) < IntKind.i64.wrap ((↑(IntKind.i64.wrap (md a b + (↑m : Int))).toNat : Int) - (↑(bsN (cutC cmpV (unS (rowS f)) (IntKind.i64.wrap (IntKind.i64.wrap (md a b + (↑m : Int)) - (1 : Int))).toNat) ((↑m : Int).toNat - (↑a : Int).toNat) (↑a : Int).toNat (↑m : Int).toNat) : Int))) then
 bif decide (IntKind.i64.wrap ((↑(IntKind.i64.wrap (md a b + (↑m : Int))).toNat : Int) - (↑(bsN (cutC cmpV (unS (rowS f)) (IntKind.i64.wrap (IntKind.i64.wrap (md a b + (↑m : Int)) - (1 : Int))).toNat) ((↑m : Int).toNat - (↑a : Int).toNat) (↑a : Int).toNat (↑m : Int).toNat) : Int)) < (↑(↑b : Int).toNat : Int)) then
 bif isEn en88 (p88 K) ([AV.row 0 1 0 N, AV.int IntKind.i64 (↑(md a b).toNat : Int), AV.int IntKind.i64 (IntKind.i64.wrap ((↑(IntKind.i64.wrap (md a b + (↑m : Int))).toNat : Int) - (↑(bsN (cutC cmpV (unS (rowS f)) (IntKind.i64.wrap (IntKind.i64.wrap (md a b + (↑m : Int)) - (1 : Int))).toNat) ((↑m : Int).toNat - (↑a : Int).toNat) (↑a : Int).toNat (↑m : Int).toNat) : Int))), AV.int IntKind.i64 (↑(↑b : Int).toNat : Int), AV.fn 8 []], [some (AObj.row 1 N (rowS (sortG cmpV (unS (rowS (rotR (unS (rowS (unS (rowS f)))) (↑(bsN (cutC cmpV (unS (rowS f)) (IntKind.i64.wrap (IntKind.i64.wrap (md a b + (↑m : Int)) - (1 : Int))).toNat) ((↑m : Int).toNat - (↑a : Int).toNat) (↑a : Int).toNat (↑m : Int).toNat) : Int).toNat (↑(↑m : Int).toNat : Int).toNat (IntKind.i64.wrap ((↑(IntKind.i64.wrap (md a b + (↑m : Int))).toNat : Int) - (↑(bsN (cutC cmpV (unS (rowS f)) (IntKind.i64.wrap (IntKind.i64.wrap (md a b + (↑m : Int)) - (1 : Int))).toNat) ((↑m : Int).toNat - (↑a : Int).toNat) (↑a : Int).toNat (↑m : Int).toNat) : Int))).toNat))) (↑(↑a : Int).toNat : Int).toNat (↑(md a b).toNat : Int).toNat)))]) then
 some ((AV.tup [], [some (AObj.row 1 N (rowS (sortG cmpV (unS (rowS (sortG cmpV (unS (rowS (rotR (unS (rowS (unS (rowS f)))) (↑(bsN (cutC cmpV (unS (rowS f)) (IntKind.i64.wrap (IntKind.i64.wrap (md a b + (↑m : Int)) - (1 : Int))).toNat) ((↑m : Int).toNat - (↑a : Int).toNat) (↑a : Int).toNat (↑m : Int).toNat) : Int).toNat (↑(↑m : Int).toNat : Int).toNat (IntKind.i64.wrap ((↑(IntKind.i64.wrap (md a b + (↑m : Int))).toNat : Int) - (↑(bsN (cutC cmpV (unS (rowS f)) (IntKind.i64.wrap (IntKind.i64.wrap (md a b + (↑m : Int)) - (1 : Int))).toNat) ((↑m : Int).toNat - (↑a : Int).toNat) (↑a : Int).toNat (↑m : Int).toNat) : Int))).toNat))) (↑(↑a : Int).toNat : Int).toNat (↑(md a b).toNat : Int).toNat))) (↑(md a b).toNat : Int).toNat (↑(↑b : Int).toNat : Int).toNat)))]))
 else
 none
 else
 some ((AV.tup [], [some (AObj.row 1 N (rowS (sortG cmpV (unS (rowS (rotR (unS (rowS (unS (rowS f)))) (↑(bsN (cutC cmpV (unS (rowS f)) (IntKind.i64.wrap (IntKind.i64.wrap (md a b + (↑m : Int)) - (1 : Int))).toNat) ((↑m : Int).toNat - (↑a : Int).toNat) (↑a : Int).toNat (↑m : Int).toNat) : Int).toNat (↑(↑m : Int).toNat : Int).toNat (IntKind.i64.wrap ((↑(IntKind.i64.wrap (md a b + (↑m : Int))).toNat : Int) - (↑(bsN (cutC cmpV (unS (rowS f)) (IntKind.i64.wrap (IntKind.i64.wrap (md a b + (↑m : Int)) - (1 : Int))).toNat) ((↑m : Int).toNat - (↑a : Int).toNat) (↑a : Int).toNat (↑m : Int).toNat) : Int))).toNat))) (↑(↑a : Int).toNat : Int).toNat (↑(md a b).toNat : Int).toNat)))]))
 else
 some ((AV.tup [], [some (AObj.row 1 N (rowS (sortG cmpV (unS (rowS (rotR (unS (rowS (unS (rowS f)))) (↑(bsN (cutC cmpV (unS (rowS f)) (IntKind.i64.wrap (IntKind.i64.wrap (md a b + (↑m : Int)) - (1 : Int))).toNat) ((↑m : Int).toNat - (↑a : Int).toNat) (↑a : Int).toNat (↑m : Int).toNat) : Int).toNat (↑(↑m : Int).toNat : Int).toNat (IntKind.i64.wrap ((↑(IntKind.i64.wrap (md a b + (↑m : Int))).toNat : Int) - (↑(bsN (cutC cmpV (unS (rowS f)) (IntKind.i64.wrap (IntKind.i64.wrap (md a b + (↑m : Int)) - (1 : Int))).toNat) ((↑m : Int).toNat - (↑a : Int).toNat) (↑a : Int).toNat (↑m : Int).toNat) : Int))).toNat))) (↑(↑a : Int).toNat : Int).toNat (↑(md a b).toNat : Int).toNat)))]))
 else
 none
 else
 bif decide ((↑(md a b).toNat : Int) < IntKind.i64.wrap ((↑(IntKind.i64.wrap (md a b + (↑m : Int))).toNat : Int) - (↑(bsN (cutC cmpV (unS (rowS f)) (IntKind.i64.wrap (IntKind.i64.wrap (md a b + (↑m : Int)) - (1 : Int))).toNat) ((↑m : Int).toNat - (↑a : Int).toNat) (↑a : Int).toNat (↑m : Int).toNat) : Int))) then
 bif decide (IntKind.i64.wrap ((↑(IntKind.i64.wrap (md a b + (↑m : Int))).toNat : Int) - (↑(bsN (cutC cmpV (unS (rowS f)) (IntKind.i64.wrap (IntKind.i64.wrap (md a b + (↑m : Int)) - (1 : Int))).toNat) ((↑m : Int).toNat - (↑a : Int).toNat) (↑a : Int).toNat (↑m : Int).toNat) : Int)) < (↑(↑b : Int).toNat : Int)) then
 bif isEn en88 (p88 K) ([AV.row 0 1 0 N, AV.int IntKind.i64 (↑(md a b).toNat : Int), AV.int IntKind.i64 (IntKind.i64.wrap ((↑(IntKind.i64.wrap (md a b + (↑m : Int))).toNat : Int) - (↑(bsN (cutC cmpV (unS (rowS f)) (IntKind.i64.wrap (IntKind.i64.wrap (md a b + (↑m : Int)) - (1 : Int))).toNat) ((↑m : Int).toNat - (↑a : Int).toNat) (↑a : Int).toNat (↑m : Int).toNat) : Int))), AV.int IntKind.i64 (↑(↑b : Int).toNat : Int), AV.fn 8 []], [some (AObj.row 1 N (rowS (rotR (unS (rowS (unS (rowS f)))) (↑(bsN (cutC cmpV (unS (rowS f)) (IntKind.i64.wrap (IntKind.i64.wrap (md a b + (↑m : Int)) - (1 : Int))).toNat) ((↑m : Int).toNat - (↑a : Int).toNat) (↑a : Int).toNat (↑m : Int).toNat) : Int).toNat (↑(↑m : Int).toNat : Int).toNat (IntKind.i64.wrap ((↑(IntKind.i64.wrap (md a b + (↑m : Int))).toNat : Int) - (↑(bsN (cutC cmpV (unS (rowS f)) (IntKind.i64.wrap (IntKind.i64.wrap (md a b + (↑m : Int)) - (1 : Int))).toNat) ((↑m : Int).toNat - (↑a : Int).toNat) (↑a : Int).toNat (↑m : Int).toNat) : Int))).toNat)))]) then
 some ((AV.tup [], [some (AObj.row 1 N (rowS (sortG cmpV (unS (rowS (rotR (unS (rowS (unS (rowS f)))) (↑(bsN (cutC cmpV (unS (rowS f)) (IntKind.i64.wrap (IntKind.i64.wrap (md a b + (↑m : Int)) - (1 : Int))).toNat) ((↑m : Int).toNat - (↑a : Int).toNat) (↑a : Int).toNat (↑m : Int).toNat) : Int).toNat (↑(↑m : Int).toNat : Int).toNat (IntKind.i64.wrap ((↑(IntKind.i64.wrap (md a b + (↑m : Int))).toNat : Int) - (↑(bsN (cutC cmpV (unS (rowS f)) (IntKind.i64.wrap (IntKind.i64.wrap (md a b + (↑m : Int)) - (1 : Int))).toNat) ((↑m : Int).toNat - (↑a : Int).toNat) (↑a : Int).toNat (↑m : Int).toNat) : Int))).toNat))) (↑(md a b).toNat : Int).toNat (↑(↑b : Int).toNat : Int).toNat)))]))
 else
 none
 else
 some ((AV.tup [], [some (AObj.row 1 N (rowS (rotR (unS (rowS (unS (rowS f)))) (↑(bsN (cutC cmpV (unS (rowS f)) (IntKind.i64.wrap (IntKind.i64.wrap (md a b + (↑m : Int)) - (1 : Int))).toNat) ((↑m : Int).toNat - (↑a : Int).toNat) (↑a : Int).toNat (↑m : Int).toNat) : Int).toNat (↑(↑m : Int).toNat : Int).toNat (IntKind.i64.wrap ((↑(IntKind.i64.wrap (md a b + (↑m : Int))).toNat : Int) - (↑(bsN (cutC cmpV (unS (rowS f)) (IntKind.i64.wrap (IntKind.i64.wrap (md a b + (↑m : Int)) - (1 : Int))).toNat) ((↑m : Int).toNat - (↑a : Int).toNat) (↑a : Int).toNat (↑m : Int).toNat) : Int))).toNat)))]))
 else
 some ((AV.tup [], [some (AObj.row 1 N (rowS (rotR (unS (rowS (unS (rowS f)))) (↑(bsN (cutC cmpV (unS (rowS f)) (IntKind.i64.wrap (IntKind.i64.wrap (md a b + (↑m : Int)) - (1 : Int))).toNat) ((↑m : Int).toNat - (↑a : Int).toNat) (↑a : Int).toNat (↑m : Int).toNat) : Int).toNat (↑(↑m : Int).toNat : Int).toNat (IntKind.i64.wrap ((↑(IntKind.i64.wrap (md a b + (↑m : Int))).toNat : Int) - (↑(bsN (cutC cmpV (unS (rowS f)) (IntKind.i64.wrap (IntKind.i64.wrap (md a b + (↑m : Int)) - (1 : Int))).toNat) ((↑m : Int).toNat - (↑a : Int).toNat) (↑a : Int).toNat (↑m : Int).toNat) : Int))).toNat)))]))
 else
 bif decide ((↑(md a b).toNat : Int) < IntKind.i64.wrap ((↑(IntKind.i64.wrap (md a b + (↑m : Int))).toNat : Int) - (↑(bsN (cutC cmpV (unS (rowS f)) (IntKind.i64.wrap (IntKind.i64.wrap (md a b + (↑m : Int)) - (1 : Int))).toNat) ((↑m : Int).toNat - (↑a : Int).toNat) (↑a : Int).toNat (↑m : Int).toNat) : Int))) then
 bif decide (IntKind.i64.wrap ((↑(IntKind.i64.wrap (md a b + (↑m : Int))).toNat : Int) - (↑(bsN (cutC cmpV (unS (rowS f)) (IntKind.i64.wrap (IntKind.i64.wrap (md a b + (↑m : Int)) - (1 : Int))).toNat) ((↑m : Int).toNat - (↑a : Int).toNat) (↑a : Int).toNat (↑m : Int).toNat) : Int)) < (↑(↑b : Int).toNat : Int)) then
 bif isEn en88 (p88 K) ([AV.row 0 1 0 N, AV.int IntKind.i64 (↑(md a b).toNat : Int), AV.int IntKind.i64 (IntKind.i64.wrap ((↑(IntKind.i64.wrap (md a b + (↑m : Int))).toNat : Int) - (↑(bsN (cutC cmpV (unS (rowS f)) (IntKind.i64.wrap (IntKind.i64.wrap (md a b + (↑m : Int)) - (1 : Int))).toNat) ((↑m : Int).toNat - (↑a : Int).toNat) (↑a : Int).toNat (↑m : Int).toNat) : Int))), AV.int IntKind.i64 (↑(↑b : Int).toNat : Int), AV.fn 8 []], [some (AObj.row 1 N (rowS (rotR (unS (rowS (unS (rowS f)))) (↑(bsN (cutC cmpV (unS (rowS f)) (IntKind.i64.wrap (IntKind.i64.wrap (md a b + (↑m : Int)) - (1 : Int))).toNat) ((↑m : Int).toNat - (↑a : Int).toNat) (↑a : Int).toNat (↑m : Int).toNat) : Int).toNat (↑(↑m : Int).toNat : Int).toNat (IntKind.i64.wrap ((↑(IntKind.i64.wrap (md a b + (↑m : Int))).toNat : Int) - (↑(bsN (cutC cmpV (unS (rowS f)) (IntKind.i64.wrap (IntKind.i64.wrap (md a b + (↑m : Int)) - (1 : Int))).toNat) ((↑m : Int).toNat - (↑a : Int).toNat) (↑a : Int).toNat (↑m : Int).toNat) : Int))).toNat)))]) then
 some ((AV.tup [], [some (AObj.row 1 N (rowS (sortG cmpV (unS (rowS (rotR (unS (rowS (unS (rowS f)))) (↑(bsN (cutC cmpV (unS (rowS f)) (IntKind.i64.wrap (IntKind.i64.wrap (md a b + (↑m : Int)) - (1 : Int))).toNat) ((↑m : Int).toNat - (↑a : Int).toNat) (↑a : Int).toNat (↑m : Int).toNat) : Int).toNat (↑(↑m : Int).toNat : Int).toNat (IntKind.i64.wrap ((↑(IntKind.i64.wrap (md a b + (↑m : Int))).toNat : Int) - (↑(bsN (cutC cmpV (unS (rowS f)) (IntKind.i64.wrap (IntKind.i64.wrap (md a b + (↑m : Int)) - (1 : Int))).toNat) ((↑m : Int).toNat - (↑a : Int).toNat) (↑a : Int).toNat (↑m : Int).toNat) : Int))).toNat))) (↑(md a b).toNat : Int).toNat (↑(↑b : Int).toNat : Int).toNat)))]))
 else
 none
 else
 some ((AV.tup [], [some (AObj.row 1 N (rowS (rotR (unS (rowS (unS (rowS f)))) (↑(bsN (cutC cmpV (unS (rowS f)) (IntKind.i64.wrap (IntKind.i64.wrap (md a b + (↑m : Int)) - (1 : Int))).toNat) ((↑m : Int).toNat - (↑a : Int).toNat) (↑a : Int).toNat (↑m : Int).toNat) : Int).toNat (↑(↑m : Int).toNat : Int).toNat (IntKind.i64.wrap ((↑(IntKind.i64.wrap (md a b + (↑m : Int))).toNat : Int) - (↑(bsN (cutC cmpV (unS (rowS f)) (IntKind.i64.wrap (IntKind.i64.wrap (md a b + (↑m : Int)) - (1 : Int))).toNat) ((↑m : Int).toNat - (↑a : Int).toNat) (↑a : Int).toNat (↑m : Int).toNat) : Int))).toNat)))]))
 else
 some ((AV.tup [], [some (AObj.row 1 N (rowS (rotR (unS (rowS (unS (rowS f)))) (↑(bsN (cutC cmpV (unS (rowS f)) (IntKind.i64.wrap (IntKind.i64.wrap (md a b + (↑m : Int)) - (1 : Int))).toNat) ((↑m : Int).toNat - (↑a : Int).toNat) (↑a : Int).toNat (↑m : Int).toNat) : Int).toNat (↑(↑m : Int).toNat : Int).toNat (IntKind.i64.wrap ((↑(IntKind.i64.wrap (md a b + (↑m : Int))).toNat : Int) - (↑(bsN (cutC cmpV (unS (rowS f)) (IntKind.i64.wrap (IntKind.i64.wrap (md a b + (↑m : Int)) - (1 : Int))).toNat) ((↑m : Int).toNat - (↑a : Int).toNat) (↑a : Int).toNat (↑m : Int).toNat) : Int))).toNat)))]))
 else
 none
 else
 bif decide ((↑(↑a : Int).toNat : Int) < (↑(bsN (cutC cmpV (unS (rowS f)) (IntKind.i64.wrap (IntKind.i64.wrap (md a b + (↑m : Int)) - (1 : Int))).toNat) ((↑m : Int).toNat - (↑a : Int).toNat) (↑a : Int).toNat (↑m : Int).toNat) : Int)) then
 bif decide ((↑(bsN (cutC cmpV (unS (rowS f)) (IntKind.i64.wrap (IntKind.i64.wrap (md a b + (↑m : Int)) - (1 : Int))).toNat) ((↑m : Int).toNat - (↑a : Int).toNat) (↑a : Int).toNat (↑m : Int).toNat) : Int) < (↑(md a b).toNat : Int)) then
 bif isEn en88 (p88 K) ([AV.row 0 1 0 N, AV.int IntKind.i64 (↑(↑a : Int).toNat : Int), AV.int IntKind.i64 (↑(bsN (cutC cmpV (unS (rowS f)) (IntKind.i64.wrap (IntKind.i64.wrap (md a b + (↑m : Int)) - (1 : Int))).toNat) ((↑m : Int).toNat - (↑a : Int).toNat) (↑a : Int).toNat (↑m : Int).toNat) : Int), AV.int IntKind.i64 (↑(md a b).toNat : Int), AV.fn 8 []], [some (AObj.row 1 N (rowS (unS (rowS f))))]) then
 bif decide ((↑(md a b).toNat : Int) < IntKind.i64.wrap ((↑(IntKind.i64.wrap (md a b + (↑m : Int))).toNat : Int) - (↑(bsN (cutC cmpV (unS (rowS f)) (IntKind.i64.wrap (IntKind.i64.wrap (md a b + (↑m : Int)) - (1 : Int))).toNat) ((↑m : Int).toNat - (↑a : Int).toNat) (↑a : Int).toNat (↑m : Int).toNat) : Int))) then
 bif decide (IntKind.i64.wrap ((↑(IntKind.i64.wrap (md a b + (↑m : Int))).toNat : Int) - (↑(bsN (cutC cmpV (unS (rowS f)) (IntKind.i64.wrap (IntKind.i64.wrap (md a b + (↑m : Int)) - (1 : Int))).toNat) ((↑m : Int).toNat - (↑a : Int).toNat) (↑a : Int).toNat (↑m : Int).toNat) : Int)) < (↑(↑b : Int).toNat : Int)) then
 bif isEn en88 (p88 K) ([AV.row 0 1 0 N, AV.int IntKind.i64 (↑(md a b).toNat : Int), AV.int IntKind.i64 (IntKind.i64.wrap ((↑(IntKind.i64.wrap (md a b + (↑m : Int))).toNat : Int) - (↑(bsN (cutC cmpV (unS (rowS f)) (IntKind.i64.wrap (IntKind.i64.wrap (md a b + (↑m : Int)) - (1 : Int))).toNat) ((↑m : Int).toNat - (↑a : Int).toNat) (↑a : Int).toNat (↑m : Int).toNat) : Int))), AV.int IntKind.i64 (↑(↑b : Int).toNat : Int), AV.fn 8 []], [some (AObj.row 1 N (rowS (sortG cmpV (unS (rowS (unS (rowS f)))) (↑(↑a : Int).toNat : Int).toNat (↑(md a b).toNat : Int).toNat)))]) then
 some ((AV.tup [], [some (AObj.row 1 N (rowS (sortG cmpV (unS (rowS (sortG cmpV (unS (rowS (unS (rowS f)))) (↑(↑a : Int).toNat : Int).toNat (↑(md a b).toNat : Int).toNat))) (↑(md a b).toNat : Int).toNat (↑(↑b : Int).toNat : Int).toNat)))]))
 else
 none
 else
 some ((AV.tup [], [some (AObj.row 1 N (rowS (sortG cmpV (unS (rowS (unS (rowS f)))) (↑(↑a : Int).toNat : Int).toNat (↑(md a b).toNat : Int).toNat)))]))
 else
 some ((AV.tup [], [some (AObj.row 1 N (rowS (sortG cmpV (unS (rowS (unS (rowS f)))) (↑(↑a : Int).toNat : Int).toNat (↑(md a b).toNat : Int).toNat)))]))
 else
 none
 else
 bif decide ((↑(md a b).toNat : Int) < IntKind.i64.wrap ((↑(IntKind.i64.wrap (md a b + (↑m : Int))).toNat : Int) - (↑(bsN (cutC cmpV (unS (rowS f)) (IntKind.i64.wrap (IntKind.i64.wrap (md a b + (↑m : Int)) - (1 : Int))).toNat) ((↑m : Int).toNat - (↑a : Int).toNat) (↑a : Int).toNat (↑m : Int).toNat) : Int))) then
 bif decide (IntKind.i64.wrap ((↑(IntKind.i64.wrap (md a b + (↑m : Int))).toNat : Int) - (↑(bsN (cutC cmpV (unS (rowS f)) (IntKind.i64.wrap (IntKind.i64.wrap (md a b + (↑m : Int)) - (1 : Int))).toNat) ((↑m : Int).toNat - (↑a : Int).toNat) (↑a : Int).toNat (↑m : Int).toNat) : Int)) < (↑(↑b : Int).toNat : Int)) then
 bif isEn en88 (p88 K) ([AV.row 0 1 0 N, AV.int IntKind.i64 (↑(md a b).toNat : Int), AV.int IntKind.i64 (IntKind.i64.wrap ((↑(IntKind.i64.wrap (md a b + (↑m : Int))).toNat : Int) - (↑(bsN (cutC cmpV (unS (rowS f)) (IntKind.i64.wrap (IntKind.i64.wrap (md a b + (↑m : Int)) - (1 : Int))).toNat) ((↑m : Int).toNat - (↑a : Int).toNat) (↑a : Int).toNat (↑m : Int).toNat) : Int))), AV.int IntKind.i64 (↑(↑b : Int).toNat : Int), AV.fn 8 []], [some (AObj.row 1 N (rowS (unS (rowS f))))]) then
 some ((AV.tup [], [some (AObj.row 1 N (rowS (sortG cmpV (unS (rowS (unS (rowS f)))) (↑(md a b).toNat : Int).toNat (↑(↑b : Int).toNat : Int).toNat)))]))
 else
 none
 else
 some ((AV.tup [], [some (AObj.row 1 N (rowS (unS (rowS f))))]))
 else
 some ((AV.tup [], [some (AObj.row 1 N (rowS (unS (rowS f))))]))
 else
 bif decide ((↑(md a b).toNat : Int) < IntKind.i64.wrap ((↑(IntKind.i64.wrap (md a b + (↑m : Int))).toNat : Int) - (↑(bsN (cutC cmpV (unS (rowS f)) (IntKind.i64.wrap (IntKind.i64.wrap (md a b + (↑m : Int)) - (1 : Int))).toNat) ((↑m : Int).toNat - (↑a : Int).toNat) (↑a : Int).toNat (↑m : Int).toNat) : Int))) then
 bif decide (IntKind.i64.wrap ((↑(IntKind.i64.wrap (md a b + (↑m : Int))).toNat : Int) - (↑(bsN (cutC cmpV (unS (rowS f)) (IntKind.i64.wrap (IntKind.i64.wrap (md a b + (↑m : Int)) - (1 : Int))).toNat) ((↑m : Int).toNat - (↑a : Int).toNat) (↑a : Int).toNat (↑m : Int).toNat) : Int)) < (↑(↑b : Int).toNat : Int)) then
 bif isEn en88 (p88 K) ([AV.row 0 1 0 N, AV.int IntKind.i64 (↑(md a b).toNat : Int), AV.int IntKind.i64 (IntKind.i64.wrap ((↑(IntKind.i64.wrap (md a b + (↑m : Int))).toNat : Int) - (↑(bsN (cutC cmpV (unS (rowS f)) (IntKind.i64.wrap (IntKind.i64.wrap (md a b + (↑m : Int)) - (1 : Int))).toNat) ((↑m : Int).toNat - (↑a : Int).toNat) (↑a : Int).toNat (↑m : Int).toNat) : Int))), AV.int IntKind.i64 (↑(↑b : Int).toNat : Int), AV.fn 8 []], [some (AObj.row 1 N (rowS (unS (rowS f))))]) then
 some ((AV.tup [], [some (AObj.row 1 N (rowS (sortG cmpV (unS (rowS (unS (rowS f)))) (↑(md a b).toNat : Int).toNat (↑(↑b : Int).toNat : Int).toNat)))]))
 else
 none
 else
 some ((AV.tup [], [some (AObj.row 1 N (rowS (unS (rowS f))))]))
 else
 some ((AV.tup [], [some (AObj.row 1 N (rowS (unS (rowS f))))]))
 else
 bif decide ((↑(↑a : Int).toNat : Int) < (↑(bsN (cutC cmpV (unS (rowS f)) (IntKind.i64.wrap (IntKind.i64.wrap (md a b + (↑m : Int)) - (1 : Int))).toNat) ((↑m : Int).toNat - (↑a : Int).toNat) (↑a : Int).toNat (↑m : Int).toNat) : Int)) then
 bif decide ((↑(bsN (cutC cmpV (unS (rowS f)) (IntKind.i64.wrap (IntKind.i64.wrap (md a b + (↑m : Int)) - (1 : Int))).toNat) ((↑m : Int).toNat - (↑a : Int).toNat) (↑a : Int).toNat (↑m : Int).toNat) : Int) < (↑(md a b).toNat : Int)) then
 bif isEn en88 (p88 K) ([AV.row 0 1 0 N, AV.int IntKind.i64 (↑(↑a : Int).toNat : Int), AV.int IntKind.i64 (↑(bsN (cutC cmpV (unS (rowS f)) (IntKind.i64.wrap (IntKind.i64.wrap (md a b + (↑m : Int)) - (1 : Int))).toNat) ((↑m : Int).toNat - (↑a : Int).toNat) (↑a : Int).toNat (↑m : Int).toNat) : Int), AV.int IntKind.i64 (↑(md a b).toNat : Int), AV.fn 8 []], [some (AObj.row 1 N (rowS (unS (rowS f))))]) then
 bif decide ((↑(md a b).toNat : Int) < IntKind.i64.wrap ((↑(IntKind.i64.wrap (md a b + (↑m : Int))).toNat : Int) - (↑(bsN (cutC cmpV (unS (rowS f)) (IntKind.i64.wrap (IntKind.i64.wrap (md a b + (↑m : Int)) - (1 : Int))).toNat) ((↑m : Int).toNat - (↑a : Int).toNat) (↑a : Int).toNat (↑m : Int).toNat) : Int))) then
 bif decide (IntKind.i64.wrap ((↑(IntKind.i64.wrap (md a b + (↑m : Int))).toNat : Int) - (↑(bsN (cutC cmpV (unS (rowS f)) (IntKind.i64.wrap (IntKind.i64.wrap (md a b + (↑m : Int)) - (1 : Int))).toNat) ((↑m : Int).toNat - (↑a : Int).toNat) (↑a : Int).toNat (↑m : Int).toNat) : Int)) < (↑(↑b : Int).toNat : Int)) then
 bif isEn en88 (p88 K) ([AV.row 0 1 0 N, AV.int IntKind.i64 (↑(md a b).toNat : Int), AV.int IntKind.i64 (IntKind.i64.wrap ((↑(IntKind.i64.wrap (md a b + (↑m : Int))).toNat : Int) - (↑(bsN (cutC cmpV (unS (rowS f)) (IntKind.i64.wrap (IntKind.i64.wrap (md a b + (↑m : Int)) - (1 : Int))).toNat) ((↑m : Int).toNat - (↑a : Int).toNat) (↑a : Int).toNat (↑m : Int).toNat) : Int))), AV.int IntKind.i64 (↑(↑b : Int).toNat : Int), AV.fn 8 []], [some (AObj.row 1 N (rowS (sortG cmpV (unS (rowS (unS (rowS f)))) (↑(↑a : Int).toNat : Int).toNat (↑(md a b).toNat : Int).toNat)))]) then
 some ((AV.tup [], [some (AObj.row 1 N (rowS (sortG cmpV (unS (rowS (sortG cmpV (unS (rowS (unS (rowS f)))) (↑(↑a : Int).toNat : Int).toNat (↑(md a b).toNat : Int).toNat))) (↑(md a b).toNat : Int).toNat (↑(↑b : Int).toNat : Int).toNat)))]))
 else
 none
 else
 some ((AV.tup [], [some (AObj.row 1 N (rowS (sortG cmpV (unS (rowS (unS (rowS f)))) (↑(↑a : Int).toNat : Int).toNat (↑(md a b).toNat : Int).toNat)))]))
 else
 some ((AV.tup [], [some (AObj.row 1 N (rowS (sortG cmpV (unS (rowS (unS (rowS f)))) (↑(↑a : Int).toNat : Int).toNat (↑(md a b).toNat : Int).toNat)))]))
 else
 none
 else
 bif decide ((↑(md a b).toNat : Int) < IntKind.i64.wrap ((↑(IntKind.i64.wrap (md a b + (↑m : Int))).toNat : Int) - (↑(bsN (cutC cmpV (unS (rowS f)) (IntKind.i64.wrap (IntKind.i64.wrap (md a b + (↑m : Int)) - (1 : Int))).toNat) ((↑m : Int).toNat - (↑a : Int).toNat) (↑a : Int).toNat (↑m : Int).toNat) : Int))) then
 bif decide (IntKind.i64.wrap ((↑(IntKind.i64.wrap (md a b + (↑m : Int))).toNat : Int) - (↑(bsN (cutC cmpV (unS (rowS f)) (IntKind.i64.wrap (IntKind.i64.wrap (md a b + (↑m : Int)) - (1 : Int))).toNat) ((↑m : Int).toNat - (↑a : Int).toNat) (↑a : Int).toNat (↑m : Int).toNat) : Int)) < (↑(↑b : Int).toNat : Int)) then
 bif isEn en88 (p88 K) ([AV.row 0 1 0 N, AV.int IntKind.i64 (↑(md a b).toNat : Int), AV.int IntKind.i64 (IntKind.i64.wrap ((↑(IntKind.i64.wrap (md a b + (↑m : Int))).toNat : Int) - (↑(bsN (cutC cmpV (unS (rowS f)) (IntKind.i64.wrap (IntKind.i64.wrap (md a b + (↑m : Int)) - (1 : Int))).toNat) ((↑m : Int).toNat - (↑a : Int).toNat) (↑a : Int).toNat (↑m : Int).toNat) : Int))), AV.int IntKind.i64 (↑(↑b : Int).toNat : Int), AV.fn 8 []], [some (AObj.row 1 N (rowS (unS (rowS f))))]) then
 some ((AV.tup [], [some (AObj.row 1 N (rowS (sortG cmpV (unS (rowS (unS (rowS f)))) (↑(md a b).toNat : Int).toNat (↑(↑b : Int).toNat : Int).toNat)))]))
 else
 none
 else
 some ((AV.tup [], [some (AObj.row 1 N (rowS (unS (rowS f))))]))
 else
 some ((AV.tup [], [some (AObj.row 1 N (rowS (unS (rowS f))))]))
 else
 bif decide ((↑(md a b).toNat : Int) < IntKind.i64.wrap ((↑(IntKind.i64.wrap (md a b + (↑m : Int))).toNat : Int) - (↑(bsN (cutC cmpV (unS (rowS f)) (IntKind.i64.wrap (IntKind.i64.wrap (md a b + (↑m : Int)) - (1 : Int))).toNat) ((↑m : Int).toNat - (↑a : Int).toNat) (↑a : Int).toNat (↑m : Int).toNat) : Int))) then
 bif decide (IntKind.i64.wrap ((↑(IntKind.i64.wrap (md a b + (↑m : Int))).toNat : Int) - (↑(bsN (cutC cmpV (unS (rowS f)) (IntKind.i64.wrap (IntKind.i64.wrap (md a b + (↑m : Int)) - (1 : Int))).toNat) ((↑m : Int).toNat - (↑a : Int).toNat) (↑a : Int).toNat (↑m : Int).toNat) : Int)) < (↑(↑b : Int).toNat : Int)) then
 bif isEn en88 (p88 K) ([AV.row 0 1 0 N, AV.int IntKind.i64 (↑(md a b).toNat : Int), AV.int IntKind.i64 (IntKind.i64.wrap ((↑(IntKind.i64.wrap (md a b + (↑m : Int))).toNat : Int) - (↑(bsN (cutC cmpV (unS (rowS f)) (IntKind.i64.wrap (IntKind.i64.wrap (md a b + (↑m : Int)) - (1 : Int))).toNat) ((↑m : Int).toNat - (↑a : Int).toNat) (↑a : Int).toNat (↑m : Int).toNat) : Int))), AV.int IntKind.i64 (↑(↑b : Int).toNat : Int), AV.fn 8 []], [some (AObj.row 1 N (rowS (unS (rowS f))))]) then
 some ((AV.tup [], [some (AObj.row 1 N (rowS (sortG cmpV (unS (rowS (unS (rowS f)))) (↑(md a b).toNat : Int).toNat (↑(↑b : Int).toNat : Int).toNat)))]))
 else
 none
 else
 some ((AV.tup [], [some (AObj.row 1 N (rowS (unS (rowS f))))]))
 else
 some ((AV.tup [], [some (AObj.row 1 N (rowS (unS (rowS f))))]))
 else
 none:= by kernel_rfl

end Go.Sem
namespace Go.Sem
open Go Go.Proofs Go.Ab
set_option maxRecDepth 100000
set_option linter.unusedVariables false
set_option linter.unusedSimpArgs false

/-! ### symMerge: both halves sorted, the whole is sorted -/
set_option maxHeartbeats 1000000 in
theorem sym_step (K N : Nat) (f : Nat → List UInt8) (a m b : Nat) (hp : p88 (K + 1) ⟨N, f, a, m, b⟩) :
    (evn (tabD4 K) h88 LE88 88 [.row 0 1 0 N, .int .i64 a, .int .i64 m, .int .i64 b, .fn 8 []] [some (.row 1 N (rowS f))]).run = some (.tup [], [some (.row 1 N (rowS (sortG cmpV f a b)))]) := by
  obtain ⟨h1, h2, h3, h4, h5, h6, h7⟩ := hp
  have ht := t88 K N f a m b
  simp only [md] at ht
  have hmid := shr_mid (i := a) (j := b) (by omega)
  have hwn := w64a (a := (a + b) / 2) (b := m) (by omega)
  have hw1 : IntKind.i64.wrap ((((a + b) / 2 + m : Nat) : Int) - 1) = (((a + b) / 2 + m - 1 : Nat) : Int) := by rw [w64 (by omega) (by omega)]; omega
  simp only [hmid, hwn, hw1, w64s (a := m) (b := a) (by omega) (by omega), w64s (a := b) (b := m) (by omega) (by omega), Int.toNat_natCast, unS_rowS] at ht
  rw [ht]
  clear ht
  by_cases c1 : m - a = 1
  · have hm : m = a + 1 := by omega
    subst hm
    rw [cond_chk (show (((a + 1 - a : Nat) : Int) == 1) = true by simp [c1]), kL88 N f a (a + 1) b ⟨by omega, h3, by omega, h4⟩, cond_true]
    have hb := bsN_ok (C := CA f a) (b - (a + 1)) (a + 1) b (Nat.le_refl _) (by omega) (by
      intro c c' q1 q2 q3 hc
      unfold CA at hc ⊢
      rw [decide_eq_true_eq] at hc ⊢
      by_cases e : c = c'
      · subst e; exact hc
      · exact cmpV_ord.lt_of' (srt_seg.1 h7 c c' q1 (by omega) q3) hc)
    rw [kL88_1 N f (bsN (CA f a) (b - (a + 1)) (a + 1) b) a ⟨hb.1, by omega, h4⟩, cond_true]
    rw [ins_front cmpV_ord (show a + 1 < b by omega) h7]
    rfl
  · rw [cond_no (show (((m - a : Nat) : Int) == 1) = false by simp; omega)]
    by_cases c2 : b - m = 1
    · have hb : b = m + 1 := by omega
      subst hb
      rw [cond_chk (show (((m + 1 - m : Nat) : Int) == 1) = true by simp), kL88_2 N f m a m ⟨by omega, by omega, by omega, h4⟩, cond_true]
      have hb := bsN_ok (C := CB f m) (m - a) a m (Nat.le_refl _) (by omega) (by
        intro c c' q1 q2 q3 hc
        unfold CB at hc ⊢
        rw [Bool.not_eq_true', decide_eq_false_iff_not] at hc ⊢
        intro hx
        by_cases e : c = c'
        · subst e; exact hc hx
        · exact hc (cmpV_ord.lt_of hx (srt_seg.1 h6 c c' q1 (by omega) q3)))
      rw [kL88_3 N f (bsN (CB f m) (m - a) a m) m ⟨hb.2.1, by omega, h4⟩, cond_true]
      rw [ins_back cmpV_ord (show a < m by omega) h6]
      rfl
    · rw [cond_no (show (((b - m : Nat) : Int) == 1) = false by simp; omega)]
      -- behind the search both ways go on alike
      have lo1 := cut_of cmpV_ord (f := f) (lo := (a + b) / 2 + m - b) (hi := (a + b) / 2) h1 h2 h6 h7
      have lo2 := cut_of cmpV_ord (f := f) (lo := a) (hi := m) h1 h2 h6 h7
      have mc := fun S => merge_cut cmpV_ord (f := f) (s := S) (Nat.le_of_lt h1) (Nat.le_of_lt h2) h6 h7
      by_cases c3 : m > (a + b) / 2
      · have lo1 := lo1 (.inl ⟨c3, rfl, rfl⟩)
        rw [decide_eq_true (show ((m : Nat) : Int) > (((a + b) / 2 : Nat) : Int) by omega), cond_true]
        simp only [w64s (a := (a + b) / 2 + m) (b := b) (by omega) (by omega), Int.toNat_natCast]
        rw [kL88_4 N f a m b ((a + b) / 2) ((a + b) / 2 + m) ((a + b) / 2 + m - b) ((a + b) / 2) ((a + b) / 2 + m - 1) ⟨by omega, by omega, by omega, by omega, h4⟩, cond_true]
        generalize hS : bsN (cutC cmpV f ((a + b) / 2 + m - 1)) ((a + b) / 2 - ((a + b) / 2 + m - b)) ((a + b) / 2 + m - b) ((a + b) / 2) = S at lo1 ⊢
        have hc := mc S lo1
        have d := lo1
        obtain ⟨d1, d2, d3, d4, d5, d6, d7⟩ := d
        have hwe : IntKind.i64.wrap ((((a + b) / 2 + m : Nat) : Int) - (S : Int)) = (((a + b) / 2 + m - S : Nat) : Int) := w64s (by omega) (by omega)
        simp only [hwe, Int.toNat_natCast, unS_rowS]
        obtain ⟨g1, g2, g3, g4, g5, g6⟩ := cut_facts (mid := (a + b) / 2) (e := (a + b) / 2 + m - S) rfl rfl h1 h2 h6 h7 lo1
        clear lo1 lo2 mc d6 d7 hwe hmid hwn hw1
        generalize hmd : (a + b) / 2 = mid at *
        generalize he : mid + m - S = e at *
        rw [← hc]
        have hrot : ¬ (S < m ∧ m < e) → rotR f S m e = f := fun q => rotR_same (by omega) d2 d4
        have hl : ¬ (a < S ∧ S < mid) → sortG cmpV (rotR f S m e) a mid = rotR f S m e := fun q => sortG_id cmpV_ord (g5 (by omega))
        have hr : ¬ (mid < e ∧ e < b) → sortG cmpV (sortG cmpV (rotR f S m e) a mid) mid b = sortG cmpV (rotR f S m e) a mid := fun q => sortG_id cmpV_ord (by rw [sortG_seg cmpV_ord (Nat.le_refl _)]; exact g6 (by omega))
        have r95 : S < m ∧ m < e → isEn en95 p95 ([AV.row 0 1 0 N, AV.int IntKind.i64 (S : Nat), AV.int IntKind.i64 (m : Nat), AV.int IntKind.i64 (e : Nat), AV.fn 8 []], [some (AObj.row 1 N (rowS f))]) = true := fun q => k95 N f S m e ⟨q.1, q.2, by omega, by simp only [bnd]; omega⟩
        have r1 : a < S ∧ S < mid → isEn en88 (p88 K) ([AV.row 0 1 0 N, AV.int IntKind.i64 (a : Nat), AV.int IntKind.i64 (S : Nat), AV.int IntKind.i64 (mid : Nat), AV.fn 8 []], [some (AObj.row 1 N (rowS (rotR f S m e)))]) = true := fun q => k88 K N _ a S mid ⟨q.1, q.2, by omega, h4, by omega, g1, g2⟩
        have r2 : mid < e ∧ e < b → isEn en88 (p88 K) ([AV.row 0 1 0 N, AV.int IntKind.i64 (mid : Nat), AV.int IntKind.i64 (e : Nat), AV.int IntKind.i64 (b : Nat), AV.fn 8 []], [some (AObj.row 1 N (rowS (sortG cmpV (rotR f S m e) a mid)))]) = true := fun q => k88 K N _ mid e b ⟨q.1, q.2, h3, h4, by omega, by rw [sortG_seg cmpV_ord (Nat.le_refl _)]; exact g3, by rw [sortG_seg cmpV_ord (by omega)]; exact g4⟩
        generalize hG : rotR f S m e = g at *
        have hz : ∀ x y : Nat, decide ((x : Int) < (y : Int)) = decide (x < y) := fun x y => by rw [decide_eq_decide]; omega
        simp only [hz]
        by_cases b1 : S < m
        · by_cases b2 : m < e
          · simp only [decide_eq_true b1, decide_eq_true b2, cond_true, r95 ⟨b1, b2⟩]
            by_cases b3 : a < S
            · by_cases b4 : S < mid
              · simp only [decide_eq_true b3, decide_eq_true b4, cond_true, r1 ⟨b3, b4⟩]
                by_cases b5 : mid < e
                · by_cases b6 : e < b
                  · simp only [decide_eq_true b5, decide_eq_true b6, cond_true, r2 ⟨b5, b6⟩]
                  · simp only [decide_eq_true b5, decide_eq_false b6, cond_true, cond_false, hr (fun q => b6 q.2)]
                · simp only [decide_eq_false b5, cond_false, hr (fun q => b5 q.1)]
              · have hl' := hl (fun q => b4 q.2)
                rw [hl'] at r2 hr ⊢
                simp only [decide_eq_true b3, decide_eq_false b4, cond_true, cond_false]
                by_cases b5 : mid < e
                · by_cases b6 : e < b
                  · simp only [decide_eq_true b5, decide_eq_true b6, cond_true, r2 ⟨b5, b6⟩]
                  · simp only [decide_eq_true b5, decide_eq_false b6, cond_true, cond_false, hr (fun q => b6 q.2)]
                · simp only [decide_eq_false b5, cond_false, hr (fun q => b5 q.1)]
            · have hl' := hl (fun q => b3 q.1)
              rw [hl'] at r2 hr ⊢
              simp only [decide_eq_false b3, cond_false]
              by_cases b5 : mid < e
              · by_cases b6 : e < b
                · simp only [decide_eq_true b5, decide_eq_true b6, cond_true, r2 ⟨b5, b6⟩]
                · simp only [decide_eq_true b5, decide_eq_false b6, cond_true, cond_false, hr (fun q => b6 q.2)]
              · simp only [decide_eq_false b5, cond_false, hr (fun q => b5 q.1)]
          · have hg := hrot (fun q => b2 q.2)
            subst hg
            simp only [decide_eq_true b1, decide_eq_false b2, cond_true, cond_false]
            by_cases b3 : a < S
            · by_cases b4 : S < mid
              · simp only [decide_eq_true b3, decide_eq_true b4, cond_true, r1 ⟨b3, b4⟩]
                by_cases b5 : mid < e
                · by_cases b6 : e < b
                  · simp only [decide_eq_true b5, decide_eq_true b6, cond_true, r2 ⟨b5, b6⟩]
                  · simp only [decide_eq_true b5, decide_eq_false b6, cond_true, cond_false, hr (fun q => b6 q.2)]
                · simp only [decide_eq_false b5, cond_false, hr (fun q => b5 q.1)]
              · have hl' := hl (fun q => b4 q.2)
                rw [hl'] at r2 hr ⊢
                simp only [decide_eq_true b3, decide_eq_false b4, cond_true, cond_false]
                by_cases b5 : mid < e
                · by_cases b6 : e < b
                  · simp only [decide_eq_true b5, decide_eq_true b6, cond_true, r2 ⟨b5, b6⟩]
                  · simp only [decide_eq_true b5, decide_eq_false b6, cond_true, cond_false, hr (fun q => b6 q.2)]
                · simp only [decide_eq_false b5, cond_false, hr (fun q => b5 q.1)]
            · have hl' := hl (fun q => b3 q.1)
              rw [hl'] at r2 hr ⊢
              simp only [decide_eq_false b3, cond_false]
              by_cases b5 : mid < e
              · by_cases b6 : e < b
                · simp only [decide_eq_true b5, decide_eq_true b6, cond_true, r2 ⟨b5, b6⟩]
                · simp only [decide_eq_true b5, decide_eq_false b6, cond_true, cond_false, hr (fun q => b6 q.2)]
              · simp only [decide_eq_false b5, cond_false, hr (fun q => b5 q.1)]
        · have hg := hrot (fun q => b1 q.1)
          subst hg
          simp only [decide_eq_false b1, cond_false]
          by_cases b3 : a < S
          · by_cases b4 : S < mid
            · simp only [decide_eq_true b3, decide_eq_true b4, cond_true, r1 ⟨b3, b4⟩]
              by_cases b5 : mid < e
              · by_cases b6 : e < b
                · simp only [decide_eq_true b5, decide_eq_true b6, cond_true, r2 ⟨b5, b6⟩]
                · simp only [decide_eq_true b5, decide_eq_false b6, cond_true, cond_false, hr (fun q => b6 q.2)]
              · simp only [decide_eq_false b5, cond_false, hr (fun q => b5 q.1)]
            · have hl' := hl (fun q => b4 q.2)
              rw [hl'] at r2 hr ⊢
              simp only [decide_eq_true b3, decide_eq_false b4, cond_true, cond_false]
              by_cases b5 : mid < e
              · by_cases b6 : e < b
                · simp only [decide_eq_true b5, decide_eq_true b6, cond_true, r2 ⟨b5, b6⟩]
                · simp only [decide_eq_true b5, decide_eq_false b6, cond_true, cond_false, hr (fun q => b6 q.2)]
              · simp only [decide_eq_false b5, cond_false, hr (fun q => b5 q.1)]
          · have hl' := hl (fun q => b3 q.1)
            rw [hl'] at r2 hr ⊢
            simp only [decide_eq_false b3, cond_false]
            by_cases b5 : mid < e
            · by_cases b6 : e < b
              · simp only [decide_eq_true b5, decide_eq_true b6, cond_true, r2 ⟨b5, b6⟩]
              · simp only [decide_eq_true b5, decide_eq_false b6, cond_true, cond_false, hr (fun q => b6 q.2)]
            · simp only [decide_eq_false b5, cond_false, hr (fun q => b5 q.1)]
      · have lo2 := lo2 (.inr ⟨by omega, rfl, rfl⟩)
        rw [decide_eq_false (show ¬ ((m : Nat) : Int) > (((a + b) / 2 : Nat) : Int) by omega), cond_false]
        rw [kL88_4 N f a m b ((a + b) / 2) ((a + b) / 2 + m) a m ((a + b) / 2 + m - 1) ⟨by omega, by omega, by omega, by omega, h4⟩, cond_true]
        generalize hS : bsN (cutC cmpV f ((a + b) / 2 + m - 1)) (m - a) a m = S at lo2 ⊢
        have hc := mc S lo2
        have d := lo2
        obtain ⟨d1, d2, d3, d4, d5, d6, d7⟩ := d
        have hwe : IntKind.i64.wrap ((((a + b) / 2 + m : Nat) : Int) - (S : Int)) = (((a + b) / 2 + m - S : Nat) : Int) := w64s (by omega) (by omega)
        simp only [hwe, Int.toNat_natCast, unS_rowS]
        obtain ⟨g1, g2, g3, g4, g5, g6⟩ := cut_facts (mid := (a + b) / 2) (e := (a + b) / 2 + m - S) rfl rfl h1 h2 h6 h7 lo2
        clear lo2 lo1 mc d6 d7 hwe hmid hwn hw1
        generalize hmd : (a + b) / 2 = mid at *
        generalize he : mid + m - S = e at *
        rw [← hc]
        have hrot : ¬ (S < m ∧ m < e) → rotR f S m e = f := fun q => rotR_same (by omega) d2 d4
        have hl : ¬ (a < S ∧ S < mid) → sortG cmpV (rotR f S m e) a mid = rotR f S m e := fun q => sortG_id cmpV_ord (g5 (by omega))
        have hr : ¬ (mid < e ∧ e < b) → sortG cmpV (sortG cmpV (rotR f S m e) a mid) mid b = sortG cmpV (rotR f S m e) a mid := fun q => sortG_id cmpV_ord (by rw [sortG_seg cmpV_ord (Nat.le_refl _)]; exact g6 (by omega))
        have r95 : S < m ∧ m < e → isEn en95 p95 ([AV.row 0 1 0 N, AV.int IntKind.i64 (S : Nat), AV.int IntKind.i64 (m : Nat), AV.int IntKind.i64 (e : Nat), AV.fn 8 []], [some (AObj.row 1 N (rowS f))]) = true := fun q => k95 N f S m e ⟨q.1, q.2, by omega, by simp only [bnd]; omega⟩
        have r1 : a < S ∧ S < mid → isEn en88 (p88 K) ([AV.row 0 1 0 N, AV.int IntKind.i64 (a : Nat), AV.int IntKind.i64 (S : Nat), AV.int IntKind.i64 (mid : Nat), AV.fn 8 []], [some (AObj.row 1 N (rowS (rotR f S m e)))]) = true := fun q => k88 K N _ a S mid ⟨q.1, q.2, by omega, h4, by omega, g1, g2⟩
        have r2 : mid < e ∧ e < b → isEn en88 (p88 K) ([AV.row 0 1 0 N, AV.int IntKind.i64 (mid : Nat), AV.int IntKind.i64 (e : Nat), AV.int IntKind.i64 (b : Nat), AV.fn 8 []], [some (AObj.row 1 N (rowS (sortG cmpV (rotR f S m e) a mid)))]) = true := fun q => k88 K N _ mid e b ⟨q.1, q.2, h3, h4, by omega, by rw [sortG_seg cmpV_ord (Nat.le_refl _)]; exact g3, by rw [sortG_seg cmpV_ord (by omega)]; exact g4⟩
        generalize hG : rotR f S m e = g at *
        have hz : ∀ x y : Nat, decide ((x : Int) < (y : Int)) = decide (x < y) := fun x y => by rw [decide_eq_decide]; omega
        simp only [hz]
        by_cases b1 : S < m
        · by_cases b2 : m < e
          · simp only [decide_eq_true b1, decide_eq_true b2, cond_true, r95 ⟨b1, b2⟩]
            by_cases b3 : a < S
            · by_cases b4 : S < mid
              · simp only [decide_eq_true b3, decide_eq_true b4, cond_true, r1 ⟨b3, b4⟩]
                by_cases b5 : mid < e
                · by_cases b6 : e < b
                  · simp only [decide_eq_true b5, decide_eq_true b6, cond_true, r2 ⟨b5, b6⟩]
                  · simp only [decide_eq_true b5, decide_eq_false b6, cond_true, cond_false, hr (fun q => b6 q.2)]
                · simp only [decide_eq_false b5, cond_false, hr (fun q => b5 q.1)]
              · have hl' := hl (fun q => b4 q.2)
                rw [hl'] at r2 hr ⊢
                simp only [decide_eq_true b3, decide_eq_false b4, cond_true, cond_false]
                by_cases b5 : mid < e
                · by_cases b6 : e < b
                  · simp only [decide_eq_true b5, decide_eq_true b6, cond_true, r2 ⟨b5, b6⟩]
                  · simp only [decide_eq_true b5, decide_eq_false b6, cond_true, cond_false, hr (fun q => b6 q.2)]
                · simp only [decide_eq_false b5, cond_false, hr (fun q => b5 q.1)]
            · have hl' := hl (fun q => b3 q.1)
              rw [hl'] at r2 hr ⊢
              simp only [decide_eq_false b3, cond_false]
              by_cases b5 : mid < e
              · by_cases b6 : e < b
                · simp only [decide_eq_true b5, decide_eq_true b6, cond_true, r2 ⟨b5, b6⟩]
                · simp only [decide_eq_true b5, decide_eq_false b6, cond_true, cond_false, hr (fun q => b6 q.2)]
              · simp only [decide_eq_false b5, cond_false, hr (fun q => b5 q.1)]
          · have hg := hrot (fun q => b2 q.2)
            subst hg
            simp only [decide_eq_true b1, decide_eq_false b2, cond_true, cond_false]
            by_cases b3 : a < S
            · by_cases b4 : S < mid
              · simp only [decide_eq_true b3, decide_eq_true b4, cond_true, r1 ⟨b3, b4⟩]
                by_cases b5 : mid < e
                · by_cases b6 : e < b
                  · simp only [decide_eq_true b5, decide_eq_true b6, cond_true, r2 ⟨b5, b6⟩]
                  · simp only [decide_eq_true b5, decide_eq_false b6, cond_true, cond_false, hr (fun q => b6 q.2)]
                · simp only [decide_eq_false b5, cond_false, hr (fun q => b5 q.1)]
              · have hl' := hl (fun q => b4 q.2)
                rw [hl'] at r2 hr ⊢
                simp only [decide_eq_true b3, decide_eq_false b4, cond_true, cond_false]
                by_cases b5 : mid < e
                · by_cases b6 : e < b
                  · simp only [decide_eq_true b5, decide_eq_true b6, cond_true, r2 ⟨b5, b6⟩]
                  · simp only [decide_eq_true b5, decide_eq_false b6, cond_true, cond_false, hr (fun q => b6 q.2)]
                · simp only [decide_eq_false b5, cond_false, hr (fun q => b5 q.1)]
            · have hl' := hl (fun q => b3 q.1)
              rw [hl'] at r2 hr ⊢
              simp only [decide_eq_false b3, cond_false]
              by_cases b5 : mid < e
              · by_cases b6 : e < b
                · simp only [decide_eq_true b5, decide_eq_true b6, cond_true, r2 ⟨b5, b6⟩]
                · simp only [decide_eq_true b5, decide_eq_false b6, cond_true, cond_false, hr (fun q => b6 q.2)]
              · simp only [decide_eq_false b5, cond_false, hr (fun q => b5 q.1)]
        · have hg := hrot (fun q => b1 q.1)
          subst hg
          simp only [decide_eq_false b1, cond_false]
          by_cases b3 : a < S
          · by_cases b4 : S < mid
            · simp only [decide_eq_true b3, decide_eq_true b4, cond_true, r1 ⟨b3, b4⟩]
              by_cases b5 : mid < e
              · by_cases b6 : e < b
                · simp only [decide_eq_true b5, decide_eq_true b6, cond_true, r2 ⟨b5, b6⟩]
                · simp only [decide_eq_true b5, decide_eq_false b6, cond_true, cond_false, hr (fun q => b6 q.2)]
              · simp only [decide_eq_false b5, cond_false, hr (fun q => b5 q.1)]
            · have hl' := hl (fun q => b4 q.2)
              rw [hl'] at r2 hr ⊢
              simp only [decide_eq_true b3, decide_eq_false b4, cond_true, cond_false]
              by_cases b5 : mid < e
              · by_cases b6 : e < b
                · simp only [decide_eq_true b5, decide_eq_true b6, cond_true, r2 ⟨b5, b6⟩]
                · simp only [decide_eq_true b5, decide_eq_false b6, cond_true, cond_false, hr (fun q => b6 q.2)]
              · simp only [decide_eq_false b5, cond_false, hr (fun q => b5 q.1)]
          · have hl' := hl (fun q => b3 q.1)
            rw [hl'] at r2 hr ⊢
            simp only [decide_eq_false b3, cond_false]
            by_cases b5 : mid < e
            · by_cases b6 : e < b
              · simp only [decide_eq_true b5, decide_eq_true b6, cond_true, r2 ⟨b5, b6⟩]
              · simp only [decide_eq_true b5, decide_eq_false b6, cond_true, cond_false, hr (fun q => b6 q.2)]
            · simp only [decide_eq_false b5, cond_false, hr (fun q => b5 q.1)]

theorem fiveLoops {f : FuncId} {Φ : Nat → Prop} (h : (loopsOf (bodyOf Tryd.prog f)).length = 5) (h0 : Φ 0) (h1 : Φ 1) (h2 : Φ 2) (h3 : Φ 3) (h4 : Φ 4) : ∀ i, i < (loopsOf (bodyOf Tryd.prog f)).length → Φ i := fun i hi => by
  rcases (by omega : i = 0 ∨ i = 1 ∨ i = 2 ∨ i = 3 ∨ i = 4) with rfl | rfl | rfl | rfl | rfl
  · exact h0
  · exact h1
  · exact h2
  · exact h3
  · exact h4
theorem s88n : ∀ K : Nat, Sound1 Tryd.prog ⟨88, false, gcon (c88 K)⟩
  | 0 => by
    refine sound_mem ok_tabD3 (hn := h88) (m := 20) (k := 9) (Λ := noLoops) (fun _ _ _ _ _ i hi => anyLoopsB) fun args hs r hs' hF hH hr => ?_
    obtain ⟨⟨N, f, a, m, b⟩, _, hp, _⟩ := ccon_run in88 hr
    obtain ⟨h1, h2, _, _, h5, _⟩ := hp
    omega
  | K + 1 => by
    refine sound_cm (soundTab_of (sound_mem_tab (s88n K) all_tabD3)) in88 (hn := h88) (m := 20) (k := 9) (Λ := LE88) (fun x _ => fiveLoops (by kernel_rfl) (l88 K) (l88_1 K) (l88_2 K) (l88_3 K) (l88_4 K)) ?_
    rintro ⟨N, f, a, m, b⟩ hp hF hH
    exact sym_step K N f a m b hp
def pS88 : X88 → Prop := fun ⟨N, f, a, m, b⟩ => a < m ∧ m < b ∧ b ≤ N ∧ N ≤ 1152921504606846976 ∧ Srt cmpV (seg f a m) ∧ Srt cmpV (seg f m b)
noncomputable def cS88 : List AV → Hp → T (AV × Hp) := mcon en88 de88 pS88 rs88
theorem kS88 (N : Nat) (f : Nat → List UInt8) (a m b : Nat) (h : a < m ∧ m < b ∧ b ≤ N ∧ N ≤ 1152921504606846976 ∧ Srt cmpV (seg f a m) ∧ Srt cmpV (seg f m b)) : isEn en88 pS88 ([.row 0 1 0 N, .int .i64 a, .int .i64 m, .int .i64 b, .fn 8 []], [some (.row 1 N (rowS f))]) = true := isEn_true (enc := en88) (p := pS88) ⟨N, f, a, m, b⟩ h
theorem sS88 : Sound1 Tryd.prog ⟨88, false, gcon cS88⟩ := by
  refine sound_all s88n fun args hs r hr => ?_
  obtain ⟨⟨N, f, a, m, b⟩, he, ⟨h1, h2, h3, h4, h6, h7⟩, hr2⟩ := ccon_run in88 hr
  refine ⟨b - a, ?_⟩
  show (ccon en88 de88 (p88 (b - a)) rs88 (args, hs)).run = some r
  rw [he]
  unfold ccon
  have hi : isEn en88 (p88 (b - a)) (en88 ⟨N, f, a, m, b⟩) = true := isEn_true _ ⟨h1, h2, h3, h4, Nat.le_refl _, h6, h7⟩
  rw [T.run_chk, if_pos hi, in88]
  exact hr2
end Go.Sem

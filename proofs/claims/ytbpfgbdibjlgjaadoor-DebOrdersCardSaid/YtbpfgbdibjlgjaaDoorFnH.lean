/- Lemmas for the claims of this seat (a verified symbolic evaluator, and contracts of functions): own work; no condition. -/
import Derived.Test.YtbpfgbdibjlgjaaDoorFnF
import Derived.Test.YtbpfgbdibjlgjaaDoorEvF
namespace Go.Deb

open Go Go.Proofs Go.Ab

set_option maxRecDepth 100000

set_option linter.unusedVariables false

set_option linter.unusedSimpArgs false

/-! ### For the sort's texts -/

theorem all_tabBB : ∀ e, e ∈ tabBB → Sound1 Tryd.prog e := allBB

theorem anyLoopsB {t : Tab} {H : Nat → Hd} {hn : HintsT} {f : FuncId} {i b : Nat} : LoopOk Tryd.prog t.pf H hn.to f b none noLoops (loopAt Tryd.prog f i) := by
  generalize loopAt Tryd.prog f i = c
  cases c with
  | loop c => exact fun l hl => by cases hl
  | rangeFunc _ _ _ _ => exact fun l hl => by cases hl
  | _ => trivial

theorem nat_beqI (a b : Nat) : ((a : Int) == (b : Int)) = (a == b) := by
  rw [Bool.eq_iff_iff, beq_iff_eq, beq_iff_eq]; omega

def fbad (q : Nat → Bool) : Nat → Nat → Nat
  | 0, i => i
  | k + 1, i => bif q i then fbad q k (i + 1) else i

theorem fbad_step {q : Nat → Bool} {n i : Nat} (h : i < n) : fbad q (n - i) i = bif q i then fbad q (n - (i + 1)) (i + 1) else i := by
  obtain ⟨k, hk⟩ : ∃ k, n - i = k + 1 := ⟨n - i - 1, by omega⟩
  rw [hk, show n - (i + 1) = k by omega]
  rfl

end Go.Deb
namespace Go.Deb

open Go Go.Proofs Go.Ab

set_option maxRecDepth 100000

set_option linter.unusedVariables false

set_option linter.unusedSimpArgs false

theorem cmpX_ord : IsOrd compareD := ⟨compareD_cmp.anti, compareD_cmp.tr, compareD_cmp.eqr⟩

/-! ### swapRange -/

structure Y87 where
  N : Nat
  f : Nat → List UInt8
  a : Nat
  b : Nat
  n : Nat
  i : Nat

def eL87 : Y87 → List AV × Hp := fun ⟨N, f, a, b, n, i⟩ => ([.row 0 1 0 N, .int .i64 a, .int .i64 b, .int .i64 n, .int .i64 i], [some (.row 1 N (rowS f))])

def dL87 : List AV × Hp → Y87
  | ([.row _ _ _ N, .int .i64 a, .int .i64 b, .int .i64 n, .int .i64 i], [some (.row _ _ f_g)]) => ⟨N, unS f_g, a.toNat, b.toNat, n.toNat, i.toNat⟩
  | _ => ⟨default, default, default, default, default, default⟩

def pL87 : Y87 → Prop := fun ⟨N, f, a, b, n, i⟩ => i ≤ n ∧ a + n ≤ b ∧ b + n ≤ N ∧ N ≤ bnd

def rL87 : Y87 → T (AX × St) := fun ⟨N, f, a, b, n, i⟩ => .leaf (.exit 0, { tm := tmOf 38 [(0, .row 0 1 0 N), (1, .int .i64 a), (2, .int .i64 b), (3, .int .i64 n), (10, .int .i64 n), (13, .bool false)], ms := [], hp := [some (.row 1 N (rowS (swpR f (a + i) (b + i) (n - i))))] })

noncomputable def L87 : LoopT := fun k => match Nat.beq k 100040 with
  | true => some (lccon (mbits 1039 38) eL87 dL87 pL87 rL87)
  | false => none

theorem iL87 : ∀ x, dL87 (eL87 x) = x := by
  rintro ⟨N, f, a, b, n, i⟩
  simp only [eL87, dL87, Int.toNat_natCast, unS_rowS]

theorem kL87 (N : Nat) (f : Nat → List UInt8) (a : Nat) (b : Nat) (n : Nat) (i : Nat) (h : i ≤ n ∧ a + n ≤ b ∧ b + n ≤ N ∧ N ≤ bnd) : isEn eL87 pL87 ([.row 0 1 0 N, .int .i64 a, .int .i64 b, .int .i64 n, .int .i64 i], [some (.row 1 N (rowS f))]) = true := isEn_true (enc := eL87) (p := pL87) ⟨N, f, a, b, n, i⟩ h

theorem zL87 (N : Nat) (f : Nat → List UInt8) (a : Nat) (b : Nat) (n : Nat) (h : pL87 ⟨N, f, a, b, n, 0⟩) : isEn eL87 pL87 ([.row 0 1 0 N, .int .i64 a, .int .i64 b, .int .i64 n, .int .i64 (0 : Int)], [some (.row 1 N (rowS f))]) = true := isEn_true (enc := eL87) (p := pL87) ⟨N, f, a, b, n, 0⟩ h

theorem q87 (N : Nat) (f : Nat → List UInt8) (a : Nat) (b : Nat) (n : Nat) (i : Nat) : (rdn tabBB h87 L87 87 1 0 { tm := encGo (mbits 1039 38) [.row 0 1 0 N, .int .i64 a, .int .i64 b, .int .i64 n, .int .i64 i], ms := [], hp := [some (.row 1 N (rowS f))] }).run =
  bif decide ((↑i : Int) < (↑n : Int)) then
   bif decide ((0 : Int) ≤ IntKind.i64.wrap ((↑b : Int) + (↑i : Int)) ∧ IntKind.i64.wrap ((↑b : Int) + (↑i : Int)) < (↑N : Int)) then
    bif decide (0 + (IntKind.i64.wrap ((↑b : Int) + (↑i : Int))).toNat < N) then
     bif decide ((0 : Int) ≤ IntKind.i64.wrap ((↑a : Int) + (↑i : Int)) ∧ IntKind.i64.wrap ((↑a : Int) + (↑i : Int)) < (↑N : Int)) then
      bif decide (0 + (IntKind.i64.wrap ((↑a : Int) + (↑i : Int))).toNat < N) then
       bif decide ((0 : Int) ≤ IntKind.i64.wrap ((↑a : Int) + (↑i : Int)) ∧ IntKind.i64.wrap ((↑a : Int) + (↑i : Int)) < (↑N : Int)) then
        bif decide (0 + (IntKind.i64.wrap ((↑a : Int) + (↑i : Int))).toNat < N) then
         bif decide ((0 : Int) ≤ IntKind.i64.wrap ((↑b : Int) + (↑i : Int)) ∧ IntKind.i64.wrap ((↑b : Int) + (↑i : Int)) < (↑N : Int)) then
          bif decide (0 + (IntKind.i64.wrap ((↑b : Int) + (↑i : Int))).toNat < N) then
           some ((AX.normal, { tm := tmOf 38 [(0, AV.row 0 1 0 N), (1, AV.int IntKind.i64 (↑a : Int)), (2, AV.int IntKind.i64 (↑b : Int)), (3, AV.int IntKind.i64 (↑n : Int)), (10, AV.int IntKind.i64 (IntKind.i64.wrap ((↑i : Int) + (1 : Int))))], ms := [], hp := [some (AObj.row 1 N (updf 1 (updf 1 (rowS f) (0 + (IntKind.i64.wrap ((↑a : Int) + (↑i : Int))).toNat) 0 [AV.str (f (0 + (IntKind.i64.wrap ((↑b : Int) + (↑i : Int))).toNat))]) (0 + (IntKind.i64.wrap ((↑b : Int) + (↑i : Int))).toNat) 0 [AV.str (f (0 + (IntKind.i64.wrap ((↑a : Int) + (↑i : Int))).toNat))]))] }))
          else
           none
         else
          none
        else
         none
       else
        none
      else
       none
     else
      none
    else
     none
   else
    none
  else
   some ((AX.exit 0, { tm := tmOf 38 [(0, AV.row 0 1 0 N), (1, AV.int IntKind.i64 (↑a : Int)), (2, AV.int IntKind.i64 (↑b : Int)), (3, AV.int IntKind.i64 (↑n : Int)), (10, AV.int IntKind.i64 (↑i : Int)), (13, AV.bool false)], ms := [], hp := [some (AObj.row 1 N (rowS f))] })) := by kernel_rfl

theorem l87 : LoopOk Tryd.prog tabBB.pf (fun n => hd Tryd.prog tabBB.pf tabBB.con.run (fun f => (H0 f).to) n 9) h87.to 87 1 none L87 (loopAt Tryd.prog 87 0) := by
  rw [show loopAt Tryd.prog 87 0 = .loop (lbody Tryd.prog 87 0) by kernel_rfl]
  refine loop_c (hdT_le (m := 20) 9) (m := 20) (lv := mbits 1039 38) (p := pL87) (res := rL87) iL87 (within_of _ (by rw [show loopsOf (lbody Tryd.prog 87 0) = [] by kernel_rfl]; simp)) (by kernel_rfl) (fun ⟨N, f, a, b, n, i⟩ => n - i) ?_
  rintro ⟨N, f, a, b, n, i⟩ hp
  have ht := q87 N f a b n i
  obtain ⟨h1, h2, h3, h4⟩ := hp
  simp only [bnd] at h4
  by_cases hl : i < n
  · rw [decide_eq_true (show (i : Int) < n by omega), w64a (by omega), w64a (by omega), w64n (by omega), in_row (show b + i < N by omega), in_row (show a + i < N by omega)] at ht
    simp only [Int.toNat_natCast, Nat.zero_add, cond_true, decide_eq_true (show b + i < N by omega), decide_eq_true (show a + i < N by omega), updS2] at ht
    left
    refine ⟨⟨N, sw f (a + i) (b + i), a, b, n, i + 1⟩, ⟨by omega, h2, h3, by simpa only [bnd] using h4⟩, by simp only; omega, ?_, ht⟩
    simp only [rL87, T.run_leaf]
    obtain ⟨k, hk⟩ : ∃ k, n - i = k + 1 := ⟨n - i - 1, by omega⟩
    rw [hk, show n - (i + 1) = k by omega, ← swpR_head (show a + i + k < b + i by omega)]
    rfl
  · right
    rw [decide_eq_false (show ¬ (i : Int) < n by omega)] at ht
    have he : i = n := by omega
    subst he
    refine ⟨_, ?_, ?_, ht⟩
    · simp
    · simp only [rL87, T.run_leaf, Nat.sub_self, swpR_zero] <;> rfl

theorem t87 (N : Nat) (f : Nat → List UInt8) (a : Nat) (b : Nat) (n : Nat) : (evn tabBB h87 L87 87 [.row 0 1 0 N, .int .i64 a, .int .i64 b, .int .i64 n, .fn 12 []] [some (.row 1 N (rowS f))]).run =
  bif isEn eL87 pL87 ([AV.row 0 1 0 N, AV.int IntKind.i64 (↑a : Int), AV.int IntKind.i64 (↑b : Int), AV.int IntKind.i64 (↑n : Int), AV.int IntKind.i64 (0 : Int)], [some (AObj.row 1 N (rowS f))]) then
   some ((AV.tup [], [some (AObj.row 1 N (rowS (swpR (unS (rowS f)) ((↑a : Int).toNat + 0) ((↑b : Int).toNat + 0) ((↑n : Int).toNat - 0))))]))
  else
   none := by kernel_rfl

structure X87 where
  N : Nat
  f : Nat → List UInt8
  a : Nat
  b : Nat
  n : Nat

def en87 : X87 → List AV × Hp := fun ⟨N, f, a, b, n⟩ => ([.row 0 1 0 N, .int .i64 a, .int .i64 b, .int .i64 n, .fn 12 []], [some (.row 1 N (rowS f))])

def de87 : List AV × Hp → X87
  | ([.row _ _ _ N, .int .i64 a, .int .i64 b, .int .i64 n, .fn _ _], [some (.row _ _ f_g)]) => ⟨N, unS f_g, a.toNat, b.toNat, n.toNat⟩
  | _ => ⟨default, default, default, default, default⟩

def p87 : X87 → Prop := fun ⟨N, f, a, b, n⟩ => a + n ≤ b ∧ b + n ≤ N ∧ N ≤ bnd

def rs87 : X87 → T (AV × Hp) := fun ⟨N, f, a, b, n⟩ => .leaf (.tup [], [some (.row 1 N (rowS (swpR f a b n)))])

noncomputable def c87 : List AV → Hp → T (AV × Hp) := mcon en87 de87 p87 rs87

theorem in87 : ∀ x, de87 (en87 x) = x := by
  rintro ⟨N, f, a, b, n⟩
  simp only [en87, de87, Int.toNat_natCast, unS_rowS]

theorem k87 (N : Nat) (f : Nat → List UInt8) (a : Nat) (b : Nat) (n : Nat) (h : a + n ≤ b ∧ b + n ≤ N ∧ N ≤ bnd) : isEn en87 p87 ([.row 0 1 0 N, .int .i64 a, .int .i64 b, .int .i64 n, .fn 12 []], [some (.row 1 N (rowS f))]) = true := isEn_true (enc := en87) (p := p87) ⟨N, f, a, b, n⟩ h

theorem e87 (N : Nat) (f : Nat → List UInt8) (a : Nat) (b : Nat) (n : Nat) (hF : FitsL [.row 0 1 0 N, .int .i64 a, .int .i64 b, .int .i64 n, .fn 12 []]) (hH : FitsH [some (.row 1 N (rowS f))]) (hp : a + n ≤ b ∧ b + n ≤ N ∧ N ≤ bnd) : (evn tabBB h87 L87 87 [.row 0 1 0 N, .int .i64 a, .int .i64 b, .int .i64 n, .fn 12 []] [some (.row 1 N (rowS f))]).run = (.leaf (.tup [], [some (.row 1 N (rowS (swpR f a b n)))]) : T (AV × Hp)).run := by
  refine (t87 N f a b n).trans ?_
  refine (cond_chk (kL87 N f a b n 0 ⟨Nat.zero_le _, hp.1, hp.2.1, hp.2.2⟩)).trans ?_
  rfl

theorem s87 : Sound1 Tryd.prog ⟨87, false, gcon c87⟩ := by
  refine sound_cm (soundTab_of all_tabBB) in87 (hn := h87) (m := 20) (k := 9) (Λ := L87) (fun _ _ => oneLoop (by kernel_rfl) l87) ?_
  rintro ⟨N, f, a, b, n⟩ hp hF hH
  exact e87 N f a b n hF hH hp

noncomputable def tabD1 : Tab := ⟨87, false, gcon c87⟩ :: tabBB

theorem all_tabD1 : ∀ e, e ∈ tabD1 → Sound1 Tryd.prog e := (sound_mem_tab s87 all_tabBB)

theorem ok_tabD1 : SoundTab Tryd.prog tabD1 := soundTab_of all_tabD1

/-! ### rotate -/

structure Y81 where
  N : Nat
  f : Nat → List UInt8
  m : Nat
  i : Nat
  j : Nat

def eL81 : Y81 → List AV × Hp := fun ⟨N, f, m, i, j⟩ => ([.row 0 1 0 N, .int .i64 m, .fn 12 [], .int .i64 i, .int .i64 j], [some (.row 1 N (rowS f))])

def dL81 : List AV × Hp → Y81
  | ([.row _ _ _ N, .int .i64 m, .fn _ _, .int .i64 i, .int .i64 j], [some (.row _ _ f_g)]) => ⟨N, unS f_g, m.toNat, i.toNat, j.toNat⟩
  | _ => ⟨default, default, default, default, default⟩

def pL81 : Y81 → Prop := fun ⟨N, f, m, i, j⟩ => 0 < i ∧ 0 < j ∧ i ≤ m ∧ m + j ≤ N ∧ N ≤ bnd

def rL81 : Y81 → T (AX × St) := fun ⟨N, f, m, i, j⟩ => .leaf (.exit 0, { tm := tmOf 58 [(0, .row 0 1 0 N), (2, .int .i64 m), (4, .fn 12 []), (10, .int .i64 (rotM (i + j) f m i j).2), (11, .int .i64 (rotM (i + j) f m i j).2), (20, .bool false)], ms := [], hp := [some (.row 1 N (rowS (rotM (i + j) f m i j).1))] })

noncomputable def L81 : LoopT := fun k => match Nat.beq k 200050 with
  | true => some (lccon (mbits 3093 58) eL81 dL81 pL81 rL81)
  | false => none

theorem iL81 : ∀ x, dL81 (eL81 x) = x := by
  rintro ⟨N, f, m, i, j⟩
  simp only [eL81, dL81, Int.toNat_natCast, unS_rowS]

theorem kL81 (N : Nat) (f : Nat → List UInt8) (m : Nat) (i : Nat) (j : Nat) (h : 0 < i ∧ 0 < j ∧ i ≤ m ∧ m + j ≤ N ∧ N ≤ bnd) : isEn eL81 pL81 ([.row 0 1 0 N, .int .i64 m, .fn 12 [], .int .i64 i, .int .i64 j], [some (.row 1 N (rowS f))]) = true := isEn_true (enc := eL81) (p := pL81) ⟨N, f, m, i, j⟩ h

theorem zL81 (N : Nat) (f : Nat → List UInt8) (m : Nat) (i : Nat) (h : pL81 ⟨N, f, m, i, 0⟩) : isEn eL81 pL81 ([.row 0 1 0 N, .int .i64 m, .fn 12 [], .int .i64 i, .int .i64 (0 : Int)], [some (.row 1 N (rowS f))]) = true := isEn_true (enc := eL81) (p := pL81) ⟨N, f, m, i, 0⟩ h

theorem q81 (N : Nat) (f : Nat → List UInt8) (m : Nat) (i : Nat) (j : Nat) : (rdn tabD1 h81 L81 81 1 0 { tm := encGo (mbits 3093 58) [.row 0 1 0 N, .int .i64 m, .fn 12 [], .int .i64 i, .int .i64 j], ms := [], hp := [some (.row 1 N (rowS f))] }).run =
  bif (↑i : Int) != (↑j : Int) then
   bif decide ((↑i : Int) > (↑j : Int)) then
    bif isEn en87 p87 ([AV.row 0 1 0 N, AV.int IntKind.i64 (IntKind.i64.wrap ((↑m : Int) - (↑i : Int))), AV.int IntKind.i64 (↑m : Int), AV.int IntKind.i64 (↑j : Int), AV.fn 12 []], [some (AObj.row 1 N (rowS f))]) then
     some ((AX.normal, { tm := tmOf 58 [(0, AV.row 0 1 0 N), (2, AV.int IntKind.i64 (↑m : Int)), (4, AV.fn 12 []), (10, AV.int IntKind.i64 (IntKind.i64.wrap ((↑i : Int) - (↑j : Int)))), (11, AV.int IntKind.i64 (↑j : Int))], ms := [], hp := [some (AObj.row 1 N (rowS (swpR (unS (rowS f)) (IntKind.i64.wrap ((↑m : Int) - (↑i : Int))).toNat (↑m : Int).toNat (↑j : Int).toNat)))] }))
    else
     none
   else
    bif isEn en87 p87 ([AV.row 0 1 0 N, AV.int IntKind.i64 (IntKind.i64.wrap ((↑m : Int) - (↑i : Int))), AV.int IntKind.i64 (IntKind.i64.wrap (IntKind.i64.wrap ((↑m : Int) + (↑j : Int)) - (↑i : Int))), AV.int IntKind.i64 (↑i : Int), AV.fn 12 []], [some (AObj.row 1 N (rowS f))]) then
     some ((AX.normal, { tm := tmOf 58 [(0, AV.row 0 1 0 N), (2, AV.int IntKind.i64 (↑m : Int)), (4, AV.fn 12 []), (10, AV.int IntKind.i64 (↑i : Int)), (11, AV.int IntKind.i64 (IntKind.i64.wrap ((↑j : Int) - (↑i : Int))))], ms := [], hp := [some (AObj.row 1 N (rowS (swpR (unS (rowS f)) (IntKind.i64.wrap ((↑m : Int) - (↑i : Int))).toNat (IntKind.i64.wrap (IntKind.i64.wrap ((↑m : Int) + (↑j : Int)) - (↑i : Int))).toNat (↑i : Int).toNat)))] }))
    else
     none
  else
   some ((AX.exit 0, { tm := tmOf 58 [(0, AV.row 0 1 0 N), (2, AV.int IntKind.i64 (↑m : Int)), (4, AV.fn 12 []), (10, AV.int IntKind.i64 (↑i : Int)), (11, AV.int IntKind.i64 (↑j : Int)), (20, AV.bool false)], ms := [], hp := [some (AObj.row 1 N (rowS f))] })) := by kernel_rfl

theorem l81 : LoopOk Tryd.prog tabD1.pf (fun n => hd Tryd.prog tabD1.pf tabD1.con.run (fun f => (H0 f).to) n 9) h81.to 81 1 none L81 (loopAt Tryd.prog 81 0) := by
  rw [show loopAt Tryd.prog 81 0 = .loop (lbody Tryd.prog 81 0) by kernel_rfl]
  refine loop_c (hdT_le (m := 20) 9) (m := 20) (lv := mbits 3093 58) (p := pL81) (res := rL81) iL81 (within_of _ (by rw [show loopsOf (lbody Tryd.prog 81 0) = [] by kernel_rfl]; simp)) (by kernel_rfl) (fun ⟨N, f, m, i, j⟩ => i + j) ?_
  rintro ⟨N, f, m, i, j⟩ hp
  have ht := q81 N f m i j
  obtain ⟨h1, h2, h3, h4, h5⟩ := hp
  simp only [bnd] at h5
  have hs := rotM_step (f := f) (m := m) h1 h2
  by_cases he : i = j
  · subst he
    rw [if_pos rfl] at hs
    rw [cond_no (by simp)] at ht
    right
    refine ⟨_, ?_, ?_, ht⟩
    · simp
    · simp only [rL81, T.run_leaf, hs]
  · rw [if_neg he] at hs
    rw [cond_chk (show ((i : Int) != (j : Int)) = true by simp; omega)] at ht
    left
    by_cases hl : j < i
    · rw [if_pos hl] at hs
      rw [decide_eq_true (show (i : Int) > j by omega), w64s (by omega) (by omega), w64s (by omega) (by omega), k87 N f (m - i) m j ⟨by omega, by omega, by simp only [bnd]; omega⟩] at ht
      simp only [Int.toNat_natCast, cond_true, unS_rowS] at ht
      refine ⟨⟨N, swpR f (m - i) m j, m, i - j, j⟩, ⟨by omega, h2, by omega, h4, by simpa only [bnd] using h5⟩, by simp only; omega, ?_, ht⟩
      simp only [rL81, T.run_leaf, hs]
    · rw [if_neg hl] at hs
      rw [decide_eq_false (show ¬ (i : Int) > j by omega), w64s (a := m) (b := i) (by omega) (by omega), w64a (a := m) (b := j) (by omega), w64s (a := m + j) (b := i) (by omega) (by omega), w64s (a := j) (b := i) (by omega) (by omega), k87 N f (m - i) (m + j - i) i ⟨by omega, by omega, by simp only [bnd]; omega⟩] at ht
      simp only [Int.toNat_natCast, cond_true, cond_false, unS_rowS] at ht
      refine ⟨⟨N, swpR f (m - i) (m + j - i) i, m, i, j - i⟩, ⟨h1, by omega, h3, by omega, by simpa only [bnd] using h5⟩, by simp only; omega, ?_, ht⟩
      simp only [rL81, T.run_leaf, hs]

theorem t81 (N : Nat) (f : Nat → List UInt8) (a : Nat) (m : Nat) (b : Nat) : (evn tabD1 h81 L81 81 [.row 0 1 0 N, .int .i64 a, .int .i64 m, .int .i64 b, .fn 12 []] [some (.row 1 N (rowS f))]).run =
  bif isEn eL81 pL81 ([AV.row 0 1 0 N, AV.int IntKind.i64 (↑m : Int), AV.fn 12 [], AV.int IntKind.i64 (IntKind.i64.wrap ((↑m : Int) - (↑a : Int))), AV.int IntKind.i64 (IntKind.i64.wrap ((↑b : Int) - (↑m : Int)))], [some (AObj.row 1 N (rowS f))]) then
   bif isEn en87 p87 ([AV.row 0 1 0 N, AV.int IntKind.i64 (IntKind.i64.wrap ((↑(↑m : Int).toNat : Int) - (↑(rotM ((IntKind.i64.wrap ((↑m : Int) - (↑a : Int))).toNat + (IntKind.i64.wrap ((↑b : Int) - (↑m : Int))).toNat) (unS (rowS f)) (↑m : Int).toNat (IntKind.i64.wrap ((↑m : Int) - (↑a : Int))).toNat (IntKind.i64.wrap ((↑b : Int) - (↑m : Int))).toNat).snd : Int))), AV.int IntKind.i64 (↑(↑m : Int).toNat : Int), AV.int IntKind.i64 (↑(rotM ((IntKind.i64.wrap ((↑m : Int) - (↑a : Int))).toNat + (IntKind.i64.wrap ((↑b : Int) - (↑m : Int))).toNat) (unS (rowS f)) (↑m : Int).toNat (IntKind.i64.wrap ((↑m : Int) - (↑a : Int))).toNat (IntKind.i64.wrap ((↑b : Int) - (↑m : Int))).toNat).snd : Int), AV.fn 12 []], [some (AObj.row 1 N (rowS (rotM ((IntKind.i64.wrap ((↑m : Int) - (↑a : Int))).toNat + (IntKind.i64.wrap ((↑b : Int) - (↑m : Int))).toNat) (unS (rowS f)) (↑m : Int).toNat (IntKind.i64.wrap ((↑m : Int) - (↑a : Int))).toNat (IntKind.i64.wrap ((↑b : Int) - (↑m : Int))).toNat).fst))]) then
    some ((AV.tup [], [some (AObj.row 1 N (rowS (swpR (unS (rowS (rotM ((IntKind.i64.wrap ((↑m : Int) - (↑a : Int))).toNat + (IntKind.i64.wrap ((↑b : Int) - (↑m : Int))).toNat) (unS (rowS f)) (↑m : Int).toNat (IntKind.i64.wrap ((↑m : Int) - (↑a : Int))).toNat (IntKind.i64.wrap ((↑b : Int) - (↑m : Int))).toNat).fst)) (IntKind.i64.wrap ((↑(↑m : Int).toNat : Int) - (↑(rotM ((IntKind.i64.wrap ((↑m : Int) - (↑a : Int))).toNat + (IntKind.i64.wrap ((↑b : Int) - (↑m : Int))).toNat) (unS (rowS f)) (↑m : Int).toNat (IntKind.i64.wrap ((↑m : Int) - (↑a : Int))).toNat (IntKind.i64.wrap ((↑b : Int) - (↑m : Int))).toNat).snd : Int))).toNat (↑(↑m : Int).toNat : Int).toNat (↑(rotM ((IntKind.i64.wrap ((↑m : Int) - (↑a : Int))).toNat + (IntKind.i64.wrap ((↑b : Int) - (↑m : Int))).toNat) (unS (rowS f)) (↑m : Int).toNat (IntKind.i64.wrap ((↑m : Int) - (↑a : Int))).toNat (IntKind.i64.wrap ((↑b : Int) - (↑m : Int))).toNat).snd : Int).toNat)))]))
   else
    none
  else
   none := by kernel_rfl

structure X81 where
  N : Nat
  f : Nat → List UInt8
  a : Nat
  m : Nat
  b : Nat

def en81 : X81 → List AV × Hp := fun ⟨N, f, a, m, b⟩ => ([.row 0 1 0 N, .int .i64 a, .int .i64 m, .int .i64 b, .fn 12 []], [some (.row 1 N (rowS f))])

def de81 : List AV × Hp → X81
  | ([.row _ _ _ N, .int .i64 a, .int .i64 m, .int .i64 b, .fn _ _], [some (.row _ _ f_g)]) => ⟨N, unS f_g, a.toNat, m.toNat, b.toNat⟩
  | _ => ⟨default, default, default, default, default⟩

def p81 : X81 → Prop := fun ⟨N, f, a, m, b⟩ => a < m ∧ m < b ∧ b ≤ N ∧ N ≤ bnd

def rs81 : X81 → T (AV × Hp) := fun ⟨N, f, a, m, b⟩ => .leaf (.tup [], [some (.row 1 N (rowS (rotR f a m b)))])

noncomputable def c81 : List AV → Hp → T (AV × Hp) := mcon en81 de81 p81 rs81

theorem in81 : ∀ x, de81 (en81 x) = x := by
  rintro ⟨N, f, a, m, b⟩
  simp only [en81, de81, Int.toNat_natCast, unS_rowS]

theorem k81 (N : Nat) (f : Nat → List UInt8) (a : Nat) (m : Nat) (b : Nat) (h : a < m ∧ m < b ∧ b ≤ N ∧ N ≤ bnd) : isEn en81 p81 ([.row 0 1 0 N, .int .i64 a, .int .i64 m, .int .i64 b, .fn 12 []], [some (.row 1 N (rowS f))]) = true := isEn_true (enc := en81) (p := p81) ⟨N, f, a, m, b⟩ h

theorem e81 (N : Nat) (f : Nat → List UInt8) (a : Nat) (m : Nat) (b : Nat) (hF : FitsL [.row 0 1 0 N, .int .i64 a, .int .i64 m, .int .i64 b, .fn 12 []]) (hH : FitsH [some (.row 1 N (rowS f))]) (hp : a < m ∧ m < b ∧ b ≤ N ∧ N ≤ bnd) : (evn tabD1 h81 L81 81 [.row 0 1 0 N, .int .i64 a, .int .i64 m, .int .i64 b, .fn 12 []] [some (.row 1 N (rowS f))]).run = (.leaf (.tup [], [some (.row 1 N (rowS (rotR f a m b)))]) : T (AV × Hp)).run := by
  refine (t81 N f a m b).trans ?_
  obtain ⟨h1, h2, h3, h4⟩ := hp
  simp only [bnd] at h4
  obtain ⟨o1, o2, o3, o4⟩ := rotM_ok (m - a + (b - m)) f m (m - a) (b - m) (Nat.le_refl _) (by omega) (by omega) (by omega)
  rw [w64s (by omega) (by omega), w64s (by omega) (by omega)]
  refine (cond_chk (kL81 N f m (m - a) (b - m) ⟨by omega, by omega, by omega, by omega, by simp only [bnd]; omega⟩)).trans ?_
  simp only [Int.toNat_natCast, unS_rowS]
  rw [show m - (m - a) = a by omega, show m + (b - m) = b by omega] at o4
  rw [w64s (by omega) (by omega)]
  refine (cond_chk (k87 N (rotM (m - a + (b - m)) f m (m - a) (b - m)).1 (m - (rotM (m - a + (b - m)) f m (m - a) (b - m)).2) m (rotM (m - a + (b - m)) f m (m - a) (b - m)).2 ⟨by omega, by omega, by simp only [bnd]; omega⟩)).trans ?_
  simp only [Int.toNat_natCast, unS_rowS, o4]
  rfl

theorem s81 : Sound1 Tryd.prog ⟨81, false, gcon c81⟩ := by
  refine sound_cm (soundTab_of all_tabD1) in81 (hn := h81) (m := 20) (k := 9) (Λ := L81) (fun _ _ => oneLoop (by kernel_rfl) l81) ?_
  rintro ⟨N, f, a, m, b⟩ hp hF hH
  exact e81 N f a m b hF hH hp

noncomputable def tabD2 : Tab := ⟨81, false, gcon c81⟩ :: tabD1

theorem all_tabD2 : ∀ e, e ∈ tabD2 → Sound1 Tryd.prog e := (sound_mem_tab s81 all_tabD1)

theorem ok_tabD2 : SoundTab Tryd.prog tabD2 := soundTab_of all_tabD2

/-! ### insertionSort -/

structure Y75_1 where
  N : Nat
  f : Nat → List UInt8
  a : Nat
  b : Nat
  i : Nat
  j : Nat

def eL75_1 : Y75_1 → List AV × Hp := fun ⟨N, f, a, b, i, j⟩ => ([.row 0 1 0 N, .int .i64 a, .int .i64 b, .fn 12 [], .int .i64 i, .int .i64 j], [some (.row 1 N (rowS f))])

def dL75_1 : List AV × Hp → Y75_1
  | ([.row _ _ _ N, .int .i64 a, .int .i64 b, .fn _ _, .int .i64 i, .int .i64 j], [some (.row _ _ f_g)]) => ⟨N, unS f_g, a.toNat, b.toNat, i.toNat, j.toNat⟩
  | _ => ⟨default, default, default, default, default, default⟩

def pL75_1 : Y75_1 → Prop := fun ⟨N, f, a, b, i, j⟩ => a ≤ j ∧ j < N ∧ N ≤ bnd

def rL75_1 : Y75_1 → T (AX × St) := fun ⟨N, f, a, b, i, j⟩ => .leaf (.exit 2, { tm := tmOf 53 [(0, .row 0 1 0 N), (1, .int .i64 a), (2, .int .i64 b), (3, .fn 12 []), (8, .int .i64 i), (9, .int .i64 (bub compareD a j f).2), (34, .bool false)], ms := [], hp := [some (.row 1 N (rowS (bub compareD a j f).1))] })

noncomputable def LI75 : LoopT := fun k => match Nat.beq k 400048 with
  | true => some (lccon (mbits 783 53) eL75_1 dL75_1 pL75_1 rL75_1)
  | false => none

theorem iL75_1 : ∀ x, dL75_1 (eL75_1 x) = x := by
  rintro ⟨N, f, a, b, i, j⟩
  simp only [eL75_1, dL75_1, Int.toNat_natCast, unS_rowS]

theorem kL75_1 (N : Nat) (f : Nat → List UInt8) (a : Nat) (b : Nat) (i : Nat) (j : Nat) (h : a ≤ j ∧ j < N ∧ N ≤ bnd) : isEn eL75_1 pL75_1 ([.row 0 1 0 N, .int .i64 a, .int .i64 b, .fn 12 [], .int .i64 i, .int .i64 j], [some (.row 1 N (rowS f))]) = true := isEn_true (enc := eL75_1) (p := pL75_1) ⟨N, f, a, b, i, j⟩ h

theorem zL75_1 (N : Nat) (f : Nat → List UInt8) (a : Nat) (b : Nat) (i : Nat) (h : pL75_1 ⟨N, f, a, b, i, 0⟩) : isEn eL75_1 pL75_1 ([.row 0 1 0 N, .int .i64 a, .int .i64 b, .fn 12 [], .int .i64 i, .int .i64 (0 : Int)], [some (.row 1 N (rowS f))]) = true := isEn_true (enc := eL75_1) (p := pL75_1) ⟨N, f, a, b, i, 0⟩ h

theorem q75_1 (N : Nat) (f : Nat → List UInt8) (a : Nat) (b : Nat) (i : Nat) (j : Nat) : (rdn tabD2 h75 LI75 75 1 1 { tm := encGo (mbits 783 53) [.row 0 1 0 N, .int .i64 a, .int .i64 b, .fn 12 [], .int .i64 i, .int .i64 j], ms := [], hp := [some (.row 1 N (rowS f))] }).run =
  bif decide ((↑j : Int) > (↑a : Int)) then
   bif decide ((0 : Int) ≤ (↑j : Int) ∧ (↑j : Int) < (↑N : Int)) then
    bif decide (0 + (↑j : Int).toNat < N) then
     bif decide ((0 : Int) ≤ IntKind.i64.wrap ((↑j : Int) - (1 : Int)) ∧ IntKind.i64.wrap ((↑j : Int) - (1 : Int)) < (↑N : Int)) then
      bif decide (0 + (IntKind.i64.wrap ((↑j : Int) - (1 : Int))).toNat < N) then
       bif decide (compareD (f (0 + (↑j : Int).toNat)) (f (0 + (IntKind.i64.wrap ((↑j : Int) - (1 : Int))).toNat)) < (0 : Int)) then
        bif decide ((0 : Int) ≤ IntKind.i64.wrap ((↑j : Int) - (1 : Int)) ∧ IntKind.i64.wrap ((↑j : Int) - (1 : Int)) < (↑N : Int)) then
         bif decide (0 + (IntKind.i64.wrap ((↑j : Int) - (1 : Int))).toNat < N) then
          bif decide ((0 : Int) ≤ (↑j : Int) ∧ (↑j : Int) < (↑N : Int)) then
           bif decide (0 + (↑j : Int).toNat < N) then
            bif decide ((0 : Int) ≤ (↑j : Int) ∧ (↑j : Int) < (↑N : Int)) then
             bif decide (0 + (↑j : Int).toNat < N) then
              bif decide ((0 : Int) ≤ IntKind.i64.wrap ((↑j : Int) - (1 : Int)) ∧ IntKind.i64.wrap ((↑j : Int) - (1 : Int)) < (↑N : Int)) then
               bif decide (0 + (IntKind.i64.wrap ((↑j : Int) - (1 : Int))).toNat < N) then
                some ((AX.normal, { tm := tmOf 53 [(0, AV.row 0 1 0 N), (1, AV.int IntKind.i64 (↑a : Int)), (2, AV.int IntKind.i64 (↑b : Int)), (3, AV.fn 12 []), (8, AV.int IntKind.i64 (↑i : Int)), (9, AV.int IntKind.i64 (IntKind.i64.wrap ((↑j : Int) - (1 : Int))))], ms := [], hp := [some (AObj.row 1 N (updf 1 (updf 1 (rowS f) (0 + (↑j : Int).toNat) 0 [AV.str (f (0 + (IntKind.i64.wrap ((↑j : Int) - (1 : Int))).toNat))]) (0 + (IntKind.i64.wrap ((↑j : Int) - (1 : Int))).toNat) 0 [AV.str (f (0 + (↑j : Int).toNat))]))] }))
               else
                none
              else
               none
             else
              none
            else
             none
           else
            none
          else
           none
         else
          none
        else
         none
       else
        some ((AX.exit 2, { tm := tmOf 53 [(0, AV.row 0 1 0 N), (1, AV.int IntKind.i64 (↑a : Int)), (2, AV.int IntKind.i64 (↑b : Int)), (3, AV.fn 12 []), (8, AV.int IntKind.i64 (↑i : Int)), (9, AV.int IntKind.i64 (↑j : Int)), (34, AV.bool false)], ms := [], hp := [some (AObj.row 1 N (rowS f))] }))
      else
       none
     else
      none
    else
     none
   else
    none
  else
   some ((AX.exit 2, { tm := tmOf 53 [(0, AV.row 0 1 0 N), (1, AV.int IntKind.i64 (↑a : Int)), (2, AV.int IntKind.i64 (↑b : Int)), (3, AV.fn 12 []), (8, AV.int IntKind.i64 (↑i : Int)), (9, AV.int IntKind.i64 (↑j : Int)), (34, AV.bool false)], ms := [], hp := [some (AObj.row 1 N (rowS f))] })) := by kernel_rfl

theorem l75_1 : LoopOk Tryd.prog tabD2.pf (fun n => hd Tryd.prog tabD2.pf tabD2.con.run (fun f => (H0 f).to) n 9) h75.to 75 1 none LI75 (loopAt Tryd.prog 75 1) := by
  rw [show loopAt Tryd.prog 75 1 = .loop (lbody Tryd.prog 75 1) by kernel_rfl]
  refine loop_c (hdT_le (m := 20) 9) (m := 20) (lv := mbits 783 53) (p := pL75_1) (res := rL75_1) iL75_1 (within_of _ (by rw [show loopsOf (lbody Tryd.prog 75 1) = [] by kernel_rfl]; simp)) (by kernel_rfl) (fun ⟨N, f, a, b, i, j⟩ => j) ?_
  rintro ⟨N, f, a, b, i, j⟩ hp
  have ht := q75_1 N f a b i j
  obtain ⟨h1, h2, h3⟩ := hp
  simp only [bnd] at h3
  cases j with
  | zero =>
    right
    rw [decide_eq_false (by omega)] at ht
    refine ⟨_, ?_, ?_, ht⟩
    · simp
    · simp only [rL75_1, T.run_leaf, bub] <;> rfl
  | succ j =>
    by_cases hj : a < j + 1
    · rw [decide_eq_true (show ((j + 1 : Nat) : Int) > a by omega), show IntKind.i64.wrap (((j + 1 : Nat) : Int) - 1) = (j : Nat) by rw [w64 (by omega) (by omega)]; omega, in_row h2, in_row (show j < N by omega)] at ht
      simp only [Int.toNat_natCast, Nat.zero_add, cond_true, decide_eq_true h2, decide_eq_true (show j < N by omega), updS2] at ht
      by_cases hc : compareD (f (j + 1)) (f j) < 0
      · left
        rw [decide_eq_true hc] at ht
        refine ⟨⟨N, sw f (j + 1) j, a, b, i, j⟩, ⟨by omega, by omega, by simpa only [bnd] using h3⟩, by simp only; omega, ?_, ht⟩
        simp only [rL75_1, T.run_leaf]
        conv => rhs; unfold bub
        rw [if_pos ⟨hj, hc⟩]
      · right
        rw [decide_eq_false hc] at ht
        refine ⟨_, ?_, ?_, ht⟩
        · simp
        · simp only [rL75_1, T.run_leaf, bub]
          rw [if_neg (fun q => hc q.2)] <;> rfl
    · right
      rw [decide_eq_false (show ¬ ((j + 1 : Nat) : Int) > a by omega)] at ht
      refine ⟨_, ?_, ?_, ht⟩
      · simp
      · simp only [rL75_1, T.run_leaf, bub]
        rw [if_neg (fun q => hj q.1)] <;> rfl

structure Y75 where
  N : Nat
  f : Nat → List UInt8
  a : Nat
  b : Nat
  i : Nat

def eL75 : Y75 → List AV × Hp := fun ⟨N, f, a, b, i⟩ => ([.row 0 1 0 N, .int .i64 a, .int .i64 b, .fn 12 [], .int .i64 i], [some (.row 1 N (rowS f))])

def dL75 : List AV × Hp → Y75
  | ([.row _ _ _ N, .int .i64 a, .int .i64 b, .fn _ _, .int .i64 i], [some (.row _ _ f_g)]) => ⟨N, unS f_g, a.toNat, b.toNat, i.toNat⟩
  | _ => ⟨default, default, default, default, default⟩

def pL75 : Y75 → Prop := fun ⟨N, f, a, b, i⟩ => a ≤ i ∧ i ≤ N + 1 ∧ b ≤ N ∧ N ≤ bnd ∧ Srt compareD (seg f a i)

def rL75 : Y75 → T (AX × St) := fun ⟨N, f, a, b, i⟩ => .leaf (.exit 0, { tm := tmOf 53 [(0, .row 0 1 0 N), (1, .int .i64 a), (2, .int .i64 b), (3, .fn 12 []), (8, .int .i64 (max i b : Nat)), (14, .bool false)], ms := [], hp := [some (.row 1 N (rowS (sortG compareD f a b)))] })

noncomputable def L75 : LoopT := fun k => match Nat.beq k 100069 with
  | true => some (lccon (mbits 271 53) eL75 dL75 pL75 rL75)
  | false => LI75 k

theorem iL75 : ∀ x, dL75 (eL75 x) = x := by
  rintro ⟨N, f, a, b, i⟩
  simp only [eL75, dL75, Int.toNat_natCast, unS_rowS]

theorem kL75 (N : Nat) (f : Nat → List UInt8) (a : Nat) (b : Nat) (i : Nat) (h : a ≤ i ∧ i ≤ N + 1 ∧ b ≤ N ∧ N ≤ bnd ∧ Srt compareD (seg f a i)) : isEn eL75 pL75 ([.row 0 1 0 N, .int .i64 a, .int .i64 b, .fn 12 [], .int .i64 i], [some (.row 1 N (rowS f))]) = true := isEn_true (enc := eL75) (p := pL75) ⟨N, f, a, b, i⟩ h

theorem zL75 (N : Nat) (f : Nat → List UInt8) (a : Nat) (b : Nat) (h : pL75 ⟨N, f, a, b, 0⟩) : isEn eL75 pL75 ([.row 0 1 0 N, .int .i64 a, .int .i64 b, .fn 12 [], .int .i64 (0 : Int)], [some (.row 1 N (rowS f))]) = true := isEn_true (enc := eL75) (p := pL75) ⟨N, f, a, b, 0⟩ h

theorem q75 (N : Nat) (f : Nat → List UInt8) (a : Nat) (b : Nat) (i : Nat) : (rdn tabD2 h75 L75 75 1 0 { tm := encGo (mbits 271 53) [.row 0 1 0 N, .int .i64 a, .int .i64 b, .fn 12 [], .int .i64 i], ms := [], hp := [some (.row 1 N (rowS f))] }).run =
  bif decide ((↑i : Int) < (↑b : Int)) then
   bif isEn eL75_1 pL75_1 ([AV.row 0 1 0 N, AV.int IntKind.i64 (↑a : Int), AV.int IntKind.i64 (↑b : Int), AV.fn 12 [], AV.int IntKind.i64 (↑i : Int), AV.int IntKind.i64 (↑i : Int)], [some (AObj.row 1 N (rowS f))]) then
    some ((AX.normal, { tm := tmOf 53 [(0, AV.row 0 1 0 N), (1, AV.int IntKind.i64 (↑(↑a : Int).toNat : Int)), (2, AV.int IntKind.i64 (↑(↑b : Int).toNat : Int)), (3, AV.fn 12 []), (8, AV.int IntKind.i64 (IntKind.i64.wrap ((↑(↑i : Int).toNat : Int) + (1 : Int))))], ms := [], hp := [some (AObj.row 1 N (rowS (bub compareD (↑a : Int).toNat (↑i : Int).toNat (unS (rowS f))).fst))] }))
   else
    none
  else
   some ((AX.exit 0, { tm := tmOf 53 [(0, AV.row 0 1 0 N), (1, AV.int IntKind.i64 (↑a : Int)), (2, AV.int IntKind.i64 (↑b : Int)), (3, AV.fn 12 []), (8, AV.int IntKind.i64 (↑i : Int)), (14, AV.bool false)], ms := [], hp := [some (AObj.row 1 N (rowS f))] })) := by kernel_rfl

theorem l75 : LoopOk Tryd.prog tabD2.pf (fun n => hd Tryd.prog tabD2.pf tabD2.con.run (fun f => (H0 f).to) n 9) h75.to 75 1 none L75 (loopAt Tryd.prog 75 0) := by
  rw [show loopAt Tryd.prog 75 0 = .loop (lbody Tryd.prog 75 0) by kernel_rfl]
  refine loop_c (hdT_le (m := 20) 9) (m := 20) (lv := mbits 271 53) (p := pL75) (res := rL75) iL75 (within_of _ (by
      rw [show loopsOf (lbody Tryd.prog 75 0) = [loopAt Tryd.prog 75 1] by kernel_rfl]
      intro d hd
      simp only [List.mem_cons, List.not_mem_nil, or_false] at hd
      subst hd
      exact l75_1)) (by kernel_rfl) (fun ⟨N, f, a, b, i⟩ => b - i) ?_
  rintro ⟨N, f, a, b, i⟩ hp
  have ht := q75 N f a b i
  obtain ⟨h1, h2, h3, h4, h5⟩ := hp
  simp only [bnd] at h4
  by_cases hl : i < b
  · left
    rw [decide_eq_true (show (i : Int) < b by omega)] at ht
    rw [kL75_1 N f a b i i ⟨h1, by omega, by simp only [bnd]; omega⟩] at ht
    simp only [Int.toNat_natCast, unS_rowS, cond_true, w64n (show i < 9223372036854775807 by omega)] at ht
    obtain ⟨b1, b2⟩ := bub_ins cmpX_ord h1 h5
    refine ⟨⟨N, (bub compareD a i f).1, a, b, i + 1⟩, ⟨by omega, by omega, h3, by simpa only [bnd] using h4, b2⟩, by simp only; omega, ?_, ht⟩
    simp only [rL75, T.run_leaf]
    rw [sortG_congr cmpX_ord (b1.wide (a' := a) (b' := b) (Nat.le_refl _) (by omega) (by omega)), show max (i + 1) b = max i b by omega]
  · right
    rw [decide_eq_false (by omega)] at ht
    refine ⟨_, ?_, ?_, ht⟩
    · simp
    · simp only [rL75, T.run_leaf, sortG_of cmpX_ord (EqS.refl a b f) (srt_sub h5 (Nat.le_refl _) (by omega)), show max i b = i by omega] <;> rfl

theorem t75 (N : Nat) (f : Nat → List UInt8) (a : Nat) (b : Nat) : (evn tabD2 h75 L75 75 [.row 0 1 0 N, .int .i64 a, .int .i64 b, .fn 12 []] [some (.row 1 N (rowS f))]).run =
  bif isEn eL75 pL75 ([AV.row 0 1 0 N, AV.int IntKind.i64 (↑a : Int), AV.int IntKind.i64 (↑b : Int), AV.fn 12 [], AV.int IntKind.i64 (IntKind.i64.wrap ((↑a : Int) + (1 : Int)))], [some (AObj.row 1 N (rowS f))]) then
   some ((AV.tup [], [some (AObj.row 1 N (rowS (sortG compareD (unS (rowS f)) (↑a : Int).toNat (↑b : Int).toNat)))]))
  else
   none := by kernel_rfl

structure X75 where
  N : Nat
  f : Nat → List UInt8
  a : Nat
  b : Nat

def en75 : X75 → List AV × Hp := fun ⟨N, f, a, b⟩ => ([.row 0 1 0 N, .int .i64 a, .int .i64 b, .fn 12 []], [some (.row 1 N (rowS f))])

def de75 : List AV × Hp → X75
  | ([.row _ _ _ N, .int .i64 a, .int .i64 b, .fn _ _], [some (.row _ _ f_g)]) => ⟨N, unS f_g, a.toNat, b.toNat⟩
  | _ => ⟨default, default, default, default⟩

def p75 : X75 → Prop := fun ⟨N, f, a, b⟩ => a ≤ b ∧ b ≤ N ∧ N ≤ bnd

def rs75 : X75 → T (AV × Hp) := fun ⟨N, f, a, b⟩ => .leaf (.tup [], [some (.row 1 N (rowS (sortG compareD f a b)))])

noncomputable def c75 : List AV → Hp → T (AV × Hp) := mcon en75 de75 p75 rs75

theorem in75 : ∀ x, de75 (en75 x) = x := by
  rintro ⟨N, f, a, b⟩
  simp only [en75, de75, Int.toNat_natCast, unS_rowS]

theorem k75 (N : Nat) (f : Nat → List UInt8) (a : Nat) (b : Nat) (h : a ≤ b ∧ b ≤ N ∧ N ≤ bnd) : isEn en75 p75 ([.row 0 1 0 N, .int .i64 a, .int .i64 b, .fn 12 []], [some (.row 1 N (rowS f))]) = true := isEn_true (enc := en75) (p := p75) ⟨N, f, a, b⟩ h

theorem e75 (N : Nat) (f : Nat → List UInt8) (a : Nat) (b : Nat) (hF : FitsL [.row 0 1 0 N, .int .i64 a, .int .i64 b, .fn 12 []]) (hH : FitsH [some (.row 1 N (rowS f))]) (hp : a ≤ b ∧ b ≤ N ∧ N ≤ bnd) : (evn tabD2 h75 L75 75 [.row 0 1 0 N, .int .i64 a, .int .i64 b, .fn 12 []] [some (.row 1 N (rowS f))]).run = (.leaf (.tup [], [some (.row 1 N (rowS (sortG compareD f a b)))]) : T (AV × Hp)).run := by
  refine (t75 N f a b).trans ?_
  obtain ⟨h1, h2, h3⟩ := hp
  simp only [bnd] at h3
  rw [w64n (by omega)]
  refine (cond_chk (kL75 N f a b (a + 1) ⟨by omega, by omega, h2, by simp only [bnd]; omega, by rw [seg_one]; exact List.pairwise_singleton _ _⟩)).trans ?_
  rfl

theorem s75 : Sound1 Tryd.prog ⟨75, false, gcon c75⟩ := by
  refine sound_cm (soundTab_of all_tabD2) in75 (hn := h75) (m := 20) (k := 9) (Λ := L75) (fun _ _ => twoLoops (by kernel_rfl) l75 l75_1) ?_
  rintro ⟨N, f, a, b⟩ hp hF hH
  exact e75 N f a b hF hH hp

noncomputable def tabD3 : Tab := ⟨75, false, gcon c75⟩ :: tabD2

theorem all_tabD3 : ∀ e, e ∈ tabD3 → Sound1 Tryd.prog e := (sound_mem_tab s75 all_tabD2)

theorem ok_tabD3 : SoundTab Tryd.prog tabD3 := soundTab_of all_tabD3

/-! ### symMerge: the loops -/

def shr1 (n : Int) : Int := IntKind.i64.wrap ((IntKind.u64.wrap n).fdiv 2)

theorem shr1_nat {n : Nat} (h : n < 9223372036854775807) : IntKind.i64.wrap ((IntKind.u64.wrap (n : Int)).fdiv 2) = ((n / 2 : Nat) : Int) := by
  have e : IntKind.u64.wrap (n : Int) = n := by simp [IntKind.wrap, IntKind.bits, IntKind.signed]; omega
  rw [e, Int.fdiv_eq_ediv_of_nonneg _ (by omega), w64 (by omega) (by omega)]
  omega

def CA (f : Nat → List UInt8) (a h : Nat) : Bool := decide (compareD (f h) (f a) < 0)

def CB (f : Nat → List UInt8) (m h : Nat) : Bool := !decide (compareD (f m) (f h) < 0)

theorem shr_mid {i j : Nat} (h : i + j < 9223372036854775807) : IntKind.i64.wrap ((IntKind.u64.wrap (IntKind.i64.wrap ((i : Int) + (j : Int)))).fdiv 2) = (((i + j) / 2 : Nat) : Int) := by rw [w64a h, shr1_nat h]

structure X76 where
  N : Nat
  f : Nat → List UInt8
  a : Nat
  m : Nat
  b : Nat

def en76 : X76 → List AV × Hp := fun ⟨N, f, a, m, b⟩ => ([.row 0 1 0 N, .int .i64 a, .int .i64 m, .int .i64 b, .fn 12 []], [some (.row 1 N (rowS f))])

def de76 : List AV × Hp → X76
  | ([.row _ _ _ N, .int .i64 a, .int .i64 m, .int .i64 b, .fn _ _], [some (.row _ _ g)]) => ⟨N, unS g, a.toNat, m.toNat, b.toNat⟩
  | _ => ⟨0, fun _ => [], 0, 0, 0⟩

def p76 (K : Nat) : X76 → Prop := fun ⟨N, f, a, m, b⟩ => a < m ∧ m < b ∧ b ≤ N ∧ N ≤ 1152921504606846976 ∧ b - a ≤ K ∧ Srt compareD (seg f a m) ∧ Srt compareD (seg f m b)

noncomputable def rs76 : X76 → T (AV × Hp) := fun ⟨N, f, a, m, b⟩ => .leaf (.tup [], [some (.row 1 N (rowS (sortG compareD f a b)))])

noncomputable def c76 (K : Nat) : List AV → Hp → T (AV × Hp) := mcon en76 de76 (p76 K) rs76

theorem in76 : ∀ x, de76 (en76 x) = x := by
  rintro ⟨N, f, a, m, b⟩
  simp only [en76, de76, Int.toNat_natCast, unS_rowS]

theorem k76 (K : Nat) (N : Nat) (f : Nat → List UInt8) (a m b : Nat) (h : a < m ∧ m < b ∧ b ≤ N ∧ N ≤ 1152921504606846976 ∧ b - a ≤ K ∧ Srt compareD (seg f a m) ∧ Srt compareD (seg f m b)) : isEn en76 (p76 K) ([.row 0 1 0 N, .int .i64 a, .int .i64 m, .int .i64 b, .fn 12 []], [some (.row 1 N (rowS f))]) = true := isEn_true (enc := en76) (p := p76 K) ⟨N, f, a, m, b⟩ h

noncomputable def tabD4 (K : Nat) : Tab := ⟨76, false, gcon (c76 K)⟩ :: tabD3

structure Y76 where
  N : Nat
  f : Nat → List UInt8
  a : Nat
  i : Nat
  j : Nat

def eL76 : Y76 → List AV × Hp := fun ⟨N, f, a, i, j⟩ => ([.row 0 1 0 N, .int .i64 a, .fn 12 [], .int .i64 i, .int .i64 j], [some (.row 1 N (rowS f))])

def dL76 : List AV × Hp → Y76
  | ([.row _ _ _ N, .int .i64 a, .fn _ _, .int .i64 i, .int .i64 j], [some (.row _ _ f_g)]) => ⟨N, unS f_g, a.toNat, i.toNat, j.toNat⟩
  | _ => ⟨default, default, default, default, default⟩

def pL76 : Y76 → Prop := fun ⟨N, f, a, i, j⟩ => i ≤ j ∧ j ≤ N ∧ a < N ∧ N ≤ 1152921504606846976

def rL76 : Y76 → T (AX × St) := fun ⟨N, f, a, i, j⟩ => .leaf (.exit 0, { tm := tmOf 220 [(0, .row 0 1 0 N), (1, .int .i64 a), (4, .fn 12 []), (10, .int .i64 (bsN (CA f a) (j - i) i j)), (11, .int .i64 (bsN (CA f a) (j - i) i j)), (33, .bool false)], ms := [], hp := [some (.row 1 N (rowS f))] })

noncomputable def LA76 : LoopT := fun k => match Nat.beq k 300040 with
  | true => some (lccon (mbits 3091 220) eL76 dL76 pL76 rL76)
  | false => none

theorem iL76 : ∀ x, dL76 (eL76 x) = x := by
  rintro ⟨N, f, a, i, j⟩
  simp only [eL76, dL76, Int.toNat_natCast, unS_rowS]

theorem kL76 (N : Nat) (f : Nat → List UInt8) (a : Nat) (i : Nat) (j : Nat) (h : i ≤ j ∧ j ≤ N ∧ a < N ∧ N ≤ 1152921504606846976) : isEn eL76 pL76 ([.row 0 1 0 N, .int .i64 a, .fn 12 [], .int .i64 i, .int .i64 j], [some (.row 1 N (rowS f))]) = true := isEn_true (enc := eL76) (p := pL76) ⟨N, f, a, i, j⟩ h

theorem zL76 (N : Nat) (f : Nat → List UInt8) (a : Nat) (i : Nat) (h : pL76 ⟨N, f, a, i, 0⟩) : isEn eL76 pL76 ([.row 0 1 0 N, .int .i64 a, .fn 12 [], .int .i64 i, .int .i64 (0 : Int)], [some (.row 1 N (rowS f))]) = true := isEn_true (enc := eL76) (p := pL76) ⟨N, f, a, i, 0⟩ h

theorem q76 (K : Nat) (N : Nat) (f : Nat → List UInt8) (a : Nat) (i : Nat) (j : Nat) : (rdn (tabD4 K) h76 LA76 76 1 0 { tm := encGo (mbits 3091 220) [.row 0 1 0 N, .int .i64 a, .fn 12 [], .int .i64 i, .int .i64 j], ms := [], hp := [some (.row 1 N (rowS f))] }).run =
  bif decide ((↑i : Int) < (↑j : Int)) then
   bif decide ((0 : Int) ≤ IntKind.i64.wrap ((IntKind.u64.wrap (IntKind.i64.wrap ((↑i : Int) + (↑j : Int)))).fdiv (2 : Int)) ∧ IntKind.i64.wrap ((IntKind.u64.wrap (IntKind.i64.wrap ((↑i : Int) + (↑j : Int)))).fdiv (2 : Int)) < (↑N : Int)) then
    bif decide (0 + (IntKind.i64.wrap ((IntKind.u64.wrap (IntKind.i64.wrap ((↑i : Int) + (↑j : Int)))).fdiv (2 : Int))).toNat < N) then
     bif decide ((0 : Int) ≤ (↑a : Int) ∧ (↑a : Int) < (↑N : Int)) then
      bif decide (0 + (↑a : Int).toNat < N) then
       bif decide (compareD (f (0 + (IntKind.i64.wrap ((IntKind.u64.wrap (IntKind.i64.wrap ((↑i : Int) + (↑j : Int)))).fdiv (2 : Int))).toNat)) (f (0 + (↑a : Int).toNat)) < (0 : Int)) then
        some ((AX.normal, { tm := tmOf 220 [(0, AV.row 0 1 0 N), (1, AV.int IntKind.i64 (↑a : Int)), (4, AV.fn 12 []), (10, AV.int IntKind.i64 (IntKind.i64.wrap (IntKind.i64.wrap ((IntKind.u64.wrap (IntKind.i64.wrap ((↑i : Int) + (↑j : Int)))).fdiv (2 : Int)) + (1 : Int)))), (11, AV.int IntKind.i64 (↑j : Int))], ms := [], hp := [some (AObj.row 1 N (rowS f))] }))
       else
        some ((AX.normal, { tm := tmOf 220 [(0, AV.row 0 1 0 N), (1, AV.int IntKind.i64 (↑a : Int)), (4, AV.fn 12 []), (10, AV.int IntKind.i64 (↑i : Int)), (11, AV.int IntKind.i64 (IntKind.i64.wrap ((IntKind.u64.wrap (IntKind.i64.wrap ((↑i : Int) + (↑j : Int)))).fdiv (2 : Int))))], ms := [], hp := [some (AObj.row 1 N (rowS f))] }))
      else
       none
     else
      none
    else
     none
   else
    none
  else
   some ((AX.exit 0, { tm := tmOf 220 [(0, AV.row 0 1 0 N), (1, AV.int IntKind.i64 (↑a : Int)), (4, AV.fn 12 []), (10, AV.int IntKind.i64 (↑i : Int)), (11, AV.int IntKind.i64 (↑j : Int)), (33, AV.bool false)], ms := [], hp := [some (AObj.row 1 N (rowS f))] })) := by kernel_rfl

theorem l76 (K : Nat) : LoopOk Tryd.prog (tabD4 K).pf (fun n => hd Tryd.prog (tabD4 K).pf (tabD4 K).con.run (fun f => (H0 f).to) n 9) h76.to 76 1 none LA76 (loopAt Tryd.prog 76 0) := by
  rw [show loopAt Tryd.prog 76 0 = .loop (lbody Tryd.prog 76 0) by kernel_rfl]
  refine loop_c (hdT_le (m := 20) 9) (m := 20) (lv := mbits 3091 220) (p := pL76) (res := rL76) iL76 (within_of _ (by rw [show loopsOf (lbody Tryd.prog 76 0) = [] by kernel_rfl]; simp)) (by kernel_rfl) (fun ⟨N, f, a, i, j⟩ => j - i) ?_
  rintro ⟨N, f, a, i, j⟩ hp
  have ht := q76 K N f a i j
  obtain ⟨h1, h2, h3, h4⟩ := hp
  by_cases hl : i < j
  · have hb := bsN_step (C := CA f a) hl
    have hm : (i + j) / 2 < N := by omega
    rw [decide_eq_true (show (i : Int) < j by omega), shr_mid (show i + j < 9223372036854775807 by omega), in_row hm, in_row h3] at ht
    simp only [Int.toNat_natCast, Nat.zero_add, cond_true, decide_eq_true hm, decide_eq_true h3] at ht
    left
    cases hc : CA f a ((i + j) / 2) with
    | true =>
      rw [show decide (compareD (f ((i + j) / 2)) (f a) < 0) = true from hc, w64n (by omega)] at ht
      rw [hc, cond_true] at hb
      refine ⟨⟨N, f, a, (i + j) / 2 + 1, j⟩, ⟨by omega, h2, h3, h4⟩, by simp only; omega, ?_, ht⟩
      simp only [rL76, T.run_leaf, hb]
    | false =>
      rw [show decide (compareD (f ((i + j) / 2)) (f a) < 0) = false from hc] at ht
      rw [hc, cond_false] at hb
      refine ⟨⟨N, f, a, i, (i + j) / 2⟩, ⟨by omega, by omega, h3, h4⟩, by simp only; omega, ?_, ht⟩
      simp only [rL76, T.run_leaf, hb]
  · obtain rfl : i = j := by omega
    right
    rw [decide_eq_false (by omega)] at ht
    refine ⟨_, ?_, ?_, ht⟩
    · simp
    · simp only [rL76, T.run_leaf, bsN_end (Nat.le_refl _)] <;> rfl

structure Y76_1 where
  N : Nat
  f : Nat → List UInt8
  i : Nat
  k : Nat

def eL76_1 : Y76_1 → List AV × Hp := fun ⟨N, f, i, k⟩ => ([.row 0 1 0 N, .int .i64 i, .int .i64 k], [some (.row 1 N (rowS f))])

def dL76_1 : List AV × Hp → Y76_1
  | ([.row _ _ _ N, .int .i64 i, .int .i64 k], [some (.row _ _ f_g)]) => ⟨N, unS f_g, i.toNat, k.toNat⟩
  | _ => ⟨default, default, default, default⟩

def pL76_1 : Y76_1 → Prop := fun ⟨N, f, i, k⟩ => k + 1 ≤ i ∧ i ≤ N ∧ N ≤ 1152921504606846976

def rL76_1 : Y76_1 → T (AX × St) := fun ⟨N, f, i, k⟩ => .leaf (.exit 2, { tm := tmOf 220 [(0, .row 0 1 0 N), (10, .int .i64 i), (13, .int .i64 (i - 1 : Nat)), (58, .bool false)], ms := [], hp := [some (.row 1 N (rowS (rotR f k (k + 1) i)))] })

noncomputable def LB76 : LoopT := fun k => match Nat.beq k 900035 with
  | true => some (lccon (mbits 9217 220) eL76_1 dL76_1 pL76_1 rL76_1)
  | false => LA76 k

theorem iL76_1 : ∀ x, dL76_1 (eL76_1 x) = x := by
  rintro ⟨N, f, i, k⟩
  simp only [eL76_1, dL76_1, Int.toNat_natCast, unS_rowS]

theorem kL76_1 (N : Nat) (f : Nat → List UInt8) (i : Nat) (k : Nat) (h : k + 1 ≤ i ∧ i ≤ N ∧ N ≤ 1152921504606846976) : isEn eL76_1 pL76_1 ([.row 0 1 0 N, .int .i64 i, .int .i64 k], [some (.row 1 N (rowS f))]) = true := isEn_true (enc := eL76_1) (p := pL76_1) ⟨N, f, i, k⟩ h

theorem zL76_1 (N : Nat) (f : Nat → List UInt8) (i : Nat) (h : pL76_1 ⟨N, f, i, 0⟩) : isEn eL76_1 pL76_1 ([.row 0 1 0 N, .int .i64 i, .int .i64 (0 : Int)], [some (.row 1 N (rowS f))]) = true := isEn_true (enc := eL76_1) (p := pL76_1) ⟨N, f, i, 0⟩ h

theorem q76_1 (K : Nat) (N : Nat) (f : Nat → List UInt8) (i : Nat) (k : Nat) : (rdn (tabD4 K) h76 LB76 76 1 1 { tm := encGo (mbits 9217 220) [.row 0 1 0 N, .int .i64 i, .int .i64 k], ms := [], hp := [some (.row 1 N (rowS f))] }).run =
  bif decide ((↑k : Int) < IntKind.i64.wrap ((↑i : Int) - (1 : Int))) then
   bif decide ((0 : Int) ≤ IntKind.i64.wrap ((↑k : Int) + (1 : Int)) ∧ IntKind.i64.wrap ((↑k : Int) + (1 : Int)) < (↑N : Int)) then
    bif decide (0 + (IntKind.i64.wrap ((↑k : Int) + (1 : Int))).toNat < N) then
     bif decide ((0 : Int) ≤ (↑k : Int) ∧ (↑k : Int) < (↑N : Int)) then
      bif decide (0 + (↑k : Int).toNat < N) then
       bif decide ((0 : Int) ≤ (↑k : Int) ∧ (↑k : Int) < (↑N : Int)) then
        bif decide (0 + (↑k : Int).toNat < N) then
         bif decide ((0 : Int) ≤ IntKind.i64.wrap ((↑k : Int) + (1 : Int)) ∧ IntKind.i64.wrap ((↑k : Int) + (1 : Int)) < (↑N : Int)) then
          bif decide (0 + (IntKind.i64.wrap ((↑k : Int) + (1 : Int))).toNat < N) then
           some ((AX.normal, { tm := tmOf 220 [(0, AV.row 0 1 0 N), (10, AV.int IntKind.i64 (↑i : Int)), (13, AV.int IntKind.i64 (IntKind.i64.wrap ((↑k : Int) + (1 : Int))))], ms := [], hp := [some (AObj.row 1 N (updf 1 (updf 1 (rowS f) (0 + (↑k : Int).toNat) 0 [AV.str (f (0 + (IntKind.i64.wrap ((↑k : Int) + (1 : Int))).toNat))]) (0 + (IntKind.i64.wrap ((↑k : Int) + (1 : Int))).toNat) 0 [AV.str (f (0 + (↑k : Int).toNat))]))] }))
          else
           none
         else
          none
        else
         none
       else
        none
      else
       none
     else
      none
    else
     none
   else
    none
  else
   some ((AX.exit 2, { tm := tmOf 220 [(0, AV.row 0 1 0 N), (10, AV.int IntKind.i64 (↑i : Int)), (13, AV.int IntKind.i64 (↑k : Int)), (58, AV.bool false)], ms := [], hp := [some (AObj.row 1 N (rowS f))] })) := by kernel_rfl

theorem l76_1 (K : Nat) : LoopOk Tryd.prog (tabD4 K).pf (fun n => hd Tryd.prog (tabD4 K).pf (tabD4 K).con.run (fun f => (H0 f).to) n 9) h76.to 76 1 none LB76 (loopAt Tryd.prog 76 1) := by
  rw [show loopAt Tryd.prog 76 1 = .loop (lbody Tryd.prog 76 1) by kernel_rfl]
  refine loop_c (hdT_le (m := 20) 9) (m := 20) (lv := mbits 9217 220) (p := pL76_1) (res := rL76_1) iL76_1 (within_of _ (by rw [show loopsOf (lbody Tryd.prog 76 1) = [] by kernel_rfl]; simp)) (by kernel_rfl) (fun ⟨N, f, i, k⟩ => i - k) ?_
  rintro ⟨N, f, i, k⟩ hp
  have ht := q76_1 K N f i k
  obtain ⟨h1, h2, h3⟩ := hp
  rw [show IntKind.i64.wrap ((i : Int) - 1) = ((i - 1 : Nat) : Int) by rw [w64 (by omega) (by omega)]; omega] at ht
  by_cases hl : k + 1 < i
  · left
    rw [decide_eq_true (show (k : Int) < (i - 1 : Nat) by omega), w64n (by omega), in_row (show k < N by omega), in_row (show k + 1 < N by omega)] at ht
    simp only [Int.toNat_natCast, Nat.zero_add, cond_true, decide_eq_true (show k < N by omega), decide_eq_true (show k + 1 < N by omega), updS2] at ht
    refine ⟨⟨N, sw f k (k + 1), i, k + 1⟩, ⟨by omega, h2, h3⟩, by simp only; omega, ?_, ht⟩
    simp only [rL76_1, T.run_leaf, rot_up hl]
  · obtain rfl : i = k + 1 := by omega
    right
    rw [decide_eq_false (by omega)] at ht
    refine ⟨_, ?_, ?_, ht⟩
    · simp
    · simp only [rL76_1, T.run_leaf, rotR_same (f := f) (a := k) (m := k + 1) (b := k + 1) (.inr rfl) (by omega) (by omega), Nat.add_sub_cancel] <;> rfl

structure Y76_2 where
  N : Nat
  f : Nat → List UInt8
  m : Nat
  i : Nat
  j : Nat

def eL76_2 : Y76_2 → List AV × Hp := fun ⟨N, f, m, i, j⟩ => ([.row 0 1 0 N, .int .i64 m, .fn 12 [], .int .i64 i, .int .i64 j], [some (.row 1 N (rowS f))])

def dL76_2 : List AV × Hp → Y76_2
  | ([.row _ _ _ N, .int .i64 m, .fn _ _, .int .i64 i, .int .i64 j], [some (.row _ _ f_g)]) => ⟨N, unS f_g, m.toNat, i.toNat, j.toNat⟩
  | _ => ⟨default, default, default, default, default⟩

def pL76_2 : Y76_2 → Prop := fun ⟨N, f, m, i, j⟩ => i ≤ j ∧ j ≤ N ∧ m < N ∧ N ≤ 1152921504606846976

def rL76_2 : Y76_2 → T (AX × St) := fun ⟨N, f, m, i, j⟩ => .leaf (.exit 4, { tm := tmOf 220 [(0, .row 0 1 0 N), (2, .int .i64 m), (4, .fn 12 []), (14, .int .i64 (bsN (CB f m) (j - i) i j)), (15, .int .i64 (bsN (CB f m) (j - i) i j)), (85, .bool false)], ms := [], hp := [some (.row 1 N (rowS f))] })

noncomputable def LC76 : LoopT := fun k => match Nat.beq k 1500041 with
  | true => some (lccon (mbits 49173 220) eL76_2 dL76_2 pL76_2 rL76_2)
  | false => LB76 k

theorem iL76_2 : ∀ x, dL76_2 (eL76_2 x) = x := by
  rintro ⟨N, f, m, i, j⟩
  simp only [eL76_2, dL76_2, Int.toNat_natCast, unS_rowS]

theorem kL76_2 (N : Nat) (f : Nat → List UInt8) (m : Nat) (i : Nat) (j : Nat) (h : i ≤ j ∧ j ≤ N ∧ m < N ∧ N ≤ 1152921504606846976) : isEn eL76_2 pL76_2 ([.row 0 1 0 N, .int .i64 m, .fn 12 [], .int .i64 i, .int .i64 j], [some (.row 1 N (rowS f))]) = true := isEn_true (enc := eL76_2) (p := pL76_2) ⟨N, f, m, i, j⟩ h

theorem zL76_2 (N : Nat) (f : Nat → List UInt8) (m : Nat) (i : Nat) (h : pL76_2 ⟨N, f, m, i, 0⟩) : isEn eL76_2 pL76_2 ([.row 0 1 0 N, .int .i64 m, .fn 12 [], .int .i64 i, .int .i64 (0 : Int)], [some (.row 1 N (rowS f))]) = true := isEn_true (enc := eL76_2) (p := pL76_2) ⟨N, f, m, i, 0⟩ h

theorem q76_2 (K : Nat) (N : Nat) (f : Nat → List UInt8) (m : Nat) (i : Nat) (j : Nat) : (rdn (tabD4 K) h76 LC76 76 1 2 { tm := encGo (mbits 49173 220) [.row 0 1 0 N, .int .i64 m, .fn 12 [], .int .i64 i, .int .i64 j], ms := [], hp := [some (.row 1 N (rowS f))] }).run =
  bif decide ((↑i : Int) < (↑j : Int)) then
   bif decide ((0 : Int) ≤ (↑m : Int) ∧ (↑m : Int) < (↑N : Int)) then
    bif decide (0 + (↑m : Int).toNat < N) then
     bif decide ((0 : Int) ≤ IntKind.i64.wrap ((IntKind.u64.wrap (IntKind.i64.wrap ((↑i : Int) + (↑j : Int)))).fdiv (2 : Int)) ∧ IntKind.i64.wrap ((IntKind.u64.wrap (IntKind.i64.wrap ((↑i : Int) + (↑j : Int)))).fdiv (2 : Int)) < (↑N : Int)) then
      bif decide (0 + (IntKind.i64.wrap ((IntKind.u64.wrap (IntKind.i64.wrap ((↑i : Int) + (↑j : Int)))).fdiv (2 : Int))).toNat < N) then
       bif !decide (compareD (f (0 + (↑m : Int).toNat)) (f (0 + (IntKind.i64.wrap ((IntKind.u64.wrap (IntKind.i64.wrap ((↑i : Int) + (↑j : Int)))).fdiv (2 : Int))).toNat)) < (0 : Int)) then
        some ((AX.normal, { tm := tmOf 220 [(0, AV.row 0 1 0 N), (2, AV.int IntKind.i64 (↑m : Int)), (4, AV.fn 12 []), (14, AV.int IntKind.i64 (IntKind.i64.wrap (IntKind.i64.wrap ((IntKind.u64.wrap (IntKind.i64.wrap ((↑i : Int) + (↑j : Int)))).fdiv (2 : Int)) + (1 : Int)))), (15, AV.int IntKind.i64 (↑j : Int))], ms := [], hp := [some (AObj.row 1 N (rowS f))] }))
       else
        some ((AX.normal, { tm := tmOf 220 [(0, AV.row 0 1 0 N), (2, AV.int IntKind.i64 (↑m : Int)), (4, AV.fn 12 []), (14, AV.int IntKind.i64 (↑i : Int)), (15, AV.int IntKind.i64 (IntKind.i64.wrap ((IntKind.u64.wrap (IntKind.i64.wrap ((↑i : Int) + (↑j : Int)))).fdiv (2 : Int))))], ms := [], hp := [some (AObj.row 1 N (rowS f))] }))
      else
       none
     else
      none
    else
     none
   else
    none
  else
   some ((AX.exit 4, { tm := tmOf 220 [(0, AV.row 0 1 0 N), (2, AV.int IntKind.i64 (↑m : Int)), (4, AV.fn 12 []), (14, AV.int IntKind.i64 (↑i : Int)), (15, AV.int IntKind.i64 (↑j : Int)), (85, AV.bool false)], ms := [], hp := [some (AObj.row 1 N (rowS f))] })) := by kernel_rfl

theorem l76_2 (K : Nat) : LoopOk Tryd.prog (tabD4 K).pf (fun n => hd Tryd.prog (tabD4 K).pf (tabD4 K).con.run (fun f => (H0 f).to) n 9) h76.to 76 1 none LC76 (loopAt Tryd.prog 76 2) := by
  rw [show loopAt Tryd.prog 76 2 = .loop (lbody Tryd.prog 76 2) by kernel_rfl]
  refine loop_c (hdT_le (m := 20) 9) (m := 20) (lv := mbits 49173 220) (p := pL76_2) (res := rL76_2) iL76_2 (within_of _ (by rw [show loopsOf (lbody Tryd.prog 76 2) = [] by kernel_rfl]; simp)) (by kernel_rfl) (fun ⟨N, f, m, i, j⟩ => j - i) ?_
  rintro ⟨N, f, m, i, j⟩ hp
  have ht := q76_2 K N f m i j
  obtain ⟨h1, h2, h3, h4⟩ := hp
  by_cases hl : i < j
  · have hb := bsN_step (C := CB f m) hl
    have hm : (i + j) / 2 < N := by omega
    rw [decide_eq_true (show (i : Int) < j by omega), shr_mid (show i + j < 9223372036854775807 by omega), in_row hm, in_row h3] at ht
    simp only [Int.toNat_natCast, Nat.zero_add, cond_true, decide_eq_true hm, decide_eq_true h3] at ht
    left
    cases hc : CB f m ((i + j) / 2) with
    | true =>
      rw [show (!decide (compareD (f m) (f ((i + j) / 2)) < 0)) = true from hc, w64n (by omega)] at ht
      rw [hc, cond_true] at hb
      refine ⟨⟨N, f, m, (i + j) / 2 + 1, j⟩, ⟨by omega, h2, h3, h4⟩, by simp only; omega, ?_, ht⟩
      simp only [rL76_2, T.run_leaf, hb]
    | false =>
      rw [show (!decide (compareD (f m) (f ((i + j) / 2)) < 0)) = false from hc] at ht
      rw [hc, cond_false] at hb
      refine ⟨⟨N, f, m, i, (i + j) / 2⟩, ⟨by omega, by omega, h3, h4⟩, by simp only; omega, ?_, ht⟩
      simp only [rL76_2, T.run_leaf, hb]
  · obtain rfl : i = j := by omega
    right
    rw [decide_eq_false (by omega)] at ht
    refine ⟨_, ?_, ?_, ht⟩
    · simp
    · simp only [rL76_2, T.run_leaf, bsN_end (Nat.le_refl _)] <;> rfl

structure Y76_3 where
  N : Nat
  f : Nat → List UInt8
  i : Nat
  k : Nat

def eL76_3 : Y76_3 → List AV × Hp := fun ⟨N, f, i, k⟩ => ([.row 0 1 0 N, .int .i64 i, .int .i64 k], [some (.row 1 N (rowS f))])

def dL76_3 : List AV × Hp → Y76_3
  | ([.row _ _ _ N, .int .i64 i, .int .i64 k], [some (.row _ _ f_g)]) => ⟨N, unS f_g, i.toNat, k.toNat⟩
  | _ => ⟨default, default, default, default⟩

def pL76_3 : Y76_3 → Prop := fun ⟨N, f, i, k⟩ => i ≤ k ∧ k < N ∧ N ≤ 1152921504606846976

def rL76_3 : Y76_3 → T (AX × St) := fun ⟨N, f, i, k⟩ => .leaf (.exit 6, { tm := tmOf 220 [(0, .row 0 1 0 N), (14, .int .i64 i), (17, .int .i64 i), (110, .bool false)], ms := [], hp := [some (.row 1 N (rowS (rotR f i k (k + 1))))] })

noncomputable def LD76 : LoopT := fun k => match Nat.beq k 2100034 with
  | true => some (lccon (mbits 147457 220) eL76_3 dL76_3 pL76_3 rL76_3)
  | false => LC76 k

theorem iL76_3 : ∀ x, dL76_3 (eL76_3 x) = x := by
  rintro ⟨N, f, i, k⟩
  simp only [eL76_3, dL76_3, Int.toNat_natCast, unS_rowS]

theorem kL76_3 (N : Nat) (f : Nat → List UInt8) (i : Nat) (k : Nat) (h : i ≤ k ∧ k < N ∧ N ≤ 1152921504606846976) : isEn eL76_3 pL76_3 ([.row 0 1 0 N, .int .i64 i, .int .i64 k], [some (.row 1 N (rowS f))]) = true := isEn_true (enc := eL76_3) (p := pL76_3) ⟨N, f, i, k⟩ h

theorem zL76_3 (N : Nat) (f : Nat → List UInt8) (i : Nat) (h : pL76_3 ⟨N, f, i, 0⟩) : isEn eL76_3 pL76_3 ([.row 0 1 0 N, .int .i64 i, .int .i64 (0 : Int)], [some (.row 1 N (rowS f))]) = true := isEn_true (enc := eL76_3) (p := pL76_3) ⟨N, f, i, 0⟩ h

theorem q76_3 (K : Nat) (N : Nat) (f : Nat → List UInt8) (i : Nat) (k : Nat) : (rdn (tabD4 K) h76 LD76 76 1 3 { tm := encGo (mbits 147457 220) [.row 0 1 0 N, .int .i64 i, .int .i64 k], ms := [], hp := [some (.row 1 N (rowS f))] }).run =
  bif decide ((↑k : Int) > (↑i : Int)) then
   bif decide ((0 : Int) ≤ IntKind.i64.wrap ((↑k : Int) - (1 : Int)) ∧ IntKind.i64.wrap ((↑k : Int) - (1 : Int)) < (↑N : Int)) then
    bif decide (0 + (IntKind.i64.wrap ((↑k : Int) - (1 : Int))).toNat < N) then
     bif decide ((0 : Int) ≤ (↑k : Int) ∧ (↑k : Int) < (↑N : Int)) then
      bif decide (0 + (↑k : Int).toNat < N) then
       bif decide ((0 : Int) ≤ (↑k : Int) ∧ (↑k : Int) < (↑N : Int)) then
        bif decide (0 + (↑k : Int).toNat < N) then
         bif decide ((0 : Int) ≤ IntKind.i64.wrap ((↑k : Int) - (1 : Int)) ∧ IntKind.i64.wrap ((↑k : Int) - (1 : Int)) < (↑N : Int)) then
          bif decide (0 + (IntKind.i64.wrap ((↑k : Int) - (1 : Int))).toNat < N) then
           some ((AX.normal, { tm := tmOf 220 [(0, AV.row 0 1 0 N), (14, AV.int IntKind.i64 (↑i : Int)), (17, AV.int IntKind.i64 (IntKind.i64.wrap ((↑k : Int) - (1 : Int))))], ms := [], hp := [some (AObj.row 1 N (updf 1 (updf 1 (rowS f) (0 + (↑k : Int).toNat) 0 [AV.str (f (0 + (IntKind.i64.wrap ((↑k : Int) - (1 : Int))).toNat))]) (0 + (IntKind.i64.wrap ((↑k : Int) - (1 : Int))).toNat) 0 [AV.str (f (0 + (↑k : Int).toNat))]))] }))
          else
           none
         else
          none
        else
         none
       else
        none
      else
       none
     else
      none
    else
     none
   else
    none
  else
   some ((AX.exit 6, { tm := tmOf 220 [(0, AV.row 0 1 0 N), (14, AV.int IntKind.i64 (↑i : Int)), (17, AV.int IntKind.i64 (↑k : Int)), (110, AV.bool false)], ms := [], hp := [some (AObj.row 1 N (rowS f))] })) := by kernel_rfl

theorem l76_3 (K : Nat) : LoopOk Tryd.prog (tabD4 K).pf (fun n => hd Tryd.prog (tabD4 K).pf (tabD4 K).con.run (fun f => (H0 f).to) n 9) h76.to 76 1 none LD76 (loopAt Tryd.prog 76 3) := by
  rw [show loopAt Tryd.prog 76 3 = .loop (lbody Tryd.prog 76 3) by kernel_rfl]
  refine loop_c (hdT_le (m := 20) 9) (m := 20) (lv := mbits 147457 220) (p := pL76_3) (res := rL76_3) iL76_3 (within_of _ (by rw [show loopsOf (lbody Tryd.prog 76 3) = [] by kernel_rfl]; simp)) (by kernel_rfl) (fun ⟨N, f, i, k⟩ => k - i) ?_
  rintro ⟨N, f, i, k⟩ hp
  have ht := q76_3 K N f i k
  obtain ⟨h1, h2, h3⟩ := hp
  by_cases hl : i < k
  · obtain ⟨k, rfl⟩ : ∃ q, k = q + 1 := ⟨k - 1, by omega⟩
    left
    rw [decide_eq_true (show ((k + 1 : Nat) : Int) > i by omega), show IntKind.i64.wrap (((k + 1 : Nat) : Int) - 1) = (k : Nat) by rw [w64 (by omega) (by omega)]; omega, in_row h2, in_row (show k < N by omega)] at ht
    simp only [Int.toNat_natCast, Nat.zero_add, cond_true, decide_eq_true (show k < N by omega), decide_eq_true h2, updS2] at ht
    refine ⟨⟨N, sw f (k + 1) k, i, k⟩, ⟨by omega, by omega, h3⟩, by simp only; omega, ?_, ht⟩
    simp only [rL76_3, T.run_leaf, rot_dn (show i ≤ k by omega)]
  · obtain rfl : i = k := by omega
    right
    rw [decide_eq_false (by omega)] at ht
    refine ⟨_, ?_, ?_, ht⟩
    · simp
    · simp only [rL76_3, T.run_leaf, rotR_same (f := f) (a := i) (m := i) (b := i + 1) (.inl rfl) (by omega) (by omega)] <;> rfl

structure Y76_4 where
  N : Nat
  f : Nat → List UInt8
  a : Nat
  m : Nat
  b : Nat
  mid : Nat
  n : Nat
  s : Nat
  r : Nat
  p : Nat

def eL76_4 : Y76_4 → List AV × Hp := fun ⟨N, f, a, m, b, mid, n, s, r, p⟩ => ([.row 0 1 0 N, .int .i64 a, .int .i64 m, .int .i64 b, .fn 12 [], .int .i64 mid, .int .i64 n, .int .i64 s, .int .i64 r, .int .i64 p], [some (.row 1 N (rowS f))])

def dL76_4 : List AV × Hp → Y76_4
  | ([.row _ _ _ N, .int .i64 a, .int .i64 m, .int .i64 b, .fn _ _, .int .i64 mid, .int .i64 n, .int .i64 s, .int .i64 r, .int .i64 p], [some (.row _ _ f_g)]) => ⟨N, unS f_g, a.toNat, m.toNat, b.toNat, mid.toNat, n.toNat, s.toNat, r.toNat, p.toNat⟩
  | _ => ⟨default, default, default, default, default, default, default, default, default, default⟩

def pL76_4 : Y76_4 → Prop := fun ⟨N, f, a, m, b, mid, n, s, r, p⟩ => s ≤ r ∧ r ≤ N ∧ r ≤ p + 1 ∧ p < N + s ∧ N ≤ 1152921504606846976

def rL76_4 : Y76_4 → T (AX × St) := fun ⟨N, f, a, m, b, mid, n, s, r, p⟩ => .leaf (.exit 8, { tm := tmOf 220 [(0, .row 0 1 0 N), (1, .int .i64 a), (2, .int .i64 m), (3, .int .i64 b), (4, .fn 12 []), (18, .int .i64 mid), (19, .int .i64 n), (20, .int .i64 (bsN (cutC compareD f p) (r - s) s r)), (21, .int .i64 (bsN (cutC compareD f p) (r - s) s r)), (22, .int .i64 p), (151, .bool false)], ms := [], hp := [some (.row 1 N (rowS f))] })

noncomputable def LE76 : LoopT := fun k => match Nat.beq k 3300043 with
  | true => some (lccon (mbits 8126495 220) eL76_4 dL76_4 pL76_4 rL76_4)
  | false => LD76 k

theorem iL76_4 : ∀ x, dL76_4 (eL76_4 x) = x := by
  rintro ⟨N, f, a, m, b, mid, n, s, r, p⟩
  simp only [eL76_4, dL76_4, Int.toNat_natCast, unS_rowS]

theorem kL76_4 (N : Nat) (f : Nat → List UInt8) (a : Nat) (m : Nat) (b : Nat) (mid : Nat) (n : Nat) (s : Nat) (r : Nat) (p : Nat) (h : s ≤ r ∧ r ≤ N ∧ r ≤ p + 1 ∧ p < N + s ∧ N ≤ 1152921504606846976) : isEn eL76_4 pL76_4 ([.row 0 1 0 N, .int .i64 a, .int .i64 m, .int .i64 b, .fn 12 [], .int .i64 mid, .int .i64 n, .int .i64 s, .int .i64 r, .int .i64 p], [some (.row 1 N (rowS f))]) = true := isEn_true (enc := eL76_4) (p := pL76_4) ⟨N, f, a, m, b, mid, n, s, r, p⟩ h

theorem zL76_4 (N : Nat) (f : Nat → List UInt8) (a : Nat) (m : Nat) (b : Nat) (mid : Nat) (n : Nat) (s : Nat) (r : Nat) (h : pL76_4 ⟨N, f, a, m, b, mid, n, s, r, 0⟩) : isEn eL76_4 pL76_4 ([.row 0 1 0 N, .int .i64 a, .int .i64 m, .int .i64 b, .fn 12 [], .int .i64 mid, .int .i64 n, .int .i64 s, .int .i64 r, .int .i64 (0 : Int)], [some (.row 1 N (rowS f))]) = true := isEn_true (enc := eL76_4) (p := pL76_4) ⟨N, f, a, m, b, mid, n, s, r, 0⟩ h

theorem q76_4 (K : Nat) (N : Nat) (f : Nat → List UInt8) (a : Nat) (m : Nat) (b : Nat) (mid : Nat) (n : Nat) (s : Nat) (r : Nat) (p : Nat) : (rdn (tabD4 K) h76 LE76 76 1 4 { tm := encGo (mbits 8126495 220) [.row 0 1 0 N, .int .i64 a, .int .i64 m, .int .i64 b, .fn 12 [], .int .i64 mid, .int .i64 n, .int .i64 s, .int .i64 r, .int .i64 p], ms := [], hp := [some (.row 1 N (rowS f))] }).run =
  bif decide ((↑s : Int) < (↑r : Int)) then
   bif decide ((0 : Int) ≤ IntKind.i64.wrap ((↑p : Int) - IntKind.i64.wrap ((IntKind.u64.wrap (IntKind.i64.wrap ((↑s : Int) + (↑r : Int)))).fdiv (2 : Int))) ∧ IntKind.i64.wrap ((↑p : Int) - IntKind.i64.wrap ((IntKind.u64.wrap (IntKind.i64.wrap ((↑s : Int) + (↑r : Int)))).fdiv (2 : Int))) < (↑N : Int)) then
    bif decide (0 + (IntKind.i64.wrap ((↑p : Int) - IntKind.i64.wrap ((IntKind.u64.wrap (IntKind.i64.wrap ((↑s : Int) + (↑r : Int)))).fdiv (2 : Int)))).toNat < N) then
     bif decide ((0 : Int) ≤ IntKind.i64.wrap ((IntKind.u64.wrap (IntKind.i64.wrap ((↑s : Int) + (↑r : Int)))).fdiv (2 : Int)) ∧ IntKind.i64.wrap ((IntKind.u64.wrap (IntKind.i64.wrap ((↑s : Int) + (↑r : Int)))).fdiv (2 : Int)) < (↑N : Int)) then
      bif decide (0 + (IntKind.i64.wrap ((IntKind.u64.wrap (IntKind.i64.wrap ((↑s : Int) + (↑r : Int)))).fdiv (2 : Int))).toNat < N) then
       bif !decide (compareD (f (0 + (IntKind.i64.wrap ((↑p : Int) - IntKind.i64.wrap ((IntKind.u64.wrap (IntKind.i64.wrap ((↑s : Int) + (↑r : Int)))).fdiv (2 : Int)))).toNat)) (f (0 + (IntKind.i64.wrap ((IntKind.u64.wrap (IntKind.i64.wrap ((↑s : Int) + (↑r : Int)))).fdiv (2 : Int))).toNat)) < (0 : Int)) then
        some ((AX.normal, { tm := tmOf 220 [(0, AV.row 0 1 0 N), (1, AV.int IntKind.i64 (↑a : Int)), (2, AV.int IntKind.i64 (↑m : Int)), (3, AV.int IntKind.i64 (↑b : Int)), (4, AV.fn 12 []), (18, AV.int IntKind.i64 (↑mid : Int)), (19, AV.int IntKind.i64 (↑n : Int)), (20, AV.int IntKind.i64 (IntKind.i64.wrap (IntKind.i64.wrap ((IntKind.u64.wrap (IntKind.i64.wrap ((↑s : Int) + (↑r : Int)))).fdiv (2 : Int)) + (1 : Int)))), (21, AV.int IntKind.i64 (↑r : Int)), (22, AV.int IntKind.i64 (↑p : Int))], ms := [], hp := [some (AObj.row 1 N (rowS f))] }))
       else
        some ((AX.normal, { tm := tmOf 220 [(0, AV.row 0 1 0 N), (1, AV.int IntKind.i64 (↑a : Int)), (2, AV.int IntKind.i64 (↑m : Int)), (3, AV.int IntKind.i64 (↑b : Int)), (4, AV.fn 12 []), (18, AV.int IntKind.i64 (↑mid : Int)), (19, AV.int IntKind.i64 (↑n : Int)), (20, AV.int IntKind.i64 (↑s : Int)), (21, AV.int IntKind.i64 (IntKind.i64.wrap ((IntKind.u64.wrap (IntKind.i64.wrap ((↑s : Int) + (↑r : Int)))).fdiv (2 : Int)))), (22, AV.int IntKind.i64 (↑p : Int))], ms := [], hp := [some (AObj.row 1 N (rowS f))] }))
      else
       none
     else
      none
    else
     none
   else
    none
  else
   some ((AX.exit 8, { tm := tmOf 220 [(0, AV.row 0 1 0 N), (1, AV.int IntKind.i64 (↑a : Int)), (2, AV.int IntKind.i64 (↑m : Int)), (3, AV.int IntKind.i64 (↑b : Int)), (4, AV.fn 12 []), (18, AV.int IntKind.i64 (↑mid : Int)), (19, AV.int IntKind.i64 (↑n : Int)), (20, AV.int IntKind.i64 (↑s : Int)), (21, AV.int IntKind.i64 (↑r : Int)), (22, AV.int IntKind.i64 (↑p : Int)), (151, AV.bool false)], ms := [], hp := [some (AObj.row 1 N (rowS f))] })) := by kernel_rfl

theorem l76_4 (K : Nat) : LoopOk Tryd.prog (tabD4 K).pf (fun n => hd Tryd.prog (tabD4 K).pf (tabD4 K).con.run (fun f => (H0 f).to) n 9) h76.to 76 1 none LE76 (loopAt Tryd.prog 76 4) := by
  rw [show loopAt Tryd.prog 76 4 = .loop (lbody Tryd.prog 76 4) by kernel_rfl]
  refine loop_c (hdT_le (m := 20) 9) (m := 20) (lv := mbits 8126495 220) (p := pL76_4) (res := rL76_4) iL76_4 (within_of _ (by rw [show loopsOf (lbody Tryd.prog 76 4) = [] by kernel_rfl]; simp)) (by kernel_rfl) (fun ⟨N, f, a, m, b, mid, n, s, r, p⟩ => r - s) ?_
  rintro ⟨N, f, a, m, b, mid, n, s, r, p⟩ hp
  have ht := q76_4 K N f a m b mid n s r p
  obtain ⟨h1, h2, h3, h5, h4⟩ := hp
  by_cases hl : s < r
  · have hb := bsN_step (C := cutC compareD f p) hl
    have hm : (s + r) / 2 < N := by omega
    have hm2 : p - (s + r) / 2 < N := by omega
    rw [decide_eq_true (show (s : Int) < r by omega), shr_mid (show s + r < 9223372036854775807 by omega), w64s (by omega) (by omega), in_row hm, in_row hm2] at ht
    simp only [Int.toNat_natCast, Nat.zero_add, cond_true, decide_eq_true hm, decide_eq_true hm2] at ht
    left
    cases hc : cutC compareD f p ((s + r) / 2) with
    | true =>
      rw [show (!decide (compareD (f (p - (s + r) / 2)) (f ((s + r) / 2)) < 0)) = true from hc, w64n (by omega)] at ht
      rw [hc, cond_true] at hb
      refine ⟨⟨N, f, a, m, b, mid, n, (s + r) / 2 + 1, r, p⟩, ⟨by omega, h2, h3, by omega, h4⟩, by simp only; omega, ?_, ht⟩
      simp only [rL76_4, T.run_leaf, hb]
    | false =>
      rw [show (!decide (compareD (f (p - (s + r) / 2)) (f ((s + r) / 2)) < 0)) = false from hc] at ht
      rw [hc, cond_false] at hb
      refine ⟨⟨N, f, a, m, b, mid, n, s, (s + r) / 2, p⟩, ⟨by omega, by omega, by omega, h5, h4⟩, by simp only; omega, ?_, ht⟩
      simp only [rL76_4, T.run_leaf, hb]
  · obtain rfl : s = r := by omega
    right
    rw [decide_eq_false (by omega)] at ht
    refine ⟨_, ?_, ?_, ht⟩
    · simp
    · simp only [rL76_4, T.run_leaf, bsN_end (Nat.le_refl _)] <;> rfl

theorem t76 (K : Nat) (N : Nat) (f : Nat → List UInt8) (a m b : Nat) : (evn (tabD4 K) h76 LE76 76 [.row 0 1 0 N, .int .i64 a, .int .i64 m, .int .i64 b, .fn 12 []] [some (.row 1 N (rowS f))]).run =
  bif IntKind.i64.wrap ((↑m : Int) - (↑a : Int)) == (1 : Int) then
   bif isEn eL76 pL76 ([AV.row 0 1 0 N, AV.int IntKind.i64 (↑a : Int), AV.fn 12 [], AV.int IntKind.i64 (↑m : Int), AV.int IntKind.i64 (↑b : Int)], [some (AObj.row 1 N (rowS f))]) then
    bif isEn eL76_1 pL76_1 ([AV.row 0 1 0 N, AV.int IntKind.i64 (↑(bsN (CA (unS (rowS f)) (↑a : Int).toNat) ((↑b : Int).toNat - (↑m : Int).toNat) (↑m : Int).toNat (↑b : Int).toNat) : Int), AV.int IntKind.i64 (↑(↑a : Int).toNat : Int)], [some (AObj.row 1 N (rowS (unS (rowS f))))]) then
     some ((AV.tup [], [some (AObj.row 1 N (rowS (rotR (unS (rowS (unS (rowS f)))) (↑(↑a : Int).toNat : Int).toNat ((↑(↑a : Int).toNat : Int).toNat + 1) (↑(bsN (CA (unS (rowS f)) (↑a : Int).toNat) ((↑b : Int).toNat - (↑m : Int).toNat) (↑m : Int).toNat (↑b : Int).toNat) : Int).toNat)))]))
    else
     none
   else
    none
  else
   bif IntKind.i64.wrap ((↑b : Int) - (↑m : Int)) == (1 : Int) then
    bif isEn eL76_2 pL76_2 ([AV.row 0 1 0 N, AV.int IntKind.i64 (↑m : Int), AV.fn 12 [], AV.int IntKind.i64 (↑a : Int), AV.int IntKind.i64 (↑m : Int)], [some (AObj.row 1 N (rowS f))]) then
     bif isEn eL76_3 pL76_3 ([AV.row 0 1 0 N, AV.int IntKind.i64 (↑(bsN (CB (unS (rowS f)) (↑m : Int).toNat) ((↑m : Int).toNat - (↑a : Int).toNat) (↑a : Int).toNat (↑m : Int).toNat) : Int), AV.int IntKind.i64 (↑(↑m : Int).toNat : Int)], [some (AObj.row 1 N (rowS (unS (rowS f))))]) then
      some ((AV.tup [], [some (AObj.row 1 N (rowS (rotR (unS (rowS (unS (rowS f)))) (↑(bsN (CB (unS (rowS f)) (↑m : Int).toNat) ((↑m : Int).toNat - (↑a : Int).toNat) (↑a : Int).toNat (↑m : Int).toNat) : Int).toNat (↑(↑m : Int).toNat : Int).toNat ((↑(↑m : Int).toNat : Int).toNat + 1))))]))
     else
      none
    else
     none
   else
    bif decide ((↑m : Int) > IntKind.i64.wrap ((IntKind.u64.wrap (IntKind.i64.wrap ((↑a : Int) + (↑b : Int)))).fdiv (2 : Int))) then
     bif isEn eL76_4 pL76_4 ([AV.row 0 1 0 N, AV.int IntKind.i64 (↑a : Int), AV.int IntKind.i64 (↑m : Int), AV.int IntKind.i64 (↑b : Int), AV.fn 12 [], AV.int IntKind.i64 (IntKind.i64.wrap ((IntKind.u64.wrap (IntKind.i64.wrap ((↑a : Int) + (↑b : Int)))).fdiv (2 : Int))), AV.int IntKind.i64 (IntKind.i64.wrap (IntKind.i64.wrap ((IntKind.u64.wrap (IntKind.i64.wrap ((↑a : Int) + (↑b : Int)))).fdiv (2 : Int)) + (↑m : Int))), AV.int IntKind.i64 (IntKind.i64.wrap (IntKind.i64.wrap (IntKind.i64.wrap ((IntKind.u64.wrap (IntKind.i64.wrap ((↑a : Int) + (↑b : Int)))).fdiv (2 : Int)) + (↑m : Int)) - (↑b : Int))), AV.int IntKind.i64 (IntKind.i64.wrap ((IntKind.u64.wrap (IntKind.i64.wrap ((↑a : Int) + (↑b : Int)))).fdiv (2 : Int))), AV.int IntKind.i64 (IntKind.i64.wrap (IntKind.i64.wrap (IntKind.i64.wrap ((IntKind.u64.wrap (IntKind.i64.wrap ((↑a : Int) + (↑b : Int)))).fdiv (2 : Int)) + (↑m : Int)) - (1 : Int)))], [some (AObj.row 1 N (rowS f))]) then
      bif decide ((↑(bsN (cutC compareD (unS (rowS f)) (IntKind.i64.wrap (IntKind.i64.wrap (IntKind.i64.wrap ((IntKind.u64.wrap (IntKind.i64.wrap ((↑a : Int) + (↑b : Int)))).fdiv (2 : Int)) + (↑m : Int)) - (1 : Int))).toNat) ((IntKind.i64.wrap ((IntKind.u64.wrap (IntKind.i64.wrap ((↑a : Int) + (↑b : Int)))).fdiv (2 : Int))).toNat - (IntKind.i64.wrap (IntKind.i64.wrap (IntKind.i64.wrap ((IntKind.u64.wrap (IntKind.i64.wrap ((↑a : Int) + (↑b : Int)))).fdiv (2 : Int)) + (↑m : Int)) - (↑b : Int))).toNat) (IntKind.i64.wrap (IntKind.i64.wrap (IntKind.i64.wrap ((IntKind.u64.wrap (IntKind.i64.wrap ((↑a : Int) + (↑b : Int)))).fdiv (2 : Int)) + (↑m : Int)) - (↑b : Int))).toNat (IntKind.i64.wrap ((IntKind.u64.wrap (IntKind.i64.wrap ((↑a : Int) + (↑b : Int)))).fdiv (2 : Int))).toNat) : Int) < (↑(↑m : Int).toNat : Int)) then
       bif decide ((↑(↑m : Int).toNat : Int) < IntKind.i64.wrap ((↑(IntKind.i64.wrap (IntKind.i64.wrap ((IntKind.u64.wrap (IntKind.i64.wrap ((↑a : Int) + (↑b : Int)))).fdiv (2 : Int)) + (↑m : Int))).toNat : Int) - (↑(bsN (cutC compareD (unS (rowS f)) (IntKind.i64.wrap (IntKind.i64.wrap (IntKind.i64.wrap ((IntKind.u64.wrap (IntKind.i64.wrap ((↑a : Int) + (↑b : Int)))).fdiv (2 : Int)) + (↑m : Int)) - (1 : Int))).toNat) ((IntKind.i64.wrap ((IntKind.u64.wrap (IntKind.i64.wrap ((↑a : Int) + (↑b : Int)))).fdiv (2 : Int))).toNat - (IntKind.i64.wrap (IntKind.i64.wrap (IntKind.i64.wrap ((IntKind.u64.wrap (IntKind.i64.wrap ((↑a : Int) + (↑b : Int)))).fdiv (2 : Int)) + (↑m : Int)) - (↑b : Int))).toNat) (IntKind.i64.wrap (IntKind.i64.wrap (IntKind.i64.wrap ((IntKind.u64.wrap (IntKind.i64.wrap ((↑a : Int) + (↑b : Int)))).fdiv (2 : Int)) + (↑m : Int)) - (↑b : Int))).toNat (IntKind.i64.wrap ((IntKind.u64.wrap (IntKind.i64.wrap ((↑a : Int) + (↑b : Int)))).fdiv (2 : Int))).toNat) : Int))) then
        bif isEn en81 p81 ([AV.row 0 1 0 N, AV.int IntKind.i64 (↑(bsN (cutC compareD (unS (rowS f)) (IntKind.i64.wrap (IntKind.i64.wrap (IntKind.i64.wrap ((IntKind.u64.wrap (IntKind.i64.wrap ((↑a : Int) + (↑b : Int)))).fdiv (2 : Int)) + (↑m : Int)) - (1 : Int))).toNat) ((IntKind.i64.wrap ((IntKind.u64.wrap (IntKind.i64.wrap ((↑a : Int) + (↑b : Int)))).fdiv (2 : Int))).toNat - (IntKind.i64.wrap (IntKind.i64.wrap (IntKind.i64.wrap ((IntKind.u64.wrap (IntKind.i64.wrap ((↑a : Int) + (↑b : Int)))).fdiv (2 : Int)) + (↑m : Int)) - (↑b : Int))).toNat) (IntKind.i64.wrap (IntKind.i64.wrap (IntKind.i64.wrap ((IntKind.u64.wrap (IntKind.i64.wrap ((↑a : Int) + (↑b : Int)))).fdiv (2 : Int)) + (↑m : Int)) - (↑b : Int))).toNat (IntKind.i64.wrap ((IntKind.u64.wrap (IntKind.i64.wrap ((↑a : Int) + (↑b : Int)))).fdiv (2 : Int))).toNat) : Int), AV.int IntKind.i64 (↑(↑m : Int).toNat : Int), AV.int IntKind.i64 (IntKind.i64.wrap ((↑(IntKind.i64.wrap (IntKind.i64.wrap ((IntKind.u64.wrap (IntKind.i64.wrap ((↑a : Int) + (↑b : Int)))).fdiv (2 : Int)) + (↑m : Int))).toNat : Int) - (↑(bsN (cutC compareD (unS (rowS f)) (IntKind.i64.wrap (IntKind.i64.wrap (IntKind.i64.wrap ((IntKind.u64.wrap (IntKind.i64.wrap ((↑a : Int) + (↑b : Int)))).fdiv (2 : Int)) + (↑m : Int)) - (1 : Int))).toNat) ((IntKind.i64.wrap ((IntKind.u64.wrap (IntKind.i64.wrap ((↑a : Int) + (↑b : Int)))).fdiv (2 : Int))).toNat - (IntKind.i64.wrap (IntKind.i64.wrap (IntKind.i64.wrap ((IntKind.u64.wrap (IntKind.i64.wrap ((↑a : Int) + (↑b : Int)))).fdiv (2 : Int)) + (↑m : Int)) - (↑b : Int))).toNat) (IntKind.i64.wrap (IntKind.i64.wrap (IntKind.i64.wrap ((IntKind.u64.wrap (IntKind.i64.wrap ((↑a : Int) + (↑b : Int)))).fdiv (2 : Int)) + (↑m : Int)) - (↑b : Int))).toNat (IntKind.i64.wrap ((IntKind.u64.wrap (IntKind.i64.wrap ((↑a : Int) + (↑b : Int)))).fdiv (2 : Int))).toNat) : Int))), AV.fn 12 []], [some (AObj.row 1 N (rowS (unS (rowS f))))]) then
         bif decide ((↑(↑a : Int).toNat : Int) < (↑(bsN (cutC compareD (unS (rowS f)) (IntKind.i64.wrap (IntKind.i64.wrap (IntKind.i64.wrap ((IntKind.u64.wrap (IntKind.i64.wrap ((↑a : Int) + (↑b : Int)))).fdiv (2 : Int)) + (↑m : Int)) - (1 : Int))).toNat) ((IntKind.i64.wrap ((IntKind.u64.wrap (IntKind.i64.wrap ((↑a : Int) + (↑b : Int)))).fdiv (2 : Int))).toNat - (IntKind.i64.wrap (IntKind.i64.wrap (IntKind.i64.wrap ((IntKind.u64.wrap (IntKind.i64.wrap ((↑a : Int) + (↑b : Int)))).fdiv (2 : Int)) + (↑m : Int)) - (↑b : Int))).toNat) (IntKind.i64.wrap (IntKind.i64.wrap (IntKind.i64.wrap ((IntKind.u64.wrap (IntKind.i64.wrap ((↑a : Int) + (↑b : Int)))).fdiv (2 : Int)) + (↑m : Int)) - (↑b : Int))).toNat (IntKind.i64.wrap ((IntKind.u64.wrap (IntKind.i64.wrap ((↑a : Int) + (↑b : Int)))).fdiv (2 : Int))).toNat) : Int)) then
          bif decide ((↑(bsN (cutC compareD (unS (rowS f)) (IntKind.i64.wrap (IntKind.i64.wrap (IntKind.i64.wrap ((IntKind.u64.wrap (IntKind.i64.wrap ((↑a : Int) + (↑b : Int)))).fdiv (2 : Int)) + (↑m : Int)) - (1 : Int))).toNat) ((IntKind.i64.wrap ((IntKind.u64.wrap (IntKind.i64.wrap ((↑a : Int) + (↑b : Int)))).fdiv (2 : Int))).toNat - (IntKind.i64.wrap (IntKind.i64.wrap (IntKind.i64.wrap ((IntKind.u64.wrap (IntKind.i64.wrap ((↑a : Int) + (↑b : Int)))).fdiv (2 : Int)) + (↑m : Int)) - (↑b : Int))).toNat) (IntKind.i64.wrap (IntKind.i64.wrap (IntKind.i64.wrap ((IntKind.u64.wrap (IntKind.i64.wrap ((↑a : Int) + (↑b : Int)))).fdiv (2 : Int)) + (↑m : Int)) - (↑b : Int))).toNat (IntKind.i64.wrap ((IntKind.u64.wrap (IntKind.i64.wrap ((↑a : Int) + (↑b : Int)))).fdiv (2 : Int))).toNat) : Int) < (↑(IntKind.i64.wrap ((IntKind.u64.wrap (IntKind.i64.wrap ((↑a : Int) + (↑b : Int)))).fdiv (2 : Int))).toNat : Int)) then
           bif isEn en76 (p76 K)
  ([AV.row 0 1 0 N, AV.int IntKind.i64 (↑(↑a : Int).toNat : Int), AV.int IntKind.i64 (↑(bsN (cutC compareD (unS (rowS f)) (IntKind.i64.wrap (IntKind.i64.wrap (IntKind.i64.wrap ((IntKind.u64.wrap (IntKind.i64.wrap ((↑a : Int) + (↑b : Int)))).fdiv (2 : Int)) + (↑m : Int)) - (1 : Int))).toNat) ((IntKind.i64.wrap ((IntKind.u64.wrap (IntKind.i64.wrap ((↑a : Int) + (↑b : Int)))).fdiv (2 : Int))).toNat - (IntKind.i64.wrap (IntKind.i64.wrap (IntKind.i64.wrap ((IntKind.u64.wrap (IntKind.i64.wrap ((↑a : Int) + (↑b : Int)))).fdiv (2 : Int)) + (↑m : Int)) - (↑b : Int))).toNat) (IntKind.i64.wrap (IntKind.i64.wrap (IntKind.i64.wrap ((IntKind.u64.wrap (IntKind.i64.wrap ((↑a : Int) + (↑b : Int)))).fdiv (2 : Int)) + (↑m : Int)) - (↑b : Int))).toNat (IntKind.i64.wrap ((IntKind.u64.wrap (IntKind.i64.wrap ((↑a : Int) + (↑b : Int)))).fdiv (2 : Int))).toNat) : Int), AV.int IntKind.i64 (↑(IntKind.i64.wrap ((IntKind.u64.wrap (IntKind.i64.wrap ((↑a : Int) + (↑b : Int)))).fdiv (2 : Int))).toNat : Int), AV.fn 12 []],
    [some (AObj.row 1 N (rowS (rotR (unS (rowS (unS (rowS f)))) (↑(bsN (cutC compareD (unS (rowS f)) (IntKind.i64.wrap (IntKind.i64.wrap (IntKind.i64.wrap ((IntKind.u64.wrap (IntKind.i64.wrap ((↑a : Int) + (↑b : Int)))).fdiv (2 : Int)) + (↑m : Int)) - (1 : Int))).toNat) ((IntKind.i64.wrap ((IntKind.u64.wrap (IntKind.i64.wrap ((↑a : Int) + (↑b : Int)))).fdiv (2 : Int))).toNat - (IntKind.i64.wrap (IntKind.i64.wrap (IntKind.i64.wrap ((IntKind.u64.wrap (IntKind.i64.wrap ((↑a : Int) + (↑b : Int)))).fdiv (2 : Int)) + (↑m : Int)) - (↑b : Int))).toNat) (IntKind.i64.wrap (IntKind.i64.wrap (IntKind.i64.wrap ((IntKind.u64.wrap (IntKind.i64.wrap ((↑a : Int) + (↑b : Int)))).fdiv (2 : Int)) + (↑m : Int)) - (↑b : Int))).toNat (IntKind.i64.wrap ((IntKind.u64.wrap (IntKind.i64.wrap ((↑a : Int) + (↑b : Int)))).fdiv (2 : Int))).toNat) : Int).toNat (↑(↑m : Int).toNat : Int).toNat (IntKind.i64.wrap ((↑(IntKind.i64.wrap (IntKind.i64.wrap ((IntKind.u64.wrap (IntKind.i64.wrap ((↑a : Int) + (↑b : Int)))).fdiv (2 : Int)) + (↑m : Int))).toNat : Int) - (↑(bsN (cutC compareD (unS (rowS f)) (IntKind.i64.wrap (IntKind.i64.wrap (IntKind.i64.wrap ((IntKind.u64.wrap (IntKind.i64.wrap ((↑a : Int) + (↑b : Int)))).fdiv (2 : Int)) + (↑m : Int)) - (1 : Int))).toNat) ((IntKind.i64.wrap ((IntKind.u64.wrap (IntKind.i64.wrap ((↑a : Int) + (↑b : Int)))).fdiv (2 : Int))).toNat - (IntKind.i64.wrap (IntKind.i64.wrap (IntKind.i64.wrap ((IntKind.u64.wrap (IntKind.i64.wrap ((↑a : Int) + (↑b : Int)))).fdiv (2 : Int)) + (↑m : Int)) - (↑b : Int))).toNat) (IntKind.i64.wrap (IntKind.i64.wrap (IntKind.i64.wrap ((IntKind.u64.wrap (IntKind.i64.wrap ((↑a : Int) + (↑b : Int)))).fdiv (2 : Int)) + (↑m : Int)) - (↑b : Int))).toNat (IntKind.i64.wrap ((IntKind.u64.wrap (IntKind.i64.wrap ((↑a : Int) + (↑b : Int)))).fdiv (2 : Int))).toNat) : Int))).toNat)))]) then
            bif decide ((↑(IntKind.i64.wrap ((IntKind.u64.wrap (IntKind.i64.wrap ((↑a : Int) + (↑b : Int)))).fdiv (2 : Int))).toNat : Int) < IntKind.i64.wrap ((↑(IntKind.i64.wrap (IntKind.i64.wrap ((IntKind.u64.wrap (IntKind.i64.wrap ((↑a : Int) + (↑b : Int)))).fdiv (2 : Int)) + (↑m : Int))).toNat : Int) - (↑(bsN (cutC compareD (unS (rowS f)) (IntKind.i64.wrap (IntKind.i64.wrap (IntKind.i64.wrap ((IntKind.u64.wrap (IntKind.i64.wrap ((↑a : Int) + (↑b : Int)))).fdiv (2 : Int)) + (↑m : Int)) - (1 : Int))).toNat) ((IntKind.i64.wrap ((IntKind.u64.wrap (IntKind.i64.wrap ((↑a : Int) + (↑b : Int)))).fdiv (2 : Int))).toNat - (IntKind.i64.wrap (IntKind.i64.wrap (IntKind.i64.wrap ((IntKind.u64.wrap (IntKind.i64.wrap ((↑a : Int) + (↑b : Int)))).fdiv (2 : Int)) + (↑m : Int)) - (↑b : Int))).toNat) (IntKind.i64.wrap (IntKind.i64.wrap (IntKind.i64.wrap ((IntKind.u64.wrap (IntKind.i64.wrap ((↑a : Int) + (↑b : Int)))).fdiv (2 : Int)) + (↑m : Int)) - (↑b : Int))).toNat (IntKind.i64.wrap ((IntKind.u64.wrap (IntKind.i64.wrap ((↑a : Int) + (↑b : Int)))).fdiv (2 : Int))).toNat) : Int))) then
             bif decide (IntKind.i64.wrap ((↑(IntKind.i64.wrap (IntKind.i64.wrap ((IntKind.u64.wrap (IntKind.i64.wrap ((↑a : Int) + (↑b : Int)))).fdiv (2 : Int)) + (↑m : Int))).toNat : Int) - (↑(bsN (cutC compareD (unS (rowS f)) (IntKind.i64.wrap (IntKind.i64.wrap (IntKind.i64.wrap ((IntKind.u64.wrap (IntKind.i64.wrap ((↑a : Int) + (↑b : Int)))).fdiv (2 : Int)) + (↑m : Int)) - (1 : Int))).toNat) ((IntKind.i64.wrap ((IntKind.u64.wrap (IntKind.i64.wrap ((↑a : Int) + (↑b : Int)))).fdiv (2 : Int))).toNat - (IntKind.i64.wrap (IntKind.i64.wrap (IntKind.i64.wrap ((IntKind.u64.wrap (IntKind.i64.wrap ((↑a : Int) + (↑b : Int)))).fdiv (2 : Int)) + (↑m : Int)) - (↑b : Int))).toNat) (IntKind.i64.wrap (IntKind.i64.wrap (IntKind.i64.wrap ((IntKind.u64.wrap (IntKind.i64.wrap ((↑a : Int) + (↑b : Int)))).fdiv (2 : Int)) + (↑m : Int)) - (↑b : Int))).toNat (IntKind.i64.wrap ((IntKind.u64.wrap (IntKind.i64.wrap ((↑a : Int) + (↑b : Int)))).fdiv (2 : Int))).toNat) : Int)) < (↑(↑b : Int).toNat : Int)) then
              bif isEn en76 (p76 K)
  ([AV.row 0 1 0 N, AV.int IntKind.i64 (↑(IntKind.i64.wrap ((IntKind.u64.wrap (IntKind.i64.wrap ((↑a : Int) + (↑b : Int)))).fdiv (2 : Int))).toNat : Int), AV.int IntKind.i64 (IntKind.i64.wrap ((↑(IntKind.i64.wrap (IntKind.i64.wrap ((IntKind.u64.wrap (IntKind.i64.wrap ((↑a : Int) + (↑b : Int)))).fdiv (2 : Int)) + (↑m : Int))).toNat : Int) - (↑(bsN (cutC compareD (unS (rowS f)) (IntKind.i64.wrap (IntKind.i64.wrap (IntKind.i64.wrap ((IntKind.u64.wrap (IntKind.i64.wrap ((↑a : Int) + (↑b : Int)))).fdiv (2 : Int)) + (↑m : Int)) - (1 : Int))).toNat) ((IntKind.i64.wrap ((IntKind.u64.wrap (IntKind.i64.wrap ((↑a : Int) + (↑b : Int)))).fdiv (2 : Int))).toNat - (IntKind.i64.wrap (IntKind.i64.wrap (IntKind.i64.wrap ((IntKind.u64.wrap (IntKind.i64.wrap ((↑a : Int) + (↑b : Int)))).fdiv (2 : Int)) + (↑m : Int)) - (↑b : Int))).toNat) (IntKind.i64.wrap (IntKind.i64.wrap (IntKind.i64.wrap ((IntKind.u64.wrap (IntKind.i64.wrap ((↑a : Int) + (↑b : Int)))).fdiv (2 : Int)) + (↑m : Int)) - (↑b : Int))).toNat (IntKind.i64.wrap ((IntKind.u64.wrap (IntKind.i64.wrap ((↑a : Int) + (↑b : Int)))).fdiv (2 : Int))).toNat) : Int))), AV.int IntKind.i64 (↑(↑b : Int).toNat : Int), AV.fn 12 []],
    [some
        (AObj.row 1 N
          (rowS (sortG compareD (unS (rowS (rotR (unS (rowS (unS (rowS f)))) (↑(bsN (cutC compareD (unS (rowS f)) (IntKind.i64.wrap (IntKind.i64.wrap (IntKind.i64.wrap ((IntKind.u64.wrap (IntKind.i64.wrap ((↑a : Int) + (↑b : Int)))).fdiv (2 : Int)) + (↑m : Int)) - (1 : Int))).toNat) ((IntKind.i64.wrap ((IntKind.u64.wrap (IntKind.i64.wrap ((↑a : Int) + (↑b : Int)))).fdiv (2 : Int))).toNat - (IntKind.i64.wrap (IntKind.i64.wrap (IntKind.i64.wrap ((IntKind.u64.wrap (IntKind.i64.wrap ((↑a : Int) + (↑b : Int)))).fdiv (2 : Int)) + (↑m : Int)) - (↑b : Int))).toNat) (IntKind.i64.wrap (IntKind.i64.wrap (IntKind.i64.wrap ((IntKind.u64.wrap (IntKind.i64.wrap ((↑a : Int) + (↑b : Int)))).fdiv (2 : Int)) + (↑m : Int)) - (↑b : Int))).toNat (IntKind.i64.wrap ((IntKind.u64.wrap (IntKind.i64.wrap ((↑a : Int) + (↑b : Int)))).fdiv (2 : Int))).toNat) : Int).toNat (↑(↑m : Int).toNat : Int).toNat (IntKind.i64.wrap ((↑(IntKind.i64.wrap (IntKind.i64.wrap ((IntKind.u64.wrap (IntKind.i64.wrap ((↑a : Int) + (↑b : Int)))).fdiv (2 : Int)) + (↑m : Int))).toNat : Int) - (↑(bsN (cutC compareD (unS (rowS f)) (IntKind.i64.wrap (IntKind.i64.wrap (IntKind.i64.wrap ((IntKind.u64.wrap (IntKind.i64.wrap ((↑a : Int) + (↑b : Int)))).fdiv (2 : Int)) + (↑m : Int)) - (1 : Int))).toNat) ((IntKind.i64.wrap ((IntKind.u64.wrap (IntKind.i64.wrap ((↑a : Int) + (↑b : Int)))).fdiv (2 : Int))).toNat - (IntKind.i64.wrap (IntKind.i64.wrap (IntKind.i64.wrap ((IntKind.u64.wrap (IntKind.i64.wrap ((↑a : Int) + (↑b : Int)))).fdiv (2 : Int)) + (↑m : Int)) - (↑b : Int))).toNat) (IntKind.i64.wrap (IntKind.i64.wrap (IntKind.i64.wrap ((IntKind.u64.wrap (IntKind.i64.wrap ((↑a : Int) + (↑b : Int)))).fdiv (2 : Int)) + (↑m : Int)) - (↑b : Int))).toNat (IntKind.i64.wrap ((IntKind.u64.wrap (IntKind.i64.wrap ((↑a : Int) + (↑b : Int)))).fdiv (2 : Int))).toNat) : Int))).toNat))) (↑(↑a : Int).toNat : Int).toNat (↑(IntKind.i64.wrap ((IntKind.u64.wrap (IntKind.i64.wrap ((↑a : Int) + (↑b : Int)))).fdiv (2 : Int))).toNat : Int).toNat)))]) then
               some ((AV.tup [],
  [some
      (AObj.row 1 N
        (rowS
          (sortG compareD
            (unS (rowS (sortG compareD (unS (rowS (rotR (unS (rowS (unS (rowS f)))) (↑(bsN (cutC compareD (unS (rowS f)) (IntKind.i64.wrap (IntKind.i64.wrap (IntKind.i64.wrap ((IntKind.u64.wrap (IntKind.i64.wrap ((↑a : Int) + (↑b : Int)))).fdiv (2 : Int)) + (↑m : Int)) - (1 : Int))).toNat) ((IntKind.i64.wrap ((IntKind.u64.wrap (IntKind.i64.wrap ((↑a : Int) + (↑b : Int)))).fdiv (2 : Int))).toNat - (IntKind.i64.wrap (IntKind.i64.wrap (IntKind.i64.wrap ((IntKind.u64.wrap (IntKind.i64.wrap ((↑a : Int) + (↑b : Int)))).fdiv (2 : Int)) + (↑m : Int)) - (↑b : Int))).toNat) (IntKind.i64.wrap (IntKind.i64.wrap (IntKind.i64.wrap ((IntKind.u64.wrap (IntKind.i64.wrap ((↑a : Int) + (↑b : Int)))).fdiv (2 : Int)) + (↑m : Int)) - (↑b : Int))).toNat (IntKind.i64.wrap ((IntKind.u64.wrap (IntKind.i64.wrap ((↑a : Int) + (↑b : Int)))).fdiv (2 : Int))).toNat) : Int).toNat (↑(↑m : Int).toNat : Int).toNat (IntKind.i64.wrap ((↑(IntKind.i64.wrap (IntKind.i64.wrap ((IntKind.u64.wrap (IntKind.i64.wrap ((↑a : Int) + (↑b : Int)))).fdiv (2 : Int)) + (↑m : Int))).toNat : Int) - (↑(bsN (cutC compareD (unS (rowS f)) (IntKind.i64.wrap (IntKind.i64.wrap (IntKind.i64.wrap ((IntKind.u64.wrap (IntKind.i64.wrap ((↑a : Int) + (↑b : Int)))).fdiv (2 : Int)) + (↑m : Int)) - (1 : Int))).toNat) ((IntKind.i64.wrap ((IntKind.u64.wrap (IntKind.i64.wrap ((↑a : Int) + (↑b : Int)))).fdiv (2 : Int))).toNat - (IntKind.i64.wrap (IntKind.i64.wrap (IntKind.i64.wrap ((IntKind.u64.wrap (IntKind.i64.wrap ((↑a : Int) + (↑b : Int)))).fdiv (2 : Int)) + (↑m : Int)) - (↑b : Int))).toNat) (IntKind.i64.wrap (IntKind.i64.wrap (IntKind.i64.wrap ((IntKind.u64.wrap (IntKind.i64.wrap ((↑a : Int) + (↑b : Int)))).fdiv (2 : Int)) + (↑m : Int)) - (↑b : Int))).toNat (IntKind.i64.wrap ((IntKind.u64.wrap (IntKind.i64.wrap ((↑a : Int) + (↑b : Int)))).fdiv (2 : Int))).toNat) : Int))).toNat))) (↑(↑a : Int).toNat : Int).toNat (↑(IntKind.i64.wrap ((IntKind.u64.wrap (IntKind.i64.wrap ((↑a : Int) + (↑b : Int)))).fdiv (2 : Int))).toNat : Int).toNat)))
            (↑(IntKind.i64.wrap ((IntKind.u64.wrap (IntKind.i64.wrap ((↑a : Int) + (↑b : Int)))).fdiv (2 : Int))).toNat : Int).toNat (↑(↑b : Int).toNat : Int).toNat)))]))
              else
               none
             else
              some ((AV.tup [],
  [some
      (AObj.row 1 N
        (rowS (sortG compareD (unS (rowS (rotR (unS (rowS (unS (rowS f)))) (↑(bsN (cutC compareD (unS (rowS f)) (IntKind.i64.wrap (IntKind.i64.wrap (IntKind.i64.wrap ((IntKind.u64.wrap (IntKind.i64.wrap ((↑a : Int) + (↑b : Int)))).fdiv (2 : Int)) + (↑m : Int)) - (1 : Int))).toNat) ((IntKind.i64.wrap ((IntKind.u64.wrap (IntKind.i64.wrap ((↑a : Int) + (↑b : Int)))).fdiv (2 : Int))).toNat - (IntKind.i64.wrap (IntKind.i64.wrap (IntKind.i64.wrap ((IntKind.u64.wrap (IntKind.i64.wrap ((↑a : Int) + (↑b : Int)))).fdiv (2 : Int)) + (↑m : Int)) - (↑b : Int))).toNat) (IntKind.i64.wrap (IntKind.i64.wrap (IntKind.i64.wrap ((IntKind.u64.wrap (IntKind.i64.wrap ((↑a : Int) + (↑b : Int)))).fdiv (2 : Int)) + (↑m : Int)) - (↑b : Int))).toNat (IntKind.i64.wrap ((IntKind.u64.wrap (IntKind.i64.wrap ((↑a : Int) + (↑b : Int)))).fdiv (2 : Int))).toNat) : Int).toNat (↑(↑m : Int).toNat : Int).toNat (IntKind.i64.wrap ((↑(IntKind.i64.wrap (IntKind.i64.wrap ((IntKind.u64.wrap (IntKind.i64.wrap ((↑a : Int) + (↑b : Int)))).fdiv (2 : Int)) + (↑m : Int))).toNat : Int) - (↑(bsN (cutC compareD (unS (rowS f)) (IntKind.i64.wrap (IntKind.i64.wrap (IntKind.i64.wrap ((IntKind.u64.wrap (IntKind.i64.wrap ((↑a : Int) + (↑b : Int)))).fdiv (2 : Int)) + (↑m : Int)) - (1 : Int))).toNat) ((IntKind.i64.wrap ((IntKind.u64.wrap (IntKind.i64.wrap ((↑a : Int) + (↑b : Int)))).fdiv (2 : Int))).toNat - (IntKind.i64.wrap (IntKind.i64.wrap (IntKind.i64.wrap ((IntKind.u64.wrap (IntKind.i64.wrap ((↑a : Int) + (↑b : Int)))).fdiv (2 : Int)) + (↑m : Int)) - (↑b : Int))).toNat) (IntKind.i64.wrap (IntKind.i64.wrap (IntKind.i64.wrap ((IntKind.u64.wrap (IntKind.i64.wrap ((↑a : Int) + (↑b : Int)))).fdiv (2 : Int)) + (↑m : Int)) - (↑b : Int))).toNat (IntKind.i64.wrap ((IntKind.u64.wrap (IntKind.i64.wrap ((↑a : Int) + (↑b : Int)))).fdiv (2 : Int))).toNat) : Int))).toNat))) (↑(↑a : Int).toNat : Int).toNat (↑(IntKind.i64.wrap ((IntKind.u64.wrap (IntKind.i64.wrap ((↑a : Int) + (↑b : Int)))).fdiv (2 : Int))).toNat : Int).toNat)))]))
            else
             some ((AV.tup [],
  [some
      (AObj.row 1 N
        (rowS (sortG compareD (unS (rowS (rotR (unS (rowS (unS (rowS f)))) (↑(bsN (cutC compareD (unS (rowS f)) (IntKind.i64.wrap (IntKind.i64.wrap (IntKind.i64.wrap ((IntKind.u64.wrap (IntKind.i64.wrap ((↑a : Int) + (↑b : Int)))).fdiv (2 : Int)) + (↑m : Int)) - (1 : Int))).toNat) ((IntKind.i64.wrap ((IntKind.u64.wrap (IntKind.i64.wrap ((↑a : Int) + (↑b : Int)))).fdiv (2 : Int))).toNat - (IntKind.i64.wrap (IntKind.i64.wrap (IntKind.i64.wrap ((IntKind.u64.wrap (IntKind.i64.wrap ((↑a : Int) + (↑b : Int)))).fdiv (2 : Int)) + (↑m : Int)) - (↑b : Int))).toNat) (IntKind.i64.wrap (IntKind.i64.wrap (IntKind.i64.wrap ((IntKind.u64.wrap (IntKind.i64.wrap ((↑a : Int) + (↑b : Int)))).fdiv (2 : Int)) + (↑m : Int)) - (↑b : Int))).toNat (IntKind.i64.wrap ((IntKind.u64.wrap (IntKind.i64.wrap ((↑a : Int) + (↑b : Int)))).fdiv (2 : Int))).toNat) : Int).toNat (↑(↑m : Int).toNat : Int).toNat (IntKind.i64.wrap ((↑(IntKind.i64.wrap (IntKind.i64.wrap ((IntKind.u64.wrap (IntKind.i64.wrap ((↑a : Int) + (↑b : Int)))).fdiv (2 : Int)) + (↑m : Int))).toNat : Int) - (↑(bsN (cutC compareD (unS (rowS f)) (IntKind.i64.wrap (IntKind.i64.wrap (IntKind.i64.wrap ((IntKind.u64.wrap (IntKind.i64.wrap ((↑a : Int) + (↑b : Int)))).fdiv (2 : Int)) + (↑m : Int)) - (1 : Int))).toNat) ((IntKind.i64.wrap ((IntKind.u64.wrap (IntKind.i64.wrap ((↑a : Int) + (↑b : Int)))).fdiv (2 : Int))).toNat - (IntKind.i64.wrap (IntKind.i64.wrap (IntKind.i64.wrap ((IntKind.u64.wrap (IntKind.i64.wrap ((↑a : Int) + (↑b : Int)))).fdiv (2 : Int)) + (↑m : Int)) - (↑b : Int))).toNat) (IntKind.i64.wrap (IntKind.i64.wrap (IntKind.i64.wrap ((IntKind.u64.wrap (IntKind.i64.wrap ((↑a : Int) + (↑b : Int)))).fdiv (2 : Int)) + (↑m : Int)) - (↑b : Int))).toNat (IntKind.i64.wrap ((IntKind.u64.wrap (IntKind.i64.wrap ((↑a : Int) + (↑b : Int)))).fdiv (2 : Int))).toNat) : Int))).toNat))) (↑(↑a : Int).toNat : Int).toNat (↑(IntKind.i64.wrap ((IntKind.u64.wrap (IntKind.i64.wrap ((↑a : Int) + (↑b : Int)))).fdiv (2 : Int))).toNat : Int).toNat)))]))
           else
            none
          else
           bif decide ((↑(IntKind.i64.wrap ((IntKind.u64.wrap (IntKind.i64.wrap ((↑a : Int) + (↑b : Int)))).fdiv (2 : Int))).toNat : Int) < IntKind.i64.wrap ((↑(IntKind.i64.wrap (IntKind.i64.wrap ((IntKind.u64.wrap (IntKind.i64.wrap ((↑a : Int) + (↑b : Int)))).fdiv (2 : Int)) + (↑m : Int))).toNat : Int) - (↑(bsN (cutC compareD (unS (rowS f)) (IntKind.i64.wrap (IntKind.i64.wrap (IntKind.i64.wrap ((IntKind.u64.wrap (IntKind.i64.wrap ((↑a : Int) + (↑b : Int)))).fdiv (2 : Int)) + (↑m : Int)) - (1 : Int))).toNat) ((IntKind.i64.wrap ((IntKind.u64.wrap (IntKind.i64.wrap ((↑a : Int) + (↑b : Int)))).fdiv (2 : Int))).toNat - (IntKind.i64.wrap (IntKind.i64.wrap (IntKind.i64.wrap ((IntKind.u64.wrap (IntKind.i64.wrap ((↑a : Int) + (↑b : Int)))).fdiv (2 : Int)) + (↑m : Int)) - (↑b : Int))).toNat) (IntKind.i64.wrap (IntKind.i64.wrap (IntKind.i64.wrap ((IntKind.u64.wrap (IntKind.i64.wrap ((↑a : Int) + (↑b : Int)))).fdiv (2 : Int)) + (↑m : Int)) - (↑b : Int))).toNat (IntKind.i64.wrap ((IntKind.u64.wrap (IntKind.i64.wrap ((↑a : Int) + (↑b : Int)))).fdiv (2 : Int))).toNat) : Int))) then
            bif decide (IntKind.i64.wrap ((↑(IntKind.i64.wrap (IntKind.i64.wrap ((IntKind.u64.wrap (IntKind.i64.wrap ((↑a : Int) + (↑b : Int)))).fdiv (2 : Int)) + (↑m : Int))).toNat : Int) - (↑(bsN (cutC compareD (unS (rowS f)) (IntKind.i64.wrap (IntKind.i64.wrap (IntKind.i64.wrap ((IntKind.u64.wrap (IntKind.i64.wrap ((↑a : Int) + (↑b : Int)))).fdiv (2 : Int)) + (↑m : Int)) - (1 : Int))).toNat) ((IntKind.i64.wrap ((IntKind.u64.wrap (IntKind.i64.wrap ((↑a : Int) + (↑b : Int)))).fdiv (2 : Int))).toNat - (IntKind.i64.wrap (IntKind.i64.wrap (IntKind.i64.wrap ((IntKind.u64.wrap (IntKind.i64.wrap ((↑a : Int) + (↑b : Int)))).fdiv (2 : Int)) + (↑m : Int)) - (↑b : Int))).toNat) (IntKind.i64.wrap (IntKind.i64.wrap (IntKind.i64.wrap ((IntKind.u64.wrap (IntKind.i64.wrap ((↑a : Int) + (↑b : Int)))).fdiv (2 : Int)) + (↑m : Int)) - (↑b : Int))).toNat (IntKind.i64.wrap ((IntKind.u64.wrap (IntKind.i64.wrap ((↑a : Int) + (↑b : Int)))).fdiv (2 : Int))).toNat) : Int)) < (↑(↑b : Int).toNat : Int)) then
             bif isEn en76 (p76 K)
  ([AV.row 0 1 0 N, AV.int IntKind.i64 (↑(IntKind.i64.wrap ((IntKind.u64.wrap (IntKind.i64.wrap ((↑a : Int) + (↑b : Int)))).fdiv (2 : Int))).toNat : Int), AV.int IntKind.i64 (IntKind.i64.wrap ((↑(IntKind.i64.wrap (IntKind.i64.wrap ((IntKind.u64.wrap (IntKind.i64.wrap ((↑a : Int) + (↑b : Int)))).fdiv (2 : Int)) + (↑m : Int))).toNat : Int) - (↑(bsN (cutC compareD (unS (rowS f)) (IntKind.i64.wrap (IntKind.i64.wrap (IntKind.i64.wrap ((IntKind.u64.wrap (IntKind.i64.wrap ((↑a : Int) + (↑b : Int)))).fdiv (2 : Int)) + (↑m : Int)) - (1 : Int))).toNat) ((IntKind.i64.wrap ((IntKind.u64.wrap (IntKind.i64.wrap ((↑a : Int) + (↑b : Int)))).fdiv (2 : Int))).toNat - (IntKind.i64.wrap (IntKind.i64.wrap (IntKind.i64.wrap ((IntKind.u64.wrap (IntKind.i64.wrap ((↑a : Int) + (↑b : Int)))).fdiv (2 : Int)) + (↑m : Int)) - (↑b : Int))).toNat) (IntKind.i64.wrap (IntKind.i64.wrap (IntKind.i64.wrap ((IntKind.u64.wrap (IntKind.i64.wrap ((↑a : Int) + (↑b : Int)))).fdiv (2 : Int)) + (↑m : Int)) - (↑b : Int))).toNat (IntKind.i64.wrap ((IntKind.u64.wrap (IntKind.i64.wrap ((↑a : Int) + (↑b : Int)))).fdiv (2 : Int))).toNat) : Int))), AV.int IntKind.i64 (↑(↑b : Int).toNat : Int), AV.fn 12 []],
    [some (AObj.row 1 N (rowS (rotR (unS (rowS (unS (rowS f)))) (↑(bsN (cutC compareD (unS (rowS f)) (IntKind.i64.wrap (IntKind.i64.wrap (IntKind.i64.wrap ((IntKind.u64.wrap (IntKind.i64.wrap ((↑a : Int) + (↑b : Int)))).fdiv (2 : Int)) + (↑m : Int)) - (1 : Int))).toNat) ((IntKind.i64.wrap ((IntKind.u64.wrap (IntKind.i64.wrap ((↑a : Int) + (↑b : Int)))).fdiv (2 : Int))).toNat - (IntKind.i64.wrap (IntKind.i64.wrap (IntKind.i64.wrap ((IntKind.u64.wrap (IntKind.i64.wrap ((↑a : Int) + (↑b : Int)))).fdiv (2 : Int)) + (↑m : Int)) - (↑b : Int))).toNat) (IntKind.i64.wrap (IntKind.i64.wrap (IntKind.i64.wrap ((IntKind.u64.wrap (IntKind.i64.wrap ((↑a : Int) + (↑b : Int)))).fdiv (2 : Int)) + (↑m : Int)) - (↑b : Int))).toNat (IntKind.i64.wrap ((IntKind.u64.wrap (IntKind.i64.wrap ((↑a : Int) + (↑b : Int)))).fdiv (2 : Int))).toNat) : Int).toNat (↑(↑m : Int).toNat : Int).toNat (IntKind.i64.wrap ((↑(IntKind.i64.wrap (IntKind.i64.wrap ((IntKind.u64.wrap (IntKind.i64.wrap ((↑a : Int) + (↑b : Int)))).fdiv (2 : Int)) + (↑m : Int))).toNat : Int) - (↑(bsN (cutC compareD (unS (rowS f)) (IntKind.i64.wrap (IntKind.i64.wrap (IntKind.i64.wrap ((IntKind.u64.wrap (IntKind.i64.wrap ((↑a : Int) + (↑b : Int)))).fdiv (2 : Int)) + (↑m : Int)) - (1 : Int))).toNat) ((IntKind.i64.wrap ((IntKind.u64.wrap (IntKind.i64.wrap ((↑a : Int) + (↑b : Int)))).fdiv (2 : Int))).toNat - (IntKind.i64.wrap (IntKind.i64.wrap (IntKind.i64.wrap ((IntKind.u64.wrap (IntKind.i64.wrap ((↑a : Int) + (↑b : Int)))).fdiv (2 : Int)) + (↑m : Int)) - (↑b : Int))).toNat) (IntKind.i64.wrap (IntKind.i64.wrap (IntKind.i64.wrap ((IntKind.u64.wrap (IntKind.i64.wrap ((↑a : Int) + (↑b : Int)))).fdiv (2 : Int)) + (↑m : Int)) - (↑b : Int))).toNat (IntKind.i64.wrap ((IntKind.u64.wrap (IntKind.i64.wrap ((↑a : Int) + (↑b : Int)))).fdiv (2 : Int))).toNat) : Int))).toNat)))]) then
              some ((AV.tup [],
  [some
      (AObj.row 1 N
        (rowS (sortG compareD (unS (rowS (rotR (unS (rowS (unS (rowS f)))) (↑(bsN (cutC compareD (unS (rowS f)) (IntKind.i64.wrap (IntKind.i64.wrap (IntKind.i64.wrap ((IntKind.u64.wrap (IntKind.i64.wrap ((↑a : Int) + (↑b : Int)))).fdiv (2 : Int)) + (↑m : Int)) - (1 : Int))).toNat) ((IntKind.i64.wrap ((IntKind.u64.wrap (IntKind.i64.wrap ((↑a : Int) + (↑b : Int)))).fdiv (2 : Int))).toNat - (IntKind.i64.wrap (IntKind.i64.wrap (IntKind.i64.wrap ((IntKind.u64.wrap (IntKind.i64.wrap ((↑a : Int) + (↑b : Int)))).fdiv (2 : Int)) + (↑m : Int)) - (↑b : Int))).toNat) (IntKind.i64.wrap (IntKind.i64.wrap (IntKind.i64.wrap ((IntKind.u64.wrap (IntKind.i64.wrap ((↑a : Int) + (↑b : Int)))).fdiv (2 : Int)) + (↑m : Int)) - (↑b : Int))).toNat (IntKind.i64.wrap ((IntKind.u64.wrap (IntKind.i64.wrap ((↑a : Int) + (↑b : Int)))).fdiv (2 : Int))).toNat) : Int).toNat (↑(↑m : Int).toNat : Int).toNat (IntKind.i64.wrap ((↑(IntKind.i64.wrap (IntKind.i64.wrap ((IntKind.u64.wrap (IntKind.i64.wrap ((↑a : Int) + (↑b : Int)))).fdiv (2 : Int)) + (↑m : Int))).toNat : Int) - (↑(bsN (cutC compareD (unS (rowS f)) (IntKind.i64.wrap (IntKind.i64.wrap (IntKind.i64.wrap ((IntKind.u64.wrap (IntKind.i64.wrap ((↑a : Int) + (↑b : Int)))).fdiv (2 : Int)) + (↑m : Int)) - (1 : Int))).toNat) ((IntKind.i64.wrap ((IntKind.u64.wrap (IntKind.i64.wrap ((↑a : Int) + (↑b : Int)))).fdiv (2 : Int))).toNat - (IntKind.i64.wrap (IntKind.i64.wrap (IntKind.i64.wrap ((IntKind.u64.wrap (IntKind.i64.wrap ((↑a : Int) + (↑b : Int)))).fdiv (2 : Int)) + (↑m : Int)) - (↑b : Int))).toNat) (IntKind.i64.wrap (IntKind.i64.wrap (IntKind.i64.wrap ((IntKind.u64.wrap (IntKind.i64.wrap ((↑a : Int) + (↑b : Int)))).fdiv (2 : Int)) + (↑m : Int)) - (↑b : Int))).toNat (IntKind.i64.wrap ((IntKind.u64.wrap (IntKind.i64.wrap ((↑a : Int) + (↑b : Int)))).fdiv (2 : Int))).toNat) : Int))).toNat))) (↑(IntKind.i64.wrap ((IntKind.u64.wrap (IntKind.i64.wrap ((↑a : Int) + (↑b : Int)))).fdiv (2 : Int))).toNat : Int).toNat (↑(↑b : Int).toNat : Int).toNat)))]))
             else
              none
            else
             some ((AV.tup [], [some (AObj.row 1 N (rowS (rotR (unS (rowS (unS (rowS f)))) (↑(bsN (cutC compareD (unS (rowS f)) (IntKind.i64.wrap (IntKind.i64.wrap (IntKind.i64.wrap ((IntKind.u64.wrap (IntKind.i64.wrap ((↑a : Int) + (↑b : Int)))).fdiv (2 : Int)) + (↑m : Int)) - (1 : Int))).toNat) ((IntKind.i64.wrap ((IntKind.u64.wrap (IntKind.i64.wrap ((↑a : Int) + (↑b : Int)))).fdiv (2 : Int))).toNat - (IntKind.i64.wrap (IntKind.i64.wrap (IntKind.i64.wrap ((IntKind.u64.wrap (IntKind.i64.wrap ((↑a : Int) + (↑b : Int)))).fdiv (2 : Int)) + (↑m : Int)) - (↑b : Int))).toNat) (IntKind.i64.wrap (IntKind.i64.wrap (IntKind.i64.wrap ((IntKind.u64.wrap (IntKind.i64.wrap ((↑a : Int) + (↑b : Int)))).fdiv (2 : Int)) + (↑m : Int)) - (↑b : Int))).toNat (IntKind.i64.wrap ((IntKind.u64.wrap (IntKind.i64.wrap ((↑a : Int) + (↑b : Int)))).fdiv (2 : Int))).toNat) : Int).toNat (↑(↑m : Int).toNat : Int).toNat (IntKind.i64.wrap ((↑(IntKind.i64.wrap (IntKind.i64.wrap ((IntKind.u64.wrap (IntKind.i64.wrap ((↑a : Int) + (↑b : Int)))).fdiv (2 : Int)) + (↑m : Int))).toNat : Int) - (↑(bsN (cutC compareD (unS (rowS f)) (IntKind.i64.wrap (IntKind.i64.wrap (IntKind.i64.wrap ((IntKind.u64.wrap (IntKind.i64.wrap ((↑a : Int) + (↑b : Int)))).fdiv (2 : Int)) + (↑m : Int)) - (1 : Int))).toNat) ((IntKind.i64.wrap ((IntKind.u64.wrap (IntKind.i64.wrap ((↑a : Int) + (↑b : Int)))).fdiv (2 : Int))).toNat - (IntKind.i64.wrap (IntKind.i64.wrap (IntKind.i64.wrap ((IntKind.u64.wrap (IntKind.i64.wrap ((↑a : Int) + (↑b : Int)))).fdiv (2 : Int)) + (↑m : Int)) - (↑b : Int))).toNat) (IntKind.i64.wrap (IntKind.i64.wrap (IntKind.i64.wrap ((IntKind.u64.wrap (IntKind.i64.wrap ((↑a : Int) + (↑b : Int)))).fdiv (2 : Int)) + (↑m : Int)) - (↑b : Int))).toNat (IntKind.i64.wrap ((IntKind.u64.wrap (IntKind.i64.wrap ((↑a : Int) + (↑b : Int)))).fdiv (2 : Int))).toNat) : Int))).toNat)))]))
           else
            some ((AV.tup [], [some (AObj.row 1 N (rowS (rotR (unS (rowS (unS (rowS f)))) (↑(bsN (cutC compareD (unS (rowS f)) (IntKind.i64.wrap (IntKind.i64.wrap (IntKind.i64.wrap ((IntKind.u64.wrap (IntKind.i64.wrap ((↑a : Int) + (↑b : Int)))).fdiv (2 : Int)) + (↑m : Int)) - (1 : Int))).toNat) ((IntKind.i64.wrap ((IntKind.u64.wrap (IntKind.i64.wrap ((↑a : Int) + (↑b : Int)))).fdiv (2 : Int))).toNat - (IntKind.i64.wrap (IntKind.i64.wrap (IntKind.i64.wrap ((IntKind.u64.wrap (IntKind.i64.wrap ((↑a : Int) + (↑b : Int)))).fdiv (2 : Int)) + (↑m : Int)) - (↑b : Int))).toNat) (IntKind.i64.wrap (IntKind.i64.wrap (IntKind.i64.wrap ((IntKind.u64.wrap (IntKind.i64.wrap ((↑a : Int) + (↑b : Int)))).fdiv (2 : Int)) + (↑m : Int)) - (↑b : Int))).toNat (IntKind.i64.wrap ((IntKind.u64.wrap (IntKind.i64.wrap ((↑a : Int) + (↑b : Int)))).fdiv (2 : Int))).toNat) : Int).toNat (↑(↑m : Int).toNat : Int).toNat (IntKind.i64.wrap ((↑(IntKind.i64.wrap (IntKind.i64.wrap ((IntKind.u64.wrap (IntKind.i64.wrap ((↑a : Int) + (↑b : Int)))).fdiv (2 : Int)) + (↑m : Int))).toNat : Int) - (↑(bsN (cutC compareD (unS (rowS f)) (IntKind.i64.wrap (IntKind.i64.wrap (IntKind.i64.wrap ((IntKind.u64.wrap (IntKind.i64.wrap ((↑a : Int) + (↑b : Int)))).fdiv (2 : Int)) + (↑m : Int)) - (1 : Int))).toNat) ((IntKind.i64.wrap ((IntKind.u64.wrap (IntKind.i64.wrap ((↑a : Int) + (↑b : Int)))).fdiv (2 : Int))).toNat - (IntKind.i64.wrap (IntKind.i64.wrap (IntKind.i64.wrap ((IntKind.u64.wrap (IntKind.i64.wrap ((↑a : Int) + (↑b : Int)))).fdiv (2 : Int)) + (↑m : Int)) - (↑b : Int))).toNat) (IntKind.i64.wrap (IntKind.i64.wrap (IntKind.i64.wrap ((IntKind.u64.wrap (IntKind.i64.wrap ((↑a : Int) + (↑b : Int)))).fdiv (2 : Int)) + (↑m : Int)) - (↑b : Int))).toNat (IntKind.i64.wrap ((IntKind.u64.wrap (IntKind.i64.wrap ((↑a : Int) + (↑b : Int)))).fdiv (2 : Int))).toNat) : Int))).toNat)))]))
         else
          bif decide ((↑(IntKind.i64.wrap ((IntKind.u64.wrap (IntKind.i64.wrap ((↑a : Int) + (↑b : Int)))).fdiv (2 : Int))).toNat : Int) < IntKind.i64.wrap ((↑(IntKind.i64.wrap (IntKind.i64.wrap ((IntKind.u64.wrap (IntKind.i64.wrap ((↑a : Int) + (↑b : Int)))).fdiv (2 : Int)) + (↑m : Int))).toNat : Int) - (↑(bsN (cutC compareD (unS (rowS f)) (IntKind.i64.wrap (IntKind.i64.wrap (IntKind.i64.wrap ((IntKind.u64.wrap (IntKind.i64.wrap ((↑a : Int) + (↑b : Int)))).fdiv (2 : Int)) + (↑m : Int)) - (1 : Int))).toNat) ((IntKind.i64.wrap ((IntKind.u64.wrap (IntKind.i64.wrap ((↑a : Int) + (↑b : Int)))).fdiv (2 : Int))).toNat - (IntKind.i64.wrap (IntKind.i64.wrap (IntKind.i64.wrap ((IntKind.u64.wrap (IntKind.i64.wrap ((↑a : Int) + (↑b : Int)))).fdiv (2 : Int)) + (↑m : Int)) - (↑b : Int))).toNat) (IntKind.i64.wrap (IntKind.i64.wrap (IntKind.i64.wrap ((IntKind.u64.wrap (IntKind.i64.wrap ((↑a : Int) + (↑b : Int)))).fdiv (2 : Int)) + (↑m : Int)) - (↑b : Int))).toNat (IntKind.i64.wrap ((IntKind.u64.wrap (IntKind.i64.wrap ((↑a : Int) + (↑b : Int)))).fdiv (2 : Int))).toNat) : Int))) then
           bif decide (IntKind.i64.wrap ((↑(IntKind.i64.wrap (IntKind.i64.wrap ((IntKind.u64.wrap (IntKind.i64.wrap ((↑a : Int) + (↑b : Int)))).fdiv (2 : Int)) + (↑m : Int))).toNat : Int) - (↑(bsN (cutC compareD (unS (rowS f)) (IntKind.i64.wrap (IntKind.i64.wrap (IntKind.i64.wrap ((IntKind.u64.wrap (IntKind.i64.wrap ((↑a : Int) + (↑b : Int)))).fdiv (2 : Int)) + (↑m : Int)) - (1 : Int))).toNat) ((IntKind.i64.wrap ((IntKind.u64.wrap (IntKind.i64.wrap ((↑a : Int) + (↑b : Int)))).fdiv (2 : Int))).toNat - (IntKind.i64.wrap (IntKind.i64.wrap (IntKind.i64.wrap ((IntKind.u64.wrap (IntKind.i64.wrap ((↑a : Int) + (↑b : Int)))).fdiv (2 : Int)) + (↑m : Int)) - (↑b : Int))).toNat) (IntKind.i64.wrap (IntKind.i64.wrap (IntKind.i64.wrap ((IntKind.u64.wrap (IntKind.i64.wrap ((↑a : Int) + (↑b : Int)))).fdiv (2 : Int)) + (↑m : Int)) - (↑b : Int))).toNat (IntKind.i64.wrap ((IntKind.u64.wrap (IntKind.i64.wrap ((↑a : Int) + (↑b : Int)))).fdiv (2 : Int))).toNat) : Int)) < (↑(↑b : Int).toNat : Int)) then
            bif isEn en76 (p76 K)
  ([AV.row 0 1 0 N, AV.int IntKind.i64 (↑(IntKind.i64.wrap ((IntKind.u64.wrap (IntKind.i64.wrap ((↑a : Int) + (↑b : Int)))).fdiv (2 : Int))).toNat : Int), AV.int IntKind.i64 (IntKind.i64.wrap ((↑(IntKind.i64.wrap (IntKind.i64.wrap ((IntKind.u64.wrap (IntKind.i64.wrap ((↑a : Int) + (↑b : Int)))).fdiv (2 : Int)) + (↑m : Int))).toNat : Int) - (↑(bsN (cutC compareD (unS (rowS f)) (IntKind.i64.wrap (IntKind.i64.wrap (IntKind.i64.wrap ((IntKind.u64.wrap (IntKind.i64.wrap ((↑a : Int) + (↑b : Int)))).fdiv (2 : Int)) + (↑m : Int)) - (1 : Int))).toNat) ((IntKind.i64.wrap ((IntKind.u64.wrap (IntKind.i64.wrap ((↑a : Int) + (↑b : Int)))).fdiv (2 : Int))).toNat - (IntKind.i64.wrap (IntKind.i64.wrap (IntKind.i64.wrap ((IntKind.u64.wrap (IntKind.i64.wrap ((↑a : Int) + (↑b : Int)))).fdiv (2 : Int)) + (↑m : Int)) - (↑b : Int))).toNat) (IntKind.i64.wrap (IntKind.i64.wrap (IntKind.i64.wrap ((IntKind.u64.wrap (IntKind.i64.wrap ((↑a : Int) + (↑b : Int)))).fdiv (2 : Int)) + (↑m : Int)) - (↑b : Int))).toNat (IntKind.i64.wrap ((IntKind.u64.wrap (IntKind.i64.wrap ((↑a : Int) + (↑b : Int)))).fdiv (2 : Int))).toNat) : Int))), AV.int IntKind.i64 (↑(↑b : Int).toNat : Int), AV.fn 12 []],
    [some (AObj.row 1 N (rowS (rotR (unS (rowS (unS (rowS f)))) (↑(bsN (cutC compareD (unS (rowS f)) (IntKind.i64.wrap (IntKind.i64.wrap (IntKind.i64.wrap ((IntKind.u64.wrap (IntKind.i64.wrap ((↑a : Int) + (↑b : Int)))).fdiv (2 : Int)) + (↑m : Int)) - (1 : Int))).toNat) ((IntKind.i64.wrap ((IntKind.u64.wrap (IntKind.i64.wrap ((↑a : Int) + (↑b : Int)))).fdiv (2 : Int))).toNat - (IntKind.i64.wrap (IntKind.i64.wrap (IntKind.i64.wrap ((IntKind.u64.wrap (IntKind.i64.wrap ((↑a : Int) + (↑b : Int)))).fdiv (2 : Int)) + (↑m : Int)) - (↑b : Int))).toNat) (IntKind.i64.wrap (IntKind.i64.wrap (IntKind.i64.wrap ((IntKind.u64.wrap (IntKind.i64.wrap ((↑a : Int) + (↑b : Int)))).fdiv (2 : Int)) + (↑m : Int)) - (↑b : Int))).toNat (IntKind.i64.wrap ((IntKind.u64.wrap (IntKind.i64.wrap ((↑a : Int) + (↑b : Int)))).fdiv (2 : Int))).toNat) : Int).toNat (↑(↑m : Int).toNat : Int).toNat (IntKind.i64.wrap ((↑(IntKind.i64.wrap (IntKind.i64.wrap ((IntKind.u64.wrap (IntKind.i64.wrap ((↑a : Int) + (↑b : Int)))).fdiv (2 : Int)) + (↑m : Int))).toNat : Int) - (↑(bsN (cutC compareD (unS (rowS f)) (IntKind.i64.wrap (IntKind.i64.wrap (IntKind.i64.wrap ((IntKind.u64.wrap (IntKind.i64.wrap ((↑a : Int) + (↑b : Int)))).fdiv (2 : Int)) + (↑m : Int)) - (1 : Int))).toNat) ((IntKind.i64.wrap ((IntKind.u64.wrap (IntKind.i64.wrap ((↑a : Int) + (↑b : Int)))).fdiv (2 : Int))).toNat - (IntKind.i64.wrap (IntKind.i64.wrap (IntKind.i64.wrap ((IntKind.u64.wrap (IntKind.i64.wrap ((↑a : Int) + (↑b : Int)))).fdiv (2 : Int)) + (↑m : Int)) - (↑b : Int))).toNat) (IntKind.i64.wrap (IntKind.i64.wrap (IntKind.i64.wrap ((IntKind.u64.wrap (IntKind.i64.wrap ((↑a : Int) + (↑b : Int)))).fdiv (2 : Int)) + (↑m : Int)) - (↑b : Int))).toNat (IntKind.i64.wrap ((IntKind.u64.wrap (IntKind.i64.wrap ((↑a : Int) + (↑b : Int)))).fdiv (2 : Int))).toNat) : Int))).toNat)))]) then
             some ((AV.tup [],
  [some
      (AObj.row 1 N
        (rowS (sortG compareD (unS (rowS (rotR (unS (rowS (unS (rowS f)))) (↑(bsN (cutC compareD (unS (rowS f)) (IntKind.i64.wrap (IntKind.i64.wrap (IntKind.i64.wrap ((IntKind.u64.wrap (IntKind.i64.wrap ((↑a : Int) + (↑b : Int)))).fdiv (2 : Int)) + (↑m : Int)) - (1 : Int))).toNat) ((IntKind.i64.wrap ((IntKind.u64.wrap (IntKind.i64.wrap ((↑a : Int) + (↑b : Int)))).fdiv (2 : Int))).toNat - (IntKind.i64.wrap (IntKind.i64.wrap (IntKind.i64.wrap ((IntKind.u64.wrap (IntKind.i64.wrap ((↑a : Int) + (↑b : Int)))).fdiv (2 : Int)) + (↑m : Int)) - (↑b : Int))).toNat) (IntKind.i64.wrap (IntKind.i64.wrap (IntKind.i64.wrap ((IntKind.u64.wrap (IntKind.i64.wrap ((↑a : Int) + (↑b : Int)))).fdiv (2 : Int)) + (↑m : Int)) - (↑b : Int))).toNat (IntKind.i64.wrap ((IntKind.u64.wrap (IntKind.i64.wrap ((↑a : Int) + (↑b : Int)))).fdiv (2 : Int))).toNat) : Int).toNat (↑(↑m : Int).toNat : Int).toNat (IntKind.i64.wrap ((↑(IntKind.i64.wrap (IntKind.i64.wrap ((IntKind.u64.wrap (IntKind.i64.wrap ((↑a : Int) + (↑b : Int)))).fdiv (2 : Int)) + (↑m : Int))).toNat : Int) - (↑(bsN (cutC compareD (unS (rowS f)) (IntKind.i64.wrap (IntKind.i64.wrap (IntKind.i64.wrap ((IntKind.u64.wrap (IntKind.i64.wrap ((↑a : Int) + (↑b : Int)))).fdiv (2 : Int)) + (↑m : Int)) - (1 : Int))).toNat) ((IntKind.i64.wrap ((IntKind.u64.wrap (IntKind.i64.wrap ((↑a : Int) + (↑b : Int)))).fdiv (2 : Int))).toNat - (IntKind.i64.wrap (IntKind.i64.wrap (IntKind.i64.wrap ((IntKind.u64.wrap (IntKind.i64.wrap ((↑a : Int) + (↑b : Int)))).fdiv (2 : Int)) + (↑m : Int)) - (↑b : Int))).toNat) (IntKind.i64.wrap (IntKind.i64.wrap (IntKind.i64.wrap ((IntKind.u64.wrap (IntKind.i64.wrap ((↑a : Int) + (↑b : Int)))).fdiv (2 : Int)) + (↑m : Int)) - (↑b : Int))).toNat (IntKind.i64.wrap ((IntKind.u64.wrap (IntKind.i64.wrap ((↑a : Int) + (↑b : Int)))).fdiv (2 : Int))).toNat) : Int))).toNat))) (↑(IntKind.i64.wrap ((IntKind.u64.wrap (IntKind.i64.wrap ((↑a : Int) + (↑b : Int)))).fdiv (2 : Int))).toNat : Int).toNat (↑(↑b : Int).toNat : Int).toNat)))]))
            else
             none
           else
            some ((AV.tup [], [some (AObj.row 1 N (rowS (rotR (unS (rowS (unS (rowS f)))) (↑(bsN (cutC compareD (unS (rowS f)) (IntKind.i64.wrap (IntKind.i64.wrap (IntKind.i64.wrap ((IntKind.u64.wrap (IntKind.i64.wrap ((↑a : Int) + (↑b : Int)))).fdiv (2 : Int)) + (↑m : Int)) - (1 : Int))).toNat) ((IntKind.i64.wrap ((IntKind.u64.wrap (IntKind.i64.wrap ((↑a : Int) + (↑b : Int)))).fdiv (2 : Int))).toNat - (IntKind.i64.wrap (IntKind.i64.wrap (IntKind.i64.wrap ((IntKind.u64.wrap (IntKind.i64.wrap ((↑a : Int) + (↑b : Int)))).fdiv (2 : Int)) + (↑m : Int)) - (↑b : Int))).toNat) (IntKind.i64.wrap (IntKind.i64.wrap (IntKind.i64.wrap ((IntKind.u64.wrap (IntKind.i64.wrap ((↑a : Int) + (↑b : Int)))).fdiv (2 : Int)) + (↑m : Int)) - (↑b : Int))).toNat (IntKind.i64.wrap ((IntKind.u64.wrap (IntKind.i64.wrap ((↑a : Int) + (↑b : Int)))).fdiv (2 : Int))).toNat) : Int).toNat (↑(↑m : Int).toNat : Int).toNat (IntKind.i64.wrap ((↑(IntKind.i64.wrap (IntKind.i64.wrap ((IntKind.u64.wrap (IntKind.i64.wrap ((↑a : Int) + (↑b : Int)))).fdiv (2 : Int)) + (↑m : Int))).toNat : Int) - (↑(bsN (cutC compareD (unS (rowS f)) (IntKind.i64.wrap (IntKind.i64.wrap (IntKind.i64.wrap ((IntKind.u64.wrap (IntKind.i64.wrap ((↑a : Int) + (↑b : Int)))).fdiv (2 : Int)) + (↑m : Int)) - (1 : Int))).toNat) ((IntKind.i64.wrap ((IntKind.u64.wrap (IntKind.i64.wrap ((↑a : Int) + (↑b : Int)))).fdiv (2 : Int))).toNat - (IntKind.i64.wrap (IntKind.i64.wrap (IntKind.i64.wrap ((IntKind.u64.wrap (IntKind.i64.wrap ((↑a : Int) + (↑b : Int)))).fdiv (2 : Int)) + (↑m : Int)) - (↑b : Int))).toNat) (IntKind.i64.wrap (IntKind.i64.wrap (IntKind.i64.wrap ((IntKind.u64.wrap (IntKind.i64.wrap ((↑a : Int) + (↑b : Int)))).fdiv (2 : Int)) + (↑m : Int)) - (↑b : Int))).toNat (IntKind.i64.wrap ((IntKind.u64.wrap (IntKind.i64.wrap ((↑a : Int) + (↑b : Int)))).fdiv (2 : Int))).toNat) : Int))).toNat)))]))
          else
           some ((AV.tup [], [some (AObj.row 1 N (rowS (rotR (unS (rowS (unS (rowS f)))) (↑(bsN (cutC compareD (unS (rowS f)) (IntKind.i64.wrap (IntKind.i64.wrap (IntKind.i64.wrap ((IntKind.u64.wrap (IntKind.i64.wrap ((↑a : Int) + (↑b : Int)))).fdiv (2 : Int)) + (↑m : Int)) - (1 : Int))).toNat) ((IntKind.i64.wrap ((IntKind.u64.wrap (IntKind.i64.wrap ((↑a : Int) + (↑b : Int)))).fdiv (2 : Int))).toNat - (IntKind.i64.wrap (IntKind.i64.wrap (IntKind.i64.wrap ((IntKind.u64.wrap (IntKind.i64.wrap ((↑a : Int) + (↑b : Int)))).fdiv (2 : Int)) + (↑m : Int)) - (↑b : Int))).toNat) (IntKind.i64.wrap (IntKind.i64.wrap (IntKind.i64.wrap ((IntKind.u64.wrap (IntKind.i64.wrap ((↑a : Int) + (↑b : Int)))).fdiv (2 : Int)) + (↑m : Int)) - (↑b : Int))).toNat (IntKind.i64.wrap ((IntKind.u64.wrap (IntKind.i64.wrap ((↑a : Int) + (↑b : Int)))).fdiv (2 : Int))).toNat) : Int).toNat (↑(↑m : Int).toNat : Int).toNat (IntKind.i64.wrap ((↑(IntKind.i64.wrap (IntKind.i64.wrap ((IntKind.u64.wrap (IntKind.i64.wrap ((↑a : Int) + (↑b : Int)))).fdiv (2 : Int)) + (↑m : Int))).toNat : Int) - (↑(bsN (cutC compareD (unS (rowS f)) (IntKind.i64.wrap (IntKind.i64.wrap (IntKind.i64.wrap ((IntKind.u64.wrap (IntKind.i64.wrap ((↑a : Int) + (↑b : Int)))).fdiv (2 : Int)) + (↑m : Int)) - (1 : Int))).toNat) ((IntKind.i64.wrap ((IntKind.u64.wrap (IntKind.i64.wrap ((↑a : Int) + (↑b : Int)))).fdiv (2 : Int))).toNat - (IntKind.i64.wrap (IntKind.i64.wrap (IntKind.i64.wrap ((IntKind.u64.wrap (IntKind.i64.wrap ((↑a : Int) + (↑b : Int)))).fdiv (2 : Int)) + (↑m : Int)) - (↑b : Int))).toNat) (IntKind.i64.wrap (IntKind.i64.wrap (IntKind.i64.wrap ((IntKind.u64.wrap (IntKind.i64.wrap ((↑a : Int) + (↑b : Int)))).fdiv (2 : Int)) + (↑m : Int)) - (↑b : Int))).toNat (IntKind.i64.wrap ((IntKind.u64.wrap (IntKind.i64.wrap ((↑a : Int) + (↑b : Int)))).fdiv (2 : Int))).toNat) : Int))).toNat)))]))
        else
         none
       else
        bif decide ((↑(↑a : Int).toNat : Int) < (↑(bsN (cutC compareD (unS (rowS f)) (IntKind.i64.wrap (IntKind.i64.wrap (IntKind.i64.wrap ((IntKind.u64.wrap (IntKind.i64.wrap ((↑a : Int) + (↑b : Int)))).fdiv (2 : Int)) + (↑m : Int)) - (1 : Int))).toNat) ((IntKind.i64.wrap ((IntKind.u64.wrap (IntKind.i64.wrap ((↑a : Int) + (↑b : Int)))).fdiv (2 : Int))).toNat - (IntKind.i64.wrap (IntKind.i64.wrap (IntKind.i64.wrap ((IntKind.u64.wrap (IntKind.i64.wrap ((↑a : Int) + (↑b : Int)))).fdiv (2 : Int)) + (↑m : Int)) - (↑b : Int))).toNat) (IntKind.i64.wrap (IntKind.i64.wrap (IntKind.i64.wrap ((IntKind.u64.wrap (IntKind.i64.wrap ((↑a : Int) + (↑b : Int)))).fdiv (2 : Int)) + (↑m : Int)) - (↑b : Int))).toNat (IntKind.i64.wrap ((IntKind.u64.wrap (IntKind.i64.wrap ((↑a : Int) + (↑b : Int)))).fdiv (2 : Int))).toNat) : Int)) then
         bif decide ((↑(bsN (cutC compareD (unS (rowS f)) (IntKind.i64.wrap (IntKind.i64.wrap (IntKind.i64.wrap ((IntKind.u64.wrap (IntKind.i64.wrap ((↑a : Int) + (↑b : Int)))).fdiv (2 : Int)) + (↑m : Int)) - (1 : Int))).toNat) ((IntKind.i64.wrap ((IntKind.u64.wrap (IntKind.i64.wrap ((↑a : Int) + (↑b : Int)))).fdiv (2 : Int))).toNat - (IntKind.i64.wrap (IntKind.i64.wrap (IntKind.i64.wrap ((IntKind.u64.wrap (IntKind.i64.wrap ((↑a : Int) + (↑b : Int)))).fdiv (2 : Int)) + (↑m : Int)) - (↑b : Int))).toNat) (IntKind.i64.wrap (IntKind.i64.wrap (IntKind.i64.wrap ((IntKind.u64.wrap (IntKind.i64.wrap ((↑a : Int) + (↑b : Int)))).fdiv (2 : Int)) + (↑m : Int)) - (↑b : Int))).toNat (IntKind.i64.wrap ((IntKind.u64.wrap (IntKind.i64.wrap ((↑a : Int) + (↑b : Int)))).fdiv (2 : Int))).toNat) : Int) < (↑(IntKind.i64.wrap ((IntKind.u64.wrap (IntKind.i64.wrap ((↑a : Int) + (↑b : Int)))).fdiv (2 : Int))).toNat : Int)) then
          bif isEn en76 (p76 K) ([AV.row 0 1 0 N, AV.int IntKind.i64 (↑(↑a : Int).toNat : Int), AV.int IntKind.i64 (↑(bsN (cutC compareD (unS (rowS f)) (IntKind.i64.wrap (IntKind.i64.wrap (IntKind.i64.wrap ((IntKind.u64.wrap (IntKind.i64.wrap ((↑a : Int) + (↑b : Int)))).fdiv (2 : Int)) + (↑m : Int)) - (1 : Int))).toNat) ((IntKind.i64.wrap ((IntKind.u64.wrap (IntKind.i64.wrap ((↑a : Int) + (↑b : Int)))).fdiv (2 : Int))).toNat - (IntKind.i64.wrap (IntKind.i64.wrap (IntKind.i64.wrap ((IntKind.u64.wrap (IntKind.i64.wrap ((↑a : Int) + (↑b : Int)))).fdiv (2 : Int)) + (↑m : Int)) - (↑b : Int))).toNat) (IntKind.i64.wrap (IntKind.i64.wrap (IntKind.i64.wrap ((IntKind.u64.wrap (IntKind.i64.wrap ((↑a : Int) + (↑b : Int)))).fdiv (2 : Int)) + (↑m : Int)) - (↑b : Int))).toNat (IntKind.i64.wrap ((IntKind.u64.wrap (IntKind.i64.wrap ((↑a : Int) + (↑b : Int)))).fdiv (2 : Int))).toNat) : Int), AV.int IntKind.i64 (↑(IntKind.i64.wrap ((IntKind.u64.wrap (IntKind.i64.wrap ((↑a : Int) + (↑b : Int)))).fdiv (2 : Int))).toNat : Int), AV.fn 12 []], [some (AObj.row 1 N (rowS (unS (rowS f))))]) then
           bif decide ((↑(IntKind.i64.wrap ((IntKind.u64.wrap (IntKind.i64.wrap ((↑a : Int) + (↑b : Int)))).fdiv (2 : Int))).toNat : Int) < IntKind.i64.wrap ((↑(IntKind.i64.wrap (IntKind.i64.wrap ((IntKind.u64.wrap (IntKind.i64.wrap ((↑a : Int) + (↑b : Int)))).fdiv (2 : Int)) + (↑m : Int))).toNat : Int) - (↑(bsN (cutC compareD (unS (rowS f)) (IntKind.i64.wrap (IntKind.i64.wrap (IntKind.i64.wrap ((IntKind.u64.wrap (IntKind.i64.wrap ((↑a : Int) + (↑b : Int)))).fdiv (2 : Int)) + (↑m : Int)) - (1 : Int))).toNat) ((IntKind.i64.wrap ((IntKind.u64.wrap (IntKind.i64.wrap ((↑a : Int) + (↑b : Int)))).fdiv (2 : Int))).toNat - (IntKind.i64.wrap (IntKind.i64.wrap (IntKind.i64.wrap ((IntKind.u64.wrap (IntKind.i64.wrap ((↑a : Int) + (↑b : Int)))).fdiv (2 : Int)) + (↑m : Int)) - (↑b : Int))).toNat) (IntKind.i64.wrap (IntKind.i64.wrap (IntKind.i64.wrap ((IntKind.u64.wrap (IntKind.i64.wrap ((↑a : Int) + (↑b : Int)))).fdiv (2 : Int)) + (↑m : Int)) - (↑b : Int))).toNat (IntKind.i64.wrap ((IntKind.u64.wrap (IntKind.i64.wrap ((↑a : Int) + (↑b : Int)))).fdiv (2 : Int))).toNat) : Int))) then
            bif decide (IntKind.i64.wrap ((↑(IntKind.i64.wrap (IntKind.i64.wrap ((IntKind.u64.wrap (IntKind.i64.wrap ((↑a : Int) + (↑b : Int)))).fdiv (2 : Int)) + (↑m : Int))).toNat : Int) - (↑(bsN (cutC compareD (unS (rowS f)) (IntKind.i64.wrap (IntKind.i64.wrap (IntKind.i64.wrap ((IntKind.u64.wrap (IntKind.i64.wrap ((↑a : Int) + (↑b : Int)))).fdiv (2 : Int)) + (↑m : Int)) - (1 : Int))).toNat) ((IntKind.i64.wrap ((IntKind.u64.wrap (IntKind.i64.wrap ((↑a : Int) + (↑b : Int)))).fdiv (2 : Int))).toNat - (IntKind.i64.wrap (IntKind.i64.wrap (IntKind.i64.wrap ((IntKind.u64.wrap (IntKind.i64.wrap ((↑a : Int) + (↑b : Int)))).fdiv (2 : Int)) + (↑m : Int)) - (↑b : Int))).toNat) (IntKind.i64.wrap (IntKind.i64.wrap (IntKind.i64.wrap ((IntKind.u64.wrap (IntKind.i64.wrap ((↑a : Int) + (↑b : Int)))).fdiv (2 : Int)) + (↑m : Int)) - (↑b : Int))).toNat (IntKind.i64.wrap ((IntKind.u64.wrap (IntKind.i64.wrap ((↑a : Int) + (↑b : Int)))).fdiv (2 : Int))).toNat) : Int)) < (↑(↑b : Int).toNat : Int)) then
             bif isEn en76 (p76 K) ([AV.row 0 1 0 N, AV.int IntKind.i64 (↑(IntKind.i64.wrap ((IntKind.u64.wrap (IntKind.i64.wrap ((↑a : Int) + (↑b : Int)))).fdiv (2 : Int))).toNat : Int), AV.int IntKind.i64 (IntKind.i64.wrap ((↑(IntKind.i64.wrap (IntKind.i64.wrap ((IntKind.u64.wrap (IntKind.i64.wrap ((↑a : Int) + (↑b : Int)))).fdiv (2 : Int)) + (↑m : Int))).toNat : Int) - (↑(bsN (cutC compareD (unS (rowS f)) (IntKind.i64.wrap (IntKind.i64.wrap (IntKind.i64.wrap ((IntKind.u64.wrap (IntKind.i64.wrap ((↑a : Int) + (↑b : Int)))).fdiv (2 : Int)) + (↑m : Int)) - (1 : Int))).toNat) ((IntKind.i64.wrap ((IntKind.u64.wrap (IntKind.i64.wrap ((↑a : Int) + (↑b : Int)))).fdiv (2 : Int))).toNat - (IntKind.i64.wrap (IntKind.i64.wrap (IntKind.i64.wrap ((IntKind.u64.wrap (IntKind.i64.wrap ((↑a : Int) + (↑b : Int)))).fdiv (2 : Int)) + (↑m : Int)) - (↑b : Int))).toNat) (IntKind.i64.wrap (IntKind.i64.wrap (IntKind.i64.wrap ((IntKind.u64.wrap (IntKind.i64.wrap ((↑a : Int) + (↑b : Int)))).fdiv (2 : Int)) + (↑m : Int)) - (↑b : Int))).toNat (IntKind.i64.wrap ((IntKind.u64.wrap (IntKind.i64.wrap ((↑a : Int) + (↑b : Int)))).fdiv (2 : Int))).toNat) : Int))), AV.int IntKind.i64 (↑(↑b : Int).toNat : Int), AV.fn 12 []], [some (AObj.row 1 N (rowS (sortG compareD (unS (rowS (unS (rowS f)))) (↑(↑a : Int).toNat : Int).toNat (↑(IntKind.i64.wrap ((IntKind.u64.wrap (IntKind.i64.wrap ((↑a : Int) + (↑b : Int)))).fdiv (2 : Int))).toNat : Int).toNat)))]) then
              some ((AV.tup [], [some (AObj.row 1 N (rowS (sortG compareD (unS (rowS (sortG compareD (unS (rowS (unS (rowS f)))) (↑(↑a : Int).toNat : Int).toNat (↑(IntKind.i64.wrap ((IntKind.u64.wrap (IntKind.i64.wrap ((↑a : Int) + (↑b : Int)))).fdiv (2 : Int))).toNat : Int).toNat))) (↑(IntKind.i64.wrap ((IntKind.u64.wrap (IntKind.i64.wrap ((↑a : Int) + (↑b : Int)))).fdiv (2 : Int))).toNat : Int).toNat (↑(↑b : Int).toNat : Int).toNat)))]))
             else
              none
            else
             some ((AV.tup [], [some (AObj.row 1 N (rowS (sortG compareD (unS (rowS (unS (rowS f)))) (↑(↑a : Int).toNat : Int).toNat (↑(IntKind.i64.wrap ((IntKind.u64.wrap (IntKind.i64.wrap ((↑a : Int) + (↑b : Int)))).fdiv (2 : Int))).toNat : Int).toNat)))]))
           else
            some ((AV.tup [], [some (AObj.row 1 N (rowS (sortG compareD (unS (rowS (unS (rowS f)))) (↑(↑a : Int).toNat : Int).toNat (↑(IntKind.i64.wrap ((IntKind.u64.wrap (IntKind.i64.wrap ((↑a : Int) + (↑b : Int)))).fdiv (2 : Int))).toNat : Int).toNat)))]))
          else
           none
         else
          bif decide ((↑(IntKind.i64.wrap ((IntKind.u64.wrap (IntKind.i64.wrap ((↑a : Int) + (↑b : Int)))).fdiv (2 : Int))).toNat : Int) < IntKind.i64.wrap ((↑(IntKind.i64.wrap (IntKind.i64.wrap ((IntKind.u64.wrap (IntKind.i64.wrap ((↑a : Int) + (↑b : Int)))).fdiv (2 : Int)) + (↑m : Int))).toNat : Int) - (↑(bsN (cutC compareD (unS (rowS f)) (IntKind.i64.wrap (IntKind.i64.wrap (IntKind.i64.wrap ((IntKind.u64.wrap (IntKind.i64.wrap ((↑a : Int) + (↑b : Int)))).fdiv (2 : Int)) + (↑m : Int)) - (1 : Int))).toNat) ((IntKind.i64.wrap ((IntKind.u64.wrap (IntKind.i64.wrap ((↑a : Int) + (↑b : Int)))).fdiv (2 : Int))).toNat - (IntKind.i64.wrap (IntKind.i64.wrap (IntKind.i64.wrap ((IntKind.u64.wrap (IntKind.i64.wrap ((↑a : Int) + (↑b : Int)))).fdiv (2 : Int)) + (↑m : Int)) - (↑b : Int))).toNat) (IntKind.i64.wrap (IntKind.i64.wrap (IntKind.i64.wrap ((IntKind.u64.wrap (IntKind.i64.wrap ((↑a : Int) + (↑b : Int)))).fdiv (2 : Int)) + (↑m : Int)) - (↑b : Int))).toNat (IntKind.i64.wrap ((IntKind.u64.wrap (IntKind.i64.wrap ((↑a : Int) + (↑b : Int)))).fdiv (2 : Int))).toNat) : Int))) then
           bif decide (IntKind.i64.wrap ((↑(IntKind.i64.wrap (IntKind.i64.wrap ((IntKind.u64.wrap (IntKind.i64.wrap ((↑a : Int) + (↑b : Int)))).fdiv (2 : Int)) + (↑m : Int))).toNat : Int) - (↑(bsN (cutC compareD (unS (rowS f)) (IntKind.i64.wrap (IntKind.i64.wrap (IntKind.i64.wrap ((IntKind.u64.wrap (IntKind.i64.wrap ((↑a : Int) + (↑b : Int)))).fdiv (2 : Int)) + (↑m : Int)) - (1 : Int))).toNat) ((IntKind.i64.wrap ((IntKind.u64.wrap (IntKind.i64.wrap ((↑a : Int) + (↑b : Int)))).fdiv (2 : Int))).toNat - (IntKind.i64.wrap (IntKind.i64.wrap (IntKind.i64.wrap ((IntKind.u64.wrap (IntKind.i64.wrap ((↑a : Int) + (↑b : Int)))).fdiv (2 : Int)) + (↑m : Int)) - (↑b : Int))).toNat) (IntKind.i64.wrap (IntKind.i64.wrap (IntKind.i64.wrap ((IntKind.u64.wrap (IntKind.i64.wrap ((↑a : Int) + (↑b : Int)))).fdiv (2 : Int)) + (↑m : Int)) - (↑b : Int))).toNat (IntKind.i64.wrap ((IntKind.u64.wrap (IntKind.i64.wrap ((↑a : Int) + (↑b : Int)))).fdiv (2 : Int))).toNat) : Int)) < (↑(↑b : Int).toNat : Int)) then
            bif isEn en76 (p76 K) ([AV.row 0 1 0 N, AV.int IntKind.i64 (↑(IntKind.i64.wrap ((IntKind.u64.wrap (IntKind.i64.wrap ((↑a : Int) + (↑b : Int)))).fdiv (2 : Int))).toNat : Int), AV.int IntKind.i64 (IntKind.i64.wrap ((↑(IntKind.i64.wrap (IntKind.i64.wrap ((IntKind.u64.wrap (IntKind.i64.wrap ((↑a : Int) + (↑b : Int)))).fdiv (2 : Int)) + (↑m : Int))).toNat : Int) - (↑(bsN (cutC compareD (unS (rowS f)) (IntKind.i64.wrap (IntKind.i64.wrap (IntKind.i64.wrap ((IntKind.u64.wrap (IntKind.i64.wrap ((↑a : Int) + (↑b : Int)))).fdiv (2 : Int)) + (↑m : Int)) - (1 : Int))).toNat) ((IntKind.i64.wrap ((IntKind.u64.wrap (IntKind.i64.wrap ((↑a : Int) + (↑b : Int)))).fdiv (2 : Int))).toNat - (IntKind.i64.wrap (IntKind.i64.wrap (IntKind.i64.wrap ((IntKind.u64.wrap (IntKind.i64.wrap ((↑a : Int) + (↑b : Int)))).fdiv (2 : Int)) + (↑m : Int)) - (↑b : Int))).toNat) (IntKind.i64.wrap (IntKind.i64.wrap (IntKind.i64.wrap ((IntKind.u64.wrap (IntKind.i64.wrap ((↑a : Int) + (↑b : Int)))).fdiv (2 : Int)) + (↑m : Int)) - (↑b : Int))).toNat (IntKind.i64.wrap ((IntKind.u64.wrap (IntKind.i64.wrap ((↑a : Int) + (↑b : Int)))).fdiv (2 : Int))).toNat) : Int))), AV.int IntKind.i64 (↑(↑b : Int).toNat : Int), AV.fn 12 []], [some (AObj.row 1 N (rowS (unS (rowS f))))]) then
             some ((AV.tup [], [some (AObj.row 1 N (rowS (sortG compareD (unS (rowS (unS (rowS f)))) (↑(IntKind.i64.wrap ((IntKind.u64.wrap (IntKind.i64.wrap ((↑a : Int) + (↑b : Int)))).fdiv (2 : Int))).toNat : Int).toNat (↑(↑b : Int).toNat : Int).toNat)))]))
            else
             none
           else
            some ((AV.tup [], [some (AObj.row 1 N (rowS (unS (rowS f))))]))
          else
           some ((AV.tup [], [some (AObj.row 1 N (rowS (unS (rowS f))))]))
        else
         bif decide ((↑(IntKind.i64.wrap ((IntKind.u64.wrap (IntKind.i64.wrap ((↑a : Int) + (↑b : Int)))).fdiv (2 : Int))).toNat : Int) < IntKind.i64.wrap ((↑(IntKind.i64.wrap (IntKind.i64.wrap ((IntKind.u64.wrap (IntKind.i64.wrap ((↑a : Int) + (↑b : Int)))).fdiv (2 : Int)) + (↑m : Int))).toNat : Int) - (↑(bsN (cutC compareD (unS (rowS f)) (IntKind.i64.wrap (IntKind.i64.wrap (IntKind.i64.wrap ((IntKind.u64.wrap (IntKind.i64.wrap ((↑a : Int) + (↑b : Int)))).fdiv (2 : Int)) + (↑m : Int)) - (1 : Int))).toNat) ((IntKind.i64.wrap ((IntKind.u64.wrap (IntKind.i64.wrap ((↑a : Int) + (↑b : Int)))).fdiv (2 : Int))).toNat - (IntKind.i64.wrap (IntKind.i64.wrap (IntKind.i64.wrap ((IntKind.u64.wrap (IntKind.i64.wrap ((↑a : Int) + (↑b : Int)))).fdiv (2 : Int)) + (↑m : Int)) - (↑b : Int))).toNat) (IntKind.i64.wrap (IntKind.i64.wrap (IntKind.i64.wrap ((IntKind.u64.wrap (IntKind.i64.wrap ((↑a : Int) + (↑b : Int)))).fdiv (2 : Int)) + (↑m : Int)) - (↑b : Int))).toNat (IntKind.i64.wrap ((IntKind.u64.wrap (IntKind.i64.wrap ((↑a : Int) + (↑b : Int)))).fdiv (2 : Int))).toNat) : Int))) then
          bif decide (IntKind.i64.wrap ((↑(IntKind.i64.wrap (IntKind.i64.wrap ((IntKind.u64.wrap (IntKind.i64.wrap ((↑a : Int) + (↑b : Int)))).fdiv (2 : Int)) + (↑m : Int))).toNat : Int) - (↑(bsN (cutC compareD (unS (rowS f)) (IntKind.i64.wrap (IntKind.i64.wrap (IntKind.i64.wrap ((IntKind.u64.wrap (IntKind.i64.wrap ((↑a : Int) + (↑b : Int)))).fdiv (2 : Int)) + (↑m : Int)) - (1 : Int))).toNat) ((IntKind.i64.wrap ((IntKind.u64.wrap (IntKind.i64.wrap ((↑a : Int) + (↑b : Int)))).fdiv (2 : Int))).toNat - (IntKind.i64.wrap (IntKind.i64.wrap (IntKind.i64.wrap ((IntKind.u64.wrap (IntKind.i64.wrap ((↑a : Int) + (↑b : Int)))).fdiv (2 : Int)) + (↑m : Int)) - (↑b : Int))).toNat) (IntKind.i64.wrap (IntKind.i64.wrap (IntKind.i64.wrap ((IntKind.u64.wrap (IntKind.i64.wrap ((↑a : Int) + (↑b : Int)))).fdiv (2 : Int)) + (↑m : Int)) - (↑b : Int))).toNat (IntKind.i64.wrap ((IntKind.u64.wrap (IntKind.i64.wrap ((↑a : Int) + (↑b : Int)))).fdiv (2 : Int))).toNat) : Int)) < (↑(↑b : Int).toNat : Int)) then
           bif isEn en76 (p76 K) ([AV.row 0 1 0 N, AV.int IntKind.i64 (↑(IntKind.i64.wrap ((IntKind.u64.wrap (IntKind.i64.wrap ((↑a : Int) + (↑b : Int)))).fdiv (2 : Int))).toNat : Int), AV.int IntKind.i64 (IntKind.i64.wrap ((↑(IntKind.i64.wrap (IntKind.i64.wrap ((IntKind.u64.wrap (IntKind.i64.wrap ((↑a : Int) + (↑b : Int)))).fdiv (2 : Int)) + (↑m : Int))).toNat : Int) - (↑(bsN (cutC compareD (unS (rowS f)) (IntKind.i64.wrap (IntKind.i64.wrap (IntKind.i64.wrap ((IntKind.u64.wrap (IntKind.i64.wrap ((↑a : Int) + (↑b : Int)))).fdiv (2 : Int)) + (↑m : Int)) - (1 : Int))).toNat) ((IntKind.i64.wrap ((IntKind.u64.wrap (IntKind.i64.wrap ((↑a : Int) + (↑b : Int)))).fdiv (2 : Int))).toNat - (IntKind.i64.wrap (IntKind.i64.wrap (IntKind.i64.wrap ((IntKind.u64.wrap (IntKind.i64.wrap ((↑a : Int) + (↑b : Int)))).fdiv (2 : Int)) + (↑m : Int)) - (↑b : Int))).toNat) (IntKind.i64.wrap (IntKind.i64.wrap (IntKind.i64.wrap ((IntKind.u64.wrap (IntKind.i64.wrap ((↑a : Int) + (↑b : Int)))).fdiv (2 : Int)) + (↑m : Int)) - (↑b : Int))).toNat (IntKind.i64.wrap ((IntKind.u64.wrap (IntKind.i64.wrap ((↑a : Int) + (↑b : Int)))).fdiv (2 : Int))).toNat) : Int))), AV.int IntKind.i64 (↑(↑b : Int).toNat : Int), AV.fn 12 []], [some (AObj.row 1 N (rowS (unS (rowS f))))]) then
            some ((AV.tup [], [some (AObj.row 1 N (rowS (sortG compareD (unS (rowS (unS (rowS f)))) (↑(IntKind.i64.wrap ((IntKind.u64.wrap (IntKind.i64.wrap ((↑a : Int) + (↑b : Int)))).fdiv (2 : Int))).toNat : Int).toNat (↑(↑b : Int).toNat : Int).toNat)))]))
           else
            none
          else
           some ((AV.tup [], [some (AObj.row 1 N (rowS (unS (rowS f))))]))
         else
          some ((AV.tup [], [some (AObj.row 1 N (rowS (unS (rowS f))))]))
      else
       bif decide ((↑(↑a : Int).toNat : Int) < (↑(bsN (cutC compareD (unS (rowS f)) (IntKind.i64.wrap (IntKind.i64.wrap (IntKind.i64.wrap ((IntKind.u64.wrap (IntKind.i64.wrap ((↑a : Int) + (↑b : Int)))).fdiv (2 : Int)) + (↑m : Int)) - (1 : Int))).toNat) ((IntKind.i64.wrap ((IntKind.u64.wrap (IntKind.i64.wrap ((↑a : Int) + (↑b : Int)))).fdiv (2 : Int))).toNat - (IntKind.i64.wrap (IntKind.i64.wrap (IntKind.i64.wrap ((IntKind.u64.wrap (IntKind.i64.wrap ((↑a : Int) + (↑b : Int)))).fdiv (2 : Int)) + (↑m : Int)) - (↑b : Int))).toNat) (IntKind.i64.wrap (IntKind.i64.wrap (IntKind.i64.wrap ((IntKind.u64.wrap (IntKind.i64.wrap ((↑a : Int) + (↑b : Int)))).fdiv (2 : Int)) + (↑m : Int)) - (↑b : Int))).toNat (IntKind.i64.wrap ((IntKind.u64.wrap (IntKind.i64.wrap ((↑a : Int) + (↑b : Int)))).fdiv (2 : Int))).toNat) : Int)) then
        bif decide ((↑(bsN (cutC compareD (unS (rowS f)) (IntKind.i64.wrap (IntKind.i64.wrap (IntKind.i64.wrap ((IntKind.u64.wrap (IntKind.i64.wrap ((↑a : Int) + (↑b : Int)))).fdiv (2 : Int)) + (↑m : Int)) - (1 : Int))).toNat) ((IntKind.i64.wrap ((IntKind.u64.wrap (IntKind.i64.wrap ((↑a : Int) + (↑b : Int)))).fdiv (2 : Int))).toNat - (IntKind.i64.wrap (IntKind.i64.wrap (IntKind.i64.wrap ((IntKind.u64.wrap (IntKind.i64.wrap ((↑a : Int) + (↑b : Int)))).fdiv (2 : Int)) + (↑m : Int)) - (↑b : Int))).toNat) (IntKind.i64.wrap (IntKind.i64.wrap (IntKind.i64.wrap ((IntKind.u64.wrap (IntKind.i64.wrap ((↑a : Int) + (↑b : Int)))).fdiv (2 : Int)) + (↑m : Int)) - (↑b : Int))).toNat (IntKind.i64.wrap ((IntKind.u64.wrap (IntKind.i64.wrap ((↑a : Int) + (↑b : Int)))).fdiv (2 : Int))).toNat) : Int) < (↑(IntKind.i64.wrap ((IntKind.u64.wrap (IntKind.i64.wrap ((↑a : Int) + (↑b : Int)))).fdiv (2 : Int))).toNat : Int)) then
         bif isEn en76 (p76 K) ([AV.row 0 1 0 N, AV.int IntKind.i64 (↑(↑a : Int).toNat : Int), AV.int IntKind.i64 (↑(bsN (cutC compareD (unS (rowS f)) (IntKind.i64.wrap (IntKind.i64.wrap (IntKind.i64.wrap ((IntKind.u64.wrap (IntKind.i64.wrap ((↑a : Int) + (↑b : Int)))).fdiv (2 : Int)) + (↑m : Int)) - (1 : Int))).toNat) ((IntKind.i64.wrap ((IntKind.u64.wrap (IntKind.i64.wrap ((↑a : Int) + (↑b : Int)))).fdiv (2 : Int))).toNat - (IntKind.i64.wrap (IntKind.i64.wrap (IntKind.i64.wrap ((IntKind.u64.wrap (IntKind.i64.wrap ((↑a : Int) + (↑b : Int)))).fdiv (2 : Int)) + (↑m : Int)) - (↑b : Int))).toNat) (IntKind.i64.wrap (IntKind.i64.wrap (IntKind.i64.wrap ((IntKind.u64.wrap (IntKind.i64.wrap ((↑a : Int) + (↑b : Int)))).fdiv (2 : Int)) + (↑m : Int)) - (↑b : Int))).toNat (IntKind.i64.wrap ((IntKind.u64.wrap (IntKind.i64.wrap ((↑a : Int) + (↑b : Int)))).fdiv (2 : Int))).toNat) : Int), AV.int IntKind.i64 (↑(IntKind.i64.wrap ((IntKind.u64.wrap (IntKind.i64.wrap ((↑a : Int) + (↑b : Int)))).fdiv (2 : Int))).toNat : Int), AV.fn 12 []], [some (AObj.row 1 N (rowS (unS (rowS f))))]) then
          bif decide ((↑(IntKind.i64.wrap ((IntKind.u64.wrap (IntKind.i64.wrap ((↑a : Int) + (↑b : Int)))).fdiv (2 : Int))).toNat : Int) < IntKind.i64.wrap ((↑(IntKind.i64.wrap (IntKind.i64.wrap ((IntKind.u64.wrap (IntKind.i64.wrap ((↑a : Int) + (↑b : Int)))).fdiv (2 : Int)) + (↑m : Int))).toNat : Int) - (↑(bsN (cutC compareD (unS (rowS f)) (IntKind.i64.wrap (IntKind.i64.wrap (IntKind.i64.wrap ((IntKind.u64.wrap (IntKind.i64.wrap ((↑a : Int) + (↑b : Int)))).fdiv (2 : Int)) + (↑m : Int)) - (1 : Int))).toNat) ((IntKind.i64.wrap ((IntKind.u64.wrap (IntKind.i64.wrap ((↑a : Int) + (↑b : Int)))).fdiv (2 : Int))).toNat - (IntKind.i64.wrap (IntKind.i64.wrap (IntKind.i64.wrap ((IntKind.u64.wrap (IntKind.i64.wrap ((↑a : Int) + (↑b : Int)))).fdiv (2 : Int)) + (↑m : Int)) - (↑b : Int))).toNat) (IntKind.i64.wrap (IntKind.i64.wrap (IntKind.i64.wrap ((IntKind.u64.wrap (IntKind.i64.wrap ((↑a : Int) + (↑b : Int)))).fdiv (2 : Int)) + (↑m : Int)) - (↑b : Int))).toNat (IntKind.i64.wrap ((IntKind.u64.wrap (IntKind.i64.wrap ((↑a : Int) + (↑b : Int)))).fdiv (2 : Int))).toNat) : Int))) then
           bif decide (IntKind.i64.wrap ((↑(IntKind.i64.wrap (IntKind.i64.wrap ((IntKind.u64.wrap (IntKind.i64.wrap ((↑a : Int) + (↑b : Int)))).fdiv (2 : Int)) + (↑m : Int))).toNat : Int) - (↑(bsN (cutC compareD (unS (rowS f)) (IntKind.i64.wrap (IntKind.i64.wrap (IntKind.i64.wrap ((IntKind.u64.wrap (IntKind.i64.wrap ((↑a : Int) + (↑b : Int)))).fdiv (2 : Int)) + (↑m : Int)) - (1 : Int))).toNat) ((IntKind.i64.wrap ((IntKind.u64.wrap (IntKind.i64.wrap ((↑a : Int) + (↑b : Int)))).fdiv (2 : Int))).toNat - (IntKind.i64.wrap (IntKind.i64.wrap (IntKind.i64.wrap ((IntKind.u64.wrap (IntKind.i64.wrap ((↑a : Int) + (↑b : Int)))).fdiv (2 : Int)) + (↑m : Int)) - (↑b : Int))).toNat) (IntKind.i64.wrap (IntKind.i64.wrap (IntKind.i64.wrap ((IntKind.u64.wrap (IntKind.i64.wrap ((↑a : Int) + (↑b : Int)))).fdiv (2 : Int)) + (↑m : Int)) - (↑b : Int))).toNat (IntKind.i64.wrap ((IntKind.u64.wrap (IntKind.i64.wrap ((↑a : Int) + (↑b : Int)))).fdiv (2 : Int))).toNat) : Int)) < (↑(↑b : Int).toNat : Int)) then
            bif isEn en76 (p76 K) ([AV.row 0 1 0 N, AV.int IntKind.i64 (↑(IntKind.i64.wrap ((IntKind.u64.wrap (IntKind.i64.wrap ((↑a : Int) + (↑b : Int)))).fdiv (2 : Int))).toNat : Int), AV.int IntKind.i64 (IntKind.i64.wrap ((↑(IntKind.i64.wrap (IntKind.i64.wrap ((IntKind.u64.wrap (IntKind.i64.wrap ((↑a : Int) + (↑b : Int)))).fdiv (2 : Int)) + (↑m : Int))).toNat : Int) - (↑(bsN (cutC compareD (unS (rowS f)) (IntKind.i64.wrap (IntKind.i64.wrap (IntKind.i64.wrap ((IntKind.u64.wrap (IntKind.i64.wrap ((↑a : Int) + (↑b : Int)))).fdiv (2 : Int)) + (↑m : Int)) - (1 : Int))).toNat) ((IntKind.i64.wrap ((IntKind.u64.wrap (IntKind.i64.wrap ((↑a : Int) + (↑b : Int)))).fdiv (2 : Int))).toNat - (IntKind.i64.wrap (IntKind.i64.wrap (IntKind.i64.wrap ((IntKind.u64.wrap (IntKind.i64.wrap ((↑a : Int) + (↑b : Int)))).fdiv (2 : Int)) + (↑m : Int)) - (↑b : Int))).toNat) (IntKind.i64.wrap (IntKind.i64.wrap (IntKind.i64.wrap ((IntKind.u64.wrap (IntKind.i64.wrap ((↑a : Int) + (↑b : Int)))).fdiv (2 : Int)) + (↑m : Int)) - (↑b : Int))).toNat (IntKind.i64.wrap ((IntKind.u64.wrap (IntKind.i64.wrap ((↑a : Int) + (↑b : Int)))).fdiv (2 : Int))).toNat) : Int))), AV.int IntKind.i64 (↑(↑b : Int).toNat : Int), AV.fn 12 []], [some (AObj.row 1 N (rowS (sortG compareD (unS (rowS (unS (rowS f)))) (↑(↑a : Int).toNat : Int).toNat (↑(IntKind.i64.wrap ((IntKind.u64.wrap (IntKind.i64.wrap ((↑a : Int) + (↑b : Int)))).fdiv (2 : Int))).toNat : Int).toNat)))]) then
             some ((AV.tup [], [some (AObj.row 1 N (rowS (sortG compareD (unS (rowS (sortG compareD (unS (rowS (unS (rowS f)))) (↑(↑a : Int).toNat : Int).toNat (↑(IntKind.i64.wrap ((IntKind.u64.wrap (IntKind.i64.wrap ((↑a : Int) + (↑b : Int)))).fdiv (2 : Int))).toNat : Int).toNat))) (↑(IntKind.i64.wrap ((IntKind.u64.wrap (IntKind.i64.wrap ((↑a : Int) + (↑b : Int)))).fdiv (2 : Int))).toNat : Int).toNat (↑(↑b : Int).toNat : Int).toNat)))]))
            else
             none
           else
            some ((AV.tup [], [some (AObj.row 1 N (rowS (sortG compareD (unS (rowS (unS (rowS f)))) (↑(↑a : Int).toNat : Int).toNat (↑(IntKind.i64.wrap ((IntKind.u64.wrap (IntKind.i64.wrap ((↑a : Int) + (↑b : Int)))).fdiv (2 : Int))).toNat : Int).toNat)))]))
          else
           some ((AV.tup [], [some (AObj.row 1 N (rowS (sortG compareD (unS (rowS (unS (rowS f)))) (↑(↑a : Int).toNat : Int).toNat (↑(IntKind.i64.wrap ((IntKind.u64.wrap (IntKind.i64.wrap ((↑a : Int) + (↑b : Int)))).fdiv (2 : Int))).toNat : Int).toNat)))]))
         else
          none
        else
         bif decide ((↑(IntKind.i64.wrap ((IntKind.u64.wrap (IntKind.i64.wrap ((↑a : Int) + (↑b : Int)))).fdiv (2 : Int))).toNat : Int) < IntKind.i64.wrap ((↑(IntKind.i64.wrap (IntKind.i64.wrap ((IntKind.u64.wrap (IntKind.i64.wrap ((↑a : Int) + (↑b : Int)))).fdiv (2 : Int)) + (↑m : Int))).toNat : Int) - (↑(bsN (cutC compareD (unS (rowS f)) (IntKind.i64.wrap (IntKind.i64.wrap (IntKind.i64.wrap ((IntKind.u64.wrap (IntKind.i64.wrap ((↑a : Int) + (↑b : Int)))).fdiv (2 : Int)) + (↑m : Int)) - (1 : Int))).toNat) ((IntKind.i64.wrap ((IntKind.u64.wrap (IntKind.i64.wrap ((↑a : Int) + (↑b : Int)))).fdiv (2 : Int))).toNat - (IntKind.i64.wrap (IntKind.i64.wrap (IntKind.i64.wrap ((IntKind.u64.wrap (IntKind.i64.wrap ((↑a : Int) + (↑b : Int)))).fdiv (2 : Int)) + (↑m : Int)) - (↑b : Int))).toNat) (IntKind.i64.wrap (IntKind.i64.wrap (IntKind.i64.wrap ((IntKind.u64.wrap (IntKind.i64.wrap ((↑a : Int) + (↑b : Int)))).fdiv (2 : Int)) + (↑m : Int)) - (↑b : Int))).toNat (IntKind.i64.wrap ((IntKind.u64.wrap (IntKind.i64.wrap ((↑a : Int) + (↑b : Int)))).fdiv (2 : Int))).toNat) : Int))) then
          bif decide (IntKind.i64.wrap ((↑(IntKind.i64.wrap (IntKind.i64.wrap ((IntKind.u64.wrap (IntKind.i64.wrap ((↑a : Int) + (↑b : Int)))).fdiv (2 : Int)) + (↑m : Int))).toNat : Int) - (↑(bsN (cutC compareD (unS (rowS f)) (IntKind.i64.wrap (IntKind.i64.wrap (IntKind.i64.wrap ((IntKind.u64.wrap (IntKind.i64.wrap ((↑a : Int) + (↑b : Int)))).fdiv (2 : Int)) + (↑m : Int)) - (1 : Int))).toNat) ((IntKind.i64.wrap ((IntKind.u64.wrap (IntKind.i64.wrap ((↑a : Int) + (↑b : Int)))).fdiv (2 : Int))).toNat - (IntKind.i64.wrap (IntKind.i64.wrap (IntKind.i64.wrap ((IntKind.u64.wrap (IntKind.i64.wrap ((↑a : Int) + (↑b : Int)))).fdiv (2 : Int)) + (↑m : Int)) - (↑b : Int))).toNat) (IntKind.i64.wrap (IntKind.i64.wrap (IntKind.i64.wrap ((IntKind.u64.wrap (IntKind.i64.wrap ((↑a : Int) + (↑b : Int)))).fdiv (2 : Int)) + (↑m : Int)) - (↑b : Int))).toNat (IntKind.i64.wrap ((IntKind.u64.wrap (IntKind.i64.wrap ((↑a : Int) + (↑b : Int)))).fdiv (2 : Int))).toNat) : Int)) < (↑(↑b : Int).toNat : Int)) then
           bif isEn en76 (p76 K) ([AV.row 0 1 0 N, AV.int IntKind.i64 (↑(IntKind.i64.wrap ((IntKind.u64.wrap (IntKind.i64.wrap ((↑a : Int) + (↑b : Int)))).fdiv (2 : Int))).toNat : Int), AV.int IntKind.i64 (IntKind.i64.wrap ((↑(IntKind.i64.wrap (IntKind.i64.wrap ((IntKind.u64.wrap (IntKind.i64.wrap ((↑a : Int) + (↑b : Int)))).fdiv (2 : Int)) + (↑m : Int))).toNat : Int) - (↑(bsN (cutC compareD (unS (rowS f)) (IntKind.i64.wrap (IntKind.i64.wrap (IntKind.i64.wrap ((IntKind.u64.wrap (IntKind.i64.wrap ((↑a : Int) + (↑b : Int)))).fdiv (2 : Int)) + (↑m : Int)) - (1 : Int))).toNat) ((IntKind.i64.wrap ((IntKind.u64.wrap (IntKind.i64.wrap ((↑a : Int) + (↑b : Int)))).fdiv (2 : Int))).toNat - (IntKind.i64.wrap (IntKind.i64.wrap (IntKind.i64.wrap ((IntKind.u64.wrap (IntKind.i64.wrap ((↑a : Int) + (↑b : Int)))).fdiv (2 : Int)) + (↑m : Int)) - (↑b : Int))).toNat) (IntKind.i64.wrap (IntKind.i64.wrap (IntKind.i64.wrap ((IntKind.u64.wrap (IntKind.i64.wrap ((↑a : Int) + (↑b : Int)))).fdiv (2 : Int)) + (↑m : Int)) - (↑b : Int))).toNat (IntKind.i64.wrap ((IntKind.u64.wrap (IntKind.i64.wrap ((↑a : Int) + (↑b : Int)))).fdiv (2 : Int))).toNat) : Int))), AV.int IntKind.i64 (↑(↑b : Int).toNat : Int), AV.fn 12 []], [some (AObj.row 1 N (rowS (unS (rowS f))))]) then
            some ((AV.tup [], [some (AObj.row 1 N (rowS (sortG compareD (unS (rowS (unS (rowS f)))) (↑(IntKind.i64.wrap ((IntKind.u64.wrap (IntKind.i64.wrap ((↑a : Int) + (↑b : Int)))).fdiv (2 : Int))).toNat : Int).toNat (↑(↑b : Int).toNat : Int).toNat)))]))
           else
            none
          else
           some ((AV.tup [], [some (AObj.row 1 N (rowS (unS (rowS f))))]))
         else
          some ((AV.tup [], [some (AObj.row 1 N (rowS (unS (rowS f))))]))
       else
        bif decide ((↑(IntKind.i64.wrap ((IntKind.u64.wrap (IntKind.i64.wrap ((↑a : Int) + (↑b : Int)))).fdiv (2 : Int))).toNat : Int) < IntKind.i64.wrap ((↑(IntKind.i64.wrap (IntKind.i64.wrap ((IntKind.u64.wrap (IntKind.i64.wrap ((↑a : Int) + (↑b : Int)))).fdiv (2 : Int)) + (↑m : Int))).toNat : Int) - (↑(bsN (cutC compareD (unS (rowS f)) (IntKind.i64.wrap (IntKind.i64.wrap (IntKind.i64.wrap ((IntKind.u64.wrap (IntKind.i64.wrap ((↑a : Int) + (↑b : Int)))).fdiv (2 : Int)) + (↑m : Int)) - (1 : Int))).toNat) ((IntKind.i64.wrap ((IntKind.u64.wrap (IntKind.i64.wrap ((↑a : Int) + (↑b : Int)))).fdiv (2 : Int))).toNat - (IntKind.i64.wrap (IntKind.i64.wrap (IntKind.i64.wrap ((IntKind.u64.wrap (IntKind.i64.wrap ((↑a : Int) + (↑b : Int)))).fdiv (2 : Int)) + (↑m : Int)) - (↑b : Int))).toNat) (IntKind.i64.wrap (IntKind.i64.wrap (IntKind.i64.wrap ((IntKind.u64.wrap (IntKind.i64.wrap ((↑a : Int) + (↑b : Int)))).fdiv (2 : Int)) + (↑m : Int)) - (↑b : Int))).toNat (IntKind.i64.wrap ((IntKind.u64.wrap (IntKind.i64.wrap ((↑a : Int) + (↑b : Int)))).fdiv (2 : Int))).toNat) : Int))) then
         bif decide (IntKind.i64.wrap ((↑(IntKind.i64.wrap (IntKind.i64.wrap ((IntKind.u64.wrap (IntKind.i64.wrap ((↑a : Int) + (↑b : Int)))).fdiv (2 : Int)) + (↑m : Int))).toNat : Int) - (↑(bsN (cutC compareD (unS (rowS f)) (IntKind.i64.wrap (IntKind.i64.wrap (IntKind.i64.wrap ((IntKind.u64.wrap (IntKind.i64.wrap ((↑a : Int) + (↑b : Int)))).fdiv (2 : Int)) + (↑m : Int)) - (1 : Int))).toNat) ((IntKind.i64.wrap ((IntKind.u64.wrap (IntKind.i64.wrap ((↑a : Int) + (↑b : Int)))).fdiv (2 : Int))).toNat - (IntKind.i64.wrap (IntKind.i64.wrap (IntKind.i64.wrap ((IntKind.u64.wrap (IntKind.i64.wrap ((↑a : Int) + (↑b : Int)))).fdiv (2 : Int)) + (↑m : Int)) - (↑b : Int))).toNat) (IntKind.i64.wrap (IntKind.i64.wrap (IntKind.i64.wrap ((IntKind.u64.wrap (IntKind.i64.wrap ((↑a : Int) + (↑b : Int)))).fdiv (2 : Int)) + (↑m : Int)) - (↑b : Int))).toNat (IntKind.i64.wrap ((IntKind.u64.wrap (IntKind.i64.wrap ((↑a : Int) + (↑b : Int)))).fdiv (2 : Int))).toNat) : Int)) < (↑(↑b : Int).toNat : Int)) then
          bif isEn en76 (p76 K) ([AV.row 0 1 0 N, AV.int IntKind.i64 (↑(IntKind.i64.wrap ((IntKind.u64.wrap (IntKind.i64.wrap ((↑a : Int) + (↑b : Int)))).fdiv (2 : Int))).toNat : Int), AV.int IntKind.i64 (IntKind.i64.wrap ((↑(IntKind.i64.wrap (IntKind.i64.wrap ((IntKind.u64.wrap (IntKind.i64.wrap ((↑a : Int) + (↑b : Int)))).fdiv (2 : Int)) + (↑m : Int))).toNat : Int) - (↑(bsN (cutC compareD (unS (rowS f)) (IntKind.i64.wrap (IntKind.i64.wrap (IntKind.i64.wrap ((IntKind.u64.wrap (IntKind.i64.wrap ((↑a : Int) + (↑b : Int)))).fdiv (2 : Int)) + (↑m : Int)) - (1 : Int))).toNat) ((IntKind.i64.wrap ((IntKind.u64.wrap (IntKind.i64.wrap ((↑a : Int) + (↑b : Int)))).fdiv (2 : Int))).toNat - (IntKind.i64.wrap (IntKind.i64.wrap (IntKind.i64.wrap ((IntKind.u64.wrap (IntKind.i64.wrap ((↑a : Int) + (↑b : Int)))).fdiv (2 : Int)) + (↑m : Int)) - (↑b : Int))).toNat) (IntKind.i64.wrap (IntKind.i64.wrap (IntKind.i64.wrap ((IntKind.u64.wrap (IntKind.i64.wrap ((↑a : Int) + (↑b : Int)))).fdiv (2 : Int)) + (↑m : Int)) - (↑b : Int))).toNat (IntKind.i64.wrap ((IntKind.u64.wrap (IntKind.i64.wrap ((↑a : Int) + (↑b : Int)))).fdiv (2 : Int))).toNat) : Int))), AV.int IntKind.i64 (↑(↑b : Int).toNat : Int), AV.fn 12 []], [some (AObj.row 1 N (rowS (unS (rowS f))))]) then
           some ((AV.tup [], [some (AObj.row 1 N (rowS (sortG compareD (unS (rowS (unS (rowS f)))) (↑(IntKind.i64.wrap ((IntKind.u64.wrap (IntKind.i64.wrap ((↑a : Int) + (↑b : Int)))).fdiv (2 : Int))).toNat : Int).toNat (↑(↑b : Int).toNat : Int).toNat)))]))
          else
           none
         else
          some ((AV.tup [], [some (AObj.row 1 N (rowS (unS (rowS f))))]))
        else
         some ((AV.tup [], [some (AObj.row 1 N (rowS (unS (rowS f))))]))
     else
      none
    else
     bif isEn eL76_4 pL76_4 ([AV.row 0 1 0 N, AV.int IntKind.i64 (↑a : Int), AV.int IntKind.i64 (↑m : Int), AV.int IntKind.i64 (↑b : Int), AV.fn 12 [], AV.int IntKind.i64 (IntKind.i64.wrap ((IntKind.u64.wrap (IntKind.i64.wrap ((↑a : Int) + (↑b : Int)))).fdiv (2 : Int))), AV.int IntKind.i64 (IntKind.i64.wrap (IntKind.i64.wrap ((IntKind.u64.wrap (IntKind.i64.wrap ((↑a : Int) + (↑b : Int)))).fdiv (2 : Int)) + (↑m : Int))), AV.int IntKind.i64 (↑a : Int), AV.int IntKind.i64 (↑m : Int), AV.int IntKind.i64 (IntKind.i64.wrap (IntKind.i64.wrap (IntKind.i64.wrap ((IntKind.u64.wrap (IntKind.i64.wrap ((↑a : Int) + (↑b : Int)))).fdiv (2 : Int)) + (↑m : Int)) - (1 : Int)))], [some (AObj.row 1 N (rowS f))]) then
      bif decide ((↑(bsN (cutC compareD (unS (rowS f)) (IntKind.i64.wrap (IntKind.i64.wrap (IntKind.i64.wrap ((IntKind.u64.wrap (IntKind.i64.wrap ((↑a : Int) + (↑b : Int)))).fdiv (2 : Int)) + (↑m : Int)) - (1 : Int))).toNat) ((↑m : Int).toNat - (↑a : Int).toNat) (↑a : Int).toNat (↑m : Int).toNat) : Int) < (↑(↑m : Int).toNat : Int)) then
       bif decide ((↑(↑m : Int).toNat : Int) < IntKind.i64.wrap ((↑(IntKind.i64.wrap (IntKind.i64.wrap ((IntKind.u64.wrap (IntKind.i64.wrap ((↑a : Int) + (↑b : Int)))).fdiv (2 : Int)) + (↑m : Int))).toNat : Int) - (↑(bsN (cutC compareD (unS (rowS f)) (IntKind.i64.wrap (IntKind.i64.wrap (IntKind.i64.wrap ((IntKind.u64.wrap (IntKind.i64.wrap ((↑a : Int) + (↑b : Int)))).fdiv (2 : Int)) + (↑m : Int)) - (1 : Int))).toNat) ((↑m : Int).toNat - (↑a : Int).toNat) (↑a : Int).toNat (↑m : Int).toNat) : Int))) then
        bif isEn en81 p81 ([AV.row 0 1 0 N, AV.int IntKind.i64 (↑(bsN (cutC compareD (unS (rowS f)) (IntKind.i64.wrap (IntKind.i64.wrap (IntKind.i64.wrap ((IntKind.u64.wrap (IntKind.i64.wrap ((↑a : Int) + (↑b : Int)))).fdiv (2 : Int)) + (↑m : Int)) - (1 : Int))).toNat) ((↑m : Int).toNat - (↑a : Int).toNat) (↑a : Int).toNat (↑m : Int).toNat) : Int), AV.int IntKind.i64 (↑(↑m : Int).toNat : Int), AV.int IntKind.i64 (IntKind.i64.wrap ((↑(IntKind.i64.wrap (IntKind.i64.wrap ((IntKind.u64.wrap (IntKind.i64.wrap ((↑a : Int) + (↑b : Int)))).fdiv (2 : Int)) + (↑m : Int))).toNat : Int) - (↑(bsN (cutC compareD (unS (rowS f)) (IntKind.i64.wrap (IntKind.i64.wrap (IntKind.i64.wrap ((IntKind.u64.wrap (IntKind.i64.wrap ((↑a : Int) + (↑b : Int)))).fdiv (2 : Int)) + (↑m : Int)) - (1 : Int))).toNat) ((↑m : Int).toNat - (↑a : Int).toNat) (↑a : Int).toNat (↑m : Int).toNat) : Int))), AV.fn 12 []], [some (AObj.row 1 N (rowS (unS (rowS f))))]) then
         bif decide ((↑(↑a : Int).toNat : Int) < (↑(bsN (cutC compareD (unS (rowS f)) (IntKind.i64.wrap (IntKind.i64.wrap (IntKind.i64.wrap ((IntKind.u64.wrap (IntKind.i64.wrap ((↑a : Int) + (↑b : Int)))).fdiv (2 : Int)) + (↑m : Int)) - (1 : Int))).toNat) ((↑m : Int).toNat - (↑a : Int).toNat) (↑a : Int).toNat (↑m : Int).toNat) : Int)) then
          bif decide ((↑(bsN (cutC compareD (unS (rowS f)) (IntKind.i64.wrap (IntKind.i64.wrap (IntKind.i64.wrap ((IntKind.u64.wrap (IntKind.i64.wrap ((↑a : Int) + (↑b : Int)))).fdiv (2 : Int)) + (↑m : Int)) - (1 : Int))).toNat) ((↑m : Int).toNat - (↑a : Int).toNat) (↑a : Int).toNat (↑m : Int).toNat) : Int) < (↑(IntKind.i64.wrap ((IntKind.u64.wrap (IntKind.i64.wrap ((↑a : Int) + (↑b : Int)))).fdiv (2 : Int))).toNat : Int)) then
           bif isEn en76 (p76 K) ([AV.row 0 1 0 N, AV.int IntKind.i64 (↑(↑a : Int).toNat : Int), AV.int IntKind.i64 (↑(bsN (cutC compareD (unS (rowS f)) (IntKind.i64.wrap (IntKind.i64.wrap (IntKind.i64.wrap ((IntKind.u64.wrap (IntKind.i64.wrap ((↑a : Int) + (↑b : Int)))).fdiv (2 : Int)) + (↑m : Int)) - (1 : Int))).toNat) ((↑m : Int).toNat - (↑a : Int).toNat) (↑a : Int).toNat (↑m : Int).toNat) : Int), AV.int IntKind.i64 (↑(IntKind.i64.wrap ((IntKind.u64.wrap (IntKind.i64.wrap ((↑a : Int) + (↑b : Int)))).fdiv (2 : Int))).toNat : Int), AV.fn 12 []], [some (AObj.row 1 N (rowS (rotR (unS (rowS (unS (rowS f)))) (↑(bsN (cutC compareD (unS (rowS f)) (IntKind.i64.wrap (IntKind.i64.wrap (IntKind.i64.wrap ((IntKind.u64.wrap (IntKind.i64.wrap ((↑a : Int) + (↑b : Int)))).fdiv (2 : Int)) + (↑m : Int)) - (1 : Int))).toNat) ((↑m : Int).toNat - (↑a : Int).toNat) (↑a : Int).toNat (↑m : Int).toNat) : Int).toNat (↑(↑m : Int).toNat : Int).toNat (IntKind.i64.wrap ((↑(IntKind.i64.wrap (IntKind.i64.wrap ((IntKind.u64.wrap (IntKind.i64.wrap ((↑a : Int) + (↑b : Int)))).fdiv (2 : Int)) + (↑m : Int))).toNat : Int) - (↑(bsN (cutC compareD (unS (rowS f)) (IntKind.i64.wrap (IntKind.i64.wrap (IntKind.i64.wrap ((IntKind.u64.wrap (IntKind.i64.wrap ((↑a : Int) + (↑b : Int)))).fdiv (2 : Int)) + (↑m : Int)) - (1 : Int))).toNat) ((↑m : Int).toNat - (↑a : Int).toNat) (↑a : Int).toNat (↑m : Int).toNat) : Int))).toNat)))]) then
            bif decide ((↑(IntKind.i64.wrap ((IntKind.u64.wrap (IntKind.i64.wrap ((↑a : Int) + (↑b : Int)))).fdiv (2 : Int))).toNat : Int) < IntKind.i64.wrap ((↑(IntKind.i64.wrap (IntKind.i64.wrap ((IntKind.u64.wrap (IntKind.i64.wrap ((↑a : Int) + (↑b : Int)))).fdiv (2 : Int)) + (↑m : Int))).toNat : Int) - (↑(bsN (cutC compareD (unS (rowS f)) (IntKind.i64.wrap (IntKind.i64.wrap (IntKind.i64.wrap ((IntKind.u64.wrap (IntKind.i64.wrap ((↑a : Int) + (↑b : Int)))).fdiv (2 : Int)) + (↑m : Int)) - (1 : Int))).toNat) ((↑m : Int).toNat - (↑a : Int).toNat) (↑a : Int).toNat (↑m : Int).toNat) : Int))) then
             bif decide (IntKind.i64.wrap ((↑(IntKind.i64.wrap (IntKind.i64.wrap ((IntKind.u64.wrap (IntKind.i64.wrap ((↑a : Int) + (↑b : Int)))).fdiv (2 : Int)) + (↑m : Int))).toNat : Int) - (↑(bsN (cutC compareD (unS (rowS f)) (IntKind.i64.wrap (IntKind.i64.wrap (IntKind.i64.wrap ((IntKind.u64.wrap (IntKind.i64.wrap ((↑a : Int) + (↑b : Int)))).fdiv (2 : Int)) + (↑m : Int)) - (1 : Int))).toNat) ((↑m : Int).toNat - (↑a : Int).toNat) (↑a : Int).toNat (↑m : Int).toNat) : Int)) < (↑(↑b : Int).toNat : Int)) then
              bif isEn en76 (p76 K) ([AV.row 0 1 0 N, AV.int IntKind.i64 (↑(IntKind.i64.wrap ((IntKind.u64.wrap (IntKind.i64.wrap ((↑a : Int) + (↑b : Int)))).fdiv (2 : Int))).toNat : Int), AV.int IntKind.i64 (IntKind.i64.wrap ((↑(IntKind.i64.wrap (IntKind.i64.wrap ((IntKind.u64.wrap (IntKind.i64.wrap ((↑a : Int) + (↑b : Int)))).fdiv (2 : Int)) + (↑m : Int))).toNat : Int) - (↑(bsN (cutC compareD (unS (rowS f)) (IntKind.i64.wrap (IntKind.i64.wrap (IntKind.i64.wrap ((IntKind.u64.wrap (IntKind.i64.wrap ((↑a : Int) + (↑b : Int)))).fdiv (2 : Int)) + (↑m : Int)) - (1 : Int))).toNat) ((↑m : Int).toNat - (↑a : Int).toNat) (↑a : Int).toNat (↑m : Int).toNat) : Int))), AV.int IntKind.i64 (↑(↑b : Int).toNat : Int), AV.fn 12 []], [some (AObj.row 1 N (rowS (sortG compareD (unS (rowS (rotR (unS (rowS (unS (rowS f)))) (↑(bsN (cutC compareD (unS (rowS f)) (IntKind.i64.wrap (IntKind.i64.wrap (IntKind.i64.wrap ((IntKind.u64.wrap (IntKind.i64.wrap ((↑a : Int) + (↑b : Int)))).fdiv (2 : Int)) + (↑m : Int)) - (1 : Int))).toNat) ((↑m : Int).toNat - (↑a : Int).toNat) (↑a : Int).toNat (↑m : Int).toNat) : Int).toNat (↑(↑m : Int).toNat : Int).toNat (IntKind.i64.wrap ((↑(IntKind.i64.wrap (IntKind.i64.wrap ((IntKind.u64.wrap (IntKind.i64.wrap ((↑a : Int) + (↑b : Int)))).fdiv (2 : Int)) + (↑m : Int))).toNat : Int) - (↑(bsN (cutC compareD (unS (rowS f)) (IntKind.i64.wrap (IntKind.i64.wrap (IntKind.i64.wrap ((IntKind.u64.wrap (IntKind.i64.wrap ((↑a : Int) + (↑b : Int)))).fdiv (2 : Int)) + (↑m : Int)) - (1 : Int))).toNat) ((↑m : Int).toNat - (↑a : Int).toNat) (↑a : Int).toNat (↑m : Int).toNat) : Int))).toNat))) (↑(↑a : Int).toNat : Int).toNat (↑(IntKind.i64.wrap ((IntKind.u64.wrap (IntKind.i64.wrap ((↑a : Int) + (↑b : Int)))).fdiv (2 : Int))).toNat : Int).toNat)))]) then
               some ((AV.tup [], [some (AObj.row 1 N (rowS (sortG compareD (unS (rowS (sortG compareD (unS (rowS (rotR (unS (rowS (unS (rowS f)))) (↑(bsN (cutC compareD (unS (rowS f)) (IntKind.i64.wrap (IntKind.i64.wrap (IntKind.i64.wrap ((IntKind.u64.wrap (IntKind.i64.wrap ((↑a : Int) + (↑b : Int)))).fdiv (2 : Int)) + (↑m : Int)) - (1 : Int))).toNat) ((↑m : Int).toNat - (↑a : Int).toNat) (↑a : Int).toNat (↑m : Int).toNat) : Int).toNat (↑(↑m : Int).toNat : Int).toNat (IntKind.i64.wrap ((↑(IntKind.i64.wrap (IntKind.i64.wrap ((IntKind.u64.wrap (IntKind.i64.wrap ((↑a : Int) + (↑b : Int)))).fdiv (2 : Int)) + (↑m : Int))).toNat : Int) - (↑(bsN (cutC compareD (unS (rowS f)) (IntKind.i64.wrap (IntKind.i64.wrap (IntKind.i64.wrap ((IntKind.u64.wrap (IntKind.i64.wrap ((↑a : Int) + (↑b : Int)))).fdiv (2 : Int)) + (↑m : Int)) - (1 : Int))).toNat) ((↑m : Int).toNat - (↑a : Int).toNat) (↑a : Int).toNat (↑m : Int).toNat) : Int))).toNat))) (↑(↑a : Int).toNat : Int).toNat (↑(IntKind.i64.wrap ((IntKind.u64.wrap (IntKind.i64.wrap ((↑a : Int) + (↑b : Int)))).fdiv (2 : Int))).toNat : Int).toNat))) (↑(IntKind.i64.wrap ((IntKind.u64.wrap (IntKind.i64.wrap ((↑a : Int) + (↑b : Int)))).fdiv (2 : Int))).toNat : Int).toNat (↑(↑b : Int).toNat : Int).toNat)))]))
              else
               none
             else
              some ((AV.tup [], [some (AObj.row 1 N (rowS (sortG compareD (unS (rowS (rotR (unS (rowS (unS (rowS f)))) (↑(bsN (cutC compareD (unS (rowS f)) (IntKind.i64.wrap (IntKind.i64.wrap (IntKind.i64.wrap ((IntKind.u64.wrap (IntKind.i64.wrap ((↑a : Int) + (↑b : Int)))).fdiv (2 : Int)) + (↑m : Int)) - (1 : Int))).toNat) ((↑m : Int).toNat - (↑a : Int).toNat) (↑a : Int).toNat (↑m : Int).toNat) : Int).toNat (↑(↑m : Int).toNat : Int).toNat (IntKind.i64.wrap ((↑(IntKind.i64.wrap (IntKind.i64.wrap ((IntKind.u64.wrap (IntKind.i64.wrap ((↑a : Int) + (↑b : Int)))).fdiv (2 : Int)) + (↑m : Int))).toNat : Int) - (↑(bsN (cutC compareD (unS (rowS f)) (IntKind.i64.wrap (IntKind.i64.wrap (IntKind.i64.wrap ((IntKind.u64.wrap (IntKind.i64.wrap ((↑a : Int) + (↑b : Int)))).fdiv (2 : Int)) + (↑m : Int)) - (1 : Int))).toNat) ((↑m : Int).toNat - (↑a : Int).toNat) (↑a : Int).toNat (↑m : Int).toNat) : Int))).toNat))) (↑(↑a : Int).toNat : Int).toNat (↑(IntKind.i64.wrap ((IntKind.u64.wrap (IntKind.i64.wrap ((↑a : Int) + (↑b : Int)))).fdiv (2 : Int))).toNat : Int).toNat)))]))
            else
             some ((AV.tup [], [some (AObj.row 1 N (rowS (sortG compareD (unS (rowS (rotR (unS (rowS (unS (rowS f)))) (↑(bsN (cutC compareD (unS (rowS f)) (IntKind.i64.wrap (IntKind.i64.wrap (IntKind.i64.wrap ((IntKind.u64.wrap (IntKind.i64.wrap ((↑a : Int) + (↑b : Int)))).fdiv (2 : Int)) + (↑m : Int)) - (1 : Int))).toNat) ((↑m : Int).toNat - (↑a : Int).toNat) (↑a : Int).toNat (↑m : Int).toNat) : Int).toNat (↑(↑m : Int).toNat : Int).toNat (IntKind.i64.wrap ((↑(IntKind.i64.wrap (IntKind.i64.wrap ((IntKind.u64.wrap (IntKind.i64.wrap ((↑a : Int) + (↑b : Int)))).fdiv (2 : Int)) + (↑m : Int))).toNat : Int) - (↑(bsN (cutC compareD (unS (rowS f)) (IntKind.i64.wrap (IntKind.i64.wrap (IntKind.i64.wrap ((IntKind.u64.wrap (IntKind.i64.wrap ((↑a : Int) + (↑b : Int)))).fdiv (2 : Int)) + (↑m : Int)) - (1 : Int))).toNat) ((↑m : Int).toNat - (↑a : Int).toNat) (↑a : Int).toNat (↑m : Int).toNat) : Int))).toNat))) (↑(↑a : Int).toNat : Int).toNat (↑(IntKind.i64.wrap ((IntKind.u64.wrap (IntKind.i64.wrap ((↑a : Int) + (↑b : Int)))).fdiv (2 : Int))).toNat : Int).toNat)))]))
           else
            none
          else
           bif decide ((↑(IntKind.i64.wrap ((IntKind.u64.wrap (IntKind.i64.wrap ((↑a : Int) + (↑b : Int)))).fdiv (2 : Int))).toNat : Int) < IntKind.i64.wrap ((↑(IntKind.i64.wrap (IntKind.i64.wrap ((IntKind.u64.wrap (IntKind.i64.wrap ((↑a : Int) + (↑b : Int)))).fdiv (2 : Int)) + (↑m : Int))).toNat : Int) - (↑(bsN (cutC compareD (unS (rowS f)) (IntKind.i64.wrap (IntKind.i64.wrap (IntKind.i64.wrap ((IntKind.u64.wrap (IntKind.i64.wrap ((↑a : Int) + (↑b : Int)))).fdiv (2 : Int)) + (↑m : Int)) - (1 : Int))).toNat) ((↑m : Int).toNat - (↑a : Int).toNat) (↑a : Int).toNat (↑m : Int).toNat) : Int))) then
            bif decide (IntKind.i64.wrap ((↑(IntKind.i64.wrap (IntKind.i64.wrap ((IntKind.u64.wrap (IntKind.i64.wrap ((↑a : Int) + (↑b : Int)))).fdiv (2 : Int)) + (↑m : Int))).toNat : Int) - (↑(bsN (cutC compareD (unS (rowS f)) (IntKind.i64.wrap (IntKind.i64.wrap (IntKind.i64.wrap ((IntKind.u64.wrap (IntKind.i64.wrap ((↑a : Int) + (↑b : Int)))).fdiv (2 : Int)) + (↑m : Int)) - (1 : Int))).toNat) ((↑m : Int).toNat - (↑a : Int).toNat) (↑a : Int).toNat (↑m : Int).toNat) : Int)) < (↑(↑b : Int).toNat : Int)) then
             bif isEn en76 (p76 K) ([AV.row 0 1 0 N, AV.int IntKind.i64 (↑(IntKind.i64.wrap ((IntKind.u64.wrap (IntKind.i64.wrap ((↑a : Int) + (↑b : Int)))).fdiv (2 : Int))).toNat : Int), AV.int IntKind.i64 (IntKind.i64.wrap ((↑(IntKind.i64.wrap (IntKind.i64.wrap ((IntKind.u64.wrap (IntKind.i64.wrap ((↑a : Int) + (↑b : Int)))).fdiv (2 : Int)) + (↑m : Int))).toNat : Int) - (↑(bsN (cutC compareD (unS (rowS f)) (IntKind.i64.wrap (IntKind.i64.wrap (IntKind.i64.wrap ((IntKind.u64.wrap (IntKind.i64.wrap ((↑a : Int) + (↑b : Int)))).fdiv (2 : Int)) + (↑m : Int)) - (1 : Int))).toNat) ((↑m : Int).toNat - (↑a : Int).toNat) (↑a : Int).toNat (↑m : Int).toNat) : Int))), AV.int IntKind.i64 (↑(↑b : Int).toNat : Int), AV.fn 12 []], [some (AObj.row 1 N (rowS (rotR (unS (rowS (unS (rowS f)))) (↑(bsN (cutC compareD (unS (rowS f)) (IntKind.i64.wrap (IntKind.i64.wrap (IntKind.i64.wrap ((IntKind.u64.wrap (IntKind.i64.wrap ((↑a : Int) + (↑b : Int)))).fdiv (2 : Int)) + (↑m : Int)) - (1 : Int))).toNat) ((↑m : Int).toNat - (↑a : Int).toNat) (↑a : Int).toNat (↑m : Int).toNat) : Int).toNat (↑(↑m : Int).toNat : Int).toNat (IntKind.i64.wrap ((↑(IntKind.i64.wrap (IntKind.i64.wrap ((IntKind.u64.wrap (IntKind.i64.wrap ((↑a : Int) + (↑b : Int)))).fdiv (2 : Int)) + (↑m : Int))).toNat : Int) - (↑(bsN (cutC compareD (unS (rowS f)) (IntKind.i64.wrap (IntKind.i64.wrap (IntKind.i64.wrap ((IntKind.u64.wrap (IntKind.i64.wrap ((↑a : Int) + (↑b : Int)))).fdiv (2 : Int)) + (↑m : Int)) - (1 : Int))).toNat) ((↑m : Int).toNat - (↑a : Int).toNat) (↑a : Int).toNat (↑m : Int).toNat) : Int))).toNat)))]) then
              some ((AV.tup [], [some (AObj.row 1 N (rowS (sortG compareD (unS (rowS (rotR (unS (rowS (unS (rowS f)))) (↑(bsN (cutC compareD (unS (rowS f)) (IntKind.i64.wrap (IntKind.i64.wrap (IntKind.i64.wrap ((IntKind.u64.wrap (IntKind.i64.wrap ((↑a : Int) + (↑b : Int)))).fdiv (2 : Int)) + (↑m : Int)) - (1 : Int))).toNat) ((↑m : Int).toNat - (↑a : Int).toNat) (↑a : Int).toNat (↑m : Int).toNat) : Int).toNat (↑(↑m : Int).toNat : Int).toNat (IntKind.i64.wrap ((↑(IntKind.i64.wrap (IntKind.i64.wrap ((IntKind.u64.wrap (IntKind.i64.wrap ((↑a : Int) + (↑b : Int)))).fdiv (2 : Int)) + (↑m : Int))).toNat : Int) - (↑(bsN (cutC compareD (unS (rowS f)) (IntKind.i64.wrap (IntKind.i64.wrap (IntKind.i64.wrap ((IntKind.u64.wrap (IntKind.i64.wrap ((↑a : Int) + (↑b : Int)))).fdiv (2 : Int)) + (↑m : Int)) - (1 : Int))).toNat) ((↑m : Int).toNat - (↑a : Int).toNat) (↑a : Int).toNat (↑m : Int).toNat) : Int))).toNat))) (↑(IntKind.i64.wrap ((IntKind.u64.wrap (IntKind.i64.wrap ((↑a : Int) + (↑b : Int)))).fdiv (2 : Int))).toNat : Int).toNat (↑(↑b : Int).toNat : Int).toNat)))]))
             else
              none
            else
             some ((AV.tup [], [some (AObj.row 1 N (rowS (rotR (unS (rowS (unS (rowS f)))) (↑(bsN (cutC compareD (unS (rowS f)) (IntKind.i64.wrap (IntKind.i64.wrap (IntKind.i64.wrap ((IntKind.u64.wrap (IntKind.i64.wrap ((↑a : Int) + (↑b : Int)))).fdiv (2 : Int)) + (↑m : Int)) - (1 : Int))).toNat) ((↑m : Int).toNat - (↑a : Int).toNat) (↑a : Int).toNat (↑m : Int).toNat) : Int).toNat (↑(↑m : Int).toNat : Int).toNat (IntKind.i64.wrap ((↑(IntKind.i64.wrap (IntKind.i64.wrap ((IntKind.u64.wrap (IntKind.i64.wrap ((↑a : Int) + (↑b : Int)))).fdiv (2 : Int)) + (↑m : Int))).toNat : Int) - (↑(bsN (cutC compareD (unS (rowS f)) (IntKind.i64.wrap (IntKind.i64.wrap (IntKind.i64.wrap ((IntKind.u64.wrap (IntKind.i64.wrap ((↑a : Int) + (↑b : Int)))).fdiv (2 : Int)) + (↑m : Int)) - (1 : Int))).toNat) ((↑m : Int).toNat - (↑a : Int).toNat) (↑a : Int).toNat (↑m : Int).toNat) : Int))).toNat)))]))
           else
            some ((AV.tup [], [some (AObj.row 1 N (rowS (rotR (unS (rowS (unS (rowS f)))) (↑(bsN (cutC compareD (unS (rowS f)) (IntKind.i64.wrap (IntKind.i64.wrap (IntKind.i64.wrap ((IntKind.u64.wrap (IntKind.i64.wrap ((↑a : Int) + (↑b : Int)))).fdiv (2 : Int)) + (↑m : Int)) - (1 : Int))).toNat) ((↑m : Int).toNat - (↑a : Int).toNat) (↑a : Int).toNat (↑m : Int).toNat) : Int).toNat (↑(↑m : Int).toNat : Int).toNat (IntKind.i64.wrap ((↑(IntKind.i64.wrap (IntKind.i64.wrap ((IntKind.u64.wrap (IntKind.i64.wrap ((↑a : Int) + (↑b : Int)))).fdiv (2 : Int)) + (↑m : Int))).toNat : Int) - (↑(bsN (cutC compareD (unS (rowS f)) (IntKind.i64.wrap (IntKind.i64.wrap (IntKind.i64.wrap ((IntKind.u64.wrap (IntKind.i64.wrap ((↑a : Int) + (↑b : Int)))).fdiv (2 : Int)) + (↑m : Int)) - (1 : Int))).toNat) ((↑m : Int).toNat - (↑a : Int).toNat) (↑a : Int).toNat (↑m : Int).toNat) : Int))).toNat)))]))
         else
          bif decide ((↑(IntKind.i64.wrap ((IntKind.u64.wrap (IntKind.i64.wrap ((↑a : Int) + (↑b : Int)))).fdiv (2 : Int))).toNat : Int) < IntKind.i64.wrap ((↑(IntKind.i64.wrap (IntKind.i64.wrap ((IntKind.u64.wrap (IntKind.i64.wrap ((↑a : Int) + (↑b : Int)))).fdiv (2 : Int)) + (↑m : Int))).toNat : Int) - (↑(bsN (cutC compareD (unS (rowS f)) (IntKind.i64.wrap (IntKind.i64.wrap (IntKind.i64.wrap ((IntKind.u64.wrap (IntKind.i64.wrap ((↑a : Int) + (↑b : Int)))).fdiv (2 : Int)) + (↑m : Int)) - (1 : Int))).toNat) ((↑m : Int).toNat - (↑a : Int).toNat) (↑a : Int).toNat (↑m : Int).toNat) : Int))) then
           bif decide (IntKind.i64.wrap ((↑(IntKind.i64.wrap (IntKind.i64.wrap ((IntKind.u64.wrap (IntKind.i64.wrap ((↑a : Int) + (↑b : Int)))).fdiv (2 : Int)) + (↑m : Int))).toNat : Int) - (↑(bsN (cutC compareD (unS (rowS f)) (IntKind.i64.wrap (IntKind.i64.wrap (IntKind.i64.wrap ((IntKind.u64.wrap (IntKind.i64.wrap ((↑a : Int) + (↑b : Int)))).fdiv (2 : Int)) + (↑m : Int)) - (1 : Int))).toNat) ((↑m : Int).toNat - (↑a : Int).toNat) (↑a : Int).toNat (↑m : Int).toNat) : Int)) < (↑(↑b : Int).toNat : Int)) then
            bif isEn en76 (p76 K) ([AV.row 0 1 0 N, AV.int IntKind.i64 (↑(IntKind.i64.wrap ((IntKind.u64.wrap (IntKind.i64.wrap ((↑a : Int) + (↑b : Int)))).fdiv (2 : Int))).toNat : Int), AV.int IntKind.i64 (IntKind.i64.wrap ((↑(IntKind.i64.wrap (IntKind.i64.wrap ((IntKind.u64.wrap (IntKind.i64.wrap ((↑a : Int) + (↑b : Int)))).fdiv (2 : Int)) + (↑m : Int))).toNat : Int) - (↑(bsN (cutC compareD (unS (rowS f)) (IntKind.i64.wrap (IntKind.i64.wrap (IntKind.i64.wrap ((IntKind.u64.wrap (IntKind.i64.wrap ((↑a : Int) + (↑b : Int)))).fdiv (2 : Int)) + (↑m : Int)) - (1 : Int))).toNat) ((↑m : Int).toNat - (↑a : Int).toNat) (↑a : Int).toNat (↑m : Int).toNat) : Int))), AV.int IntKind.i64 (↑(↑b : Int).toNat : Int), AV.fn 12 []], [some (AObj.row 1 N (rowS (rotR (unS (rowS (unS (rowS f)))) (↑(bsN (cutC compareD (unS (rowS f)) (IntKind.i64.wrap (IntKind.i64.wrap (IntKind.i64.wrap ((IntKind.u64.wrap (IntKind.i64.wrap ((↑a : Int) + (↑b : Int)))).fdiv (2 : Int)) + (↑m : Int)) - (1 : Int))).toNat) ((↑m : Int).toNat - (↑a : Int).toNat) (↑a : Int).toNat (↑m : Int).toNat) : Int).toNat (↑(↑m : Int).toNat : Int).toNat (IntKind.i64.wrap ((↑(IntKind.i64.wrap (IntKind.i64.wrap ((IntKind.u64.wrap (IntKind.i64.wrap ((↑a : Int) + (↑b : Int)))).fdiv (2 : Int)) + (↑m : Int))).toNat : Int) - (↑(bsN (cutC compareD (unS (rowS f)) (IntKind.i64.wrap (IntKind.i64.wrap (IntKind.i64.wrap ((IntKind.u64.wrap (IntKind.i64.wrap ((↑a : Int) + (↑b : Int)))).fdiv (2 : Int)) + (↑m : Int)) - (1 : Int))).toNat) ((↑m : Int).toNat - (↑a : Int).toNat) (↑a : Int).toNat (↑m : Int).toNat) : Int))).toNat)))]) then
             some ((AV.tup [], [some (AObj.row 1 N (rowS (sortG compareD (unS (rowS (rotR (unS (rowS (unS (rowS f)))) (↑(bsN (cutC compareD (unS (rowS f)) (IntKind.i64.wrap (IntKind.i64.wrap (IntKind.i64.wrap ((IntKind.u64.wrap (IntKind.i64.wrap ((↑a : Int) + (↑b : Int)))).fdiv (2 : Int)) + (↑m : Int)) - (1 : Int))).toNat) ((↑m : Int).toNat - (↑a : Int).toNat) (↑a : Int).toNat (↑m : Int).toNat) : Int).toNat (↑(↑m : Int).toNat : Int).toNat (IntKind.i64.wrap ((↑(IntKind.i64.wrap (IntKind.i64.wrap ((IntKind.u64.wrap (IntKind.i64.wrap ((↑a : Int) + (↑b : Int)))).fdiv (2 : Int)) + (↑m : Int))).toNat : Int) - (↑(bsN (cutC compareD (unS (rowS f)) (IntKind.i64.wrap (IntKind.i64.wrap (IntKind.i64.wrap ((IntKind.u64.wrap (IntKind.i64.wrap ((↑a : Int) + (↑b : Int)))).fdiv (2 : Int)) + (↑m : Int)) - (1 : Int))).toNat) ((↑m : Int).toNat - (↑a : Int).toNat) (↑a : Int).toNat (↑m : Int).toNat) : Int))).toNat))) (↑(IntKind.i64.wrap ((IntKind.u64.wrap (IntKind.i64.wrap ((↑a : Int) + (↑b : Int)))).fdiv (2 : Int))).toNat : Int).toNat (↑(↑b : Int).toNat : Int).toNat)))]))
            else
             none
           else
            some ((AV.tup [], [some (AObj.row 1 N (rowS (rotR (unS (rowS (unS (rowS f)))) (↑(bsN (cutC compareD (unS (rowS f)) (IntKind.i64.wrap (IntKind.i64.wrap (IntKind.i64.wrap ((IntKind.u64.wrap (IntKind.i64.wrap ((↑a : Int) + (↑b : Int)))).fdiv (2 : Int)) + (↑m : Int)) - (1 : Int))).toNat) ((↑m : Int).toNat - (↑a : Int).toNat) (↑a : Int).toNat (↑m : Int).toNat) : Int).toNat (↑(↑m : Int).toNat : Int).toNat (IntKind.i64.wrap ((↑(IntKind.i64.wrap (IntKind.i64.wrap ((IntKind.u64.wrap (IntKind.i64.wrap ((↑a : Int) + (↑b : Int)))).fdiv (2 : Int)) + (↑m : Int))).toNat : Int) - (↑(bsN (cutC compareD (unS (rowS f)) (IntKind.i64.wrap (IntKind.i64.wrap (IntKind.i64.wrap ((IntKind.u64.wrap (IntKind.i64.wrap ((↑a : Int) + (↑b : Int)))).fdiv (2 : Int)) + (↑m : Int)) - (1 : Int))).toNat) ((↑m : Int).toNat - (↑a : Int).toNat) (↑a : Int).toNat (↑m : Int).toNat) : Int))).toNat)))]))
          else
           some ((AV.tup [], [some (AObj.row 1 N (rowS (rotR (unS (rowS (unS (rowS f)))) (↑(bsN (cutC compareD (unS (rowS f)) (IntKind.i64.wrap (IntKind.i64.wrap (IntKind.i64.wrap ((IntKind.u64.wrap (IntKind.i64.wrap ((↑a : Int) + (↑b : Int)))).fdiv (2 : Int)) + (↑m : Int)) - (1 : Int))).toNat) ((↑m : Int).toNat - (↑a : Int).toNat) (↑a : Int).toNat (↑m : Int).toNat) : Int).toNat (↑(↑m : Int).toNat : Int).toNat (IntKind.i64.wrap ((↑(IntKind.i64.wrap (IntKind.i64.wrap ((IntKind.u64.wrap (IntKind.i64.wrap ((↑a : Int) + (↑b : Int)))).fdiv (2 : Int)) + (↑m : Int))).toNat : Int) - (↑(bsN (cutC compareD (unS (rowS f)) (IntKind.i64.wrap (IntKind.i64.wrap (IntKind.i64.wrap ((IntKind.u64.wrap (IntKind.i64.wrap ((↑a : Int) + (↑b : Int)))).fdiv (2 : Int)) + (↑m : Int)) - (1 : Int))).toNat) ((↑m : Int).toNat - (↑a : Int).toNat) (↑a : Int).toNat (↑m : Int).toNat) : Int))).toNat)))]))
        else
         none
       else
        bif decide ((↑(↑a : Int).toNat : Int) < (↑(bsN (cutC compareD (unS (rowS f)) (IntKind.i64.wrap (IntKind.i64.wrap (IntKind.i64.wrap ((IntKind.u64.wrap (IntKind.i64.wrap ((↑a : Int) + (↑b : Int)))).fdiv (2 : Int)) + (↑m : Int)) - (1 : Int))).toNat) ((↑m : Int).toNat - (↑a : Int).toNat) (↑a : Int).toNat (↑m : Int).toNat) : Int)) then
         bif decide ((↑(bsN (cutC compareD (unS (rowS f)) (IntKind.i64.wrap (IntKind.i64.wrap (IntKind.i64.wrap ((IntKind.u64.wrap (IntKind.i64.wrap ((↑a : Int) + (↑b : Int)))).fdiv (2 : Int)) + (↑m : Int)) - (1 : Int))).toNat) ((↑m : Int).toNat - (↑a : Int).toNat) (↑a : Int).toNat (↑m : Int).toNat) : Int) < (↑(IntKind.i64.wrap ((IntKind.u64.wrap (IntKind.i64.wrap ((↑a : Int) + (↑b : Int)))).fdiv (2 : Int))).toNat : Int)) then
          bif isEn en76 (p76 K) ([AV.row 0 1 0 N, AV.int IntKind.i64 (↑(↑a : Int).toNat : Int), AV.int IntKind.i64 (↑(bsN (cutC compareD (unS (rowS f)) (IntKind.i64.wrap (IntKind.i64.wrap (IntKind.i64.wrap ((IntKind.u64.wrap (IntKind.i64.wrap ((↑a : Int) + (↑b : Int)))).fdiv (2 : Int)) + (↑m : Int)) - (1 : Int))).toNat) ((↑m : Int).toNat - (↑a : Int).toNat) (↑a : Int).toNat (↑m : Int).toNat) : Int), AV.int IntKind.i64 (↑(IntKind.i64.wrap ((IntKind.u64.wrap (IntKind.i64.wrap ((↑a : Int) + (↑b : Int)))).fdiv (2 : Int))).toNat : Int), AV.fn 12 []], [some (AObj.row 1 N (rowS (unS (rowS f))))]) then
           bif decide ((↑(IntKind.i64.wrap ((IntKind.u64.wrap (IntKind.i64.wrap ((↑a : Int) + (↑b : Int)))).fdiv (2 : Int))).toNat : Int) < IntKind.i64.wrap ((↑(IntKind.i64.wrap (IntKind.i64.wrap ((IntKind.u64.wrap (IntKind.i64.wrap ((↑a : Int) + (↑b : Int)))).fdiv (2 : Int)) + (↑m : Int))).toNat : Int) - (↑(bsN (cutC compareD (unS (rowS f)) (IntKind.i64.wrap (IntKind.i64.wrap (IntKind.i64.wrap ((IntKind.u64.wrap (IntKind.i64.wrap ((↑a : Int) + (↑b : Int)))).fdiv (2 : Int)) + (↑m : Int)) - (1 : Int))).toNat) ((↑m : Int).toNat - (↑a : Int).toNat) (↑a : Int).toNat (↑m : Int).toNat) : Int))) then
            bif decide (IntKind.i64.wrap ((↑(IntKind.i64.wrap (IntKind.i64.wrap ((IntKind.u64.wrap (IntKind.i64.wrap ((↑a : Int) + (↑b : Int)))).fdiv (2 : Int)) + (↑m : Int))).toNat : Int) - (↑(bsN (cutC compareD (unS (rowS f)) (IntKind.i64.wrap (IntKind.i64.wrap (IntKind.i64.wrap ((IntKind.u64.wrap (IntKind.i64.wrap ((↑a : Int) + (↑b : Int)))).fdiv (2 : Int)) + (↑m : Int)) - (1 : Int))).toNat) ((↑m : Int).toNat - (↑a : Int).toNat) (↑a : Int).toNat (↑m : Int).toNat) : Int)) < (↑(↑b : Int).toNat : Int)) then
             bif isEn en76 (p76 K) ([AV.row 0 1 0 N, AV.int IntKind.i64 (↑(IntKind.i64.wrap ((IntKind.u64.wrap (IntKind.i64.wrap ((↑a : Int) + (↑b : Int)))).fdiv (2 : Int))).toNat : Int), AV.int IntKind.i64 (IntKind.i64.wrap ((↑(IntKind.i64.wrap (IntKind.i64.wrap ((IntKind.u64.wrap (IntKind.i64.wrap ((↑a : Int) + (↑b : Int)))).fdiv (2 : Int)) + (↑m : Int))).toNat : Int) - (↑(bsN (cutC compareD (unS (rowS f)) (IntKind.i64.wrap (IntKind.i64.wrap (IntKind.i64.wrap ((IntKind.u64.wrap (IntKind.i64.wrap ((↑a : Int) + (↑b : Int)))).fdiv (2 : Int)) + (↑m : Int)) - (1 : Int))).toNat) ((↑m : Int).toNat - (↑a : Int).toNat) (↑a : Int).toNat (↑m : Int).toNat) : Int))), AV.int IntKind.i64 (↑(↑b : Int).toNat : Int), AV.fn 12 []], [some (AObj.row 1 N (rowS (sortG compareD (unS (rowS (unS (rowS f)))) (↑(↑a : Int).toNat : Int).toNat (↑(IntKind.i64.wrap ((IntKind.u64.wrap (IntKind.i64.wrap ((↑a : Int) + (↑b : Int)))).fdiv (2 : Int))).toNat : Int).toNat)))]) then
              some ((AV.tup [], [some (AObj.row 1 N (rowS (sortG compareD (unS (rowS (sortG compareD (unS (rowS (unS (rowS f)))) (↑(↑a : Int).toNat : Int).toNat (↑(IntKind.i64.wrap ((IntKind.u64.wrap (IntKind.i64.wrap ((↑a : Int) + (↑b : Int)))).fdiv (2 : Int))).toNat : Int).toNat))) (↑(IntKind.i64.wrap ((IntKind.u64.wrap (IntKind.i64.wrap ((↑a : Int) + (↑b : Int)))).fdiv (2 : Int))).toNat : Int).toNat (↑(↑b : Int).toNat : Int).toNat)))]))
             else
              none
            else
             some ((AV.tup [], [some (AObj.row 1 N (rowS (sortG compareD (unS (rowS (unS (rowS f)))) (↑(↑a : Int).toNat : Int).toNat (↑(IntKind.i64.wrap ((IntKind.u64.wrap (IntKind.i64.wrap ((↑a : Int) + (↑b : Int)))).fdiv (2 : Int))).toNat : Int).toNat)))]))
           else
            some ((AV.tup [], [some (AObj.row 1 N (rowS (sortG compareD (unS (rowS (unS (rowS f)))) (↑(↑a : Int).toNat : Int).toNat (↑(IntKind.i64.wrap ((IntKind.u64.wrap (IntKind.i64.wrap ((↑a : Int) + (↑b : Int)))).fdiv (2 : Int))).toNat : Int).toNat)))]))
          else
           none
         else
          bif decide ((↑(IntKind.i64.wrap ((IntKind.u64.wrap (IntKind.i64.wrap ((↑a : Int) + (↑b : Int)))).fdiv (2 : Int))).toNat : Int) < IntKind.i64.wrap ((↑(IntKind.i64.wrap (IntKind.i64.wrap ((IntKind.u64.wrap (IntKind.i64.wrap ((↑a : Int) + (↑b : Int)))).fdiv (2 : Int)) + (↑m : Int))).toNat : Int) - (↑(bsN (cutC compareD (unS (rowS f)) (IntKind.i64.wrap (IntKind.i64.wrap (IntKind.i64.wrap ((IntKind.u64.wrap (IntKind.i64.wrap ((↑a : Int) + (↑b : Int)))).fdiv (2 : Int)) + (↑m : Int)) - (1 : Int))).toNat) ((↑m : Int).toNat - (↑a : Int).toNat) (↑a : Int).toNat (↑m : Int).toNat) : Int))) then
           bif decide (IntKind.i64.wrap ((↑(IntKind.i64.wrap (IntKind.i64.wrap ((IntKind.u64.wrap (IntKind.i64.wrap ((↑a : Int) + (↑b : Int)))).fdiv (2 : Int)) + (↑m : Int))).toNat : Int) - (↑(bsN (cutC compareD (unS (rowS f)) (IntKind.i64.wrap (IntKind.i64.wrap (IntKind.i64.wrap ((IntKind.u64.wrap (IntKind.i64.wrap ((↑a : Int) + (↑b : Int)))).fdiv (2 : Int)) + (↑m : Int)) - (1 : Int))).toNat) ((↑m : Int).toNat - (↑a : Int).toNat) (↑a : Int).toNat (↑m : Int).toNat) : Int)) < (↑(↑b : Int).toNat : Int)) then
            bif isEn en76 (p76 K) ([AV.row 0 1 0 N, AV.int IntKind.i64 (↑(IntKind.i64.wrap ((IntKind.u64.wrap (IntKind.i64.wrap ((↑a : Int) + (↑b : Int)))).fdiv (2 : Int))).toNat : Int), AV.int IntKind.i64 (IntKind.i64.wrap ((↑(IntKind.i64.wrap (IntKind.i64.wrap ((IntKind.u64.wrap (IntKind.i64.wrap ((↑a : Int) + (↑b : Int)))).fdiv (2 : Int)) + (↑m : Int))).toNat : Int) - (↑(bsN (cutC compareD (unS (rowS f)) (IntKind.i64.wrap (IntKind.i64.wrap (IntKind.i64.wrap ((IntKind.u64.wrap (IntKind.i64.wrap ((↑a : Int) + (↑b : Int)))).fdiv (2 : Int)) + (↑m : Int)) - (1 : Int))).toNat) ((↑m : Int).toNat - (↑a : Int).toNat) (↑a : Int).toNat (↑m : Int).toNat) : Int))), AV.int IntKind.i64 (↑(↑b : Int).toNat : Int), AV.fn 12 []], [some (AObj.row 1 N (rowS (unS (rowS f))))]) then
             some ((AV.tup [], [some (AObj.row 1 N (rowS (sortG compareD (unS (rowS (unS (rowS f)))) (↑(IntKind.i64.wrap ((IntKind.u64.wrap (IntKind.i64.wrap ((↑a : Int) + (↑b : Int)))).fdiv (2 : Int))).toNat : Int).toNat (↑(↑b : Int).toNat : Int).toNat)))]))
            else
             none
           else
            some ((AV.tup [], [some (AObj.row 1 N (rowS (unS (rowS f))))]))
          else
           some ((AV.tup [], [some (AObj.row 1 N (rowS (unS (rowS f))))]))
        else
         bif decide ((↑(IntKind.i64.wrap ((IntKind.u64.wrap (IntKind.i64.wrap ((↑a : Int) + (↑b : Int)))).fdiv (2 : Int))).toNat : Int) < IntKind.i64.wrap ((↑(IntKind.i64.wrap (IntKind.i64.wrap ((IntKind.u64.wrap (IntKind.i64.wrap ((↑a : Int) + (↑b : Int)))).fdiv (2 : Int)) + (↑m : Int))).toNat : Int) - (↑(bsN (cutC compareD (unS (rowS f)) (IntKind.i64.wrap (IntKind.i64.wrap (IntKind.i64.wrap ((IntKind.u64.wrap (IntKind.i64.wrap ((↑a : Int) + (↑b : Int)))).fdiv (2 : Int)) + (↑m : Int)) - (1 : Int))).toNat) ((↑m : Int).toNat - (↑a : Int).toNat) (↑a : Int).toNat (↑m : Int).toNat) : Int))) then
          bif decide (IntKind.i64.wrap ((↑(IntKind.i64.wrap (IntKind.i64.wrap ((IntKind.u64.wrap (IntKind.i64.wrap ((↑a : Int) + (↑b : Int)))).fdiv (2 : Int)) + (↑m : Int))).toNat : Int) - (↑(bsN (cutC compareD (unS (rowS f)) (IntKind.i64.wrap (IntKind.i64.wrap (IntKind.i64.wrap ((IntKind.u64.wrap (IntKind.i64.wrap ((↑a : Int) + (↑b : Int)))).fdiv (2 : Int)) + (↑m : Int)) - (1 : Int))).toNat) ((↑m : Int).toNat - (↑a : Int).toNat) (↑a : Int).toNat (↑m : Int).toNat) : Int)) < (↑(↑b : Int).toNat : Int)) then
           bif isEn en76 (p76 K) ([AV.row 0 1 0 N, AV.int IntKind.i64 (↑(IntKind.i64.wrap ((IntKind.u64.wrap (IntKind.i64.wrap ((↑a : Int) + (↑b : Int)))).fdiv (2 : Int))).toNat : Int), AV.int IntKind.i64 (IntKind.i64.wrap ((↑(IntKind.i64.wrap (IntKind.i64.wrap ((IntKind.u64.wrap (IntKind.i64.wrap ((↑a : Int) + (↑b : Int)))).fdiv (2 : Int)) + (↑m : Int))).toNat : Int) - (↑(bsN (cutC compareD (unS (rowS f)) (IntKind.i64.wrap (IntKind.i64.wrap (IntKind.i64.wrap ((IntKind.u64.wrap (IntKind.i64.wrap ((↑a : Int) + (↑b : Int)))).fdiv (2 : Int)) + (↑m : Int)) - (1 : Int))).toNat) ((↑m : Int).toNat - (↑a : Int).toNat) (↑a : Int).toNat (↑m : Int).toNat) : Int))), AV.int IntKind.i64 (↑(↑b : Int).toNat : Int), AV.fn 12 []], [some (AObj.row 1 N (rowS (unS (rowS f))))]) then
            some ((AV.tup [], [some (AObj.row 1 N (rowS (sortG compareD (unS (rowS (unS (rowS f)))) (↑(IntKind.i64.wrap ((IntKind.u64.wrap (IntKind.i64.wrap ((↑a : Int) + (↑b : Int)))).fdiv (2 : Int))).toNat : Int).toNat (↑(↑b : Int).toNat : Int).toNat)))]))
           else
            none
          else
           some ((AV.tup [], [some (AObj.row 1 N (rowS (unS (rowS f))))]))
         else
          some ((AV.tup [], [some (AObj.row 1 N (rowS (unS (rowS f))))]))
      else
       bif decide ((↑(↑a : Int).toNat : Int) < (↑(bsN (cutC compareD (unS (rowS f)) (IntKind.i64.wrap (IntKind.i64.wrap (IntKind.i64.wrap ((IntKind.u64.wrap (IntKind.i64.wrap ((↑a : Int) + (↑b : Int)))).fdiv (2 : Int)) + (↑m : Int)) - (1 : Int))).toNat) ((↑m : Int).toNat - (↑a : Int).toNat) (↑a : Int).toNat (↑m : Int).toNat) : Int)) then
        bif decide ((↑(bsN (cutC compareD (unS (rowS f)) (IntKind.i64.wrap (IntKind.i64.wrap (IntKind.i64.wrap ((IntKind.u64.wrap (IntKind.i64.wrap ((↑a : Int) + (↑b : Int)))).fdiv (2 : Int)) + (↑m : Int)) - (1 : Int))).toNat) ((↑m : Int).toNat - (↑a : Int).toNat) (↑a : Int).toNat (↑m : Int).toNat) : Int) < (↑(IntKind.i64.wrap ((IntKind.u64.wrap (IntKind.i64.wrap ((↑a : Int) + (↑b : Int)))).fdiv (2 : Int))).toNat : Int)) then
         bif isEn en76 (p76 K) ([AV.row 0 1 0 N, AV.int IntKind.i64 (↑(↑a : Int).toNat : Int), AV.int IntKind.i64 (↑(bsN (cutC compareD (unS (rowS f)) (IntKind.i64.wrap (IntKind.i64.wrap (IntKind.i64.wrap ((IntKind.u64.wrap (IntKind.i64.wrap ((↑a : Int) + (↑b : Int)))).fdiv (2 : Int)) + (↑m : Int)) - (1 : Int))).toNat) ((↑m : Int).toNat - (↑a : Int).toNat) (↑a : Int).toNat (↑m : Int).toNat) : Int), AV.int IntKind.i64 (↑(IntKind.i64.wrap ((IntKind.u64.wrap (IntKind.i64.wrap ((↑a : Int) + (↑b : Int)))).fdiv (2 : Int))).toNat : Int), AV.fn 12 []], [some (AObj.row 1 N (rowS (unS (rowS f))))]) then
          bif decide ((↑(IntKind.i64.wrap ((IntKind.u64.wrap (IntKind.i64.wrap ((↑a : Int) + (↑b : Int)))).fdiv (2 : Int))).toNat : Int) < IntKind.i64.wrap ((↑(IntKind.i64.wrap (IntKind.i64.wrap ((IntKind.u64.wrap (IntKind.i64.wrap ((↑a : Int) + (↑b : Int)))).fdiv (2 : Int)) + (↑m : Int))).toNat : Int) - (↑(bsN (cutC compareD (unS (rowS f)) (IntKind.i64.wrap (IntKind.i64.wrap (IntKind.i64.wrap ((IntKind.u64.wrap (IntKind.i64.wrap ((↑a : Int) + (↑b : Int)))).fdiv (2 : Int)) + (↑m : Int)) - (1 : Int))).toNat) ((↑m : Int).toNat - (↑a : Int).toNat) (↑a : Int).toNat (↑m : Int).toNat) : Int))) then
           bif decide (IntKind.i64.wrap ((↑(IntKind.i64.wrap (IntKind.i64.wrap ((IntKind.u64.wrap (IntKind.i64.wrap ((↑a : Int) + (↑b : Int)))).fdiv (2 : Int)) + (↑m : Int))).toNat : Int) - (↑(bsN (cutC compareD (unS (rowS f)) (IntKind.i64.wrap (IntKind.i64.wrap (IntKind.i64.wrap ((IntKind.u64.wrap (IntKind.i64.wrap ((↑a : Int) + (↑b : Int)))).fdiv (2 : Int)) + (↑m : Int)) - (1 : Int))).toNat) ((↑m : Int).toNat - (↑a : Int).toNat) (↑a : Int).toNat (↑m : Int).toNat) : Int)) < (↑(↑b : Int).toNat : Int)) then
            bif isEn en76 (p76 K) ([AV.row 0 1 0 N, AV.int IntKind.i64 (↑(IntKind.i64.wrap ((IntKind.u64.wrap (IntKind.i64.wrap ((↑a : Int) + (↑b : Int)))).fdiv (2 : Int))).toNat : Int), AV.int IntKind.i64 (IntKind.i64.wrap ((↑(IntKind.i64.wrap (IntKind.i64.wrap ((IntKind.u64.wrap (IntKind.i64.wrap ((↑a : Int) + (↑b : Int)))).fdiv (2 : Int)) + (↑m : Int))).toNat : Int) - (↑(bsN (cutC compareD (unS (rowS f)) (IntKind.i64.wrap (IntKind.i64.wrap (IntKind.i64.wrap ((IntKind.u64.wrap (IntKind.i64.wrap ((↑a : Int) + (↑b : Int)))).fdiv (2 : Int)) + (↑m : Int)) - (1 : Int))).toNat) ((↑m : Int).toNat - (↑a : Int).toNat) (↑a : Int).toNat (↑m : Int).toNat) : Int))), AV.int IntKind.i64 (↑(↑b : Int).toNat : Int), AV.fn 12 []], [some (AObj.row 1 N (rowS (sortG compareD (unS (rowS (unS (rowS f)))) (↑(↑a : Int).toNat : Int).toNat (↑(IntKind.i64.wrap ((IntKind.u64.wrap (IntKind.i64.wrap ((↑a : Int) + (↑b : Int)))).fdiv (2 : Int))).toNat : Int).toNat)))]) then
             some ((AV.tup [], [some (AObj.row 1 N (rowS (sortG compareD (unS (rowS (sortG compareD (unS (rowS (unS (rowS f)))) (↑(↑a : Int).toNat : Int).toNat (↑(IntKind.i64.wrap ((IntKind.u64.wrap (IntKind.i64.wrap ((↑a : Int) + (↑b : Int)))).fdiv (2 : Int))).toNat : Int).toNat))) (↑(IntKind.i64.wrap ((IntKind.u64.wrap (IntKind.i64.wrap ((↑a : Int) + (↑b : Int)))).fdiv (2 : Int))).toNat : Int).toNat (↑(↑b : Int).toNat : Int).toNat)))]))
            else
             none
           else
            some ((AV.tup [], [some (AObj.row 1 N (rowS (sortG compareD (unS (rowS (unS (rowS f)))) (↑(↑a : Int).toNat : Int).toNat (↑(IntKind.i64.wrap ((IntKind.u64.wrap (IntKind.i64.wrap ((↑a : Int) + (↑b : Int)))).fdiv (2 : Int))).toNat : Int).toNat)))]))
          else
           some ((AV.tup [], [some (AObj.row 1 N (rowS (sortG compareD (unS (rowS (unS (rowS f)))) (↑(↑a : Int).toNat : Int).toNat (↑(IntKind.i64.wrap ((IntKind.u64.wrap (IntKind.i64.wrap ((↑a : Int) + (↑b : Int)))).fdiv (2 : Int))).toNat : Int).toNat)))]))
         else
          none
        else
         bif decide ((↑(IntKind.i64.wrap ((IntKind.u64.wrap (IntKind.i64.wrap ((↑a : Int) + (↑b : Int)))).fdiv (2 : Int))).toNat : Int) < IntKind.i64.wrap ((↑(IntKind.i64.wrap (IntKind.i64.wrap ((IntKind.u64.wrap (IntKind.i64.wrap ((↑a : Int) + (↑b : Int)))).fdiv (2 : Int)) + (↑m : Int))).toNat : Int) - (↑(bsN (cutC compareD (unS (rowS f)) (IntKind.i64.wrap (IntKind.i64.wrap (IntKind.i64.wrap ((IntKind.u64.wrap (IntKind.i64.wrap ((↑a : Int) + (↑b : Int)))).fdiv (2 : Int)) + (↑m : Int)) - (1 : Int))).toNat) ((↑m : Int).toNat - (↑a : Int).toNat) (↑a : Int).toNat (↑m : Int).toNat) : Int))) then
          bif decide (IntKind.i64.wrap ((↑(IntKind.i64.wrap (IntKind.i64.wrap ((IntKind.u64.wrap (IntKind.i64.wrap ((↑a : Int) + (↑b : Int)))).fdiv (2 : Int)) + (↑m : Int))).toNat : Int) - (↑(bsN (cutC compareD (unS (rowS f)) (IntKind.i64.wrap (IntKind.i64.wrap (IntKind.i64.wrap ((IntKind.u64.wrap (IntKind.i64.wrap ((↑a : Int) + (↑b : Int)))).fdiv (2 : Int)) + (↑m : Int)) - (1 : Int))).toNat) ((↑m : Int).toNat - (↑a : Int).toNat) (↑a : Int).toNat (↑m : Int).toNat) : Int)) < (↑(↑b : Int).toNat : Int)) then
           bif isEn en76 (p76 K) ([AV.row 0 1 0 N, AV.int IntKind.i64 (↑(IntKind.i64.wrap ((IntKind.u64.wrap (IntKind.i64.wrap ((↑a : Int) + (↑b : Int)))).fdiv (2 : Int))).toNat : Int), AV.int IntKind.i64 (IntKind.i64.wrap ((↑(IntKind.i64.wrap (IntKind.i64.wrap ((IntKind.u64.wrap (IntKind.i64.wrap ((↑a : Int) + (↑b : Int)))).fdiv (2 : Int)) + (↑m : Int))).toNat : Int) - (↑(bsN (cutC compareD (unS (rowS f)) (IntKind.i64.wrap (IntKind.i64.wrap (IntKind.i64.wrap ((IntKind.u64.wrap (IntKind.i64.wrap ((↑a : Int) + (↑b : Int)))).fdiv (2 : Int)) + (↑m : Int)) - (1 : Int))).toNat) ((↑m : Int).toNat - (↑a : Int).toNat) (↑a : Int).toNat (↑m : Int).toNat) : Int))), AV.int IntKind.i64 (↑(↑b : Int).toNat : Int), AV.fn 12 []], [some (AObj.row 1 N (rowS (unS (rowS f))))]) then
            some ((AV.tup [], [some (AObj.row 1 N (rowS (sortG compareD (unS (rowS (unS (rowS f)))) (↑(IntKind.i64.wrap ((IntKind.u64.wrap (IntKind.i64.wrap ((↑a : Int) + (↑b : Int)))).fdiv (2 : Int))).toNat : Int).toNat (↑(↑b : Int).toNat : Int).toNat)))]))
           else
            none
          else
           some ((AV.tup [], [some (AObj.row 1 N (rowS (unS (rowS f))))]))
         else
          some ((AV.tup [], [some (AObj.row 1 N (rowS (unS (rowS f))))]))
       else
        bif decide ((↑(IntKind.i64.wrap ((IntKind.u64.wrap (IntKind.i64.wrap ((↑a : Int) + (↑b : Int)))).fdiv (2 : Int))).toNat : Int) < IntKind.i64.wrap ((↑(IntKind.i64.wrap (IntKind.i64.wrap ((IntKind.u64.wrap (IntKind.i64.wrap ((↑a : Int) + (↑b : Int)))).fdiv (2 : Int)) + (↑m : Int))).toNat : Int) - (↑(bsN (cutC compareD (unS (rowS f)) (IntKind.i64.wrap (IntKind.i64.wrap (IntKind.i64.wrap ((IntKind.u64.wrap (IntKind.i64.wrap ((↑a : Int) + (↑b : Int)))).fdiv (2 : Int)) + (↑m : Int)) - (1 : Int))).toNat) ((↑m : Int).toNat - (↑a : Int).toNat) (↑a : Int).toNat (↑m : Int).toNat) : Int))) then
         bif decide (IntKind.i64.wrap ((↑(IntKind.i64.wrap (IntKind.i64.wrap ((IntKind.u64.wrap (IntKind.i64.wrap ((↑a : Int) + (↑b : Int)))).fdiv (2 : Int)) + (↑m : Int))).toNat : Int) - (↑(bsN (cutC compareD (unS (rowS f)) (IntKind.i64.wrap (IntKind.i64.wrap (IntKind.i64.wrap ((IntKind.u64.wrap (IntKind.i64.wrap ((↑a : Int) + (↑b : Int)))).fdiv (2 : Int)) + (↑m : Int)) - (1 : Int))).toNat) ((↑m : Int).toNat - (↑a : Int).toNat) (↑a : Int).toNat (↑m : Int).toNat) : Int)) < (↑(↑b : Int).toNat : Int)) then
          bif isEn en76 (p76 K) ([AV.row 0 1 0 N, AV.int IntKind.i64 (↑(IntKind.i64.wrap ((IntKind.u64.wrap (IntKind.i64.wrap ((↑a : Int) + (↑b : Int)))).fdiv (2 : Int))).toNat : Int), AV.int IntKind.i64 (IntKind.i64.wrap ((↑(IntKind.i64.wrap (IntKind.i64.wrap ((IntKind.u64.wrap (IntKind.i64.wrap ((↑a : Int) + (↑b : Int)))).fdiv (2 : Int)) + (↑m : Int))).toNat : Int) - (↑(bsN (cutC compareD (unS (rowS f)) (IntKind.i64.wrap (IntKind.i64.wrap (IntKind.i64.wrap ((IntKind.u64.wrap (IntKind.i64.wrap ((↑a : Int) + (↑b : Int)))).fdiv (2 : Int)) + (↑m : Int)) - (1 : Int))).toNat) ((↑m : Int).toNat - (↑a : Int).toNat) (↑a : Int).toNat (↑m : Int).toNat) : Int))), AV.int IntKind.i64 (↑(↑b : Int).toNat : Int), AV.fn 12 []], [some (AObj.row 1 N (rowS (unS (rowS f))))]) then
           some ((AV.tup [], [some (AObj.row 1 N (rowS (sortG compareD (unS (rowS (unS (rowS f)))) (↑(IntKind.i64.wrap ((IntKind.u64.wrap (IntKind.i64.wrap ((↑a : Int) + (↑b : Int)))).fdiv (2 : Int))).toNat : Int).toNat (↑(↑b : Int).toNat : Int).toNat)))]))
          else
           none
         else
          some ((AV.tup [], [some (AObj.row 1 N (rowS (unS (rowS f))))]))
        else
         some ((AV.tup [], [some (AObj.row 1 N (rowS (unS (rowS f))))]))
     else
      none := by kernel_rfl

end Go.Deb
namespace Go.Deb
open Go Go.Proofs Go.Ab
set_option maxRecDepth 100000
set_option linter.unusedVariables false
set_option linter.unusedSimpArgs false

/-! ### symMerge: both halves sorted, the whole is sorted -/
set_option maxHeartbeats 1000000 in
theorem sym_step (K N : Nat) (f : Nat → List UInt8) (a m b : Nat) (hp : p76 (K + 1) ⟨N, f, a, m, b⟩) :
    (evn (tabD4 K) h76 LE76 76 [.row 0 1 0 N, .int .i64 a, .int .i64 m, .int .i64 b, .fn 12 []] [some (.row 1 N (rowS f))]).run = some (.tup [], [some (.row 1 N (rowS (sortG compareD f a b)))]) := by
  obtain ⟨h1, h2, h3, h4, h5, h6, h7⟩ := hp
  have ht := t76 K N f a m b
  have hmid := shr_mid (i := a) (j := b) (by omega)
  have hwn := w64a (a := (a + b) / 2) (b := m) (by omega)
  have hw1 : IntKind.i64.wrap ((((a + b) / 2 + m : Nat) : Int) - 1) = (((a + b) / 2 + m - 1 : Nat) : Int) := by rw [w64 (by omega) (by omega)]; omega
  simp only [hmid, hwn, hw1, w64s (a := m) (b := a) (by omega) (by omega), w64s (a := b) (b := m) (by omega) (by omega), Int.toNat_natCast, unS_rowS] at ht
  rw [ht]
  clear ht
  by_cases c1 : m - a = 1
  · have hm : m = a + 1 := by omega
    subst hm
    rw [cond_chk (show (((a + 1 - a : Nat) : Int) == 1) = true by simp [c1]), kL76 N f a (a + 1) b ⟨by omega, h3, by omega, h4⟩, cond_true]
    have hb := bsN_ok (C := CA f a) (b - (a + 1)) (a + 1) b (Nat.le_refl _) (by omega) (by
      intro c c' q1 q2 q3 hc
      unfold CA at hc ⊢
      rw [decide_eq_true_eq] at hc ⊢
      by_cases e : c = c'
      · subst e; exact hc
      · exact cmpX_ord.lt_of' (srt_seg.1 h7 c c' q1 (by omega) q3) hc)
    rw [kL76_1 N f (bsN (CA f a) (b - (a + 1)) (a + 1) b) a ⟨hb.1, by omega, h4⟩, cond_true]
    rw [ins_front cmpX_ord (show a + 1 < b by omega) h7]
    rfl
  · rw [cond_no (show (((m - a : Nat) : Int) == 1) = false by simp; omega)]
    by_cases c2 : b - m = 1
    · have hb : b = m + 1 := by omega
      subst hb
      rw [cond_chk (show (((m + 1 - m : Nat) : Int) == 1) = true by simp), kL76_2 N f m a m ⟨by omega, by omega, by omega, h4⟩, cond_true]
      have hb := bsN_ok (C := CB f m) (m - a) a m (Nat.le_refl _) (by omega) (by
        intro c c' q1 q2 q3 hc
        unfold CB at hc ⊢
        rw [Bool.not_eq_true', decide_eq_false_iff_not] at hc ⊢
        intro hx
        by_cases e : c = c'
        · subst e; exact hc hx
        · exact hc (cmpX_ord.lt_of hx (srt_seg.1 h6 c c' q1 (by omega) q3)))
      rw [kL76_3 N f (bsN (CB f m) (m - a) a m) m ⟨hb.2.1, by omega, h4⟩, cond_true]
      rw [ins_back cmpX_ord (show a < m by omega) h6]
      rfl
    · rw [cond_no (show (((b - m : Nat) : Int) == 1) = false by simp; omega)]
      -- behind the search both ways go on alike
      have lo1 := cut_of cmpX_ord (f := f) (lo := (a + b) / 2 + m - b) (hi := (a + b) / 2) h1 h2 h6 h7
      have lo2 := cut_of cmpX_ord (f := f) (lo := a) (hi := m) h1 h2 h6 h7
      have mc := fun S => merge_cut cmpX_ord (f := f) (s := S) (Nat.le_of_lt h1) (Nat.le_of_lt h2) h6 h7
      by_cases c3 : m > (a + b) / 2
      · have lo1 := lo1 (.inl ⟨c3, rfl, rfl⟩)
        rw [decide_eq_true (show ((m : Nat) : Int) > (((a + b) / 2 : Nat) : Int) by omega), cond_true]
        simp only [w64s (a := (a + b) / 2 + m) (b := b) (by omega) (by omega), Int.toNat_natCast]
        rw [kL76_4 N f a m b ((a + b) / 2) ((a + b) / 2 + m) ((a + b) / 2 + m - b) ((a + b) / 2) ((a + b) / 2 + m - 1) ⟨by omega, by omega, by omega, by omega, h4⟩, cond_true]
        generalize hS : bsN (cutC compareD f ((a + b) / 2 + m - 1)) ((a + b) / 2 - ((a + b) / 2 + m - b)) ((a + b) / 2 + m - b) ((a + b) / 2) = S at lo1 ⊢
        have hc := mc S lo1
        have d := lo1
        obtain ⟨d1, d2, d3, d4, d5, d6, d7⟩ := d
        have hwe : IntKind.i64.wrap ((((a + b) / 2 + m : Nat) : Int) - (S : Int)) = (((a + b) / 2 + m - S : Nat) : Int) := w64s (by omega) (by omega)
        simp only [hwe, Int.toNat_natCast, unS_rowS]
        obtain ⟨g1, g2, g3, g4, g5, g6⟩ := cut_facts (mid := (a + b) / 2) (e := (a + b) / 2 + m - S) rfl rfl h1 h2 h6 h7 lo1
        clear lo1 lo2 mc d6 d7 hwe hmid hwn hw1
        generalize hmd : (a + b) / 2 = mid at *
        generalize he : mid + m - S = e at *
        rw [← hc]
        have hrot : ¬ (S < m ∧ m < e) → rotR f S m e = f := fun q => rotR_same (by omega) d2 d4
        have hl : ¬ (a < S ∧ S < mid) → sortG compareD (rotR f S m e) a mid = rotR f S m e := fun q => sortG_id cmpX_ord (g5 (by omega))
        have hr : ¬ (mid < e ∧ e < b) → sortG compareD (sortG compareD (rotR f S m e) a mid) mid b = sortG compareD (rotR f S m e) a mid := fun q => sortG_id cmpX_ord (by rw [sortG_seg cmpX_ord (Nat.le_refl _)]; exact g6 (by omega))
        have r81 : S < m ∧ m < e → isEn en81 p81 ([AV.row 0 1 0 N, AV.int IntKind.i64 (S : Nat), AV.int IntKind.i64 (m : Nat), AV.int IntKind.i64 (e : Nat), AV.fn 12 []], [some (AObj.row 1 N (rowS f))]) = true := fun q => k81 N f S m e ⟨q.1, q.2, by omega, by simp only [bnd]; omega⟩
        have r1 : a < S ∧ S < mid → isEn en76 (p76 K) ([AV.row 0 1 0 N, AV.int IntKind.i64 (a : Nat), AV.int IntKind.i64 (S : Nat), AV.int IntKind.i64 (mid : Nat), AV.fn 12 []], [some (AObj.row 1 N (rowS (rotR f S m e)))]) = true := fun q => k76 K N _ a S mid ⟨q.1, q.2, by omega, h4, by omega, g1, g2⟩
        have r2 : mid < e ∧ e < b → isEn en76 (p76 K) ([AV.row 0 1 0 N, AV.int IntKind.i64 (mid : Nat), AV.int IntKind.i64 (e : Nat), AV.int IntKind.i64 (b : Nat), AV.fn 12 []], [some (AObj.row 1 N (rowS (sortG compareD (rotR f S m e) a mid)))]) = true := fun q => k76 K N _ mid e b ⟨q.1, q.2, h3, h4, by omega, by rw [sortG_seg cmpX_ord (Nat.le_refl _)]; exact g3, by rw [sortG_seg cmpX_ord (by omega)]; exact g4⟩
        generalize hG : rotR f S m e = g at *
        have hz : ∀ x y : Nat, decide ((x : Int) < (y : Int)) = decide (x < y) := fun x y => by rw [decide_eq_decide]; omega
        simp only [hz]
        by_cases b1 : S < m
        · by_cases b2 : m < e
          · simp only [decide_eq_true b1, decide_eq_true b2, cond_true, r81 ⟨b1, b2⟩]
            by_cases b3 : a < S
            · by_cases b4 : S < mid
              · simp only [decide_eq_true b3, decide_eq_true b4, cond_true, r1 ⟨b3, b4⟩]
                by_cases b5 : mid < e
                · by_cases b6 : e < b
                  · simp only [decide_eq_true b5, decide_eq_true b6, cond_true, r2 ⟨b5, b6⟩]
                  · simp only [decide_eq_true b5, decide_eq_false b6, cond_true, cond_false, hr (fun q => b6 q.2)]
                · simp only [decide_eq_false b5, cond_false, hr (fun q => b5 q.1)]
              · have hl' := hl (fun q => b4 q.2)
                rw [hl'] at r2 hr ⊢
                simp only [decide_eq_true b3, decide_eq_false b4, cond_true, cond_false]
                by_cases b5 : mid < e
                · by_cases b6 : e < b
                  · simp only [decide_eq_true b5, decide_eq_true b6, cond_true, r2 ⟨b5, b6⟩]
                  · simp only [decide_eq_true b5, decide_eq_false b6, cond_true, cond_false, hr (fun q => b6 q.2)]
                · simp only [decide_eq_false b5, cond_false, hr (fun q => b5 q.1)]
            · have hl' := hl (fun q => b3 q.1)
              rw [hl'] at r2 hr ⊢
              simp only [decide_eq_false b3, cond_false]
              by_cases b5 : mid < e
              · by_cases b6 : e < b
                · simp only [decide_eq_true b5, decide_eq_true b6, cond_true, r2 ⟨b5, b6⟩]
                · simp only [decide_eq_true b5, decide_eq_false b6, cond_true, cond_false, hr (fun q => b6 q.2)]
              · simp only [decide_eq_false b5, cond_false, hr (fun q => b5 q.1)]
          · have hg := hrot (fun q => b2 q.2)
            subst hg
            simp only [decide_eq_true b1, decide_eq_false b2, cond_true, cond_false]
            by_cases b3 : a < S
            · by_cases b4 : S < mid
              · simp only [decide_eq_true b3, decide_eq_true b4, cond_true, r1 ⟨b3, b4⟩]
                by_cases b5 : mid < e
                · by_cases b6 : e < b
                  · simp only [decide_eq_true b5, decide_eq_true b6, cond_true, r2 ⟨b5, b6⟩]
                  · simp only [decide_eq_true b5, decide_eq_false b6, cond_true, cond_false, hr (fun q => b6 q.2)]
                · simp only [decide_eq_false b5, cond_false, hr (fun q => b5 q.1)]
              · have hl' := hl (fun q => b4 q.2)
                rw [hl'] at r2 hr ⊢
                simp only [decide_eq_true b3, decide_eq_false b4, cond_true, cond_false]
                by_cases b5 : mid < e
                · by_cases b6 : e < b
                  · simp only [decide_eq_true b5, decide_eq_true b6, cond_true, r2 ⟨b5, b6⟩]
                  · simp only [decide_eq_true b5, decide_eq_false b6, cond_true, cond_false, hr (fun q => b6 q.2)]
                · simp only [decide_eq_false b5, cond_false, hr (fun q => b5 q.1)]
            · have hl' := hl (fun q => b3 q.1)
              rw [hl'] at r2 hr ⊢
              simp only [decide_eq_false b3, cond_false]
              by_cases b5 : mid < e
              · by_cases b6 : e < b
                · simp only [decide_eq_true b5, decide_eq_true b6, cond_true, r2 ⟨b5, b6⟩]
                · simp only [decide_eq_true b5, decide_eq_false b6, cond_true, cond_false, hr (fun q => b6 q.2)]
              · simp only [decide_eq_false b5, cond_false, hr (fun q => b5 q.1)]
        · have hg := hrot (fun q => b1 q.1)
          subst hg
          simp only [decide_eq_false b1, cond_false]
          by_cases b3 : a < S
          · by_cases b4 : S < mid
            · simp only [decide_eq_true b3, decide_eq_true b4, cond_true, r1 ⟨b3, b4⟩]
              by_cases b5 : mid < e
              · by_cases b6 : e < b
                · simp only [decide_eq_true b5, decide_eq_true b6, cond_true, r2 ⟨b5, b6⟩]
                · simp only [decide_eq_true b5, decide_eq_false b6, cond_true, cond_false, hr (fun q => b6 q.2)]
              · simp only [decide_eq_false b5, cond_false, hr (fun q => b5 q.1)]
            · have hl' := hl (fun q => b4 q.2)
              rw [hl'] at r2 hr ⊢
              simp only [decide_eq_true b3, decide_eq_false b4, cond_true, cond_false]
              by_cases b5 : mid < e
              · by_cases b6 : e < b
                · simp only [decide_eq_true b5, decide_eq_true b6, cond_true, r2 ⟨b5, b6⟩]
                · simp only [decide_eq_true b5, decide_eq_false b6, cond_true, cond_false, hr (fun q => b6 q.2)]
              · simp only [decide_eq_false b5, cond_false, hr (fun q => b5 q.1)]
          · have hl' := hl (fun q => b3 q.1)
            rw [hl'] at r2 hr ⊢
            simp only [decide_eq_false b3, cond_false]
            by_cases b5 : mid < e
            · by_cases b6 : e < b
              · simp only [decide_eq_true b5, decide_eq_true b6, cond_true, r2 ⟨b5, b6⟩]
              · simp only [decide_eq_true b5, decide_eq_false b6, cond_true, cond_false, hr (fun q => b6 q.2)]
            · simp only [decide_eq_false b5, cond_false, hr (fun q => b5 q.1)]
      · have lo2 := lo2 (.inr ⟨by omega, rfl, rfl⟩)
        rw [decide_eq_false (show ¬ ((m : Nat) : Int) > (((a + b) / 2 : Nat) : Int) by omega), cond_false]
        rw [kL76_4 N f a m b ((a + b) / 2) ((a + b) / 2 + m) a m ((a + b) / 2 + m - 1) ⟨by omega, by omega, by omega, by omega, h4⟩, cond_true]
        generalize hS : bsN (cutC compareD f ((a + b) / 2 + m - 1)) (m - a) a m = S at lo2 ⊢
        have hc := mc S lo2
        have d := lo2
        obtain ⟨d1, d2, d3, d4, d5, d6, d7⟩ := d
        have hwe : IntKind.i64.wrap ((((a + b) / 2 + m : Nat) : Int) - (S : Int)) = (((a + b) / 2 + m - S : Nat) : Int) := w64s (by omega) (by omega)
        simp only [hwe, Int.toNat_natCast, unS_rowS]
        obtain ⟨g1, g2, g3, g4, g5, g6⟩ := cut_facts (mid := (a + b) / 2) (e := (a + b) / 2 + m - S) rfl rfl h1 h2 h6 h7 lo2
        clear lo2 lo1 mc d6 d7 hwe hmid hwn hw1
        generalize hmd : (a + b) / 2 = mid at *
        generalize he : mid + m - S = e at *
        rw [← hc]
        have hrot : ¬ (S < m ∧ m < e) → rotR f S m e = f := fun q => rotR_same (by omega) d2 d4
        have hl : ¬ (a < S ∧ S < mid) → sortG compareD (rotR f S m e) a mid = rotR f S m e := fun q => sortG_id cmpX_ord (g5 (by omega))
        have hr : ¬ (mid < e ∧ e < b) → sortG compareD (sortG compareD (rotR f S m e) a mid) mid b = sortG compareD (rotR f S m e) a mid := fun q => sortG_id cmpX_ord (by rw [sortG_seg cmpX_ord (Nat.le_refl _)]; exact g6 (by omega))
        have r81 : S < m ∧ m < e → isEn en81 p81 ([AV.row 0 1 0 N, AV.int IntKind.i64 (S : Nat), AV.int IntKind.i64 (m : Nat), AV.int IntKind.i64 (e : Nat), AV.fn 12 []], [some (AObj.row 1 N (rowS f))]) = true := fun q => k81 N f S m e ⟨q.1, q.2, by omega, by simp only [bnd]; omega⟩
        have r1 : a < S ∧ S < mid → isEn en76 (p76 K) ([AV.row 0 1 0 N, AV.int IntKind.i64 (a : Nat), AV.int IntKind.i64 (S : Nat), AV.int IntKind.i64 (mid : Nat), AV.fn 12 []], [some (AObj.row 1 N (rowS (rotR f S m e)))]) = true := fun q => k76 K N _ a S mid ⟨q.1, q.2, by omega, h4, by omega, g1, g2⟩
        have r2 : mid < e ∧ e < b → isEn en76 (p76 K) ([AV.row 0 1 0 N, AV.int IntKind.i64 (mid : Nat), AV.int IntKind.i64 (e : Nat), AV.int IntKind.i64 (b : Nat), AV.fn 12 []], [some (AObj.row 1 N (rowS (sortG compareD (rotR f S m e) a mid)))]) = true := fun q => k76 K N _ mid e b ⟨q.1, q.2, h3, h4, by omega, by rw [sortG_seg cmpX_ord (Nat.le_refl _)]; exact g3, by rw [sortG_seg cmpX_ord (by omega)]; exact g4⟩
        generalize hG : rotR f S m e = g at *
        have hz : ∀ x y : Nat, decide ((x : Int) < (y : Int)) = decide (x < y) := fun x y => by rw [decide_eq_decide]; omega
        simp only [hz]
        by_cases b1 : S < m
        · by_cases b2 : m < e
          · simp only [decide_eq_true b1, decide_eq_true b2, cond_true, r81 ⟨b1, b2⟩]
            by_cases b3 : a < S
            · by_cases b4 : S < mid
              · simp only [decide_eq_true b3, decide_eq_true b4, cond_true, r1 ⟨b3, b4⟩]
                by_cases b5 : mid < e
                · by_cases b6 : e < b
                  · simp only [decide_eq_true b5, decide_eq_true b6, cond_true, r2 ⟨b5, b6⟩]
                  · simp only [decide_eq_true b5, decide_eq_false b6, cond_true, cond_false, hr (fun q => b6 q.2)]
                · simp only [decide_eq_false b5, cond_false, hr (fun q => b5 q.1)]
              · have hl' := hl (fun q => b4 q.2)
                rw [hl'] at r2 hr ⊢
                simp only [decide_eq_true b3, decide_eq_false b4, cond_true, cond_false]
                by_cases b5 : mid < e
                · by_cases b6 : e < b
                  · simp only [decide_eq_true b5, decide_eq_true b6, cond_true, r2 ⟨b5, b6⟩]
                  · simp only [decide_eq_true b5, decide_eq_false b6, cond_true, cond_false, hr (fun q => b6 q.2)]
                · simp only [decide_eq_false b5, cond_false, hr (fun q => b5 q.1)]
            · have hl' := hl (fun q => b3 q.1)
              rw [hl'] at r2 hr ⊢
              simp only [decide_eq_false b3, cond_false]
              by_cases b5 : mid < e
              · by_cases b6 : e < b
                · simp only [decide_eq_true b5, decide_eq_true b6, cond_true, r2 ⟨b5, b6⟩]
                · simp only [decide_eq_true b5, decide_eq_false b6, cond_true, cond_false, hr (fun q => b6 q.2)]
              · simp only [decide_eq_false b5, cond_false, hr (fun q => b5 q.1)]
          · have hg := hrot (fun q => b2 q.2)
            subst hg
            simp only [decide_eq_true b1, decide_eq_false b2, cond_true, cond_false]
            by_cases b3 : a < S
            · by_cases b4 : S < mid
              · simp only [decide_eq_true b3, decide_eq_true b4, cond_true, r1 ⟨b3, b4⟩]
                by_cases b5 : mid < e
                · by_cases b6 : e < b
                  · simp only [decide_eq_true b5, decide_eq_true b6, cond_true, r2 ⟨b5, b6⟩]
                  · simp only [decide_eq_true b5, decide_eq_false b6, cond_true, cond_false, hr (fun q => b6 q.2)]
                · simp only [decide_eq_false b5, cond_false, hr (fun q => b5 q.1)]
              · have hl' := hl (fun q => b4 q.2)
                rw [hl'] at r2 hr ⊢
                simp only [decide_eq_true b3, decide_eq_false b4, cond_true, cond_false]
                by_cases b5 : mid < e
                · by_cases b6 : e < b
                  · simp only [decide_eq_true b5, decide_eq_true b6, cond_true, r2 ⟨b5, b6⟩]
                  · simp only [decide_eq_true b5, decide_eq_false b6, cond_true, cond_false, hr (fun q => b6 q.2)]
                · simp only [decide_eq_false b5, cond_false, hr (fun q => b5 q.1)]
            · have hl' := hl (fun q => b3 q.1)
              rw [hl'] at r2 hr ⊢
              simp only [decide_eq_false b3, cond_false]
              by_cases b5 : mid < e
              · by_cases b6 : e < b
                · simp only [decide_eq_true b5, decide_eq_true b6, cond_true, r2 ⟨b5, b6⟩]
                · simp only [decide_eq_true b5, decide_eq_false b6, cond_true, cond_false, hr (fun q => b6 q.2)]
              · simp only [decide_eq_false b5, cond_false, hr (fun q => b5 q.1)]
        · have hg := hrot (fun q => b1 q.1)
          subst hg
          simp only [decide_eq_false b1, cond_false]
          by_cases b3 : a < S
          · by_cases b4 : S < mid
            · simp only [decide_eq_true b3, decide_eq_true b4, cond_true, r1 ⟨b3, b4⟩]
              by_cases b5 : mid < e
              · by_cases b6 : e < b
                · simp only [decide_eq_true b5, decide_eq_true b6, cond_true, r2 ⟨b5, b6⟩]
                · simp only [decide_eq_true b5, decide_eq_false b6, cond_true, cond_false, hr (fun q => b6 q.2)]
              · simp only [decide_eq_false b5, cond_false, hr (fun q => b5 q.1)]
            · have hl' := hl (fun q => b4 q.2)
              rw [hl'] at r2 hr ⊢
              simp only [decide_eq_true b3, decide_eq_false b4, cond_true, cond_false]
              by_cases b5 : mid < e
              · by_cases b6 : e < b
                · simp only [decide_eq_true b5, decide_eq_true b6, cond_true, r2 ⟨b5, b6⟩]
                · simp only [decide_eq_true b5, decide_eq_false b6, cond_true, cond_false, hr (fun q => b6 q.2)]
              · simp only [decide_eq_false b5, cond_false, hr (fun q => b5 q.1)]
          · have hl' := hl (fun q => b3 q.1)
            rw [hl'] at r2 hr ⊢
            simp only [decide_eq_false b3, cond_false]
            by_cases b5 : mid < e
            · by_cases b6 : e < b
              · simp only [decide_eq_true b5, decide_eq_true b6, cond_true, r2 ⟨b5, b6⟩]
              · simp only [decide_eq_true b5, decide_eq_false b6, cond_true, cond_false, hr (fun q => b6 q.2)]
            · simp only [decide_eq_false b5, cond_false, hr (fun q => b5 q.1)]

theorem fiveLoops {f : FuncId} {Φ : Nat → Prop} (h : (loopsOf (bodyOf Tryd.prog f)).length = 5) (h0 : Φ 0) (h1 : Φ 1) (h2 : Φ 2) (h3 : Φ 3) (h4 : Φ 4) : ∀ i, i < (loopsOf (bodyOf Tryd.prog f)).length → Φ i := fun i hi => by
  rcases (by omega : i = 0 ∨ i = 1 ∨ i = 2 ∨ i = 3 ∨ i = 4) with rfl | rfl | rfl | rfl | rfl
  · exact h0
  · exact h1
  · exact h2
  · exact h3
  · exact h4
theorem s76n : ∀ K : Nat, Sound1 Tryd.prog ⟨76, false, gcon (c76 K)⟩
  | 0 => by
    refine sound_mem ok_tabD3 (hn := h76) (m := 20) (k := 9) (Λ := noLoops) (fun _ _ _ _ _ i hi => anyLoopsB) fun args hs r hs' hF hH hr => ?_
    obtain ⟨⟨N, f, a, m, b⟩, _, hp, _⟩ := ccon_run in76 hr
    obtain ⟨h1, h2, _, _, h5, _⟩ := hp
    omega
  | K + 1 => by
    refine sound_cm (soundTab_of (sound_mem_tab (s76n K) all_tabD3)) in76 (hn := h76) (m := 20) (k := 9) (Λ := LE76) (fun x _ => fiveLoops (by kernel_rfl) (l76 K) (l76_1 K) (l76_2 K) (l76_3 K) (l76_4 K)) ?_
    rintro ⟨N, f, a, m, b⟩ hp hF hH
    exact sym_step K N f a m b hp
def pS76 : X76 → Prop := fun ⟨N, f, a, m, b⟩ => a < m ∧ m < b ∧ b ≤ N ∧ N ≤ 1152921504606846976 ∧ Srt compareD (seg f a m) ∧ Srt compareD (seg f m b)
noncomputable def cS76 : List AV → Hp → T (AV × Hp) := mcon en76 de76 pS76 rs76
theorem kS76 (N : Nat) (f : Nat → List UInt8) (a m b : Nat) (h : a < m ∧ m < b ∧ b ≤ N ∧ N ≤ 1152921504606846976 ∧ Srt compareD (seg f a m) ∧ Srt compareD (seg f m b)) : isEn en76 pS76 ([.row 0 1 0 N, .int .i64 a, .int .i64 m, .int .i64 b, .fn 12 []], [some (.row 1 N (rowS f))]) = true := isEn_true (enc := en76) (p := pS76) ⟨N, f, a, m, b⟩ h
theorem sS76 : Sound1 Tryd.prog ⟨76, false, gcon cS76⟩ := by
  refine sound_all s76n fun args hs r hr => ?_
  obtain ⟨⟨N, f, a, m, b⟩, he, ⟨h1, h2, h3, h4, h6, h7⟩, hr2⟩ := ccon_run in76 hr
  refine ⟨b - a, ?_⟩
  show (ccon en76 de76 (p76 (b - a)) rs76 (args, hs)).run = some r
  rw [he]
  unfold ccon
  have hi : isEn en76 (p76 (b - a)) (en76 ⟨N, f, a, m, b⟩) = true := isEn_true _ ⟨h1, h2, h3, h4, Nat.le_refl _, h6, h7⟩
  rw [T.run_chk, if_pos hi, in76]
  exact hr2
end Go.Deb

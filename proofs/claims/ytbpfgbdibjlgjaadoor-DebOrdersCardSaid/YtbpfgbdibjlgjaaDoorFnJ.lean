/- Lemmas for the claims of this seat (a verified symbolic evaluator, and contracts of functions): own work; no condition. -/
import Derived.Test.YtbpfgbdibjlgjaaDoorFnI
import Derived.Test.YtbpfgbdibjlgjaaDoorEvF
import Derived.Test.YtbpfgbdibjlgjaaDoorFnD
namespace Go.Deb

open Go Go.Proofs Go.Ab

set_option maxRecDepth 100000

set_option linter.unusedVariables false

set_option linter.unusedSimpArgs false

/-! ### dovetailref04.Part -/

def nd (s : List UInt8) (i : Nat) : Bool := decide (i < s.length) && !dig ((s.getD i 0).toNat : Int)

theorem drop_consN {s : List UInt8} {i : Nat} (h : i < s.length) : s.drop i = s.getD i 0 :: s.drop (i + 1) := by
  rw [List.drop_eq_getElem_cons h]
  congr 1
  rw [List.getD_eq_getElem?_getD, List.getElem?_eq_getElem h]; rfl

theorem nd_cons {s : List UInt8} {i : Nat} (h : nd s i = true) : rowP (s.drop i) = s.getD i 0 :: rowP (s.drop (i + 1)) := by
  unfold nd at h
  simp only [Bool.and_eq_true, decide_eq_true_eq, Bool.not_eq_true'] at h
  rw [drop_consN h.1]
  unfold rowP
  rw [List.takeWhile_cons, show digB (s.getD i 0) = dig ((s.getD i 0).toNat : Int) from rfl, h.2]
  rfl

theorem nd_nil {s : List UInt8} {i : Nat} (h : nd s i = false) : rowP (s.drop i) = [] := by
  unfold nd at h
  by_cases hl : i < s.length
  · rw [decide_eq_true hl, Bool.true_and] at h
    rw [drop_consN hl]
    unfold rowP
    rw [List.takeWhile_cons, show digB (s.getD i 0) = dig ((s.getD i 0).toNat : Int) from rfl]
    cases hd : dig ((s.getD i 0).toNat : Int)
    · rw [hd] at h; cases h
    · rfl
  · rw [List.drop_of_length_le (by omega)]; rfl

theorem nd_lt {s : List UInt8} {i : Nat} (h : nd s i = true) : i < s.length := by
  unfold nd at h
  simp only [Bool.and_eq_true, decide_eq_true_eq] at h
  exact h.1

theorem wtB_ne (c : UInt8) : wtB (c.toNat : Int) ≠ 0 := by
  unfold wtB
  split
  · omega
  · split
    · rename_i h1 h2
      intro h
      rw [h] at h2
      exact absurd h2 (by decide)
    · omega

theorem plainD_cons {p r : List UInt8} (h : p ≠ [] ∨ r ≠ []) : plainD p r = if hdW p - hdW r ≠ 0 then signZ (hdW p - hdW r) else plainD p.tail r.tail := by
  unfold plainD
  obtain ⟨m, hm⟩ : ∃ m, max p.length r.length = m + 1 := by
    refine ⟨max p.length r.length - 1, ?_⟩
    rcases h with h | h
    · have := List.length_pos_iff.2 h; omega
    · have := List.length_pos_iff.2 h; omega
  rw [hm, show max p.tail.length r.tail.length = m by simp only [List.length_tail]; omega]
  rfl

theorem qA19 (a b : List UInt8) (i k : Nat) : (rdn tabE2 h19 noLoops 19 0 1 { tm := encGo (mbits 99 100) [.str a, .str b, .int .i64 i, .int .i64 k], ms := [], hp := [] }).run =
  bif decide ((↑i : Int) < (↑a.length : Int)) then
   bif decide ((0 : Int) ≤ (↑i : Int) ∧ (↑i : Int) < (↑a.length : Int)) then
    bif !dig (↑(a.getD (↑i : Int).toNat (0 : UInt8)).toNat : Int) then
     bif isEn en49 p49 [AV.str a, AV.int IntKind.i64 (↑i : Int)] then
      bif isEn en49 p49 [AV.str b, AV.int IntKind.i64 (↑k : Int)] then
       bif hdW (rowP (List.drop (↑i : Int).toNat a)) != hdW (rowP (List.drop (↑k : Int).toNat b)) then
        bif decide (hdW (rowP (List.drop (↑i : Int).toNat a)) < hdW (rowP (List.drop (↑k : Int).toNat b))) then
         some ((AX.ret, { tm := tmOf 100 [(4, AV.int IntKind.i64 (-1 : Int))], ms := [], hp := [] }))
        else
         some ((AX.ret, { tm := tmOf 100 [(4, AV.int IntKind.i64 (1 : Int))], ms := [], hp := [] }))
       else
        some ((AX.normal, { tm := tmOf 100 [(0, AV.str a), (1, AV.str b), (5, AV.int IntKind.i64 (IntKind.i64.wrap ((↑i : Int) + (1 : Int)))), (6, AV.int IntKind.i64 (IntKind.i64.wrap ((↑k : Int) + (1 : Int))))], ms := [], hp := [] }))
      else
       none
     else
      none
    else
     bif decide ((↑k : Int) < (↑b.length : Int)) then
      bif decide ((0 : Int) ≤ (↑k : Int) ∧ (↑k : Int) < (↑b.length : Int)) then
       bif !dig (↑(b.getD (↑k : Int).toNat (0 : UInt8)).toNat : Int) then
        bif isEn en49 p49 [AV.str a, AV.int IntKind.i64 (↑i : Int)] then
         bif isEn en49 p49 [AV.str b, AV.int IntKind.i64 (↑k : Int)] then
          bif hdW (rowP (List.drop (↑i : Int).toNat a)) != hdW (rowP (List.drop (↑k : Int).toNat b)) then
           bif decide (hdW (rowP (List.drop (↑i : Int).toNat a)) < hdW (rowP (List.drop (↑k : Int).toNat b))) then
            some ((AX.ret, { tm := tmOf 100 [(4, AV.int IntKind.i64 (-1 : Int))], ms := [], hp := [] }))
           else
            some ((AX.ret, { tm := tmOf 100 [(4, AV.int IntKind.i64 (1 : Int))], ms := [], hp := [] }))
          else
           some ((AX.normal, { tm := tmOf 100 [(0, AV.str a), (1, AV.str b), (5, AV.int IntKind.i64 (IntKind.i64.wrap ((↑i : Int) + (1 : Int)))), (6, AV.int IntKind.i64 (IntKind.i64.wrap ((↑k : Int) + (1 : Int))))], ms := [], hp := [] }))
         else
          none
        else
         none
       else
        some ((AX.exit 2, { tm := tmOf 100 [(0, AV.str a), (1, AV.str b), (5, AV.int IntKind.i64 (↑i : Int)), (6, AV.int IntKind.i64 (↑k : Int)), (45, AV.bool false)], ms := [], hp := [] }))
      else
       none
     else
      some ((AX.exit 2, { tm := tmOf 100 [(0, AV.str a), (1, AV.str b), (5, AV.int IntKind.i64 (↑i : Int)), (6, AV.int IntKind.i64 (↑k : Int)), (45, AV.bool false)], ms := [], hp := [] }))
   else
    none
  else
   bif decide ((↑k : Int) < (↑b.length : Int)) then
    bif decide ((0 : Int) ≤ (↑k : Int) ∧ (↑k : Int) < (↑b.length : Int)) then
     bif !dig (↑(b.getD (↑k : Int).toNat (0 : UInt8)).toNat : Int) then
      bif isEn en49 p49 [AV.str a, AV.int IntKind.i64 (↑i : Int)] then
       bif isEn en49 p49 [AV.str b, AV.int IntKind.i64 (↑k : Int)] then
        bif hdW (rowP (List.drop (↑i : Int).toNat a)) != hdW (rowP (List.drop (↑k : Int).toNat b)) then
         bif decide (hdW (rowP (List.drop (↑i : Int).toNat a)) < hdW (rowP (List.drop (↑k : Int).toNat b))) then
          some ((AX.ret, { tm := tmOf 100 [(4, AV.int IntKind.i64 (-1 : Int))], ms := [], hp := [] }))
         else
          some ((AX.ret, { tm := tmOf 100 [(4, AV.int IntKind.i64 (1 : Int))], ms := [], hp := [] }))
        else
         some ((AX.normal, { tm := tmOf 100 [(0, AV.str a), (1, AV.str b), (5, AV.int IntKind.i64 (IntKind.i64.wrap ((↑i : Int) + (1 : Int)))), (6, AV.int IntKind.i64 (IntKind.i64.wrap ((↑k : Int) + (1 : Int))))], ms := [], hp := [] }))
       else
        none
      else
       none
     else
      some ((AX.exit 2, { tm := tmOf 100 [(0, AV.str a), (1, AV.str b), (5, AV.int IntKind.i64 (↑i : Int)), (6, AV.int IntKind.i64 (↑k : Int)), (45, AV.bool false)], ms := [], hp := [] }))
    else
     none
   else
    some ((AX.exit 2, { tm := tmOf 100 [(0, AV.str a), (1, AV.str b), (5, AV.int IntKind.i64 (↑i : Int)), (6, AV.int IntKind.i64 (↑k : Int)), (45, AV.bool false)], ms := [], hp := [] })) := by kernel_rfl

theorem stepA (a b : List UInt8) (i k : Nat) (ha : a.length ≤ bnd) (hb : b.length ≤ bnd) (hi : i ≤ a.length) (hk : k ≤ b.length) : (rdn tabE2 h19 noLoops 19 0 1 { tm := encGo (mbits 99 100) [.str a, .str b, .int .i64 i, .int .i64 k], ms := [], hp := [] }).run =
    bif nd a i || nd b k then
      bif hdW (rowP (a.drop i)) != hdW (rowP (b.drop k)) then
        bif decide (hdW (rowP (a.drop i)) < hdW (rowP (b.drop k))) then some (.ret, { tm := tmOf 100 [(4, .int .i64 (-1))], ms := [], hp := [] }) else some (.ret, { tm := tmOf 100 [(4, .int .i64 1)], ms := [], hp := [] })
      else some (.normal, { tm := tmOf 100 [(0, .str a), (1, .str b), (5, .int .i64 (i + 1 : Nat)), (6, .int .i64 (k + 1 : Nat))], ms := [], hp := [] })
    else some (.exit 2, { tm := tmOf 100 [(0, .str a), (1, .str b), (5, .int .i64 i), (6, .int .i64 k), (45, .bool false)], ms := [], hp := [] }) := by
  refine (qA19 a b i k).trans ?_
  simp only [bnd] at ha hb
  rw [k49 a i (by simp only [bnd]; omega), k49 b k (by simp only [bnd]; omega), w64n (i := i) (by omega), w64n (i := k) (by omega)]
  unfold nd
  simp only [Int.toNat_natCast]
  by_cases h1 : i < a.length <;> by_cases h2 : k < b.length
  · rw [decide_eq_true (show (i : Int) < a.length by omega), decide_eq_true (show (0 : Int) ≤ i ∧ (i : Int) < a.length by omega), decide_eq_true h1, decide_eq_true (show (k : Int) < b.length by omega), decide_eq_true (show (0 : Int) ≤ k ∧ (k : Int) < b.length by omega), decide_eq_true h2]
    cases dig ((a.getD i 0).toNat : Int) <;> cases dig ((b.getD k 0).toNat : Int) <;> rfl
  · rw [decide_eq_true (show (i : Int) < a.length by omega), decide_eq_true (show (0 : Int) ≤ i ∧ (i : Int) < a.length by omega), decide_eq_true h1, decide_eq_false (show ¬ (k : Int) < b.length by omega), decide_eq_false h2]
    cases dig ((a.getD i 0).toNat : Int) <;> rfl
  · rw [decide_eq_false (show ¬ (i : Int) < a.length by omega), decide_eq_false h1, decide_eq_true (show (k : Int) < b.length by omega), decide_eq_true (show (0 : Int) ≤ k ∧ (k : Int) < b.length by omega), decide_eq_true h2]
    cases dig ((b.getD k 0).toNat : Int) <;> rfl
  · rw [decide_eq_false (show ¬ (i : Int) < a.length by omega), decide_eq_false h1, decide_eq_false (show ¬ (k : Int) < b.length by omega), decide_eq_false h2]
    rfl

structure Y19_1 where
  a : List UInt8
  b : List UInt8
  i : Nat
  k : Nat

def eL19_1 : Y19_1 → List AV × Hp := fun ⟨a, b, i, k⟩ => ([.str a, .str b, .int .i64 i, .int .i64 k], [])

def dL19_1 : List AV × Hp → Y19_1
  | ([.str a, .str b, .int .i64 i, .int .i64 k], []) => ⟨a, b, i.toNat, k.toNat⟩
  | _ => ⟨default, default, default, default⟩

def pL19_1 : Y19_1 → Prop := fun ⟨a, b, i, k⟩ => i ≤ a.length ∧ k ≤ b.length ∧ a.length ≤ bnd ∧ b.length ≤ bnd

def rL19_1 : Y19_1 → T (AX × St) := fun ⟨a, b, i, k⟩ => .br (decide (plainD (rowP (a.drop i)) (rowP (b.drop k)) < 0)) (.leaf (.ret, { tm := tmOf 100 [(4, .int .i64 (-1))], ms := [], hp := [] })) (.br (decide (0 < plainD (rowP (a.drop i)) (rowP (b.drop k)))) (.leaf (.ret, { tm := tmOf 100 [(4, .int .i64 1)], ms := [], hp := [] })) (.leaf (.exit 2, { tm := tmOf 100 [(0, .str a), (1, .str b), (5, .int .i64 (i + (rowP (a.drop i)).length : Nat)), (6, .int .i64 (k + (rowP (b.drop k)).length : Nat)), (45, .bool false)], ms := [], hp := [] })))

noncomputable def LA19 : LoopT := fun k => match Nat.beq k 400076 with
  | true => some (lccon (mbits 99 100) eL19_1 dL19_1 pL19_1 rL19_1)
  | false => none

theorem iL19_1 : ∀ x, dL19_1 (eL19_1 x) = x := by
  rintro ⟨a, b, i, k⟩
  simp only [eL19_1, dL19_1, Int.toNat_natCast]

theorem kL19_1 (a : List UInt8) (b : List UInt8) (i : Nat) (k : Nat) (h : i ≤ a.length ∧ k ≤ b.length ∧ a.length ≤ bnd ∧ b.length ≤ bnd) : isEn eL19_1 pL19_1 ([.str a, .str b, .int .i64 i, .int .i64 k], []) = true := isEn_true (enc := eL19_1) (p := pL19_1) ⟨a, b, i, k⟩ h

theorem l19_1 : LoopOk Tryd.prog tabE2.pf (fun n => hd Tryd.prog tabE2.pf tabE2.con.run (fun f => (H0 f).to) n 9) h19.to 19 0 none LA19 (loopAt Tryd.prog 19 1) := by
  rw [show loopAt Tryd.prog 19 1 = .loop (lbody Tryd.prog 19 1) by kernel_rfl]
  refine loop_c (hdT_le (m := 20) 9) (m := 20) (lv := mbits 99 100) (p := pL19_1) (res := rL19_1) iL19_1 (within_of _ (by rw [show loopsOf (lbody Tryd.prog 19 1) = [] by kernel_rfl]; simp)) (by kernel_rfl) (fun ⟨a, b, i, k⟩ => (rowP (a.drop i)).length + (rowP (b.drop k)).length) ?_
  rintro ⟨a, b, i, k⟩ hp
  skip
  obtain ⟨h1, h2, h3, h4⟩ := hp
  have ht := stepA a b i k h3 h4 h1 h2
  cases hn : nd a i || nd b k with
  | false =>
    rw [hn] at ht
    simp only [Bool.or_eq_false_iff] at hn
    right
    refine ⟨_, ?_, ?_, ht⟩
    · simp
    · simp only [rL19_1, nd_nil hn.1, nd_nil hn.2]
      rfl
  | true =>
    rw [hn, cond_true] at ht
    have hne : rowP (a.drop i) ≠ [] ∨ rowP (b.drop k) ≠ [] := by
      rcases Bool.or_eq_true_iff.1 hn with q | q
      · left; rw [nd_cons q]; simp
      · right; rw [nd_cons q]; simp
    have hpl := plainD_cons hne
    by_cases hw : hdW (rowP (a.drop i)) = hdW (rowP (b.drop k))
    · rw [show (hdW (rowP (a.drop i)) != hdW (rowP (b.drop k))) = false by rw [hw]; simp, cond_false] at ht
      rw [if_neg (by omega)] at hpl
      have both : nd a i = true ∧ nd b k = true := by
        cases ea : nd a i with
        | true =>
          cases eb : nd b k with
          | true => exact ⟨rfl, rfl⟩
          | false =>
            rw [nd_cons ea, nd_nil eb] at hw
            exact absurd hw (wtB_ne _)
        | false =>
          cases eb : nd b k with
          | false => rw [ea, eb] at hn; cases hn
          | true =>
            rw [nd_nil ea, nd_cons eb] at hw
            exact absurd hw.symm (wtB_ne _)
      have ca := nd_cons both.1
      have cb := nd_cons both.2
      have la := nd_lt both.1
      have lb := nd_lt both.2
      left
      refine ⟨⟨a, b, i + 1, k + 1⟩, ⟨by omega, by omega, h3, h4⟩, ?_, ?_, ht⟩
      · simp only [ca, cb, List.length_cons]; omega
      · simp only [rL19_1]
        rw [hpl, ca, cb]
        simp only [List.tail_cons, List.length_cons]
        rw [show i + ((rowP (a.drop (i + 1))).length + 1) = i + 1 + (rowP (a.drop (i + 1))).length by omega, show k + ((rowP (b.drop (k + 1))).length + 1) = k + 1 + (rowP (b.drop (k + 1))).length by omega]
        rfl
    · rw [show (hdW (rowP (a.drop i)) != hdW (rowP (b.drop k))) = true by simpa using hw, cond_true] at ht
      rw [if_pos (by omega)] at hpl
      right
      by_cases hlt : hdW (rowP (a.drop i)) < hdW (rowP (b.drop k))
      · rw [decide_eq_true hlt, cond_true] at ht
        refine ⟨_, ?_, ?_, ht⟩
        · simp
        · simp only [rL19_1, hpl]
          rw [show signZ (hdW (rowP (a.drop i)) - hdW (rowP (b.drop k))) = -1 by unfold signZ; rw [if_neg (by omega), if_pos (by omega)]]
          rfl
      · rw [decide_eq_false hlt, cond_false] at ht
        refine ⟨_, ?_, ?_, ht⟩
        · simp
        · simp only [rL19_1, hpl]
          rw [show signZ (hdW (rowP (a.drop i)) - hdW (rowP (b.drop k))) = 1 by unfold signZ; rw [if_pos (by omega)]]
          rfl

structure Y19_2 where
  a : List UInt8
  b : List UInt8
  i : Nat
  k : Nat
  p : Nat
  q : Nat

def eL19_2 : Y19_2 → List AV × Hp := fun ⟨a, b, i, k, p, q⟩ => ([.str a, .str b, .int .i64 i, .int .i64 k, .int .i64 p, .int .i64 q], [])

def dL19_2 : List AV × Hp → Y19_2
  | ([.str a, .str b, .int .i64 i, .int .i64 k, .int .i64 p, .int .i64 q], []) => ⟨a, b, i.toNat, k.toNat, p.toNat, q.toNat⟩
  | _ => ⟨default, default, default, default, default, default⟩

def pL19_2 : Y19_2 → Prop := fun ⟨a, b, i, k, p, q⟩ => i ≤ a.length ∧ a.length ≤ bnd

def rL19_2 : Y19_2 → T (AX × St) := fun ⟨a, b, i, k, p, q⟩ => .leaf (.exit 4, { tm := tmOf 100 [(0, .str a), (1, .str b), (5, .int .i64 (fxN digB a i)), (6, .int .i64 k), (9, .int .i64 p), (10, .int .i64 q), (73, .bool false)], ms := [], hp := [] })

noncomputable def LB19 : LoopT := fun k => match Nat.beq k 1500021 with
  | true => some (lccon (mbits 1635 100) eL19_2 dL19_2 pL19_2 rL19_2)
  | false => LA19 k

theorem iL19_2 : ∀ x, dL19_2 (eL19_2 x) = x := by
  rintro ⟨a, b, i, k, p, q⟩
  simp only [eL19_2, dL19_2, Int.toNat_natCast]

theorem kL19_2 (a : List UInt8) (b : List UInt8) (i : Nat) (k : Nat) (p : Nat) (q : Nat) (h : i ≤ a.length ∧ a.length ≤ bnd) : isEn eL19_2 pL19_2 ([.str a, .str b, .int .i64 i, .int .i64 k, .int .i64 p, .int .i64 q], []) = true := isEn_true (enc := eL19_2) (p := pL19_2) ⟨a, b, i, k, p, q⟩ h

theorem zL19_2 (a : List UInt8) (b : List UInt8) (i : Nat) (k : Nat) (p : Nat) (h : pL19_2 ⟨a, b, i, k, p, 0⟩) : isEn eL19_2 pL19_2 ([.str a, .str b, .int .i64 i, .int .i64 k, .int .i64 p, .int .i64 (0 : Int)], []) = true := isEn_true (enc := eL19_2) (p := pL19_2) ⟨a, b, i, k, p, 0⟩ h

theorem q19_2 (a : List UInt8) (b : List UInt8) (i : Nat) (k : Nat) (p : Nat) (q : Nat) : (rdn tabE2 h19 LB19 19 0 2 { tm := encGo (mbits 1635 100) [.str a, .str b, .int .i64 i, .int .i64 k, .int .i64 p, .int .i64 q], ms := [], hp := [] }).run =
  bif decide ((↑i : Int) < (↑a.length : Int)) then
   bif decide ((0 : Int) ≤ (↑i : Int) ∧ (↑i : Int) < (↑a.length : Int)) then
    bif dig (↑(a.getD (↑i : Int).toNat (0 : UInt8)).toNat : Int) then
     some ((AX.normal, { tm := tmOf 100 [(0, AV.str a), (1, AV.str b), (5, AV.int IntKind.i64 (IntKind.i64.wrap ((↑i : Int) + (1 : Int)))), (6, AV.int IntKind.i64 (↑k : Int)), (9, AV.int IntKind.i64 (↑p : Int)), (10, AV.int IntKind.i64 (↑q : Int))], ms := [], hp := [] }))
    else
     some ((AX.exit 4, { tm := tmOf 100 [(0, AV.str a), (1, AV.str b), (5, AV.int IntKind.i64 (↑i : Int)), (6, AV.int IntKind.i64 (↑k : Int)), (9, AV.int IntKind.i64 (↑p : Int)), (10, AV.int IntKind.i64 (↑q : Int)), (73, AV.bool false)], ms := [], hp := [] }))
   else
    none
  else
   some ((AX.exit 4, { tm := tmOf 100 [(0, AV.str a), (1, AV.str b), (5, AV.int IntKind.i64 (↑i : Int)), (6, AV.int IntKind.i64 (↑k : Int)), (9, AV.int IntKind.i64 (↑p : Int)), (10, AV.int IntKind.i64 (↑q : Int)), (73, AV.bool false)], ms := [], hp := [] })) := by kernel_rfl

theorem l19_2 : LoopOk Tryd.prog tabE2.pf (fun n => hd Tryd.prog tabE2.pf tabE2.con.run (fun f => (H0 f).to) n 9) h19.to 19 0 none LB19 (loopAt Tryd.prog 19 2) := by
  rw [show loopAt Tryd.prog 19 2 = .loop (lbody Tryd.prog 19 2) by kernel_rfl]
  refine loop_c (hdT_le (m := 20) 9) (m := 20) (lv := mbits 1635 100) (p := pL19_2) (res := rL19_2) iL19_2 (within_of _ (by rw [show loopsOf (lbody Tryd.prog 19 2) = [] by kernel_rfl]; simp)) (by kernel_rfl) (fun ⟨a, b, i, k, p, q⟩ => a.length - i) ?_
  rintro ⟨a, b, i, k, p, q⟩ hp
  have ht := q19_2 a b i k p q
  have hb : a.length ≤ 4611686018427387903 := by have := hp; simp only [pL19_2, bnd] at this; omega
  have hi : i ≤ a.length := by have := hp; simp only [pL19_2, bnd] at this; omega
  by_cases hl : i < a.length
  · have hd := fxN_step (q := digB) (0) hl
    rw [decide_eq_true (show (i : Int) < a.length by omega), byte_at hl, Int.toNat_natCast, w64n (by omega)] at ht
    rw [show (dig ((a.getD i 0).toNat : Int)) = digB (a.getD i 0) from rfl] at ht
    dsimp only [cond_true] at ht
    cases hq : digB (a.getD i 0) with
    | false =>
      rw [hq] at ht hd
      right
      refine ⟨_, ?_, ?_, ht⟩
      · simp
      · simp only [rL19_2, T.run_leaf, hd, cond_false] <;> rfl
    | true =>
      rw [hq] at ht hd
      left
      refine ⟨⟨a, b, i + 1, k, p, q⟩, ?_, by simp only; omega, ?_, ht⟩
      · have := hp
        simp only [pL19_2, bnd] at this ⊢
        omega
      · simp only [rL19_2, T.run_leaf, hd, cond_true]
  · have he : i = a.length := by omega
    right
    rw [decide_eq_false (show ¬ (i : Int) < a.length by omega)] at ht
    refine ⟨_, ?_, ?_, ht⟩
    · simp
    · simp only [rL19_2, T.run_leaf, fxN_end (show a.length ≤ i by omega)] <;> rfl

structure Y19_3 where
  a : List UInt8
  b : List UInt8
  i : Nat
  k : Nat
  p : Nat
  q : Nat

def eL19_3 : Y19_3 → List AV × Hp := fun ⟨a, b, i, k, p, q⟩ => ([.str a, .str b, .int .i64 i, .int .i64 k, .int .i64 p, .int .i64 q], [])

def dL19_3 : List AV × Hp → Y19_3
  | ([.str a, .str b, .int .i64 i, .int .i64 k, .int .i64 p, .int .i64 q], []) => ⟨a, b, i.toNat, k.toNat, p.toNat, q.toNat⟩
  | _ => ⟨default, default, default, default, default, default⟩

def pL19_3 : Y19_3 → Prop := fun ⟨a, b, i, k, p, q⟩ => k ≤ b.length ∧ b.length ≤ bnd

def rL19_3 : Y19_3 → T (AX × St) := fun ⟨a, b, i, k, p, q⟩ => .leaf (.exit 6, { tm := tmOf 100 [(0, .str a), (1, .str b), (5, .int .i64 i), (6, .int .i64 (fxN digB b k)), (9, .int .i64 p), (10, .int .i64 q), (85, .bool false)], ms := [], hp := [] })

noncomputable def LC19 : LoopT := fun k => match Nat.beq k 1700021 with
  | true => some (lccon (mbits 1635 100) eL19_3 dL19_3 pL19_3 rL19_3)
  | false => LB19 k

theorem iL19_3 : ∀ x, dL19_3 (eL19_3 x) = x := by
  rintro ⟨a, b, i, k, p, q⟩
  simp only [eL19_3, dL19_3, Int.toNat_natCast]

theorem kL19_3 (a : List UInt8) (b : List UInt8) (i : Nat) (k : Nat) (p : Nat) (q : Nat) (h : k ≤ b.length ∧ b.length ≤ bnd) : isEn eL19_3 pL19_3 ([.str a, .str b, .int .i64 i, .int .i64 k, .int .i64 p, .int .i64 q], []) = true := isEn_true (enc := eL19_3) (p := pL19_3) ⟨a, b, i, k, p, q⟩ h

theorem zL19_3 (a : List UInt8) (b : List UInt8) (i : Nat) (k : Nat) (p : Nat) (h : pL19_3 ⟨a, b, i, k, p, 0⟩) : isEn eL19_3 pL19_3 ([.str a, .str b, .int .i64 i, .int .i64 k, .int .i64 p, .int .i64 (0 : Int)], []) = true := isEn_true (enc := eL19_3) (p := pL19_3) ⟨a, b, i, k, p, 0⟩ h

theorem q19_3 (a : List UInt8) (b : List UInt8) (i : Nat) (k : Nat) (p : Nat) (q : Nat) : (rdn tabE2 h19 LC19 19 0 3 { tm := encGo (mbits 1635 100) [.str a, .str b, .int .i64 i, .int .i64 k, .int .i64 p, .int .i64 q], ms := [], hp := [] }).run =
  bif decide ((↑k : Int) < (↑b.length : Int)) then
   bif decide ((0 : Int) ≤ (↑k : Int) ∧ (↑k : Int) < (↑b.length : Int)) then
    bif dig (↑(b.getD (↑k : Int).toNat (0 : UInt8)).toNat : Int) then
     some ((AX.normal, { tm := tmOf 100 [(0, AV.str a), (1, AV.str b), (5, AV.int IntKind.i64 (↑i : Int)), (6, AV.int IntKind.i64 (IntKind.i64.wrap ((↑k : Int) + (1 : Int)))), (9, AV.int IntKind.i64 (↑p : Int)), (10, AV.int IntKind.i64 (↑q : Int))], ms := [], hp := [] }))
    else
     some ((AX.exit 6, { tm := tmOf 100 [(0, AV.str a), (1, AV.str b), (5, AV.int IntKind.i64 (↑i : Int)), (6, AV.int IntKind.i64 (↑k : Int)), (9, AV.int IntKind.i64 (↑p : Int)), (10, AV.int IntKind.i64 (↑q : Int)), (85, AV.bool false)], ms := [], hp := [] }))
   else
    none
  else
   some ((AX.exit 6, { tm := tmOf 100 [(0, AV.str a), (1, AV.str b), (5, AV.int IntKind.i64 (↑i : Int)), (6, AV.int IntKind.i64 (↑k : Int)), (9, AV.int IntKind.i64 (↑p : Int)), (10, AV.int IntKind.i64 (↑q : Int)), (85, AV.bool false)], ms := [], hp := [] })) := by kernel_rfl

theorem l19_3 : LoopOk Tryd.prog tabE2.pf (fun n => hd Tryd.prog tabE2.pf tabE2.con.run (fun f => (H0 f).to) n 9) h19.to 19 0 none LC19 (loopAt Tryd.prog 19 3) := by
  rw [show loopAt Tryd.prog 19 3 = .loop (lbody Tryd.prog 19 3) by kernel_rfl]
  refine loop_c (hdT_le (m := 20) 9) (m := 20) (lv := mbits 1635 100) (p := pL19_3) (res := rL19_3) iL19_3 (within_of _ (by rw [show loopsOf (lbody Tryd.prog 19 3) = [] by kernel_rfl]; simp)) (by kernel_rfl) (fun ⟨a, b, i, k, p, q⟩ => b.length - k) ?_
  rintro ⟨a, b, i, k, p, q⟩ hp
  have ht := q19_3 a b i k p q
  have hb : b.length ≤ 4611686018427387903 := by have := hp; simp only [pL19_3, bnd] at this; omega
  have hi : k ≤ b.length := by have := hp; simp only [pL19_3, bnd] at this; omega
  by_cases hl : k < b.length
  · have hd := fxN_step (q := digB) (0) hl
    rw [decide_eq_true (show (k : Int) < b.length by omega), byte_at hl, Int.toNat_natCast, w64n (by omega)] at ht
    rw [show (dig ((b.getD k 0).toNat : Int)) = digB (b.getD k 0) from rfl] at ht
    dsimp only [cond_true] at ht
    cases hq : digB (b.getD k 0) with
    | false =>
      rw [hq] at ht hd
      right
      refine ⟨_, ?_, ?_, ht⟩
      · simp
      · simp only [rL19_3, T.run_leaf, hd, cond_false] <;> rfl
    | true =>
      rw [hq] at ht hd
      left
      refine ⟨⟨a, b, i, k + 1, p, q⟩, ?_, by simp only; omega, ?_, ht⟩
      · have := hp
        simp only [pL19_3, bnd] at this ⊢
        omega
      · simp only [rL19_3, T.run_leaf, hd, cond_true]
  · have he : k = b.length := by omega
    right
    rw [decide_eq_false (show ¬ (k : Int) < b.length by omega)] at ht
    refine ⟨_, ?_, ?_, ht⟩
    · simp
    · simp only [rL19_3, T.run_leaf, fxN_end (show b.length ≤ k by omega)] <;> rfl
end Go.Deb
namespace Go.Deb

open Go Go.Proofs Go.Ab

set_option maxRecDepth 100000

set_option linter.unusedVariables false

set_option linter.unusedSimpArgs false

/-! ### dovetailref04.Part, its rounds -/

theorem fourLoops {f : FuncId} {Φ : Nat → Prop} (h : (loopsOf (bodyOf Tryd.prog f)).length = 4) (h0 : Φ 0) (h1 : Φ 1) (h2 : Φ 2) (h3 : Φ 3) : ∀ i, i < (loopsOf (bodyOf Tryd.prog f)).length → Φ i := fun i hi => by
  rcases (by omega : i = 0 ∨ i = 1 ∨ i = 2 ∨ i = 3) with rfl | rfl | rfl | rfl
  · exact h0
  · exact h1
  · exact h2
  · exact h3

def pI (s : List UInt8) (i : Nat) : Nat := i + (rowP (s.drop i)).length

theorem drop_pI (s : List UInt8) (i : Nat) : s.drop (pI s i) = (s.drop i).dropWhile fun b => !digB b := by
  unfold pI rowP
  rw [← List.drop_drop]
  generalize s.drop i = l
  have h : l.takeWhile (fun b => !digB b) ++ l.dropWhile (fun b => !digB b) = l := List.takeWhile_append_dropWhile
  have h2 : (l.takeWhile (fun b => !digB b) ++ l.dropWhile (fun b => !digB b)).drop (l.takeWhile fun b => !digB b).length = l.dropWhile fun b => !digB b := List.drop_left
  rwa [h] at h2

theorem rowQ_take (s : List UInt8) (i : Nat) : (s.drop (pI s i)).take (fxN digB s (pI s i) - pI s i) = rowQ (s.drop i) := by
  unfold fxN rowQ
  rw [Nat.add_sub_cancel_left, take_takeWhile, drop_pI]

theorem rest_drop (s : List UInt8) (i : Nat) : s.drop (fxN digB s (pI s i)) = restR (s.drop i) := by
  unfold fxN restR
  rw [drop_pI, List.drop_drop]
  unfold pI rowQ
  congr 1; omega

theorem pI_le {s : List UInt8} {i : Nat} (h : i ≤ s.length) : pI s i ≤ s.length := by
  have := (row_le (s.drop i)).1
  rw [List.length_drop] at this
  unfold pI; omega

theorem fx_gt {s : List UInt8} {i : Nat} (h : i < s.length) : i < fxN digB s (pI s i) := by
  have h2 := (row_le (s.drop i)).2 (by rw [← List.length_pos_iff, List.length_drop]; omega)
  have e : fxN digB s (pI s i) = i + ((rowP (s.drop i)).length + (rowQ (s.drop i)).length) := by
    unfold fxN
    rw [drop_pI]
    unfold pI rowQ
    omega
  omega

theorem partD_step (A B : List UInt8) : partD A B = if plainD (rowP A) (rowP B) ≠ 0 then plainD (rowP A) (rowP B) else if cmpD (rowQ A) (rowQ B) ≠ 0 then cmpD (rowQ A) (rowQ B) else partD (restR A) (restR B) := by
  have h1 := restR_len A
  have h2 := restR_len B
  rw [partD_ge (n := max A.length B.length + 1) (by omega) (by omega), partD_ge (a := restR A) (b := restR B) (n := max A.length B.length) (by omega) (by omega)]
  rfl

theorem qO19 (a b : List UInt8) (i k : Nat) : (rdn tabE2 h19 LC19 19 0 0 { tm := encGo (mbits 99 100) [.str a, .str b, .int .i64 i, .int .i64 k], ms := [], hp := [] }).run =
  bif decide ((↑i : Int) < (↑a.length : Int)) then
   bif isEn eL19_1 pL19_1 ([AV.str a, AV.str b, AV.int IntKind.i64 (↑i : Int), AV.int IntKind.i64 (↑k : Int)], []) then
    bif decide (plainD (rowP (List.drop (↑i : Int).toNat a)) (rowP (List.drop (↑k : Int).toNat b)) < (0 : Int)) then
     some ((AX.ret, { tm := tmOf 100 [(4, AV.int IntKind.i64 (-1 : Int))], ms := [], hp := [] }))
    else
     bif decide ((0 : Int) < plainD (rowP (List.drop (↑i : Int).toNat a)) (rowP (List.drop (↑k : Int).toNat b))) then
      some ((AX.ret, { tm := tmOf 100 [(4, AV.int IntKind.i64 (1 : Int))], ms := [], hp := [] }))
     else
      bif isEn eL19_2 pL19_2 ([AV.str a, AV.str b, AV.int IntKind.i64 (↑((↑i : Int).toNat + (rowP (List.drop (↑i : Int).toNat a)).length) : Int), AV.int IntKind.i64 (↑((↑k : Int).toNat + (rowP (List.drop (↑k : Int).toNat b)).length) : Int), AV.int IntKind.i64 (↑((↑i : Int).toNat + (rowP (List.drop (↑i : Int).toNat a)).length) : Int), AV.int IntKind.i64 (↑((↑k : Int).toNat + (rowP (List.drop (↑k : Int).toNat b)).length) : Int)], []) then
       bif isEn eL19_3 pL19_3 ([AV.str a, AV.str b, AV.int IntKind.i64 (↑(fxN digB a (↑((↑i : Int).toNat + (rowP (List.drop (↑i : Int).toNat a)).length) : Int).toNat) : Int), AV.int IntKind.i64 (↑(↑((↑k : Int).toNat + (rowP (List.drop (↑k : Int).toNat b)).length) : Int).toNat : Int), AV.int IntKind.i64 (↑(↑((↑i : Int).toNat + (rowP (List.drop (↑i : Int).toNat a)).length) : Int).toNat : Int), AV.int IntKind.i64 (↑(↑((↑k : Int).toNat + (rowP (List.drop (↑k : Int).toNat b)).length) : Int).toNat : Int)], []) then
        bif decide ((0 : Int) ≤ (↑(↑(↑((↑i : Int).toNat + (rowP (List.drop (↑i : Int).toNat a)).length) : Int).toNat : Int).toNat : Int) ∧ (↑(↑(↑((↑i : Int).toNat + (rowP (List.drop (↑i : Int).toNat a)).length) : Int).toNat : Int).toNat : Int) ≤ (↑(↑(fxN digB a (↑((↑i : Int).toNat + (rowP (List.drop (↑i : Int).toNat a)).length) : Int).toNat) : Int).toNat : Int) ∧ (↑(↑(fxN digB a (↑((↑i : Int).toNat + (rowP (List.drop (↑i : Int).toNat a)).length) : Int).toNat) : Int).toNat : Int) ≤ (↑a.length : Int)) then
         bif decide ((0 : Int) ≤ (↑(↑(↑((↑k : Int).toNat + (rowP (List.drop (↑k : Int).toNat b)).length) : Int).toNat : Int).toNat : Int) ∧ (↑(↑(↑((↑k : Int).toNat + (rowP (List.drop (↑k : Int).toNat b)).length) : Int).toNat : Int).toNat : Int) ≤ (↑(fxN digB b (↑(↑((↑k : Int).toNat + (rowP (List.drop (↑k : Int).toNat b)).length) : Int).toNat : Int).toNat) : Int) ∧ (↑(fxN digB b (↑(↑((↑k : Int).toNat + (rowP (List.drop (↑k : Int).toNat b)).length) : Int).toNat : Int).toNat) : Int) ≤ (↑b.length : Int)) then
          bif cmpD (List.take ((↑(↑(fxN digB a (↑((↑i : Int).toNat + (rowP (List.drop (↑i : Int).toNat a)).length) : Int).toNat) : Int).toNat : Int).toNat - (↑(↑(↑((↑i : Int).toNat + (rowP (List.drop (↑i : Int).toNat a)).length) : Int).toNat : Int).toNat : Int).toNat) (List.drop (↑(↑(↑((↑i : Int).toNat + (rowP (List.drop (↑i : Int).toNat a)).length) : Int).toNat : Int).toNat : Int).toNat a)) (List.take ((↑(fxN digB b (↑(↑((↑k : Int).toNat + (rowP (List.drop (↑k : Int).toNat b)).length) : Int).toNat : Int).toNat) : Int).toNat - (↑(↑(↑((↑k : Int).toNat + (rowP (List.drop (↑k : Int).toNat b)).length) : Int).toNat : Int).toNat : Int).toNat) (List.drop (↑(↑(↑((↑k : Int).toNat + (rowP (List.drop (↑k : Int).toNat b)).length) : Int).toNat : Int).toNat : Int).toNat b)) != (0 : Int) then
           some ((AX.ret, { tm := tmOf 100 [(4, AV.int IntKind.i64 (cmpD (List.take ((↑(↑(fxN digB a (↑((↑i : Int).toNat + (rowP (List.drop (↑i : Int).toNat a)).length) : Int).toNat) : Int).toNat : Int).toNat - (↑(↑(↑((↑i : Int).toNat + (rowP (List.drop (↑i : Int).toNat a)).length) : Int).toNat : Int).toNat : Int).toNat) (List.drop (↑(↑(↑((↑i : Int).toNat + (rowP (List.drop (↑i : Int).toNat a)).length) : Int).toNat : Int).toNat : Int).toNat a)) (List.take ((↑(fxN digB b (↑(↑((↑k : Int).toNat + (rowP (List.drop (↑k : Int).toNat b)).length) : Int).toNat : Int).toNat) : Int).toNat - (↑(↑(↑((↑k : Int).toNat + (rowP (List.drop (↑k : Int).toNat b)).length) : Int).toNat : Int).toNat : Int).toNat) (List.drop (↑(↑(↑((↑k : Int).toNat + (rowP (List.drop (↑k : Int).toNat b)).length) : Int).toNat : Int).toNat : Int).toNat b))))], ms := [], hp := [] }))
          else
           some ((AX.normal, { tm := tmOf 100 [(0, AV.str a), (1, AV.str b), (5, AV.int IntKind.i64 (↑(↑(fxN digB a (↑((↑i : Int).toNat + (rowP (List.drop (↑i : Int).toNat a)).length) : Int).toNat) : Int).toNat : Int)), (6, AV.int IntKind.i64 (↑(fxN digB b (↑(↑((↑k : Int).toNat + (rowP (List.drop (↑k : Int).toNat b)).length) : Int).toNat : Int).toNat) : Int))], ms := [], hp := [] }))
         else
          none
        else
         none
       else
        none
      else
       none
   else
    none
  else
   bif decide ((↑k : Int) < (↑b.length : Int)) then
    bif isEn eL19_1 pL19_1 ([AV.str a, AV.str b, AV.int IntKind.i64 (↑i : Int), AV.int IntKind.i64 (↑k : Int)], []) then
     bif decide (plainD (rowP (List.drop (↑i : Int).toNat a)) (rowP (List.drop (↑k : Int).toNat b)) < (0 : Int)) then
      some ((AX.ret, { tm := tmOf 100 [(4, AV.int IntKind.i64 (-1 : Int))], ms := [], hp := [] }))
     else
      bif decide ((0 : Int) < plainD (rowP (List.drop (↑i : Int).toNat a)) (rowP (List.drop (↑k : Int).toNat b))) then
       some ((AX.ret, { tm := tmOf 100 [(4, AV.int IntKind.i64 (1 : Int))], ms := [], hp := [] }))
      else
       bif isEn eL19_2 pL19_2 ([AV.str a, AV.str b, AV.int IntKind.i64 (↑((↑i : Int).toNat + (rowP (List.drop (↑i : Int).toNat a)).length) : Int), AV.int IntKind.i64 (↑((↑k : Int).toNat + (rowP (List.drop (↑k : Int).toNat b)).length) : Int), AV.int IntKind.i64 (↑((↑i : Int).toNat + (rowP (List.drop (↑i : Int).toNat a)).length) : Int), AV.int IntKind.i64 (↑((↑k : Int).toNat + (rowP (List.drop (↑k : Int).toNat b)).length) : Int)], []) then
        bif isEn eL19_3 pL19_3 ([AV.str a, AV.str b, AV.int IntKind.i64 (↑(fxN digB a (↑((↑i : Int).toNat + (rowP (List.drop (↑i : Int).toNat a)).length) : Int).toNat) : Int), AV.int IntKind.i64 (↑(↑((↑k : Int).toNat + (rowP (List.drop (↑k : Int).toNat b)).length) : Int).toNat : Int), AV.int IntKind.i64 (↑(↑((↑i : Int).toNat + (rowP (List.drop (↑i : Int).toNat a)).length) : Int).toNat : Int), AV.int IntKind.i64 (↑(↑((↑k : Int).toNat + (rowP (List.drop (↑k : Int).toNat b)).length) : Int).toNat : Int)], []) then
         bif decide ((0 : Int) ≤ (↑(↑(↑((↑i : Int).toNat + (rowP (List.drop (↑i : Int).toNat a)).length) : Int).toNat : Int).toNat : Int) ∧ (↑(↑(↑((↑i : Int).toNat + (rowP (List.drop (↑i : Int).toNat a)).length) : Int).toNat : Int).toNat : Int) ≤ (↑(↑(fxN digB a (↑((↑i : Int).toNat + (rowP (List.drop (↑i : Int).toNat a)).length) : Int).toNat) : Int).toNat : Int) ∧ (↑(↑(fxN digB a (↑((↑i : Int).toNat + (rowP (List.drop (↑i : Int).toNat a)).length) : Int).toNat) : Int).toNat : Int) ≤ (↑a.length : Int)) then
          bif decide ((0 : Int) ≤ (↑(↑(↑((↑k : Int).toNat + (rowP (List.drop (↑k : Int).toNat b)).length) : Int).toNat : Int).toNat : Int) ∧ (↑(↑(↑((↑k : Int).toNat + (rowP (List.drop (↑k : Int).toNat b)).length) : Int).toNat : Int).toNat : Int) ≤ (↑(fxN digB b (↑(↑((↑k : Int).toNat + (rowP (List.drop (↑k : Int).toNat b)).length) : Int).toNat : Int).toNat) : Int) ∧ (↑(fxN digB b (↑(↑((↑k : Int).toNat + (rowP (List.drop (↑k : Int).toNat b)).length) : Int).toNat : Int).toNat) : Int) ≤ (↑b.length : Int)) then
           bif cmpD (List.take ((↑(↑(fxN digB a (↑((↑i : Int).toNat + (rowP (List.drop (↑i : Int).toNat a)).length) : Int).toNat) : Int).toNat : Int).toNat - (↑(↑(↑((↑i : Int).toNat + (rowP (List.drop (↑i : Int).toNat a)).length) : Int).toNat : Int).toNat : Int).toNat) (List.drop (↑(↑(↑((↑i : Int).toNat + (rowP (List.drop (↑i : Int).toNat a)).length) : Int).toNat : Int).toNat : Int).toNat a)) (List.take ((↑(fxN digB b (↑(↑((↑k : Int).toNat + (rowP (List.drop (↑k : Int).toNat b)).length) : Int).toNat : Int).toNat) : Int).toNat - (↑(↑(↑((↑k : Int).toNat + (rowP (List.drop (↑k : Int).toNat b)).length) : Int).toNat : Int).toNat : Int).toNat) (List.drop (↑(↑(↑((↑k : Int).toNat + (rowP (List.drop (↑k : Int).toNat b)).length) : Int).toNat : Int).toNat : Int).toNat b)) != (0 : Int) then
            some ((AX.ret, { tm := tmOf 100 [(4, AV.int IntKind.i64 (cmpD (List.take ((↑(↑(fxN digB a (↑((↑i : Int).toNat + (rowP (List.drop (↑i : Int).toNat a)).length) : Int).toNat) : Int).toNat : Int).toNat - (↑(↑(↑((↑i : Int).toNat + (rowP (List.drop (↑i : Int).toNat a)).length) : Int).toNat : Int).toNat : Int).toNat) (List.drop (↑(↑(↑((↑i : Int).toNat + (rowP (List.drop (↑i : Int).toNat a)).length) : Int).toNat : Int).toNat : Int).toNat a)) (List.take ((↑(fxN digB b (↑(↑((↑k : Int).toNat + (rowP (List.drop (↑k : Int).toNat b)).length) : Int).toNat : Int).toNat) : Int).toNat - (↑(↑(↑((↑k : Int).toNat + (rowP (List.drop (↑k : Int).toNat b)).length) : Int).toNat : Int).toNat : Int).toNat) (List.drop (↑(↑(↑((↑k : Int).toNat + (rowP (List.drop (↑k : Int).toNat b)).length) : Int).toNat : Int).toNat : Int).toNat b))))], ms := [], hp := [] }))
           else
            some ((AX.normal, { tm := tmOf 100 [(0, AV.str a), (1, AV.str b), (5, AV.int IntKind.i64 (↑(↑(fxN digB a (↑((↑i : Int).toNat + (rowP (List.drop (↑i : Int).toNat a)).length) : Int).toNat) : Int).toNat : Int)), (6, AV.int IntKind.i64 (↑(fxN digB b (↑(↑((↑k : Int).toNat + (rowP (List.drop (↑k : Int).toNat b)).length) : Int).toNat : Int).toNat) : Int))], ms := [], hp := [] }))
          else
           none
         else
          none
        else
         none
       else
        none
    else
     none
   else
    some ((AX.exit 0, { tm := tmOf 100 [(0, AV.str a), (1, AV.str b), (5, AV.int IntKind.i64 (↑i : Int)), (6, AV.int IntKind.i64 (↑k : Int)), (21, AV.bool false)], ms := [], hp := [] })) := by kernel_rfl

theorem stepO (a b : List UInt8) (i k : Nat) (ha : a.length ≤ bnd) (hb : b.length ≤ bnd) (hi : i ≤ a.length) (hk : k ≤ b.length) : (rdn tabE2 h19 LC19 19 0 0 { tm := encGo (mbits 99 100) [.str a, .str b, .int .i64 i, .int .i64 k], ms := [], hp := [] }).run =
    bif decide (i < a.length) || decide (k < b.length) then
      bif decide (plainD (rowP (a.drop i)) (rowP (b.drop k)) < 0) then some (.ret, { tm := tmOf 100 [(4, .int .i64 (-1))], ms := [], hp := [] }) else
      bif decide (0 < plainD (rowP (a.drop i)) (rowP (b.drop k))) then some (.ret, { tm := tmOf 100 [(4, .int .i64 1)], ms := [], hp := [] }) else
      bif cmpD (rowQ (a.drop i)) (rowQ (b.drop k)) != 0 then some (.ret, { tm := tmOf 100 [(4, .int .i64 (cmpD (rowQ (a.drop i)) (rowQ (b.drop k))))], ms := [], hp := [] }) else
      some (.normal, { tm := tmOf 100 [(0, .str a), (1, .str b), (5, .int .i64 (fxN digB a (pI a i))), (6, .int .i64 (fxN digB b (pI b k)))], ms := [], hp := [] })
    else some (.exit 0, { tm := tmOf 100 [(0, .str a), (1, .str b), (5, .int .i64 i), (6, .int .i64 k), (21, .bool false)], ms := [], hp := [] }) := by
  refine (qO19 a b i k).trans ?_
  simp only [Int.toNat_natCast]
  have e1 : i + (rowP (a.drop i)).length = pI a i := rfl
  have e2 : k + (rowP (b.drop k)).length = pI b k := rfl
  simp only [e1, e2]
  have l1 := pI_le hi
  have l2 := pI_le hk
  obtain ⟨f1, f2⟩ := fxN_le (q := digB) l1
  obtain ⟨g1, g2⟩ := fxN_le (q := digB) l2
  rw [kL19_1 a b i k ⟨hi, hk, ha, hb⟩, kL19_2 a b (pI a i) (pI b k) (pI a i) (pI b k) ⟨l1, ha⟩, kL19_3 a b (fxN digB a (pI a i)) (pI b k) (pI a i) (pI b k) ⟨l2, hb⟩, rowQ_take, rowQ_take,
    decide_eq_true (show (0 : Int) ≤ (pI a i : Int) ∧ (pI a i : Int) ≤ (fxN digB a (pI a i) : Int) ∧ (fxN digB a (pI a i) : Int) ≤ (a.length : Int) by omega),
    decide_eq_true (show (0 : Int) ≤ (pI b k : Int) ∧ (pI b k : Int) ≤ (fxN digB b (pI b k) : Int) ∧ (fxN digB b (pI b k) : Int) ≤ (b.length : Int) by omega)]
  by_cases h1 : i < a.length
  · rw [decide_eq_true (show (i : Int) < a.length by omega), decide_eq_true h1]
    rfl
  · rw [decide_eq_false (show ¬ (i : Int) < a.length by omega), decide_eq_false h1]
    by_cases h2 : k < b.length
    · rw [decide_eq_true (show (k : Int) < b.length by omega), decide_eq_true h2]
      rfl
    · rw [decide_eq_false (show ¬ (k : Int) < b.length by omega), decide_eq_false h2]
      rfl

theorem partD_nil2 : partD [] [] = 0 := by
  rw [partD_ge (n := 0) (Nat.le_refl _) (Nat.le_refl _)]; rfl

theorem plainD_range (a b : List UInt8) : -1 ≤ plainD a b ∧ plainD a b ≤ 1 := plainL_range _ a b

structure Y19 where
  a : List UInt8
  b : List UInt8
  i : Nat
  k : Nat

def eL19 : Y19 → List AV × Hp := fun ⟨a, b, i, k⟩ => ([.str a, .str b, .int .i64 i, .int .i64 k], [])

def dL19 : List AV × Hp → Y19
  | ([.str a, .str b, .int .i64 i, .int .i64 k], []) => ⟨a, b, i.toNat, k.toNat⟩
  | _ => ⟨default, default, default, default⟩

def pL19 : Y19 → Prop := fun ⟨a, b, i, k⟩ => i ≤ a.length ∧ k ≤ b.length ∧ a.length ≤ bnd ∧ b.length ≤ bnd

def rL19 : Y19 → T (AX × St) := fun ⟨a, b, i, k⟩ => .br (decide (partD (a.drop i) (b.drop k) = 0)) (.leaf (.exit 0, { tm := tmOf 100 [(0, .str a), (1, .str b), (5, .int .i64 a.length), (6, .int .i64 b.length), (21, .bool false)], ms := [], hp := [] })) (.leaf (.ret, { tm := tmOf 100 [(4, .int .i64 (partD (a.drop i) (b.drop k)))], ms := [], hp := [] }))

noncomputable def L19 : LoopT := fun k => match Nat.beq k 300175 with
  | true => some (lccon (mbits 99 100) eL19 dL19 pL19 rL19)
  | false => LC19 k

theorem iL19 : ∀ x, dL19 (eL19 x) = x := by
  rintro ⟨a, b, i, k⟩
  simp only [eL19, dL19, Int.toNat_natCast]

theorem kL19 (a : List UInt8) (b : List UInt8) (i : Nat) (k : Nat) (h : i ≤ a.length ∧ k ≤ b.length ∧ a.length ≤ bnd ∧ b.length ≤ bnd) : isEn eL19 pL19 ([.str a, .str b, .int .i64 i, .int .i64 k], []) = true := isEn_true (enc := eL19) (p := pL19) ⟨a, b, i, k⟩ h

theorem l19 : LoopOk Tryd.prog tabE2.pf (fun n => hd Tryd.prog tabE2.pf tabE2.con.run (fun f => (H0 f).to) n 9) h19.to 19 0 none L19 (loopAt Tryd.prog 19 0) := by
  rw [show loopAt Tryd.prog 19 0 = .loop (lbody Tryd.prog 19 0) by kernel_rfl]
  refine loop_c (hdT_le (m := 20) 9) (m := 20) (lv := mbits 99 100) (p := pL19) (res := rL19) iL19 (within_of _ (by
      rw [show loopsOf (lbody Tryd.prog 19 0) = [loopAt Tryd.prog 19 1, loopAt Tryd.prog 19 2, loopAt Tryd.prog 19 3] by kernel_rfl]
      intro d hd
      simp only [List.mem_cons, List.not_mem_nil, or_false] at hd
      rcases hd with rfl | rfl | rfl
      · exact l19_1
      · exact l19_2
      · exact l19_3)) (by kernel_rfl) (fun ⟨a, b, i, k⟩ => (a.length - i) + (b.length - k)) ?_
  rintro ⟨a, b, i, k⟩ hp
  skip
  obtain ⟨h1, h2, h3, h4⟩ := hp
  have ht := stepO a b i k h3 h4 h1 h2
  have hr := plainD_range (rowP (a.drop i)) (rowP (b.drop k))
  have hs := partD_step (a.drop i) (b.drop k)
  by_cases hc : i < a.length ∨ k < b.length
  · rw [show (decide (i < a.length) || decide (k < b.length)) = true by simpa using hc, cond_true] at ht
    by_cases p1 : plainD (rowP (a.drop i)) (rowP (b.drop k)) < 0
    · rw [decide_eq_true p1, cond_true] at ht
      rw [if_pos (by omega)] at hs
      right
      refine ⟨_, ?_, ?_, ht⟩
      · simp
      · simp only [rL19, T.run_br]
        rw [hs, show plainD (rowP (a.drop i)) (rowP (b.drop k)) = -1 by omega]
        rfl
    · rw [decide_eq_false p1, cond_false] at ht
      by_cases p2 : 0 < plainD (rowP (a.drop i)) (rowP (b.drop k))
      · rw [decide_eq_true p2, cond_true] at ht
        rw [if_pos (by omega)] at hs
        right
        refine ⟨_, ?_, ?_, ht⟩
        · simp
        · simp only [rL19, T.run_br]
          rw [hs, show plainD (rowP (a.drop i)) (rowP (b.drop k)) = 1 by omega]
          rfl
      · rw [decide_eq_false p2, cond_false] at ht
        rw [if_neg (by omega)] at hs
        by_cases p3 : cmpD (rowQ (a.drop i)) (rowQ (b.drop k)) = 0
        · rw [p3] at ht hs
          rw [if_neg (by simp)] at hs
          left
          obtain ⟨f1, f2⟩ := fxN_le (q := digB) (pI_le h1)
          obtain ⟨g1, g2⟩ := fxN_le (q := digB) (pI_le h2)
          have u1 : i ≤ pI a i := by unfold pI; omega
          have u2 : k ≤ pI b k := by unfold pI; omega
          refine ⟨⟨a, b, fxN digB a (pI a i), fxN digB b (pI b k)⟩, ⟨f2, g2, h3, h4⟩, ?_, ?_, ht⟩
          · simp only
            rcases hc with q | q
            · have := fx_gt q; omega
            · have := fx_gt q; omega
          · simp only [rL19]
            rw [rest_drop, rest_drop, hs]
        · rw [show (cmpD (rowQ (a.drop i)) (rowQ (b.drop k)) != 0) = true by simpa using p3, cond_true] at ht
          rw [if_pos p3] at hs
          right
          refine ⟨_, ?_, ?_, ht⟩
          · simp
          · simp only [rL19, T.run_br]
            rw [hs, decide_eq_false p3]
            rfl
  · rw [show (decide (i < a.length) || decide (k < b.length)) = false by simp; omega, cond_false] at ht
    obtain rfl : i = a.length := by omega
    obtain rfl : k = b.length := by omega
    right
    refine ⟨_, ?_, ?_, ht⟩
    · simp
    · simp only [rL19, T.run_br, List.drop_length, partD_nil2]
      rfl

theorem t19 (a : List UInt8) (b : List UInt8) : (evn tabE2 h19 L19 19 [.str a, .str b] []).run =
  bif isEn eL19 pL19 ([AV.str a, AV.str b, AV.int IntKind.i64 (0 : Int), AV.int IntKind.i64 (0 : Int)], []) then
   bif decide (partD (List.drop 0 a) (List.drop 0 b) = (0 : Int)) then
    some ((AV.int IntKind.i64 (0 : Int), []))
   else
    some ((AV.int IntKind.i64 (partD (List.drop 0 a) (List.drop 0 b)), []))
  else
   none := by kernel_rfl

def c19 : List AV → T AV
  | [.str a, .str b] => .chk (decide (a.length ≤ bnd ∧ b.length ≤ bnd)) (.leaf (.int .i64 (partD a b)))
  | _ => .fail

theorem e19 (a : List UInt8) (b : List UInt8) (hF : FitsL [.str a, .str b]) (hp : a.length ≤ bnd ∧ b.length ≤ bnd) : (evn tabE2 h19 L19 19 [.str a, .str b] []).run = (.leaf (.int .i64 (partD a b)) : T AV).run.map fun r => (r, []) := by
  refine (t19 a b).trans ?_
  refine (cond_chk (isEn_true (enc := eL19) (p := pL19) ⟨a, b, 0, 0⟩ ⟨Nat.zero_le _, Nat.zero_le _, hp.1, hp.2⟩)).trans ?_
  by_cases h : partD a b = 0
  · have e : decide (partD (a.drop 0) (b.drop 0) = 0) = true := decide_eq_true h
    rw [e, h]; rfl
  · have e : decide (partD (a.drop 0) (b.drop 0) = 0) = false := decide_eq_false h
    rw [e]; rfl

theorem s19 : Sound1 Tryd.prog ⟨19, true, pcon c19⟩ := by
  refine sound_pureH (m := 20) (k := 9) (hn := h19) (Λ := L19) (soundTab_of all_tabE2) H0 (fourLoops (by kernel_rfl) l19 l19_1 l19_2 l19_3) fun args r hF h => ?_
  unfold c19 at h
  split at h
  · rename_i a b
    rw [T.run_chk] at h
    split at h
    · rename_i hp
      have he := e19 a b hF (of_decide_eq_true hp)
      rw [he, h]; rfl
    · cases h
  · cases h

noncomputable def tabE3 : Tab := ⟨19, true, pcon c19⟩ :: tabE2

theorem all_tabE3 : ∀ e, e ∈ tabE3 → Sound1 Tryd.prog e := (sound_mem_tab s19 all_tabE2)

theorem ok_tabE3 : SoundTab Tryd.prog tabE3 := soundTab_of all_tabE3
end Go.Deb
namespace Go.Deb

open Go Go.Proofs Go.Ab

set_option maxRecDepth 100000

set_option linter.unusedVariables false

set_option linter.unusedSimpArgs false

/-! ### dovetailref04.Order, Compare, Holds -/

theorem t21 (e : List UInt8) (u : List UInt8) (r : List UInt8) (e2 : List UInt8) (u2 : List UInt8) (r2 : List UInt8) : (evn tabE3 h21 noLoops 21 [.agg [.str e, .str u, .str r], .agg [.str e2, .str u2, .str r2]] []).run =
  bif decide (e.length + u.length + r.length + 2 ≤ 4611686018427387903) then
   bif !fitD e u r then
    some ((AV.int IntKind.i64 (0 : Int), []))
   else
    bif decide (e2.length + u2.length + r2.length + 2 ≤ 4611686018427387903) then
     bif !fitD e2 u2 r2 then
      some ((AV.int IntKind.i64 (0 : Int), []))
     else
      bif cmpD e e2 != (0 : Int) then
       some ((AV.int IntKind.i64 (cmpD e e2), []))
      else
       bif decide (u.length ≤ 4611686018427387903 ∧ u2.length ≤ 4611686018427387903) then
        bif partD u u2 != (0 : Int) then
         some ((AV.int IntKind.i64 (partD u u2), []))
        else
         bif decide (r.length ≤ 4611686018427387903 ∧ r2.length ≤ 4611686018427387903) then
          some ((AV.int IntKind.i64 (partD r r2), []))
         else
          none
       else
        none
    else
     none
  else
   none := by kernel_rfl

def c21 : List AV → T AV
  | [.agg [.str e, .str u, .str r], .agg [.str e2, .str u2, .str r2]] => .chk (decide (e.length + u.length + r.length + 2 ≤ bnd ∧ e2.length + u2.length + r2.length + 2 ≤ bnd)) (.leaf (.int .i64 (orderD e u r e2 u2 r2)))
  | _ => .fail

theorem e21 (e : List UInt8) (u : List UInt8) (r : List UInt8) (e2 : List UInt8) (u2 : List UInt8) (r2 : List UInt8) (hF : FitsL [.agg [.str e, .str u, .str r], .agg [.str e2, .str u2, .str r2]]) (hp : e.length + u.length + r.length + 2 ≤ bnd ∧ e2.length + u2.length + r2.length + 2 ≤ bnd) : (evn tabE3 h21 noLoops 21 [.agg [.str e, .str u, .str r], .agg [.str e2, .str u2, .str r2]] []).run = (.leaf (.int .i64 (orderD e u r e2 u2 r2)) : T AV).run.map fun r => (r, []) := by
  refine (t21 e u r e2 u2 r2).trans ?_
  obtain ⟨p1, p2⟩ := hp
  simp only [bnd] at p1 p2
  rw [decide_eq_true p1, decide_eq_true p2, decide_eq_true (show u.length ≤ 4611686018427387903 ∧ u2.length ≤ 4611686018427387903 by omega), decide_eq_true (show r.length ≤ 4611686018427387903 ∧ r2.length ≤ 4611686018427387903 by omega)]
  unfold orderD
  cases fitD e u r
  · rfl
  · cases fitD e2 u2 r2
    · rfl
    · by_cases h1 : cmpD e e2 = 0
      · by_cases h2 : partD u u2 = 0
        · simp [h1, h2]
        · rw [show (partD u u2 != 0) = true by simpa using h2]
          simp [h1, h2]
      · rw [show (cmpD e e2 != 0) = true by simpa using h1]
        simp [h1]

theorem s21 : Sound1 Tryd.prog ⟨21, true, pcon c21⟩ := by
  refine sound_pureH (m := 20) (k := 9) (hn := h21) (Λ := noLoops) (soundTab_of all_tabE3) H0 (fun i hi => anyLoops) fun args r hF h => ?_
  unfold c21 at h
  split at h
  · rename_i e u r e2 u2 r2
    rw [T.run_chk] at h
    split at h
    · rename_i hp
      have he := e21 e u r e2 u2 r2 hF (of_decide_eq_true hp)
      rw [he, h]; rfl
    · cases h
  · cases h

noncomputable def tabE4 : Tab := ⟨21, true, pcon c21⟩ :: tabE3

theorem all_tabE4 : ∀ e, e ∈ tabE4 → Sound1 Tryd.prog e := (sound_mem_tab s21 all_tabE3)

theorem ok_tabE4 : SoundTab Tryd.prog tabE4 := soundTab_of all_tabE4

theorem bytes_truth (a b : List UInt8) : IntKind.i64.wrap ((truthZ !(abytesLess a b || a == b)) - truthZ (abytesLess a b)) = Lib.compareBytes a b := by
  have hu := bytes_unit a b
  rw [abytesLess_iff, bytes_eqz]
  rcases (by omega : Lib.compareBytes a b = -1 ∨ Lib.compareBytes a b = 0 ∨ Lib.compareBytes a b = 1) with e | e | e <;> rw [e] <;> rfl

theorem t22 (a : List UInt8) (b : List UInt8) : (evn tabE4 h22 noLoops 22 [.str a, .str b] []).run =
  bif (parseD a).snd.fst != (0 : Int) then
   bif (parseD a).snd.fst != (0 : Int) then
    bif (parseD b).snd.fst != (0 : Int) then
     some ((AV.int IntKind.i64 (IntKind.i64.wrap ((truthZ !(abytesLess a b || a == b)) - truthZ (abytesLess a b))), []))
    else
     some ((AV.int IntKind.i64 (IntKind.i64.wrap (truthZ ((parseD a).snd.fst == (0 : Int)) - truthZ ((parseD b).snd.fst == (0 : Int)))), []))
   else
    some ((AV.int IntKind.i64 (IntKind.i64.wrap (truthZ ((parseD a).snd.fst == (0 : Int)) - truthZ ((parseD b).snd.fst == (0 : Int)))), []))
  else
   bif (parseD b).snd.fst != (0 : Int) then
    bif (parseD a).snd.fst != (0 : Int) then
     bif (parseD b).snd.fst != (0 : Int) then
      some ((AV.int IntKind.i64 (IntKind.i64.wrap ((truthZ !(abytesLess a b || a == b)) - truthZ (abytesLess a b))), []))
     else
      some ((AV.int IntKind.i64 (IntKind.i64.wrap (truthZ ((parseD a).snd.fst == (0 : Int)) - truthZ ((parseD b).snd.fst == (0 : Int)))), []))
    else
     some ((AV.int IntKind.i64 (IntKind.i64.wrap (truthZ ((parseD a).snd.fst == (0 : Int)) - truthZ ((parseD b).snd.fst == (0 : Int)))), []))
   else
    bif decide ((parseD a).fst.fst.length + (parseD a).fst.snd.fst.length + (parseD a).fst.snd.snd.length + 2 ≤ 4611686018427387903 ∧ (parseD b).fst.fst.length + (parseD b).fst.snd.fst.length + (parseD b).fst.snd.snd.length + 2 ≤ 4611686018427387903) then
     some ((AV.int IntKind.i64 (orderD (parseD a).fst.fst (parseD a).fst.snd.fst (parseD a).fst.snd.snd (parseD b).fst.fst (parseD b).fst.snd.fst (parseD b).fst.snd.snd), []))
    else
     none := by kernel_rfl

def c22 : List AV → T AV
  | [.str a, .str b] => .leaf (.int .i64 (compareD a b))
  | _ => .fail

theorem e22 (a : List UInt8) (b : List UInt8) (hF : FitsL [.str a, .str b]) : (evn tabE4 h22 noLoops 22 [.str a, .str b] []).run = (.leaf (.int .i64 (compareD a b)) : T AV).run.map fun r => (r, []) := by
  refine (t22 a b).trans ?_
  have ha := parse_len a
  have hb := parse_len b
  have g : decide ((parseD a).fst.fst.length + (parseD a).fst.snd.fst.length + (parseD a).fst.snd.snd.length + 2 ≤ 4611686018427387903 ∧ (parseD b).fst.fst.length + (parseD b).fst.snd.fst.length + (parseD b).fst.snd.snd.length + 2 ≤ 4611686018427387903) = true := decide_eq_true (by omega)
  rw [g, bytes_truth, show ((parseD a).2.1 == 0) = okP a from rfl, show ((parseD b).2.1 == 0) = okP b from rfl, show ((parseD a).2.1 != 0) = !okP a from rfl, show ((parseD b).2.1 != 0) = !okP b from rfl]
  unfold compareD
  rw [show orderD (parseD a).fst.fst (parseD a).fst.snd.fst (parseD a).fst.snd.snd (parseD b).fst.fst (parseD b).fst.snd.fst (parseD b).fst.snd.snd = ordP a b from rfl]
  cases okP a <;> cases okP b <;> rfl

theorem s22 : Sound1 Tryd.prog ⟨22, true, pcon c22⟩ := by
  refine sound_pureH (m := 20) (k := 9) (hn := h22) (Λ := noLoops) (soundTab_of all_tabE4) H0 (fun i hi => anyLoops) fun args r hF h => ?_
  unfold c22 at h
  split at h
  · rename_i a b
    have he := e22 a b hF
    rw [he, h]; rfl
  · cases h

noncomputable def tabE5 : Tab := ⟨22, true, pcon c22⟩ :: tabE4

theorem all_tabE5 : ∀ e, e ∈ tabE5 → Sound1 Tryd.prog e := (sound_mem_tab s22 all_tabE4)

theorem ok_tabE5 : SoundTab Tryd.prog tabE5 := soundTab_of all_tabE5

def hldD (a o b : List UInt8) : Bool :=
  bif (parseD a).2.1 != 0 then false else bif (parseD b).2.1 != 0 then false else
  bif o == [60, 60] then decide (compareD a b < 0) else bif o == [60, 61] then decide (compareD a b ≤ 0) else bif o == [61] then compareD a b == 0 else
  bif o == [62, 61] then decide (compareD a b ≥ 0) else bif o == [62, 62] then decide (compareD a b > 0) else false

theorem t23h (a : List UInt8) (o : List UInt8) (b : List UInt8) : (evn tabE5 h23 noLoops 23 [.str a, .str o, .str b] []).run =
  bif (parseD a).snd.fst != (0 : Int) then
   some ((AV.bool false, []))
  else
   bif (parseD b).snd.fst != (0 : Int) then
    some ((AV.bool false, []))
   else
    bif o == [(60 : UInt8), (60 : UInt8)] then
     some ((AV.bool (decide (compareD a b < (0 : Int))), []))
    else
     bif o == [(60 : UInt8), (61 : UInt8)] then
      some ((AV.bool (decide (compareD a b ≤ (0 : Int))), []))
     else
      bif o == [(61 : UInt8)] then
       some ((AV.bool (compareD a b == (0 : Int)), []))
      else
       bif o == [(62 : UInt8), (61 : UInt8)] then
        some ((AV.bool (decide (compareD a b ≥ (0 : Int))), []))
       else
        bif o == [(62 : UInt8), (62 : UInt8)] then
         some ((AV.bool (decide (compareD a b > (0 : Int))), []))
        else
         some ((AV.bool false, [])) := by kernel_rfl

def c23h : List AV → T AV
  | [.str a, .str o, .str b] => .leaf (.bool (hldD a o b))
  | _ => .fail

theorem e23h (a : List UInt8) (o : List UInt8) (b : List UInt8) (hF : FitsL [.str a, .str o, .str b]) : (evn tabE5 h23 noLoops 23 [.str a, .str o, .str b] []).run = (.leaf (.bool (hldD a o b)) : T AV).run.map fun r => (r, []) := by
  refine (t23h a o b).trans ?_
  unfold hldD
  cases ((parseD a).2.1 != 0)
  · cases ((parseD b).2.1 != 0)
    · cases (o == [60, 60])
      · cases (o == [60, 61])
        · cases (o == [61])
          · cases (o == [62, 61])
            · cases (o == [62, 62])
              · rfl
              · rfl
            · rfl
          · rfl
        · rfl
      · rfl
    · rfl
  · rfl

theorem s23h : Sound1 Tryd.prog ⟨23, true, pcon c23h⟩ := by
  refine sound_pureH (m := 20) (k := 9) (hn := h23) (Λ := noLoops) (soundTab_of all_tabE5) H0 (fun i hi => anyLoops) fun args r hF h => ?_
  unfold c23h at h
  split at h
  · rename_i a o b
    have he := e23h a o b hF
    rw [he, h]; rfl
  · cases h

theorem t24h (a : List UInt8) (o : List UInt8) (b : List UInt8) : (evn tabE5 h24 noLoops 24 [.str a, .str o, .str b] []).run =
  bif (parseD a).snd.fst != (0 : Int) then
   some ((AV.bool false, []))
  else
   bif (parseD b).snd.fst != (0 : Int) then
    some ((AV.bool false, []))
   else
    bif o == [(60 : UInt8), (60 : UInt8)] then
     some ((AV.bool (decide (compareD a b < (0 : Int))), []))
    else
     bif o == [(60 : UInt8), (61 : UInt8)] then
      some ((AV.bool (decide (compareD a b ≤ (0 : Int))), []))
     else
      bif o == [(61 : UInt8)] then
       some ((AV.bool (compareD a b == (0 : Int)), []))
      else
       bif o == [(62 : UInt8), (61 : UInt8)] then
        some ((AV.bool (decide (compareD a b ≥ (0 : Int))), []))
       else
        bif o == [(62 : UInt8), (62 : UInt8)] then
         some ((AV.bool (decide (compareD a b > (0 : Int))), []))
        else
         some ((AV.bool false, [])) := by kernel_rfl

def c24h : List AV → T AV
  | [.str a, .str o, .str b] => .leaf (.bool (hldD a o b))
  | _ => .fail

theorem e24h (a : List UInt8) (o : List UInt8) (b : List UInt8) (hF : FitsL [.str a, .str o, .str b]) : (evn tabE5 h24 noLoops 24 [.str a, .str o, .str b] []).run = (.leaf (.bool (hldD a o b)) : T AV).run.map fun r => (r, []) := by
  refine (t24h a o b).trans ?_
  unfold hldD
  cases ((parseD a).2.1 != 0)
  · cases ((parseD b).2.1 != 0)
    · cases (o == [60, 60])
      · cases (o == [60, 61])
        · cases (o == [61])
          · cases (o == [62, 61])
            · cases (o == [62, 62])
              · rfl
              · rfl
            · rfl
          · rfl
        · rfl
      · rfl
    · rfl
  · rfl

theorem s24h : Sound1 Tryd.prog ⟨24, true, pcon c24h⟩ := by
  refine sound_pureH (m := 20) (k := 9) (hn := h24) (Λ := noLoops) (soundTab_of all_tabE5) H0 (fun i hi => anyLoops) fun args r hF h => ?_
  unfold c24h at h
  split at h
  · rename_i a o b
    have he := e24h a o b hF
    rw [he, h]; rfl
  · cases h

noncomputable def tabE6 : Tab := ⟨23, true, pcon c23h⟩ :: ⟨24, true, pcon c24h⟩ :: tabE5

theorem all_tabE6 : ∀ e, e ∈ tabE6 → Sound1 Tryd.prog e := (sound_mem_tab s23h (sound_mem_tab s24h all_tabE5))

theorem ok_tabE6 : SoundTab Tryd.prog tabE6 := soundTab_of all_tabE6
end Go.Deb

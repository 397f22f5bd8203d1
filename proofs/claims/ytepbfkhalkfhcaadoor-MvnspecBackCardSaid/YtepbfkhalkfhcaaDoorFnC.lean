/- Lemmas for the claims of this seat (a verified symbolic evaluator, and contracts of functions): own work; no condition. -/
import Derived.Test.YtepbfkhalkfhcaaDoorFnB
namespace Go.Mvs

open Go Go.Proofs Go.Ab

set_option maxRecDepth 100000

set_option linter.unusedVariables false

set_option linter.unusedSimpArgs false

/-! ### Tokens: the bytes -/

def vb (b : UInt8) : Bool := vB (b.toNat : Int)

structure Y26 where
  s : List UInt8
  i : Nat

def eL26 : Y26 → List AV × Hp := fun ⟨s, i⟩ => ([.str s, .nilsl, .ref 0 0, .int .i64 s.length, .int .i64 i], [some (.cells [.int .i64 0, .int .i64 0])])

def dL26 : List AV × Hp → Y26
  | ([.str s, .nilsl, .ref _ _, .int .i64 _, .int .i64 i], [some (.cells [.int .i64 _, .int .i64 _])]) => ⟨s, i.toNat⟩
  | _ => ⟨default, default⟩

def pL26 : Y26 → Prop := fun ⟨s, i⟩ => i ≤ s.length ∧ s.length ≤ bnd

def rL26 : Y26 → T (AX × St) := fun ⟨s, i⟩ => .br (decide (fxN vb s i < s.length)) (.leaf (.ret, { tm := tmOf 38 [(2, .nilsl), (3, .ref 0 0)], ms := [], hp := [some (.cells [.int .i64 10, .int .i64 (fxN vb s i)])] })) (.leaf (.exit 0, { tm := tmOf 38 [(0, .str s), (2, .nilsl), (3, .ref 0 0), (15, .int .i64 s.length), (16, .int .i64 s.length), (17, .bool false)], ms := [], hp := [some (.cells [.int .i64 0, .int .i64 0])] }))

noncomputable def LA26 : LoopT := fun k => match Nat.beq k 600032 with
  | true => some (lccon (mbits 98317 38) eL26 dL26 pL26 rL26)
  | false => none

theorem iL26 : ∀ x, dL26 (eL26 x) = x := by
  rintro ⟨s, i⟩
  simp only [eL26, dL26, Int.toNat_natCast]

theorem kL26 (s : List UInt8) (i : Nat) (h : i ≤ s.length ∧ s.length ≤ bnd) : isEn eL26 pL26 ([.str s, .nilsl, .ref 0 0, .int .i64 s.length, .int .i64 i], [some (.cells [.int .i64 0, .int .i64 0])]) = true := isEn_true (enc := eL26) (p := pL26) ⟨s, i⟩ h

theorem zL26 (s : List UInt8) (h : pL26 ⟨s, 0⟩) : isEn eL26 pL26 ([.str s, .nilsl, .ref 0 0, .int .i64 s.length, .int .i64 (0 : Int)], [some (.cells [.int .i64 0, .int .i64 0])]) = true := isEn_true (enc := eL26) (p := pL26) ⟨s, 0⟩ h

theorem q26 (s : List UInt8) (i : Nat) : (rdn tabM h26 LA26 26 0 0 { tm := encGo (mbits 98317 38) [.str s, .nilsl, .ref 0 0, .int .i64 s.length, .int .i64 i], ms := [], hp := [some (.cells [.int .i64 0, .int .i64 0])] }).run =
  bif decide ((↑i : Int) < (↑s.length : Int)) then
   bif decide ((0 : Int) ≤ (↑i : Int) ∧ (↑i : Int) < (↑s.length : Int)) then
    bif !vB (↑(s.getD (↑i : Int).toNat (0 : UInt8)).toNat : Int) then
     some ((AX.ret, { tm := tmOf 38 [(2, AV.nilsl), (3, AV.ref 0 0)], ms := [], hp := [some (AObj.cells [AV.int IntKind.i64 (10 : Int), AV.int IntKind.i64 (↑i : Int)])] }))
    else
     some ((AX.normal, { tm := tmOf 38 [(0, AV.str s), (2, AV.nilsl), (3, AV.ref 0 0), (15, AV.int IntKind.i64 (↑s.length : Int)), (16, AV.int IntKind.i64 (IntKind.i64.wrap ((↑i : Int) + (1 : Int))))], ms := [], hp := [some (AObj.cells [AV.int IntKind.i64 (0 : Int), AV.int IntKind.i64 (0 : Int)])] }))
   else
    none
  else
   some ((AX.exit 0, { tm := tmOf 38 [(0, AV.str s), (2, AV.nilsl), (3, AV.ref 0 0), (15, AV.int IntKind.i64 (↑s.length : Int)), (16, AV.int IntKind.i64 (↑i : Int)), (17, AV.bool false)], ms := [], hp := [some (AObj.cells [AV.int IntKind.i64 (0 : Int), AV.int IntKind.i64 (0 : Int)])] })) := by kernel_rfl

theorem l26 : LoopOk Tryd.prog tabM.pf (fun n => hd Tryd.prog tabM.pf tabM.con.run (fun f => (H0 f).to) n 9) h26.to 26 0 none LA26 (loopAt Tryd.prog 26 0) := by
  rw [show loopAt Tryd.prog 26 0 = .loop (lbody Tryd.prog 26 0) by kernel_rfl]
  refine loop_c (hdT_le (m := 20) 9) (m := 20) (lv := mbits 98317 38) (p := pL26) (res := rL26) iL26 (within_of _ (by rw [show loopsOf (lbody Tryd.prog 26 0) = [] by kernel_rfl]; simp)) (by kernel_rfl) (fun ⟨s, i⟩ => s.length - i) ?_
  rintro ⟨s, i⟩ hp
  have ht := q26 s i
  obtain ⟨h1, h2⟩ := hp
  simp only [bnd] at h2
  by_cases hl : i < s.length
  · rw [decide_eq_true (show (i : Int) < s.length by omega), byte_at hl, Int.toNat_natCast, w64n (by omega)] at ht
    rw [show vB ((s.getD i 0).toNat : Int) = vb (s.getD i 0) from rfl] at ht
    dsimp only [cond_true] at ht
    have hd := fxN_step (q := vb) 0 hl
    cases hq : vb (s.getD i 0) with
    | false =>
      rw [hq] at ht hd
      right
      rw [cond_false] at hd
      refine ⟨_, ?_, ?_, ht⟩
      · simp
      · simp only [rL26, T.run_br, hd, decide_eq_true hl, if_true] <;> rfl
    | true =>
      rw [hq] at ht hd
      left
      rw [cond_true] at hd
      refine ⟨⟨s, i + 1⟩, ⟨by omega, by simpa only [bnd] using h2⟩, by simp only; omega, ?_, ht⟩
      simp only [rL26, T.run_br, hd]
  · have he : i = s.length := by omega
    right
    rw [decide_eq_false (show ¬ (i : Int) < s.length by omega)] at ht
    have hd := fxN_end (q := vb) (show s.length ≤ i by omega)
    refine ⟨_, ?_, ?_, ht⟩
    · simp
    · simp only [rL26, T.run_br, hd, decide_eq_false hl]
      rw [he] <;> rfl
end Go.Mvs
namespace Go.Mvs
open Go Go.Proofs Go.Ab
set_option maxRecDepth 100000
set_option linter.unusedVariables false
set_option linter.unusedSimpArgs false

/-! ### tokens: the iterator's loops, as Tokens runs them -/
noncomputable def lo26 (st : LoopState) (pe : Option Code) : AObj := match loopAt Tryd.prog 26 1 with
  | .rangeFunc _ ps ag bo => .loop 26 st pe (tmOf 38 [(2, AV.nilsl), (3, AV.ref 0 0), (5, AV.ref 1 0), (28, AV.fn 49 [AV.ref 2 0])]) ps ag bo 3
  | _ => .dfr
noncomputable def hp26 (s : List UInt8) (l : AV) (r : Hp) (st : LoopState) (pe : Option Code) : Hp :=
  [some (.cells [.int .i64 0, .int .i64 0]), some (.cells [l]), some (.cells [.str s]), some .dfr, some (lo26 st pe)] ++ r
def hs26 : FuncId → HintsT := fun f => match Nat.beq f 49 with
  | true => h49
  | false => match Nat.beq f 26 with
    | true => h26
    | false => ⟨0, [], []⟩
noncomputable abbrev hd26 (k : Nat) : HdT := hdT Tryd.prog tabM.pf tabM.con hs26 20 k

def ndB (b : UInt8) : Bool := !partB (b.toNat : Int) && !dig (b.toNat : Int)

noncomputable def sK (s : List UInt8) (d : Bool) (a k : Int) (cell : AV) (rows : Hp) : St :=
  { tm := encGo (mbits 59 78) [.yield 4, .ref 2 0, .bool d, .int .i64 a, .int .i64 k], ms := [], hp := hp26 s cell rows .ready none }
noncomputable def oK (s : List UInt8) (d : Bool) (a k : Int) (cell : AV) (rows : Hp) : AX × St :=
  (.exit 2, { tm := tmOf 78 [(0, .yield 4), (1, .ref 2 0), (3, .bool d), (4, .int .i64 a), (5, .int .i64 k), (38, .bool false)], ms := [], hp := hp26 s cell rows .ready none })

structure Y49 where
  s : List UInt8
  d : Bool
  a : Int
  k : Nat
  cell : AV
  rows : Hp
noncomputable def eK51 : Y49 → List AV × Hp := fun ⟨s, d, a, k, cell, rows⟩ => ([.yield 4, .ref 2 0, .bool d, .int .i64 a, .int .i64 k], hp26 s cell rows .ready none)
def dK51 : List AV × Hp → Y49
  | ([.yield _, .ref _ _, .bool d, .int .i64 a, .int .i64 k], some (.cells _) :: some (.cells [cell]) :: some (.cells [.str s]) :: _ :: _ :: rows) => ⟨s, d, a, k.toNat, cell, rows⟩
  | _ => ⟨[], false, 0, 0, .junk, []⟩
/-- The list so far: nil, or a row. -/
def RowsOk (cell : AV) (rows : Hp) : Prop := (cell = .nilsl ∧ rows = []) ∨ ∃ n f, cell = .row 5 3 0 n ∧ rows = [some (.row 3 n f)]
def pK51 : Y49 → Prop := fun ⟨s, d, a, k, cell, rows⟩ => k ≤ s.length ∧ s.length ≤ bnd ∧ RowsOk cell rows
noncomputable def rK51 : Y49 → T (AX × St) := fun ⟨s, d, a, k, cell, rows⟩ => .leaf (oK s d a (fxN ndB s k) cell rows)
theorem iK51 : ∀ x, dK51 (eK51 x) = x := by
  rintro ⟨s, d, a, k, cell, rows⟩
  rfl
noncomputable def LK51 : LoopT := fun k => match Nat.beq k 400029 with
  | true => some (lccon (mbits 59 78) eK51 dK51 pK51 rK51)
  | false => none

noncomputable def rndK (s : List UInt8) (d : Bool) (a k : Int) (cell : AV) (rows : Hp) : Option (AX × St) :=
  bif decide (k < (s.length : Int)) then
   bif decide (0 ≤ k ∧ k < (s.length : Int)) then
    bif !partB ((s.getD k.toNat 0).toNat : Int) then
     bif decide (0 ≤ k ∧ k < (s.length : Int)) then
      bif !isC 1 ((s.getD k.toNat 0).toNat : Int) then some (.normal, sK s d a (IntKind.i64.wrap (k + 1)) cell rows)
      else some (oK s d a k cell rows)
     else none
    else some (oK s d a k cell rows)
   else none
  else some (oK s d a k cell rows)
theorem rKa (s : List UInt8) (d : Bool) (a k : Int) (Λ : LoopT) : (roundT Tryd.prog tabM.pf (hd26 8) h49 49 5 none 20 Λ (lbody Tryd.prog 49 1) (sK s d a k .nilsl [])).run = rndK s d a k .nilsl [] := by kernel_rfl
theorem rKb (s : List UInt8) (d : Bool) (a k : Int) (n : Nat) (f : Nat → Nat → AV) (Λ : LoopT) : (roundT Tryd.prog tabM.pf (hd26 8) h49 49 5 none 20 Λ (lbody Tryd.prog 49 1) (sK s d a k (.row 5 3 0 n) [some (.row 3 n f)])).run = rndK s d a k (.row 5 3 0 n) [some (.row 3 n f)] := by kernel_rfl

theorem lK51 (Λ : LoopT) (hΛ : Λ (lkey (lbody Tryd.prog 49 1)) = some (lccon (mbits 59 78) eK51 dK51 pK51 rK51)) : LoopOk Tryd.prog tabM.pf (fun n => hd Tryd.prog tabM.pf tabM.con.run (fun f => (hs26 f).to) n 8) h49.to 49 5 none Λ (loopAt Tryd.prog 49 1) := by
  rw [show loopAt Tryd.prog 49 1 = .loop (lbody Tryd.prog 49 1) by kernel_rfl]
  refine loop_c (hdT_le (m := 20) 8) (m := 20) (lv := mbits 59 78) (p := pK51) (res := rK51) iK51 (within_of _ (by rw [show loopsOf (lbody Tryd.prog 49 1) = [] by kernel_rfl]; simp)) hΛ (fun ⟨s, d, a, k, cell, rows⟩ => s.length - k) ?_
  rintro ⟨s, d, a, k, cell, rows⟩ ⟨h1, h2, h3⟩
  have hb := h2
  simp only [bnd] at hb
  have ht : (roundT Tryd.prog tabM.pf (hd26 8) h49 49 5 none 20 Λ (lbody Tryd.prog 49 1) (sK s d a k cell rows)).run = rndK s d a k cell rows := by
    rcases h3 with ⟨rfl, rfl⟩ | ⟨n, f, rfl, rfl⟩
    · exact rKa s d a k Λ
    · exact rKb s d a k n f Λ
  unfold rndK at ht
  by_cases hl : k < s.length
  · have hd := fxN_step (q := ndB) 0 hl
    rw [decide_eq_true (show (k : Int) < s.length by omega), in_row hl, Int.toNat_natCast, w64n (by omega), show isC 1 ((s.getD k 0).toNat : Int) = dig ((s.getD k 0).toNat : Int) from rfl] at ht
    simp only [cond_true] at ht
    cases hq : ndB (s.getD k 0) with
    | true =>
      rw [hq] at hd
      have hq' := hq
      unfold ndB at hq'
      simp only [Bool.and_eq_true] at hq'
      rw [hq'.1, hq'.2] at ht
      simp only [cond_true] at ht
      left
      refine ⟨⟨s, d, a, k + 1, cell, rows⟩, ⟨by omega, h2, h3⟩, by simp only; omega, ?_, ht⟩
      simp only [rK51, T.run_leaf, hd, cond_true]
    | false =>
      rw [hq] at hd
      have ht2 : (roundT Tryd.prog tabM.pf (hd26 8) h49 49 5 none 20 Λ (lbody Tryd.prog 49 1) (sK s d a k cell rows)).run = some (oK s d a k cell rows) := by
        rw [ht]
        unfold ndB at hq
        cases hp : partB ((s.getD k 0).toNat : Int) with
        | true => rfl
        | false =>
          rw [hp] at hq
          simp only [Bool.not_false, Bool.true_and] at hq
          rw [hq]
          rfl
      right
      refine ⟨_, ?_, ?_, ht2⟩
      · simp [oK]
      · simp only [rK51, T.run_leaf, hd, cond_false]
  · have he : k = s.length := by omega
    right
    rw [decide_eq_false (show ¬ (k : Int) < s.length by omega)] at ht
    refine ⟨_, ?_, ?_, ht⟩
    · simp [oK]
    · simp only [rK51, T.run_leaf, fxN_end (q := ndB) (show s.length ≤ k by omega)] <;> rfl
end Go.Mvs
namespace Go.Mvs
open Go Go.Proofs Go.Ab
set_option maxRecDepth 100000
set_option linter.unusedVariables false
set_option linter.unusedSimpArgs false

/-! ### tokens: one token -/
noncomputable def sO (s : List UInt8) (d : Bool) (a : Int) (cell : AV) (rows : Hp) : St :=
  { tm := encGo (mbits 27 78) [.yield 4, .ref 2 0, .bool d, .int .i64 a], ms := [], hp := hp26 s cell rows .ready none }
def oneR (d : Bool) (x : List UInt8) (near : Bool) : Nat → Nat → AV := fun i => rowF 3 [.bool d, .bool (tokN x), .str (tokS x near)] (0 + i)
def cutX (s : List UInt8) (a k : Int) : List UInt8 := List.take (k.toNat - a.toNat) (List.drop a.toNat s)
def tmE (k : Int) : Tm := tmOf 78 [(0, .yield 4), (1, .ref 2 0), (5, .int .i64 k), (66, .bool true)]
noncomputable def lastA (s : List UInt8) (d : Bool) (a k : Int) (near : Bool) : AX × St :=
  (.ret, { tm := tmE k, ms := [], hp := hp26 s (.row 6 3 0 1) [some (.cells [.bool d, .str (cutX s a k), .bool near]), some (.row 3 1 (oneR d (cutX s a k) near))] .ready none })
noncomputable def lastB (s : List UInt8) (d : Bool) (a k : Int) (near : Bool) (n : Nat) (f : Nat → Nat → AV) : AX × St :=
  (.ret, { tm := tmE k, ms := [], hp := hp26 s (.row 7 3 0 (n + 1)) [none, some (.cells [.bool d, .str (cutX s a k), .bool near]), some (.row 3 (n + 1) (appF n f (oneR d (cutX s a k) near)))] .ready none })
noncomputable def aftG (s : List UInt8) (k : Int) (last : AX × St) (cell : AV) (rows : Hp) : Option (AX × St) :=
  bif decide (k ≥ (s.length : Int)) then some last else
   bif decide (0 ≤ k ∧ k < (s.length : Int)) then
    bif partB ((s.getD k.toNat 0).toNat : Int) then
     bif decide (0 ≤ k ∧ k < (s.length : Int)) then some (.normal, sO s (((s.getD k.toNat 0).toNat : Int) == 45) (IntKind.i64.wrap (k + 1)) cell rows) else none
    else some (.normal, sO s true k cell rows)
   else none
noncomputable def aftA (s : List UInt8) (d : Bool) (a k : Int) (near : Bool) : Option (AX × St) :=
  aftG s k (lastA s d a k near) (.row 5 3 0 1) [some (.row 3 1 (oneR d (cutX s a k) near))]
noncomputable def aftB (s : List UInt8) (d : Bool) (a k : Int) (n : Nat) (f : Nat → Nat → AV) (near : Bool) : Option (AX × St) :=
  bif decide (n = n) then bif decide ((n + 1) * 24 ≤ 140737488355328 ∧ n + 1 ≤ 4611686018427387903) then
    aftG s k (lastB s d a k near n f) (.row 5 3 0 (n + 1)) [some (.row 3 (n + 1) (appF n f (oneR d (cutX s a k) near)))] else none else none
noncomputable def tailG (s : List UInt8) (a k : Int) (aft : Bool → Option (AX × St)) : Option (AX × St) :=
  bif decide (0 ≤ a ∧ a ≤ k ∧ k ≤ (s.length : Int)) then
   bif decide (k < (s.length : Int)) then
    bif decide (0 ≤ k ∧ k < (s.length : Int)) then aft (isC 1 ((s.getD k.toNat 0).toNat : Int)) else none
   else aft false
  else none
noncomputable def rndO (s : List UInt8) (d : Bool) (a : Int) (cell : AV) (rows : Hp) (tail : Int → Option (AX × St)) : Option (AX × St) :=
  bif decide (a < (s.length : Int)) then
   bif decide (0 ≤ a ∧ a < (s.length : Int)) then
    bif isC 1 ((s.getD a.toNat 0).toNat : Int) then tail (runD s a)
    else bif isEn eK51 pK51 ([.yield 4, .ref 2 0, .bool d, .int .i64 a, .int .i64 a], hp26 s cell rows .ready none) then tail (fxN ndB s a.toNat) else none
   else none
  else bif isEn eK51 pK51 ([.yield 4, .ref 2 0, .bool d, .int .i64 a, .int .i64 a], hp26 s cell rows .ready none) then tail (fxN ndB s a.toNat) else none
theorem rOa (s : List UInt8) (d : Bool) (a : Int) : (roundT Tryd.prog tabM.pf (hd26 8) h49 49 5 none 20 LK51 (lbody Tryd.prog 49 0) (sO s d a .nilsl [])).run =
  rndO s d a .nilsl [] fun k => tailG s a k (aftA s d a k) := by kernel_rfl
theorem rOb (s : List UInt8) (d : Bool) (a : Int) (n : Nat) (f : Nat → Nat → AV) : (roundT Tryd.prog tabM.pf (hd26 8) h49 49 5 none 20 LK51 (lbody Tryd.prog 49 0) (sO s d a (.row 5 3 0 n) [some (.row 3 n f)])).run =
  rndO s d a (.row 5 3 0 n) [some (.row 3 n f)] fun k => tailG s a k (aftB s d a k n f) := by kernel_rfl
end Go.Mvs
namespace Go.Mvs
open Go Go.Proofs Go.Ab
set_option maxRecDepth 100000
set_option linter.unusedVariables false
set_option linter.unusedSimpArgs false

/-! ### tokens: all of them -/
def digC (b : UInt8) : Bool := dig (b.toNat : Int)
def partC (b : UInt8) : Bool := partB (b.toNat : Int)
/-- Where the token that begins at a place ends. -/
def kN (s : List UInt8) (a : Nat) : Nat := if a < s.length ∧ digC (s.getD a 0) = true then a + runL (s.drop a) else fxN ndB s a
def nearN (s : List UInt8) (k : Nat) : Bool := decide (k < s.length) && digC (s.getD k 0)
def nextB (s : List UInt8) (k : Nat) : Bool := bif partC (s.getD k 0) then ((s.getD k 0).toNat : Int) == 45 else true
def nextA (s : List UInt8) (k : Nat) : Nat := bif partC (s.getD k 0) then k + 1 else k
def pushR (rows : Hp) (g : Nat → Nat → AV) : AV × Hp := match rows with
  | [some (.row _ n f)] => (.row 5 3 0 (n + 1), [some (.row 3 (n + 1) (appF n f g))])
  | _ => (.row 5 3 0 1, [some (.row 3 1 g)])
noncomputable def lastR (s : List UInt8) (d : Bool) (a k : Nat) (rows : Hp) : AX × St := match rows with
  | [some (.row _ n f)] => lastB s d a k (nearN s k) n f
  | _ => lastA s d a k (nearN s k)
noncomputable def outR : Nat → List UInt8 → Bool → Nat → Hp → AX × St
  | 0, s, d, a, rows => (.ret, sO s d a .nilsl [])
  | m + 1, s, d, a, rows => if s.length ≤ kN s a then lastR s d a (kN s a) rows else
    outR m s (nextB s (kN s a)) (nextA s (kN s a)) (pushR rows (oneR d (cutX s a (kN s a)) (nearN s (kN s a)))).2

theorem runL_pos {s : List UInt8} {a : Nat} (h : a < s.length) (hd : digC (s.getD a 0) = true) : 0 < runL (s.drop a) := by
  rw [dropD (0 : UInt8) h]
  unfold runL
  rw [List.takeWhile_cons, if_pos (show digB (s.getD a 0) = true from hd)]
  simp
theorem kN_le {s : List UInt8} {a : Nat} (h : a ≤ s.length) : a ≤ kN s a ∧ kN s a ≤ s.length := by
  unfold kN
  split
  · have := runL_le (s.drop a)
    rw [List.length_drop] at this
    omega
  · exact fxN_le h
theorem next_gt {s : List UInt8} {a : Nat} (h : a ≤ s.length) (hk : kN s a < s.length) : a < nextA s (kN s a) ∧ nextA s (kN s a) ≤ s.length := by
  have h1 := kN_le h
  have h2 : nextA s (kN s a) = kN s a + 1 ∨ nextA s (kN s a) = kN s a := by
    unfold nextA
    cases partC (s.getD (kN s a) 0) <;> simp
  refine ⟨?_, by omega⟩
  rcases Nat.lt_or_ge a (kN s a) with hl | hg
  · omega
  · have he : kN s a = a := by omega
    have ha : a < s.length := by omega
    rw [he]
    have hd : digC (s.getD a 0) = false := by
      rw [Bool.eq_false_iff]
      intro hd
      have := runL_pos ha hd
      unfold kN at he
      rw [if_pos ⟨ha, hd⟩] at he
      omega
    have hn : ndB (s.getD a 0) = false := by
      rw [Bool.eq_false_iff]
      intro hn
      unfold kN at he
      rw [if_neg (fun q => by rw [hd] at q; cases q.2)] at he
      have h3 := fxN_step (q := ndB) 0 ha
      rw [hn, cond_true] at h3
      have := (fxN_le (q := ndB) (s := s) (i := a + 1) (by omega)).1
      omega
    have hp : partC (s.getD a 0) = true := by
      unfold ndB at hn
      rw [show dig ((s.getD a 0).toNat : Int) = false from hd] at hn
      show partB ((s.getD a 0).toNat : Int) = true
      simpa using hn
    unfold nextA
    rw [hp]
    simp
theorem outR_fuel : ∀ (m m' : Nat) (s : List UInt8) (d : Bool) (a : Nat) (rows : Hp), a ≤ s.length → s.length - a < m → s.length - a < m' → outR m s d a rows = outR m' s d a rows
  | 0, m', s, d, a, rows, h0, h, h' => by omega
  | m + 1, 0, s, d, a, rows, h0, h, h' => by omega
  | m + 1, m' + 1, s, d, a, rows, h0, h, h' => by
    unfold outR
    split
    · rfl
    · rename_i hk
      have := next_gt h0 (by omega)
      exact outR_fuel m m' s _ _ _ this.2 (by omega) (by omega)

structure Z51 where
  s : List UInt8
  d : Bool
  a : Nat
  cell : AV
  rows : Hp
noncomputable def eZ51 : Z51 → List AV × Hp := fun ⟨s, d, a, cell, rows⟩ => ([.yield 4, .ref 2 0, .bool d, .int .i64 a], hp26 s cell rows .ready none)
def dZ51 : List AV × Hp → Z51
  | ([.yield _, .ref _ _, .bool d, .int .i64 a], some (.cells _) :: some (.cells [cell]) :: some (.cells [.str s]) :: _ :: _ :: rows) => ⟨s, d, a.toNat, cell, rows⟩
  | _ => ⟨[], false, 0, .junk, []⟩
def pY51 : Z51 → Prop := fun ⟨s, d, a, cell, rows⟩ => a ≤ s.length ∧ s.length ≤ 64 ∧ ((cell = .nilsl ∧ rows = []) ∨ ∃ n f, cell = .row 5 3 0 n ∧ rows = [some (.row 3 n f)] ∧ n ≤ a)
noncomputable def oZ51 : Z51 → AX × St := fun ⟨s, d, a, cell, rows⟩ => outR (s.length + 1 - a) s d a rows
def pZ51 (o : AX × St) : Z51 → Prop := fun z => pY51 z ∧ oZ51 z = o
noncomputable def rZ51 (o : AX × St) : Z51 → T (AX × St) := fun _ => .leaf o
theorem iZ51 : ∀ x, dZ51 (eZ51 x) = x := by
  rintro ⟨s, d, a, cell, rows⟩
  rfl
noncomputable def LO51 (o : AX × St) : LoopT := fun k => match Nat.beq k 100113 with
  | true => some (lccon (mbits 27 78) eZ51 dZ51 (pZ51 o) (rZ51 o))
  | false => LK51 k
theorem rOa' (o : AX × St) (s : List UInt8) (d : Bool) (a : Int) : (roundT Tryd.prog tabM.pf (hd26 8) h49 49 5 none 20 (LO51 o) (lbody Tryd.prog 49 0) (sO s d a .nilsl [])).run =
  rndO s d a .nilsl [] fun k => tailG s a k (aftA s d a k) := by kernel_rfl
theorem rOb' (o : AX × St) (s : List UInt8) (d : Bool) (a : Int) (n : Nat) (f : Nat → Nat → AV) : (roundT Tryd.prog tabM.pf (hd26 8) h49 49 5 none 20 (LO51 o) (lbody Tryd.prog 49 0) (sO s d a (.row 5 3 0 n) [some (.row 3 n f)])).run =
  rndO s d a (.row 5 3 0 n) [some (.row 3 n f)] fun k => tailG s a k (aftB s d a k n f) := by kernel_rfl

theorem kK51 (s : List UInt8) (d : Bool) (a : Nat) (cell : AV) (rows : Hp) (h : a ≤ s.length) (h2 : s.length ≤ 64) (h3 : RowsOk cell rows) :
    isEn eK51 pK51 ([.yield 4, .ref 2 0, .bool d, .int .i64 (a : Int), .int .i64 (a : Int)], hp26 s cell rows .ready none) = true :=
  isEn_true (enc := eK51) (p := pK51) ⟨s, d, a, a, cell, rows⟩ ⟨h, by simp only [bnd]; omega, h3⟩
theorem rndO_run {s : List UInt8} {d : Bool} {a : Nat} {cell : AV} {rows : Hp} {tail : Int → Option (AX × St)} (h : a ≤ s.length) (h2 : s.length ≤ 64) (h3 : RowsOk cell rows) : rndO s d (a : Int) cell rows tail = tail (kN s a : Int) := by
  unfold rndO kN
  rw [kK51 s d a cell rows h h2 h3]
  by_cases ha : a < s.length
  · rw [decide_eq_true (show (a : Int) < s.length by omega), in_row ha, Int.toNat_natCast]
    simp only [cond_true]
    rw [show isC 1 ((s.getD a 0).toNat : Int) = digC (s.getD a 0) from rfl]
    cases hd : digC (s.getD a 0) with
    | true =>
      rw [cond_true, if_pos ⟨ha, rfl⟩]
      congr 1
      unfold runD
      rw [if_neg (by omega), Int.toNat_natCast]
      omega
    | false => rw [cond_false, if_neg (fun q => by cases q.2)]
  · rw [decide_eq_false (show ¬ (a : Int) < s.length by omega), if_neg (fun q => ha q.1), Int.toNat_natCast]
    rfl
theorem tailG_run {s : List UInt8} {a k : Nat} {aft : Bool → Option (AX × St)} (h1 : a ≤ k) (h2 : k ≤ s.length) : tailG s (a : Int) (k : Int) aft = aft (nearN s k) := by
  unfold tailG nearN
  rw [decide_eq_true (by omega), cond_true]
  by_cases hk : k < s.length
  · rw [decide_eq_true (show (k : Int) < s.length by omega), in_row hk, decide_eq_true hk, Int.toNat_natCast]
    rfl
  · rw [decide_eq_false (show ¬ (k : Int) < s.length by omega), decide_eq_false hk]
    rfl
theorem aftG_last {s : List UInt8} {k : Nat} {last : AX × St} {cell : AV} {rows : Hp} (h : s.length ≤ k) : aftG s (k : Int) last cell rows = some last := by
  unfold aftG
  rw [decide_eq_true (by omega)]
  rfl
theorem aftG_next {s : List UInt8} {k : Nat} {last : AX × St} {cell : AV} {rows : Hp} (h : k < s.length) (h2 : s.length ≤ 64) : aftG s (k : Int) last cell rows = some (.normal, sO s (nextB s k) (nextA s k : Int) cell rows) := by
  unfold aftG nextB nextA
  rw [decide_eq_false (by omega), in_row h, Int.toNat_natCast, w64n (by omega)]
  simp only [cond_true, cond_false]
  rw [show partB ((s.getD k 0).toNat : Int) = partC (s.getD k 0) from rfl]
  cases partC (s.getD k 0) <;> rfl
theorem lO51 (o : AX × St) : LoopOk Tryd.prog tabM.pf (fun n => hd Tryd.prog tabM.pf tabM.con.run (fun f => (hs26 f).to) n 8) h49.to 49 5 none (LO51 o) (loopAt Tryd.prog 49 0) := by
  rw [show loopAt Tryd.prog 49 0 = .loop (lbody Tryd.prog 49 0) by kernel_rfl]
  refine loop_c (hdT_le (m := 20) 8) (m := 20) (lv := mbits 27 78) (p := pZ51 o) (res := rZ51 o) iZ51 (within_of _ (by
      rw [show loopsOf (lbody Tryd.prog 49 0) = [loopAt Tryd.prog 49 1] by kernel_rfl]
      intro d hd
      simp only [List.mem_cons, List.not_mem_nil, or_false] at hd
      subst hd
      exact lK51 (LO51 o) (by kernel_rfl))) (by kernel_rfl) (fun ⟨s, d, a, cell, rows⟩ => s.length + 1 - a) ?_
  rintro ⟨s, d, a, cell, rows⟩ ⟨⟨h1, h2, h3⟩, ho⟩
  have hk := kN_le h1
  have hF : s.length + 1 - a = (s.length - a) + 1 := by omega
  have step : ∀ (cell' : AV) (last : AX × St), (last = lastR s d a (kN s a) rows) → last.1 ≠ .normal → cell' = (pushR rows (oneR d (cutX s a (kN s a)) (nearN s (kN s a)))).1 →
      (roundT Tryd.prog tabM.pf (hd26 8) h49 49 5 none 20 (LO51 o) (lbody Tryd.prog 49 0) (sO s d a cell rows)).run = aftG s (kN s a : Int) last cell' (pushR rows (oneR d (cutX s a (kN s a)) (nearN s (kN s a)))).2 →
      pY51 ⟨s, nextB s (kN s a), nextA s (kN s a), cell', (pushR rows (oneR d (cutX s a (kN s a)) (nearN s (kN s a)))).2⟩ ∨ s.length ≤ kN s a →
      (∃ y, pZ51 o y ∧ (match y with | ⟨s, d, a, cell, rows⟩ => s.length + 1 - a) < s.length + 1 - a ∧ (rZ51 o y).run = (rZ51 o ⟨s, d, a, cell, rows⟩).run ∧ (roundT Tryd.prog tabM.pf (hd26 8) h49 49 5 none 20 (LO51 o) (lbody Tryd.prog 49 0) { tm := encGo (mbits 27 78) (eZ51 ⟨s, d, a, cell, rows⟩).1, ms := [], hp := (eZ51 ⟨s, d, a, cell, rows⟩).2 }).run = some (.normal, { tm := encGo (mbits 27 78) (eZ51 y).1, ms := [], hp := (eZ51 y).2 })) ∨
      (∃ q, q.1 ≠ .normal ∧ (rZ51 o ⟨s, d, a, cell, rows⟩).run = some q ∧ (roundT Tryd.prog tabM.pf (hd26 8) h49 49 5 none 20 (LO51 o) (lbody Tryd.prog 49 0) { tm := encGo (mbits 27 78) (eZ51 ⟨s, d, a, cell, rows⟩).1, ms := [], hp := (eZ51 ⟨s, d, a, cell, rows⟩).2 }).run = some q) := by
    intro cell' last hl hn hc ht hp
    simp only [oZ51, hF, outR] at ho
    by_cases hx : s.length ≤ kN s a
    · right
      rw [aftG_last hx] at ht
      rw [if_pos hx, ← hl] at ho
      exact ⟨last, hn, by simp only [rZ51, T.run_leaf, ho], ht⟩
    · left
      rw [aftG_next (by omega) h2] at ht
      rw [if_neg hx] at ho
      have hg := next_gt h1 (by omega)
      have hp := hp.resolve_right hx
      refine ⟨_, ⟨hp, ?_⟩, by simp only; omega, rfl, ht⟩
      rw [← ho]
      exact outR_fuel (s.length + 1 - nextA s (kN s a)) (s.length - a) s _ _ _ hg.2 (by omega) (by omega)
  rcases h3 with ⟨rfl, rfl⟩ | ⟨n, f, rfl, rfl, hn⟩
  · have ht := rOa' o s d a
    rw [rndO_run h1 h2 (.inl ⟨rfl, rfl⟩), tailG_run hk.1 hk.2] at ht
    refine step _ _ rfl (by simp [lastR, lastA]) rfl ht ?_
    by_cases hx : s.length ≤ kN s a
    · exact .inr hx
    · have hg := next_gt h1 (by omega)
      exact .inl ⟨hg.2, h2, .inr ⟨1, _, rfl, rfl, by omega⟩⟩
  · have ht := rOb' o s d a n f
    rw [rndO_run h1 h2 (.inr ⟨n, f, rfl, rfl⟩), tailG_run hk.1 hk.2] at ht
    unfold aftB at ht
    rw [decide_eq_true rfl, cond_true, decide_eq_true (by omega), cond_true] at ht
    refine step _ _ rfl (by simp [lastR, lastB]) rfl ht ?_
    by_cases hx : s.length ≤ kN s a
    · exact .inr hx
    · have hg := next_gt h1 (by omega)
      exact .inl ⟨hg.2, h2, .inr ⟨n + 1, _, rfl, rfl, by omega⟩⟩

/-! ### What is told of the last token -/
def rowsOf (n : Nat) (f : Nat → Nat → AV) : Hp := match n with
  | 0 => []
  | n + 1 => [some (.row 3 (n + 1) f)]
def appG (n : Nat) (f g : Nat → Nat → AV) : Nat → Nat → AV := match n with
  | 0 => g
  | n + 1 => appF (n + 1) f g
structure Fin8 where
  d : Bool
  a : Nat
  n : Nat
  f : Nat → Nat → AV
def outP : Nat → List UInt8 → Bool → Nat → Nat → (Nat → Nat → AV) → Fin8
  | 0, s, d, a, n, f => ⟨d, a, n, f⟩
  | m + 1, s, d, a, n, f => if s.length ≤ kN s a then ⟨d, a, n, f⟩ else
    outP m s (nextB s (kN s a)) (nextA s (kN s a)) (n + 1) (appG n f (oneR d (cutX s a (kN s a)) (nearN s (kN s a))))
noncomputable def lastP (s : List UInt8) (p : Fin8) : AX × St := match p.n with
  | 0 => lastA s p.d p.a (kN s p.a) (nearN s (kN s p.a))
  | n + 1 => lastB s p.d p.a (kN s p.a) (nearN s (kN s p.a)) (n + 1) p.f
theorem outR_outP : ∀ (m : Nat) (s : List UInt8) (d : Bool) (a n : Nat) (f : Nat → Nat → AV), a ≤ s.length → s.length - a < m → outR m s d a (rowsOf n f) = lastP s (outP m s d a n f)
  | 0, s, d, a, n, f, h0, h => by omega
  | m + 1, s, d, a, n, f, h0, h => by
    unfold outR outP
    by_cases hk : s.length ≤ kN s a
    · rw [if_pos hk, if_pos hk]
      cases n <;> rfl
    · rw [if_neg hk, if_neg hk]
      have hg := next_gt h0 (by omega)
      rw [← outR_outP m s _ _ _ _ hg.2 (by omega)]
      cases n <;> rfl
end Go.Mvs
namespace Go.Mvs
open Go Go.Proofs Go.Ab
set_option maxRecDepth 100000
set_option linter.unusedVariables false
set_option linter.unusedSimpArgs false

/-! ### Tokens: the range over tokens -/
theorem t49a (s : List UInt8) (d : Bool) (a k : Int) (near : Bool) : (evFnT Tryd.prog tabM.pf (hd26 8) h49 20 (LO51 (lastA s d a k near)) 49 [.yield 4, .ref 2 0] (hp26 s .nilsl [] .ready none)).run =
  bif isEn eZ51 (pZ51 (lastA s d a k near)) ([.yield 4, .ref 2 0, .bool false, .int .i64 0], hp26 s .nilsl [] .ready none) then some (.tup [], hp26 s (.row 5 3 0 1) [some (.row 3 1 (oneR d (cutX s a k) near))] .ready none) else none := by kernel_rfl
theorem t49b (s : List UInt8) (d : Bool) (a k : Int) (near : Bool) (n : Nat) (f : Nat → Nat → AV) : (evFnT Tryd.prog tabM.pf (hd26 8) h49 20 (LO51 (lastB s d a k near n f)) 49 [.yield 4, .ref 2 0] (hp26 s .nilsl [] .ready none)).run =
  bif isEn eZ51 (pZ51 (lastB s d a k near n f)) ([.yield 4, .ref 2 0, .bool false, .int .i64 0], hp26 s .nilsl [] .ready none) then some (.tup [], hp26 s (.row 5 3 0 (n + 1)) [some (.row 3 (n + 1) (appF n f (oneR d (cutX s a k) near)))] .ready none) else none := by kernel_rfl

def fin8 (s : List UInt8) : Fin8 := outP (s.length + 1) s false 0 0 (fun _ _ => .junk)
def tokC (s : List UInt8) : Nat := (fin8 s).n + 1
def tokR (s : List UInt8) : Nat → Nat → AV := appG (fin8 s).n (fin8 s).f (oneR (fin8 s).d (cutX s (fin8 s).a (kN s (fin8 s).a)) (nearN s (kN s (fin8 s).a)))
theorem run49 (s : List UInt8) (h : s.length ≤ 64) : (evFnT Tryd.prog tabM.pf (hd26 8) h49 20 (LO51 (lastP s (fin8 s))) 49 [.yield 4, .ref 2 0] (hp26 s .nilsl [] .ready none)).run = some (.tup [], hp26 s (.row 5 3 0 (tokC s)) [some (.row 3 (tokC s) (tokR s))] .ready none) := by
  have hp : isEn eZ51 (pZ51 (lastP s (fin8 s))) ([.yield 4, .ref 2 0, .bool false, .int .i64 0], hp26 s .nilsl [] .ready none) = true :=
    isEn_true (enc := eZ51) (p := pZ51 (lastP s (fin8 s))) ⟨s, false, 0, .nilsl, []⟩ ⟨⟨Nat.zero_le _, h, .inl ⟨rfl, rfl⟩⟩, outR_outP (s.length + 1) s false 0 0 _ (Nat.zero_le _) (by omega)⟩
  revert hp
  unfold tokC tokR
  generalize fin8 s = p
  obtain ⟨d, a, n, f⟩ := p
  cases n with
  | zero =>
    intro hp
    have ht := t49a s d a (kN s a) (nearN s (kN s a))
    rw [show lastA s d a (kN s a) (nearN s (kN s a)) = lastP s ⟨d, a, 0, f⟩ from rfl, hp] at ht
    exact ht
  | succ n =>
    intro hp
    have ht := t49b s d a (kN s a) (nearN s (kN s a)) (n + 1) f
    rw [show lastB s d a (kN s a) (nearN s (kN s a)) (n + 1) f = lastP s ⟨d, a, n + 1, f⟩ from rfl, hp] at ht
    exact ht

def tm26 : Tm := tmOf 38 [(2, AV.nilsl), (3, AV.ref 0 0), (5, AV.ref 1 0), (28, AV.fn 49 [AV.ref 2 0])]
def st26 (s : List UInt8) : St := { tm := tm26, ms := [], hp := [some (.cells [.int .i64 0, .int .i64 0]), some (.cells [.nilsl]), some (.cells [.str s])] }
def o26 (s : List UInt8) : AX × St := (.normal, { tm := tm26, ms := [3], hp := [some (.cells [.int .i64 0, .int .i64 0]), some (.cells [.row 5 3 0 (tokC s)]), some (.cells [.str s]), some .dfr, none, some (.row 3 (tokC s) (tokR s))] })
open Classical in
noncomputable def D26 (st : St) : T (AX × St) := match st.hp with
  | _ :: _ :: some (.cells [.str s]) :: _ => .chk (decide (st = st26 s ∧ s.length ≤ 64)) (.leaf (o26 s))
  | _ => .fail
noncomputable def LB26 : LoopT := fun k => match Nat.beq k 1450008 with
  | true => some D26
  | false => LA26 k
def rfF : Code → Operand
  | .rangeFunc f _ _ _ => f
  | _ => .tmp 0
def rfP : Code → Array Tmp
  | .rangeFunc _ ps _ _ => ps
  | _ => #[]
def rfA : Code → Code
  | .rangeFunc _ _ ag _ => ag
  | _ => .skip
def rfB : Code → Code
  | .rangeFunc _ _ _ bo => bo
  | _ => .skip
theorem rf26 : loopAt Tryd.prog 26 1 = .rangeFunc (rfF (loopAt Tryd.prog 26 1)) (rfP (loopAt Tryd.prog 26 1)) (rfA (loopAt Tryd.prog 26 1)) (rfB (loopAt Tryd.prog 26 1)) := by kernel_rfl
theorem rk26 : rkey (rfB (loopAt Tryd.prog 26 1)) = 1450008 := by kernel_rfl
theorem rv26 : aeval tm26 (rfF (loopAt Tryd.prog 26 1)) = .fn 49 [.ref 2 0] := by kernel_rfl
theorem rh26 (s : List UInt8) : (st26 s).hp ++ [some .dfr] ++ [some (.loop 26 .ready none tm26 (rfP (loopAt Tryd.prog 26 1)) (rfA (loopAt Tryd.prog 26 1)) (rfB (loopAt Tryd.prog 26 1)) (st26 s).hp.length)] = hp26 s .nilsl [] .ready none := by kernel_rfl
theorem re26 (s : List UInt8) (n : Nat) (f : Nat → Nat → AV) : rangeEnd ((st26 s).hp.length + 1) ((st26 s).hp.length :: (st26 s).ms) tm26 (hp26 s (.row 5 3 0 n) [some (.row 3 n f)] .ready none) = some (.normal, { tm := tm26, ms := [3], hp := [some (.cells [.int .i64 0, .int .i64 0]), some (.cells [.row 5 3 0 n]), some (.cells [.str s]), some .dfr, none, some (.row 3 n f)] }) := by kernel_rfl
theorem l26_1 : LoopOk Tryd.prog tabM.pf (fun n => hd Tryd.prog tabM.pf tabM.con.run (fun f => (hs26 f).to) n 9) h26.to 26 0 none LB26 (loopAt Tryd.prog 26 1) := by
  rw [rf26]
  intro l hl s r hr
  have hl' : l = D26 := by
    rw [rk26] at hl
    simp only [LB26] at hl
    exact (Option.some.inj hl).symm
  subst hl'
  unfold D26 at hr
  split at hr
  · rename_i _ _ s rest hs
    rw [T.run_chk] at hr
    split at hr
    · rename_i hc
      simp only [decide_eq_true_eq] at hc
      obtain ⟨rfl, hb⟩ := hc
      simp only [T.run_leaf, Option.some.injEq] at hr
      subst hr
      obtain ⟨n0, h0⟩ := evFnT_le (H := fun n => hd Tryd.prog tabM.pf tabM.con.run (fun f => (hs26 f).to) n 8) (hdT_le (m := 20) 8) (within_at (twoLoops (by kernel_rfl) (lO51 _) (lK51 _ (by kernel_rfl)))) (run49 s hb)
      refine ⟨n0, fun n hn => ?_⟩
      have h0 := h0 n hn
      unfold evRange
      have he : enterable Tryd.prog 49 = true := by kernel_rfl
      have hcon : tabM.con.run 49 = none := by kernel_rfl
      simp only [show (st26 s).tm = tm26 from rfl, rv26, he, if_true, rh26, hd, hcon]
      have h1 : evFn Tryd.prog tabM.pf (hd Tryd.prog tabM.pf tabM.con.run (fun f => (hs26 f).to) n 8) (hs26 49).to n 49 [AV.yield ((st26 s).hp.length + 1), AV.ref 2 0] (hp26 s .nilsl [] .ready none) = some (.tup [], hp26 s (.row 5 3 0 (tokC s)) [some (.row 3 (tokC s) (tokR s))] .ready none) := h0
      rw [h1]
      exact re26 s _ _
    · cases hr
  · cases hr
end Go.Mvs
namespace Go.Mvs
open Go Go.Proofs Go.Ab
set_option maxRecDepth 100000
set_option linter.unusedVariables false
set_option linter.unusedSimpArgs false

/-! ### Tokens -/
open Classical in
theorem t26 (s : List UInt8) : (evFnT Tryd.prog tabM.pf (hdT Tryd.prog tabM.pf tabM.con hs26 20 9) h26 20 LB26 26 [.str s] []).run =
  bif decide ((s.length : Int) > 64) then some (.tup [.nilsl, .agg [.int .i64 12, .int .i64 64]], []) else
  bif s == [] then some (.tup [.nilsl, .agg [.int .i64 11, .int .i64 0]], []) else
  bif isEn eL26 pL26 ([.str s, .nilsl, .ref 0 0, .int .i64 (s.length : Int), .int .i64 0], [some (.cells [.int .i64 0, .int .i64 0])]) then
   bif decide (fxN vb s 0 < s.length) then some (.tup [.nilsl, .agg [.int .i64 10, .int .i64 (fxN vb s 0 : Int)]], []) else
   bif decide (st26 s = st26 s ∧ s.length ≤ 64) then
    bif decide (3 = 3 ∧ ∀ i c, i < tokC s → c < 3 → tokR s i c = rowT (unT (tokR s)) i c) then
     bif isEn en41 pS41 ([.row 0 3 0 (tokC s)], [some (.row 3 (tokC s) (rowT (unT (tokR s))))]) then
      bif (trimA (unT (rowT (unT (tokR s)))) (tokC s)).2.beq 0 then some (.tup [.row 0 3 0 1, .agg [.int .i64 0, .int .i64 0]], [some (.row 3 1 (rowT oneZ))])
      else some (.tup [.row 0 3 0 (trimA (unT (rowT (unT (tokR s)))) (tokC s)).2, .agg [.int .i64 0, .int .i64 0]], [some (.row 3 (tokC s) (rowT (undash (trimA (unT (rowT (unT (tokR s)))) (tokC s)).1)))])
     else none
    else none
   else none
  else none := by kernel_rfl

/-- The row holds tokens, as far as it reaches. -/
def TokRow (n : Nat) (f : Nat → Nat → AV) : Prop := ∃ h : Nat → Tok, ∀ i c, i < n → c < 3 → f i c = rowT h i c
theorem TokRow.un {n : Nat} {f : Nat → Nat → AV} (h : TokRow n f) : ∀ i c, i < n → c < 3 → f i c = rowT (unT f) i c := by
  obtain ⟨h, hh⟩ := h
  intro i c hi hc
  have e : unT f i = h i := by
    unfold unT
    rw [hh i 0 hi (by omega), hh i 1 hi (by omega), hh i 2 hi (by omega)]
    rfl
  rw [hh i c hi hc]
  unfold rowT
  rw [e]
theorem oneR_row (d : Bool) (x : List UInt8) (near : Bool) : ∀ c, c < 3 → oneR d x near 0 c = rowT (fun _ => ⟨d, tokN x, tokS x near⟩) 0 c := by
  intro c hc
  match c, hc with
  | 0, _ => rfl
  | 1, _ => rfl
  | 2, _ => rfl
theorem TokRow.app {n : Nat} {f : Nat → Nat → AV} (h : n = 0 ∨ TokRow n f) (d : Bool) (x : List UInt8) (near : Bool) : TokRow (n + 1) (appG n f (oneR d x near)) := by
  cases n with
  | zero =>
    refine ⟨fun _ => ⟨d, tokN x, tokS x near⟩, fun i c hi hc => ?_⟩
    obtain rfl : i = 0 := by omega
    exact oneR_row d x near c hc
  | succ n =>
    obtain ⟨h, hh⟩ := h.resolve_left (by omega)
    refine ⟨fun i => if i < n + 1 then h i else ⟨d, tokN x, tokS x near⟩, fun i c hi hc => ?_⟩
    show appF (n + 1) f (oneR d x near) i c = _
    unfold appF
    by_cases hl : i < n + 1
    · rw [if_pos hl, hh i c hl hc]
      unfold rowT
      simp only [if_pos hl]
    · obtain rfl : i = n + 1 := by omega
      rw [if_neg hl, Nat.sub_self, oneR_row d x near c hc]
      unfold rowT
      simp only [if_neg hl]
theorem outP_row : ∀ (m : Nat) (s : List UInt8) (d : Bool) (a n : Nat) (f : Nat → Nat → AV), (n = 0 ∨ TokRow n f) → ((outP m s d a n f).n = 0 ∨ TokRow (outP m s d a n f).n (outP m s d a n f).f)
  | 0, s, d, a, n, f, h => h
  | m + 1, s, d, a, n, f, h => by
    unfold outP
    split
    · exact h
    · exact outP_row m s _ _ _ _ (.inr (TokRow.app h _ _ _))
theorem tokR_row (s : List UInt8) : TokRow (tokC s) (tokR s) := TokRow.app (outP_row (s.length + 1) s false 0 0 _ (.inl rfl)) _ _ _
theorem outP_n : ∀ (m : Nat) (s : List UInt8) (d : Bool) (a n : Nat) (f : Nat → Nat → AV), (outP m s d a n f).n ≤ n + m
  | 0, s, d, a, n, f => Nat.le_refl _
  | m + 1, s, d, a, n, f => by
    unfold outP
    split
    · simp only; omega
    · have := outP_n m s (nextB s (kN s a)) (nextA s (kN s a)) (n + 1) (appG n f (oneR d (cutX s a (kN s a)) (nearN s (kN s a))))
      omega
theorem tokC_le (s : List UInt8) : tokC s ≤ s.length + 2 := by
  have := outP_n (s.length + 1) s false 0 0 (fun _ _ => .junk)
  unfold tokC fin8; omega

theorem trimR_le : ∀ (K : Nat) (f : Nat → Tok) (n : Nat), (trimR K f n).2 ≤ n
  | 0, f, n => Nat.le_refl _
  | K + 1, f, n => by
    unfold trimR
    split
    · exact Nat.le_trans (trimR_le K _ _) (trimP_le n f n)
    · exact trimP_le n f n

/-- The tokens of a text. -/
def trim8 (s : List UInt8) : (Nat → Tok) × Nat := trimA (unT (tokR s)) (tokC s)
def tokL (s : List UInt8) : Nat := bif (trim8 s).2.beq 0 then 1 else (trim8 s).2
def tokF (s : List UInt8) : Nat → Tok := bif (trim8 s).2.beq 0 then oneZ else undash (trim8 s).1
def c26 : List AV → T AV
  | [.str s] => .br (decide ((s.length : Int) > 64)) (.leaf (.tup [.sl 3 0 (strF []), .agg [.int .i64 12, .int .i64 64]])) (.br (s == []) (.leaf (.tup [.sl 3 0 (strF []), .agg [.int .i64 11, .int .i64 0]]))
    (.br (decide (fxN vb s 0 < s.length)) (.leaf (.tup [.sl 3 0 (strF []), .agg [.int .i64 10, .int .i64 (fxN vb s 0 : Int)]])) (.leaf (.tup [.sl 3 (tokL s) (rowT (tokF s)), .agg [.int .i64 0, .int .i64 0]]))))
  | _ => .fail
open Classical in
theorem e26 (s : List UInt8) (hb : s.length ≤ bnd) : ((evFnT Tryd.prog tabM.pf (hdT Tryd.prog tabM.pf tabM.con hs26 20 9) h26 20 LB26 26 [.str s] []).run.bind fun r => frz (.tup [.rows 3, .any]) r.2 r.1) = (c26 [.str s]).run := by
  rw [t26]
  unfold c26
  simp only [T.run_br]
  have hs := tokC_le s
  cases h1 : decide ((s.length : Int) > 64) with
  | true => rfl
  | false =>
    have h1' : s.length ≤ 64 := by
      have := of_decide_eq_false h1
      omega
    cases h2 : s == [] with
    | true => rfl
    | false =>
      rw [cond_false, cond_false, cond_chk (zL26 s ⟨Nat.zero_le _, hb⟩)]
      cases h3 : decide (fxN vb s 0 < s.length) with
      | true => rfl
      | false =>
        rw [cond_false, decide_eq_true ⟨trivial, h1'⟩, cond_true, decide_eq_true ⟨trivial, (tokR_row s).un⟩, cond_true, kS41 (tokC s) (tokC s) (unT (tokR s)) ⟨Nat.le_refl _, by simp only [bnd]; omega⟩, cond_true, unT_rowT]
        unfold tokL tokF trim8
        cases hz : (trimA (unT (tokR s)) (tokC s)).2.beq 0 with
        | true => rfl
        | false =>
          have hle : (trimA (unT (tokR s)) (tokC s)).2 ≤ tokC s := trimR_le _ _ _
          show frz (.tup [.rows 3, .any]) [some (.row 3 (tokC s) (rowT (undash (trimA (unT (tokR s)) (tokC s)).1)))] (.tup [.row 0 3 0 (trimA (unT (tokR s)) (tokC s)).2, .agg [.int .i64 0, .int .i64 0]]) = _
          have e1 : frz (.rows 3) [some (.row 3 (tokC s) (rowT (undash (trimA (unT (tokR s)) (tokC s)).1)))] (.row 0 3 0 (trimA (unT (tokR s)) (tokC s)).2) = some (.sl 3 (trimA (unT (tokR s)) (tokC s)).2 (rowT (undash (trimA (unT (tokR s)) (tokC s)).1))) := by
            show (if 3 = 3 ∧ 3 = 3 ∧ 0 + (trimA (unT (tokR s)) (tokC s)).2 ≤ tokC s then _ else none) = _
            rw [if_pos ⟨rfl, rfl, by omega⟩]
            rfl
          unfold frz frzL
          rw [e1]
          rfl
theorem s26 : Sound1 Tryd.prog ⟨26, true, pcon c26⟩ := by
  refine sound_frz (m := 20) (k := 9) (hn := h26) (Λ := LB26) (hs := hs26) (soundTab_of all_tabM) (.tup [.rows 3, .any]) (twoLoops (by kernel_rfl) l26 l26_1) fun args r hF h => ?_
  unfold c26 at h
  split at h
  · rename_i s
    have he := e26 s hF.1
    unfold c26 at he
    simp only at he
    rw [h] at he
    obtain ⟨y, h3, h4⟩ := Option.bind_eq_some_iff.1 he
    exact ⟨y.1, y.2, h3, h4⟩
  · cases h
end Go.Mvs

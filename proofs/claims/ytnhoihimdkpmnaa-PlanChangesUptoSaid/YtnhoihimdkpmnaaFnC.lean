/- Lemmas for the claims of this seat (a verified symbolic evaluator, and contracts of functions): own work; no condition. -/
import Derived.Test.YtnhoihimdkpmnaaFnB
namespace Go.Pln
open Go Go.Proofs Go.Ab
set_option maxRecDepth 100000
set_option linter.unusedVariables false
set_option linter.unusedSimpArgs false

/-! ### picks: the iterator's loop, as Parse runs it -/
def tm15 (d : Int) : Tm := tmOf 86 [(2, AV.int IntKind.i64 0), (3, AV.nilsl), (4, AV.ref 0 0), (11, AV.int IntKind.i64 d), (12, AV.ref 2 0), (13, AV.ref 3 0), (61, AV.fn 51 [AV.ref 4 0])]
noncomputable def lo15 (d : Int) (st : LoopState) (pe : Option Code) : AObj := match loopAt Try.prog 15 0 with
  | .rangeFunc _ ps ag bo => .loop 15 st pe (tm15 d) ps ag bo 5
  | _ => .dfr
noncomputable def hp15 (d : Int) (s : List UInt8) (a e fa : Int) (l : AV) (rows : Hp) (st : LoopState) (pe : Option Code) : Hp :=
  [some (.cells [.int .i64 0, .int .i64 0]), rdK s a e fa, some (.cells [.ref 1 0]), some (.cells [l]), some (.cells [.ref 1 0]), some .dfr, some (lo15 d st pe)] ++ rows
def hs15 : FuncId → HintsT := fun f => match Nat.beq f 51 with
  | true => h51
  | false => match Nat.beq f 15 with
    | true => h15
    | false => ⟨0, [], []⟩
noncomputable abbrev hd15 (k : Nat) : HdT := hdT Try.prog tabI.pf tabI.con hs15 20 k
noncomputable def sP (d : Int) (s : List UInt8) (a : Int) (last : List UInt8) (l : AV) (rows : Hp) : St :=
  { tm := encGo (mbits 11 75) [.yield 6, .ref 4 0, .str last], ms := [], hp := hp15 d s a 0 0 l rows .ready none }

/-! ### Picks as records -/
def CK : Cel Pk := ⟨2, fun p => [.str p.nm, .str p.vr], fun g => ⟨strOf (g 0), strOf (g 1)⟩, ⟨[], []⟩⟩
theorem okCK : CK.Ok := ⟨fun a => rfl, fun a => rfl, by decide⟩
theorem rowK_rowG (f : Nat → Pk) : rowG CK f = rowK f := by
  funext i c
  match c with
  | 0 => rfl
  | 1 => rfl
  | c + 2 => rfl

noncomputable def oEnd (s : List UInt8) (a : Int) (last : List UInt8) (L : List Pk) (d : Int) : AX × St :=
  (.exit 0, { tm := tmOf 75 [(0, .yield 6), (1, .ref 4 0), (3, .str last), (15, .bool false)], ms := [], hp := hp15 d s a 0 0 (rAG CK 7 L) (rHG CK L) .ready none })
noncomputable def oF1 (s : List UInt8) (a e fa : Int) (w : List UInt8) (L : List Pk) (d : Int) : AX × St :=
  (.ret, { tm := tmOf 75 [(0, .yield 6), (1, .ref 4 0), (5, .ref (7 + (rHG CK L).length) 0), (43, .bool true)], ms := [], hp := hp15 d s a e fa (rAG CK 7 L) (rHG CK L ++ [some (.cells [.str w, .str []])]) .ready none })
noncomputable def oF2 (s : List UInt8) (a e fa : Int) (w v : List UInt8) (L : List Pk) (d : Int) : AX × St :=
  (.ret, { tm := tmOf 75 [(0, .yield 6), (1, .ref 4 0), (3, .str w), (74, .bool true)], ms := [], hp := hp15 d s a e fa (rAG CK 7 L) (rHG CK L ++ [some (.cells [.str w, .str v])]) .ready none })

def bI (s : List UInt8) (a : Nat) : Int := IntKind.i64.wrap ((fxN wB s a : Int) + 1)

/-- A round, but for what follows the yield. -/
noncomputable def rndP (d : Int) (s last : List UInt8) (a : Nat) (L : List Pk) (nx : Option (AX × St)) : Option (AX × St) :=
  bif decide ((a : Int) < (s.length : Int)) then
   bif isEn en52 p52 ([.ref 0 0, .int .u8 32], [rdK s a 0 0]) then
    bif decide (a + 128 < fxN wB s a) then some (oF1 s (a + 128 : Nat) 12 (a + 128 : Nat) [] L d)
    else bif decide (fxN wB s a = s.length) then some (oF1 s (fxN wB s a) 11 (fxN wB s a) (wrdA s a) L d)
    else bif badE s 32 a then some (oF1 s (fxN wB s a) 10 (fxN wB s a) (wrdA s a) L d)
    else bif abytesLess (wrdA s a) last || wrdA s a == last then some (oF1 s (fxN wB s a) 16 a (wrdA s a) L d)
    else bif isEn en52 p52 ([.ref 0 0, .int .u8 10], [rdK s (bI s a) 0 0]) then
     bif decide ((bI s a).toNat + 128 < fxN wB s (bI s a).toNat) then some (oF2 s (IntKind.i64.wrap ((((bI s a).toNat + 128 : Nat) : Int) + 1)) 12 ((bI s a).toNat + 128 : Nat) (wrdA s a) [] L d)
     else bif decide (fxN wB s (bI s a).toNat = s.length) then some (oF2 s (IntKind.i64.wrap ((fxN wB s (bI s a).toNat : Int) + 1)) 11 (fxN wB s (bI s a).toNat) (wrdA s a) (wrdA s (bI s a).toNat) L d)
     else bif badE s 10 (bI s a).toNat then some (oF2 s (IntKind.i64.wrap ((fxN wB s (bI s a).toNat : Int) + 1)) 10 (fxN wB s (bI s a).toNat) (wrdA s a) (wrdA s (bI s a).toNat) L d)
     else nx
    else none
   else none
  else some (oEnd s a last L d)

def oneK (s : List UInt8) (a : Nat) : Nat → Nat → AV := fun i => rowF 2 [.str (wrdA s a), .str (wrdA s (bI s a).toNat)] (0 + i)

theorem rPa (d : Int) (s last : List UInt8) (a : Nat) : (roundT Try.prog tabI.pf (hd15 8) h51 51 7 none 20 noLoops (lbody Try.prog 51 0) (sP d s a last .nilsl [])).run =
    rndP d s last a [] (some (.normal, sP d s (IntKind.i64.wrap ((fxN wB s (bI s a).toNat : Int) + 1)) (wrdA s a) (.row 7 2 0 1) [some (.row 2 1 (oneK s a))])) := by kernel_rfl
theorem rPb (d : Int) (s last : List UInt8) (a : Nat) (x : Pk) (L : List Pk) : (roundT Try.prog tabI.pf (hd15 8) h51 51 7 none 20 noLoops (lbody Try.prog 51 0) (sP d s a last (rAG CK 7 (x :: L)) (rHG CK (x :: L)))).run =
    rndP d s last a (x :: L) (bif decide (L.length + 1 = L.length + 1) then bif decide ((L.length + 1 + 1) * 32 ≤ 140737488355328 ∧ L.length + 1 + 1 ≤ 4611686018427387903) then
      some (.normal, sP d s (IntKind.i64.wrap ((fxN wB s (bI s a).toNat : Int) + 1)) (wrdA s a) (.row 7 2 0 (L.length + 1 + 1)) [some (.row 2 (L.length + 1 + 1) (appF (L.length + 1) (rowG CK (fnR CK.df (x :: L))) (oneK s a)))]) else none else none) := by kernel_rfl
end Go.Pln
namespace Go.Pln
open Go Go.Proofs Go.Ab
set_option maxRecDepth 100000
set_option linter.unusedVariables false
set_option linter.unusedSimpArgs false

/-! ### picks, told -/
inductive Oc where
  | fin (a : Nat) (last : List UInt8) (L : List Pk)
  | f1 (a e fa : Nat) (w : List UInt8) (L : List Pk)
  | f2 (a e fa : Nat) (w v : List UInt8) (L : List Pk)
noncomputable def out (d : Int) (s : List UInt8) : Oc → AX × St
  | .fin a last L => oEnd s a last L d
  | .f1 a e fa w L => oF1 s a e fa w L d
  | .f2 a e fa w v L => oF2 s a e fa w v L d
theorem out_ne (d : Int) (s : List UInt8) (o : Oc) : (out d s o).1 ≠ .normal := by cases o <;> simp [out, oEnd, oF1, oF2]

/-- Where the second word begins. -/
def bN (s : List UInt8) (a : Nat) : Nat := fxN wB s a + 1
def pk1 (s last : List UInt8) (a : Nat) (L : List Pk) : Option Oc :=
  bif decide (a < s.length) then
   bif decide (a + 128 < fxN wB s a) then some (.f1 (a + 128) 12 (a + 128) [] L)
   else bif decide (fxN wB s a = s.length) then some (.f1 (fxN wB s a) 11 (fxN wB s a) (wrdA s a) L)
   else bif badE s 32 a then some (.f1 (fxN wB s a) 10 (fxN wB s a) (wrdA s a) L)
   else bif abytesLess (wrdA s a) last || wrdA s a == last then some (.f1 (fxN wB s a) 16 a (wrdA s a) L)
   else bif decide (bN s a + 128 < fxN wB s (bN s a)) then some (.f2 (bN s a + 128 + 1) 12 (bN s a + 128) (wrdA s a) [] L)
   else bif decide (fxN wB s (bN s a) = s.length) then some (.f2 (fxN wB s (bN s a) + 1) 11 (fxN wB s (bN s a)) (wrdA s a) (wrdA s (bN s a)) L)
   else bif badE s 10 (bN s a) then some (.f2 (fxN wB s (bN s a) + 1) 10 (fxN wB s (bN s a)) (wrdA s a) (wrdA s (bN s a)) L)
   else none
  else some (.fin a last L)
def nxA (s : List UInt8) (a : Nat) : Nat := fxN wB s (bN s a) + 1
def pkA (s : List UInt8) (a : Nat) : Pk := ⟨wrdA s a, wrdA s (bN s a)⟩
def pkR (s : List UInt8) : Nat → List UInt8 → Nat → List Pk → Oc
  | 0, last, a, L => .fin a last L
  | m + 1, last, a, L => match pk1 s last a L with
    | some o => o
    | none => pkR s m (wrdA s a) (nxA s a) (L ++ [pkA s a])
theorem pk1_none {s last : List UInt8} {a : Nat} {L : List Pk} (h : pk1 s last a L = none) : a < s.length ∧ fxN wB s a < s.length ∧ fxN wB s (bN s a) < s.length ∧ a ≤ fxN wB s a ∧ bN s a ≤ fxN wB s (bN s a) := by
  unfold pk1 at h
  by_cases h1 : a < s.length
  · obtain ⟨f1, f2⟩ := fxN_le (q := wB) (Nat.le_of_lt h1)
    rw [decide_eq_true h1, cond_true] at h
    by_cases h2 : a + 128 < fxN wB s a
    · rw [decide_eq_true h2] at h; cases h
    · rw [decide_eq_false h2, cond_false] at h
      by_cases h3 : fxN wB s a = s.length
      · rw [decide_eq_true h3] at h; cases h
      · rw [decide_eq_false h3, cond_false] at h
        cases h4 : badE s 32 a with
        | true => rw [h4] at h; cases h
        | false =>
          rw [h4, cond_false] at h
          cases h5 : abytesLess (wrdA s a) last || wrdA s a == last with
          | true => rw [h5] at h; cases h
          | false =>
            rw [h5, cond_false] at h
            obtain ⟨g1, g2⟩ := fxN_le (q := wB) (show bN s a ≤ s.length by unfold bN; omega)
            by_cases h6 : bN s a + 128 < fxN wB s (bN s a)
            · rw [decide_eq_true h6] at h; cases h
            · rw [decide_eq_false h6, cond_false] at h
              by_cases h7 : fxN wB s (bN s a) = s.length
              · rw [decide_eq_true h7] at h; cases h
              · exact ⟨h1, by omega, by omega, f1, g1⟩
  · rw [decide_eq_false h1] at h; cases h
theorem rndP_run {d : Int} {s last : List UInt8} {a : Nat} {L : List Pk} {nx : Option (AX × St)} (h1 : a ≤ s.length) (h2 : s.length ≤ 65536) :
    rndP d s last a L nx = match pk1 s last a L with
      | some o => some (out d s o)
      | none => nx := by
  unfold rndP pk1
  by_cases hl : a < s.length
  · obtain ⟨f1, f2⟩ := fxN_le (q := wB) h1
    have hb : bI s a = (bN s a : Nat) := by unfold bI bN; rw [w64n (by omega)]
    rw [decide_eq_true (show (a : Int) < s.length by omega), decide_eq_true hl, k52 s 32 a ⟨h1, by omega⟩, hb, Int.toNat_natCast]
    simp only [cond_true]
    cases decide (a + 128 < fxN wB s a) with
    | true => rfl
    | false =>
      simp only [cond_false]
      by_cases h3 : fxN wB s a = s.length
      · rw [decide_eq_true h3]; rfl
      · rw [decide_eq_false h3]
        simp only [cond_false]
        cases badE s 32 a with
        | true => rfl
        | false =>
          simp only [cond_false]
          cases (abytesLess (wrdA s a) last || wrdA s a == last) with
          | true => rfl
          | false =>
            have hbl : bN s a ≤ s.length := by unfold bN; omega
            obtain ⟨g1, g2⟩ := fxN_le (q := wB) hbl
            rw [k52 s 10 (bN s a) ⟨hbl, by omega⟩]
            simp only [cond_false, cond_true]
            cases h6 : decide (bN s a + 128 < fxN wB s (bN s a)) with
            | true =>
              simp only [cond_true]
              have := of_decide_eq_true h6
              rw [w64n (show bN s a + 128 < 9223372036854775807 by omega)]
              rfl
            | false =>
              simp only [cond_false]
              rw [w64n (show fxN wB s (bN s a) < 9223372036854775807 by omega)]
              cases decide (fxN wB s (bN s a) = s.length) with
              | true => rfl
              | false => cases badE s 10 (bN s a) <;> rfl
  · rw [decide_eq_false (show ¬ (a : Int) < s.length by omega), decide_eq_false hl]
    rfl
theorem pkR_fuel (s : List UInt8) : ∀ (m m' : Nat) (last : List UInt8) (a : Nat) (L : List Pk), s.length - a < m → s.length - a < m' → pkR s m last a L = pkR s m' last a L
  | 0, m', last, a, L, h, _ => by omega
  | m + 1, 0, last, a, L, _, h => by omega
  | m + 1, m' + 1, last, a, L, h1, h2 => by
    unfold pkR
    cases hp : pk1 s last a L with
    | some o => rfl
    | none =>
      obtain ⟨q1, q2, q3, q4, q5⟩ := pk1_none hp
      have : a < nxA s a := by unfold nxA; unfold bN at *; omega
      exact pkR_fuel s m m' _ _ _ (by omega) (by omega)

structure Y51 where
  s : List UInt8
  last : List UInt8
  a : Nat
  l : AV
  rows : Hp
noncomputable def eP51 (d : Int) : Y51 → List AV × Hp := fun ⟨s, last, a, l, rows⟩ => ([.yield 6, .ref 4 0, .str last], hp15 d s a 0 0 l rows .ready none)
def dP51 : List AV × Hp → Y51
  | ([.yield _, .ref _ _, .str last], _ :: some (.cells [.str s, .int .i64 a, _, _]) :: _ :: some (.cells [l]) :: _ :: _ :: _ :: rows) => ⟨s, last, a.toNat, l, rows⟩
  | _ => ⟨[], [], 0, .junk, []⟩
def pP51 (d : Int) (o : AX × St) : Y51 → Prop := fun ⟨s, last, a, l, rows⟩ => a ≤ s.length ∧ s.length ≤ 65536 ∧ ∃ L, l = rAG CK 7 L ∧ rows = rHG CK L ∧ L.length ≤ a ∧ out d s (pkR s (s.length + 1 - a) last a L) = o
noncomputable def rP51 (o : AX × St) : Y51 → T (AX × St) := fun _ => .leaf o
theorem iP51 (d : Int) : ∀ x, dP51 (eP51 d x) = x := by
  rintro ⟨s, last, a, l, rows⟩
  rfl
noncomputable def LP51 (d : Int) (o : AX × St) : LoopT := fun k => match Nat.beq k 100112 with
  | true => some (lccon (mbits 11 75) (eP51 d) dP51 (pP51 d o) (rP51 o))
  | false => none
theorem rPa' (d : Int) (o : AX × St) (s last : List UInt8) (a : Nat) : (roundT Try.prog tabI.pf (hd15 8) h51 51 7 none 20 (LP51 d o) (lbody Try.prog 51 0) (sP d s a last .nilsl [])).run =
    rndP d s last a [] (some (.normal, sP d s (IntKind.i64.wrap ((fxN wB s (bI s a).toNat : Int) + 1)) (wrdA s a) (.row 7 2 0 1) [some (.row 2 1 (oneK s a))])) := by kernel_rfl
theorem rPb' (d : Int) (o : AX × St) (s last : List UInt8) (a : Nat) (x : Pk) (L : List Pk) : (roundT Try.prog tabI.pf (hd15 8) h51 51 7 none 20 (LP51 d o) (lbody Try.prog 51 0) (sP d s a last (rAG CK 7 (x :: L)) (rHG CK (x :: L)))).run =
    rndP d s last a (x :: L) (bif decide (L.length + 1 = L.length + 1) then bif decide ((L.length + 1 + 1) * 32 ≤ 140737488355328 ∧ L.length + 1 + 1 ≤ 4611686018427387903) then
      some (.normal, sP d s (IntKind.i64.wrap ((fxN wB s (bI s a).toNat : Int) + 1)) (wrdA s a) (.row 7 2 0 (L.length + 1 + 1)) [some (.row 2 (L.length + 1 + 1) (appF (L.length + 1) (rowG CK (fnR CK.df (x :: L))) (oneK s a)))]) else none else none) := by kernel_rfl
theorem l51 (d : Int) (o : AX × St) : LoopOk Try.prog tabI.pf (fun n => hd Try.prog tabI.pf tabI.con.run (fun f => (hs15 f).to) n 8) h51.to 51 7 none (LP51 d o) (loopAt Try.prog 51 0) := by
  rw [show loopAt Try.prog 51 0 = .loop (lbody Try.prog 51 0) by kernel_rfl]
  refine loop_c (hdT_le (m := 20) 8) (m := 20) (lv := mbits 11 75) (p := pP51 d o) (res := rP51 o) (iP51 d) (within_of _ (by rw [show loopsOf (lbody Try.prog 51 0) = [] by kernel_rfl]; simp)) (by kernel_rfl) (fun ⟨s, last, a, l, rows⟩ => s.length + 1 - a) ?_
  rintro ⟨s, last, a, l, rows⟩ ⟨h1, h2, L, rfl, rfl, h3, ho⟩
  have hF : s.length + 1 - a = (s.length - a) + 1 := by omega
  have ht : (roundT Try.prog tabI.pf (hd15 8) h51 51 7 none 20 (LP51 d o) (lbody Try.prog 51 0) (sP d s a last (rAG CK 7 L) (rHG CK L))).run =
      rndP d s last a L (some (.normal, sP d s (IntKind.i64.wrap ((fxN wB s (bI s a).toNat : Int) + 1)) (wrdA s a) (rAG CK 7 (L ++ [⟨wrdA s a, wrdA s (bI s a).toNat⟩])) (rHG CK (L ++ [⟨wrdA s a, wrdA s (bI s a).toNat⟩])))) := by
    rw [rAG_push, rHG_push]
    cases L with
    | nil =>
      refine (rPa' d o s last a).trans ?_
      have e : oneK s a = rowG CK (fnR CK.df ([] ++ [⟨wrdA s a, wrdA s (bI s a).toNat⟩])) := rowF_first okCK CK.df rfl
      rw [e]
      rfl
    | cons x L =>
      refine (rPb' d o s last a x L).trans ?_
      have e : appF (L.length + 1) (rowG CK (fnR CK.df (x :: L))) (oneK s a) = rowG CK (fnR CK.df (x :: L ++ [⟨wrdA s a, wrdA s (bI s a).toNat⟩])) := appG_push okCK CK.df (x :: L) rfl
      simp only [List.length_cons] at h3
      rw [e, decide_eq_true rfl, decide_eq_true (show (L.length + 1 + 1) * 32 ≤ 140737488355328 ∧ L.length + 1 + 1 ≤ 4611686018427387903 by omega)]
      rfl
  rw [rndP_run h1 h2] at ht
  rw [hF] at ho
  unfold pkR at ho
  cases hp : pk1 s last a L with
  | some q =>
    rw [hp] at ht ho
    right
    exact ⟨out d s q, out_ne d s q, by simp only [rP51, T.run_leaf]; rw [← ho], ht⟩
  | none =>
    rw [hp] at ht ho
    obtain ⟨q1, q2, q3, q4, q5⟩ := pk1_none hp
    have hb : bI s a = (bN s a : Nat) := by unfold bI bN; rw [w64n (by omega)]
    have hlt : a < nxA s a := by unfold nxA; unfold bN at *; omega
    have hle : nxA s a ≤ s.length := by unfold nxA; omega
    left
    rw [hb, Int.toNat_natCast, w64n (show fxN wB s (bN s a) < 9223372036854775807 by omega)] at ht
    refine ⟨⟨s, wrdA s a, nxA s a, rAG CK 7 (L ++ [pkA s a]), rHG CK (L ++ [pkA s a])⟩, ⟨by unfold nxA; omega, h2, L ++ [pkA s a], rfl, rfl, by rw [List.length_append]; simp only [List.length_cons, List.length_nil]; omega, ?_⟩, by simp only; omega, rfl, ht⟩
    rw [← ho]
    exact congrArg (out d s) (pkR_fuel s _ _ _ _ _ (by omega) (by omega))
end Go.Pln
namespace Go.Pln
open Go Go.Proofs Go.Ab
set_option maxRecDepth 100000
set_option linter.unusedVariables false
set_option linter.unusedSimpArgs false

/-! ### picks$1, as Parse calls it -/
noncomputable def st51 (d : Int) (s : List UInt8) (a e fa : Int) (L : List Pk) : Hp := hp15 d s a e fa (rAG CK 7 L) (rHG CK L) .ready none
noncomputable abbrev ev51 (d : Int) (o : AX × St) (s : List UInt8) (a : Int) : Option (AV × Hp) := (evFnT Try.prog tabI.pf (hd15 8) h51 20 (LP51 d o) 51 [.yield 6, .ref 4 0] (hp15 d s a 0 0 .nilsl [] .ready none)).run
noncomputable abbrev en51 (d : Int) (o : AX × St) (s : List UInt8) (a : Int) : Bool := isEn (eP51 d) (pP51 d o) ([.yield 6, .ref 4 0, .str []], hp15 d s a 0 0 .nilsl [] .ready none)
theorem t51a (d : Int) (s : List UInt8) (a b : Int) (last : List UInt8) : ev51 d (oEnd s b last [] d) s a = bif en51 d (oEnd s b last [] d) s a then some (.tup [], st51 d s b 0 0 []) else none := by kernel_rfl
theorem t51b (d : Int) (s : List UInt8) (a b : Int) (last : List UInt8) (x : Pk) (L : List Pk) : ev51 d (oEnd s b last (x :: L) d) s a = bif en51 d (oEnd s b last (x :: L) d) s a then some (.tup [], st51 d s b 0 0 (x :: L)) else none := by kernel_rfl
theorem t51c (d : Int) (s : List UInt8) (a b e fa : Int) (w : List UInt8) : ev51 d (oF1 s b e fa w [] d) s a = bif en51 d (oF1 s b e fa w [] d) s a then some (.tup [], st51 d s b e fa []) else none := by kernel_rfl
theorem t51d (d : Int) (s : List UInt8) (a b e fa : Int) (w : List UInt8) (x : Pk) (L : List Pk) : ev51 d (oF1 s b e fa w (x :: L) d) s a = bif en51 d (oF1 s b e fa w (x :: L) d) s a then some (.tup [], st51 d s b e fa (x :: L)) else none := by kernel_rfl
theorem t51e (d : Int) (s : List UInt8) (a b e fa : Int) (w v : List UInt8) : ev51 d (oF2 s b e fa w v [] d) s a = bif en51 d (oF2 s b e fa w v [] d) s a then some (.tup [], st51 d s b e fa []) else none := by kernel_rfl
theorem t51f (d : Int) (s : List UInt8) (a b e fa : Int) (w v : List UInt8) (x : Pk) (L : List Pk) : ev51 d (oF2 s b e fa w v (x :: L) d) s a = bif en51 d (oF2 s b e fa w v (x :: L) d) s a then some (.tup [], st51 d s b e fa (x :: L)) else none := by kernel_rfl
def ocA : Oc → Nat
  | .fin a _ _ => a
  | .f1 a _ _ _ _ => a
  | .f2 a _ _ _ _ _ => a
def ocE : Oc → Nat
  | .fin _ _ _ => 0
  | .f1 _ e _ _ _ => e
  | .f2 _ e _ _ _ _ => e
def ocF : Oc → Nat
  | .fin _ _ _ => 0
  | .f1 _ _ f _ _ => f
  | .f2 _ _ f _ _ _ => f
def ocL : Oc → List Pk
  | .fin _ _ L => L
  | .f1 _ _ _ _ L => L
  | .f2 _ _ _ _ _ L => L
/-- All of a text's picks, from a place on. -/
def pkO (s : List UInt8) (a : Nat) : Oc := pkR s (s.length + 1 - a) [] a []
theorem run51 (d : Int) (s : List UInt8) (a : Nat) (h1 : a ≤ s.length) (h2 : s.length ≤ 65536) :
    ev51 d (out d s (pkO s a)) s a = some (.tup [], st51 d s (ocA (pkO s a)) (ocE (pkO s a)) (ocF (pkO s a)) (ocL (pkO s a))) := by
  have hp : en51 d (out d s (pkO s a)) s a = true :=
    isEn_true (enc := eP51 d) (p := pP51 d (out d s (pkO s a))) ⟨s, [], a, .nilsl, []⟩ ⟨h1, h2, [], rfl, rfl, Nat.zero_le _, rfl⟩
  revert hp
  generalize pkO s a = o
  intro hp
  cases o with
  | fin b last L =>
    cases L with
    | nil => exact (t51a d s a b last).trans (by rw [show en51 d (oEnd s b last [] d) s a = true from hp]; rfl)
    | cons x L => exact (t51b d s a b last x L).trans (by rw [show en51 d (oEnd s b last (x :: L) d) s a = true from hp]; rfl)
  | f1 b e fa w L =>
    cases L with
    | nil => exact (t51c d s a b e fa w).trans (by rw [show en51 d (oF1 s b e fa w [] d) s a = true from hp]; rfl)
    | cons x L => exact (t51d d s a b e fa w x L).trans (by rw [show en51 d (oF1 s b e fa w (x :: L) d) s a = true from hp]; rfl)
  | f2 b e fa w v L =>
    cases L with
    | nil => exact (t51e d s a b e fa w v).trans (by rw [show en51 d (oF2 s b e fa w v [] d) s a = true from hp]; rfl)
    | cons x L => exact (t51f d s a b e fa w v x L).trans (by rw [show en51 d (oF2 s b e fa w v (x :: L) d) s a = true from hp]; rfl)
end Go.Pln
namespace Go.Pln
open Go Go.Proofs Go.Ab
set_option maxRecDepth 100000
set_option linter.unusedVariables false
set_option linter.unusedSimpArgs false

/-! ### Parse: the range over picks -/
def st15 (d : Int) (s : List UInt8) (a : Int) : St := { tm := tm15 d, ms := [], hp := [some (.cells [.int .i64 0, .int .i64 0]), rdK s a 0 0, some (.cells [.ref 1 0]), some (.cells [.nilsl]), some (.cells [.ref 1 0])] }
def o15 (d : Int) (s : List UInt8) (b e fa : Int) (l : AV) (rows : Hp) : AX × St :=
  (.normal, { tm := tm15 d, ms := [5], hp := [some (.cells [.int .i64 0, .int .i64 0]), rdK s b e fa, some (.cells [.ref 1 0]), some (.cells [l]), some (.cells [.ref 1 0]), some .dfr, none] ++ rows })
def tr15 (d : Int) (s : List UInt8) (o : Oc) : T (AX × St) :=
  .br (ocL o).isEmpty (.leaf (o15 d s (ocA o) (ocE o) (ocF o) .nilsl [])) (.leaf (o15 d s (ocA o) (ocE o) (ocF o) (.row 7 2 0 (ocL o).length) [some (.row 2 (ocL o).length (rowG CK (fnR CK.df (ocL o))))]))
theorem tr15_run (d : Int) (s : List UInt8) (o : Oc) : (tr15 d s o).run = some (o15 d s (ocA o) (ocE o) (ocF o) (rAG CK 7 (ocL o)) (rHG CK (ocL o))) := by
  unfold tr15
  generalize ocL o = L
  cases L <;> rfl
open Classical in
noncomputable def D15 (st : St) : T (AX × St) := match st.hp, st.tm.getD 11 .junk with
  | _ :: some (.cells [.str s, .int .i64 a, _, _]) :: _, .int .i64 d => .chk (decide (st = st15 d s (a.toNat : Nat) ∧ a.toNat ≤ s.length ∧ s.length ≤ 65536)) (tr15 d s (pkO s a.toNat))
  | _, _ => .fail
noncomputable def L15 : LoopT := fun k => match Nat.beq k 1450019 with
  | true => some D15
  | false => none
def rfF : Code → Operand
  | .rangeFunc f _ _ _ => f
  | _ => .tmp 0
def rfP : Code → Array Tmp
  | .rangeFunc _ ps _ _ => ps
  | _ => #[]
def rfA : Code → Code
  | .rangeFunc _ _ ag _ => ag
  | _ => .skip
def rfB : Code → Code
  | .rangeFunc _ _ _ bo => bo
  | _ => .skip
theorem rf15 : loopAt Try.prog 15 0 = .rangeFunc (rfF (loopAt Try.prog 15 0)) (rfP (loopAt Try.prog 15 0)) (rfA (loopAt Try.prog 15 0)) (rfB (loopAt Try.prog 15 0)) := by kernel_rfl
theorem rk15 : rkey (rfB (loopAt Try.prog 15 0)) = 1450019 := by kernel_rfl
theorem rv15 (d : Int) : aeval (tm15 d) (rfF (loopAt Try.prog 15 0)) = .fn 51 [.ref 4 0] := by kernel_rfl
theorem rh15 (d : Int) (s : List UInt8) (a : Int) : (st15 d s a).hp ++ [some .dfr] ++ [some (.loop 15 .ready none (tm15 d) (rfP (loopAt Try.prog 15 0)) (rfA (loopAt Try.prog 15 0)) (rfB (loopAt Try.prog 15 0)) (st15 d s a).hp.length)] = hp15 d s a 0 0 .nilsl [] .ready none := by kernel_rfl
theorem re15a (d : Int) (s : List UInt8) (a b e fa : Int) : rangeEnd ((st15 d s a).hp.length + 1) ((st15 d s a).hp.length :: (st15 d s a).ms) (tm15 d) (st51 d s b e fa []) = some (o15 d s b e fa .nilsl []) := by kernel_rfl
theorem re15b (d : Int) (s : List UInt8) (a b e fa : Int) (x : Pk) (L : List Pk) : rangeEnd ((st15 d s a).hp.length + 1) ((st15 d s a).hp.length :: (st15 d s a).ms) (tm15 d) (st51 d s b e fa (x :: L)) = some (o15 d s b e fa (rAG CK 7 (x :: L)) (rHG CK (x :: L))) := by kernel_rfl
theorem l15 : LoopOk Try.prog tabI.pf (fun n => hd Try.prog tabI.pf tabI.con.run (fun f => (hs15 f).to) n 9) h15.to 15 0 none L15 (loopAt Try.prog 15 0) := by
  rw [rf15]
  intro l hl st r hr
  have hl' : l = D15 := by
    rw [rk15] at hl
    simp only [L15] at hl
    exact (Option.some.inj hl).symm
  subst hl'
  unfold D15 at hr
  split at hr
  · rename_i _ s a _ _ _ d hs hd'
    rw [T.run_chk] at hr
    split at hr
    · rename_i hc
      simp only [decide_eq_true_eq] at hc
      obtain ⟨rfl, hb, hb2⟩ := hc
      rw [tr15_run] at hr
      simp only [Option.some.injEq] at hr
      subst hr
      obtain ⟨n0, h0⟩ := evFnT_le (H := fun n => hd Try.prog tabI.pf tabI.con.run (fun f => (hs15 f).to) n 8) (hdT_le (m := 20) 8) (within_at (oneLoop (by kernel_rfl) (l51 d (out d s (pkO s a.toNat))))) (run51 d s a.toNat hb hb2)
      refine ⟨n0, fun n hn => ?_⟩
      have h0 := h0 n hn
      unfold evRange
      have he : enterable Try.prog 51 = true := by kernel_rfl
      have hcon : tabI.con.run 51 = none := by kernel_rfl
      simp only [show (st15 d s (a.toNat : Nat)).tm = tm15 d from rfl, rv15, he, if_true, rh15, hd, hcon]
      have h1 : evFn Try.prog tabI.pf (hd Try.prog tabI.pf tabI.con.run (fun f => (hs15 f).to) n 8) (hs15 51).to n 51 [AV.yield ((st15 d s (a.toNat : Nat)).hp.length + 1), AV.ref 4 0] (hp15 d s (a.toNat : Nat) 0 0 .nilsl [] .ready none) = some (.tup [], st51 d s (ocA (pkO s a.toNat)) (ocE (pkO s a.toNat)) (ocF (pkO s a.toNat)) (ocL (pkO s a.toNat))) := h0
      rw [h1]
      generalize pkO s a.toNat = o
      cases hL : ocL o with
      | nil => exact re15a d s _ _ _ _
      | cons x L => exact re15b d s _ _ _ _ x L
    · cases hr
  · cases hr
end Go.Pln

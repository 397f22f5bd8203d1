/- Lemmas for the claims of this seat (a verified symbolic evaluator, and contracts of functions): own work; no condition. -/
import Derived.Test.YtnhoihimdkpmnaaFnA
namespace Go.Pln

open Go Go.Proofs Go.Ab

set_option maxRecDepth 100000

set_option linter.unusedVariables false

set_option linter.unusedSimpArgs false

/-! ### Format -/

def lineK (p : Pk) : List UInt8 := p.nm ++ [32] ++ p.vr ++ [10]

def linesF (f : Nat → Pk) : Nat → Nat → List UInt8
  | 0, _ => []
  | k + 1, i => lineK (f i) ++ linesF f k (i + 1)

def bld (L : List UInt8) : Hp := [some (.tcells 70 [.ref 0 0, .row 1 1 0 L.length]), some (.bytes L)]

theorem linesF_len (f : Nat → Pk) : ∀ k i, (linesF f (k + 1) i).length = (lineK (f i)).length + (linesF f k (i + 1)).length := fun k i => by
  show (lineK (f i) ++ linesF f k (i + 1)).length = _
  rw [List.length_append]

structure Y14 where
  n : Nat
  f : Nat → Pk
  L : List UInt8
  i : Nat

def eL14 : Y14 → List AV × Hp := fun ⟨n, f, L, i⟩ => ([.ref 0 0, .sl 2 n (rowK f), .int .i64 n, .int .i64 i], bld L)

def dL14 : List AV × Hp → Y14
  | ([.ref _ _, .sl _ n f_g, .int .i64 _, .int .i64 i], [_, some (.bytes L)]) => ⟨n, unK f_g, L, i.toNat⟩
  | _ => ⟨default, default, default, default⟩

def pL14 : Y14 → Prop := fun ⟨n, f, L, i⟩ => i ≤ n ∧ n ≤ bnd ∧ L.length + (linesF f (n - i) i).length ≤ 140737488355328

def rL14 : Y14 → T (AX × St) := fun ⟨n, f, L, i⟩ => .leaf (.exit 0, { tm := tmOf 43 [(5, .ref 0 0), (27, .sl 2 n (rowK f)), (28, .int .i64 n), (29, .int .i64 n), (30, .bool false)], ms := [], hp := bld (L ++ linesF f (n - i) i) })

noncomputable def L14 : LoopT := fun k => match Nat.beq k 600027 with
  | true => some (lccon (mbits 939524128 43) eL14 dL14 pL14 rL14)
  | false => none

theorem iL14 : ∀ x, dL14 (eL14 x) = x := by
  rintro ⟨n, f, L, i⟩
  simp only [eL14, dL14, Int.toNat_natCast, unK_rowK, bld]

theorem kL14 (n : Nat) (f : Nat → Pk) (L : List UInt8) (i : Nat) (h : i ≤ n ∧ n ≤ bnd ∧ L.length + (linesF f (n - i) i).length ≤ 140737488355328) : isEn eL14 pL14 ([.ref 0 0, .sl 2 n (rowK f), .int .i64 n, .int .i64 i], bld L) = true := isEn_true (enc := eL14) (p := pL14) ⟨n, f, L, i⟩ h

theorem zL14 (n : Nat) (f : Nat → Pk) (L : List UInt8) (h : pL14 ⟨n, f, L, 0⟩) : isEn eL14 pL14 ([.ref 0 0, .sl 2 n (rowK f), .int .i64 n, .int .i64 (0 : Int)], bld L) = true := isEn_true (enc := eL14) (p := pL14) ⟨n, f, L, 0⟩ h

theorem q14 (n : Nat) (f : Nat → Pk) (L : List UInt8) (i : Nat) : (rdn tabE h14 L14 14 0 0 { tm := encGo (mbits 939524128 43) [.ref 0 0, .sl 2 n (rowK f), .int .i64 n, .int .i64 i], ms := [], hp := bld L }).run =
  bif decide ((↑i : Int) < (↑n : Int)) then
   bif decide ((0 : Int) ≤ (↑i : Int) ∧ (↑i : Int) < (↑n : Int)) then
    bif decide ((f (↑i : Int).toNat).nm.length + 1 ≤ 4611686018427387903) then
     bif decide (((f (↑i : Int).toNat).nm ++ [(32 : UInt8)]).length + (f (↑i : Int).toNat).vr.length ≤ 4611686018427387903) then
      bif decide (((f (↑i : Int).toNat).nm ++ [(32 : UInt8)] ++ (f (↑i : Int).toNat).vr).length + 1 ≤ 4611686018427387903) then
       bif decide (L.length = L.length) then
        bif decide ((L.length + ((f (↑i : Int).toNat).nm ++ [(32 : UInt8)] ++ (f (↑i : Int).toNat).vr ++ [(10 : UInt8)]).length) * 1 ≤ 140737488355328 ∧ L.length + ((f (↑i : Int).toNat).nm ++ [(32 : UInt8)] ++ (f (↑i : Int).toNat).vr ++ [(10 : UInt8)]).length ≤ 4611686018427387903) then
         some ((AX.normal, { tm := tmOf 43 [(5, AV.ref 0 0), (27, AV.sl 2 n (rowK f)), (28, AV.int IntKind.i64 (↑n : Int)), (29, AV.int IntKind.i64 (IntKind.i64.wrap ((↑i : Int) + (1 : Int))))], ms := [], hp := [some (AObj.tcells 70 [AV.ref 0 0, AV.row 1 1 0 (L.length + ((f (↑i : Int).toNat).nm ++ [(32 : UInt8)] ++ (f (↑i : Int).toNat).vr ++ [(10 : UInt8)]).length)]), some (AObj.bytes (L ++ ((f (↑i : Int).toNat).nm ++ [(32 : UInt8)] ++ (f (↑i : Int).toNat).vr ++ [(10 : UInt8)])))] }))
        else
         none
       else
        none
      else
       none
     else
      none
    else
     none
   else
    none
  else
   some ((AX.exit 0, { tm := tmOf 43 [(5, AV.ref 0 0), (27, AV.sl 2 n (rowK f)), (28, AV.int IntKind.i64 (↑n : Int)), (29, AV.int IntKind.i64 (↑i : Int)), (30, AV.bool false)], ms := [], hp := [some (AObj.tcells 70 [AV.ref 0 0, AV.row 1 1 0 L.length]), some (AObj.bytes L)] })) := by kernel_rfl

theorem l14 : LoopOk Try.prog tabE.pf (fun n => hd Try.prog tabE.pf tabE.con.run (fun f => (H0 f).to) n 9) h14.to 14 0 none L14 (loopAt Try.prog 14 0) := by
  rw [show loopAt Try.prog 14 0 = .loop (lbody Try.prog 14 0) by kernel_rfl]
  refine loop_c (hdT_le (m := 20) 9) (m := 20) (lv := mbits 939524128 43) (p := pL14) (res := rL14) iL14 (within_of _ (by rw [show loopsOf (lbody Try.prog 14 0) = [] by kernel_rfl]; simp)) (by kernel_rfl) (fun ⟨n, f, L, i⟩ => n - i) ?_
  rintro ⟨n, f, L, i⟩ hp
  have ht := q14 n f L i
  obtain ⟨h1, h2, h3⟩ := hp
  have hb := h2
  simp only [bnd] at hb
  by_cases hl : i < n
  · obtain ⟨k, hk⟩ : ∃ k, n - i = k + 1 := ⟨n - i - 1, by omega⟩
    have hll := linesF_len f k i
    rw [hk, hll] at h3
    have hline : (lineK (f i)).length = (f i).nm.length + 1 + (f i).vr.length + 1 := by simp [lineK]; omega
    have e1 : ((f i).nm ++ [(32 : UInt8)]).length = (f i).nm.length + 1 := by simp
    have e2 : ((f i).nm ++ [(32 : UInt8)] ++ (f i).vr).length = (f i).nm.length + 1 + (f i).vr.length := by simp; omega
    rw [decide_eq_true (show (i : Int) < n by omega), in_row hl, Int.toNat_natCast, w64n (by omega), show (f i).nm ++ [(32 : UInt8)] ++ (f i).vr ++ [(10 : UInt8)] = lineK (f i) from rfl, e1, e2] at ht
    simp (disch := omega) only [decT, cond_true] at ht
    left
    refine ⟨⟨n, f, L ++ lineK (f i), i + 1⟩, ⟨by omega, h2, ?_⟩, by simp only; omega, ?_, ?_⟩
    · rw [List.length_append, show n - (i + 1) = k by omega]; omega
    · simp only [rL14, T.run_leaf, hk, show n - (i + 1) = k by omega, linesF, List.append_assoc]
    · refine ht.trans ?_
      simp only [eL14, bld, List.length_append]
      rfl
  · have he : i = n := by omega
    right
    subst he
    rw [decide_eq_false (show ¬ (i : Int) < i by omega)] at ht
    refine ⟨_, ?_, ?_, ht⟩
    · simp
    · simp only [rL14, T.run_leaf, Nat.sub_self, linesF, List.append_nil] <;> rfl

def dnames : List (List UInt8) := [[], [110, 112, 109], [112, 121, 116, 104, 111, 110], [109, 97, 118, 101, 110], [100, 101, 98, 105, 97, 110], [114, 112, 109]]

def headN (k : Nat) : List UInt8 := dnames.getD k [] ++ [32, 112, 108, 97, 110, 10]

def fmtK (d : Int) (n : Nat) (f : Nat → Pk) : List UInt8 := bif decide (1 ≤ d) && (decide (d < 6) && fitK f n) then headN d.toNat ++ linesF f n 0 else []

theorem t14 (d : Int) (n : Nat) (f : Nat → Pk) : (evn tabE h14 L14 14 [.int .i64 d, .sl 2 n (rowK f)] []).run =
  bif decide (d < (1 : Int)) then some (.str [], [])
  else bif decide (d ≥ (6 : Int)) then some (.str [], [])
  else bif isEn en16 p16 [AV.sl 2 n (rowK f)] then
    bif !fitK (unK (rowK f)) n then some (.str [], [])
    else bif decide ((0 : Int) ≤ d ∧ d < (6 : Int)) then
     bif decide (0 + d.toNat < 6) then
      bif decide ((dnames.getD (0 + d.toNat) []).length + 6 ≤ 4611686018427387903) then
       bif decide ((headN (0 + d.toNat)).length = 0) then
        bif isEn eL14 pL14 ([AV.ref 0 0, AV.sl 2 n (rowK f), AV.int IntKind.i64 (n : Int), AV.int IntKind.i64 (0 : Int)], [some (AObj.tcells 70 [AV.ref 0 0, AV.nilsl])]) then none else none
       else
        bif decide ((headN (0 + d.toNat)).length * 1 ≤ 140737488355328 ∧ (headN (0 + d.toNat)).length ≤ 4611686018427387903) then
         bif isEn eL14 pL14 ([AV.ref 0 0, AV.sl 2 n (rowK f), AV.int IntKind.i64 (n : Int), AV.int IntKind.i64 (0 : Int)], bld (headN (0 + d.toNat))) then
          bif decide (0 < (headN (0 + d.toNat) ++ linesF (unK (rowK f)) (n - 0) 0).length) then
           bif decide ((0 : Int) < ((headN (0 + d.toNat) ++ linesF (unK (rowK f)) (n - 0) 0).length : Int) ∧ ((headN (0 + d.toNat) ++ linesF (unK (rowK f)) (n - 0) 0).length : Int) ≤ ((headN (0 + d.toNat) ++ linesF (unK (rowK f)) (n - 0) 0).length : Int)) then
            some (.str (List.take (((headN (0 + d.toNat) ++ linesF (unK (rowK f)) (n - 0) 0).length : Int).toNat) (headN (0 + d.toNat) ++ linesF (unK (rowK f)) (n - 0) 0)), [])
           else none
          else none
         else none
        else none
      else none
     else none
    else none
   else none := by kernel_rfl

theorem dnames_len (k : Nat) : (dnames.getD k []).length ≤ 6 := by
  by_cases h : k < 6
  · rcases (by omega : k = 0 ∨ k = 1 ∨ k = 2 ∨ k = 3 ∨ k = 4 ∨ k = 5) with rfl | rfl | rfl | rfl | rfl | rfl <;> decide
  · rw [List.getD_eq_getElem?_getD, List.getElem?_eq_none (by simp [dnames]; omega)]; simp

theorem headN_len (k : Nat) : (headN k).length ≤ 12 ∧ 0 < (headN k).length := by
  have := dnames_len k
  unfold headN
  simp only [List.length_append, List.length_cons, List.length_nil]
  omega

structure X14 where
  d : Int
  n : Nat
  f : Nat → Pk

def en14 : X14 → List AV := fun ⟨d, n, f⟩ => [.int .i64 d, .sl 2 n (rowK f)]

def de14 : List AV → X14
  | [.int .i64 d, .sl _ n f_g] => ⟨d, n, unK f_g⟩
  | _ => ⟨default, default, default⟩

def p14 : X14 → Prop := fun ⟨d, n, f⟩ => n ≤ bnd ∧ (linesF f n 0).length ≤ 140737488355000

def rs14 : X14 → T AV := fun ⟨d, n, f⟩ => .leaf (.str (fmtK d n f))

noncomputable def c14 : List AV → T AV := ccon en14 de14 p14 rs14

theorem in14 : ∀ x, de14 (en14 x) = x := by
  rintro ⟨d, n, f⟩
  simp only [en14, de14, unK_rowK]

theorem k14 (d : Int) (n : Nat) (f : Nat → Pk) (h : n ≤ bnd ∧ (linesF f n 0).length ≤ 140737488355000) : isEn en14 p14 [.int .i64 d, .sl 2 n (rowK f)] = true := isEn_true (enc := en14) (p := p14) ⟨d, n, f⟩ h

theorem e14 (d : Int) (n : Nat) (f : Nat → Pk) (hp : n ≤ bnd ∧ (linesF f n 0).length ≤ 140737488355000) : (evn tabE h14 L14 14 [.int .i64 d, .sl 2 n (rowK f)] []).run = (.leaf (.str (fmtK d n f)) : T AV).run.map fun r => (r, []) := by
  refine (t14 d n f).trans ?_
  obtain ⟨p1, p2⟩ := hp
  unfold fmtK
  by_cases h1 : d < 1
  · rw [decide_eq_true h1, decide_eq_false (show ¬ 1 ≤ d by omega)]; rfl
  · rw [decide_eq_false h1, decide_eq_true (show 1 ≤ d by omega)]
    by_cases h2 : d ≥ 6
    · rw [decide_eq_true h2, decide_eq_false (show ¬ d < 6 by omega)]; rfl
    · rw [decide_eq_false h2, decide_eq_true (show d < 6 by omega), k16 n f p1, unK_rowK]
      cases hf : fitK f n with
      | false => rfl
      | true =>
        rw [Nat.zero_add, Nat.sub_zero]
        obtain ⟨q1, q2⟩ := headN_len d.toNat
        have q3 := dnames_len d.toNat
        have q4 : (headN d.toNat ++ linesF f n 0).length = (headN d.toNat).length + (linesF f n 0).length := List.length_append
        have hk : isEn eL14 pL14 ([AV.ref 0 0, AV.sl 2 n (rowK f), AV.int IntKind.i64 (n : Int), AV.int IntKind.i64 (0 : Int)], bld (headN d.toNat)) = true :=
          isEn_true (enc := eL14) (p := pL14) ⟨n, f, headN d.toNat, 0⟩ ⟨Nat.zero_le _, p1, by rw [Nat.sub_zero]; omega⟩
        rw [hk, decide_eq_false (show ¬ (headN d.toNat).length = 0 by omega)]
        simp (disch := omega) only [decT, cond_true, cond_false, Bool.not_true, Bool.and_self, Int.toNat_natCast, List.take_length]
        rfl

theorem s14 : Sound1 Try.prog ⟨14, true, pcon c14⟩ := by
  refine sound_c (soundTab_of all_tabE) H0 in14 (hn := h14) (m := 20) (k := 9) (Λ := L14) (oneLoop (by kernel_rfl) l14) ?_
  rintro ⟨d, n, f⟩ hp hF
  exact e14 d n f hp

noncomputable def tabF : Tab := ⟨14, true, pcon c14⟩ :: tabE

theorem all_tabF : ∀ e, e ∈ tabF → Sound1 Try.prog e := (sound_mem_tab s14 all_tabE)

theorem ok_tabF : SoundTab Try.prog tabF := soundTab_of all_tabF
end Go.Pln
namespace Go.Pln

open Go Go.Proofs Go.Ab

set_option maxRecDepth 100000

set_option linter.unusedVariables false

set_option linter.unusedSimpArgs false

/-! ### The reader: fail, word -/

abbrev rdK (s : List UInt8) (a e fa : Int) : Option AObj := some (.cells [.str s, .int .i64 a, .int .i64 e, .int .i64 fa])

theorem t53 (s : List UInt8) (a : Int) (e : Int) (fa : Int) (x : Int) (y : Int) : (evn tabF h53 noLoops 53 [.ref 0 0, .int .i64 x, .int .i64 y] [rdK s a e fa]).run =
  bif e == (0 : Int) then
   some ((AV.tup [], [some (AObj.cells [AV.str s, AV.int IntKind.i64 a, AV.int IntKind.i64 x, AV.int IntKind.i64 y])]))
  else
   some ((AV.tup [], [some (AObj.cells [AV.str s, AV.int IntKind.i64 a, AV.int IntKind.i64 e, AV.int IntKind.i64 fa])])) := by kernel_rfl

def c53 : List AV → Hp → T (AV × Hp)
  | [.ref 0 0, .int .i64 x, .int .i64 y], [some (.cells [.str s, .int .i64 a, .int .i64 e, .int .i64 fa])] => .br (e == 0) (.leaf (.tup [], [rdK s a x y])) (.leaf (.tup [], [rdK s a e fa]))
  | _, _ => .fail

theorem e53 (s : List UInt8) (a : Int) (e : Int) (fa : Int) (x : Int) (y : Int) (hF : FitsL [.ref 0 0, .int .i64 x, .int .i64 y]) (hH : FitsH [rdK s a e fa]) : (evn tabF h53 noLoops 53 [.ref 0 0, .int .i64 x, .int .i64 y] [rdK s a e fa]).run = (.br (e == 0) (.leaf (.tup [], [rdK s a x y])) (.leaf (.tup [], [rdK s a e fa])) : T (AV × Hp)).run := by
  refine (t53 s a e fa x y).trans ?_
  cases h : (e == 0) <;> rfl

theorem s53 : Sound1 Try.prog ⟨53, false, gcon c53⟩ := by
  refine sound_mem (soundTab_of all_tabF) (hn := h53) (m := 20) (k := 9) (Λ := noLoops) (fun _ _ _ _ _ i hi => anyLoopsB) fun args hs r hs' hF hH h => ?_
  unfold c53 at h
  split at h
  · rename_i x y s a e fa
    rw [e53 s a e fa x y hF hH, h]
  · cases h

noncomputable def tabG : Tab := ⟨53, false, gcon c53⟩ :: tabF

theorem all_tabG : ∀ e, e ∈ tabG → Sound1 Try.prog e := (sound_mem_tab s53 all_tabF)

theorem ok_tabG : SoundTab Try.prog tabG := soundTab_of all_tabG

structure Y52 where
  s : List UInt8
  c : Int
  f : Nat
  a : Nat

def eL52 : Y52 → List AV × Hp := fun ⟨s, c, f, a⟩ => ([.ref 0 0, .int .u8 c, .int .i64 f], [rdK s a 0 0])

def dL52 : List AV × Hp → Y52
  | ([.ref _ _, .int .u8 c, .int .i64 f], [some (.cells [.str s, .int .i64 a, .int .i64 _, .int .i64 _])]) => ⟨s, c, f.toNat, a.toNat⟩
  | _ => ⟨default, default, default, default⟩

def pL52 : Y52 → Prop := fun ⟨s, c, f, a⟩ => f ≤ a ∧ a ≤ f + 128 ∧ a ≤ s.length ∧ s.length ≤ 1048576

def rL52 : Y52 → T (AX × St) := fun ⟨s, c, f, a⟩ => .br (decide (f + 128 < fxN wB s a)) (.leaf (.ret, { tm := tmOf 103 [(4, .str [])], ms := [], hp := [rdK s (f + 128 : Nat) 12 (f + 128 : Nat)] })) (.leaf (.exit 0, { tm := tmOf 103 [(0, .ref 0 0), (1, .int .u8 c), (5, .int .i64 f), (32, .bool false)], ms := [], hp := [rdK s (fxN wB s a) 0 0] }))

noncomputable def L52 : LoopT := fun k => match Nat.beq k 200062 with
  | true => some (lccon (mbits 35 103) eL52 dL52 pL52 rL52)
  | false => none

theorem iL52 : ∀ x, dL52 (eL52 x) = x := by
  rintro ⟨s, c, f, a⟩
  simp only [eL52, dL52, Int.toNat_natCast]

theorem kL52 (s : List UInt8) (c : Int) (f : Nat) (a : Nat) (h : f ≤ a ∧ a ≤ f + 128 ∧ a ≤ s.length ∧ s.length ≤ 1048576) : isEn eL52 pL52 ([.ref 0 0, .int .u8 c, .int .i64 f], [rdK s a 0 0]) = true := isEn_true (enc := eL52) (p := pL52) ⟨s, c, f, a⟩ h

theorem q52 (s : List UInt8) (c : Int) (f : Nat) (a : Nat) : (rdn tabG h52 L52 52 1 0 { tm := encGo (mbits 35 103) [.ref 0 0, .int .u8 c, .int .i64 f], ms := [], hp := [rdK s a 0 0] }).run =
  bif decide ((↑a : Int) < (↑s.length : Int)) then
   bif decide ((0 : Int) ≤ (↑a : Int) ∧ (↑a : Int) < (↑s.length : Int)) then
    bif wC (↑(s.getD (↑a : Int).toNat (0 : UInt8)).toNat : Int) then
     bif IntKind.i64.wrap ((↑a : Int) - (↑f : Int)) == (128 : Int) then
      some ((AX.ret, { tm := tmOf 103 [(4, AV.str [])], ms := [], hp := [some (AObj.cells [AV.str s, AV.int IntKind.i64 (↑a : Int), AV.int IntKind.i64 (12 : Int), AV.int IntKind.i64 (↑a : Int)])] }))
     else
      some ((AX.normal, { tm := tmOf 103 [(0, AV.ref 0 0), (1, AV.int IntKind.u8 c), (5, AV.int IntKind.i64 (↑f : Int))], ms := [], hp := [some (AObj.cells [AV.str s, AV.int IntKind.i64 (IntKind.i64.wrap ((↑a : Int) + (1 : Int))), AV.int IntKind.i64 (0 : Int), AV.int IntKind.i64 (0 : Int)])] }))
    else
     some ((AX.exit 0, { tm := tmOf 103 [(0, AV.ref 0 0), (1, AV.int IntKind.u8 c), (5, AV.int IntKind.i64 (↑f : Int)), (32, AV.bool false)], ms := [], hp := [some (AObj.cells [AV.str s, AV.int IntKind.i64 (↑a : Int), AV.int IntKind.i64 (0 : Int), AV.int IntKind.i64 (0 : Int)])] }))
   else
    none
  else
   some ((AX.exit 0, { tm := tmOf 103 [(0, AV.ref 0 0), (1, AV.int IntKind.u8 c), (5, AV.int IntKind.i64 (↑f : Int)), (32, AV.bool false)], ms := [], hp := [some (AObj.cells [AV.str s, AV.int IntKind.i64 (↑a : Int), AV.int IntKind.i64 (0 : Int), AV.int IntKind.i64 (0 : Int)])] })) := by kernel_rfl

theorem l52 : LoopOk Try.prog tabG.pf (fun n => hd Try.prog tabG.pf tabG.con.run (fun f => (H0 f).to) n 9) h52.to 52 1 none L52 (loopAt Try.prog 52 0) := by
  rw [show loopAt Try.prog 52 0 = .loop (lbody Try.prog 52 0) by kernel_rfl]
  refine loop_c (hdT_le (m := 20) 9) (m := 20) (lv := mbits 35 103) (p := pL52) (res := rL52) iL52 (within_of _ (by rw [show loopsOf (lbody Try.prog 52 0) = [] by kernel_rfl]; simp)) (by kernel_rfl) (fun ⟨s, c, f, a⟩ => s.length - a) ?_
  rintro ⟨s, c, f, a⟩ hp
  have ht := q52 s c f a
  obtain ⟨h1, h2, h3, h4⟩ := hp
  by_cases hl : a < s.length
  · have hd := fxN_step (q := wB) 0 hl
    rw [decide_eq_true (show (a : Int) < s.length by omega), in_row hl, Int.toNat_natCast, w64n (by omega), w64 (n := (a : Int) - f) (by omega) (by omega)] at ht
    rw [show wC ((s.getD a 0).toNat : Int) = wB (s.getD a 0) from rfl] at ht
    simp only [cond_true] at ht
    cases hq : wB (s.getD a 0) with
    | false =>
      rw [hq] at ht hd
      rw [cond_false] at hd
      right
      refine ⟨_, ?_, ?_, ht⟩
      · simp
      · simp only [rL52, T.run_br, hd, decide_eq_false (show ¬ f + 128 < a by omega)] <;> rfl
    | true =>
      rw [hq] at ht hd
      rw [cond_true] at hd
      have hge := (fxN_le (q := wB) (show a + 1 ≤ s.length by omega)).1
      by_cases ha : a = f + 128
      · subst ha
        rw [show ((((f + 128 : Nat) : Int) - f) == 128) = true by simp; omega] at ht
        right
        refine ⟨_, ?_, ?_, ht⟩
        · simp
        · simp only [rL52, T.run_br, hd, decide_eq_true (show f + 128 < fxN wB s (f + 128 + 1) by omega)] <;> rfl
      · rw [show (((a : Int) - f) == 128) = false by rw [beq_eq_false_iff_ne]; omega] at ht
        left
        refine ⟨⟨s, c, f, a + 1⟩, ⟨by omega, by omega, by omega, h4⟩, by simp only; omega, ?_, ht⟩
        simp only [rL52, T.run_br, hd]
  · have he : a = s.length := by omega
    rw [decide_eq_false (show ¬ (a : Int) < s.length by omega)] at ht
    have hd := fxN_end (q := wB) (show s.length ≤ a by omega)
    right
    refine ⟨_, ?_, ?_, ht⟩
    · simp
    · simp only [rL52, T.run_br, hd, decide_eq_false (show ¬ f + 128 < a by omega)] <;> rfl

/-- The word from a place on; its end. -/
def wrdA (s : List UInt8) (a : Nat) : List UInt8 := (s.drop a).takeWhile wB

theorem takeTW {p : UInt8 → Bool} : ∀ l : List UInt8, l.take (l.takeWhile p).length = l.takeWhile p
  | [] => rfl
  | b :: l => by
    rw [List.takeWhile_cons]
    split
    · simp [takeTW l]
    · rfl

theorem wrd_take (s : List UInt8) (a : Nat) : (s.drop a).take (fxN wB s a - a) = wrdA s a := by
  unfold fxN wrdA
  rw [Nat.add_sub_cancel_left, takeTW]

def badE (s : List UInt8) (c : Int) (a : Nat) : Bool := wrdA s a == [] || ((s.getD (fxN wB s a) 0).toNat : Int) != c

theorem t52 (s : List UInt8) (c : Int) (a : Nat) : (evn tabG h52 L52 52 [.ref 0 0, .int .u8 c] [rdK s a 0 0]).run =
  bif isEn eL52 pL52 ([AV.ref 0 0, AV.int IntKind.u8 c, AV.int IntKind.i64 (↑a : Int)], [some (AObj.cells [AV.str s, AV.int IntKind.i64 (↑a : Int), AV.int IntKind.i64 (0 : Int), AV.int IntKind.i64 (0 : Int)])]) then
   bif decide ((↑a : Int).toNat + 128 < fxN wB s (↑a : Int).toNat) then
    some ((AV.str [], [some (AObj.cells [AV.str s, AV.int IntKind.i64 (↑((↑a : Int).toNat + 128) : Int), AV.int IntKind.i64 (12 : Int), AV.int IntKind.i64 (↑((↑a : Int).toNat + 128) : Int)])]))
   else
    bif decide ((0 : Int) ≤ (↑(↑a : Int).toNat : Int) ∧ (↑(↑a : Int).toNat : Int) ≤ (↑(fxN wB s (↑a : Int).toNat) : Int) ∧ (↑(fxN wB s (↑a : Int).toNat) : Int) ≤ (↑s.length : Int)) then
     bif (↑(fxN wB s (↑a : Int).toNat) : Int) == (↑s.length : Int) then
      some ((AV.str (List.take ((↑(fxN wB s (↑a : Int).toNat) : Int).toNat - (↑(↑a : Int).toNat : Int).toNat) (List.drop (↑(↑a : Int).toNat : Int).toNat s)), [some (AObj.cells [AV.str s, AV.int IntKind.i64 (↑(fxN wB s (↑a : Int).toNat) : Int), AV.int IntKind.i64 (11 : Int), AV.int IntKind.i64 (↑(fxN wB s (↑a : Int).toNat) : Int)])]))
     else
      bif List.take ((↑(fxN wB s (↑a : Int).toNat) : Int).toNat - (↑(↑a : Int).toNat : Int).toNat) (List.drop (↑(↑a : Int).toNat : Int).toNat s) == [] then
       some ((AV.str (List.take ((↑(fxN wB s (↑a : Int).toNat) : Int).toNat - (↑(↑a : Int).toNat : Int).toNat) (List.drop (↑(↑a : Int).toNat : Int).toNat s)), [some (AObj.cells [AV.str s, AV.int IntKind.i64 (↑(fxN wB s (↑a : Int).toNat) : Int), AV.int IntKind.i64 (10 : Int), AV.int IntKind.i64 (↑(fxN wB s (↑a : Int).toNat) : Int)])]))
      else
       bif decide ((0 : Int) ≤ (↑(fxN wB s (↑a : Int).toNat) : Int) ∧ (↑(fxN wB s (↑a : Int).toNat) : Int) < (↑s.length : Int)) then
        bif (↑(s.getD (↑(fxN wB s (↑a : Int).toNat) : Int).toNat (0 : UInt8)).toNat : Int) != c then
         some ((AV.str (List.take ((↑(fxN wB s (↑a : Int).toNat) : Int).toNat - (↑(↑a : Int).toNat : Int).toNat) (List.drop (↑(↑a : Int).toNat : Int).toNat s)), [some (AObj.cells [AV.str s, AV.int IntKind.i64 (↑(fxN wB s (↑a : Int).toNat) : Int), AV.int IntKind.i64 (10 : Int), AV.int IntKind.i64 (↑(fxN wB s (↑a : Int).toNat) : Int)])]))
        else
         some ((AV.str (List.take ((↑(fxN wB s (↑a : Int).toNat) : Int).toNat - (↑(↑a : Int).toNat : Int).toNat) (List.drop (↑(↑a : Int).toNat : Int).toNat s)), [some (AObj.cells [AV.str s, AV.int IntKind.i64 (↑(fxN wB s (↑a : Int).toNat) : Int), AV.int IntKind.i64 (0 : Int), AV.int IntKind.i64 (0 : Int)])]))
       else
        none
    else
     none
  else
   none := by kernel_rfl

structure X52 where
  s : List UInt8
  c : Int
  a : Nat

def en52 : X52 → List AV × Hp := fun ⟨s, c, a⟩ => ([.ref 0 0, .int .u8 c], [rdK s a 0 0])

def de52 : List AV × Hp → X52
  | ([.ref _ _, .int .u8 c], [some (.cells [.str s, .int .i64 a, .int .i64 _, .int .i64 _])]) => ⟨s, c, a.toNat⟩
  | _ => ⟨default, default, default⟩

def p52 : X52 → Prop := fun ⟨s, c, a⟩ => a ≤ s.length ∧ s.length ≤ 1048576

def rs52 : X52 → T (AV × Hp) := fun ⟨s, c, a⟩ => .br (decide (a + 128 < fxN wB s a)) (.leaf (.str [], [rdK s (a + 128 : Nat) 12 (a + 128 : Nat)])) (.br (decide (fxN wB s a = s.length)) (.leaf (.str (wrdA s a), [rdK s (fxN wB s a) 11 (fxN wB s a)])) (.br (badE s c a) (.leaf (.str (wrdA s a), [rdK s (fxN wB s a) 10 (fxN wB s a)])) (.leaf (.str (wrdA s a), [rdK s (fxN wB s a) 0 0]))))

noncomputable def c52 : List AV → Hp → T (AV × Hp) := mcon en52 de52 p52 rs52

theorem in52 : ∀ x, de52 (en52 x) = x := by
  rintro ⟨s, c, a⟩
  simp only [en52, de52, Int.toNat_natCast]

theorem k52 (s : List UInt8) (c : Int) (a : Nat) (h : a ≤ s.length ∧ s.length ≤ 1048576) : isEn en52 p52 ([.ref 0 0, .int .u8 c], [rdK s a 0 0]) = true := isEn_true (enc := en52) (p := p52) ⟨s, c, a⟩ h

theorem e52 (s : List UInt8) (c : Int) (a : Nat) (hF : FitsL [.ref 0 0, .int .u8 c]) (hH : FitsH [rdK s a 0 0]) (hp : a ≤ s.length ∧ s.length ≤ 1048576) : (evn tabG h52 L52 52 [.ref 0 0, .int .u8 c] [rdK s a 0 0]).run = (.br (decide (a + 128 < fxN wB s a)) (.leaf (.str [], [rdK s (a + 128 : Nat) 12 (a + 128 : Nat)])) (.br (decide (fxN wB s a = s.length)) (.leaf (.str (wrdA s a), [rdK s (fxN wB s a) 11 (fxN wB s a)])) (.br (badE s c a) (.leaf (.str (wrdA s a), [rdK s (fxN wB s a) 10 (fxN wB s a)])) (.leaf (.str (wrdA s a), [rdK s (fxN wB s a) 0 0])))) : T (AV × Hp)).run := by
  refine (t52 s c a).trans ?_
  obtain ⟨p1, p2⟩ := hp
  rw [kL52 s c a a ⟨Nat.le_refl _, by omega, p1, p2⟩]
  obtain ⟨f1, f2⟩ := fxN_le (q := wB) p1
  simp only [Int.toNat_natCast, wrd_take]
  rw [decide_eq_true (show (0 : Int) ≤ (a : Int) ∧ (a : Int) ≤ (fxN wB s a : Int) ∧ (fxN wB s a : Int) ≤ (s.length : Int) by omega), show ((fxN wB s a : Int) == (s.length : Int)) = decide (fxN wB s a = s.length) by rw [Bool.eq_iff_iff, beq_iff_eq, decide_eq_true_eq]; omega]
  by_cases h1 : a + 128 < fxN wB s a
  · rw [decide_eq_true h1]; rfl
  · rw [decide_eq_false h1]
    by_cases h2 : fxN wB s a = s.length
    · rw [decide_eq_true h2]; rfl
    · rw [decide_eq_false h2, decide_eq_true (show (0 : Int) ≤ (fxN wB s a : Int) ∧ (fxN wB s a : Int) < (s.length : Int) by omega)]
      unfold badE
      cases (wrdA s a == []) with
      | true => rfl
      | false => cases (((s.getD (fxN wB s a) 0).toNat : Int) != c) <;> rfl

theorem s52 : Sound1 Try.prog ⟨52, false, gcon c52⟩ := by
  refine sound_cm (soundTab_of all_tabG) in52 (hn := h52) (m := 20) (k := 9) (Λ := L52) (fun _ _ => oneLoop (by kernel_rfl) l52) ?_
  rintro ⟨s, c, a⟩ hp hF hH
  exact e52 s c a hF hH hp

noncomputable def tabH : Tab := ⟨52, false, gcon c52⟩ :: tabG

theorem all_tabH : ∀ e, e ∈ tabH → Sound1 Try.prog e := (sound_mem_tab s52 all_tabG)

theorem ok_tabH : SoundTab Try.prog tabH := soundTab_of all_tabH

theorem q15 (s : List UInt8) : (evn tabH h15 (fun k => some fun s => .leaf (.exit k, s)) 15 [.str s] []).run =
  bif decide ((↑s.length : Int) > (65536 : Int)) then
   some ((AV.tup [AV.int IntKind.i64 (0 : Int), AV.nilsl, AV.agg [AV.int IntKind.i64 (12 : Int), AV.int IntKind.i64 (65536 : Int)]], []))
  else
   bif isEn en34 p34 [AV.str s, AV.str [(10 : UInt8)]] then
    bif isEn en34 p34 [AV.str (cutA (10 : UInt8) s), AV.str [(32 : UInt8)]] then
     bif cutA (32 : UInt8) (cutA (10 : UInt8) s) == [] then
      some ((AV.tup [AV.int IntKind.i64 (0 : Int), AV.nilsl, AV.agg [AV.int IntKind.i64 (15 : Int), AV.int IntKind.i64 (0 : Int)]], []))
     else
      bif cutA (32 : UInt8) (cutA (10 : UInt8) s) == [(110 : UInt8), (112 : UInt8), (109 : UInt8)] then
       bif !cutR (32 : UInt8) (cutA (10 : UInt8) s) == [(112 : UInt8), (108 : UInt8), (97 : UInt8), (110 : UInt8)] then
        some ((AV.tup [AV.int IntKind.i64 (0 : Int), AV.nilsl, AV.agg [AV.int IntKind.i64 (15 : Int), AV.int IntKind.i64 (0 : Int)]], []))
       else
        bif decide ((cutA (32 : UInt8) (cutA (10 : UInt8) s)).length + 5 ≤ 4611686018427387903) then
         bif !cutA (10 : UInt8) s == cutA (32 : UInt8) (cutA (10 : UInt8) s) ++ [(32 : UInt8), (112 : UInt8), (108 : UInt8), (97 : UInt8), (110 : UInt8)] then
          some ((AV.tup [AV.int IntKind.i64 (0 : Int), AV.nilsl, AV.agg [AV.int IntKind.i64 (15 : Int), AV.int IntKind.i64 (0 : Int)]], []))
         else
          bif !s.contains (10 : UInt8) then
           some ((AV.tup [AV.int IntKind.i64 (0 : Int), AV.nilsl, AV.agg [AV.int IntKind.i64 (11 : Int), AV.int IntKind.i64 (↑s.length : Int)]], []))
          else
           none
        else
         none
      else
       bif cutA (32 : UInt8) (cutA (10 : UInt8) s) == [(112 : UInt8), (121 : UInt8), (116 : UInt8), (104 : UInt8), (111 : UInt8), (110 : UInt8)] then
        bif !cutR (32 : UInt8) (cutA (10 : UInt8) s) == [(112 : UInt8), (108 : UInt8), (97 : UInt8), (110 : UInt8)] then
         some ((AV.tup [AV.int IntKind.i64 (0 : Int), AV.nilsl, AV.agg [AV.int IntKind.i64 (15 : Int), AV.int IntKind.i64 (0 : Int)]], []))
        else
         bif decide ((cutA (32 : UInt8) (cutA (10 : UInt8) s)).length + 5 ≤ 4611686018427387903) then
          bif !cutA (10 : UInt8) s == cutA (32 : UInt8) (cutA (10 : UInt8) s) ++ [(32 : UInt8), (112 : UInt8), (108 : UInt8), (97 : UInt8), (110 : UInt8)] then
           some ((AV.tup [AV.int IntKind.i64 (0 : Int), AV.nilsl, AV.agg [AV.int IntKind.i64 (15 : Int), AV.int IntKind.i64 (0 : Int)]], []))
          else
           bif !s.contains (10 : UInt8) then
            some ((AV.tup [AV.int IntKind.i64 (0 : Int), AV.nilsl, AV.agg [AV.int IntKind.i64 (11 : Int), AV.int IntKind.i64 (↑s.length : Int)]], []))
           else
            none
         else
          none
       else
        bif cutA (32 : UInt8) (cutA (10 : UInt8) s) == [(109 : UInt8), (97 : UInt8), (118 : UInt8), (101 : UInt8), (110 : UInt8)] then
         bif !cutR (32 : UInt8) (cutA (10 : UInt8) s) == [(112 : UInt8), (108 : UInt8), (97 : UInt8), (110 : UInt8)] then
          some ((AV.tup [AV.int IntKind.i64 (0 : Int), AV.nilsl, AV.agg [AV.int IntKind.i64 (15 : Int), AV.int IntKind.i64 (0 : Int)]], []))
         else
          bif decide ((cutA (32 : UInt8) (cutA (10 : UInt8) s)).length + 5 ≤ 4611686018427387903) then
           bif !cutA (10 : UInt8) s == cutA (32 : UInt8) (cutA (10 : UInt8) s) ++ [(32 : UInt8), (112 : UInt8), (108 : UInt8), (97 : UInt8), (110 : UInt8)] then
            some ((AV.tup [AV.int IntKind.i64 (0 : Int), AV.nilsl, AV.agg [AV.int IntKind.i64 (15 : Int), AV.int IntKind.i64 (0 : Int)]], []))
           else
            bif !s.contains (10 : UInt8) then
             some ((AV.tup [AV.int IntKind.i64 (0 : Int), AV.nilsl, AV.agg [AV.int IntKind.i64 (11 : Int), AV.int IntKind.i64 (↑s.length : Int)]], []))
            else
             none
          else
           none
        else
         bif cutA (32 : UInt8) (cutA (10 : UInt8) s) == [(100 : UInt8), (101 : UInt8), (98 : UInt8), (105 : UInt8), (97 : UInt8), (110 : UInt8)] then
          bif !cutR (32 : UInt8) (cutA (10 : UInt8) s) == [(112 : UInt8), (108 : UInt8), (97 : UInt8), (110 : UInt8)] then
           some ((AV.tup [AV.int IntKind.i64 (0 : Int), AV.nilsl, AV.agg [AV.int IntKind.i64 (15 : Int), AV.int IntKind.i64 (0 : Int)]], []))
          else
           bif decide ((cutA (32 : UInt8) (cutA (10 : UInt8) s)).length + 5 ≤ 4611686018427387903) then
            bif !cutA (10 : UInt8) s == cutA (32 : UInt8) (cutA (10 : UInt8) s) ++ [(32 : UInt8), (112 : UInt8), (108 : UInt8), (97 : UInt8), (110 : UInt8)] then
             some ((AV.tup [AV.int IntKind.i64 (0 : Int), AV.nilsl, AV.agg [AV.int IntKind.i64 (15 : Int), AV.int IntKind.i64 (0 : Int)]], []))
            else
             bif !s.contains (10 : UInt8) then
              some ((AV.tup [AV.int IntKind.i64 (0 : Int), AV.nilsl, AV.agg [AV.int IntKind.i64 (11 : Int), AV.int IntKind.i64 (↑s.length : Int)]], []))
             else
              none
           else
            none
         else
          bif cutA (32 : UInt8) (cutA (10 : UInt8) s) == [(114 : UInt8), (112 : UInt8), (109 : UInt8)] then
           bif !cutR (32 : UInt8) (cutA (10 : UInt8) s) == [(112 : UInt8), (108 : UInt8), (97 : UInt8), (110 : UInt8)] then
            some ((AV.tup [AV.int IntKind.i64 (0 : Int), AV.nilsl, AV.agg [AV.int IntKind.i64 (15 : Int), AV.int IntKind.i64 (0 : Int)]], []))
           else
            bif decide ((cutA (32 : UInt8) (cutA (10 : UInt8) s)).length + 5 ≤ 4611686018427387903) then
             bif !cutA (10 : UInt8) s == cutA (32 : UInt8) (cutA (10 : UInt8) s) ++ [(32 : UInt8), (112 : UInt8), (108 : UInt8), (97 : UInt8), (110 : UInt8)] then
              some ((AV.tup [AV.int IntKind.i64 (0 : Int), AV.nilsl, AV.agg [AV.int IntKind.i64 (15 : Int), AV.int IntKind.i64 (0 : Int)]], []))
             else
              bif !s.contains (10 : UInt8) then
               some ((AV.tup [AV.int IntKind.i64 (0 : Int), AV.nilsl, AV.agg [AV.int IntKind.i64 (11 : Int), AV.int IntKind.i64 (↑s.length : Int)]], []))
              else
               none
            else
             none
          else
           some ((AV.tup [AV.int IntKind.i64 (0 : Int), AV.nilsl, AV.agg [AV.int IntKind.i64 (15 : Int), AV.int IntKind.i64 (0 : Int)]], []))
    else
     none
   else
    none := by kernel_rfl
end Go.Pln
namespace Go.Pln

open Go Go.Proofs Go.Ab

set_option maxRecDepth 100000

set_option linter.unusedVariables false

set_option linter.unusedSimpArgs false

/-! ### slices.Index -/

def notK (f : Nat → List UInt8) (x : List UInt8) (i : Nat) : Bool := !(f i == x)

def ixS (f : Nat → List UInt8) (x : List UInt8) (n : Nat) : Int := bif decide (fbad (notK f x) n 0 < n) then ((fbad (notK f x) n 0 : Nat) : Int) else -1

def dnm (i : Nat) : List UInt8 := dnames.getD i []

theorem t31  : (evn tabH h31 noLoops 31 [] []).run =
  some ((AV.row 0 1 0 6, [some (AObj.row 1 6 (rowF 1 (over (over (over (over (over (over (List.map (fun i => (List.map aconst1 (Value.string { data := #[] }).cells.toList).getD (i % 1) AV.junk) (List.range 6)) 0 [AV.str []]) 1 [AV.str [(110 : UInt8), (112 : UInt8), (109 : UInt8)]]) 2 [AV.str [(112 : UInt8), (121 : UInt8), (116 : UInt8), (104 : UInt8), (111 : UInt8), (110 : UInt8)]]) 3 [AV.str [(109 : UInt8), (97 : UInt8), (118 : UInt8), (101 : UInt8), (110 : UInt8)]]) 4 [AV.str [(100 : UInt8), (101 : UInt8), (98 : UInt8), (105 : UInt8), (97 : UInt8), (110 : UInt8)]]) 5 [AV.str [(114 : UInt8), (112 : UInt8), (109 : UInt8)]])))])) := by kernel_rfl

def c31 : List AV → T AV
  | [] => .leaf (.sl 1 6 (rowS dnm))
  | _ => .fail

theorem s31 : Sound1 Try.prog ⟨31, true, pcon c31⟩ := by
  refine sound_frzW (m := 20) (k := 9) (hn := h31) (Λ := noLoops) (hs := H0) (soundTab_of all_tabH) (.rows 1) (fun i hi => anyLoops) fun args r hF h => ?_
  unfold c31 at h
  split at h
  · simp only [T.run_leaf, Option.some.injEq] at h; subst h
    refine ⟨_, _, _, t31, rfl, AW.slice fun i c hi hc => ?_⟩
    obtain rfl : c = 0 := by omega
    rcases (by omega : i = 0 ∨ i = 1 ∨ i = 2 ∨ i = 3 ∨ i = 4 ∨ i = 5) with rfl | rfl | rfl | rfl | rfl | rfl <;> rfl
  · cases h

structure Y35 where
  n : Nat
  f : Nat → List UInt8
  x : List UInt8
  i : Nat

def eL35 : Y35 → List AV × Hp := fun ⟨n, f, x, i⟩ => ([.sl 1 n (rowS f), .str x, .int .i64 n, .int .i64 i], [])

def dL35 : List AV × Hp → Y35
  | ([.sl _ n f_g, .str x, .int .i64 _, .int .i64 i], []) => ⟨n, unS f_g, x, i.toNat⟩
  | _ => ⟨default, default, default, default⟩

def pL35 : Y35 → Prop := fun ⟨n, f, x, i⟩ => i ≤ n ∧ n ≤ bnd

def rL35 : Y35 → T (AX × St) := fun ⟨n, f, x, i⟩ => .br (decide (fbad (notK f x) (n - i) i < n)) (.leaf (.ret, { tm := tmOf 19 [(4, .int .i64 (fbad (notK f x) (n - i) i))], ms := [], hp := [] })) (.leaf (.exit 0, { tm := tmOf 19 [(0, .sl 1 n (rowS f)), (1, .str x), (7, .int .i64 n), (8, .int .i64 n), (9, .bool false)], ms := [], hp := [] }))

noncomputable def L35 : LoopT := fun k => match Nat.beq k 200031 with
  | true => some (lccon (mbits 387 19) eL35 dL35 pL35 rL35)
  | false => none

theorem iL35 : ∀ x, dL35 (eL35 x) = x := by
  rintro ⟨n, f, x, i⟩
  simp only [eL35, dL35, Int.toNat_natCast, unS_rowS]

theorem kL35 (n : Nat) (f : Nat → List UInt8) (x : List UInt8) (i : Nat) (h : i ≤ n ∧ n ≤ bnd) : isEn eL35 pL35 ([.sl 1 n (rowS f), .str x, .int .i64 n, .int .i64 i], []) = true := isEn_true (enc := eL35) (p := pL35) ⟨n, f, x, i⟩ h

theorem zL35 (n : Nat) (f : Nat → List UInt8) (x : List UInt8) (h : pL35 ⟨n, f, x, 0⟩) : isEn eL35 pL35 ([.sl 1 n (rowS f), .str x, .int .i64 n, .int .i64 (0 : Int)], []) = true := isEn_true (enc := eL35) (p := pL35) ⟨n, f, x, 0⟩ h

theorem q35 (n : Nat) (f : Nat → List UInt8) (x : List UInt8) (i : Nat) : (rdn tabH h35 L35 35 0 0 { tm := encGo (mbits 387 19) [.sl 1 n (rowS f), .str x, .int .i64 n, .int .i64 i], ms := [], hp := [] }).run =
  bif decide ((↑i : Int) < (↑n : Int)) then
   bif decide ((0 : Int) ≤ (↑i : Int) ∧ (↑i : Int) < (↑n : Int)) then
    bif x == f (↑i : Int).toNat then
     some ((AX.ret, { tm := tmOf 19 [(4, AV.int IntKind.i64 (↑i : Int))], ms := [], hp := [] }))
    else
     some ((AX.normal, { tm := tmOf 19 [(0, AV.sl 1 n (rowS f)), (1, AV.str x), (7, AV.int IntKind.i64 (↑n : Int)), (8, AV.int IntKind.i64 (IntKind.i64.wrap ((↑i : Int) + (1 : Int))))], ms := [], hp := [] }))
   else
    none
  else
   some ((AX.exit 0, { tm := tmOf 19 [(0, AV.sl 1 n (rowS f)), (1, AV.str x), (7, AV.int IntKind.i64 (↑n : Int)), (8, AV.int IntKind.i64 (↑i : Int)), (9, AV.bool false)], ms := [], hp := [] })) := by kernel_rfl

theorem l35 : LoopOk Try.prog tabH.pf (fun n => hd Try.prog tabH.pf tabH.con.run (fun f => (H0 f).to) n 9) h35.to 35 0 none L35 (loopAt Try.prog 35 0) := by
  rw [show loopAt Try.prog 35 0 = .loop (lbody Try.prog 35 0) by kernel_rfl]
  refine loop_c (hdT_le (m := 20) 9) (m := 20) (lv := mbits 387 19) (p := pL35) (res := rL35) iL35 (within_of _ (by rw [show loopsOf (lbody Try.prog 35 0) = [] by kernel_rfl]; simp)) (by kernel_rfl) (fun ⟨n, f, x, i⟩ => n - i) ?_
  rintro ⟨n, f, x, i⟩ hp
  have ht := q35 n f x i
  obtain ⟨h1, h2⟩ := hp
  simp only [bnd] at h2
  by_cases hl : i < n
  · have hd := fbad_step (q := notK f x) hl
    rw [decide_eq_true (show (i : Int) < n by omega), in_row hl, Int.toNat_natCast, w64n (by omega)] at ht
    rw [show (x == f i) = !notK f x i by unfold notK; rw [Bool.not_not, Bool.eq_iff_iff, beq_iff_eq, beq_iff_eq]; exact eq_comm] at ht
    cases hq : notK f x i with
    | true =>
      rw [hq] at ht hd
      rw [cond_true] at hd
      left
      refine ⟨⟨n, f, x, i + 1⟩, ⟨by omega, by simpa only [bnd] using h2⟩, by simp only; omega, ?_, ht⟩
      simp only [rL35, T.run_br, hd]
    | false =>
      rw [hq] at ht hd
      rw [cond_false] at hd
      right
      refine ⟨_, ?_, ?_, ht⟩
      · simp
      · simp only [rL35, T.run_br, hd, decide_eq_true hl] <;> rfl
  · have he : i = n := by omega
    right
    subst he
    rw [decide_eq_false (show ¬ (i : Int) < i by omega)] at ht
    refine ⟨_, ?_, ?_, ht⟩
    · simp
    · simp only [rL35, T.run_br, Nat.sub_self, fbad, decide_eq_false (Nat.lt_irrefl i)] <;> rfl

theorem t35 (n : Nat) (f : Nat → List UInt8) (x : List UInt8) : (evn tabH h35 L35 35 [.sl 1 n (rowS f), .str x] []).run =
  bif isEn eL35 pL35 ([AV.sl 1 n (rowS f), AV.str x, AV.int IntKind.i64 (↑n : Int), AV.int IntKind.i64 (0 : Int)], []) then
   bif decide (fbad (notK (unS (rowS f)) x) (n - 0) 0 < n) then
    some ((AV.int IntKind.i64 (↑(fbad (notK (unS (rowS f)) x) (n - 0) 0) : Int), []))
   else
    some ((AV.int IntKind.i64 (-1 : Int), []))
  else
   none := by kernel_rfl

structure X35 where
  n : Nat
  f : Nat → List UInt8
  x : List UInt8

def en35 : X35 → List AV := fun ⟨n, f, x⟩ => [.sl 1 n (rowS f), .str x]

def de35 : List AV → X35
  | [.sl _ n f_g, .str x] => ⟨n, unS f_g, x⟩
  | _ => ⟨default, default, default⟩

def p35 : X35 → Prop := fun ⟨n, f, x⟩ => n ≤ bnd

def rs35 : X35 → T AV := fun ⟨n, f, x⟩ => .leaf (.int .i64 (ixS f x n))

noncomputable def c35 : List AV → T AV := ccon en35 de35 p35 rs35

theorem in35 : ∀ x, de35 (en35 x) = x := by
  rintro ⟨n, f, x⟩
  simp only [en35, de35, Int.toNat_natCast, unS_rowS]

theorem k35 (n : Nat) (f : Nat → List UInt8) (x : List UInt8) (h : n ≤ bnd) : isEn en35 p35 [.sl 1 n (rowS f), .str x] = true := isEn_true (enc := en35) (p := p35) ⟨n, f, x⟩ h

theorem e35 (n : Nat) (f : Nat → List UInt8) (x : List UInt8) (hF : FitsL [.sl 1 n (rowS f), .str x]) (hp : n ≤ bnd) : (evn tabH h35 L35 35 [.sl 1 n (rowS f), .str x] []).run = (.leaf (.int .i64 (ixS f x n)) : T AV).run.map fun r => (r, []) := by
  refine (t35 n f x).trans ?_
  rw [cond_chk (zL35 n f x ⟨Nat.zero_le _, hp⟩)]
  rw [unS_rowS, Nat.sub_zero]
  unfold ixS
  cases decide (fbad (notK f x) n 0 < n) <;> rfl

theorem s35 : Sound1 Try.prog ⟨35, true, pcon c35⟩ := by
  refine sound_c (soundTab_of all_tabH) H0 in35 (hn := h35) (m := 20) (k := 9) (Λ := L35) (oneLoop (by kernel_rfl) l35) ?_
  rintro ⟨n, f, x⟩ hp hF
  exact e35 n f x hF hp

noncomputable def tabI : Tab := ⟨31, true, pcon c31⟩ :: ⟨35, true, pcon c35⟩ :: tabH

theorem all_tabI : ∀ e, e ∈ tabI → Sound1 Try.prog e := (sound_mem_tab s31 (sound_mem_tab s35 all_tabH))

theorem ok_tabI : SoundTab Try.prog tabI := soundTab_of all_tabI
end Go.Pln

/- Lemmas for the claims of this seat (a verified symbolic evaluator, and contracts of functions): own work; no condition. -/
import Derived.Test.YtdkmbohpmfakkaaDoorFnJ
namespace Go.Mvn

open Go Go.Proofs Go.Ab

set_option maxRecDepth 100000

set_option linter.unusedVariables false

set_option linter.unusedSimpArgs false

/-! ### The reference's order of tokens -/

theorem t47 (b : Bool) : (evn tabX9 h47 noLoops 47 [.bool b] []).run =
  bif b then
   some ((AV.int IntKind.i64 (1 : Int), []))
  else
   some ((AV.int IntKind.i64 (0 : Int), [])) := by kernel_rfl

def c47 : List AV → T AV
  | [.bool b] => .leaf (.int .i64 (bif b then 1 else 0))
  | _ => .fail

theorem e47 (b : Bool) (hF : FitsL [.bool b]) : (evn tabX9 h47 noLoops 47 [.bool b] []).run = (.leaf (.int .i64 (bif b then 1 else 0)) : T AV).run.map fun r => (r, []) := by
  refine (t47 b).trans ?_
  cases b <;> rfl

theorem s47 : Sound1 Tryd.prog ⟨47, true, pcon c47⟩ := by
  refine sound_pureH (m := 20) (k := 9) (hn := h47) (Λ := noLoops) (soundTab_of all_tabX9) H0 (fun i hi => anyLoops) fun args r hF h => ?_
  unfold c47 at h
  split at h
  · rename_i b
    have he := e47 b hF
    rw [he, h]; rfl
  · cases h

theorem t67 (d : Bool) (n : Bool) (s : List UInt8) (f : Bool) : (evn tabX9 h67 noLoops 67 [.agg [.bool d, .bool n, .str s], .bool f] []).run =
  bif !n then
   some ((AV.int IntKind.i64 (0 : Int), []))
  else
   bif d then
    bif !f then
     some ((AV.int IntKind.i64 (1 : Int), []))
    else
     some ((AV.int IntKind.i64 (2 : Int), []))
   else
    some ((AV.int IntKind.i64 (2 : Int), [])) := by kernel_rfl

def c67 : List AV → T AV
  | [.agg [.bool d, .bool n, .str s], .bool f] => .leaf (.int .i64 (clsT d n f))
  | _ => .fail

theorem e67 (d : Bool) (n : Bool) (s : List UInt8) (f : Bool) (hF : FitsL [.agg [.bool d, .bool n, .str s], .bool f]) : (evn tabX9 h67 noLoops 67 [.agg [.bool d, .bool n, .str s], .bool f] []).run = (.leaf (.int .i64 (clsT d n f)) : T AV).run.map fun r => (r, []) := by
  refine (t67 d n s f).trans ?_
  unfold clsT
  cases d <;> cases n <;> cases f <;> rfl

theorem s67 : Sound1 Tryd.prog ⟨67, true, pcon c67⟩ := by
  refine sound_pureH (m := 20) (k := 9) (hn := h67) (Λ := noLoops) (soundTab_of all_tabX9) H0 (fun i hi => anyLoops) fun args r hF h => ?_
  unfold c67 at h
  split at h
  · rename_i d n s f
    have he := e67 d n s f hF
    rw [he, h]; rfl
  · cases h

noncomputable def tabY1 : Tab := ⟨47, true, pcon c47⟩ :: ⟨67, true, pcon c67⟩ :: tabX9

theorem all_tabY1 : ∀ e, e ∈ tabY1 → Sound1 Tryd.prog e := (sound_mem_tab s47 (sound_mem_tab s67 all_tabX9))

theorem ok_tabY1 : SoundTab Tryd.prog tabY1 := soundTab_of all_tabY1

theorem t68 (n : Int) : (evn tabY1 h68 noLoops 68 [.int .i64 n] []).run =
  some ((AV.int IntKind.i64 (IntKind.i64.wrap ((bif decide (n > (0 : Int)) then (1 : Int) else (0 : Int)) - bif decide (n < (0 : Int)) then (1 : Int) else (0 : Int))), [])) := by kernel_rfl

def c68 : List AV → T AV
  | [.int .i64 n] => .leaf (.int .i64 (sgn n))
  | _ => .fail

theorem e68 (n : Int) (hF : FitsL [.int .i64 n]) : (evn tabY1 h68 noLoops 68 [.int .i64 n] []).run = (.leaf (.int .i64 (sgn n)) : T AV).run.map fun r => (r, []) := by
  refine (t68 n).trans ?_
  unfold sgn
  by_cases h1 : 0 < n
  · rw [decide_eq_true (show n > 0 from h1), decide_eq_false (show ¬ n < 0 by omega), if_pos h1]; rfl
  · by_cases h2 : n < 0
    · rw [decide_eq_false (show ¬ n > 0 from h1), decide_eq_true h2, if_neg h1, if_pos h2]; rfl
    · rw [decide_eq_false (show ¬ n > 0 from h1), decide_eq_false h2, if_neg h1, if_neg h2]; rfl

theorem s68 : Sound1 Tryd.prog ⟨68, true, pcon c68⟩ := by
  refine sound_pureH (m := 20) (k := 9) (hn := h68) (Λ := noLoops) (soundTab_of all_tabY1) H0 (fun i hi => anyLoops) fun args r hF h => ?_
  unfold c68 at h
  split at h
  · rename_i n
    have he := e68 n hF
    rw [he, h]; rfl
  · cases h

noncomputable def tabY2 : Tab := ⟨68, true, pcon c68⟩ :: tabY1

theorem all_tabY2 : ∀ e, e ∈ tabY2 → Sound1 Tryd.prog e := (sound_mem_tab s68 all_tabY1)

theorem ok_tabY2 : SoundTab Tryd.prog tabY2 := soundTab_of all_tabY2

theorem rank_w (a b : List UInt8) : IntKind.i64.wrap (rankN a - rankN b) = rankN a - rankN b := by
  have h1 := rankN_le a
  have h2 := rankN_le b
  exact w64 (by omega) (by omega)

theorem cls_w (d1 n1 d2 n2 f : Bool) : IntKind.i64.wrap (clsT d1 n1 f - clsT d2 n2 f) = clsT d1 n1 f - clsT d2 n2 f := by
  have h1 := clsT_le d1 n1 f
  have h2 := clsT_le d2 n2 f
  exact w64 (by omega) (by omega)

theorem sgn_nez (n : Int) : (sgn n != 0) = (n != 0) := by
  unfold sgn
  by_cases h1 : 0 < n
  · rw [if_pos h1, show (n != 0) = true by simp; omega]; rfl
  · by_cases h2 : n < 0
    · rw [if_neg h1, if_pos h2, show (n != 0) = true by simp; omega]; rfl
    · rw [if_neg h1, if_neg h2, show (n != 0) = false by simp; omega]; rfl

theorem sub_ne (a b : Int) : ((a - b) != 0) = (a != b) := by
  rw [Bool.eq_iff_iff, bne_iff_ne, bne_iff_ne]; omega

theorem cmp_gt (a b : List UInt8) : abytesLess b a = decide (0 < Lib.compareBytes a b) := by
  have h1 := abytesLess_iff b a
  have h2 := bytes_cmp.anti a b
  rw [h1, h2]
  rw [Bool.eq_iff_iff, decide_eq_true_eq, decide_eq_true_eq]; omega

theorem t46 (d1 : Bool) (n1 : Bool) (s1 : List UInt8) (d2 : Bool) (n2 : Bool) (s2 : List UInt8) (f : Bool) : (evn tabY2 h46 noLoops 46 [.agg [.bool d1, .bool n1, .str s1], .agg [.bool d2, .bool n2, .str s2], .bool f] []).run =
  bif clsT d1 n1 f != clsT d2 n2 f then
   some ((AV.int IntKind.i64 (sgn (IntKind.i64.wrap (clsT d1 n1 f - clsT d2 n2 f))), []))
  else
   bif decide (clsT d1 n1 f > (0 : Int)) then
    some ((AV.int IntKind.i64 (cmpD s1 s2), []))
   else
    bif sgn (IntKind.i64.wrap (rankN s1 - rankN s2)) != (0 : Int) then
     some ((AV.int IntKind.i64 (sgn (IntKind.i64.wrap (rankN s1 - rankN s2))), []))
    else
     bif decide (rankN s1 < (8 : Int)) then
      some ((AV.int IntKind.i64 (sgn (IntKind.i64.wrap (rankN s1 - rankN s2))), []))
     else
      some ((AV.int IntKind.i64 (IntKind.i64.wrap ((bif !(abytesLess s1 s2 || s1 == s2) then (1 : Int) else (0 : Int)) - bif abytesLess s1 s2 then (1 : Int) else (0 : Int))), [])) := by kernel_rfl

def c46 : List AV → T AV
  | [.agg [.bool d1, .bool n1, .str s1], .agg [.bool d2, .bool n2, .str s2], .bool f] => .leaf (.int .i64 (ordT d1 n1 s1 d2 n2 s2 f))
  | _ => .fail

theorem e46 (d1 : Bool) (n1 : Bool) (s1 : List UInt8) (d2 : Bool) (n2 : Bool) (s2 : List UInt8) (f : Bool) (hF : FitsL [.agg [.bool d1, .bool n1, .str s1], .agg [.bool d2, .bool n2, .str s2], .bool f]) : (evn tabY2 h46 noLoops 46 [.agg [.bool d1, .bool n1, .str s1], .agg [.bool d2, .bool n2, .str s2], .bool f] []).run = (.leaf (.int .i64 (ordT d1 n1 s1 d2 n2 s2 f)) : T AV).run.map fun r => (r, []) := by
  refine (t46 d1 n1 s1 d2 n2 s2 f).trans ?_
  have hc := compareBytes_range s1 s2
  rw [rank_w, cls_w, clsT_pos, sgn_nez, sub_ne, abytesLess_iff, bytes_eqz]
  unfold ordT
  cases clsT d1 n1 f != clsT d2 n2 f with
  | true => rfl
  | false =>
    cases n1 with
    | true => rfl
    | false =>
      cases h : rankN s1 != rankN s2 with
      | true => rfl
      | false =>
        have e : rankN s1 = rankN s2 := by simpa using h
        rw [e, Int.sub_self]
        cases decide (rankN s2 < 8) with
        | true => rfl
        | false =>
          rcases (by omega : Lib.compareBytes s1 s2 = -1 ∨ Lib.compareBytes s1 s2 = 0 ∨ Lib.compareBytes s1 s2 = 1) with e | e | e <;> rw [e] <;> rfl

theorem s46 : Sound1 Tryd.prog ⟨46, true, pcon c46⟩ := by
  refine sound_pureH (m := 20) (k := 9) (hn := h46) (Λ := noLoops) (soundTab_of all_tabY2) H0 (fun i hi => anyLoops) fun args r hF h => ?_
  unfold c46 at h
  split at h
  · rename_i d1 n1 s1 d2 n2 s2 f
    have he := e46 d1 n1 s1 d2 n2 s2 f hF
    rw [he, h]; rfl
  · cases h

noncomputable def tabY3 : Tab := ⟨46, true, pcon c46⟩ :: tabY2

theorem all_tabY3 : ∀ e, e ∈ tabY3 → Sound1 Tryd.prog e := (sound_mem_tab s46 all_tabY2)

theorem ok_tabY3 : SoundTab Tryd.prog tabY3 := soundTab_of all_tabY3
end Go.Mvn
namespace Go.Mvn

open Go Go.Proofs Go.Ab

set_option maxRecDepth 100000

set_option linter.unusedVariables false

set_option linter.unusedSimpArgs false

/-! ### The reference's Fit -/

theorem t44s (n : Nat) (i : Nat) (f : Nat → Tok) : (evn tabY3 h44 noLoops 44 [.sl 3 n (rowT f), .int .i64 i] []).run =
  bif decide ((0 : Int) ≤ (↑i : Int) ∧ (↑i : Int) < (↑n : Int)) then
   bif nullT (f (↑i : Int).toNat).num (f (↑i : Int).toNat).text then
    bif IntKind.i64.wrap ((↑i : Int) + (1 : Int)) == (↑n : Int) then
     some ((AV.bool true, []))
    else
     bif decide ((0 : Int) ≤ IntKind.i64.wrap ((↑i : Int) + (1 : Int)) ∧ IntKind.i64.wrap ((↑i : Int) + (1 : Int)) < (↑n : Int)) then
      bif (f (IntKind.i64.wrap ((↑i : Int) + (1 : Int))).toNat).dash then
       some ((AV.bool true, []))
      else
       bif decide ((0 : Int) ≤ IntKind.i64.wrap ((↑i : Int) + (1 : Int)) ∧ IntKind.i64.wrap ((↑i : Int) + (1 : Int)) < (↑n : Int)) then
        some ((AV.bool !(f (IntKind.i64.wrap ((↑i : Int) + (1 : Int))).toNat).num, []))
       else
        none
     else
      none
   else
    some ((AV.bool false, []))
  else
   none := by kernel_rfl

structure X44s where
  n : Nat
  i : Nat
  f : Nat → Tok

def en44s : X44s → List AV := fun ⟨n, i, f⟩ => [.sl 3 n (rowT f), .int .i64 i]

def de44s : List AV → X44s
  | [.sl _ n f_g, .int .i64 i] => ⟨n, i.toNat, unT f_g⟩
  | _ => ⟨default, default, default⟩

def p44s : X44s → Prop := fun ⟨n, i, f⟩ => i < n ∧ n ≤ bnd

def rs44s : X44s → T AV := fun ⟨n, i, f⟩ => .leaf (.bool (goesF f n i))

noncomputable def c44s : List AV → T AV := ccon en44s de44s p44s rs44s

theorem in44s : ∀ x, de44s (en44s x) = x := by
  rintro ⟨n, i, f⟩
  simp only [en44s, de44s, Int.toNat_natCast, unT_rowT]

theorem k44s (n : Nat) (i : Nat) (f : Nat → Tok) (h : i < n ∧ n ≤ bnd) : isEn en44s p44s [.sl 3 n (rowT f), .int .i64 i] = true := isEn_true (enc := en44s) (p := p44s) ⟨n, i, f⟩ h

theorem e44s (n : Nat) (i : Nat) (f : Nat → Tok) (hF : FitsL [.sl 3 n (rowT f), .int .i64 i]) (hp : i < n ∧ n ≤ bnd) : (evn tabY3 h44 noLoops 44 [.sl 3 n (rowT f), .int .i64 i] []).run = (.leaf (.bool (goesF f n i)) : T AV).run.map fun r => (r, []) := by
  refine (t44s n i f).trans ?_
  obtain ⟨h1, h3⟩ := hp
  simp only [bnd] at h3
  rw [w64n (by omega), in_row h1, nat_beqI]
  simp only [Int.toNat_natCast, cond_true]
  unfold goesF
  cases nullT (f i).num (f i).text with
  | false => rfl
  | true =>
    cases he : (i + 1 == n) with
    | true => rfl
    | false =>
      have : i + 1 ≠ n := by simpa using he
      rw [in_row (show i + 1 < n by omega)]
      cases (f (i + 1)).dash <;> rfl

theorem s44s : Sound1 Tryd.prog ⟨44, true, pcon c44s⟩ := by
  refine sound_c (soundTab_of all_tabY3) H0 in44s (hn := h44) (m := 20) (k := 9) (Λ := noLoops) (fun i hi => anyLoops) ?_
  rintro ⟨n, i, f⟩ hp hF
  exact e44s n i f hF hp

noncomputable def tabY4 : Tab := ⟨44, true, pcon c44s⟩ :: tabY3

theorem all_tabY4 : ∀ e, e ∈ tabY4 → Sound1 Tryd.prog e := (sound_mem_tab s44s all_tabY3)

theorem ok_tabY4 : SoundTab Tryd.prog tabY4 := soundTab_of all_tabY4

def fcB (num : Bool) (b : UInt8) : Bool := bif num then dig (b.toNat : Int) else quB b

structure Y20_1 where
  n : Nat
  f : Nat → Tok
  i : Nat
  t : List UInt8
  k : Nat

def eL20_1 : Y20_1 → List AV × Hp := fun ⟨n, f, i, t, k⟩ => ([.sl 3 n (rowT f), .int .i64 i, .str t, .int .i64 k], [])

def dL20_1 : List AV × Hp → Y20_1
  | ([.sl _ n f_g, .int .i64 i, .str t, .int .i64 k], []) => ⟨n, unT f_g, i.toNat, t, k.toNat⟩
  | _ => ⟨default, default, default, default, default⟩

def pL20_1 : Y20_1 → Prop := fun ⟨n, f, i, t, k⟩ => i < n ∧ n ≤ bnd ∧ k ≤ t.length ∧ t.length ≤ bnd

def rL20_1 : Y20_1 → T (AX × St) := fun ⟨n, f, i, t, k⟩ => .br (alN (fcB (f i).num) t k) (.leaf (.exit 2, { tm := tmOf 131 [(0, .sl 3 n (rowT f)), (3, .int .i64 i), (4, .str t), (5, .int .i64 t.length), (46, .bool false)], ms := [], hp := [] })) (.leaf (.ret, { tm := tmOf 131 [(2, .bool false)], ms := [], hp := [] }))

noncomputable def LI20 : LoopT := fun k => match Nat.beq k 1000065 with
  | true => some (lccon (mbits 57 131) eL20_1 dL20_1 pL20_1 rL20_1)
  | false => none

theorem iL20_1 : ∀ x, dL20_1 (eL20_1 x) = x := by
  rintro ⟨n, f, i, t, k⟩
  simp only [eL20_1, dL20_1, Int.toNat_natCast, unT_rowT]

theorem kL20_1 (n : Nat) (f : Nat → Tok) (i : Nat) (t : List UInt8) (k : Nat) (h : i < n ∧ n ≤ bnd ∧ k ≤ t.length ∧ t.length ≤ bnd) : isEn eL20_1 pL20_1 ([.sl 3 n (rowT f), .int .i64 i, .str t, .int .i64 k], []) = true := isEn_true (enc := eL20_1) (p := pL20_1) ⟨n, f, i, t, k⟩ h

theorem zL20_1 (n : Nat) (f : Nat → Tok) (i : Nat) (t : List UInt8) (h : pL20_1 ⟨n, f, i, t, 0⟩) : isEn eL20_1 pL20_1 ([.sl 3 n (rowT f), .int .i64 i, .str t, .int .i64 (0 : Int)], []) = true := isEn_true (enc := eL20_1) (p := pL20_1) ⟨n, f, i, t, 0⟩ h

theorem q20_1 (n : Nat) (f : Nat → Tok) (i : Nat) (t : List UInt8) (k : Nat) : (rdn tabY4 h20 LI20 20 0 1 { tm := encGo (mbits 57 131) [.sl 3 n (rowT f), .int .i64 i, .str t, .int .i64 k], ms := [], hp := [] }).run =
  bif decide ((↑k : Int) < (↑t.length : Int)) then
   bif decide ((0 : Int) ≤ (↑k : Int) ∧ (↑k : Int) < (↑t.length : Int)) then
    bif decide ((0 : Int) ≤ (↑i : Int) ∧ (↑i : Int) < (↑n : Int)) then
     bif (f (↑i : Int).toNat).num then
      bif !dig (↑(t.getD (↑k : Int).toNat (0 : UInt8)).toNat : Int) then
       some ((AX.ret, { tm := tmOf 131 [(2, AV.bool false)], ms := [], hp := [] }))
      else
       bif decide ((0 : Int) ≤ (↑i : Int) ∧ (↑i : Int) < (↑n : Int)) then
        bif !(f (↑i : Int).toNat).num then
         bif decide ((↑(t.getD (↑k : Int).toNat (0 : UInt8)).toNat : Int) ≥ (97 : Int)) then
          bif decide ((↑(t.getD (↑k : Int).toNat (0 : UInt8)).toNat : Int) ≤ (122 : Int)) then
           some ((AX.normal, { tm := tmOf 131 [(0, AV.sl 3 n (rowT f)), (3, AV.int IntKind.i64 (↑i : Int)), (4, AV.str t), (5, AV.int IntKind.i64 (IntKind.i64.wrap ((↑k : Int) + (1 : Int))))], ms := [], hp := [] }))
          else
           bif (↑(t.getD (↑k : Int).toNat (0 : UInt8)).toNat : Int) == (95 : Int) then
            some ((AX.normal, { tm := tmOf 131 [(0, AV.sl 3 n (rowT f)), (3, AV.int IntKind.i64 (↑i : Int)), (4, AV.str t), (5, AV.int IntKind.i64 (IntKind.i64.wrap ((↑k : Int) + (1 : Int))))], ms := [], hp := [] }))
           else
            bif !(↑(t.getD (↑k : Int).toNat (0 : UInt8)).toNat : Int) == (43 : Int) then
             some ((AX.ret, { tm := tmOf 131 [(2, AV.bool false)], ms := [], hp := [] }))
            else
             some ((AX.normal, { tm := tmOf 131 [(0, AV.sl 3 n (rowT f)), (3, AV.int IntKind.i64 (↑i : Int)), (4, AV.str t), (5, AV.int IntKind.i64 (IntKind.i64.wrap ((↑k : Int) + (1 : Int))))], ms := [], hp := [] }))
         else
          bif (↑(t.getD (↑k : Int).toNat (0 : UInt8)).toNat : Int) == (95 : Int) then
           some ((AX.normal, { tm := tmOf 131 [(0, AV.sl 3 n (rowT f)), (3, AV.int IntKind.i64 (↑i : Int)), (4, AV.str t), (5, AV.int IntKind.i64 (IntKind.i64.wrap ((↑k : Int) + (1 : Int))))], ms := [], hp := [] }))
          else
           bif !(↑(t.getD (↑k : Int).toNat (0 : UInt8)).toNat : Int) == (43 : Int) then
            some ((AX.ret, { tm := tmOf 131 [(2, AV.bool false)], ms := [], hp := [] }))
           else
            some ((AX.normal, { tm := tmOf 131 [(0, AV.sl 3 n (rowT f)), (3, AV.int IntKind.i64 (↑i : Int)), (4, AV.str t), (5, AV.int IntKind.i64 (IntKind.i64.wrap ((↑k : Int) + (1 : Int))))], ms := [], hp := [] }))
        else
         some ((AX.normal, { tm := tmOf 131 [(0, AV.sl 3 n (rowT f)), (3, AV.int IntKind.i64 (↑i : Int)), (4, AV.str t), (5, AV.int IntKind.i64 (IntKind.i64.wrap ((↑k : Int) + (1 : Int))))], ms := [], hp := [] }))
       else
        none
     else
      bif decide ((0 : Int) ≤ (↑i : Int) ∧ (↑i : Int) < (↑n : Int)) then
       bif !(f (↑i : Int).toNat).num then
        bif decide ((↑(t.getD (↑k : Int).toNat (0 : UInt8)).toNat : Int) ≥ (97 : Int)) then
         bif decide ((↑(t.getD (↑k : Int).toNat (0 : UInt8)).toNat : Int) ≤ (122 : Int)) then
          some ((AX.normal, { tm := tmOf 131 [(0, AV.sl 3 n (rowT f)), (3, AV.int IntKind.i64 (↑i : Int)), (4, AV.str t), (5, AV.int IntKind.i64 (IntKind.i64.wrap ((↑k : Int) + (1 : Int))))], ms := [], hp := [] }))
         else
          bif (↑(t.getD (↑k : Int).toNat (0 : UInt8)).toNat : Int) == (95 : Int) then
           some ((AX.normal, { tm := tmOf 131 [(0, AV.sl 3 n (rowT f)), (3, AV.int IntKind.i64 (↑i : Int)), (4, AV.str t), (5, AV.int IntKind.i64 (IntKind.i64.wrap ((↑k : Int) + (1 : Int))))], ms := [], hp := [] }))
          else
           bif !(↑(t.getD (↑k : Int).toNat (0 : UInt8)).toNat : Int) == (43 : Int) then
            some ((AX.ret, { tm := tmOf 131 [(2, AV.bool false)], ms := [], hp := [] }))
           else
            some ((AX.normal, { tm := tmOf 131 [(0, AV.sl 3 n (rowT f)), (3, AV.int IntKind.i64 (↑i : Int)), (4, AV.str t), (5, AV.int IntKind.i64 (IntKind.i64.wrap ((↑k : Int) + (1 : Int))))], ms := [], hp := [] }))
        else
         bif (↑(t.getD (↑k : Int).toNat (0 : UInt8)).toNat : Int) == (95 : Int) then
          some ((AX.normal, { tm := tmOf 131 [(0, AV.sl 3 n (rowT f)), (3, AV.int IntKind.i64 (↑i : Int)), (4, AV.str t), (5, AV.int IntKind.i64 (IntKind.i64.wrap ((↑k : Int) + (1 : Int))))], ms := [], hp := [] }))
         else
          bif !(↑(t.getD (↑k : Int).toNat (0 : UInt8)).toNat : Int) == (43 : Int) then
           some ((AX.ret, { tm := tmOf 131 [(2, AV.bool false)], ms := [], hp := [] }))
          else
           some ((AX.normal, { tm := tmOf 131 [(0, AV.sl 3 n (rowT f)), (3, AV.int IntKind.i64 (↑i : Int)), (4, AV.str t), (5, AV.int IntKind.i64 (IntKind.i64.wrap ((↑k : Int) + (1 : Int))))], ms := [], hp := [] }))
       else
        some ((AX.normal, { tm := tmOf 131 [(0, AV.sl 3 n (rowT f)), (3, AV.int IntKind.i64 (↑i : Int)), (4, AV.str t), (5, AV.int IntKind.i64 (IntKind.i64.wrap ((↑k : Int) + (1 : Int))))], ms := [], hp := [] }))
      else
       none
    else
     none
   else
    none
  else
   some ((AX.exit 2, { tm := tmOf 131 [(0, AV.sl 3 n (rowT f)), (3, AV.int IntKind.i64 (↑i : Int)), (4, AV.str t), (5, AV.int IntKind.i64 (↑k : Int)), (46, AV.bool false)], ms := [], hp := [] })) := by kernel_rfl

theorem l20_1 : LoopOk Tryd.prog tabY4.pf (fun n => hd Tryd.prog tabY4.pf tabY4.con.run (fun f => (H0 f).to) n 9) h20.to 20 0 none LI20 (loopAt Tryd.prog 20 1) := by
  rw [show loopAt Tryd.prog 20 1 = .loop (lbody Tryd.prog 20 1) by kernel_rfl]
  refine loop_c (hdT_le (m := 20) 9) (m := 20) (lv := mbits 57 131) (p := pL20_1) (res := rL20_1) iL20_1 (within_of _ (by rw [show loopsOf (lbody Tryd.prog 20 1) = [] by kernel_rfl]; simp)) (by kernel_rfl) (fun ⟨n, f, i, t, k⟩ => t.length - k) ?_
  rintro ⟨n, f, i, t, k⟩ hp
  have ht := q20_1 n f i t k
  obtain ⟨h1, h2, h3, h4⟩ := hp
  have hb2 := h2
  have hb4 := h4
  simp only [bnd] at hb2 hb4
  by_cases hl : k < t.length
  · have hd := alN_step (q := fcB (f i).num) 0 hl
    rw [decide_eq_true (show (k : Int) < t.length by omega), byte_at hl, in_row h1, Int.toNat_natCast, Int.toNat_natCast, w64n (by omega)] at ht
    simp only [cond_true] at ht
    have key : (rdn tabY4 h20 noLoops 20 0 1 { tm := encGo (mbits 57 131) [.sl 3 n (rowT f), .int .i64 i, .str t, .int .i64 k], ms := [], hp := [] }).run =
        bif fcB (f i).num (t.getD k 0) then some (.normal, { tm := encGo (mbits 57 131) [.sl 3 n (rowT f), .int .i64 i, .str t, .int .i64 (k + 1 : Nat)], ms := [], hp := [] })
        else some (.ret, { tm := tmOf 131 [(2, .bool false)], ms := [], hp := [] }) := by
      refine ht.trans ?_
      unfold fcB quB low_
      rw [show decide (((t.getD k 0).toNat : Int) ≥ 97) = decide ((97 : Int) ≤ (t.getD k 0).toNat) from rfl]
      cases (f i).num with
      | true => cases dig ((t.getD k 0).toNat : Int) <;> rfl
      | false =>
        cases decide ((97 : Int) ≤ (t.getD k 0).toNat) <;> cases decide (((t.getD k 0).toNat : Int) ≤ 122) <;> cases (((t.getD k 0).toNat : Int) == 95) <;> cases (((t.getD k 0).toNat : Int) == 43) <;> rfl
    cases hq : fcB (f i).num (t.getD k 0) with
    | true =>
      rw [hq] at hd key
      left
      refine ⟨⟨n, f, i, t, k + 1⟩, ⟨h1, h2, by omega, h4⟩, by simp only; omega, ?_, key⟩
      simp only [rL20_1, T.run_br, hd, Bool.true_and]
    | false =>
      rw [hq] at hd key
      right
      refine ⟨_, ?_, ?_, key⟩
      · simp
      · simp only [rL20_1, T.run_br, hd, Bool.false_and] <;> rfl
  · have he : k = t.length := by omega
    right
    subst he
    rw [decide_eq_false (show ¬ (t.length : Int) < t.length by omega)] at ht
    refine ⟨_, ?_, ?_, ht⟩
    · simp
    · simp only [rL20_1, T.run_br, alN_end (show t.length ≤ t.length by omega)] <;> rfl

def rfOk (f : Nat → Tok) (n i : Nat) : Bool := alN (fcB (f i).num) (f i).text 0 &&
  bif (f i).num then !((f i).text == []) && (trimD (f i).text == (f i).text && !goesF f n i)
  else !((f i).text == [99, 114]) && (!((f i).text == [102, 105, 110, 97, 108]) && (!((f i).text == [103, 97]) && (!((f i).text == [114, 101, 108, 101, 97, 115, 101]) && !goesF f n i)))

structure Y20 where
  n : Nat
  f : Nat → Tok
  i : Nat

def eL20 : Y20 → List AV × Hp := fun ⟨n, f, i⟩ => ([.sl 3 n (rowT f), .int .i64 i], [])

def dL20 : List AV × Hp → Y20
  | ([.sl _ n f_g, .int .i64 i], []) => ⟨n, unT f_g, i.toNat⟩
  | _ => ⟨default, default, default⟩

def pL20 : Y20 → Prop := fun ⟨n, f, i⟩ => i ≤ n ∧ n ≤ bnd ∧ ∀ j, j < n → (f j).text.length ≤ bnd

def rL20 : Y20 → T (AX × St) := fun ⟨n, f, i⟩ => .br (decide (fbad (rfOk f n) (n - i) i < n)) (.leaf (.ret, { tm := tmOf 131 [(2, .bool false)], ms := [], hp := [] })) (.leaf (.exit 0, { tm := tmOf 131 [(0, .sl 3 n (rowT f)), (3, .int .i64 n), (35, .bool false)], ms := [], hp := [] }))

noncomputable def L20 : LoopT := fun k => match Nat.beq k 600147 with
  | true => some (lccon (mbits 9 131) eL20 dL20 pL20 rL20)
  | false => LI20 k

theorem iL20 : ∀ x, dL20 (eL20 x) = x := by
  rintro ⟨n, f, i⟩
  simp only [eL20, dL20, Int.toNat_natCast, unT_rowT]

theorem kL20 (n : Nat) (f : Nat → Tok) (i : Nat) (h : i ≤ n ∧ n ≤ bnd ∧ ∀ j, j < n → (f j).text.length ≤ bnd) : isEn eL20 pL20 ([.sl 3 n (rowT f), .int .i64 i], []) = true := isEn_true (enc := eL20) (p := pL20) ⟨n, f, i⟩ h

theorem zL20 (n : Nat) (f : Nat → Tok) (h : pL20 ⟨n, f, 0⟩) : isEn eL20 pL20 ([.sl 3 n (rowT f), .int .i64 (0 : Int)], []) = true := isEn_true (enc := eL20) (p := pL20) ⟨n, f, 0⟩ h

theorem q20 (n : Nat) (f : Nat → Tok) (i : Nat) : (rdn tabY4 h20 L20 20 0 0 { tm := encGo (mbits 9 131) [.sl 3 n (rowT f), .int .i64 i], ms := [], hp := [] }).run =
  bif decide ((↑i : Int) < (↑n : Int)) then
   bif decide ((0 : Int) ≤ (↑i : Int) ∧ (↑i : Int) < (↑n : Int)) then
    bif isEn eL20_1 pL20_1 ([AV.sl 3 n (rowT f), AV.int IntKind.i64 (↑i : Int), AV.str (f (↑i : Int).toNat).text, AV.int IntKind.i64 (0 : Int)], []) then
     bif alN (fcB (unT (rowT f) (↑i : Int).toNat).num) (f (↑i : Int).toNat).text 0 then
      bif decide ((0 : Int) ≤ (↑(↑i : Int).toNat : Int) ∧ (↑(↑i : Int).toNat : Int) < (↑n : Int)) then
       bif (unT (rowT f) (↑(↑i : Int).toNat : Int).toNat).num then
        bif (f (↑i : Int).toNat).text == [] then
         some ((AX.ret, { tm := tmOf 131 [(2, AV.bool false)], ms := [], hp := [] }))
        else
         bif !trimD (f (↑i : Int).toNat).text == (f (↑i : Int).toNat).text then
          some ((AX.ret, { tm := tmOf 131 [(2, AV.bool false)], ms := [], hp := [] }))
         else
          bif decide ((0 : Int) ≤ (↑(↑i : Int).toNat : Int) ∧ (↑(↑i : Int).toNat : Int) < (↑n : Int)) then
           bif !(unT (rowT f) (↑(↑i : Int).toNat : Int).toNat).num then
            bif (f (↑i : Int).toNat).text == [(99 : UInt8), (114 : UInt8)] then
             some ((AX.ret, { tm := tmOf 131 [(2, AV.bool false)], ms := [], hp := [] }))
            else
             bif (f (↑i : Int).toNat).text == [(102 : UInt8), (105 : UInt8), (110 : UInt8), (97 : UInt8), (108 : UInt8)] then
              some ((AX.ret, { tm := tmOf 131 [(2, AV.bool false)], ms := [], hp := [] }))
             else
              bif (f (↑i : Int).toNat).text == [(103 : UInt8), (97 : UInt8)] then
               some ((AX.ret, { tm := tmOf 131 [(2, AV.bool false)], ms := [], hp := [] }))
              else
               bif (f (↑i : Int).toNat).text == [(114 : UInt8), (101 : UInt8), (108 : UInt8), (101 : UInt8), (97 : UInt8), (115 : UInt8), (101 : UInt8)] then
                some ((AX.ret, { tm := tmOf 131 [(2, AV.bool false)], ms := [], hp := [] }))
               else
                bif isEn en44s p44s [AV.sl 3 n (rowT (unT (rowT f))), AV.int IntKind.i64 (↑(↑i : Int).toNat : Int)] then
                 bif goesF (unT (rowT (unT (rowT f)))) n (↑(↑i : Int).toNat : Int).toNat then
                  some ((AX.ret, { tm := tmOf 131 [(2, AV.bool false)], ms := [], hp := [] }))
                 else
                  some ((AX.normal, { tm := tmOf 131 [(0, AV.sl 3 n (rowT (unT (rowT f)))), (3, AV.int IntKind.i64 (IntKind.i64.wrap ((↑(↑i : Int).toNat : Int) + (1 : Int))))], ms := [], hp := [] }))
                else
                 none
           else
            bif isEn en44s p44s [AV.sl 3 n (rowT (unT (rowT f))), AV.int IntKind.i64 (↑(↑i : Int).toNat : Int)] then
             bif goesF (unT (rowT (unT (rowT f)))) n (↑(↑i : Int).toNat : Int).toNat then
              some ((AX.ret, { tm := tmOf 131 [(2, AV.bool false)], ms := [], hp := [] }))
             else
              some ((AX.normal, { tm := tmOf 131 [(0, AV.sl 3 n (rowT (unT (rowT f)))), (3, AV.int IntKind.i64 (IntKind.i64.wrap ((↑(↑i : Int).toNat : Int) + (1 : Int))))], ms := [], hp := [] }))
            else
             none
          else
           none
       else
        bif decide ((0 : Int) ≤ (↑(↑i : Int).toNat : Int) ∧ (↑(↑i : Int).toNat : Int) < (↑n : Int)) then
         bif !(unT (rowT f) (↑(↑i : Int).toNat : Int).toNat).num then
          bif (f (↑i : Int).toNat).text == [(99 : UInt8), (114 : UInt8)] then
           some ((AX.ret, { tm := tmOf 131 [(2, AV.bool false)], ms := [], hp := [] }))
          else
           bif (f (↑i : Int).toNat).text == [(102 : UInt8), (105 : UInt8), (110 : UInt8), (97 : UInt8), (108 : UInt8)] then
            some ((AX.ret, { tm := tmOf 131 [(2, AV.bool false)], ms := [], hp := [] }))
           else
            bif (f (↑i : Int).toNat).text == [(103 : UInt8), (97 : UInt8)] then
             some ((AX.ret, { tm := tmOf 131 [(2, AV.bool false)], ms := [], hp := [] }))
            else
             bif (f (↑i : Int).toNat).text == [(114 : UInt8), (101 : UInt8), (108 : UInt8), (101 : UInt8), (97 : UInt8), (115 : UInt8), (101 : UInt8)] then
              some ((AX.ret, { tm := tmOf 131 [(2, AV.bool false)], ms := [], hp := [] }))
             else
              bif isEn en44s p44s [AV.sl 3 n (rowT (unT (rowT f))), AV.int IntKind.i64 (↑(↑i : Int).toNat : Int)] then
               bif goesF (unT (rowT (unT (rowT f)))) n (↑(↑i : Int).toNat : Int).toNat then
                some ((AX.ret, { tm := tmOf 131 [(2, AV.bool false)], ms := [], hp := [] }))
               else
                some ((AX.normal, { tm := tmOf 131 [(0, AV.sl 3 n (rowT (unT (rowT f)))), (3, AV.int IntKind.i64 (IntKind.i64.wrap ((↑(↑i : Int).toNat : Int) + (1 : Int))))], ms := [], hp := [] }))
              else
               none
         else
          bif isEn en44s p44s [AV.sl 3 n (rowT (unT (rowT f))), AV.int IntKind.i64 (↑(↑i : Int).toNat : Int)] then
           bif goesF (unT (rowT (unT (rowT f)))) n (↑(↑i : Int).toNat : Int).toNat then
            some ((AX.ret, { tm := tmOf 131 [(2, AV.bool false)], ms := [], hp := [] }))
           else
            some ((AX.normal, { tm := tmOf 131 [(0, AV.sl 3 n (rowT (unT (rowT f)))), (3, AV.int IntKind.i64 (IntKind.i64.wrap ((↑(↑i : Int).toNat : Int) + (1 : Int))))], ms := [], hp := [] }))
          else
           none
        else
         none
      else
       none
     else
      some ((AX.ret, { tm := tmOf 131 [(2, AV.bool false)], ms := [], hp := [] }))
    else
     none
   else
    none
  else
   some ((AX.exit 0, { tm := tmOf 131 [(0, AV.sl 3 n (rowT f)), (3, AV.int IntKind.i64 (↑i : Int)), (35, AV.bool false)], ms := [], hp := [] })) := by kernel_rfl

theorem l20 : LoopOk Tryd.prog tabY4.pf (fun n => hd Tryd.prog tabY4.pf tabY4.con.run (fun f => (H0 f).to) n 9) h20.to 20 0 none L20 (loopAt Tryd.prog 20 0) := by
  rw [show loopAt Tryd.prog 20 0 = .loop (lbody Tryd.prog 20 0) by kernel_rfl]
  refine loop_c (hdT_le (m := 20) 9) (m := 20) (lv := mbits 9 131) (p := pL20) (res := rL20) iL20 (within_of _ (by
      rw [show loopsOf (lbody Tryd.prog 20 0) = [loopAt Tryd.prog 20 1] by kernel_rfl]
      intro d hd
      simp only [List.mem_cons, List.not_mem_nil, or_false] at hd
      subst hd
      exact l20_1)) (by kernel_rfl) (fun ⟨n, f, i⟩ => n - i) ?_
  rintro ⟨n, f, i⟩ hp
  have ht := q20 n f i
  obtain ⟨h1, h2, h3⟩ := hp
  have hb := h2
  simp only [bnd] at hb
  by_cases hl : i < n
  · simp only [Int.toNat_natCast, unT_rowT] at ht
    rw [decide_eq_true (show (i : Int) < n by omega), in_row hl, zL20_1 n f i (f i).text ⟨hl, h2, Nat.zero_le _, h3 i hl⟩, k44s n i f ⟨hl, h2⟩, w64n (by omega)] at ht
    simp only [cond_true] at ht
    have key : (rdn tabY4 h20 L20 20 0 0 { tm := encGo (mbits 9 131) [.sl 3 n (rowT f), .int .i64 i], ms := [], hp := [] }).run =
        bif rfOk f n i then some (.normal, { tm := encGo (mbits 9 131) [.sl 3 n (rowT f), .int .i64 (i + 1 : Nat)], ms := [], hp := [] })
        else some (.ret, { tm := tmOf 131 [(2, .bool false)], ms := [], hp := [] }) := by
      refine ht.trans ?_
      unfold rfOk
      generalize goesF f n i = g
      generalize alN (fcB (f i).num) (f i).text 0 = al
      cases al with
      | false => rfl
      | true =>
        cases (f i).num with
        | true =>
          cases ((f i).text == []) with
          | true => rfl
          | false =>
            cases (trimD (f i).text == (f i).text) with
            | false => rfl
            | true => cases g <;> rfl
        | false =>
          cases ((f i).text == [99, 114]) with
          | true => rfl
          | false =>
            cases ((f i).text == [102, 105, 110, 97, 108]) with
            | true => rfl
            | false =>
              cases ((f i).text == [103, 97]) with
              | true => rfl
              | false =>
                cases ((f i).text == [114, 101, 108, 101, 97, 115, 101]) with
                | true => rfl
                | false => cases g <;> rfl
    have hd := fbad_step (q := rfOk f n) hl
    cases hq : rfOk f n i with
    | true =>
      rw [hq, cond_true] at hd key
      left
      refine ⟨⟨n, f, i + 1⟩, ⟨by omega, h2, h3⟩, by simp only; omega, ?_, key⟩
      simp only [rL20, T.run_br, hd]
    | false =>
      rw [hq, cond_false] at hd key
      right
      refine ⟨_, ?_, ?_, key⟩
      · simp
      · simp only [rL20, T.run_br, hd, decide_eq_true hl] <;> rfl
  · have he : i = n := by omega
    right
    subst he
    rw [decide_eq_false (show ¬ (i : Int) < i by omega)] at ht
    refine ⟨_, ?_, ?_, ht⟩
    · simp
    · simp only [rL20, T.run_br, Nat.sub_self, fbad, decide_eq_false (Nat.lt_irrefl i)] <;> rfl

/-- The reference's answer is the program's. -/
theorem runD_all2 {x : List UInt8} (h : runD x 0 = x.length) : ∀ b, b ∈ x → digC b = true := by
  unfold runD runL at h
  have h2 : (x.takeWhile digB).length = x.length := by
    rw [if_neg (by omega)] at h
    simp only [Int.toNat_zero, List.drop_zero] at h
    omega
  have e : x.takeWhile digB = x := by
    have h4 := tw_take digB x
    rw [List.take_of_length_le (by omega)] at h4
    exact h4.symm
  intro b hb
  rw [← e] at hb
  exact (tw_mem hb).1

theorem runD_alN (s : List UInt8) : (runD s 0 == (s.length : Int)) = alN (fcB true) s 0 := by
  rw [Bool.eq_iff_iff, beq_iff_eq]
  unfold alN
  rw [List.drop_zero, List.all_eq_true]
  exact ⟨fun h b hb => runD_all2 h b hb, fun h => runD_dig h⟩

theorem rf_tok {f : Nat → Tok} {n i : Nat} (h : ¬ (n = 1 ∧ (f 0).num = true ∧ (f 0).text = [48])) (hi : i < n) : rfOk f n i = tokOk f n i := by
  unfold rfOk tokOk quaB
  cases hn : (f i).num with
  | true =>
    simp only [cond_true]
    rw [runD_alN]
    by_cases h1 : n = 1
    · subst h1
      obtain rfl : i = 0 := by omega
      have hz : ((f 0).text == [48]) = false := by
        cases hq : ((f 0).text == [48]) with
        | false => rfl
        | true => exact absurd ⟨rfl, hn, by simpa using hq⟩ h
      have hg : goesF f 1 0 = false := by
        unfold goesF nullT
        rw [hn, hz]; rfl
      rw [hg]
      cases alN (fcB true) (f 0).text 0 <;> cases ((f 0).text == []) <;> cases (trimD (f 0).text == (f 0).text) <;> rfl
    · have : (n == 1) = false := by simpa using h1
      rw [this, Bool.or_false]
      cases alN (fcB true) (f i).text 0 <;> cases ((f i).text == []) <;> cases (trimD (f i).text == (f i).text) <;> cases goesF f n i <;> rfl
  | false =>
    simp only [cond_false]
    rw [show fcB false = quB from rfl]
    simp only [Bool.and_assoc]

theorem fbad_congr {p q : Nat → Bool} : ∀ (k i n : Nat), i + k ≤ n → (∀ j, j < n → p j = q j) → fbad p k i = fbad q k i
  | 0, i, n, h1, h2 => rfl
  | k + 1, i, n, h1, h2 => by
    unfold fbad
    rw [h2 i (by omega), fbad_congr k (i + 1) n (by omega) h2]

theorem t20 (n : Nat) (f : Nat → Tok) : (evn tabY4 h20 L20 20 [.sl 3 n (rowT f)] []).run =
  bif (↑n : Int) == (0 : Int) then
   some ((AV.bool false, []))
  else
   bif decide ((0 : Int) ≤ (0 : Int) ∧ (0 : Int) < (↑n : Int)) then
    bif (f 0).dash then
     some ((AV.bool false, []))
    else
     bif (↑n : Int) == (1 : Int) then
      bif decide ((0 : Int) ≤ (0 : Int) ∧ (0 : Int) < (↑n : Int)) then
       bif (f 0).num then
        bif decide ((0 : Int) ≤ (0 : Int) ∧ (0 : Int) < (↑n : Int)) then
         bif (f 0).text == [(48 : UInt8)] then
          some ((AV.bool true, []))
         else
          bif isEn eL20 pL20 ([AV.sl 3 n (rowT f), AV.int IntKind.i64 (0 : Int)], []) then
           bif decide (fbad (rfOk (unT (rowT f)) n) (n - 0) 0 < n) then
            some ((AV.bool false, []))
           else
            some ((AV.bool true, []))
          else
           none
        else
         none
       else
        bif isEn eL20 pL20 ([AV.sl 3 n (rowT f), AV.int IntKind.i64 (0 : Int)], []) then
         bif decide (fbad (rfOk (unT (rowT f)) n) (n - 0) 0 < n) then
          some ((AV.bool false, []))
         else
          some ((AV.bool true, []))
        else
         none
      else
       none
     else
      bif isEn eL20 pL20 ([AV.sl 3 n (rowT f), AV.int IntKind.i64 (0 : Int)], []) then
       bif decide (fbad (rfOk (unT (rowT f)) n) (n - 0) 0 < n) then
        some ((AV.bool false, []))
       else
        some ((AV.bool true, []))
      else
       none
   else
    none := by kernel_rfl

structure X20 where
  n : Nat
  f : Nat → Tok

def en20 : X20 → List AV := fun ⟨n, f⟩ => [.sl 3 n (rowT f)]

def de20 : List AV → X20
  | [.sl _ n f_g] => ⟨n, unT f_g⟩
  | _ => ⟨default, default⟩

def p20 : X20 → Prop := fun ⟨n, f⟩ => n ≤ bnd

def rs20 : X20 → T AV := fun ⟨n, f⟩ => .leaf (.bool (fitT f n))

noncomputable def c20 : List AV → T AV := ccon en20 de20 p20 rs20

theorem in20 : ∀ x, de20 (en20 x) = x := by
  rintro ⟨n, f⟩
  simp only [en20, de20, Int.toNat_natCast, unT_rowT]

theorem k20 (n : Nat) (f : Nat → Tok) (h : n ≤ bnd) : isEn en20 p20 [.sl 3 n (rowT f)] = true := isEn_true (enc := en20) (p := p20) ⟨n, f⟩ h

theorem e20 (n : Nat) (f : Nat → Tok) (hF : FitsL [.sl 3 n (rowT f)]) (hp : n ≤ bnd) : (evn tabY4 h20 L20 20 [.sl 3 n (rowT f)] []).run = (.leaf (.bool (fitT f n)) : T AV).run.map fun r => (r, []) := by
  refine (t20 n f).trans ?_
  have e0 : ((n : Int) == 0) = (n == 0) := nat_beqI n 0
  have e1 : ((n : Int) == 1) = (n == 1) := nat_beqI n 1
  have hT : ∀ j, j < n → (f j).text.length ≤ bnd := fun j hj => hF.1.2 j 2 hj (by omega)
  rw [e0, e1, zL20 n f ⟨Nat.zero_le _, hp, hT⟩, unT_rowT, Nat.sub_zero]
  unfold fitT
  cases hz : (n == 0) with
  | true => rfl
  | false =>
    have hpos : n ≠ 0 := by simpa using hz
    rw [decide_eq_true (show (0 : Int) ≤ 0 ∧ (0 : Int) < (n : Int) by omega)]
    simp only [cond_true, cond_false]
    cases (f 0).dash with
    | true => rfl
    | false =>
      simp only [cond_false]
      by_cases h : n = 1 ∧ (f 0).num = true ∧ (f 0).text = [48]
      · obtain ⟨rfl, h2, h3⟩ := h
        rw [h2, h3]
        have ht : tokOk f 1 0 = true := by
          unfold tokOk
          rw [h2, h3]
          cases goesF f 1 0 <;> rfl
        have : fbad (tokOk f 1) 1 0 = 1 := by unfold fbad; rw [ht]; rfl
        rw [this]; rfl
      · rw [fbad_congr n 0 n (by omega) fun j hj => rf_tok h hj]
        have key : (bif decide (fbad (tokOk f n) n 0 < n) then some (AV.bool false, ([] : Hp)) else some (AV.bool true, [])) = some (.bool (decide (¬ fbad (tokOk f n) n 0 < n)), []) := by
          by_cases hb : fbad (tokOk f n) n 0 < n
          · rw [decide_eq_true hb, decide_eq_false (fun q => q hb)]; rfl
          · rw [decide_eq_false hb, decide_eq_true hb]; rfl
        rw [key]
        cases h1 : (n == 1) with
        | false => rfl
        | true =>
          cases h2 : (f 0).num with
          | false => rfl
          | true =>
            cases h3 : ((f 0).text == [48]) with
            | false => rfl
            | true => exact absurd ⟨by simpa using h1, h2, by simpa using h3⟩ h

theorem s20 : Sound1 Tryd.prog ⟨20, true, pcon c20⟩ := by
  refine sound_c (soundTab_of all_tabY4) H0 in20 (hn := h20) (m := 20) (k := 9) (Λ := L20) (twoLoops (by kernel_rfl) l20 l20_1) ?_
  rintro ⟨n, f⟩ hp hF
  exact e20 n f hF hp

noncomputable def tabY5 : Tab := ⟨20, true, pcon c20⟩ :: tabY4

theorem all_tabY5 : ∀ e, e ∈ tabY5 → Sound1 Tryd.prog e := (sound_mem_tab s20 all_tabY4)

theorem ok_tabY5 : SoundTab Tryd.prog tabY5 := soundTab_of all_tabY5
end Go.Mvn
namespace Go.Mvn

open Go Go.Proofs Go.Ab

set_option maxRecDepth 100000

set_option linter.unusedVariables false

set_option linter.unusedSimpArgs false

/-! ### The reference's Order and Compare -/

structure Y22 where
  n : Nat
  m : Nat
  f : Nat → Tok
  g : Nat → Tok
  i : Nat

def eL22 : Y22 → List AV × Hp := fun ⟨n, m, f, g, i⟩ => ([.sl 3 n (rowT f), .sl 3 m (rowT g), .int .i64 i], [])

def dL22 : List AV × Hp → Y22
  | ([.sl _ n f_g, .sl _ m g_g, .int .i64 i], []) => ⟨n, m, unT f_g, unT g_g, i.toNat⟩
  | _ => ⟨default, default, default, default, default⟩

def pL22 : Y22 → Prop := fun ⟨n, m, f, g, i⟩ => i ≤ max n m ∧ n ≤ bnd ∧ m ≤ bnd

def rL22 : Y22 → T (AX × St) := fun ⟨n, m, f, g, i⟩ => .br (decide (fbad (eqO f g n m) (max n m - i) i < max n m)) (.leaf (.ret, { tm := tmOf 55 [(4, .int .i64 (ordTT (padF f n (fbad (eqO f g n m) (max n m - i) i)) (padF g m (fbad (eqO f g n m) (max n m - i) i)) (fbad (eqO f g n m) (max n m - i) i == 0)))], ms := [], hp := [some (.cells [.bool (padF f n (fbad (eqO f g n m) (max n m - i) i)).dash, .bool (padF f n (fbad (eqO f g n m) (max n m - i) i)).num, .str (padF f n (fbad (eqO f g n m) (max n m - i) i)).text]), some (.cells [.bool (padF g m (fbad (eqO f g n m) (max n m - i) i)).dash, .bool (padF g m (fbad (eqO f g n m) (max n m - i) i)).num, .str (padF g m (fbad (eqO f g n m) (max n m - i) i)).text])] })) (.leaf (.exit 0, { tm := tmOf 55 [(0, .sl 3 n (rowT f)), (1, .sl 3 m (rowT g)), (5, .int .i64 (max n m : Nat)), (26, .bool false)], ms := [], hp := [] }))

noncomputable def L22 : LoopT := fun k => match Nat.beq k 400081 with
  | true => some (lccon (mbits 35 55) eL22 dL22 pL22 rL22)
  | false => none

theorem iL22 : ∀ x, dL22 (eL22 x) = x := by
  rintro ⟨n, m, f, g, i⟩
  simp only [eL22, dL22, Int.toNat_natCast, unT_rowT]

theorem kL22 (n : Nat) (m : Nat) (f : Nat → Tok) (g : Nat → Tok) (i : Nat) (h : i ≤ max n m ∧ n ≤ bnd ∧ m ≤ bnd) : isEn eL22 pL22 ([.sl 3 n (rowT f), .sl 3 m (rowT g), .int .i64 i], []) = true := isEn_true (enc := eL22) (p := pL22) ⟨n, m, f, g, i⟩ h

theorem zL22 (n : Nat) (m : Nat) (f : Nat → Tok) (g : Nat → Tok) (h : pL22 ⟨n, m, f, g, 0⟩) : isEn eL22 pL22 ([.sl 3 n (rowT f), .sl 3 m (rowT g), .int .i64 (0 : Int)], []) = true := isEn_true (enc := eL22) (p := pL22) ⟨n, m, f, g, 0⟩ h

theorem q22 (n : Nat) (m : Nat) (f : Nat → Tok) (g : Nat → Tok) (i : Nat) : (rdn tabY5 h22 L22 22 0 0 { tm := encGo (mbits 35 55) [.sl 3 n (rowT f), .sl 3 m (rowT g), .int .i64 i], ms := [], hp := [] }).run =
  bif decide ((↑i : Int) < (↑n : Int)) then
   bif decide ((↑i : Int) < (↑n : Int)) then
    bif decide ((0 : Int) ≤ (↑i : Int) ∧ (↑i : Int) < (↑n : Int)) then
     bif decide ((↑i : Int) < (↑m : Int)) then
      bif decide ((0 : Int) ≤ (↑i : Int) ∧ (↑i : Int) < (↑m : Int)) then
       bif ordT (f (↑i : Int).toNat).dash (f (↑i : Int).toNat).num (f (↑i : Int).toNat).text (g (↑i : Int).toNat).dash (g (↑i : Int).toNat).num (g (↑i : Int).toNat).text ((↑i : Int) == (0 : Int)) != (0 : Int) then
        some ((AX.ret, { tm := tmOf 55 [(4, AV.int IntKind.i64 (ordT (f (↑i : Int).toNat).dash (f (↑i : Int).toNat).num (f (↑i : Int).toNat).text (g (↑i : Int).toNat).dash (g (↑i : Int).toNat).num (g (↑i : Int).toNat).text ((↑i : Int) == (0 : Int))))], ms := [], hp := [some (AObj.cells [AV.bool (f (↑i : Int).toNat).dash, AV.bool (f (↑i : Int).toNat).num, AV.str (f (↑i : Int).toNat).text]), some (AObj.cells [AV.bool (g (↑i : Int).toNat).dash, AV.bool (g (↑i : Int).toNat).num, AV.str (g (↑i : Int).toNat).text])] }))
       else
        some ((AX.normal, { tm := tmOf 55 [(0, AV.sl 3 n (rowT f)), (1, AV.sl 3 m (rowT g)), (5, AV.int IntKind.i64 (IntKind.i64.wrap ((↑i : Int) + (1 : Int))))], ms := [], hp := [] }))
      else
       none
     else
      bif ordT (f (↑i : Int).toNat).dash (f (↑i : Int).toNat).num (f (↑i : Int).toNat).text false false [] ((↑i : Int) == (0 : Int)) != (0 : Int) then
       some ((AX.ret, { tm := tmOf 55 [(4, AV.int IntKind.i64 (ordT (f (↑i : Int).toNat).dash (f (↑i : Int).toNat).num (f (↑i : Int).toNat).text false false [] ((↑i : Int) == (0 : Int))))], ms := [], hp := [some (AObj.cells [AV.bool (f (↑i : Int).toNat).dash, AV.bool (f (↑i : Int).toNat).num, AV.str (f (↑i : Int).toNat).text]), some (AObj.cells [AV.bool false, AV.bool false, AV.str []])] }))
      else
       some ((AX.normal, { tm := tmOf 55 [(0, AV.sl 3 n (rowT f)), (1, AV.sl 3 m (rowT g)), (5, AV.int IntKind.i64 (IntKind.i64.wrap ((↑i : Int) + (1 : Int))))], ms := [], hp := [] }))
    else
     none
   else
    bif decide ((↑i : Int) < (↑m : Int)) then
     bif decide ((0 : Int) ≤ (↑i : Int) ∧ (↑i : Int) < (↑m : Int)) then
      bif ordT false false [] (g (↑i : Int).toNat).dash (g (↑i : Int).toNat).num (g (↑i : Int).toNat).text ((↑i : Int) == (0 : Int)) != (0 : Int) then
       some ((AX.ret, { tm := tmOf 55 [(4, AV.int IntKind.i64 (ordT false false [] (g (↑i : Int).toNat).dash (g (↑i : Int).toNat).num (g (↑i : Int).toNat).text ((↑i : Int) == (0 : Int))))], ms := [], hp := [some (AObj.cells [AV.bool false, AV.bool false, AV.str []]), some (AObj.cells [AV.bool (g (↑i : Int).toNat).dash, AV.bool (g (↑i : Int).toNat).num, AV.str (g (↑i : Int).toNat).text])] }))
      else
       some ((AX.normal, { tm := tmOf 55 [(0, AV.sl 3 n (rowT f)), (1, AV.sl 3 m (rowT g)), (5, AV.int IntKind.i64 (IntKind.i64.wrap ((↑i : Int) + (1 : Int))))], ms := [], hp := [] }))
     else
      none
    else
     some ((AX.normal, { tm := tmOf 55 [(0, AV.sl 3 n (rowT f)), (1, AV.sl 3 m (rowT g)), (5, AV.int IntKind.i64 (IntKind.i64.wrap ((↑i : Int) + (1 : Int))))], ms := [], hp := [] }))
  else
   bif decide ((↑i : Int) < (↑m : Int)) then
    bif decide ((↑i : Int) < (↑n : Int)) then
     bif decide ((0 : Int) ≤ (↑i : Int) ∧ (↑i : Int) < (↑n : Int)) then
      bif decide ((↑i : Int) < (↑m : Int)) then
       bif decide ((0 : Int) ≤ (↑i : Int) ∧ (↑i : Int) < (↑m : Int)) then
        bif ordT (f (↑i : Int).toNat).dash (f (↑i : Int).toNat).num (f (↑i : Int).toNat).text (g (↑i : Int).toNat).dash (g (↑i : Int).toNat).num (g (↑i : Int).toNat).text ((↑i : Int) == (0 : Int)) != (0 : Int) then
         some ((AX.ret, { tm := tmOf 55 [(4, AV.int IntKind.i64 (ordT (f (↑i : Int).toNat).dash (f (↑i : Int).toNat).num (f (↑i : Int).toNat).text (g (↑i : Int).toNat).dash (g (↑i : Int).toNat).num (g (↑i : Int).toNat).text ((↑i : Int) == (0 : Int))))], ms := [], hp := [some (AObj.cells [AV.bool (f (↑i : Int).toNat).dash, AV.bool (f (↑i : Int).toNat).num, AV.str (f (↑i : Int).toNat).text]), some (AObj.cells [AV.bool (g (↑i : Int).toNat).dash, AV.bool (g (↑i : Int).toNat).num, AV.str (g (↑i : Int).toNat).text])] }))
        else
         some ((AX.normal, { tm := tmOf 55 [(0, AV.sl 3 n (rowT f)), (1, AV.sl 3 m (rowT g)), (5, AV.int IntKind.i64 (IntKind.i64.wrap ((↑i : Int) + (1 : Int))))], ms := [], hp := [] }))
       else
        none
      else
       bif ordT (f (↑i : Int).toNat).dash (f (↑i : Int).toNat).num (f (↑i : Int).toNat).text false false [] ((↑i : Int) == (0 : Int)) != (0 : Int) then
        some ((AX.ret, { tm := tmOf 55 [(4, AV.int IntKind.i64 (ordT (f (↑i : Int).toNat).dash (f (↑i : Int).toNat).num (f (↑i : Int).toNat).text false false [] ((↑i : Int) == (0 : Int))))], ms := [], hp := [some (AObj.cells [AV.bool (f (↑i : Int).toNat).dash, AV.bool (f (↑i : Int).toNat).num, AV.str (f (↑i : Int).toNat).text]), some (AObj.cells [AV.bool false, AV.bool false, AV.str []])] }))
       else
        some ((AX.normal, { tm := tmOf 55 [(0, AV.sl 3 n (rowT f)), (1, AV.sl 3 m (rowT g)), (5, AV.int IntKind.i64 (IntKind.i64.wrap ((↑i : Int) + (1 : Int))))], ms := [], hp := [] }))
     else
      none
    else
     bif decide ((↑i : Int) < (↑m : Int)) then
      bif decide ((0 : Int) ≤ (↑i : Int) ∧ (↑i : Int) < (↑m : Int)) then
       bif ordT false false [] (g (↑i : Int).toNat).dash (g (↑i : Int).toNat).num (g (↑i : Int).toNat).text ((↑i : Int) == (0 : Int)) != (0 : Int) then
        some ((AX.ret, { tm := tmOf 55 [(4, AV.int IntKind.i64 (ordT false false [] (g (↑i : Int).toNat).dash (g (↑i : Int).toNat).num (g (↑i : Int).toNat).text ((↑i : Int) == (0 : Int))))], ms := [], hp := [some (AObj.cells [AV.bool false, AV.bool false, AV.str []]), some (AObj.cells [AV.bool (g (↑i : Int).toNat).dash, AV.bool (g (↑i : Int).toNat).num, AV.str (g (↑i : Int).toNat).text])] }))
       else
        some ((AX.normal, { tm := tmOf 55 [(0, AV.sl 3 n (rowT f)), (1, AV.sl 3 m (rowT g)), (5, AV.int IntKind.i64 (IntKind.i64.wrap ((↑i : Int) + (1 : Int))))], ms := [], hp := [] }))
      else
       none
     else
      some ((AX.normal, { tm := tmOf 55 [(0, AV.sl 3 n (rowT f)), (1, AV.sl 3 m (rowT g)), (5, AV.int IntKind.i64 (IntKind.i64.wrap ((↑i : Int) + (1 : Int))))], ms := [], hp := [] }))
   else
    some ((AX.exit 0, { tm := tmOf 55 [(0, AV.sl 3 n (rowT f)), (1, AV.sl 3 m (rowT g)), (5, AV.int IntKind.i64 (↑i : Int)), (26, AV.bool false)], ms := [], hp := [] })) := by kernel_rfl

theorem l22 : LoopOk Tryd.prog tabY5.pf (fun n => hd Tryd.prog tabY5.pf tabY5.con.run (fun f => (H0 f).to) n 9) h22.to 22 0 none L22 (loopAt Tryd.prog 22 0) := by
  rw [show loopAt Tryd.prog 22 0 = .loop (lbody Tryd.prog 22 0) by kernel_rfl]
  refine loop_c (hdT_le (m := 20) 9) (m := 20) (lv := mbits 35 55) (p := pL22) (res := rL22) iL22 (within_of _ (by rw [show loopsOf (lbody Tryd.prog 22 0) = [] by kernel_rfl]; simp)) (by kernel_rfl) (fun ⟨n, m, f, g, i⟩ => max n m - i) ?_
  rintro ⟨n, m, f, g, i⟩ hp
  have ht := q22 n m f g i
  obtain ⟨h1, h2, h3⟩ := hp
  have hb2 := h2
  have hb3 := h3
  simp only [bnd] at hb2 hb3
  by_cases hl : i < max n m
  · have e1 : ((i : Int) == 0) = (i == 0) := nat_beqI i 0
    rw [w64n (by omega), Int.toNat_natCast, e1] at ht
    have key : (rdn tabY5 h22 L22 22 0 0 { tm := encGo (mbits 35 55) [.sl 3 n (rowT f), .sl 3 m (rowT g), .int .i64 i], ms := [], hp := [] }).run =
        bif eqO f g n m i then some (.normal, { tm := encGo (mbits 35 55) [.sl 3 n (rowT f), .sl 3 m (rowT g), .int .i64 (i + 1 : Nat)], ms := [], hp := [] })
        else some (.ret, { tm := tmOf 55 [(4, .int .i64 (ordTT (padF f n i) (padF g m i) (i == 0)))], ms := [], hp := [some (.cells [.bool (padF f n i).dash, .bool (padF f n i).num, .str (padF f n i).text]), some (.cells [.bool (padF g m i).dash, .bool (padF g m i).num, .str (padF g m i).text])] }) := by
      refine ht.trans ?_
      unfold eqO padF
      by_cases hn : i < n
      · rw [decide_eq_true (show (i : Int) < n by omega), in_row hn, if_pos hn]
        simp only [cond_true]
        by_cases hm : i < m
        · rw [decide_eq_true (show (i : Int) < m by omega), in_row hm, if_pos hm]
          simp only [cond_true]
          rw [show (ordT (f i).dash (f i).num (f i).text (g i).dash (g i).num (g i).text (i == 0) != 0) = !(ordTT (f i) (g i) (i == 0) == 0) from rfl]
          cases hq : (ordTT (f i) (g i) (i == 0) == 0) <;> rfl
        · rw [decide_eq_false (show ¬ (i : Int) < m by omega), if_neg hm]
          simp only [cond_false]
          rw [show (ordT (f i).dash (f i).num (f i).text false false [] (i == 0) != 0) = !(ordTT (f i) zeroT (i == 0) == 0) from rfl]
          cases hq : (ordTT (f i) zeroT (i == 0) == 0) <;> rfl
      · have hm : i < m := by omega
        rw [decide_eq_false (show ¬ (i : Int) < n by omega), if_neg hn, decide_eq_true (show (i : Int) < m by omega), in_row hm, if_pos hm]
        simp only [cond_false, cond_true]
        rw [show (ordT false false [] (g i).dash (g i).num (g i).text (i == 0) != 0) = !(ordTT zeroT (g i) (i == 0) == 0) from rfl]
        cases hq : (ordTT zeroT (g i) (i == 0) == 0) <;> rfl
    have hd := fbad_step (q := eqO f g n m) hl
    cases hq : eqO f g n m i with
    | true =>
      rw [hq, cond_true] at hd key
      left
      refine ⟨⟨n, m, f, g, i + 1⟩, ⟨by omega, h2, h3⟩, by simp only; omega, ?_, key⟩
      simp only [rL22, T.run_br, hd]
    | false =>
      rw [hq, cond_false] at hd key
      right
      refine ⟨_, ?_, ?_, key⟩
      · simp
      · simp only [rL22, T.run_br, hd, decide_eq_true hl] <;> rfl
  · have he : i = max n m := by omega
    right
    subst he
    rw [decide_eq_false (show ¬ ((max n m : Nat) : Int) < n by omega), decide_eq_false (show ¬ ((max n m : Nat) : Int) < m by omega)] at ht
    refine ⟨_, ?_, ?_, ht⟩
    · simp
    · simp only [rL22, T.run_br, Nat.sub_self, fbad, decide_eq_false (Nat.lt_irrefl (max n m))] <;> rfl

theorem t22 (n : Nat) (m : Nat) (f : Nat → Tok) (g : Nat → Tok) : (evn tabY5 h22 L22 22 [.sl 3 n (rowT f), .sl 3 m (rowT g)] []).run =
  bif isEn en20 p20 [AV.sl 3 n (rowT f)] then
   bif !fitT (unT (rowT f)) n then
    some ((AV.int IntKind.i64 (0 : Int), []))
   else
    bif isEn en20 p20 [AV.sl 3 m (rowT g)] then
     bif !fitT (unT (rowT g)) m then
      some ((AV.int IntKind.i64 (0 : Int), []))
     else
      bif isEn eL22 pL22 ([AV.sl 3 n (rowT f), AV.sl 3 m (rowT g), AV.int IntKind.i64 (0 : Int)], []) then
       bif decide (fbad (eqO (unT (rowT f)) (unT (rowT g)) n m) (max n m - 0) 0 < max n m) then
        some ((AV.int IntKind.i64 (ordTT (padF (unT (rowT f)) n (fbad (eqO (unT (rowT f)) (unT (rowT g)) n m) (max n m - 0) 0)) (padF (unT (rowT g)) m (fbad (eqO (unT (rowT f)) (unT (rowT g)) n m) (max n m - 0) 0)) (fbad (eqO (unT (rowT f)) (unT (rowT g)) n m) (max n m - 0) 0 == 0)), []))
       else
        some ((AV.int IntKind.i64 (0 : Int), []))
      else
       none
    else
     none
  else
   none := by kernel_rfl

structure X22 where
  n : Nat
  m : Nat
  f : Nat → Tok
  g : Nat → Tok

def en22 : X22 → List AV := fun ⟨n, m, f, g⟩ => [.sl 3 n (rowT f), .sl 3 m (rowT g)]

def de22 : List AV → X22
  | [.sl _ n f_g, .sl _ m g_g] => ⟨n, m, unT f_g, unT g_g⟩
  | _ => ⟨default, default, default, default⟩

def p22 : X22 → Prop := fun ⟨n, m, f, g⟩ => n ≤ bnd ∧ m ≤ bnd

def rs22 : X22 → T AV := fun ⟨n, m, f, g⟩ => .leaf (.int .i64 (ordL f n g m))

noncomputable def c22 : List AV → T AV := ccon en22 de22 p22 rs22

theorem in22 : ∀ x, de22 (en22 x) = x := by
  rintro ⟨n, m, f, g⟩
  simp only [en22, de22, Int.toNat_natCast, unT_rowT]

theorem k22 (n : Nat) (m : Nat) (f : Nat → Tok) (g : Nat → Tok) (h : n ≤ bnd ∧ m ≤ bnd) : isEn en22 p22 [.sl 3 n (rowT f), .sl 3 m (rowT g)] = true := isEn_true (enc := en22) (p := p22) ⟨n, m, f, g⟩ h

theorem e22 (n : Nat) (m : Nat) (f : Nat → Tok) (g : Nat → Tok) (hF : FitsL [.sl 3 n (rowT f), .sl 3 m (rowT g)]) (hp : n ≤ bnd ∧ m ≤ bnd) : (evn tabY5 h22 L22 22 [.sl 3 n (rowT f), .sl 3 m (rowT g)] []).run = (.leaf (.int .i64 (ordL f n g m)) : T AV).run.map fun r => (r, []) := by
  refine (t22 n m f g).trans ?_
  obtain ⟨h1, h2⟩ := hp
  rw [k20 n f h1, k20 m g h2, cond_true, unT_rowT, unT_rowT]
  unfold ordL
  cases fitT f n with
  | false => rfl
  | true =>
    cases fitT g m with
    | false => rfl
    | true =>
      simp only [cond_true, Bool.not_true, cond_false]
      rw [cond_chk (zL22 n m f g ⟨Nat.zero_le _, h1, h2⟩)]
      simp only [Int.toNat_natCast, Nat.sub_zero]
      cases decide (fbad (eqO f g n m) (max n m) 0 < max n m) <;> rfl

theorem s22 : Sound1 Tryd.prog ⟨22, true, pcon c22⟩ := by
  refine sound_c (soundTab_of all_tabY5) H0 in22 (hn := h22) (m := 20) (k := 9) (Λ := L22) (oneLoop (by kernel_rfl) l22) ?_
  rintro ⟨n, m, f, g⟩ hp hF
  exact e22 n m f g hF hp

noncomputable def tabY6 : Tab := ⟨22, true, pcon c22⟩ :: tabY5

theorem all_tabY6 : ∀ e, e ∈ tabY6 → Sound1 Tryd.prog e := (sound_mem_tab s22 all_tabY5)

theorem ok_tabY6 : SoundTab Tryd.prog tabY6 := soundTab_of all_tabY6
end Go.Mvn
namespace Go.Mvn

open Go Go.Proofs Go.Ab

set_option maxRecDepth 100000

set_option linter.unusedVariables false

set_option linter.unusedSimpArgs false

theorem fit_toks2 {s : List UInt8} (h : okT s = true) : fitT (fnT (toks s)) (toks s).length = true := by
  have h1 := fit_ok h
  rw [toks_len]
  have hf : ∀ i, i < tokL s → fnT (toks s) i = tokF s i := fun i hi => fnT_toks hi
  have h0 := tokL_pos s
  unfold fitT at h1 ⊢
  rw [hf 0 h0]
  have hgo : ∀ i, i < tokL s → goesF (fnT (toks s)) (tokL s) i = goesF (tokF s) (tokL s) i := fun i hi => by
    unfold goesF
    rw [hf i hi]
    by_cases hn : i + 1 < tokL s
    · rw [hf (i + 1) hn]
    · rw [show (i + 1 == tokL s) = true by simpa using (by omega : i + 1 = tokL s)]
      rfl
  have hq : ∀ i, i < tokL s → tokOk (fnT (toks s)) (tokL s) i = tokOk (tokF s) (tokL s) i := fun i hi => by
    unfold tokOk
    rw [hf i hi, hgo i hi]
  have hb : ∀ k i, i + k ≤ tokL s → fbad (tokOk (fnT (toks s)) (tokL s)) k i = fbad (tokOk (tokF s) (tokL s)) k i := by
    intro k
    induction k with
    | zero => intro i _; rfl
    | succ k ih =>
      intro i hi
      unfold fbad
      rw [hq i (by omega), ih (i + 1) (by omega)]
  rw [hb _ 0 (by omega)]
  exact h1

theorem ordL_toks {a b : List UInt8} (ha : okT a = true) (hb : okT b = true) : ordL (fnT (toks a)) (toks a).length (fnT (toks b)) (toks b).length = ordL (tokF a) (tokL a) (tokF b) (tokL b) := by
  have hp : ∀ s, padF (fnT (toks s)) (toks s).length = padF (tokF s) (tokL s) := fun s => by
    funext i
    unfold padF
    rw [toks_len]
    by_cases hi : i < tokL s
    · rw [if_pos hi, if_pos hi, fnT_toks hi]
    · rw [if_neg hi, if_neg hi]
  rw [ordL_cmpN (fit_ok ha) (fit_ok hb) (Nat.le_max_left (tokL a) (tokL b)) (Nat.le_max_right _ _),
    ordL_cmpN (fit_toks2 ha) (fit_toks2 hb) (N := max (tokL a) (tokL b)) (by rw [toks_len]; omega) (by rw [toks_len]; omega), hp, hp]

theorem t23 (a : List UInt8) (b : List UInt8) : (evn tabY6 h23 noLoops 23 [.str a, .str b] []).run =
  bif errE a != (0 : Int) then
   bif errE a != (0 : Int) then
    bif errE b != (0 : Int) then
     some ((AV.int IntKind.i64 (IntKind.i64.wrap ((bif !(abytesLess a b || a == b) then (1 : Int) else (0 : Int)) - bif abytesLess a b then (1 : Int) else (0 : Int))), []))
    else
     some ((AV.int IntKind.i64 (IntKind.i64.wrap ((bif errE a == (0 : Int) then (1 : Int) else (0 : Int)) - bif errE b == (0 : Int) then (1 : Int) else (0 : Int))), []))
   else
    some ((AV.int IntKind.i64 (IntKind.i64.wrap ((bif errE a == (0 : Int) then (1 : Int) else (0 : Int)) - bif errE b == (0 : Int) then (1 : Int) else (0 : Int))), []))
  else
   bif errE b != (0 : Int) then
    bif errE a != (0 : Int) then
     bif errE b != (0 : Int) then
      some ((AV.int IntKind.i64 (IntKind.i64.wrap ((bif !(abytesLess a b || a == b) then (1 : Int) else (0 : Int)) - bif abytesLess a b then (1 : Int) else (0 : Int))), []))
     else
      some ((AV.int IntKind.i64 (IntKind.i64.wrap ((bif errE a == (0 : Int) then (1 : Int) else (0 : Int)) - bif errE b == (0 : Int) then (1 : Int) else (0 : Int))), []))
    else
     some ((AV.int IntKind.i64 (IntKind.i64.wrap ((bif errE a == (0 : Int) then (1 : Int) else (0 : Int)) - bif errE b == (0 : Int) then (1 : Int) else (0 : Int))), []))
   else
    bif isEn en22 p22 [AV.sl 3 (toksE a).length (rowT (fnT (toksE a))), AV.sl 3 (toksE b).length (rowT (fnT (toksE b)))] then
     some ((AV.int IntKind.i64 (ordL (unT (rowT (fnT (toksE a)))) (toksE a).length (unT (rowT (fnT (toksE b)))) (toksE b).length), []))
    else
     none := by kernel_rfl

def c23 : List AV → T AV
  | [.str a, .str b] => .leaf (.int .i64 (cmpM a b))
  | _ => .fail

theorem e23 (a : List UInt8) (b : List UInt8) (hF : FitsL [.str a, .str b]) : (evn tabY6 h23 noLoops 23 [.str a, .str b] []).run = (.leaf (.int .i64 (cmpM a b)) : T AV).run.map fun r => (r, []) := by
  refine (t23 a b).trans ?_
  have h1 : (errE a == 0) = okT a := (okT_err a).symm
  have h2 : (errE b == 0) = okT b := (okT_err b).symm
  have hc := compareBytes_range a b
  rw [show (errE a != 0) = !(errE a == 0) from rfl, show (errE b != 0) = !(errE b == 0) from rfl, h1, h2, abytesLess_iff, bytes_eqz]
  unfold cmpM
  cases ha : okT a with
  | false =>
    cases hb : okT b with
    | false => rcases (by omega : Lib.compareBytes a b = -1 ∨ Lib.compareBytes a b = 0 ∨ Lib.compareBytes a b = 1) with e | e | e <;> rw [e] <;> rfl
    | true => rfl
  | true =>
    cases hb : okT b with
    | false => rfl
    | true =>
      have la := (toksE_len ha).2
      have lb := (toksE_len hb).2
      simp only [Bool.not_true, cond_false]
      rw [k22 _ _ _ _ ⟨by simp only [bnd]; omega, by simp only [bnd]; omega⟩, cond_true, unT_rowT, unT_rowT, show toksE a = toks a by unfold toksE; rw [ha]; rfl, show toksE b = toks b by unfold toksE; rw [hb]; rfl, ordL_toks ha hb]
      rfl

theorem s23 : Sound1 Tryd.prog ⟨23, true, pcon c23⟩ := by
  refine sound_pureH (m := 20) (k := 9) (hn := h23) (Λ := noLoops) (soundTab_of all_tabY6) H0 (fun i hi => anyLoops) fun args r hF h => ?_
  unfold c23 at h
  split at h
  · rename_i a b
    have he := e23 a b hF
    rw [he, h]; rfl
  · cases h

noncomputable def tabY7 : Tab := ⟨23, true, pcon c23⟩ :: tabY6

theorem all_tabY7 : ∀ e, e ∈ tabY7 → Sound1 Tryd.prog e := (sound_mem_tab s23 all_tabY6)

theorem ok_tabY7 : SoundTab Tryd.prog tabY7 := soundTab_of all_tabY7
end Go.Mvn

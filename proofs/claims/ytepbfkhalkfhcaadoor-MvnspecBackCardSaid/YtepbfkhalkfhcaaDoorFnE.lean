/- Lemmas for the claims of this seat (a verified symbolic evaluator, and contracts of functions): own work; no condition. -/
import Derived.Test.YtepbfkhalkfhcaaDoorFnD
import Derived.Test.YtepbfkhalkfhcaaDoorEvF
namespace Go.Mvs

open Go Go.Proofs Go.Ab

set_option maxRecDepth 100000

set_option linter.unusedVariables false

set_option linter.unusedSimpArgs false

theorem t13 (e : Int) (a : Int) : (evn tabA4 h13 noLoops 13 [.int .i64 e, .int .i64 a] []).run =
  some ((AV.agg [AV.int IntKind.i64 e, AV.int IntKind.i64 a], [])) := by kernel_rfl

def c13 : List AV → T AV
  | [.int .i64 e, .int .i64 a] => .leaf (.agg [.int .i64 e, .int .i64 a])
  | _ => .fail

theorem e13 (e : Int) (a : Int) (hF : FitsL [.int .i64 e, .int .i64 a]) : (evn tabA4 h13 noLoops 13 [.int .i64 e, .int .i64 a] []).run = (.leaf (.agg [.int .i64 e, .int .i64 a]) : T AV).run.map fun r => (r, []) := by
  refine (t13 e a).trans ?_
  rfl

theorem s13 : Sound1 Tryd.prog ⟨13, true, pcon c13⟩ := by
  refine sound_pureH (m := 20) (k := 9) (hn := h13) (Λ := noLoops) (soundTab_of all_tabA4) H0 (fun i hi => anyLoops) fun args r hF h => ?_
  unfold c13 at h
  split at h
  · rename_i e a
    have he := e13 e a hF
    rw [he, h]; rfl
  · cases h

noncomputable def tabA5 : Tab := ⟨13, true, pcon c13⟩ :: tabA4

theorem all_tabA5 : ∀ e, e ∈ tabA5 → Sound1 Tryd.prog e := (sound_mem_tab s13 all_tabA4)

theorem ok_tabA5 : SoundTab Tryd.prog tabA5 := soundTab_of all_tabA5
end Go.Mvs
namespace Go.Mvs
open Go Go.Proofs Go.Ab
set_option maxRecDepth 100000
set_option linter.unusedVariables false
set_option linter.unusedSimpArgs false

/-! ### one: a range -/
structure Mr where
  hl : Bool
  lo : List UInt8
  li : Bool
  hh : Bool
  hi : List UInt8
  ui : Bool
structure On where
  m : Mr
  e : Nat
  f : Nat
  fa : Nat
def avM (m : Mr) : AV := .agg [.bool m.hl, .str m.lo, .bool m.li, .bool m.hh, .str m.hi, .bool m.ui]
def avOn (o : On) : AV := .tup [avM o.m, .int .i64 (o.e : Int), .agg [.int .i64 (o.f : Int), .int .i64 (o.fa : Int)]]
noncomputable abbrev ch (s : List UInt8) (p : Nat) : Int := ((s.getD (p : Int).toNat 0).toNat : Int)
noncomputable abbrev lvO (o : On) : Option (AV × Hp) := some (avOn o, [])
noncomputable abbrev inD (s : List UInt8) (p : Nat) : Bool := decide (0 ≤ (p : Int) ∧ (p : Int) < (s.length : Int))
noncomputable abbrev at18 (s : List UInt8) (p : Int) : Bool := isEn en18 p18 [.str s, .int .i64 p]
noncomputable abbrev at14 (s : List UInt8) (p : Int) : Bool := isEn en14 p14 [.str s, .int .i64 p]
noncomputable abbrev at19 (s : List UInt8) (p : Int) : Bool := isEn en19 p19 [.str s, .int .i64 p]
/-- What stands behind a range's last sign. -/
def clO (a : Nat) (cm : Bool) (m : Mr) (p : Nat) : On :=
  bif !cm then
   bif !m.hl then ⟨m, p, 21, a⟩ else bif !m.li then ⟨m, p, 21, a⟩ else bif !m.ui then ⟨m, p, 21, a⟩ else
   bif m.hl then
    bif decide (cmpM m.lo m.lo > 0) then ⟨⟨m.hl, m.lo, m.li, true, m.lo, m.ui⟩, p, 21, a⟩
    else bif cmpM m.lo m.lo == 0 then bif m.li then bif !m.ui then ⟨⟨m.hl, m.lo, m.li, true, m.lo, m.ui⟩, p, 21, a⟩ else ⟨⟨m.hl, m.lo, m.li, true, m.lo, m.ui⟩, p + 1, 0, 0⟩ else ⟨⟨m.hl, m.lo, m.li, true, m.lo, m.ui⟩, p, 21, a⟩
    else ⟨⟨m.hl, m.lo, m.li, true, m.lo, m.ui⟩, p + 1, 0, 0⟩
   else ⟨⟨m.hl, m.lo, m.li, true, m.lo, m.ui⟩, p + 1, 0, 0⟩
  else bif m.hl then bif m.hh then
    bif decide (cmpM m.lo m.hi > 0) then ⟨m, p, 21, a⟩
    else bif cmpM m.lo m.hi == 0 then bif m.li then bif !m.ui then ⟨m, p, 21, a⟩ else ⟨m, p + 1, 0, 0⟩ else ⟨m, p, 21, a⟩
    else ⟨m, p + 1, 0, 0⟩
   else ⟨m, p + 1, 0, 0⟩
  else ⟨m, p + 1, 0, 0⟩
noncomputable def lvX (m : Mr) (p : Int) (f fa : Int) : Option (AV × Hp) := some (.tup [avM m, .int .i64 p, .agg [.int .i64 f, .int .i64 fa]], [])
noncomputable def clT (a : Nat) (cm : Bool) (m : Mr) (p : Nat) : Option (AV × Hp) :=
  bif !cm then
   bif !m.hl then lvX m p 21 a else bif !m.li then lvX m p 21 a else bif !m.ui then lvX m p 21 a else
   bif m.hl then
    bif decide (cmpM m.lo m.lo > 0) then lvX ⟨m.hl, m.lo, m.li, true, m.lo, m.ui⟩ p 21 a
    else bif cmpM m.lo m.lo == 0 then bif m.li then bif !m.ui then lvX ⟨m.hl, m.lo, m.li, true, m.lo, m.ui⟩ p 21 a else lvX ⟨m.hl, m.lo, m.li, true, m.lo, m.ui⟩ (IntKind.i64.wrap ((p : Int) + 1)) 0 0 else lvX ⟨m.hl, m.lo, m.li, true, m.lo, m.ui⟩ p 21 a
    else lvX ⟨m.hl, m.lo, m.li, true, m.lo, m.ui⟩ (IntKind.i64.wrap ((p : Int) + 1)) 0 0
   else lvX ⟨m.hl, m.lo, m.li, true, m.lo, m.ui⟩ (IntKind.i64.wrap ((p : Int) + 1)) 0 0
  else bif m.hl then bif m.hh then
    bif decide (cmpM m.lo m.hi > 0) then lvX m p 21 a
    else bif cmpM m.lo m.hi == 0 then bif m.li then bif !m.ui then lvX m p 21 a else lvX m (IntKind.i64.wrap ((p : Int) + 1)) 0 0 else lvX m p 21 a
    else lvX m (IntKind.i64.wrap ((p : Int) + 1)) 0 0
   else lvX m (IntKind.i64.wrap ((p : Int) + 1)) 0 0
  else lvX m (IntKind.i64.wrap ((p : Int) + 1)) 0 0
noncomputable def finT (s : List UInt8) (a : Nat) (cm hl : Bool) (lo : List UInt8) (li hh : Bool) (hi : List UInt8) (p : Nat) : Option (AV × Hp) :=
  bif decide ((p : Int) ≥ (s.length : Int)) then
   bif at18 s p then lvX ⟨hl, lo, li, hh, hi, false⟩ p (noE s (p : Int).toNat : Nat) (p : Int).toNat else none
  else bif inD s p then
   bif ch s p != 93 then
    bif inD s p then
     bif ch s p != 41 then
      bif at18 s p then lvX ⟨hl, lo, li, hh, hi, false⟩ p (noE s (p : Int).toNat : Nat) (p : Int).toNat else none
     else bif inD s p then clT a cm ⟨hl, lo, li, hh, hi, ch s p == 93⟩ p else none
    else none
   else bif inD s p then clT a cm ⟨hl, lo, li, hh, hi, ch s p == 93⟩ p else none
  else none
noncomputable def cmT (s : List UInt8) (a : Nat) (li : Bool) (p1 p2 : Nat) : Option (AV × Hp) :=
  bif at14 s (IntKind.i64.wrap ((p2 : Int) + 1)) then
   bif at19 s (fxN blB s (IntKind.i64.wrap ((p2 : Int) + 1)).toNat : Nat) then
    bif (vrF s ((fxN blB s (IntKind.i64.wrap ((p2 : Int) + 1)).toNat : Nat) : Int).toNat : Int) != 0 then
     lvX ⟨!vrS s p1 == [], vrS s p1, li, false, [], false⟩ (vrE s ((fxN blB s (IntKind.i64.wrap ((p2 : Int) + 1)).toNat : Nat) : Int).toNat) (vrF s ((fxN blB s (IntKind.i64.wrap ((p2 : Int) + 1)).toNat : Nat) : Int).toNat) (vrA s ((fxN blB s (IntKind.i64.wrap ((p2 : Int) + 1)).toNat : Nat) : Int).toNat)
    else bif at14 s (vrE s ((fxN blB s (IntKind.i64.wrap ((p2 : Int) + 1)).toNat : Nat) : Int).toNat : Nat) then
     finT s a (ch s p2 == 44) (!vrS s p1 == []) (vrS s p1) li (!vrS s ((fxN blB s (IntKind.i64.wrap ((p2 : Int) + 1)).toNat : Nat) : Int).toNat == []) (vrS s ((fxN blB s (IntKind.i64.wrap ((p2 : Int) + 1)).toNat : Nat) : Int).toNat)
      (fxN blB s ((vrE s ((fxN blB s (IntKind.i64.wrap ((p2 : Int) + 1)).toNat : Nat) : Int).toNat : Nat) : Int).toNat)
    else none
   else none
  else none
noncomputable def bgT (s : List UInt8) (a : Nat) (li : Bool) (p1 : Nat) : Option (AV × Hp) :=
  bif at19 s (p1 : Nat) then
   bif (vrF s (p1 : Int).toNat : Int) != 0 then lvX ⟨false, [], li, false, [], false⟩ (vrE s (p1 : Int).toNat) (vrF s (p1 : Int).toNat) (vrA s (p1 : Int).toNat)
   else bif at14 s (vrE s (p1 : Int).toNat : Nat) then
    bif decide (((fxN blB s ((vrE s (p1 : Int).toNat : Nat) : Int).toNat : Nat) : Int) < (s.length : Int)) then
     bif inD s (fxN blB s ((vrE s (p1 : Int).toNat : Nat) : Int).toNat) then
      bif ch s (fxN blB s ((vrE s (p1 : Int).toNat : Nat) : Int).toNat) == 44 then cmT s a li (p1 : Int).toNat (fxN blB s ((vrE s (p1 : Int).toNat : Nat) : Int).toNat)
      else finT s a (ch s (fxN blB s ((vrE s (p1 : Int).toNat : Nat) : Int).toNat) == 44) (!vrS s (p1 : Int).toNat == []) (vrS s (p1 : Int).toNat) li false [] (fxN blB s ((vrE s (p1 : Int).toNat : Nat) : Int).toNat)
     else none
    else finT s a false (!vrS s (p1 : Int).toNat == []) (vrS s (p1 : Int).toNat) li false [] (fxN blB s ((vrE s (p1 : Int).toNat : Nat) : Int).toNat)
   else none
  else none
noncomputable def xT (s : List UInt8) (a : Nat) : Option (AV × Hp) :=
  bif inD s a then
   bif at14 s (IntKind.i64.wrap ((a : Int) + 1)) then bgT s a (ch s a == 91) (fxN blB s (IntKind.i64.wrap ((a : Int) + 1)).toNat) else none
  else none
noncomputable def nT (s : List UInt8) (a : Nat) : Option (AV × Hp) :=
  bif at18 s a then lvX ⟨false, [], false, false, [], false⟩ a (noE s (a : Int).toNat : Nat) (a : Int).toNat else none
theorem u9 (s : List UInt8) (a : Nat) : (evn tabA5 h9 noLoops 9 [.str s, .int .i64 a] []).run =
  bif decide ((a : Int) ≥ (s.length : Int)) then nT s a
  else bif inD s a then
   bif ch s a != 91 then
    bif inD s a then
     bif ch s a != 40 then nT s a else xT s a
    else none
   else xT s a
  else none := by kernel_rfl
/-! ### one, plainly -/
def chI (s : List UInt8) (p : Nat) : Int := ((s.getD p 0).toNat : Int)
def finO (s : List UInt8) (a : Nat) (cm hl : Bool) (lo : List UInt8) (li hh : Bool) (hi : List UInt8) (p : Nat) : On :=
  bif decide (p < s.length) && (chI s p == 93 || chI s p == 41) then clO a cm ⟨hl, lo, li, hh, hi, chI s p == 93⟩ p else ⟨⟨hl, lo, li, hh, hi, false⟩, p, noE s p, p⟩
def cmO (s : List UInt8) (a : Nat) (li : Bool) (p1 p3 : Nat) : On :=
  bif vrF s p3 != 0 then ⟨⟨!vrS s p1 == [], vrS s p1, li, false, [], false⟩, vrE s p3, vrF s p3, vrA s p3⟩
  else finO s a true (!vrS s p1 == []) (vrS s p1) li (!vrS s p3 == []) (vrS s p3) (fxN blB s (vrE s p3))
def bgO (s : List UInt8) (a : Nat) (li : Bool) (p1 : Nat) : On :=
  bif vrF s p1 != 0 then ⟨⟨false, [], li, false, [], false⟩, vrE s p1, vrF s p1, vrA s p1⟩
  else bif decide (fxN blB s (vrE s p1) < s.length) && chI s (fxN blB s (vrE s p1)) == 44 then cmO s a li p1 (fxN blB s (fxN blB s (vrE s p1) + 1))
  else finO s a false (!vrS s p1 == []) (vrS s p1) li false [] (fxN blB s (vrE s p1))
def oneO (s : List UInt8) (a : Nat) : On :=
  bif decide (a < s.length) && (chI s a == 91 || chI s a == 40) then bgO s a (chI s a == 91) (fxN blB s (a + 1)) else ⟨⟨false, [], false, false, [], false⟩, a, noE s a, a⟩
theorem lvX_on (m : Mr) (p f fa : Nat) : lvX m p f fa = lvO ⟨m, p, f, fa⟩ := rfl
theorem clT_ok (a : Nat) (cm : Bool) (m : Mr) (p : Nat) (h : p ≤ 4611686018427387903) : clT a cm m p = lvO (clO a cm m p) := by
  obtain ⟨hl, lo, li, hh, hi, ui⟩ := m
  unfold clT clO
  rw [w64n (by omega)]
  simp only
  cases cm
  · cases hl
    · rfl
    · cases li
      · rfl
      · cases ui
        · rfl
        · cases decide (cmpM lo lo > 0)
          · cases (cmpM lo lo == 0) <;> rfl
          · rfl
  · cases hl
    · rfl
    · cases hh
      · rfl
      · cases decide (cmpM lo hi > 0)
        · cases (cmpM lo hi == 0)
          · rfl
          · cases li <;> cases ui <;> rfl
        · rfl
theorem at18_ok {s : List UInt8} {p : Nat} (h1 : p ≤ s.length) (h2 : s.length ≤ bnd) : at18 s p = true := k18 s p ⟨h1, h2⟩
theorem at14_ok {s : List UInt8} {p : Nat} (h1 : p ≤ s.length) (h2 : s.length ≤ bnd) : at14 s p = true := k14 s p ⟨h1, h2⟩
theorem at19_ok {s : List UInt8} {p : Nat} (h1 : p ≤ s.length) (h2 : s.length ≤ bnd) : at19 s p = true := k19 s p ⟨h1, h2⟩
theorem ch_I (s : List UInt8) (p : Nat) : ch s p = chI s p := by
  unfold chI
  rw [ch, Int.toNat_natCast]
theorem finT_ok {s : List UInt8} {p : Nat} (h1 : p ≤ s.length) (h2 : s.length ≤ bnd) (a : Nat) (cm hl : Bool) (lo : List UInt8) (li hh : Bool) (hi : List UInt8) : finT s a cm hl lo li hh hi p = lvO (finO s a cm hl lo li hh hi p) := by
  have hb := h2
  simp only [bnd] at hb
  unfold finT finO
  rw [at18_ok h1 h2, Int.toNat_natCast, ch_I]
  by_cases h : p < s.length
  · rw [decide_eq_false (show ¬ (p : Int) ≥ s.length by omega), decide_eq_true h, show inD s p = true from decide_eq_true (by omega), clT_ok _ _ _ _ (by omega)]
    simp only [cond_true, cond_false, Bool.true_and]
    have e93 : (chI s p != 93) = !(chI s p == 93) := rfl
    have e41 : (chI s p != 41) = !(chI s p == 41) := rfl
    rw [e93, e41]
    cases h93 : (chI s p == 93) with
    | true => rfl
    | false =>
      cases (chI s p == 41) <;> rfl
  · rw [decide_eq_true (show (p : Int) ≥ s.length by omega), decide_eq_false h]
    rfl
theorem vrE_le {s : List UInt8} {p : Nat} (h : p ≤ s.length) : p ≤ vrE s p ∧ vrE s p ≤ s.length := by
  unfold vrE
  have := fxN_le (q := wdB) h
  cases okT (vwS s p)
  · exact ⟨Nat.le_refl _, h⟩
  · exact this
theorem ne0 (n : Nat) : ((n : Int) != 0) = (n != 0) := by
  rw [Bool.eq_iff_iff, bne_iff_ne, bne_iff_ne]; omega
theorem cmT_ok {s : List UInt8} {p2 : Nat} (h1 : p2 < s.length) (h2 : s.length ≤ bnd) (hc : chI s p2 = 44) (a : Nat) (li : Bool) (p1 : Nat) : cmT s a li p1 p2 = lvO (cmO s a li p1 (fxN blB s (p2 + 1))) := by
  have hb := h2
  simp only [bnd] at hb
  have hf := fxN_le (q := blB) (show p2 + 1 ≤ s.length by omega)
  have hv := vrE_le (s := s) (p := fxN blB s (p2 + 1)) hf.2
  unfold cmT cmO
  rw [w64n (show p2 < 9223372036854775807 by omega)]
  simp only [Int.toNat_natCast]
  rw [at14_ok (by omega) h2, at19_ok hf.2 h2, at14_ok hv.2 h2, ne0, ch_I, hc, finT_ok (fxN_le (q := blB) hv.2).2 h2]
  cases (vrF s (fxN blB s (p2 + 1)) != 0) <;> rfl
theorem bgT_ok {s : List UInt8} {p1 : Nat} (h1 : p1 ≤ s.length) (h2 : s.length ≤ bnd) (a : Nat) (li : Bool) : bgT s a li p1 = lvO (bgO s a li p1) := by
  have hv := vrE_le (s := s) h1
  have hf := fxN_le (q := blB) hv.2
  unfold bgT bgO
  simp only [Int.toNat_natCast]
  rw [at19_ok h1 h2, at14_ok hv.2 h2, ne0]
  cases (vrF s p1 != 0) with
  | true => rfl
  | false =>
    simp only [cond_true, cond_false]
    by_cases h : fxN blB s (vrE s p1) < s.length
    · rw [decide_eq_true (show ((fxN blB s (vrE s p1) : Nat) : Int) < s.length by omega), show inD s (fxN blB s (vrE s p1)) = true from decide_eq_true (by omega), decide_eq_true h, ch_I, finT_ok hf.2 h2, Bool.true_and]
      simp only [cond_true]
      cases hc : (chI s (fxN blB s (vrE s p1)) == 44) with
      | true =>
        simp only [cond_true]
        exact cmT_ok h h2 (by simpa using hc) a li p1
      | false => rfl
    · rw [decide_eq_false (show ¬ ((fxN blB s (vrE s p1) : Nat) : Int) < s.length by omega), decide_eq_false h]
      simp only [cond_false, Bool.false_and]
      exact finT_ok hf.2 h2 _ _ _ _ _ _ _
theorem xT_ok {s : List UInt8} {a : Nat} (h1 : a < s.length) (h2 : s.length ≤ bnd) : xT s a = lvO (bgO s a (chI s a == 91) (fxN blB s (a + 1))) := by
  have hb := h2
  simp only [bnd] at hb
  unfold xT
  rw [show inD s a = true from decide_eq_true (by omega), w64n (show a < 9223372036854775807 by omega), at14_ok (by omega) h2, Int.toNat_natCast, ch_I]
  simp only [cond_true]
  exact bgT_ok (fxN_le (q := blB) (by omega)).2 h2 a _
theorem one_ok {s : List UInt8} {a : Nat} (h1 : a ≤ s.length) (h2 : s.length ≤ bnd) : (evn tabA5 h9 noLoops 9 [.str s, .int .i64 a] []).run = lvO (oneO s a) := by
  rw [u9]
  unfold oneO nT
  rw [at18_ok h1 h2, Int.toNat_natCast, ch_I]
  by_cases h : a < s.length
  · rw [decide_eq_false (show ¬ (a : Int) ≥ s.length by omega), decide_eq_true h, show inD s a = true from decide_eq_true (by omega), xT_ok h h2]
    simp only [cond_true, cond_false, Bool.true_and]
    have e91 : (chI s a != 91) = !(chI s a == 91) := rfl
    have e40 : (chI s a != 40) = !(chI s a == 40) := rfl
    rw [e91, e40]
    cases (chI s a == 91) with
    | true => rfl
    | false => cases (chI s a == 40) <;> rfl
  · rw [decide_eq_true (show (a : Int) ≥ s.length by omega), decide_eq_false h]
    rfl
structure X9 where
  s : List UInt8
  a : Nat
def en9 : X9 → List AV := fun ⟨s, a⟩ => [.str s, .int .i64 a]
def de9 : List AV → X9
  | [.str s, .int .i64 a] => ⟨s, a.toNat⟩
  | _ => ⟨default, default⟩
def p9 : X9 → Prop := fun ⟨s, a⟩ => a ≤ s.length ∧ s.length ≤ bnd
def rs9 : X9 → T AV := fun ⟨s, a⟩ => .leaf (avOn (oneO s a))
noncomputable def c9 : List AV → T AV := ccon en9 de9 p9 rs9
theorem s9 : Sound1 Tryd.prog ⟨9, true, pcon c9⟩ := by
  refine sound_c (soundTab_of all_tabA5) H0 (fun ⟨s, a⟩ => rfl) (hn := h9) (m := 20) (k := 9) (Λ := noLoops) (fun i hi => anyLoops) ?_
  rintro ⟨s, a⟩ ⟨h1, h2⟩ hF
  exact one_ok h1 h2
theorem k9 (s : List UInt8) (a : Nat) (h : a ≤ s.length ∧ s.length ≤ bnd) : isEn en9 p9 [.str s, .int .i64 a] = true := isEn_true (enc := en9) (p := p9) ⟨s, a⟩ h
end Go.Mvs
namespace Go.Mvs

open Go Go.Proofs Go.Ab

set_option maxRecDepth 100000

set_option linter.unusedVariables false

set_option linter.unusedSimpArgs false

noncomputable def tabA6x : Tab := ⟨9, true, pcon c9⟩ :: tabA5

theorem all_tabA6x : ∀ e, e ∈ tabA6x → Sound1 Tryd.prog e := (sound_mem_tab s9 all_tabA5)

theorem ok_tabA6x : SoundTab Tryd.prog tabA6x := soundTab_of all_tabA6x

instance : Inhabited Mr := ⟨⟨false, [], false, false, [], false⟩⟩

def folO (a b : Mr) : Bool := a.hh && (b.hl && (decide (cmpM a.hi b.lo < 0) || (cmpM a.hi b.lo == 0 && !(a.ui && b.li))))

theorem t11 (a : Mr) (b : Mr) : (evn tabA6x h11 noLoops 11 [avM a, avM b] []).run =
  bif !a.hh then
   some ((AV.bool false, []))
  else
   bif !b.hl then
    some ((AV.bool false, []))
   else
    bif decide (cmpM a.hi b.lo < (0 : Int)) then
     some ((AV.bool true, []))
    else
     bif cmpM a.hi b.lo == (0 : Int) then
      bif a.ui then
       some ((AV.bool !b.li, []))
      else
       some ((AV.bool true, []))
     else
      some ((AV.bool false, [])) := by kernel_rfl

structure X11 where
  a : Mr
  b : Mr

def en11 : X11 → List AV := fun ⟨a, b⟩ => [avM a, avM b]

def de11 : List AV → X11
  | [.agg [.bool a_0, .str a_1, .bool a_2, .bool a_3, .str a_4, .bool a_5], .agg [.bool b_0, .str b_1, .bool b_2, .bool b_3, .str b_4, .bool b_5]] => ⟨⟨a_0, a_1, a_2, a_3, a_4, a_5⟩, ⟨b_0, b_1, b_2, b_3, b_4, b_5⟩⟩
  | _ => ⟨default, default⟩

def p11 : X11 → Prop := fun ⟨a, b⟩ => True

def rs11 : X11 → T AV := fun ⟨a, b⟩ => .leaf (.bool (folO a b))

noncomputable def c11 : List AV → T AV := ccon en11 de11 p11 rs11

theorem in11 : ∀ x, de11 (en11 x) = x := by
  rintro ⟨a, b⟩
  simp only [en11, de11, avM]

theorem k11 (a : Mr) (b : Mr) (h : True) : isEn en11 p11 [avM a, avM b] = true := isEn_true (enc := en11) (p := p11) ⟨a, b⟩ h

theorem e11 (a : Mr) (b : Mr) (hF : FitsL [avM a, avM b]) : (evn tabA6x h11 noLoops 11 [avM a, avM b] []).run = (.leaf (.bool (folO a b)) : T AV).run.map fun r => (r, []) := by
  refine (t11 a b).trans ?_
  unfold folO
  cases a.hh
  · rfl
  · cases b.hl
    · rfl
    · cases decide (cmpM a.hi b.lo < 0)
      · cases (cmpM a.hi b.lo == 0)
        · rfl
        · cases a.ui <;> cases b.li <;> rfl
      · rfl

theorem s11 : Sound1 Tryd.prog ⟨11, true, pcon c11⟩ := by
  refine sound_c (soundTab_of all_tabA6x) H0 in11 (hn := h11) (m := 20) (k := 9) (Λ := noLoops) (fun i hi => anyLoops) ?_
  rintro ⟨a, b⟩ hp hF
  exact e11 a b hF

/-! ### soft -/

structure Sf where
  v : List UInt8
  e : Nat
  fa : Nat

def softO (s : List UInt8) (a : Nat) : Sf :=
  bif vrF s a != 0 then ⟨[], vrF s a, vrA s a⟩
  else bif vrS s a == [] then ⟨[], noE s a, a⟩
  else bif decide (fxN blB s (vrE s a) < s.length) then ⟨[], noE s (fxN blB s (vrE s a)), fxN blB s (vrE s a)⟩
  else ⟨vrS s a, 0, 0⟩

def avS (o : Sf) : AV := .tup [.agg [.str o.v, .nilsl], .agg [.int .i64 (o.e : Int), .int .i64 (o.fa : Int)]]

theorem t15 (s : List UInt8) (a : Nat) : (evn tabA6x h15 noLoops 15 [.str s, .int .i64 a] []).run =
  bif isEn en19 p19 [AV.str s, AV.int IntKind.i64 (↑a : Int)] then
   bif (↑(vrF s (↑a : Int).toNat) : Int) != (0 : Int) then
    some ((AV.tup [AV.agg [AV.str [], AV.nilsl], AV.agg [AV.int IntKind.i64 (↑(vrF s (↑a : Int).toNat) : Int), AV.int IntKind.i64 (↑(vrA s (↑a : Int).toNat) : Int)]], []))
   else
    bif vrS s (↑a : Int).toNat == [] then
     bif isEn en18 p18 [AV.str s, AV.int IntKind.i64 (↑a : Int)] then
      some ((AV.tup [AV.agg [AV.str [], AV.nilsl], AV.agg [AV.int IntKind.i64 (↑(noE s (↑a : Int).toNat) : Int), AV.int IntKind.i64 (↑(↑a : Int).toNat : Int)]], []))
     else
      none
    else
     bif isEn en14 p14 [AV.str s, AV.int IntKind.i64 (↑(vrE s (↑a : Int).toNat) : Int)] then
      bif decide ((↑(fxN blB s (↑(vrE s (↑a : Int).toNat) : Int).toNat) : Int) < (↑s.length : Int)) then
       bif isEn en18 p18 [AV.str s, AV.int IntKind.i64 (↑(fxN blB s (↑(vrE s (↑a : Int).toNat) : Int).toNat) : Int)] then
        some ((AV.tup [AV.agg [AV.str [], AV.nilsl], AV.agg [AV.int IntKind.i64 (↑(noE s (↑(fxN blB s (↑(vrE s (↑a : Int).toNat) : Int).toNat) : Int).toNat) : Int), AV.int IntKind.i64 (↑(↑(fxN blB s (↑(vrE s (↑a : Int).toNat) : Int).toNat) : Int).toNat : Int)]], []))
       else
        none
      else
       some ((AV.tup [AV.agg [AV.str (vrS s (↑a : Int).toNat), AV.nilsl], AV.agg [AV.int IntKind.i64 (0 : Int), AV.int IntKind.i64 (0 : Int)]], []))
     else
      none
  else
   none := by kernel_rfl

structure X15 where
  s : List UInt8
  a : Nat

def en15 : X15 → List AV := fun ⟨s, a⟩ => [.str s, .int .i64 a]

def de15 : List AV → X15
  | [.str s, .int .i64 a] => ⟨s, a.toNat⟩
  | _ => ⟨default, default⟩

def p15 : X15 → Prop := fun ⟨s, a⟩ => a ≤ s.length ∧ s.length ≤ bnd

def rs15 : X15 → T AV := fun ⟨s, a⟩ => .leaf (avS (softO s a))

noncomputable def c15 : List AV → T AV := ccon en15 de15 p15 rs15

theorem in15 : ∀ x, de15 (en15 x) = x := by
  rintro ⟨s, a⟩
  simp only [en15, de15, Int.toNat_natCast]

theorem k15 (s : List UInt8) (a : Nat) (h : a ≤ s.length ∧ s.length ≤ bnd) : isEn en15 p15 [.str s, .int .i64 a] = true := isEn_true (enc := en15) (p := p15) ⟨s, a⟩ h

theorem e15 (s : List UInt8) (a : Nat) (hF : FitsL [.str s, .int .i64 a]) (hp : a ≤ s.length ∧ s.length ≤ bnd) : (evn tabA6x h15 noLoops 15 [.str s, .int .i64 a] []).run = (.leaf (avS (softO s a)) : T AV).run.map fun r => (r, []) := by
  refine (t15 s a).trans ?_
  obtain ⟨h1, h2⟩ := hp
  have hv := vrE_le h1
  have hf := fxN_le (q := blB) hv.2
  unfold softO
  simp only [Int.toNat_natCast]
  rw [k19 s a ⟨h1, h2⟩, k18 s a ⟨h1, h2⟩, k14 s (vrE s a) ⟨hv.2, h2⟩, k18 s (fxN blB s (vrE s a)) ⟨hf.2, h2⟩, ne0]
  cases (vrF s a != 0)
  · cases (vrS s a == [])
    · by_cases h : fxN blB s (vrE s a) < s.length
      · rw [decide_eq_true h, decide_eq_true (show ((fxN blB s (vrE s a) : Nat) : Int) < s.length by omega)]; rfl
      · rw [decide_eq_false h, decide_eq_false (show ¬ ((fxN blB s (vrE s a) : Nat) : Int) < s.length by omega)]; rfl
    · rfl
  · rfl

theorem s15 : Sound1 Tryd.prog ⟨15, true, pcon c15⟩ := by
  refine sound_c (soundTab_of all_tabA6x) H0 in15 (hn := h15) (m := 20) (k := 9) (Λ := noLoops) (fun i hi => anyLoops) ?_
  rintro ⟨s, a⟩ hp hF
  exact e15 s a hF hp

noncomputable def tabA7 : Tab := ⟨11, true, pcon c11⟩ :: ⟨15, true, pcon c15⟩ :: tabA6x

theorem all_tabA7 : ∀ e, e ∈ tabA7 → Sound1 Tryd.prog e := (sound_mem_tab s11 (sound_mem_tab s15 all_tabA6x))

theorem ok_tabA7 : SoundTab Tryd.prog tabA7 := soundTab_of all_tabA7
end Go.Mvs
namespace Go.Mvs
open Go Go.Proofs Go.Ab
set_option maxRecDepth 100000
set_option linter.unusedVariables false
set_option linter.unusedSimpArgs false

/-! ### ranges: the iterator's loop, as Parse runs it -/
def tm5 : Tm := tmOf 59 [(2, .ref 0 0), (3, .ref 1 0), (5, .ref 2 0), (6, .ref 3 0), (38, .fn 23 [.ref 4 0, .ref 5 0])]
noncomputable def lo5 (st : LoopState) (pe : Option Code) : AObj := match loopAt Tryd.prog 5 0 with
  | .rangeFunc _ ps ag bo => .loop 5 st pe tm5 ps ag bo 6
  | _ => .dfr
noncomputable def hp5 (s : List UInt8) (a e fa : Int) (l : AV) (rows : Hp) (st : LoopState) (pe : Option Code) : Hp :=
  [some (.cells [.str [], .nilsl]), some (.cells [.int .i64 0, .int .i64 0]), some (.cells [.str [], l]), some (.cells [.int .i64 e, .int .i64 fa]), some (.cells [.int .i64 a]), some (.cells [.str s]), some .dfr, some (lo5 st pe)] ++ rows
def hs5 : FuncId → HintsT := fun f => match Nat.beq f 23 with
  | true => h23
  | false => match Nat.beq f 5 with
    | true => h5
    | false => ⟨0, [], []⟩
noncomputable abbrev hd5 (k : Nat) : HdT := hdT Tryd.prog tabA7.pf tabA7.con hs5 20 k
/-! ### Ranges as records -/
def CM : Cel Mr := ⟨6, fun p => [.bool p.hl, .str p.lo, .bool p.li, .bool p.hh, .str p.hi, .bool p.ui], fun g => ⟨boolOf (g 0), strOf (g 1), boolOf (g 2), boolOf (g 3), strOf (g 4), boolOf (g 5)⟩, ⟨false, [], false, false, [], false⟩⟩
theorem okCM : CM.Ok := ⟨fun a => rfl, fun a => rfl, by decide⟩
noncomputable def lastC (m : Mr) : Option AObj := some (.cells [.bool m.hl, .str m.lo, .bool m.li, .bool m.hh, .str m.hi, .bool m.ui])
noncomputable def faC (e f : Int) : Option AObj := some (.cells [.int .i64 e, .int .i64 f])
noncomputable def sR (s : List UInt8) (a e f : Int) (la : Mr) (k : Int) (l : AV) (rs : Hp) : St :=
  { tm := encGo (mbits 55 91) [.yield 7, .ref 4 0, .ref 5 0, .ref 8 0, .int .i64 k], ms := [], hp := hp5 s a e f l (lastC la :: rs) .ready none }
noncomputable def oA (s : List UInt8) (a : Int) (la : Mr) (l : AV) (rs : Hp) : AX × St :=
  (.ret, { tm := tmOf 91 [], ms := [], hp := hp5 s a 12 a l (lastC la :: rs) .done (some (.exit 0)) })
noncomputable def oB (s : List UInt8) (a k eo e f : Int) (m la : Mr) (l : AV) (rs : Hp) (ix : Nat) : AX × St :=
  (.ret, { tm := tmOf 91 [(0, .yield 7), (1, .ref 4 0), (2, .ref 5 0), (4, .ref 8 0), (5, .int .i64 k), (6, .ref ix 0), (7, .int .i64 eo), (68, .bool true)], ms := [], hp := hp5 s a e f l (lastC la :: (rs ++ [lastC m, faC e f])) .done (some (.exit 0)) })
noncomputable def oC (s : List UInt8) (a k eo e f : Int) (m la : Mr) (rs : Hp) (ix n : Nat) (F : Nat → Nat → AV) : AX × St :=
  (.ret, { tm := tmOf 91 [(0, .yield 7), (1, .ref 4 0), (2, .ref 5 0), (4, .ref 8 0), (5, .int .i64 k), (6, .ref ix 0), (7, .int .i64 eo), (68, .bool true)], ms := [], hp := hp5 s a e f (.row (ix + 2) 6 0 n) (lastC la :: (rs ++ [lastC m, faC e f, some (.row 6 n F)])) .ready none })
noncomputable def oD (s : List UInt8) (p k e f : Int) (m : Mr) (rs : Hp) (ix n : Nat) (F : Nat → Nat → AV) : AX × St :=
  (.ret, { tm := tmOf 91 [(0, .yield 7), (1, .ref 4 0), (2, .ref 5 0), (4, .ref 8 0), (5, .int .i64 k), (76, .bool true)], ms := [], hp := hp5 s p e f (.row (ix + 2) 6 0 n) (lastC m :: (rs ++ [lastC m, faC e f, some (.row 6 n F)])) .ready none })
noncomputable def oE (s : List UInt8) (p e2 e f : Int) (m : Mr) (rs : Hp) (ix n : Nat) (F : Nat → Nat → AV) : AX × St :=
  (.ret, { tm := tmOf 91 [], ms := [], hp := hp5 s p e2 p (.row (ix + 2) 6 0 n) (lastC m :: (rs ++ [lastC m, faC e f, some (.row 6 n F)])) .done (some (.exit 0)) })
noncomputable def oN (s : List UInt8) (p e2 e f : Int) (m : Mr) (rs : Hp) (ix n : Nat) (F : Nat → Nat → AV) : AX × St :=
  (.ret, { tm := tmOf 91 [], ms := [], hp := hp5 s p e2 p (.row (ix + 3) 6 0 n) (lastC m :: (rs ++ [lastC m, faC e f, none, some (.row 6 n F)])) .ready none })
noncomputable abbrev cM (m : Mr) : List AV := [.bool m.hl, .str m.lo, .bool m.li, .bool m.hh, .str m.hi, .bool m.ui]
noncomputable abbrev sixF (m : Mr) : Nat → Nat → AV := fun j => rowF 6 (cM m) (0 + j)
noncomputable abbrev fitsM (k : Nat) : Bool := decide ((k + 1) * 56 ≤ 140737488355328 ∧ k + 1 ≤ 4611686018427387903)
/-- Behind a yield that went well. -/
noncomputable def ylT (s : List UInt8) (a : Nat) (k : Int) (la : Mr) (O : On) (rs : Hp) (ix n : Nat) (F : Nat → Nat → AV) (nn : AX × St → Option (AX × St)) (G : Nat → Nat → AV) : Option (AX × St) :=
  bif (O.f : Int) != 0 then some (oC s a k O.e O.f O.fa O.m la rs ix n F)
  else bif at14 s O.e then
   bif ((fxN blB s (O.e : Int).toNat : Nat) : Int) == (s.length : Int) then some (oD s (fxN blB s (O.e : Int).toNat : Nat) k O.f O.fa O.m rs ix n F)
   else bif inD s (fxN blB s (O.e : Int).toNat) then
    bif ch s (fxN blB s (O.e : Int).toNat) != 44 then
     bif at18 s (fxN blB s (O.e : Int).toNat : Nat) then
      bif (noE s ((fxN blB s (O.e : Int).toNat : Nat) : Int).toNat : Int) != 0 then some (oE s (fxN blB s (O.e : Int).toNat : Nat) (noE s ((fxN blB s (O.e : Int).toNat : Nat) : Int).toNat) O.f O.fa O.m rs ix n F)
      else nn (oN s (fxN blB s (O.e : Int).toNat : Nat) (noE s ((fxN blB s (O.e : Int).toNat : Nat) : Int).toNat) O.f O.fa O.m rs ix (n + 1) G)
     else none
    else bif at14 s (IntKind.i64.wrap (((fxN blB s (O.e : Int).toNat : Nat) : Int) + 1)) then
     some (.normal, sR s (fxN blB s (IntKind.i64.wrap (((fxN blB s (O.e : Int).toNat : Nat) : Int) + 1)).toNat : Nat) O.f O.fa O.m (IntKind.i64.wrap (k + 1)) (.row 9 6 0 n) [some (.row 6 n F)])
    else none
   else none
  else none
noncomputable abbrev at9 (s : List UInt8) (p : Int) : Bool := isEn en9 p9 [.str s, .int .i64 p]
noncomputable def onA (s : List UInt8) (a : Nat) (la : Mr) (O : On) : Option (AX × St) :=
  bif (O.f : Int) != 0 then some (oB s a 0 O.e O.f O.fa O.m la .nilsl [] 9)
  else ylT s a 0 la O [] 9 1 (sixF O.m) (fun x => some x) (appF 1 (sixF O.m) (sixF ⟨false, [], false, false, [], false⟩))
noncomputable def tryA (s : List UInt8) (a : Nat) (la : Mr) : Option (AX × St) :=
  bif at9 s a then bif ((oneO s (a : Int).toNat).f : Int) == 0 then onA s a la (oneO s (a : Int).toNat) else onA s a la (oneO s (a : Int).toNat) else none
noncomputable abbrev rdR (Λ : LoopT) (st : St) : T (AX × St) := roundT Tryd.prog tabA7.pf (hd5 8) h23 23 8 none 20 Λ (lbody Tryd.prog 23 0) st
theorem rRa (Λ : LoopT) (s : List UInt8) (a : Nat) (la : Mr) : (rdR Λ (sR s a 0 0 la 0 .nilsl [])).run =
  bif decide ((a : Int) < (s.length : Int)) then
   bif inD s a then
    bif ch s a == 91 then tryA s a la
    else bif inD s a then
     bif ch s a == 40 then tryA s a la else tryA s a la
    else none
   else none
  else tryA s a la := by kernel_rfl
noncomputable abbrev rowM (n : Nat) (h : Nat → Nat → AV) : Option AObj := some (.row 6 n h)
noncomputable def onB (s : List UInt8) (a k n : Nat) (la : Mr) (h : Nat → Nat → AV) (O : On) : Option (AX × St) :=
  bif (O.f : Int) != 0 then some (oB s a k O.e O.f O.fa O.m la (.row 9 6 0 n) [rowM n h] 10)
  else bif decide (n = n) then
   bif fitsM n then ylT s a k la O [none] 10 (n + 1) (appF n h (sixF O.m)) (fun x => bif decide (n + 1 = n + 1) then bif fitsM (n + 1) then some x else none else none) (appF (n + 1) (appF n h (sixF O.m)) (sixF ⟨false, [], false, false, [], false⟩))
   else none
  else none
noncomputable def foB (s : List UInt8) (a k n : Nat) (la : Mr) (h : Nat → Nat → AV) (O : On) : Option (AX × St) :=
  bif decide ((k : Int) > 0) then
   bif isEn en11 p11 [avM la, avM O.m] then
    bif !folO la O.m then some (oB s a k O.e 21 a O.m la (.row 9 6 0 n) [rowM n h] 10) else onB s a k n la h O
   else none
  else onB s a k n la h O
noncomputable def tryB (s : List UInt8) (a k n : Nat) (la : Mr) (h : Nat → Nat → AV) : Option (AX × St) :=
  bif at9 s a then bif ((oneO s (a : Int).toNat).f : Int) == 0 then foB s a k n la h (oneO s (a : Int).toNat) else onB s a k n la h (oneO s (a : Int).toNat) else none
noncomputable def brB (s : List UInt8) (a k n : Nat) (la : Mr) (h : Nat → Nat → AV) : Option (AX × St) :=
  bif (k : Int) == 32 then some (oA s a la (.row 9 6 0 n) [rowM n h]) else tryB s a k n la h
theorem rRb (Λ : LoopT) (s : List UInt8) (a k n : Nat) (la : Mr) (h : Nat → Nat → AV) : (rdR Λ (sR s a 0 0 la k (.row 9 6 0 n) [rowM n h])).run =
  bif decide ((a : Int) < (s.length : Int)) then
   bif inD s a then
    bif ch s a == 91 then brB s a k n la h
    else bif inD s a then
     bif ch s a == 40 then brB s a k n la h else tryB s a k n la h
    else none
   else none
  else tryB s a k n la h := by kernel_rfl
end Go.Mvs
namespace Go.Mvs
open Go Go.Proofs Go.Ab
set_option maxRecDepth 100000
set_option linter.unusedVariables false
set_option linter.unusedSimpArgs false

/-! ### ranges, told -/
theorem clO_ok (a : Nat) (cm : Bool) (m : Mr) (p : Nat) (h : (clO a cm m p).f = 0) : (clO a cm m p).e = p + 1 ∧ (clO a cm m p).fa = 0 := by
  obtain ⟨hl, lo, li, hh, hi, ui⟩ := m
  revert h
  unfold clO
  simp only
  cases cm
  · cases hl
    · intro h; cases h
    · cases li
      · intro h; cases h
      · cases ui
        · intro h; cases h
        · cases decide (cmpM lo lo > 0)
          · cases (cmpM lo lo == 0) <;> exact fun _ => ⟨rfl, rfl⟩
          · intro h; cases h
  · cases hl
    · exact fun _ => ⟨rfl, rfl⟩
    · cases hh
      · exact fun _ => ⟨rfl, rfl⟩
      · cases decide (cmpM lo hi > 0)
        · cases (cmpM lo hi == 0)
          · exact fun _ => ⟨rfl, rfl⟩
          · cases li
            · intro h; cases h
            · cases ui
              · intro h; cases h
              · exact fun _ => ⟨rfl, rfl⟩
        · intro h; cases h
theorem noE_ne (s : List UInt8) (p : Nat) : noE s p ≠ 0 := by
  unfold noE
  cases decide (p < s.length) <;> simp
theorem finO_ok {s : List UInt8} {a : Nat} {cm hl : Bool} {lo : List UInt8} {li hh : Bool} {hi : List UInt8} {p : Nat} (h : (finO s a cm hl lo li hh hi p).f = 0) :
    p < s.length ∧ (finO s a cm hl lo li hh hi p).e = p + 1 ∧ (finO s a cm hl lo li hh hi p).fa = 0 := by
  unfold finO at h ⊢
  cases hc : (decide (p < s.length) && (chI s p == 93 || chI s p == 41)) with
  | true =>
    rw [hc, cond_true] at h
    simp only [Bool.and_eq_true, decide_eq_true_eq] at hc
    rw [cond_true]
    exact ⟨hc.1, clO_ok _ _ _ _ h⟩
  | false =>
    rw [hc, cond_false] at h
    exact absurd h (noE_ne s p)
theorem one_facts {s : List UInt8} {a : Nat} (h0 : a ≤ s.length) (h : (oneO s a).f = 0) : a < s.length ∧ a < (oneO s a).e ∧ (oneO s a).e ≤ s.length ∧ (oneO s a).fa = 0 := by
  unfold oneO at h ⊢
  cases hc : (decide (a < s.length) && (chI s a == 91 || chI s a == 40)) with
  | false =>
    rw [hc, cond_false] at h
    exact absurd h (noE_ne s a)
  | true =>
    rw [hc, cond_true] at h
    simp only [Bool.and_eq_true, decide_eq_true_eq] at hc
    have ha := hc.1
    rw [cond_true]
    have f1 := fxN_le (q := blB) (show a + 1 ≤ s.length by omega)
    have v1 := vrE_le (s := s) f1.2
    have f2 := fxN_le (q := blB) v1.2
    unfold bgO at h ⊢
    cases hv : (vrF s (fxN blB s (a + 1)) != 0) with
    | true =>
      rw [hv, cond_true] at h
      simp only at h
      rw [h] at hv; cases hv
    | false =>
      rw [hv, cond_false] at h
      rw [cond_false]
      cases hc2 : (decide (fxN blB s (vrE s (fxN blB s (a + 1))) < s.length) && chI s (fxN blB s (vrE s (fxN blB s (a + 1)))) == 44) with
      | false =>
        rw [hc2, cond_false] at h
        rw [cond_false]
        obtain ⟨q1, q2, q3⟩ := finO_ok h
        rw [q2]
        exact ⟨ha, by omega, by omega, q3⟩
      | true =>
        rw [hc2, cond_true] at h
        simp only [Bool.and_eq_true, decide_eq_true_eq] at hc2
        rw [cond_true]
        have f3 := fxN_le (q := blB) (show fxN blB s (vrE s (fxN blB s (a + 1))) + 1 ≤ s.length by omega)
        have v3 := vrE_le (s := s) f3.2
        have f4 := fxN_le (q := blB) v3.2
        unfold cmO at h ⊢
        cases hv3 : (vrF s (fxN blB s (fxN blB s (vrE s (fxN blB s (a + 1))) + 1)) != 0) with
        | true =>
          rw [hv3, cond_true] at h
          simp only at h
          rw [h] at hv3; cases hv3
        | false =>
          rw [hv3, cond_false] at h
          rw [cond_false]
          obtain ⟨q1, q2, q3⟩ := finO_ok h
          rw [q2]
          exact ⟨ha, by omega, by omega, q3⟩
inductive Oc where
  | long (a : Nat) (la : Mr) (L : List Mr)
  | bad (a eo e f : Nat) (m la : Mr) (L : List Mr)
  | fin (p : Nat) (m : Mr) (L : List Mr)
  | sep (p : Nat) (m : Mr) (L : List Mr)
def rsN : List Mr → Hp
  | [] => []
  | _ :: _ => [none]
def ixN : List Mr → Nat
  | [] => 9
  | _ :: _ => 10
noncomputable def out (s : List UInt8) : Oc → AX × St
  | .long a la L => oA s a la (rAG CM 9 L) (rHG CM L)
  | .bad a eo e f m la L => oB s a L.length eo e f m la (rAG CM 9 L) (rHG CM L) (ixN L)
  | .fin p m L => oD s p L.length 0 0 m (rsN L) (ixN L) (L.length + 1) (rowG CM (fnR CM.df (L ++ [m])))
  | .sep p m L => oE s p (noE s p) 0 0 m (rsN L) (ixN L) (L.length + 1) (rowG CM (fnR CM.df (L ++ [m])))
theorem out_ne (s : List UInt8) (o : Oc) : (out s o).1 ≠ .normal := by cases o <;> simp [out, oA, oB, oD, oE]
def rg1 (s : List UInt8) (a : Nat) (la : Mr) (L : List Mr) : Option Oc :=
  bif (decide (a < s.length) && (chI s a == 91 || chI s a == 40)) && L.length == 32 then some (.long a la L)
  else bif (oneO s a).f == 0 && (decide (0 < L.length) && !folO la (oneO s a).m) then some (.bad a (oneO s a).e 21 a (oneO s a).m la L)
  else bif (oneO s a).f != 0 then some (.bad a (oneO s a).e (oneO s a).f (oneO s a).fa (oneO s a).m la L)
  else bif fxN blB s (oneO s a).e == s.length then some (.fin (fxN blB s (oneO s a).e) (oneO s a).m L)
  else bif chI s (fxN blB s (oneO s a).e) != 44 then some (.sep (fxN blB s (oneO s a).e) (oneO s a).m L)
  else none
def nxA (s : List UInt8) (a : Nat) : Nat := fxN blB s (fxN blB s (oneO s a).e + 1)
theorem ylT_ok {s : List UInt8} {a : Nat} (h0 : a ≤ s.length) (h2 : s.length ≤ bnd) (hf : (oneO s a).f = 0) (k : Nat) (hk : k ≤ 4611686018427387903) (la : Mr) (rs : Hp) (ix n : Nat) (F : Nat → Nat → AV) (nn : AX × St → Option (AX × St)) (G : Nat → Nat → AV) :
    ylT s a k la (oneO s a) rs ix n F nn G = bif fxN blB s (oneO s a).e == s.length then some (oD s (fxN blB s (oneO s a).e : Nat) k 0 0 (oneO s a).m rs ix n F)
      else bif chI s (fxN blB s (oneO s a).e) != 44 then some (oE s (fxN blB s (oneO s a).e : Nat) (noE s (fxN blB s (oneO s a).e)) 0 0 (oneO s a).m rs ix n F)
      else some (.normal, sR s (nxA s a : Nat) 0 0 (oneO s a).m ((k + 1 : Nat) : Int) (.row 9 6 0 n) [some (.row 6 n F)]) := by
  obtain ⟨q1, q2, q3, q4⟩ := one_facts h0 hf
  have hb := h2
  simp only [bnd] at hb
  have f1 := fxN_le (q := blB) q3
  unfold ylT
  simp only [Int.toNat_natCast]
  rw [hf, q4, at14_ok q3 h2, at18_ok f1.2 h2]
  have e1 : ((((fxN blB s (oneO s a).e : Nat) : Int)) == (s.length : Int)) = (fxN blB s (oneO s a).e == s.length) := by
    rw [Bool.eq_iff_iff, beq_iff_eq, beq_iff_eq]; omega
  rw [e1]
  simp only [Int.natCast_zero, bne_self_eq_false, cond_false, cond_true]
  by_cases h : fxN blB s (oneO s a).e = s.length
  · rw [show (fxN blB s (oneO s a).e == s.length) = true by simpa using h]
    rfl
  · rw [show (fxN blB s (oneO s a).e == s.length) = false by simpa using h, show inD s (fxN blB s (oneO s a).e) = true from decide_eq_true (by omega), ch_I, w64n (show fxN blB s (oneO s a).e < 9223372036854775807 by omega), Int.toNat_natCast, at14_ok (by omega) h2, w64n (show k < 9223372036854775807 by omega)]
    simp only [cond_false, cond_true]
    cases (chI s (fxN blB s (oneO s a).e) != 44) with
    | true =>
      have hn := noE_ne s (fxN blB s (oneO s a).e)
      rw [ne0, show (noE s (fxN blB s (oneO s a).e) != 0) = true by simpa using hn]
      rfl
    | false => rfl
theorem rg_step (Λ : LoopT) {s : List UInt8} {a : Nat} (h0 : a ≤ s.length) (h2 : s.length ≤ 256) (la : Mr) (L : List Mr) (hL : L.length ≤ 256) :
    (rdR Λ (sR s a 0 0 la L.length (rAG CM 9 L) (rHG CM L))).run = match rg1 s a la L with
      | some o => some (out s o)
      | none => some (.normal, sR s (nxA s a : Nat) 0 0 (oneO s a).m ((L.length + 1 : Nat) : Int) (rAG CM 9 (L ++ [(oneO s a).m])) (rHG CM (L ++ [(oneO s a).m]))) := by
  have hb : s.length ≤ bnd := by simp only [bnd]; omega
  have hin : a < s.length → inD s a = true := fun h => decide_eq_true (by omega)
  have e9 : at9 s a = true := k9 s a ⟨h0, hb⟩
  have ef : (((oneO s a).f : Int) == 0) = ((oneO s a).f == 0) := by
    rw [Bool.eq_iff_iff, beq_iff_eq, beq_iff_eq]; omega
  rw [rAG_push, rHG_push]
  cases L with
  | nil =>
    have hr := rRa Λ s a la
    have hT : tryA s a la = match rg1 s a la [] with
      | some o => some (out s o)
      | none => some (.normal, sR s (nxA s a : Nat) 0 0 (oneO s a).m ((0 + 1 : Nat) : Int) (.row 9 6 0 1) [some (.row 6 1 (rowG CM (fnR CM.df ([] ++ [(oneO s a).m]))))]) := by
      unfold tryA rg1
      rw [e9, Int.toNat_natCast, ef]
      have eL : ((([] : List Mr).length == 32)) = false := rfl
      rw [eL, Bool.and_false, show decide (0 < ([] : List Mr).length) = false from rfl, Bool.false_and, Bool.and_false]
      simp only [cond_true, cond_false]
      have hone : (bif (oneO s a).f == 0 then onA s a la (oneO s a) else onA s a la (oneO s a)) = onA s a la (oneO s a) := by cases ((oneO s a).f == 0) <;> rfl
      rw [hone]
      unfold onA
      rw [ne0]
      cases hf : ((oneO s a).f != 0) with
      | true => rfl
      | false =>
        have hf0 : (oneO s a).f = 0 := by simpa using hf
        have hy := ylT_ok h0 hb hf0 0 (by omega) la [] 9 1 (sixF (oneO s a).m) (fun x => some x) (appF 1 (sixF (oneO s a).m) (sixF ⟨false, [], false, false, [], false⟩))
        have e : sixF (oneO s a).m = rowG CM (fnR CM.df ([] ++ [(oneO s a).m])) := rowF_first okCM CM.df rfl
        simp only [cond_false]
        refine hy.trans ?_
        rw [e]
        cases (fxN blB s (oneO s a).e == s.length)
        · cases (chI s (fxN blB s (oneO s a).e) != 44) <;> rfl
        · rfl
    refine hr.trans (Eq.trans ?_ hT)
    by_cases h : a < s.length
    · rw [decide_eq_true (show (a : Int) < s.length by omega), hin h]
      simp only [cond_true]
      cases (ch s a == 91)
      · cases (ch s a == 40) <;> rfl
      · rfl
    · rw [decide_eq_false (show ¬ (a : Int) < s.length by omega)]
      rfl
  | cons x L =>
    have hr := rRb Λ s a (L.length + 1) (L.length + 1) la (rowG CM (fnR CM.df (x :: L)))
    simp only [List.length_cons] at hL
    have ek : ((((L.length + 1 : Nat) : Int)) == 32) = ((x :: L).length == 32) := by
      rw [Bool.eq_iff_iff, beq_iff_eq, beq_iff_eq]; simp only [List.length_cons]; omega
    have hT : ((x :: L).length == 32) = false ∨ (decide (a < s.length) && (chI s a == 91 || chI s a == 40)) = false → tryB s a (L.length + 1) (L.length + 1) la (rowG CM (fnR CM.df (x :: L))) = match rg1 s a la (x :: L) with
      | some o => some (out s o)
      | none => some (.normal, sR s (nxA s a : Nat) 0 0 (oneO s a).m (((x :: L).length + 1 : Nat) : Int) (.row 9 6 0 ((x :: L).length + 1)) [some (.row 6 ((x :: L).length + 1) (rowG CM (fnR CM.df (x :: L ++ [(oneO s a).m]))))]) := by
      intro hc
      unfold tryB rg1
      rw [e9, Int.toNat_natCast, ef, show ((decide (a < s.length) && (chI s a == 91 || chI s a == 40)) && (x :: L).length == 32) = false by rcases hc with hc | hc <;> rw [hc] <;> simp, show decide (0 < (x :: L).length) = true by simp]
      simp only [cond_true, cond_false, Bool.true_and]
      have e11 : isEn en11 p11 [avM la, avM (oneO s a).m] = true := k11 la (oneO s a).m trivial
      have hon : onB s a (L.length + 1) (L.length + 1) la (rowG CM (fnR CM.df (x :: L))) (oneO s a) = bif (oneO s a).f != 0 then some (out s (.bad a (oneO s a).e (oneO s a).f (oneO s a).fa (oneO s a).m la (x :: L)))
          else bif fxN blB s (oneO s a).e == s.length then some (out s (.fin (fxN blB s (oneO s a).e) (oneO s a).m (x :: L)))
          else bif chI s (fxN blB s (oneO s a).e) != 44 then some (out s (.sep (fxN blB s (oneO s a).e) (oneO s a).m (x :: L)))
          else some (.normal, sR s (nxA s a : Nat) 0 0 (oneO s a).m (((x :: L).length + 1 : Nat) : Int) (.row 9 6 0 ((x :: L).length + 1)) [some (.row 6 ((x :: L).length + 1) (rowG CM (fnR CM.df (x :: L ++ [(oneO s a).m]))))]) := by
        unfold onB
        rw [ne0]
        cases hf : ((oneO s a).f != 0) with
        | true => rfl
        | false =>
          have hf0 : (oneO s a).f = 0 := by simpa using hf
          have e : appF (L.length + 1) (rowG CM (fnR CM.df (x :: L))) (sixF (oneO s a).m) = rowG CM (fnR CM.df (x :: L ++ [(oneO s a).m])) := appG_push okCM CM.df (x :: L) rfl
          rw [e, decide_eq_true rfl, show fitsM (L.length + 1) = true from decide_eq_true (by omega), ylT_ok h0 hb hf0 (L.length + 1) (by omega)]
          simp only [cond_false, cond_true]
          cases (fxN blB s (oneO s a).e == s.length)
          · cases (chI s (fxN blB s (oneO s a).e) != 44) <;> rfl
          · rfl
      cases hf : ((oneO s a).f == 0) with
      | true =>
        have hf0 : (oneO s a).f = 0 := by simpa using hf
        unfold foB
        rw [decide_eq_true (show ((L.length + 1 : Nat) : Int) > 0 by omega), e11, hon, show ((oneO s a).f != 0) = false by simpa using hf0]
        simp only [cond_true, cond_false, Bool.true_and]
        cases (!folO la (oneO s a).m)
        · cases (fxN blB s (oneO s a).e == s.length)
          · cases (chI s (fxN blB s (oneO s a).e) != 44) <;> rfl
          · rfl
        · rfl
      | false =>
        rw [hon, show ((oneO s a).f != 0) = true by simpa using hf]
        rfl
    refine hr.trans ?_
    have hB : (decide (a < s.length) && (chI s a == 91 || chI s a == 40)) = true → brB s a (L.length + 1) (L.length + 1) la (rowG CM (fnR CM.df (x :: L))) = match rg1 s a la (x :: L) with
      | some o => some (out s o)
      | none => some (.normal, sR s (nxA s a : Nat) 0 0 (oneO s a).m (((x :: L).length + 1 : Nat) : Int) (.row 9 6 0 ((x :: L).length + 1)) [some (.row 6 ((x :: L).length + 1) (rowG CM (fnR CM.df (x :: L ++ [(oneO s a).m]))))]) := by
      intro hc
      unfold brB
      rw [ek]
      cases h32 : ((x :: L).length == 32) with
      | true =>
        unfold rg1
        rw [hc, h32]
        rfl
      | false => exact hT (.inl h32)
    by_cases h : a < s.length
    · rw [decide_eq_true (show (a : Int) < s.length by omega), hin h, ch_I]
      simp only [cond_true]
      cases h91 : (chI s a == 91) with
      | true => exact hB (by rw [decide_eq_true h, h91]; rfl)
      | false =>
        simp only [cond_false]
        cases h40 : (chI s a == 40) with
        | true => exact hB (by rw [decide_eq_true h, h91, h40]; rfl)
        | false => exact hT (.inr (by rw [h91, h40]; simp))
    · rw [decide_eq_false (show ¬ (a : Int) < s.length by omega)]
      exact hT (.inr (by rw [decide_eq_false h]; rfl))
end Go.Mvs
namespace Go.Mvs
open Go Go.Proofs Go.Ab
set_option maxRecDepth 100000
set_option linter.unusedVariables false
set_option linter.unusedSimpArgs false

/-! ### ranges: the loop -/
def rgR (s : List UInt8) : Nat → Nat → Mr → List Mr → Oc
  | 0, a, la, L => .fin a la L
  | m + 1, a, la, L => match rg1 s a la L with
    | some o => o
    | none => rgR s m (nxA s a) (oneO s a).m (L ++ [(oneO s a).m])
theorem rg1_none {s : List UInt8} {a : Nat} {la : Mr} {L : List Mr} (h0 : a ≤ s.length) (h : rg1 s a la L = none) : a < nxA s a ∧ nxA s a ≤ s.length ∧ (oneO s a).f = 0 := by
  unfold rg1 at h
  cases h1 : ((decide (a < s.length) && (chI s a == 91 || chI s a == 40)) && L.length == 32) with
  | true => rw [h1] at h; cases h
  | false =>
  rw [h1, cond_false] at h
  cases h2 : ((oneO s a).f == 0 && (decide (0 < L.length) && !folO la (oneO s a).m)) with
  | true => rw [h2] at h; cases h
  | false =>
  rw [h2, cond_false] at h
  cases h3 : ((oneO s a).f != 0) with
  | true => rw [h3] at h; cases h
  | false =>
  rw [h3, cond_false] at h
  have hf : (oneO s a).f = 0 := by simpa using h3
  obtain ⟨q1, q2, q3, q4⟩ := one_facts h0 hf
  have f1 := fxN_le (q := blB) q3
  cases h4 : (fxN blB s (oneO s a).e == s.length) with
  | true => rw [h4] at h; cases h
  | false =>
  have h5 : fxN blB s (oneO s a).e ≠ s.length := by simpa using h4
  have f2 := fxN_le (q := blB) (show fxN blB s (oneO s a).e + 1 ≤ s.length by omega)
  unfold nxA
  exact ⟨by omega, f2.2, hf⟩
theorem rgR_fuel (s : List UInt8) : ∀ (m m' : Nat) (a : Nat) (la : Mr) (L : List Mr), a ≤ s.length → s.length - a < m → s.length - a < m' → rgR s m a la L = rgR s m' a la L
  | 0, m', a, la, L, _, h, _ => by omega
  | m + 1, 0, a, la, L, _, _, h => by omega
  | m + 1, m' + 1, a, la, L, h0, h1, h2 => by
    unfold rgR
    cases hp : rg1 s a la L with
    | some o => rfl
    | none =>
      obtain ⟨q1, q2, _⟩ := rg1_none h0 hp
      exact rgR_fuel s m m' _ _ _ q2 (by omega) (by omega)
structure Y23 where
  s : List UInt8
  a : Nat
  la : Mr
  k : Nat
  l : AV
  rs : Hp
noncomputable def e23 : Y23 → List AV × Hp := fun ⟨s, a, la, k, l, rs⟩ => ([.yield 7, .ref 4 0, .ref 5 0, .ref 8 0, .int .i64 k], hp5 s a 0 0 l (lastC la :: rs) .ready none)
def d23 : List AV × Hp → Y23
  | ([_, _, _, _, .int _ k], _ :: _ :: some (.cells [_, l]) :: _ :: some (.cells [.int _ a]) :: some (.cells [.str s]) :: _ :: _ :: some (.cells [.bool b0, .str b1, .bool b2, .bool b3, .str b4, .bool b5]) :: rs) => ⟨s, a.toNat, ⟨b0, b1, b2, b3, b4, b5⟩, k.toNat, l, rs⟩
  | _ => ⟨[], 0, default, 0, .junk, []⟩
theorem i23 : ∀ x, d23 (e23 x) = x := by
  rintro ⟨s, a, la, k, l, rs⟩
  rfl
def p23 (o : AX × St) : Y23 → Prop := fun ⟨s, a, la, k, l, rs⟩ => a ≤ s.length ∧ s.length ≤ 256 ∧ ∃ L, l = rAG CM 9 L ∧ rs = rHG CM L ∧ k = L.length ∧ L.length ≤ a ∧ out s (rgR s (s.length + 1 - a) a la L) = o
noncomputable def r23 (o : AX × St) : Y23 → T (AX × St) := fun _ => .leaf o
noncomputable def L23 (o : AX × St) : LoopT := fun k => match Nat.beq k 300136 with
  | true => some (lccon (mbits 55 91) e23 d23 (p23 o) (r23 o))
  | false => none
theorem l23 (o : AX × St) : LoopOk Tryd.prog tabA7.pf (fun n => hd Tryd.prog tabA7.pf tabA7.con.run (fun f => (hs5 f).to) n 8) h23.to 23 8 none (L23 o) (loopAt Tryd.prog 23 0) := by
  rw [show loopAt Tryd.prog 23 0 = .loop (lbody Tryd.prog 23 0) by kernel_rfl]
  refine loop_c (hdT_le (m := 20) 8) (m := 20) (lv := mbits 55 91) (p := p23 o) (res := r23 o) i23 (within_of _ (by rw [show loopsOf (lbody Tryd.prog 23 0) = [] by kernel_rfl]; simp)) (by kernel_rfl) (fun ⟨s, a, la, k, l, rs⟩ => s.length + 1 - a) ?_
  rintro ⟨s, a, la, k, l, rs⟩ ⟨h1, h2, L, rfl, rfl, rfl, h3, ho⟩
  have hF : s.length + 1 - a = (s.length - a) + 1 := by omega
  have ht := rg_step (L23 o) h1 h2 la L (by omega)
  rw [hF] at ho
  unfold rgR at ho
  cases hp : rg1 s a la L with
  | some q =>
    rw [hp] at ht ho
    right
    exact ⟨out s q, out_ne s q, by simp only [r23, T.run_leaf]; rw [← ho], ht⟩
  | none =>
    rw [hp] at ht ho
    obtain ⟨q1, q2, q3⟩ := rg1_none h1 hp
    left
    refine ⟨⟨s, nxA s a, (oneO s a).m, L.length + 1, rAG CM 9 (L ++ [(oneO s a).m]), rHG CM (L ++ [(oneO s a).m])⟩, ⟨q2, h2, L ++ [(oneO s a).m], rfl, rfl, by simp, by rw [List.length_append]; simp only [List.length_cons, List.length_nil]; omega, ?_⟩, by simp only; omega, rfl, ht⟩
    rw [← ho]
    exact congrArg (out s) (rgR_fuel s _ _ _ _ _ q2 (by omega) (by omega))
/-! ### ranges$1, as Parse calls it -/
noncomputable abbrev ev23 (o : AX × St) (s : List UInt8) (a : Int) : Option (AV × Hp) := (evFnT Tryd.prog tabA7.pf (hd5 8) h23 20 (L23 o) 23 [.yield 7, .ref 4 0, .ref 5 0] (hp5 s a 0 0 .nilsl [] .ready none)).run
noncomputable abbrev en23 (o : AX × St) (s : List UInt8) (a : Int) : Bool := isEn e23 (p23 o) ([.yield 7, .ref 4 0, .ref 5 0, .ref 8 0, .int .i64 0], hp5 s a 0 0 .nilsl [lastC ⟨false, [], false, false, [], false⟩] .ready none)
noncomputable def hD (s : List UInt8) (a e f : Int) (l : AV) (rs : Hp) : Hp := hp5 s a e f l rs .done (some (.exit 0))
noncomputable def hR (s : List UInt8) (a e f : Int) (l : AV) (rs : Hp) : Hp := hp5 s a e f l rs .ready none
theorem t23a (s : List UInt8) (a b : Int) (la : Mr) : ev23 (oA s b la .nilsl []) s a = bif en23 (oA s b la .nilsl []) s a then some (.tup [], hD s b 12 b .nilsl []) else none := by kernel_rfl
theorem t23b (s : List UInt8) (a b : Int) (la : Mr) (n : Nat) (F : Nat → Nat → AV) : ev23 (oA s b la (.row 9 6 0 n) [rowM n F]) s a = bif en23 (oA s b la (.row 9 6 0 n) [rowM n F]) s a then some (.tup [], hD s b 12 b (.row 8 6 0 n) [rowM n F]) else none := by kernel_rfl
theorem t23c (s : List UInt8) (a b k eo e f : Int) (m la : Mr) : ev23 (oB s b k eo e f m la .nilsl [] 9) s a = bif en23 (oB s b k eo e f m la .nilsl [] 9) s a then some (.tup [], hD s b e f .nilsl []) else none := by kernel_rfl
theorem t23d (s : List UInt8) (a b k eo e f : Int) (m la : Mr) (n : Nat) (F : Nat → Nat → AV) : ev23 (oB s b k eo e f m la (.row 9 6 0 n) [rowM n F] 10) s a = bif en23 (oB s b k eo e f m la (.row 9 6 0 n) [rowM n F] 10) s a then some (.tup [], hD s b e f (.row 8 6 0 n) [rowM n F]) else none := by kernel_rfl
theorem t23e (s : List UInt8) (a p k : Int) (m : Mr) (n : Nat) (F : Nat → Nat → AV) : ev23 (oD s p k 0 0 m [] 9 n F) s a = bif en23 (oD s p k 0 0 m [] 9 n F) s a then some (.tup [], hR s p 0 0 (.row 8 6 0 n) [rowM n F]) else none := by kernel_rfl
theorem t23f (s : List UInt8) (a p k : Int) (m : Mr) (n : Nat) (F : Nat → Nat → AV) : ev23 (oD s p k 0 0 m [none] 10 n F) s a = bif en23 (oD s p k 0 0 m [none] 10 n F) s a then some (.tup [], hR s p 0 0 (.row 8 6 0 n) [rowM n F]) else none := by kernel_rfl
theorem t23g (s : List UInt8) (a p e2 : Int) (m : Mr) (n : Nat) (F : Nat → Nat → AV) : ev23 (oE s p e2 0 0 m [] 9 n F) s a = bif en23 (oE s p e2 0 0 m [] 9 n F) s a then some (.tup [], hD s p e2 p (.row 8 6 0 n) [rowM n F]) else none := by kernel_rfl
theorem t23h (s : List UInt8) (a p e2 : Int) (m : Mr) (n : Nat) (F : Nat → Nat → AV) : ev23 (oE s p e2 0 0 m [none] 10 n F) s a = bif en23 (oE s p e2 0 0 m [none] 10 n F) s a then some (.tup [], hD s p e2 p (.row 8 6 0 n) [rowM n F]) else none := by kernel_rfl
end Go.Mvs
namespace Go.Mvs
open Go Go.Proofs Go.Ab
set_option maxRecDepth 100000
set_option linter.unusedVariables false
set_option linter.unusedSimpArgs false

/-! ### Parse: the range over ranges -/
def ocA : Oc → Nat
  | .long a _ _ => a
  | .bad a _ _ _ _ _ _ => a
  | .fin p _ _ => p
  | .sep p _ _ => p
def ocE (s : List UInt8) : Oc → Nat
  | .long _ _ _ => 12
  | .bad _ _ e _ _ _ _ => e
  | .fin _ _ _ => 0
  | .sep p _ _ => noE s p
def ocF : Oc → Nat
  | .long a _ _ => a
  | .bad _ _ _ f _ _ _ => f
  | .fin _ _ _ => 0
  | .sep p _ _ => p
def ocL : Oc → List Mr
  | .long _ _ L => L
  | .bad _ _ _ _ _ _ L => L
  | .fin _ m L => L ++ [m]
  | .sep _ m L => L ++ [m]
def isFin : Oc → Bool
  | .fin _ _ _ => true
  | _ => false
def zM : Mr := ⟨false, [], false, false, [], false⟩
def rgO (s : List UInt8) (a : Nat) : Oc := rgR s (s.length + 1 - a) a zM []
def rA8 : List Mr → AV
  | [] => .nilsl
  | m :: L => .row 8 6 0 (L.length + 1)
noncomputable def h23O (s : List UInt8) (o : Oc) : Hp := bif isFin o then hR s (ocA o) 0 0 (rA8 (ocL o)) (rHG CM (ocL o)) else hD s (ocA o) (ocE s o) (ocF o) (rA8 (ocL o)) (rHG CM (ocL o))
theorem run23 (s : List UInt8) (a : Nat) (h1 : a ≤ s.length) (h2 : s.length ≤ 256) : ev23 (out s (rgO s a)) s a = some (.tup [], h23O s (rgO s a)) := by
  have hp : en23 (out s (rgO s a)) s a = true := isEn_true (enc := e23) (p := p23 (out s (rgO s a))) ⟨s, a, zM, 0, .nilsl, []⟩ ⟨h1, h2, [], rfl, rfl, rfl, Nat.zero_le _, rfl⟩
  revert hp
  generalize rgO s a = o
  intro hp
  cases o with
  | long b la L =>
    cases L with
    | nil => exact (t23a s a b la).trans (by rw [show en23 (oA s b la .nilsl []) s a = true from hp]; rfl)
    | cons x L => exact (t23b s a b la (L.length + 1) (rowG CM (fnR CM.df (x :: L)))).trans (by rw [show en23 (oA s b la (.row 9 6 0 (L.length + 1)) [rowM (L.length + 1) (rowG CM (fnR CM.df (x :: L)))]) s a = true from hp]; rfl)
  | bad b eo e f m la L =>
    cases L with
    | nil => exact (t23c s a b 0 eo e f m la).trans (by rw [show en23 (oB s b 0 eo e f m la .nilsl [] 9) s a = true from hp]; rfl)
    | cons x L => exact (t23d s a b (L.length + 1 : Nat) eo e f m la (L.length + 1) (rowG CM (fnR CM.df (x :: L)))).trans (by rw [show en23 (oB s b (L.length + 1 : Nat) eo e f m la (.row 9 6 0 (L.length + 1)) [rowM (L.length + 1) (rowG CM (fnR CM.df (x :: L)))] 10) s a = true from hp]; rfl)
  | fin p m L =>
    have e1 : rA8 (L ++ [m]) = .row 8 6 0 (L.length + 1) := by
      cases L with
      | nil => rfl
      | cons x L => show AV.row 8 6 0 ((L ++ [m]).length + 1) = _; rw [List.length_append]; rfl
    have e2 := rHG_push CM L m
    unfold h23O
    simp only [isFin, ocA, ocL, cond_true]
    rw [e1, e2]
    cases L with
    | nil => exact (t23e s a p 0 m 1 _).trans (by rw [show en23 (oD s p 0 0 0 m [] 9 1 (rowG CM (fnR CM.df ([] ++ [m])))) s a = true from hp]; rfl)
    | cons x L => exact (t23f s a p (L.length + 1 : Nat) m (L.length + 1 + 1) (rowG CM (fnR CM.df (x :: L ++ [m])))).trans (by rw [show en23 (oD s p (L.length + 1 : Nat) 0 0 m [none] 10 (L.length + 1 + 1) (rowG CM (fnR CM.df (x :: L ++ [m])))) s a = true from hp]; rfl)
  | sep p m L =>
    have e1 : rA8 (L ++ [m]) = .row 8 6 0 (L.length + 1) := by
      cases L with
      | nil => rfl
      | cons x L => show AV.row 8 6 0 ((L ++ [m]).length + 1) = _; rw [List.length_append]; rfl
    have e2 := rHG_push CM L m
    unfold h23O
    simp only [isFin, ocA, ocE, ocF, ocL, cond_false]
    rw [e1, e2]
    cases L with
    | nil => exact (t23g s a p (noE s p) m 1 _).trans (by rw [show en23 (oE s p (noE s p) 0 0 m [] 9 1 (rowG CM (fnR CM.df ([] ++ [m])))) s a = true from hp]; rfl)
    | cons x L => exact (t23h s a p (noE s p) m (L.length + 1 + 1) (rowG CM (fnR CM.df (x :: L ++ [m])))).trans (by rw [show en23 (oE s p (noE s p) 0 0 m [none] 10 (L.length + 1 + 1) (rowG CM (fnR CM.df (x :: L ++ [m])))) s a = true from hp]; rfl)
def st5 (s : List UInt8) (a : Int) : St := { tm := tm5, ms := [], hp := [some (.cells [.str [], .nilsl]), some (.cells [.int .i64 0, .int .i64 0]), some (.cells [.str [], .nilsl]), some (.cells [.int .i64 0, .int .i64 0]), some (.cells [.int .i64 a]), some (.cells [.str s])] }
def o5 (x : AX) (s : List UInt8) (a e f : Int) (l : AV) (rows : Hp) : AX × St :=
  (x, { tm := tm5, ms := [6], hp := [some (.cells [.str [], .nilsl]), some (.cells [.int .i64 0, .int .i64 0]), some (.cells [.str [], l]), some (.cells [.int .i64 e, .int .i64 f]), some (.cells [.int .i64 a]), some (.cells [.str s]), some .dfr, none] ++ rows })
noncomputable def tr5 (s : List UInt8) (o : Oc) : T (AX × St) :=
  .br (isFin o) (.br (ocL o).isEmpty (.leaf (o5 .normal s (ocA o) 0 0 .nilsl [])) (.leaf (o5 .normal s (ocA o) 0 0 (.row 8 6 0 (ocL o).length) [rowM (ocL o).length (rowG CM (fnR CM.df (ocL o)))])))
    (.br (ocL o).isEmpty (.leaf (o5 (.exit 0) s (ocA o) (ocE s o) (ocF o) .nilsl [])) (.leaf (o5 (.exit 0) s (ocA o) (ocE s o) (ocF o) (.row 8 6 0 (ocL o).length) [rowM (ocL o).length (rowG CM (fnR CM.df (ocL o)))])))
noncomputable def oc5 (s : List UInt8) (o : Oc) : AX × St := bif isFin o then o5 .normal s (ocA o) 0 0 (rA8 (ocL o)) (rHG CM (ocL o)) else o5 (.exit 0) s (ocA o) (ocE s o) (ocF o) (rA8 (ocL o)) (rHG CM (ocL o))
theorem tr5_run (s : List UInt8) (o : Oc) : (tr5 s o).run = some (oc5 s o) := by
  unfold tr5 oc5
  generalize ocL o = L
  cases isFin o <;> cases L <;> rfl
open Classical in
noncomputable def D5 (st : St) : T (AX × St) := match st.hp with
  | _ :: _ :: _ :: _ :: some (.cells [.int .i64 a]) :: some (.cells [.str s]) :: _ => .chk (decide (st = st5 s (a.toNat : Nat) ∧ a.toNat ≤ s.length ∧ s.length ≤ 256)) (tr5 s (rgO s a.toNat))
  | _ => .fail
noncomputable def L5 : LoopT := fun k => match Nat.beq k 1050024 with
  | true => some D5
  | false => none
theorem rf5 : loopAt Tryd.prog 5 0 = .rangeFunc (rfF (loopAt Tryd.prog 5 0)) (rfP (loopAt Tryd.prog 5 0)) (rfA (loopAt Tryd.prog 5 0)) (rfB (loopAt Tryd.prog 5 0)) := by kernel_rfl
theorem rk5 : rkey (rfB (loopAt Tryd.prog 5 0)) = 1050024 := by kernel_rfl
theorem rv5 : aeval tm5 (rfF (loopAt Tryd.prog 5 0)) = .fn 23 [.ref 4 0, .ref 5 0] := by kernel_rfl
theorem rh5 (s : List UInt8) (a : Int) : (st5 s a).hp ++ [some .dfr] ++ [some (.loop 5 .ready none tm5 (rfP (loopAt Tryd.prog 5 0)) (rfA (loopAt Tryd.prog 5 0)) (rfB (loopAt Tryd.prog 5 0)) (st5 s a).hp.length)] = hp5 s a 0 0 .nilsl [] .ready none := by kernel_rfl
theorem re5a (s : List UInt8) (a b : Int) (l : AV) (rs : Hp) : rangeEnd ((st5 s a).hp.length + 1) ((st5 s a).hp.length :: (st5 s a).ms) tm5 (hR s b 0 0 l rs) = some (o5 .normal s b 0 0 l rs) := by kernel_rfl
theorem re5b (s : List UInt8) (a b e f : Int) (l : AV) (rs : Hp) : rangeEnd ((st5 s a).hp.length + 1) ((st5 s a).hp.length :: (st5 s a).ms) tm5 (hD s b e f l rs) = some (o5 (.exit 0) s b e f l rs) := by kernel_rfl
theorem l5 : LoopOk Tryd.prog tabA7.pf (fun n => hd Tryd.prog tabA7.pf tabA7.con.run (fun f => (hs5 f).to) n 9) h5.to 5 0 none L5 (loopAt Tryd.prog 5 0) := by
  rw [rf5]
  intro l hl st r hr
  have hl' : l = D5 := by
    rw [rk5] at hl
    simp only [L5] at hl
    exact (Option.some.inj hl).symm
  subst hl'
  unfold D5 at hr
  split at hr
  · rename_i _ _ _ _ a s _ hs
    rw [T.run_chk] at hr
    split at hr
    · rename_i hc
      simp only [decide_eq_true_eq] at hc
      obtain ⟨rfl, hb, hb2⟩ := hc
      rw [tr5_run] at hr
      simp only [Option.some.injEq] at hr
      subst hr
      obtain ⟨n0, h0⟩ := evFnT_le (H := fun n => hd Tryd.prog tabA7.pf tabA7.con.run (fun f => (hs5 f).to) n 8) (hdT_le (m := 20) 8) (within_at (oneLoop (by kernel_rfl) (l23 (out s (rgO s a.toNat))))) (run23 s a.toNat hb hb2)
      refine ⟨n0, fun n hn => ?_⟩
      have h0 := h0 n hn
      unfold evRange
      have he : enterable Tryd.prog 23 = true := by kernel_rfl
      have hcon : tabA7.con.run 23 = none := by kernel_rfl
      simp only [show (st5 s (a.toNat : Nat)).tm = tm5 from rfl, rv5, he, if_true, rh5, hd, hcon]
      have h1 : evFn Tryd.prog tabA7.pf (hd Tryd.prog tabA7.pf tabA7.con.run (fun f => (hs5 f).to) n 8) (hs5 23).to n 23 [AV.yield ((st5 s (a.toNat : Nat)).hp.length + 1), AV.ref 4 0, AV.ref 5 0] (hp5 s (a.toNat : Nat) 0 0 .nilsl [] .ready none) = some (.tup [], h23O s (rgO s a.toNat)) := h0
      rw [h1]
      generalize rgO s a.toNat = o
      unfold h23O oc5
      cases isFin o with
      | true => exact re5a s _ _ _ _
      | false => exact re5b s _ _ _ _ _ _
    · cases hr
  · cases hr
end Go.Mvs
namespace Go.Mvs
open Go Go.Proofs Go.Ab
set_option maxRecDepth 100000
set_option linter.unusedVariables false
set_option linter.unusedSimpArgs false

/-! ### Parse -/
noncomputable def ev5 (s : List UInt8) : Option (AV × Hp) := (evFnT Tryd.prog tabA7.pf (hdT Tryd.prog tabA7.pf tabA7.con hs5 20 9) h5 20 L5 5 [.str s] []).run
def er5 (v : List UInt8) (e fa : Int) : Option (AV × Hp) := some (.tup [.agg [.str v, .nilsl], .agg [.int .i64 e, .int .i64 fa]], [])
open Classical in
noncomputable def in5 (s : List UInt8) (a : Nat) : Bool := decide (st5 s (a : Int) = st5 s ((a : Int).toNat : Nat) ∧ (a : Int).toNat ≤ s.length ∧ s.length ≤ 256)
noncomputable def ok5 (L : List Mr) : Option (AV × Hp) := some (.tup [.agg [.str [], .row 0 6 0 L.length], .agg [.int .i64 0, .int .i64 0]], [rowM L.length (rowG CM (fnR CM.df L))])
noncomputable def af5 (s : List UInt8) (o : Oc) : Option (AV × Hp) :=
  bif isFin o then bif (ocL o).isEmpty then er5 [] 0 0 else ok5 (ocL o)
  else bif (ocL o).isEmpty then bif (ocE s o : Int) != 0 then er5 [] (ocE s o) (ocF o) else er5 [] 0 0
  else bif (ocE s o : Int) != 0 then er5 [] (ocE s o) (ocF o) else ok5 (ocL o)
noncomputable def sf5 (s : List UInt8) (a : Nat) : Option (AV × Hp) :=
  bif isEn en15 p15 [.str s, .int .i64 a] then er5 (softO s (a : Int).toNat).v (softO s (a : Int).toNat).e (softO s (a : Int).toNat).fa else none
noncomputable def rg5 (s : List UInt8) (a : Nat) : Option (AV × Hp) := bif in5 s a then af5 s (rgO s (a : Int).toNat) else none
theorem t5 (s : List UInt8) : ev5 s =
  bif decide ((s.length : Int) > 256) then er5 [] 12 256
  else bif at14 s 0 then
   bif ((fxN blB s (0 : Int).toNat : Nat) : Int) == (s.length : Int) then sf5 s (fxN blB s (0 : Int).toNat)
   else bif inD s (fxN blB s (0 : Int).toNat) then
    bif ch s (fxN blB s (0 : Int).toNat) != 91 then
     bif inD s (fxN blB s (0 : Int).toNat) then
      bif ch s (fxN blB s (0 : Int).toNat) != 40 then sf5 s (fxN blB s (0 : Int).toNat) else rg5 s (fxN blB s (0 : Int).toNat)
     else none
    else rg5 s (fxN blB s (0 : Int).toNat)
   else none
  else none := by kernel_rfl
structure Pv where
  v : List UInt8
  L : List Mr
  e : Nat
  fa : Nat
def bgn (s : List UInt8) : Nat := fxN blB s 0
def brk (s : List UInt8) (p : Nat) : Bool := decide (p < s.length) && (chI s p == 91 || chI s p == 40)
def prsM (s : List UInt8) : Pv :=
  bif decide (256 < s.length) then ⟨[], [], 12, 256⟩
  else bif brk s (bgn s) then bif ocE s (rgO s (bgn s)) != 0 then ⟨[], [], ocE s (rgO s (bgn s)), ocF (rgO s (bgn s))⟩ else ⟨[], ocL (rgO s (bgn s)), 0, 0⟩
  else ⟨(softO s (bgn s)).v, [], (softO s (bgn s)).e, (softO s (bgn s)).fa⟩
noncomputable def avV (v : List UInt8) (L : List Mr) : AV := .agg [.str v, .sl 6 L.length (rowG CM (fnG CM.df L))]
noncomputable def av5 (p : Pv) : AV := .tup [avV p.v p.L, .agg [.int .i64 (p.e : Int), .int .i64 (p.fa : Int)]]
theorem AW.agg2 {a b a' b' : AV} (h1 : AW a a') (h2 : AW b b') : AW (.agg [a, b]) (.agg [a', b']) := by
  simp only [AW, AWL]
  exact ⟨[a', b'], rfl, a', [b'], rfl, h1, b', [], rfl, h2, rfl⟩
theorem er_ok {x : Option (AV × Hp)} (v : List UInt8) (e fa : Nat) (h : x = er5 v e fa) : ∃ r0 h0 r1, x = some (r0, h0) ∧ frz (.tup [.agg [.any, .rows 6], .any]) h0 r0 = some r1 ∧ AW r1 (av5 ⟨v, [], e, fa⟩) :=
  ⟨_, _, _, h, rfl, AW.tup2 (AW.agg2 (AW.rfl' _) (nil_awG (C := CM) _)) (AW.rfl' _)⟩
theorem frz5 (n : Nat) (g : Nat → Nat → AV) : frz (.tup [.agg [.any, .rows 6], .any]) [some (.row 6 n g)] (.tup [.agg [.str [], .row 0 6 0 n], .agg [.int .i64 0, .int .i64 0]]) = some (.tup [.agg [.str [], .sl 6 n g], .agg [.int .i64 0, .int .i64 0]]) := by
  have e1 : frz (.rows 6) [some (.row 6 n g)] (.row 0 6 0 n) = some (.sl 6 n g) := by
    show (if 6 = 6 ∧ 6 = 6 ∧ 0 + n ≤ n then _ else none) = _
    rw [if_pos ⟨rfl, rfl, by omega⟩]
    rfl
  unfold frz frzL frz frzL
  simp only [frzL, e1, Option.bind_some, Option.map_some, show frz .any [some (.row 6 n g)] (.str []) = some (.str []) from rfl, show frz .any [some (.row 6 n g)] (.agg [.int .i64 0, .int .i64 0]) = some (.agg [.int .i64 0, .int .i64 0]) from rfl]
theorem ok_ok {x : Option (AV × Hp)} (m : Mr) (L : List Mr) (h : x = ok5 (m :: L)) : ∃ r0 h0 r1, x = some (r0, h0) ∧ frz (.tup [.agg [.any, .rows 6], .any]) h0 r0 = some r1 ∧ AW r1 (av5 ⟨[], m :: L, 0, 0⟩) :=
  ⟨_, _, _, h, frz5 _ _, AW.tup2 (AW.agg2 (AW.rfl' _) (row_awG (C := CM) (listG_fnR CM.df (m :: L)))) (AW.rfl' _)⟩
theorem af_ok {x : Option (AV × Hp)} (s : List UInt8) (o : Oc) (h : x = af5 s o) : ∃ r0 h0 r1, x = some (r0, h0) ∧ frz (.tup [.agg [.any, .rows 6], .any]) h0 r0 = some r1 ∧ AW r1 (av5 (bif ocE s o != 0 then ⟨[], [], ocE s o, ocF o⟩ else ⟨[], ocL o, 0, 0⟩)) := by
  unfold af5 at h
  rw [ne0] at h
  cases hf : isFin o with
  | true =>
    have he : ocE s o = 0 := by cases o <;> first | rfl | cases hf
    rw [hf, cond_true] at h
    rw [he]
    generalize ocL o = L at h ⊢
    cases L with
    | nil => exact er_ok [] 0 0 h
    | cons m L => exact ok_ok m L h
  | false =>
    rw [hf, cond_false] at h
    generalize ocL o = L at h ⊢
    cases he : (ocE s o != 0) with
    | true =>
      rw [he] at h
      simp only [cond_true] at h ⊢
      refine er_ok [] (ocE s o) (ocF o) (h.trans ?_)
      cases L <;> rfl
    | false =>
      rw [he] at h
      simp only [cond_false] at h ⊢
      cases L with
      | nil => exact er_ok [] 0 0 h
      | cons m L => exact ok_ok m L h
noncomputable def c5 : List AV → T AV
  | [.str s] => .leaf (av5 (prsM s))
  | _ => .fail
theorem s5 : Sound1 Tryd.prog ⟨5, true, pcon c5⟩ := by
  refine sound_frzW (m := 20) (k := 9) (hn := h5) (Λ := L5) (hs := hs5) (soundTab_of all_tabA7) (.tup [.agg [.any, .rows 6], .any]) (oneLoop (by kernel_rfl) l5) fun args r hF h => ?_
  unfold c5 at h
  split at h
  · rename_i s
    simp only [T.run_leaf, Option.some.injEq] at h
    subst h
    have ht := t5 s
    show ∃ r0 h0 r1, ev5 s = some (r0, h0) ∧ _
    unfold prsM
    by_cases h1 : 256 < s.length
    · rw [decide_eq_true (show (s.length : Int) > 256 by omega), cond_true] at ht
      rw [decide_eq_true h1, cond_true]
      exact er_ok [] 12 256 ht
    · have hb : s.length ≤ bnd := by simp only [bnd]; omega
      have hg : bgn s ≤ s.length := (fxN_le (q := blB) (Nat.zero_le _)).2
      have e0 : at14 s 0 = true := k14 s 0 ⟨Nat.zero_le _, hb⟩
      rw [decide_eq_false (show ¬ (s.length : Int) > 256 by omega), e0] at ht
      rw [decide_eq_false h1]
      simp only [cond_false, cond_true] at ht ⊢
      rw [show fxN blB s (0 : Int).toNat = bgn s from rfl] at ht
      have hsf : sf5 s (bgn s) = er5 (softO s (bgn s)).v (softO s (bgn s)).e (softO s (bgn s)).fa := by
        unfold sf5
        rw [k15 s (bgn s) ⟨hg, hb⟩, Int.toNat_natCast]
        rfl
      have hrg : rg5 s (bgn s) = af5 s (rgO s (bgn s)) := by
        unfold rg5
        have hin : in5 s (bgn s) = true := by
          unfold in5
          rw [Int.toNat_natCast]
          simp only [decide_eq_true_eq]
          exact ⟨trivial, hg, by omega⟩
        rw [hin, Int.toNat_natCast]
        rfl
      rw [hsf, hrg] at ht
      unfold brk
      by_cases h2 : bgn s = s.length
      · rw [show (((bgn s : Nat) : Int) == (s.length : Int)) = true by rw [beq_iff_eq]; omega, cond_true] at ht
        rw [decide_eq_false (show ¬ bgn s < s.length by omega)]
        exact er_ok _ _ _ ht
      · rw [show (((bgn s : Nat) : Int) == (s.length : Int)) = false by rw [beq_eq_false_iff_ne]; omega, cond_false, show inD s (bgn s) = true from decide_eq_true (by omega), ch_I, show (chI s (bgn s) != 91) = !(chI s (bgn s) == 91) from rfl, show (chI s (bgn s) != 40) = !(chI s (bgn s) == 40) from rfl] at ht
        rw [decide_eq_true (show bgn s < s.length by omega)]
        cases h91 : (chI s (bgn s) == 91) with
        | true =>
          rw [h91] at ht
          exact af_ok s _ ht
        | false =>
          rw [h91] at ht
          cases h40 : (chI s (bgn s) == 40) with
          | true =>
            rw [h40] at ht
            exact af_ok s _ ht
          | false =>
            rw [h40] at ht
            exact er_ok _ _ _ ht
  · cases h
noncomputable def tabB1 : Tab := ⟨5, true, pcon c5⟩ :: tabA7
theorem all_tabB1 : ∀ e, e ∈ tabB1 → Sound1 Tryd.prog e := sound_mem_tab s5 all_tabA7
end Go.Mvs

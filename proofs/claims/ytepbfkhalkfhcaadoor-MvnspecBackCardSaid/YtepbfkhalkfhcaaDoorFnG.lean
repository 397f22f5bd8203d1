/- Lemmas for the claims of this seat (a verified symbolic evaluator, and contracts of functions): own work; no condition. -/
import Derived.Test.YtepbfkhalkfhcaaDoorFnF
import Derived.Test.YtepbfkhalkfhcaaDoorEvF
import Derived.Test.YtepbfkhalkfhcaaDoorEvE
import Derived.Test.YtepbfkhalkfhcaaDoorCards
import Derived.Test.YtepbfkhalkfhcaaDoorTie
import Derived.WalkKit
import Derived.ProofKit
import Derived.OpenShut
import Derived.Deep.DeepHandedRow
import Derived.Lib.LaidTab
namespace Go.Mvs
open Go Go.Proofs Go.Ab
set_option maxRecDepth 100000
set_option linter.unusedVariables false
set_option linter.unusedSimpArgs false

/-! ### print and parse: one range -/
def nB (q : UInt8 → Bool) (t : List UInt8) : Prop := ∀ c r, t = c :: r → q c = false
theorem nB_nil (q : UInt8 → Bool) : nB q [] := fun c r h => by cases h
theorem nB_cons {q : UInt8 → Bool} {c : UInt8} {t : List UInt8} (h : q c = false) : nB q (c :: t) := fun c' r e => by cases e; exact h
theorem tw_take {q : UInt8 → Bool} {w t : List UInt8} (hw : ∀ b ∈ w, q b = true) (ht : nB q t) : (w ++ t).takeWhile q = w := by
  rw [List.takeWhile_append_of_pos hw]
  cases t with
  | nil => simp
  | cons c r => rw [List.takeWhile_cons_of_neg (by simp [ht c r rfl])]; simp
theorem fx_take {q : UInt8 → Bool} {s w t : List UInt8} {p : Nat} (h : s.drop p = w ++ t) (hw : ∀ b ∈ w, q b = true) (ht : nB q t) : fxN q s p = p + w.length := by
  unfold fxN; rw [h, tw_take hw ht]
theorem fx_stay {q : UInt8 → Bool} {s t : List UInt8} {p : Nat} (h : s.drop p = t) (ht : nB q t) : fxN q s p = p :=
  fx_take (w := []) h (fun b hb => by cases hb) ht
theorem ch_at {s t : List UInt8} {p : Nat} {c : UInt8} (h : s.drop p = c :: t) : p < s.length ∧ chI s p = c.toNat := by
  have hl : p < s.length := by
    have := congrArg List.length h
    simp only [List.length_drop, List.length_cons] at this
    omega
  refine ⟨hl, ?_⟩
  rw [List.drop_eq_getElem_cons hl] at h
  cases h
  unfold chI
  rw [List.getD_eq_getElem?_getD, List.getElem?_eq_getElem hl]
  rfl
theorem dr_step {s w t : List UInt8} {p : Nat} (h : s.drop p = w ++ t) : s.drop (p + w.length) = t := by
  rw [← List.drop_drop, h, List.drop_left]
theorem dr_one {s t : List UInt8} {p : Nat} {c : UInt8} (h : s.drop p = c :: t) : s.drop (p + 1) = t := dr_step (w := [c]) h
theorem u8_of {b : UInt8} {n : Nat} (h : b.toNat = n) : b = UInt8.ofNat n := by rw [← h]; simp
theorem bl_wd {b : UInt8} (h : wdB b = true) : blB b = false := by
  cases hb : blB b with
  | false => rfl
  | true =>
    unfold blB blC at hb
    simp only [Bool.or_eq_true, beq_iff_eq] at hb
    rcases hb with h1 | h1
    · have := u8_of (show b.toNat = 32 by omega)
      rw [this] at h; exact absurd h (by decide)
    · have := u8_of (show b.toNat = 9 by omega)
      rw [this] at h; exact absurd h (by decide)
def wOk (h : Bool) (v : List UInt8) : Prop := (h = true ∧ okT v = true ∧ ∀ b ∈ v, wdB b = true) ∨ (h = false ∧ v = [])
theorem wOk_all {h : Bool} {v : List UInt8} (w : wOk h v) : ∀ b ∈ v, wdB b = true := by
  rcases w with ⟨_, _, h⟩ | ⟨_, h⟩
  · exact h
  · rw [h]; intro b hb; cases hb
theorem wOk_ne {h : Bool} {v : List UInt8} (w : wOk h v) : (!(v == [])) = h := by
  rcases w with ⟨h1, h2, _⟩ | ⟨h1, h2⟩
  · rw [h1]
    unfold okT at h2
    cases hv : (v == [])
    · rfl
    · rw [hv] at h2; simp at h2
  · rw [h1, h2]; rfl
theorem okT_nil : okT [] = false := rfl
theorem okT_len {v : List UInt8} (h : okT v = true) : v.length ≤ 64 := by
  unfold okT at h
  simp only [Bool.and_eq_true, Bool.not_eq_true', decide_eq_false_iff_not] at h
  omega
theorem wOk_len {h : Bool} {v : List UInt8} (w : wOk h v) : v.length ≤ 64 := by
  rcases w with ⟨_, h, _⟩ | ⟨_, h⟩
  · exact okT_len h
  · rw [h]; simp
theorem nB_word {v t : List UInt8} {c : UInt8} (hv : ∀ b ∈ v, wdB b = true) (hc : blB c = false) : nB blB (v ++ c :: t) := by
  cases v with
  | nil => exact nB_cons hc
  | cons b r => exact nB_cons (bl_wd (hv b (List.mem_cons_self)))
theorem vr_at {s v t : List UInt8} {p : Nat} {hl : Bool} (h : s.drop p = v ++ t) (ht : nB wdB t) (hv : wOk hl v) : vrS s p = v ∧ vrE s p = p + v.length ∧ vrF s p = 0 := by
  have e1 : vwS s p = v := by unfold vwS; rw [h, tw_take (wOk_all hv) ht]
  have e2 : fxN wdB s p = p + v.length := fx_take h (wOk_all hv) ht
  unfold vrS vrE vrF
  rw [e1, e2]
  rcases hv with ⟨_, h2, _⟩ | ⟨_, h2⟩
  · rw [h2]
    refine ⟨rfl, rfl, ?_⟩
    cases (v == []) <;> rfl
  · rw [h2]
    exact ⟨rfl, rfl, rfl⟩
structure Gd (m : Mr) : Prop where
  l : wOk m.hl m.lo
  h : wOk m.hh m.hi
  c : m.hl = true → m.hh = true → cmpM m.lo m.hi ≤ 0 ∧ (cmpM m.lo m.hi = 0 → m.li = true ∧ m.ui = true)
theorem clO_long {m : Mr} (hm : Gd m) (a p : Nat) : clO a true m p = ⟨m, p + 1, 0, 0⟩ := by
  obtain ⟨hl, lo, li, hh, hi, ui⟩ := m
  have hc := hm.c
  simp only at hc
  unfold clO
  simp only [Bool.not_true, cond_false]
  cases hl
  · rfl
  · cases hh
    · rfl
    · obtain ⟨h1, h2⟩ := hc rfl rfl
      rw [decide_eq_false (show ¬ cmpM lo hi > 0 by omega)]
      cases h0 : (cmpM lo hi == 0) with
      | false => rfl
      | true =>
        obtain ⟨h3, h4⟩ := h2 (by simpa using h0)
        rw [h3, h4]; rfl
theorem wrd_short {m : Mr} (h : (m.hl && (m.hh && (m.lo == m.hi && (m.li && m.ui)))) = true) : wrdM m = 91 :: (m.lo ++ [93]) := by
  unfold wrdM
  rw [h]
  simp only [Bool.and_eq_true] at h
  rw [h.2.2.2.1, h.2.2.2.2]
  rfl
theorem wrd_long {m : Mr} (h : (m.hl && (m.hh && (m.lo == m.hi && (m.li && m.ui)))) = false) : wrdM m = (bif m.li then 91 else 40) :: (m.lo ++ 44 :: (m.hi ++ [bif m.ui then 93 else 41])) := by
  unfold wrdM
  rw [h]
  cases m.li <;> cases m.ui <;> simp
theorem one_print {s t : List UInt8} {a : Nat} {m : Mr} (hm : Gd m) (h : s.drop a = wrdM m ++ t) : oneO s a = ⟨m, a + (wrdM m).length, 0, 0⟩ := by
  have hl := hm.l
  have hh := hm.h
  cases hs : (m.hl && (m.hh && (m.lo == m.hi && (m.li && m.ui)))) with
  | true =>
    have ew := wrd_short hs
    simp only [Bool.and_eq_true, beq_iff_eq] at hs
    obtain ⟨s1, s2, s3, s4, s5⟩ := hs
    rw [ew] at h
    replace h : s.drop a = 91 :: (m.lo ++ 93 :: t) := by rw [h]; simp
    have c0 := ch_at h
    have d1 := dr_one h
    have f1 := fx_stay d1 (nB_word (wOk_all hl) (by decide))
    obtain ⟨v1, v2, v3⟩ := vr_at d1 (nB_cons (by decide)) hl
    have d2 := dr_step d1
    have f2 := fx_stay d2 (nB_cons (q := blB) (by decide))
    have c2 := ch_at d2
    have hc := hm.c s1 s2
    rw [← s3] at hc
    unfold oneO
    rw [decide_eq_true c0.1, c0.2, show (((91 : UInt8).toNat : Int) == 91) = true from rfl, f1]
    simp only [Bool.true_and, Bool.true_or, cond_true]
    unfold bgO
    rw [v1, v2, v3, f2, decide_eq_true c2.1, c2.2, show (((93 : UInt8).toNat : Int) == 44) = false from rfl]
    simp only [bne_self_eq_false, cond_false, Bool.and_false]
    unfold finO
    rw [decide_eq_true c2.1, c2.2, show (((93 : UInt8).toNat : Int) == 93) = true from rfl]
    simp only [Bool.true_and, Bool.true_or, cond_true]
    rw [wOk_ne hl, s1]
    unfold clO
    simp only [Bool.not_false, Bool.not_true, cond_true, cond_false]
    rw [decide_eq_false (show ¬ cmpM m.lo m.lo > 0 by omega), ew]
    obtain ⟨hl', lo, li, hh', hi, ui⟩ := m
    simp only at s1 s2 s3 s4 s5
    subst s1 s2 s3 s4 s5
    cases (cmpM lo lo == 0) <;> simp <;> omega
  | false =>
    have ew := wrd_long hs
    rw [ew] at h
    replace h : s.drop a = (bif m.li then 91 else 40) :: (m.lo ++ 44 :: (m.hi ++ (bif m.ui then 93 else 41) :: t)) := by rw [h]; simp
    have c0 := ch_at h
    have d1 := dr_one h
    have f1 := fx_stay d1 (nB_word (wOk_all hl) (by decide))
    obtain ⟨v1, v2, v3⟩ := vr_at d1 (nB_cons (by decide)) hl
    have d2 := dr_step d1
    have f2 := fx_stay d2 (nB_cons (q := blB) (by decide))
    have c2 := ch_at d2
    have d3 := dr_one d2
    have hu : blB (bif m.ui then 93 else 41) = false := by cases m.ui <;> decide
    have hu2 : wdB (bif m.ui then 93 else 41) = false := by cases m.ui <;> decide
    have f3 := fx_stay d3 (nB_word (wOk_all hh) hu)
    obtain ⟨w1, w2, w3⟩ := vr_at d3 (nB_cons hu2) hh
    have d4 := dr_step d3
    have f4 := fx_stay d4 (nB_cons (q := blB) hu)
    have c4 := ch_at d4
    have e0 : (chI s a == 91 || chI s a == 40) = true := by rw [c0.2]; cases m.li <;> rfl
    have e0' : (chI s a == 91) = m.li := by rw [c0.2]; cases m.li <;> rfl
    unfold oneO
    rw [decide_eq_true c0.1, e0, e0', f1]
    simp only [Bool.true_and, cond_true]
    unfold bgO
    rw [v1, v2, v3, f2, decide_eq_true c2.1, c2.2, show (((44 : UInt8).toNat : Int) == 44) = true from rfl]
    simp only [bne_self_eq_false, cond_false, Bool.and_true, cond_true]
    unfold cmO
    rw [f3, w1, w2, w3, v1, f4, wOk_ne hl, wOk_ne hh]
    simp only [bne_self_eq_false, cond_false]
    unfold finO
    have e4 : (chI s (a + 1 + m.lo.length + 1 + m.hi.length) == 93 || chI s (a + 1 + m.lo.length + 1 + m.hi.length) == 41) = true := by rw [c4.2]; cases m.ui <;> rfl
    have e4' : (chI s (a + 1 + m.lo.length + 1 + m.hi.length) == 93) = m.ui := by rw [c4.2]; cases m.ui <;> rfl
    rw [decide_eq_true c4.1, e4, e4']
    simp only [Bool.true_and, cond_true]
    rw [clO_long hm, ew]
    simp only [List.length_cons, List.length_append, List.length_nil, On.mk.injEq, true_and, and_true]
    omega
theorem vr_good {s : List UInt8} {p : Nat} (h : vrF s p = 0) : wOk (!(vrS s p == [])) (vrS s p) ∧ vrE s p = p + (vrS s p).length := by
  unfold vrF at h
  unfold vrS vrE
  cases hk : okT (vwS s p) with
  | true =>
    simp only [cond_true]
    refine ⟨Or.inl ⟨?_, hk, ?_⟩, rfl⟩
    · cases hv : (vwS s p == [])
      · rfl
      · rw [show vwS s p = [] by simpa using hv] at hk; cases hk
    · intro b hb
      unfold vwS at hb
      exact (List.all_eq_true.mp (List.all_takeWhile (p := wdB) (l := s.drop p))) b hb
  | false =>
    exact ⟨Or.inr ⟨rfl, rfl⟩, rfl⟩
theorem fx_ge {q : UInt8 → Bool} (s : List UInt8) (p : Nat) : p ≤ fxN q s p := by unfold fxN; omega
theorem clO_good {a p : Nat} {cm : Bool} {m : Mr} (hl : wOk m.hl m.lo) (hh : cm = true → wOk m.hh m.hi) (h : (clO a cm m p).f = 0) :
    Gd (clO a cm m p).m ∧ (clO a cm m p).e = p + 1 ∧ (wrdM (clO a cm m p).m).length ≤ m.lo.length + (bif cm then 1 + m.hi.length else 0) + 2 := by
  obtain ⟨hl', lo, li, hh', hi, ui⟩ := m
  simp only at hl hh
  unfold clO at h ⊢
  cases cm with
  | false =>
    simp only [Bool.not_false, cond_true] at h ⊢
    cases hl' with
    | false => cases h
    | true =>
    cases li with
    | false => cases h
    | true =>
    cases ui with
    | false => cases h
    | true =>
    simp only [Bool.not_true, cond_true, cond_false] at h ⊢
    by_cases hp : cmpM lo lo > 0
    · rw [decide_eq_true hp] at h; cases h
    · rw [decide_eq_false hp] at h ⊢
      have g : Gd ⟨true, lo, true, true, lo, true⟩ := ⟨hl, hl, fun _ _ => ⟨by simp only; omega, fun _ => ⟨rfl, rfl⟩⟩⟩
      have w : (wrdM ⟨true, lo, true, true, lo, true⟩).length = lo.length + 0 + 2 := by
        rw [wrd_short (by simp)]; simp
      cases (cmpM lo lo == 0)
      · exact ⟨g, rfl, Nat.le_of_eq w⟩
      · exact ⟨g, rfl, Nat.le_of_eq w⟩
  | true =>
    have hh := hh rfl
    have w : (wrdM ⟨hl', lo, li, hh', hi, ui⟩).length ≤ lo.length + (1 + hi.length) + 2 := by
      cases hs : ((⟨hl', lo, li, hh', hi, ui⟩ : Mr).hl && ((⟨hl', lo, li, hh', hi, ui⟩ : Mr).hh && ((⟨hl', lo, li, hh', hi, ui⟩ : Mr).lo == (⟨hl', lo, li, hh', hi, ui⟩ : Mr).hi && ((⟨hl', lo, li, hh', hi, ui⟩ : Mr).li && (⟨hl', lo, li, hh', hi, ui⟩ : Mr).ui)))) with
      | true => rw [wrd_short hs]; simp
      | false => rw [wrd_long hs]; simp; omega
    simp only [Bool.not_true, cond_true, cond_false] at h ⊢
    cases hl' with
    | false => exact ⟨⟨hl, hh, fun e => by cases e⟩, rfl, w⟩
    | true =>
    cases hh' with
    | false => exact ⟨⟨hl, hh, fun _ e => by cases e⟩, rfl, w⟩
    | true =>
    simp only [cond_true] at h ⊢
    by_cases hp : cmpM lo hi > 0
    · rw [decide_eq_true hp] at h; cases h
    · rw [decide_eq_false hp] at h ⊢
      cases h0 : (cmpM lo hi == 0) with
      | false =>
        have h0 : cmpM lo hi ≠ 0 := by simpa using h0
        exact ⟨⟨hl, hh, fun _ _ => ⟨Int.not_lt.mp hp, fun e => absurd e h0⟩⟩, rfl, w⟩
      | true =>
        rw [h0] at h
        cases li with
        | false => cases h
        | true =>
        cases ui with
        | false => cases h
        | true => exact ⟨⟨hl, hh, fun _ _ => ⟨Int.not_lt.mp hp, fun _ => ⟨rfl, rfl⟩⟩⟩, rfl, w⟩
theorem finO_good {s : List UInt8} {a p : Nat} {cm hl li hh : Bool} {lo hi : List UInt8} (h1 : wOk hl lo) (h2 : cm = true → wOk hh hi) (h : (finO s a cm hl lo li hh hi p).f = 0) :
    Gd (finO s a cm hl lo li hh hi p).m ∧ (finO s a cm hl lo li hh hi p).e = p + 1 ∧ (wrdM (finO s a cm hl lo li hh hi p).m).length ≤ lo.length + (bif cm then 1 + hi.length else 0) + 2 := by
  unfold finO at h ⊢
  cases hc : (decide (p < s.length) && (chI s p == 93 || chI s p == 41)) with
  | false => rw [hc, cond_false] at h; exact absurd h (noE_ne s p)
  | true =>
    rw [hc, cond_true] at h
    rw [cond_true]
    exact clO_good (m := ⟨hl, lo, li, hh, hi, _⟩) h1 h2 h
theorem one_good {s : List UInt8} {a : Nat} (h : (oneO s a).f = 0) : Gd (oneO s a).m ∧ a + (wrdM (oneO s a).m).length ≤ (oneO s a).e := by
  unfold oneO at h ⊢
  cases hc : (decide (a < s.length) && (chI s a == 91 || chI s a == 40)) with
  | false => rw [hc, cond_false] at h; exact absurd h (noE_ne s a)
  | true =>
    rw [hc, cond_true] at h
    rw [cond_true]
    have g1 := fx_ge (q := blB) s (a + 1)
    generalize fxN blB s (a + 1) = p1 at h g1 ⊢
    unfold bgO at h ⊢
    cases hv : (vrF s p1 != 0) with
    | true => rw [hv, cond_true] at h; rw [show vrF s p1 = 0 from h] at hv; cases hv
    | false =>
      obtain ⟨w1, w2⟩ := vr_good (s := s) (p := p1) (by simpa using hv)
      rw [hv, cond_false] at h
      rw [cond_false]
      have g2 := fx_ge (q := blB) s (vrE s p1)
      cases hk : (decide (fxN blB s (vrE s p1) < s.length) && chI s (fxN blB s (vrE s p1)) == 44) with
      | false =>
        rw [hk, cond_false] at h
        rw [cond_false]
        obtain ⟨q1, q2, q3⟩ := finO_good (hh := false) w1 (fun e => by cases e) h
        refine ⟨q1, ?_⟩
        rw [q2]
        simp only [cond_false] at q3
        omega
      | true =>
        rw [hk, cond_true] at h
        rw [cond_true]
        have g3 := fx_ge (q := blB) s (fxN blB s (vrE s p1) + 1)
        generalize fxN blB s (fxN blB s (vrE s p1) + 1) = p3 at h g3 ⊢
        unfold cmO at h ⊢
        cases hu : (vrF s p3 != 0) with
        | true => rw [hu, cond_true] at h; rw [show vrF s p3 = 0 from h] at hu; cases hu
        | false =>
          obtain ⟨x1, x2⟩ := vr_good (s := s) (p := p3) (by simpa using hu)
          rw [hu, cond_false] at h
          rw [cond_false]
          have g4 := fx_ge (q := blB) s (vrE s p3)
          obtain ⟨q1, q2, q3⟩ := finO_good (cm := true) w1 (fun _ => x1) h
          refine ⟨q1, ?_⟩
          rw [q2]
          simp only [cond_true] at q3
          omega
end Go.Mvs
namespace Go.Mvs
open Go Go.Proofs Go.Ab
set_option maxRecDepth 100000
set_option linter.unusedVariables false
set_option linter.unusedSimpArgs false

/-! ### Fit and Text told -/
theorem rgR_len (s : List UInt8) : ∀ m a la L, (ocL (rgR s m a la L)).length ≤ L.length + m + 1
  | 0, a, la, L => by
    show (L ++ [la]).length ≤ _
    rw [List.length_append]
    simp only [List.length_cons, List.length_nil]
    omega
  | m + 1, a, la, L => by
    unfold rgR
    cases hp : rg1 s a la L with
    | some o =>
      have : (ocL o).length ≤ L.length + 1 := by
        unfold rg1 at hp
        revert hp
        cases ((decide (a < s.length) && (chI s a == 91 || chI s a == 40)) && L.length == 32)
        · cases ((oneO s a).f == 0 && (decide (0 < L.length) && !folO la (oneO s a).m))
          · cases ((oneO s a).f != 0)
            · cases (fxN blB s (oneO s a).e == s.length)
              · cases (chI s (fxN blB s (oneO s a).e) != 44)
                · intro h; cases h
                · intro h
                  simp only [cond_true, cond_false, Option.some.injEq] at h
                  subst h
                  simp [ocL]
              · intro h
                simp only [cond_true, cond_false, Option.some.injEq] at h
                subst h
                simp [ocL]
            · intro h
              simp only [cond_true, cond_false, Option.some.injEq] at h
              subst h
              simp [ocL]
          · intro h
            simp only [cond_true, cond_false, Option.some.injEq] at h
            subst h
            simp [ocL]
        · intro h
          simp only [cond_true, Option.some.injEq] at h
          subst h
          simp [ocL]
      simp only
      omega
    | none =>
      have := rgR_len s m (nxA s a) (oneO s a).m (L ++ [(oneO s a).m])
      rw [List.length_append] at this
      simp only [List.length_cons, List.length_nil] at this ⊢
      omega
theorem prs_len (s : List UInt8) : (prsM s).L.length ≤ 300 := by
  unfold prsM
  by_cases h : 256 < s.length
  · rw [decide_eq_true h]; simp
  · rw [decide_eq_false h]
    have h2 := rgR_len s (s.length + 1 - bgn s) (bgn s) zM []
    replace h2 : (ocL (rgO s (bgn s))).length ≤ 0 + (s.length + 1 - bgn s) + 1 := h2
    simp only [cond_false]
    cases brk s (bgn s)
    · simp
    · simp only [cond_true]
      cases (ocE s (rgO s (bgn s)) != 0)
      · simp only [cond_false]; omega
      · simp
def fitM (v : List UInt8) (n : Nat) (f : Nat → Mr) : Bool :=
  bif n == 0 then (prsM v).e == 0 && ((prsM v).v == v && (prsM v).L.length == 0)
  else v == [] && (decide (n ≤ 32) && (!decide (fbad (okR f) n 0 < n) && ((prsM (txM v (lsM f n 0))).e == 0 && eqR (fnG CM.df (prsM (txM v (lsM f n 0))).L) f (prsM (txM v (lsM f n 0))).L.length n)))
theorem eqi0 (n : Nat) : ((n : Int) == 0) = (n == 0) := by
  rw [Bool.eq_iff_iff, beq_iff_eq, beq_iff_eq]; omega
theorem okR_gd {f : Nat → Mr} {i : Nat} (h : okR f i = true) : Gd (f i) := by
  unfold okR at h
  simp only [Bool.and_eq_true, beq_iff_eq] at h
  have := (one_good h.1).1
  rwa [← (beqM_iff _ _).mp h.2.1] at this
theorem gd_len {m : Mr} (h : Gd m) : (wrdM m).length ≤ 131 := by
  have l1 := wOk_len h.l
  have l2 := wOk_len h.h
  cases hs : (m.hl && (m.hh && (m.lo == m.hi && (m.li && m.ui)))) with
  | true => rw [wrd_short hs]; simp; omega
  | false => rw [wrd_long hs]; simp; omega
theorem tx_len {f : Nat → Mr} {n : Nat} (hn : n ≤ 32) (h : ∀ i, i < n → Gd (f i)) : (txM [] (lsM f n 0)).length ≤ 281474976710656 := by
  have hj := join_len 131 ((lsM f n 0).map wrdM) fun w hm => by
    obtain ⟨p, hp, rfl⟩ := List.mem_map.1 hm
    obtain ⟨j, _, hj, rfl⟩ := lsM_mem f n 0 p hp
    exact gd_len (h j (by omega))
  rw [List.length_map, lsM_len] at hj
  have : n * 132 ≤ 32 * 132 := Nat.mul_le_mul_right _ hn
  unfold txM wdsM
  cases n with
  | zero => simp [lsM, joinS_one]
  | succ n =>
    show (joinS ([] ++ (lsM f (n + 1) 0).map wrdM) [44]).length ≤ _
    rw [List.nil_append]; omega
theorem all_gd {f : Nat → Mr} {n : Nat} (h : ¬ fbad (okR f) n 0 < n) : ∀ i, i < n → Gd (f i) := fun i hi =>
  okR_gd ((fbad_iff (okR f) n 0).mp (by rwa [Nat.zero_add]) i (Nat.zero_le _) (by omega))
def prF : X10 → Prop := fun ⟨v, n, f⟩ => v.length ≤ 140737488351232 ∧ smM f n
theorem kF (v : List UInt8) (n : Nat) (f : Nat → Mr) (h : v.length ≤ 140737488351232 ∧ smM f n) : isEn en10 prF [.agg [.str v, .sl 6 n (rowG CM f)]] = true := isEn_true (enc := en10) (p := prF) ⟨v, n, f⟩ h
theorem fit_ok {v : List UInt8} {n : Nat} {f : Nat → Mr} (hf : smM f n) : (evn tabB4 h4 L4 4 [.agg [.str v, .sl 6 n (rowG CM f)]] []).run = some (.bool (fitM v n f), []) := by
  refine (u4 v n f).trans ?_
  unfold fitM
  rw [eqi0, eqi0, eqi0, unG_rowG okCM, Nat.sub_zero]
  cases hn0 : (n == 0) with
  | true =>
    simp only [cond_true]
    cases ((prsM v).e == 0)
    · rfl
    · cases ((prsM v).v == v) <;> rfl
  | false =>
    simp only [cond_false]
    cases hv0 : (v == []) with
    | false => rfl
    | true =>
      have hv1 : v = [] := by simpa using hv0
      simp only [Bool.not_true, cond_false, Bool.true_and]
      by_cases h32 : n ≤ 32
      · rw [decide_eq_false (show ¬ (n : Int) > 32 by omega), decide_eq_true h32, show isEn e4 p4 ([.ref 0 0, .sl 6 n (rowG CM f), .int .i64 n, .int .i64 0], [some (.cells [.str v, .sl 6 n (rowG CM f)])]) = true from isEn_true (enc := e4) (p := p4) ⟨v, n, f, 0⟩ ⟨Nat.zero_le _, h32, hf⟩]
        simp only [cond_false, cond_true, Bool.true_and]
        by_cases hb : fbad (okR f) n 0 < n
        · rw [decide_eq_true hb]; rfl
        · rw [decide_eq_false hb]
          unfold af4
          have hl := prs_len (txM v (lsM f n 0))
          rw [k10' v n f ⟨by omega, hf, by rw [hv1]; exact tx_len h32 (all_gd hb)⟩, eqi0, k12 _ _ n f (show (prsM (txM v (lsM f n 0))).L.length ≤ bnd by simp only [bnd]; omega), unG_rowG okCM]
          simp only [cond_false, cond_true, Bool.not_false, Bool.true_and]
          cases ((prsM (txM v (lsM f n 0))).e == 0) <;> rfl
      · rw [decide_eq_true (show (n : Int) > 32 by omega), decide_eq_false h32]
        rfl
theorem fit_tx {v : List UInt8} {n : Nat} {f : Nat → Mr} (hv : v.length ≤ 140737488351232) (hf : smM f n) (h : fitM v n f = true) : n ≤ 1048576 ∧ smM f n ∧ (txM v (lsM f n 0)).length ≤ 281474976710656 := by
  unfold fitM at h
  cases hn0 : (n == 0) with
  | true =>
    have hn : n = 0 := by simpa using hn0
    subst hn
    refine ⟨by omega, hf, ?_⟩
    unfold txM wdsM lsM
    simp only [List.isEmpty_nil, Bool.not_true, Bool.and_false, cond_false, List.map_nil, List.append_nil]
    rw [joinS_one]; omega
  | false =>
    rw [hn0, cond_false] at h
    simp only [Bool.and_eq_true, beq_iff_eq, decide_eq_true_eq, Bool.not_eq_true', decide_eq_false_iff_not] at h
    obtain ⟨h1, h2, h3, _⟩ := h
    rw [h1]
    exact ⟨by omega, hf, tx_len h2 (all_gd h3)⟩
def rs4 : X10 → T AV := fun ⟨v, n, f⟩ => .leaf (.bool (fitM v n f))
noncomputable def c4 : List AV → T AV := ccon en10 de10 prF rs4
theorem s4 : Sound1 Tryd.prog ⟨4, true, pcon c4⟩ := by
  refine sound_c (soundTab_of all_tabB4) H0 in10 (hn := h4) (m := 20) (k := 9) (Λ := L4) (oneLoop (by kernel_rfl) l4) ?_
  rintro ⟨v, n, f⟩ ⟨h1, h2⟩ hF
  exact fit_ok h2
noncomputable def tabB5 : Tab := ⟨4, true, pcon c4⟩ :: tabB4
theorem all_tabB5 : ∀ e, e ∈ tabB5 → Sound1 Tryd.prog e := sound_mem_tab s4 all_tabB4
theorem u6 (v : List UInt8) (n : Nat) (f : Nat → Mr) : (evn tabB5 h6 noLoops 6 [.agg [.str v, .sl 6 n (rowG CM f)]] []).run =
  bif isEn en10 prF [.agg [.str v, .sl 6 n (rowG CM f)]] then
   bif !fitM v n (unG CM (rowG CM f)) then some (.str [], [])
   else bif isEn en10 pr10 [.agg [.str v, .sl 6 n (rowG CM f)]] then some (.str (txM v (lsM (unG CM (rowG CM f)) n 0)), []) else none
  else none := by kernel_rfl
def rs6 : X10 → T AV := fun ⟨v, n, f⟩ => .leaf (.str (bif fitM v n f then txM v (lsM f n 0) else []))
noncomputable def c6 : List AV → T AV := ccon en10 de10 prF rs6
theorem s6 : Sound1 Tryd.prog ⟨6, true, pcon c6⟩ := by
  refine sound_c (soundTab_of all_tabB5) H0 in10 (hn := h6) (m := 20) (k := 9) (Λ := noLoops) (fun i hi => anyLoops) ?_
  rintro ⟨v, n, f⟩ ⟨h1, h2⟩ hF
  refine (u6 v n f).trans ?_
  rw [kF v n f ⟨h1, h2⟩, unG_rowG okCM]
  show _ = some (AV.str (bif fitM v n f then txM v (lsM f n 0) else []), ([] : Hp))
  cases hfit : fitM v n f with
  | false => rfl
  | true => rw [k10' v n f (fit_tx h1 h2 hfit)]; rfl
noncomputable def tabB6 : Tab := ⟨6, true, pcon c6⟩ :: tabB5
theorem all_tabB6 : ∀ e, e ∈ tabB6 → Sound1 Tryd.prog e := sound_mem_tab s6 all_tabB5
end Go.Mvs
namespace Go.Mvs
open Go Go.Proofs Go.Ab
set_option maxRecDepth 100000
set_option linter.unusedVariables false
set_option linter.unusedSimpArgs false

/-! ### print and parse: the ranges -/
def tlM : List Mr → Nat
  | [] => 0
  | m :: L => (wrdM m).length + 1 + tlM L
theorem tlM_app (m : Mr) : ∀ L, tlM (L ++ [m]) = tlM L + (wrdM m).length + 1
  | [] => by simp [tlM]
  | x :: L => by simp only [List.cons_append, tlM, tlM_app m L]; omega
theorem join_tl : ∀ L : List Mr, L ≠ [] → (joinS (L.map wrdM) [44]).length + 1 = tlM L
  | [], h => absurd rfl h
  | [m], _ => by
    show (joinS [wrdM m] [44]).length + 1 = _
    rw [joinS_one]; simp [tlM]
  | m :: m' :: L, _ => by
    have := join_tl (m' :: L) (by simp)
    rw [List.map_cons, joinS_cons _ (by simp), List.length_append, List.length_cons, tlM]
    omega
structure GdL (L : List Mr) : Prop where
  g : ∀ i, i < L.length → Gd (fnG CM.df L i)
  c : ∀ i, 0 < i → i < L.length → folO (fnG CM.df L (i - 1)) (fnG CM.df L i) = true
theorem fnG_app1 {d m : Mr} {L : List Mr} {i : Nat} (h : i < L.length) : fnG d (L ++ [m]) i = fnG d L i := by
  unfold fnG
  rw [List.getD_eq_getElem?_getD, List.getD_eq_getElem?_getD, List.getElem?_append_left h]
theorem fnG_app2 {d m : Mr} {L : List Mr} : fnG d (L ++ [m]) L.length = m := by
  unfold fnG
  rw [List.getD_eq_getElem?_getD, List.getElem?_append_right (Nat.le_refl _)]
  simp
theorem GdL_nil : GdL [] := ⟨fun i h => (by cases h), fun i _ h => (by cases h)⟩
theorem GdL_push {L : List Mr} {m : Mr} (h : GdL L) (hm : Gd m) (hf : 0 < L.length → folO (fnG CM.df L (L.length - 1)) m = true) : GdL (L ++ [m]) := by
  refine ⟨fun i hi => ?_, fun i h0 hi => ?_⟩
  · rw [List.length_append, List.length_singleton] at hi
    by_cases e : i = L.length
    · rw [e, fnG_app2]; exact hm
    · rw [fnG_app1 (by omega)]; exact h.g i (by omega)
  · rw [List.length_append, List.length_singleton] at hi
    by_cases e : i = L.length
    · rw [e, fnG_app2, fnG_app1 (by omega)]
      exact hf (by omega)
    · rw [fnG_app1 (by omega), fnG_app1 (by omega)]; exact h.c i h0 (by omega)
theorem rg1_cases (s : List UInt8) (a : Nat) (la : Mr) (L : List Mr) :
    (∃ o, rg1 s a la L = some o ∧ (ocE s o = 0 → ∃ p, o = .fin p (oneO s a).m L ∧ p = s.length ∧ (oneO s a).e ≤ p ∧ (oneO s a).f = 0 ∧ (0 < L.length → folO la (oneO s a).m = true) ∧ L.length ≠ 32)) ∨
    (rg1 s a la L = none ∧ (oneO s a).f = 0 ∧ (0 < L.length → folO la (oneO s a).m = true) ∧ L.length ≠ 32 ∧ (oneO s a).e + 1 ≤ nxA s a) := by
  unfold rg1
  cases h1 : ((decide (a < s.length) && (chI s a == 91 || chI s a == 40)) && L.length == 32) with
  | true => exact .inl ⟨_, rfl, fun h => by cases h⟩
  | false =>
  rw [cond_false]
  cases h2 : ((oneO s a).f == 0 && (decide (0 < L.length) && !folO la (oneO s a).m)) with
  | true => exact .inl ⟨_, rfl, fun h => by cases h⟩
  | false =>
  rw [cond_false]
  cases h3 : ((oneO s a).f != 0) with
  | true => exact .inl ⟨_, rfl, fun h => by rw [show (oneO s a).f = 0 from h] at h3; cases h3⟩
  | false =>
  have hf : (oneO s a).f = 0 := by simpa using h3
  have hfo : 0 < L.length → folO la (oneO s a).m = true := by
    intro h
    rw [hf, decide_eq_true h] at h2
    simpa using h2
  have h32 : L.length ≠ 32 := by
    intro e
    rw [e] at h1
    unfold oneO at hf
    cases hc : (decide (a < s.length) && (chI s a == 91 || chI s a == 40)) with
    | true => rw [hc] at h1; cases h1
    | false => rw [hc, cond_false] at hf; exact absurd hf (noE_ne s a)
  rw [cond_false]
  have g1 := fx_ge (q := blB) s (oneO s a).e
  cases h4 : (fxN blB s (oneO s a).e == s.length) with
  | true => exact .inl ⟨_, rfl, fun _ => ⟨_, rfl, by simpa using h4, g1, hf, hfo, h32⟩⟩
  | false =>
  rw [cond_false]
  cases h5 : (chI s (fxN blB s (oneO s a).e) != 44) with
  | true => exact .inl ⟨_, rfl, fun h => absurd h (noE_ne s _)⟩
  | false =>
  have g2 := fx_ge (q := blB) s (fxN blB s (oneO s a).e + 1)
  refine .inr ⟨rfl, hf, hfo, h32, ?_⟩
  unfold nxA
  omega
theorem rgR_good (s : List UInt8) : ∀ k a la (L : List Mr), a ≤ s.length → s.length - a < k → GdL L → (0 < L.length → la = fnG CM.df L (L.length - 1)) → L.length ≤ 32 → tlM L ≤ a → ocE s (rgR s k a la L) = 0 →
    GdL (ocL (rgR s k a la L)) ∧ (ocL (rgR s k a la L)).length ≤ 32 ∧ 0 < (ocL (rgR s k a la L)).length ∧ tlM (ocL (rgR s k a la L)) ≤ s.length + 1
  | 0, a, la, L, _, h, _, _, _, _, _ => by omega
  | k + 1, a, la, L, h0, hk, hg, hla, h32, ht, he => by
    unfold rgR at he ⊢
    rcases rg1_cases s a la L with ⟨o, e1, e2⟩ | ⟨e1, hf, hfo, hn, hx⟩
    · rw [e1] at he ⊢
      obtain ⟨p, q1, q2, q3, hf, hfo, hn⟩ := e2 he
      subst q1
      obtain ⟨g1, g2⟩ := one_good hf
      refine ⟨GdL_push hg g1 fun h => ?_, ?_, ?_, ?_⟩
      · rw [← hla h]; exact hfo h
      · show (L ++ [_]).length ≤ 32
        rw [List.length_append, List.length_singleton]; omega
      · show 0 < (L ++ [_]).length
        rw [List.length_append, List.length_singleton]; omega
      · show tlM (L ++ [_]) ≤ _
        rw [tlM_app]; omega
    · rw [e1] at he ⊢
      obtain ⟨g1, g2⟩ := one_good hf
      obtain ⟨r1, r2, _⟩ := rg1_none h0 e1
      refine rgR_good s k _ _ _ r2 (by omega) (GdL_push hg g1 fun h => ?_) (fun _ => ?_) ?_ ?_ he
      · rw [← hla h]; exact hfo h
      · rw [List.length_append, List.length_singleton, Nat.add_sub_cancel, fnG_app2]
      · rw [List.length_append, List.length_singleton]; omega
      · rw [tlM_app]; omega
theorem bgn_le (s : List UInt8) : bgn s ≤ s.length := (fxN_le (q := blB) (Nat.zero_le _)).2
theorem rgO_good {s : List UInt8} (h : ocE s (rgO s (bgn s)) = 0) : GdL (ocL (rgO s (bgn s))) ∧ (ocL (rgO s (bgn s))).length ≤ 32 ∧ 0 < (ocL (rgO s (bgn s))).length ∧ tlM (ocL (rgO s (bgn s))) ≤ s.length + 1 :=
  rgR_good s _ _ _ [] (bgn_le s) (by have := bgn_le s; omega) GdL_nil (fun h => by cases h) (by simp) (Nat.zero_le _) h
theorem wrd_begin (m : Mr) : ∃ t, wrdM m = (bif m.li then 91 else 40) :: t := by
  unfold wrdM
  cases m.li
  · exact ⟨_, rfl⟩
  · exact ⟨_, rfl⟩
theorem li_b (b : Bool) : blB (bif b then 91 else 40) = false := by cases b <;> decide
theorem join_begin (m : Mr) (M : List Mr) : ∃ t, joinS ((m :: M).map wrdM) [44] = (bif m.li then 91 else 40) :: t := by
  obtain ⟨t, ht⟩ := wrd_begin m
  cases M with
  | nil => exact ⟨t, by show joinS [wrdM m] [44] = _; rw [joinS_one, ht]⟩
  | cons x M => rw [List.map_cons, joinS_cons _ (by simp), ht]; exact ⟨_, rfl⟩
theorem rgR_print (s : List UInt8) : ∀ (M Lp : List Mr) k a la, M ≠ [] → s.drop a = joinS (M.map wrdM) [44] → s.length - a < k → GdL (Lp ++ M) → (Lp ++ M).length ≤ 32 → (0 < Lp.length → la = fnG CM.df (Lp ++ M) (Lp.length - 1)) →
    ∃ p m L, rgR s k a la Lp = .fin p m L ∧ L ++ [m] = Lp ++ M
  | [], _, _, _, _, h, _, _, _, _, _ => absurd rfl h
  | m :: M, Lp, 0, _, _, _, _, h, _, _, _ => by omega
  | m :: M, Lp, k + 1, a, la, _, hd, hk, hg, h32, hla => by
    have hm : fnG CM.df (Lp ++ m :: M) Lp.length = m := by
      unfold fnG
      rw [List.getD_eq_getElem?_getD, List.getElem?_append_right (Nat.le_refl _)]
      simp
    have hlen : (Lp ++ m :: M).length = Lp.length + (M.length + 1) := by simp
    have gm : Gd m := by
      have := hg.g Lp.length (by omega)
      rwa [hm] at this
    have hfo : (decide (0 < Lp.length) && !folO la m) = false := by
      by_cases h : 0 < Lp.length
      · have := hg.c Lp.length h (by omega)
        rw [hm, ← hla h] at this
        rw [this]; simp
      · rw [decide_eq_false h]; rfl
    have h31 : (Lp.length == 32) = false := by
      rw [hlen] at h32
      simp only [beq_eq_false_iff_ne]; omega
    unfold rgR
    cases M with
    | nil =>
      rw [show joinS ([m].map wrdM) [44] = wrdM m from joinS_one _] at hd
      have o1 := one_print (t := []) gm (by rw [hd, List.append_nil])
      have d1 : s.drop (a + (wrdM m).length) = [] := dr_step (t := []) (by rw [hd, List.append_nil])
      have f1 := fx_stay d1 (nB_nil blB)
      have hl : a + (wrdM m).length = s.length := by
        have := congrArg List.length hd
        rw [List.length_drop] at this
        obtain ⟨t, ht⟩ := wrd_begin m
        have : 0 < (wrdM m).length := by rw [ht]; simp
        omega
      refine ⟨s.length, m, Lp, ?_, rfl⟩
      have : rg1 s a la Lp = some (.fin s.length m Lp) := by
        unfold rg1
        rw [o1]
        simp only
        rw [h31, f1, hl, hfo]
        simp
      rw [this]
    | cons m' M =>
      rw [List.map_cons, joinS_cons _ (by simp)] at hd
      have o1 := one_print gm hd
      have d1 := dr_step hd
      have f1 := fx_stay d1 (nB_cons (q := blB) (by decide))
      have c1 := ch_at d1
      have d2 := dr_one d1
      obtain ⟨t, ht⟩ := join_begin m' M
      have f2 := fx_stay d2 (ht ▸ nB_cons (q := blB) (li_b m'.li))
      have : rg1 s a la Lp = none := by
        unfold rg1
        rw [o1]
        simp only
        rw [h31, f1, hfo, c1.2, show (a + (wrdM m).length == s.length) = false by simp only [beq_eq_false_iff_ne]; omega]
        simp
      rw [this]
      have nx : nxA s a = a + (wrdM m).length + 1 := by
        unfold nxA
        rw [o1]
        simp only
        rw [f1, f2]
      rw [o1, nx]
      have ea : Lp ++ m :: m' :: M = (Lp ++ [m]) ++ m' :: M := by simp
      rw [ea] at hg h32 hla hm
      obtain ⟨p, x, L, q1, q2⟩ := rgR_print s (m' :: M) (Lp ++ [m]) k (a + (wrdM m).length + 1) m (by simp) d2 (by omega) hg h32 (fun _ => by
        rw [List.length_append, List.length_singleton, Nat.add_sub_cancel, hm])
      exact ⟨p, x, L, q1, by rw [q2, ea]⟩
theorem txM_nil {L : List Mr} (h : L ≠ []) : txM [] L = joinS (L.map wrdM) [44] := by
  unfold txM wdsM
  cases L with
  | nil => exact absurd rfl h
  | cons m L => rfl
theorem prs_print {L : List Mr} (h : L ≠ []) (hg : GdL L) (h32 : L.length ≤ 32) (ht : tlM L ≤ 257) : prsM (txM [] L) = ⟨[], L, 0, 0⟩ := by
  have hj := join_tl L h
  rw [txM_nil h]
  cases L with
  | nil => exact absurd rfl h
  | cons m M =>
    obtain ⟨t, hb⟩ := join_begin m M
    have d0 : (joinS ((m :: M).map wrdM) [44]).drop 0 = (bif m.li then 91 else 40) :: t := by rw [List.drop_zero, hb]
    have f0 : bgn (joinS ((m :: M).map wrdM) [44]) = 0 := fx_stay d0 (nB_cons (li_b _))
    have c0 := ch_at d0
    obtain ⟨p, x, L', q1, q2⟩ := rgR_print (joinS ((m :: M).map wrdM) [44]) (m :: M) [] ((joinS ((m :: M).map wrdM) [44]).length + 1 - 0) 0 zM h rfl (by omega) hg h32 (fun h => by cases h)
    have e : rgO (joinS ((m :: M).map wrdM) [44]) 0 = .fin p x L' := q1
    unfold prsM
    rw [f0, e, decide_eq_false (by omega)]
    have hbk : brk (joinS ((m :: M).map wrdM) [44]) 0 = true := by
      unfold brk
      rw [decide_eq_true c0.1, c0.2]
      cases m.li <;> rfl
    rw [hbk]
    show (⟨[], L' ++ [x], 0, 0⟩ : Pv) = _
    rw [q2]; rfl
theorem prs_fa {s : List UInt8} (h : (prsM s).e = 0) : (prsM s).fa = 0 := by
  unfold prsM at h ⊢
  by_cases hl : 256 < s.length
  · rw [decide_eq_true hl] at h; cases h
  rw [decide_eq_false hl, cond_false] at h ⊢
  cases hb : brk s (bgn s) with
  | true =>
    rw [hb, cond_true] at h
    rw [cond_true]
    cases h3 : (ocE s (rgO s (bgn s)) != 0) with
    | true => rw [h3, cond_true] at h; rw [show ocE s (rgO s (bgn s)) = 0 from h] at h3; cases h3
    | false => rfl
  | false =>
    rw [hb, cond_false] at h
    rw [cond_false]
    replace h : (softO s (bgn s)).e = 0 := h
    show (softO s (bgn s)).fa = 0
    unfold softO at h ⊢
    cases h1 : (vrF s (bgn s) != 0) with
    | true => rw [h1, cond_true] at h; rw [show vrF s (bgn s) = 0 from h] at h1; cases h1
    | false =>
    rw [h1, cond_false] at h
    rw [cond_false]
    cases h2 : (vrS s (bgn s) == []) with
    | true => rw [h2, cond_true] at h; exact absurd h (noE_ne _ _)
    | false =>
    rw [h2, cond_false] at h
    rw [cond_false]
    cases h4 : decide (fxN blB s (vrE s (bgn s)) < s.length) with
    | true => rw [h4, cond_true] at h; exact absurd h (noE_ne _ _)
    | false => rfl
/-- What a text that is read is: a word, or ranges. -/
theorem prs_good {s : List UInt8} (h : (prsM s).e = 0) : (wOk true (prsM s).v ∧ (prsM s).L = []) ∨ ((prsM s).v = [] ∧ (prsM s).L ≠ [] ∧ GdL (prsM s).L ∧ (prsM s).L.length ≤ 32 ∧ tlM (prsM s).L ≤ 257) := by
  unfold prsM at h ⊢
  by_cases hl : 256 < s.length
  · rw [decide_eq_true hl] at h; cases h
  rw [decide_eq_false hl, cond_false] at h ⊢
  cases hb : brk s (bgn s) with
  | true =>
    rw [hb, cond_true] at h
    rw [cond_true]
    cases h3 : (ocE s (rgO s (bgn s)) != 0) with
    | true => rw [h3, cond_true] at h; rw [show ocE s (rgO s (bgn s)) = 0 from h] at h3; cases h3
    | false =>
      obtain ⟨g1, g2, g3, g4⟩ := rgO_good (s := s) (by simpa using h3)
      refine .inr ⟨rfl, ?_, g1, g2, ?_⟩
      · intro e
        rw [show ocL (rgO s (bgn s)) = [] from e] at g3; cases g3
      · show tlM (ocL (rgO s (bgn s))) ≤ 257
        omega
  | false =>
    rw [hb, cond_false] at h
    rw [cond_false]
    replace h : (softO s (bgn s)).e = 0 := h
    refine .inl ⟨?_, rfl⟩
    show wOk true (softO s (bgn s)).v
    unfold softO at h ⊢
    cases h1 : (vrF s (bgn s) != 0) with
    | true => rw [h1, cond_true] at h; rw [show vrF s (bgn s) = 0 from h] at h1; cases h1
    | false =>
    obtain ⟨w1, w2⟩ := vr_good (s := s) (p := bgn s) (by simpa using h1)
    rw [h1, cond_false] at h
    rw [cond_false]
    cases h2 : (vrS s (bgn s) == []) with
    | true => rw [h2, cond_true] at h; exact absurd h (noE_ne _ _)
    | false =>
    rw [h2] at w1
    rw [h2, cond_false] at h
    rw [cond_false]
    cases h4 : decide (fxN blB s (vrE s (bgn s)) < s.length) with
    | true => rw [h4, cond_true] at h; exact absurd h (noE_ne _ _)
    | false => exact w1
theorem prs_soft {v : List UInt8} (h : wOk true v) : prsM v = ⟨v, [], 0, 0⟩ := by
  have hn := wOk_ne h
  have hlen := wOk_len h
  have d0 : v.drop 0 = v ++ [] := by simp
  have hb : nB blB v := by
    intro c r e
    exact bl_wd (wOk_all h c (by rw [e]; exact List.mem_cons_self))
  have f0 : bgn v = 0 := fx_stay (t := v) (by simp) hb
  obtain ⟨v1, v2, v3⟩ := vr_at d0 (nB_nil wdB) h
  have d1 : v.drop (0 + v.length) = [] := dr_step d0
  have f1 := fx_stay d1 (nB_nil blB)
  have hbk : brk v 0 = false := by
    unfold brk
    cases v with
    | nil => rfl
    | cons c r =>
      have hc := wOk_all h c List.mem_cons_self
      rw [(ch_at (s := c :: r) (p := 0) rfl).2]
      cases h91 : (((c.toNat : Nat) : Int) == 91) with
      | true =>
        have : c = 91 := u8_of (n := 91) (by have := (beq_iff_eq).mp h91; omega)
        rw [this] at hc; exact absurd hc (by decide)
      | false =>
        cases h40 : (((c.toNat : Nat) : Int) == 40) with
        | true =>
          have : c = 40 := u8_of (n := 40) (by have := (beq_iff_eq).mp h40; omega)
          rw [this] at hc; exact absurd hc (by decide)
        | false => simp
  unfold prsM
  rw [decide_eq_false (by omega), f0, hbk]
  show (⟨(softO v 0).v, [], (softO v 0).e, (softO v 0).fa⟩ : Pv) = _
  have : softO v 0 = ⟨v, 0, 0⟩ := by
    unfold softO
    rw [v1, v2, v3, f1, show (v == []) = false by simpa using hn, decide_eq_false (by omega)]
    rfl
  rw [this]
theorem eqR_refl (f : Nat → Mr) (n : Nat) : eqR f f n n = true := (eqR_iff f f n n).mpr ⟨rfl, fun _ _ => rfl⟩
theorem fit_prs {s : List UInt8} (h : (prsM s).e = 0) : fitM (prsM s).v (prsM s).L.length (fnG CM.df (prsM s).L) = true := by
  rcases prs_good h with ⟨h1, h2⟩ | ⟨h1, h2, h3, h4, h5⟩
  · rw [h2]
    unfold fitM
    rw [prs_soft h1]
    simp
  · rw [h1]
    generalize (prsM s).L = L at h2 h3 h4 h5
    have hn : (L.length == 0) = false := by
      cases L with
      | nil => exact absurd rfl h2
      | cons a b => rfl
    unfold fitM
    rw [hn, lsM_fnG CM.df L L.length 0 (by omega), List.drop_zero, prs_print h2 h3 h4 h5, decide_eq_true h4]
    simp only [cond_false, BEq.rfl, Bool.true_and, eqR_refl, Bool.and_true]
    have : ¬ fbad (okR (fnG CM.df L)) L.length 0 < L.length := by
      have := (fbad_iff (okR (fnG CM.df L)) L.length 0).mpr fun j _ hj => by
        unfold okR
        rw [tx_one, one_print (t := []) (h3.g j (by omega)) (by rw [List.drop_zero, List.append_nil]), (beqM_iff _ _).mpr rfl]
        simp only [BEq.rfl, Bool.true_and]
        by_cases h0 : j = 0
        · rw [h0]; rfl
        · rw [h3.c j (by omega) (by omega)]; simp
      rwa [Nat.zero_add] at this
    rw [decide_eq_false this]; rfl
theorem txM_soft (v : List UInt8) (f : Nat → Mr) : txM v (lsM f 0 0) = v := by
  unfold txM wdsM lsM
  simp only [List.isEmpty_nil, Bool.not_true, Bool.and_false, cond_false, List.map_nil, List.append_nil]
  exact joinS_one v
theorem eqR_symm {f g : Nat → Mr} {n m : Nat} (h : eqR f g n m = true) : eqR g f m n = true := by
  obtain ⟨h1, h2⟩ := (eqR_iff f g n m).mp h
  exact (eqR_iff g f m n).mpr ⟨h1.symm, fun i hi => (h2 i (by omega)).symm⟩
theorem fit_back {v : List UInt8} {n : Nat} {f : Nat → Mr} (h : fitM v n f = true) : (prsM (txM v (lsM f n 0))).e = 0 ∧ eqV v (prsM (txM v (lsM f n 0))).v f (fnG CM.df (prsM (txM v (lsM f n 0))).L) n (prsM (txM v (lsM f n 0))).L.length = true := by
  unfold fitM at h
  cases hn : (n == 0) with
  | true =>
    rw [hn, cond_true] at h
    simp only [Bool.and_eq_true, beq_iff_eq] at h
    have hn : n = 0 := by simpa using hn
    subst hn
    rw [txM_soft]
    refine ⟨h.1, ?_⟩
    unfold eqV
    rw [h.2.1, h.2.2]
    simp only [BEq.rfl, Bool.true_and]
    exact (eqR_iff _ _ _ _).mpr ⟨rfl, fun i hi => by omega⟩
  | false =>
    rw [hn, cond_false] at h
    simp only [Bool.and_eq_true, beq_iff_eq] at h
    obtain ⟨h1, h2, h3, h4, h5⟩ := h
    refine ⟨h4, ?_⟩
    have hx := eqR_symm h5
    have hl := ((eqR_iff _ _ _ _).mp hx).1
    unfold eqV
    rw [hx, Bool.and_true]
    rcases prs_good h4 with ⟨_, g2⟩ | ⟨g1, _⟩
    · rw [g2] at hl
      simp only [beq_eq_false_iff_ne] at hn
      simp only [List.length_nil] at hl
      omega
    · rw [g1, h1]; rfl
theorem prs_sm {s : List UInt8} (h : (prsM s).e = 0) : smM (fnG CM.df (prsM s).L) (prsM s).L.length := by
  intro j hj
  rcases prs_good h with ⟨_, g2⟩ | ⟨_, _, g, _⟩
  · rw [g2] at hj; cases hj
  · have := g.g j hj
    have l1 := wOk_len this.l
    have l2 := wOk_len this.h
    omega
theorem prs_v {s : List UInt8} (h : (prsM s).e = 0) : (prsM s).v.length ≤ 64 := by
  rcases prs_good h with ⟨g, _⟩ | ⟨g, _⟩
  · exact wOk_len g
  · rw [g]; simp
end Go.Mvs
namespace Go.Mvs
open Go Go.Proofs Go.Ab
set_option maxRecDepth 100000
set_option linter.unusedVariables false
set_option linter.unusedSimpArgs false

/-! ### awake and the law -/
noncomputable abbrev at10 (v : List UInt8) (n : Nat) (f : Nat → Nat → AV) : Bool := isEn en10 prF [.agg [.str v, .sl 6 n f]]
noncomputable abbrev rwP (s : List UInt8) : Nat → Nat → AV := rowG CM (fnG CM.df (prsM s).L)
theorem u8 : (evn tabB6 h8 noLoops 8 [] []).run =
  bif at10 [49, 46, 48] 0 (rwP [49, 46, 48]) then
   bif at10 [] 1 (rwP [91, 49, 46, 48, 44, 50, 46, 48, 41]) then
    bif at10 [] 1 (rwP [91, 49, 46, 48, 44, 50, 46, 48, 41]) then
     bif at10 [] 1 (rwP [91, 49, 46, 48, 93]) then
      bif at10 [] 2 (rwP [40, 44, 49, 46, 48, 93, 44, 91, 49, 46, 50, 44, 41]) then some (.bool true, []) else none
     else none
    else none
   else none
  else none := by kernel_rfl
theorem at_ex (s : List UInt8) (v : List UInt8) (n : Nat) (hv : v.length ≤ 64) (he : (prsM s).e = 0) (hn : (prsM s).L.length = n) : at10 v n (rwP s) = true := by
  subst hn
  exact kF v _ _ ⟨by omega, prs_sm he⟩
theorem ex1 : (prsM [49, 46, 48]).e = 0 ∧ (prsM [49, 46, 48]).L.length = 0 := ⟨by kernel_rfl, by kernel_rfl⟩
theorem ex2 : (prsM [91, 49, 46, 48, 44, 50, 46, 48, 41]).e = 0 ∧ (prsM [91, 49, 46, 48, 44, 50, 46, 48, 41]).L.length = 1 := ⟨by kernel_rfl, by kernel_rfl⟩
theorem ex3 : (prsM [91, 49, 46, 48, 93]).e = 0 ∧ (prsM [91, 49, 46, 48, 93]).L.length = 1 := ⟨by kernel_rfl, by kernel_rfl⟩
theorem ex4 : (prsM [40, 44, 49, 46, 48, 93, 44, 91, 49, 46, 50, 44, 41]).e = 0 ∧ (prsM [40, 44, 49, 46, 48, 93, 44, 91, 49, 46, 50, 44, 41]).L.length = 2 := ⟨by kernel_rfl, by kernel_rfl⟩
theorem t8 : (evn tabB6 h8 noLoops 8 [] []).run = some (.bool true, []) := by
  rw [u8, at_ex _ _ 0 (by decide) ex1.1 ex1.2, at_ex _ _ 1 (by decide) ex2.1 ex2.2, at_ex _ _ 1 (by decide) ex3.1 ex3.2, at_ex _ _ 2 (by decide) ex4.1 ex4.2]
  rfl
def c8 : List AV → T AV
  | [] => .leaf (.bool true)
  | _ => .fail
theorem s8 : Sound1 Tryd.prog ⟨8, true, pcon c8⟩ := by
  refine sound_pureH (m := 20) (k := 9) (hn := h8) (Λ := noLoops) (soundTab_of all_tabB6) H0 (fun i hi => anyLoops) fun args r hF h => ?_
  unfold c8 at h
  split at h
  · rw [t8]; cases h; rfl
  · cases h
noncomputable def tabB7 : Tab := ⟨8, true, pcon c8⟩ :: tabB6
theorem all_tabB7 : ∀ e, e ∈ tabB7 → Sound1 Tryd.prog e := sound_mem_tab s8 all_tabB6
theorem ok_tabB7 : SoundTab Tryd.prog tabB7 := soundTab_of all_tabB7
noncomputable abbrev lf (b : Bool) : Option (AV × Hp) := some (.bool b, [])
noncomputable def tail3 (s : List UInt8) : Option (AV × Hp) :=
  bif ((prsM s).e : Int) != 0 then lf true
  else bif at10 (prsM s).v (prsM s).L.length (rwP s) then bif fitM (prsM s).v (prsM s).L.length (unG CM (rwP s)) then lf true else lf false else none
noncomputable abbrev tx3 (v : List UInt8) (n : Nat) (f : Nat → Mr) : List UInt8 := bif fitM v n (unG CM (rowG CM f)) then txM v (lsM (unG CM (rowG CM f)) n 0) else []
theorem u3 (v : List UInt8) (n : Nat) (f : Nat → Mr) (s : List UInt8) : (evn tabB7 h3 noLoops 3 [.agg [.str v, .sl 6 n (rowG CM f)], .str s] []).run =
  bif at10 v n (rowG CM f) then
   bif fitM v n (unG CM (rowG CM f)) then
    bif at10 v n (rowG CM f) then
     bif !(((prsM (tx3 v n f)).e : Int) == 0 && (((prsM (tx3 v n f)).fa : Int) == 0 && true)) then lf false
     else
      bif isEn en7 pr7 [.agg [.str v, .sl 6 n (rowG CM f)], .agg [.str (prsM (tx3 v n f)).v, .sl 6 (prsM (tx3 v n f)).L.length (rwP (tx3 v n f))]] then
       bif !eqV v (prsM (tx3 v n f)).v (unG CM (rowG CM f)) (unG CM (rwP (tx3 v n f))) n (prsM (tx3 v n f)).L.length then lf false
       else tail3 s
      else none
    else none
   else tail3 s
  else none := by kernel_rfl
theorem tail_ok (s : List UInt8) : tail3 s = lf true := by
  unfold tail3
  cases he : (((prsM s).e : Int) != 0) with
  | true => rfl
  | false =>
    have h0 : (prsM s).e = 0 := by
      have : ((prsM s).e : Int) = 0 := by simpa using he
      omega
    rw [cond_false, at_ex s _ _ (prs_v h0) h0 rfl, cond_true, unG_rowG okCM, fit_prs h0]
    rfl
theorem tree3 (v : List UInt8) (n : Nat) (f : Nat → Mr) (s : List UInt8) (hv : v.length ≤ 140737488351232) (hn : n ≤ bnd) (hf : smM f n) : (evn tabB7 h3 noLoops 3 [.agg [.str v, .sl 6 n (rowG CM f)], .str s] []).run = some (.bool true, []) := by
  rw [u3, show at10 v n (rowG CM f) = true from kF v n f ⟨hv, hf⟩]
  rw [tail_ok]
  unfold tx3
  rw [unG_rowG okCM]
  cases hfit : fitM v n f with
  | false => rfl
  | true =>
    obtain ⟨b1, b2⟩ := fit_back hfit
    simp only [cond_true]
    rw [prs_fa b1, b1, k7 v n f _ _ _ hn, unG_rowG okCM, b2]
    rfl
end Go.Mvs
namespace Go.Mvs
open Go Go.Proofs Go.ChangeShapes Go.WideShapes Go.Ab Go.Deep
set_option linter.unusedVariables false
set_option linter.unusedSimpArgs false
/-! ### Arguments that are requirements -/
def datM {H : Type} (k : Mr) : DataW H := .agg [.lit (.bool k.hl), .lit (.string k.lo), .lit (.bool k.li), .lit (.bool k.hh), .lit (.string k.hi), .lit (.bool k.ui)]
def relM (k : Mr) (cs : List Value) : Prop := ∃ lo hi : ByteArray, k.lo = lo.data.toList ∧ k.hi = hi.data.toList ∧ cs = [.bool k.hl, .string lo, .bool k.li, .bool k.hh, .string hi, .bool k.ui]
def smlM (k : Mr) : Prop := k.lo.length ≤ bnd ∧ k.hi.length ≤ bnd
section
variable {P : Program} {H : Type} {enc : TypeId × Value → H} {W : World}
theorem rec_mr {base : Nat} {sp : Nat → Bool} {held : Bool} {e : TypeId} {f0 f1 f2 f3 f4 f5 : Field} (he : P.underlying e = some (.struct #[f0, f1, f2, f3, f4, f5]))
    (h0 : P.underlying f0.type = some .bool) (h1 : P.underlying f1.type = some .string) (h2 : P.underlying f2.type = some .bool) (h3 : P.underlying f3.type = some .bool) (h4 : P.underlying f4.type = some .string) (h5 : P.underlying f5.type = some .bool)
    (o0 : f0.offset = 0) (o1 : f1.offset = 1) (o2 : f2.offset = 2) (o3 : f3.offset = 3) (o4 : f4.offset = 4) (o5 : f5.offset = 5)
    (c0 : P.cellsOf f0.type = 1) (c1 : P.cellsOf f1.type = 1) (c2 : P.cellsOf f2.type = 1) (c3 : P.cellsOf f3.type = 1) (c4 : P.cellsOf f4.type = 1) (c5 : P.cellsOf f5.type = 1)
    (n : Nat) (cs : List Value) (x : DataW H × List MemPlace) (hl : cs.length = CM.sz) (h : DataW.trod enc P W base sp held n e cs = some x) : ∃ k, x.1 = datM k ∧ relM k cs := by
  obtain ⟨xs, n, rfl, hx, hl', hlen, hf⟩ := DataW.trod_struct he h
  match xs, hlen, cs, hl with
  | [y0, y1, y2, y3, y4, y5], _, [a0, a1, a2, a3, a4, a5], _ =>
    have g0 := hf 0 f0 rfl
    have g1 := hf 1 f1 rfl
    have g2 := hf 2 f2 rfl
    have g3 := hf 3 f3 rfl
    have g4 := hf 4 f4 rfl
    have g5 := hf 5 f5 rfl
    simp only [o0, o1, o2, o3, o4, o5, c0, c1, c2, c3, c4, c5, List.drop_zero, List.take_succ_cons, List.take_zero, List.drop_succ_cons, List.getElem?_cons_zero, List.getElem?_cons_succ] at g0 g1 g2 g3 g4 g5
    obtain ⟨x0, rfl, w0⟩ := trod_bool_at h0 g0
    obtain ⟨x1, rfl, w1⟩ := trod_str_at h1 g1
    obtain ⟨x2, rfl, w2⟩ := trod_bool_at h2 g2
    obtain ⟨x3, rfl, w3⟩ := trod_bool_at h3 g3
    obtain ⟨x4, rfl, w4⟩ := trod_str_at h4 g4
    obtain ⟨x5, rfl, w5⟩ := trod_bool_at h5 g5
    refine ⟨⟨x0, x1.data.toList, x2, x3, x4.data.toList, x5⟩, ?_, x1, x4, rfl, rfl, rfl⟩
    have := (Prod.mk.inj hx).1
    rw [this]
    simp [datM, w0, w1, w2, w3, w4, w5]
theorem V_mr (k : Mr) (cs : List Value) (h : relM k cs) (hs : smlM k) (c : Nat) (hc : c < CM.sz) : ∃ u, cs[c]? = some u ∧ Go.Ab.one u = true ∧ V (fun _ => False) W (fun _ => none) ((CM.enc k).getD c .junk) u := by
  obtain ⟨lo, hi, e1, e2, rfl⟩ := h
  obtain ⟨s1, s2⟩ := hs
  have hc : c < 6 := hc
  have vs : ∀ (x : List UInt8) (y : ByteArray), x = y.data.toList → x.length ≤ bnd → V (fun _ => False) W (fun _ => none) (.str x) (.string y) := fun x y e h => by
    subst e
    exact V_string h
  rcases (by omega : c = 0 ∨ c = 1 ∨ c = 2 ∨ c = 3 ∨ c = 4 ∨ c = 5) with rfl | rfl | rfl | rfl | rfl | rfl
  · refine ⟨_, rfl, rfl, ?_⟩
    show V _ W _ (.bool k.hl) _
    simp only [V]
  · exact ⟨_, rfl, rfl, vs _ _ e1 s1⟩
  · refine ⟨_, rfl, rfl, ?_⟩
    show V _ W _ (.bool k.li) _
    simp only [V]
  · refine ⟨_, rfl, rfl, ?_⟩
    show V _ W _ (.bool k.hh) _
    simp only [V]
  · exact ⟨_, rfl, rfl, vs _ _ e2 s2⟩
  · refine ⟨_, rfl, rfl, ?_⟩
    show V _ W _ (.bool k.ui) _
    simp only [V]
instance : Inhabited Mr := ⟨zM⟩
/-- A requirement that is handed in. -/
theorem open_mvs {r : Reach} {b0 base : Nat} {sp : Nat → Bool} {held : Bool} {t e : TypeId} {g0 g1 f0 f1 f2 f3 f4 f5 : Field} {v : Value} {d : DataW H} {ps : List MemPlace} (ht : P.underlying t = some (.struct #[g0, g1]))
    (k0 : P.underlying g0.type = some .string) (k1 : P.underlying g1.type = some (.slice e)) (p0 : g0.offset = 0) (p1 : g1.offset = 1) (ct : P.cellsOf t = 2) (q0 : P.cellsOf g0.type = 1) (q1 : P.cellsOf g1.type = 1) (cty : P.cellTypes P.depth t = some [g0.type, g1.type])
    (he : P.underlying e = some (.struct #[f0, f1, f2, f3, f4, f5]))
    (h0 : P.underlying f0.type = some .bool) (h1 : P.underlying f1.type = some .string) (h2 : P.underlying f2.type = some .bool) (h3 : P.underlying f3.type = some .bool) (h4 : P.underlying f4.type = some .string) (h5 : P.underlying f5.type = some .bool)
    (o0 : f0.offset = 0) (o1 : f1.offset = 1) (o2 : f2.offset = 2) (o3 : f3.offset = 3) (o4 : f4.offset = 4) (o5 : f5.offset = 5)
    (c0 : P.cellsOf f0.type = 1) (c1 : P.cellsOf f1.type = 1) (c2 : P.cellsOf f2.type = 1) (c3 : P.cellsOf f3.type = 1) (c4 : P.cellsOf f4.type = 1) (c5 : P.cellsOf f5.type = 1) (ce : P.cellsOf e = 6)
    (hval : Value.okWide P W r b0 t v) (hd : DataW.Trod enc P W base sp held t v d ps) :
    ∃ (x : ByteArray) (v1 : Value) (d1 : DataW H) (L : List Mr), v = .agg #[.string x, v1] ∧ d = .agg [.lit (.string x.data.toList), d1] ∧ RowR datM L d1 ∧
      (L.length ≤ bnd → (∀ k ∈ L, smlM k) → V (fun _ => False) W (fun _ => none) (.sl 6 L.length (rowG CM (fnG CM.df L))) v1) := by
  have hval' := hval
  unfold Value.okWide at hval'
  rw [ht] at hval'
  obtain ⟨cs, rfl, hsz, ts, hts, _, hcell⟩ := hval'
  rw [cty] at hts
  injection hts with hts
  subst hts
  rw [ct] at hsz
  obtain ⟨cs⟩ := cs
  obtain ⟨a0, a1, rfl⟩ : ∃ a0 a1, cs = [a0, a1] := by
    simp only [List.size_toArray] at hsz
    match cs, hsz with
    | [x, y], _ => exact ⟨x, y, rfl⟩
  obtain ⟨n, hn⟩ := hd
  obtain ⟨y0, y1, n', hxy, _, j0, j1⟩ := trod_struct2 ht hn
  simp only [Value.cells, p0, p1, q0, q1, List.drop_zero, List.take_succ_cons, List.take_zero, List.drop_succ_cons] at j0 j1
  obtain ⟨x, rfl, w0⟩ := trod_str_at k0 j0
  obtain ⟨u1, hu1, k3⟩ := hcell 1 a1 rfl
  have hu1 : g1.type = u1 := by simpa using hu1
  subst hu1
  obtain ⟨L, l1, l2⟩ := open_recs (C := CM) (dat := datM) (R := relM) (small := smlM) k1 ce (rec_mr he h0 h1 h2 h3 h4 h5 o0 o1 o2 o3 o4 o5 c0 c1 c2 c3 c4 c5) V_mr k3 j1
  refine ⟨x, a1, y1.1, L, rfl, ?_, l1, l2⟩
  have := (Prod.mk.inj hxy).1
  rw [this, w0]
end
section
variable {P : Program} {H : Type}
theorem w_mvs {t e : TypeId} {k : Nat} {g0 g1 f0 f1 f2 f3 f4 f5 : Field} {x : List UInt8} {L : List Mr} {d : DataW H} (ht : P.underlying t = some (.struct #[g0, g1])) (h1 : P.underlying g1.type = some (.slice e))
    (he : P.underlying e = some (.struct #[f0, f1, f2, f3, f4, f5])) (hb : P.bytesOf e = k) (hk : 1 ≤ k) (h : RowR datM L d) (hw : ∀ n ∈ (DataW.agg [.lit (.string x), d] : DataW H).weights P t, n ≤ reachBytes) :
    x.length ≤ 140737488351232 ∧ L.length ≤ bnd ∧ ∀ m ∈ L, m.lo.length ≤ 140737488351232 ∧ m.hi.length ≤ 140737488351232 := by
  simp only [DataW.weights, ht, DataW.weightsEach, List.map_cons, List.map_nil, List.mem_append, List.append_nil] at hw
  obtain ⟨_, q2, q3⟩ := w_recs h1 hb hk h (fun n hn => hw n (.inr hn))
  refine ⟨hw _ (.inl (by simp)), q2, fun m hm => ?_⟩
  have := q3 m hm
  exact ⟨this _ (by simp [datM, DataW.weights, he, DataW.weightsEach]), this _ (by simp [datM, DataW.weights, he, DataW.weightsEach])⟩
end
end Go.Mvs
namespace Go.Proofs.YtepbfkhalkfhcaaDoor
open Go.ChangeShapes Go.WideShapes Go.ChangeAt Go.RowKit Go.Ab Go.Mvs
theorem own : ownKnob Tryd.prog.godebug = none := by kernel_rfl
theorem laidOut : laidOutB Tryd.prog = true := by kernel_rfl
theorem rec9 : Tryd.prog.readableRec 9 = true ∧ 9 < Tryd.prog.types.size := ⟨by kernel_rfl, of_decide_eq_true (by kernel_rfl)⟩
theorem rec24 : Tryd.prog.readableRec 24 = true ∧ 24 < Tryd.prog.types.size := ⟨by kernel_rfl, of_decide_eq_true (by kernel_rfl)⟩
noncomputable def theWorld (os : Os) : World := laidWorld Tryd.prog os [(2, flatD 4 (Rows.laid_unicode_utf8_acceptRanges (H := Unit))), (1, flatD 4 Rows.laid_unicode_utf8_first)]
theorem cells24 : Tryd.prog.cellsOf 24 = 2 := by kernel_rfl
theorem cells22 : Tryd.prog.cellsOf 22 = 1 := by kernel_rfl
theorem cells36 : Tryd.prog.cellsOf 36 = 6 := by kernel_rfl
theorem cells9 : Tryd.prog.cellsOf 9 = 1 := by kernel_rfl
theorem cells4 : Tryd.prog.cellsOf 4 = 1 := by kernel_rfl
theorem bytes36 : Tryd.prog.bytesOf 36 = 56 := by kernel_rfl
theorem ct24 : Tryd.prog.cellTypes Tryd.prog.depth 24 = some [9, 22] := by kernel_rfl
end Go.Proofs.YtepbfkhalkfhcaaDoor

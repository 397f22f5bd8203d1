/- Lemmas for the claims of this seat (a verified symbolic evaluator, and contracts of functions): own work; no condition. -/
import Derived.Test.YtibanfkcemnifaaDoorFnC
namespace Go.Sem

open Go Go.Proofs Go.Ab

set_option maxRecDepth 100000

set_option linter.unusedVariables false

set_option linter.unusedSimpArgs false

/-! ### Parse told: a text is a version's, and a fit version's text is read back -/

def idb (b : UInt8) : Bool := idB (b.toNat : Int)

theorem take_tw {α : Type} (p : α → Bool) (l : List α) : l.take (l.takeWhile p).length = l.takeWhile p := (List.prefix_iff_eq_take.1 (List.takeWhile_prefix p)).symm

theorem drop_tw {α : Type} (p : α → Bool) : ∀ l : List α, l.drop (l.takeWhile p).length = l.dropWhile p
  | [] => rfl
  | b :: l => by
    rw [List.takeWhile_cons, List.dropWhile_cons]
    cases p b with
    | false => rfl
    | true => simp only [if_true, List.length_cons, List.drop_succ_cons]; exact drop_tw p l

theorem tokD_eq {s : List UInt8} {a : Int} (h0 : 0 ≤ a) : tokD s a = (s.drop a.toNat).takeWhile idb := by
  unfold tokD firstX
  rw [show (a + (((s.drop a.toNat).takeWhile fun b => idB (b.toNat : Int)).length : Nat)).toNat - a.toNat = ((s.drop a.toNat).takeWhile idb).length by show (a + (((s.drop a.toNat).takeWhile idb).length : Nat)).toNat - a.toNat = _; omega]
  exact take_tw _ _

theorem drop_first {s : List UInt8} {a : Int} (h0 : 0 ≤ a) : s.drop (firstX idB s a).toNat = (s.drop a.toNat).dropWhile idb := by
  rw [← drop_tw, List.drop_drop]
  congr 1
  unfold firstX
  show (a + (((s.drop a.toNat).takeWhile idb).length : Nat)).toNat = _
  omega

theorem numT_eq {s : List UInt8} {a : Int} (h0 : 0 ≤ a) (h1 : a ≤ s.length) : numT s a = (s.drop a.toNat).takeWhile digB := by
  unfold numT runD runL
  rw [if_neg (by omega)]
  rw [show (a + (((s.drop a.toNat).takeWhile digB).length : Nat)).toNat - a.toNat = ((s.drop a.toNat).takeWhile digB).length by omega]
  exact take_tw _ _

theorem drop_run {s : List UInt8} {a : Int} (h0 : 0 ≤ a) (h1 : a ≤ s.length) : s.drop (runD s a).toNat = (s.drop a.toNat).dropWhile digB := by
  rw [← drop_tw, List.drop_drop]
  congr 1
  unfold runD runL
  rw [if_neg (by omega)]
  omega

def hdIs (c : UInt8) : List UInt8 → Bool
  | b :: _ => b == c
  | [] => false

theorem isAt_hd {s : List UInt8} {a : Int} (c : UInt8) (h0 : 0 ≤ a) : isAt s a (c.toNat : Int) = hdIs c (s.drop a.toNat) := by
  unfold isAt byt
  by_cases h : a < (s.length : Int)
  · rw [decide_eq_true h, drop_getD (l := s) (i := a.toNat) 0 (by omega)]
    simp only [Bool.true_and, hdIs]
    rw [Bool.eq_iff_iff]
    simp only [beq_iff_eq, ← UInt8.toNat_inj]
    omega
  · rw [decide_eq_false h, List.drop_eq_nil_of_le (by omega)]
    rfl

theorem hdIs_cons {c : UInt8} {u : List UInt8} (h : hdIs c u = true) : u = c :: u.tail := by
  cases u with
  | nil => cases h
  | cons b u =>
    have : b = c := by simpa [hdIs] using h
    rw [this]; rfl

theorem drop_one {s : List UInt8} {a : Int} (h0 : 0 ≤ a) {c : UInt8} {u : List UInt8} (h : s.drop a.toNat = c :: u) : s.drop (a + 1).toNat = u ∧ a + 1 ≤ s.length := by
  have hl : a.toNat < s.length := by
    rcases Nat.lt_or_ge a.toNat s.length with h1 | h1
    · exact h1
    · rw [List.drop_eq_nil_of_le h1] at h; cases h
  refine ⟨?_, by omega⟩
  rw [show (a + 1).toNat = a.toNat + 1 by omega, ← List.drop_drop, h]
  rfl

theorem joinS_cons {x : List UInt8} {M : List (List UInt8)} (h : M ≠ []) : joinS (x :: M) [46] = x ++ 46 :: joinS M [46] := by
  obtain ⟨y, r, rfl⟩ := List.exists_cons_of_ne_nil h
  unfold joinS
  rw [Go.Lib.join_cons, Go.Lib.join_cons]
  simp [Go.Lib.joinTail]

theorem joinS_one (x : List UInt8) : joinS [x] [46] = x := Go.Lib.join_one x [46]

theorem identB_tok {p : Bool} {x : List UInt8} (h : x.all idb = true) : identB p x = (!(x == []) && (!p || !dgs x || numB x)) := by
  unfold identB
  rw [show allD idB x 0 = x.all idb from allD_zero, h, Bool.true_and]

theorem badT_none {s : List UInt8} {p : Bool} {a : Int} (h0 : 0 ≤ a) : badT s p a = none ↔ identB p (tokD s a) = true := by
  have hall : (tokD s a).all idb = true := by
    rw [tokD_eq h0]; exact List.all_takeWhile
  rw [identB_tok hall]
  unfold badT
  cases tokD s a == [] <;> cases p <;> cases dgs (tokD s a) <;> cases numB (tokD s a) <;> simp only [Bool.and_true, Bool.and_false, Bool.true_and, Bool.false_and, Bool.not_true, Bool.not_false, Bool.or_true, Bool.or_false, Bool.true_or, Bool.false_or, cond_true, cond_false] <;> (try (constructor <;> (intro h; first | (cases h; done) | rfl))) <;> cases (isAt s (firstX idB s a) 46 || isAt s (firstX idB s a) 43) <;> simp

theorem idsR_fwd : ∀ (n : Nat) (y : X32), inv32 y → (idsR n y).2 = none → ∃ M, M ≠ [] ∧ fitL y.p M = true ∧ (idsR n y).1.L ++ [tokD y.s (idsR n y).1.a] = y.L ++ M ∧ y.s.drop y.a.toNat = joinS M [46] ++ y.s.drop (firstX idB y.s (idsR n y).1.a).toNat
  | 0, y, hi, h => by cases h
  | n + 1, y, hi, h => by
    have h0 := hi.1
    unfold idsR at h ⊢
    cases hb : badT y.s y.p y.a with
    | some e => rw [hb] at h; cases h
    | none =>
      have hid := (badT_none h0).1 hb
      rw [hb] at h
      simp only at h ⊢
      have hsplit : y.s.drop y.a.toNat = tokD y.s y.a ++ y.s.drop (firstX idB y.s y.a).toNat := by
        rw [tokD_eq h0, drop_first h0]; exact List.takeWhile_append_dropWhile.symm
      have hf := firstX_le (q := idB) (s := y.s) h0 hi.2.1
      cases hd : isAt y.s (firstX idB y.s y.a) 46 with
      | false =>
        simp only [cond_false]
        refine ⟨[tokD y.s y.a], by simp, by simp [fitL, hid], rfl, ?_⟩
        rw [joinS_one]; exact hsplit
      | true =>
        rw [hd] at h
        simp only [cond_true] at h ⊢
        obtain ⟨hi2, _⟩ := nxt_inv y hi hd
        obtain ⟨M, m1, m2, m3, m4⟩ := idsR_fwd n (nxt y) hi2 h
        have es : (nxt y).s = y.s := rfl
        have ep : (nxt y).p = y.p := rfl
        have ea : (nxt y).a = firstX idB y.s y.a + 1 := rfl
        have eL : (nxt y).L = y.L ++ [tokD y.s y.a] := rfl
        rw [es] at m3 m4
        rw [ep] at m2
        rw [ea] at m4
        rw [eL] at m3
        refine ⟨tokD y.s y.a :: M, by simp, ?_, ?_, ?_⟩
        · simp only [fitL, List.all_cons, hid, Bool.true_and] at m2 ⊢; exact m2
        · rw [m3]; simp
        · have hh := hdIs_cons ((isAt_hd (46 : UInt8) (by omega)).symm.trans hd)
          have := drop_one (by omega) hh
          rw [joinS_cons m1, List.append_assoc, List.cons_append, ← m4, this.1, ← hh]
          exact hsplit

/-- What may not stand behind an identifier. -/
def stopI : List UInt8 → Bool
  | b :: _ => !idb b && b != 46
  | [] => true

theorem tw_app {q : UInt8 → Bool} {x w : List UInt8} (hx : x.all q = true) (hw : ∀ b, w.head? = some b → q b = false) : (x ++ w).takeWhile q = x ∧ (x ++ w).dropWhile q = w := by
  induction x with
  | nil =>
    cases w with
    | nil => exact ⟨rfl, rfl⟩
    | cons b w => simp [hw b rfl]
  | cons c x ih =>
    simp only [List.all_cons, Bool.and_eq_true] at hx
    obtain ⟨h1, h2⟩ := ih hx.2
    simp [hx.1, h1, h2]

theorem identB_all {p : Bool} {x : List UInt8} (h : identB p x = true) : x.all idb = true := by
  unfold identB at h
  rw [show allD idB x 0 = x.all idb from allD_zero] at h
  cases hx : x.all idb with
  | true => rfl
  | false => rw [hx] at h; cases h

theorem idsR_bwd : ∀ (M : List (List UInt8)) (n : Nat) (y : X32) (w : List UInt8), M ≠ [] → fitL y.p M = true → inv32 y → y.s.drop y.a.toNat = joinS M [46] ++ w → stopI w = true → (y.s.length - y.a).toNat < n →
    (idsR n y).2 = none ∧ (idsR n y).1.L ++ [tokD y.s (idsR n y).1.a] = y.L ++ M ∧ y.s.drop (firstX idB y.s (idsR n y).1.a).toNat = w
  | [], _, _, _, hM, _, _, _, _, _ => absurd rfl hM
  | x :: M, 0, y, w, _, _, _, _, _, hn => by omega
  | x :: M, n + 1, y, w, _, hf, hi, hs, hw, hn => by
    have h0 := hi.1
    simp only [fitL, List.all_cons, Bool.and_eq_true] at hf
    have hx := identB_all hf.1
    have h46 : idb 46 = false := by decide
    unfold idsR
    by_cases hM : M = []
    · subst hM
      rw [joinS_one] at hs
      have hq : ∀ b, w.head? = some b → idb b = false := by
        intro b hb
        cases w with
        | nil => cases hb
        | cons c w =>
          injection hb with hb; subst hb
          simp only [stopI, Bool.and_eq_true, Bool.not_eq_true'] at hw
          exact hw.1
      obtain ⟨e1, e2⟩ := tw_app hx hq
      have ht : tokD y.s y.a = x := by rw [tokD_eq h0, hs, e1]
      have hr : y.s.drop (firstX idB y.s y.a).toNat = w := by rw [drop_first h0, hs, e2]
      have hb : badT y.s y.p y.a = none := (badT_none h0).2 (by rw [ht]; exact hf.1)
      have hfx := firstX_le (q := idB) (s := y.s) h0 hi.2.1
      have hd : isAt y.s (firstX idB y.s y.a) 46 = false := by
        refine (isAt_hd (46 : UInt8) (by omega)).trans ?_
        rw [hr]
        cases w with
        | nil => rfl
        | cons c w =>
          simp only [stopI, Bool.and_eq_true, bne_iff_ne, ne_eq] at hw
          simp only [hdIs, beq_eq_false_iff_ne, ne_eq]
          exact hw.2
      rw [hb]
      simp only [hd, cond_false, ht]
      exact ⟨trivial, trivial, hr⟩
    · rw [joinS_cons hM, List.append_assoc, List.cons_append] at hs
      obtain ⟨e1, e2⟩ := tw_app (w := 46 :: (joinS M [46] ++ w)) hx (by intro b hb; injection hb with hb; subst hb; exact h46)
      have ht : tokD y.s y.a = x := by rw [tokD_eq h0, hs, e1]
      have hr : y.s.drop (firstX idB y.s y.a).toNat = 46 :: (joinS M [46] ++ w) := by rw [drop_first h0, hs, e2]
      have hb : badT y.s y.p y.a = none := (badT_none h0).2 (by rw [ht]; exact hf.1)
      have hfx := firstX_le (q := idB) (s := y.s) h0 hi.2.1
      have hd : isAt y.s (firstX idB y.s y.a) 46 = true := (isAt_hd (46 : UInt8) (by omega)).trans (by rw [hr]; rfl)
      rw [hb]
      simp only [hd, cond_true]
      obtain ⟨hi2, hlt⟩ := nxt_inv y hi hd
      have es : (nxt y).s = y.s := rfl
      have h2 := hi2.2.1
      rw [es] at h2
      have := idsR_bwd M n (nxt y) w hM hf.2 hi2 ((drop_one (by omega) hr).1) hw (by rw [es]; omega)
      rw [es, show (nxt y).L = y.L ++ [tokD y.s y.a] from rfl, ht] at this
      simpa using this

/-- A text's end, or a build's head. -/
def endI (w : List UInt8) : Prop := w = [] ∨ hdIs 43 w = true

theorem stop_end {w : List UInt8} (h : endI w) : stopI w = true := by
  rcases h with rfl | h
  · rfl
  · rw [hdIs_cons h]; show (!idb 43 && (43 : UInt8) != 46) = true; decide

theorem ids_fwd {s : List UInt8} {p : Bool} {a : Int} {k : List (List UInt8) → Int → PR} {v : Ver} (h0 : 0 ≤ a) (h1 : a + 1 ≤ s.length) (h2 : s.length ≤ 64) (h : idsP s p a k = .inl v) :
    ∃ (M : List (List UInt8)) (b : Int), M ≠ [] ∧ fitL p M = true ∧ s.drop (a + 1).toNat = joinS M [46] ++ s.drop b.toNat ∧ 0 ≤ b ∧ b ≤ s.length ∧ k M b = .inl v := by
  unfold idsP at h
  cases ho : (idR s p (a + 1)).2 with
  | some er => rw [ho] at h; cases h
  | none =>
    rw [ho] at h
    have hi : inv32 ⟨s, p, 0, 0, a + 1, []⟩ := ⟨by simp only; omega, h1, by simp only [bnd2]; omega, by simp only [List.length_nil]; omega⟩
    obtain ⟨M, m1, m2, m3, m4⟩ := idsR_fwd ((s.length - (a + 1)).toNat + 1) ⟨s, p, 0, 0, a + 1, []⟩ hi ho
    have m3 : idL s p (a + 1) = M := m3
    obtain ⟨q1, q2⟩ := idF_ge (s := s) (p := p) (a := a + 1) (by omega) h1 h2
    refine ⟨M, idF s p (a + 1), m1, m2, m4, by omega, q2, ?_⟩
    rw [← m3]; exact h

theorem ids_bwd {s : List UInt8} {p : Bool} {a : Int} {k : List (List UInt8) → Int → PR} {M : List (List UInt8)} {w : List UInt8} (h0 : 0 ≤ a) (h1 : a + 1 ≤ s.length) (h2 : s.length ≤ 64) (hM : M ≠ []) (hf : fitL p M = true)
    (hs : s.drop (a + 1).toNat = joinS M [46] ++ w) (hw : endI w) : ∃ b : Int, 0 ≤ b ∧ b ≤ s.length ∧ s.drop b.toNat = w ∧ idsP s p a k = k M b := by
  have hi : inv32 ⟨s, p, 0, 0, a + 1, []⟩ := ⟨by simp only; omega, h1, by simp only [bnd2]; omega, by simp only [List.length_nil]; omega⟩
  obtain ⟨m1, m2, m3⟩ := idsR_bwd M ((s.length - (a + 1)).toNat + 1) ⟨s, p, 0, 0, a + 1, []⟩ w hM hf hi hs (stop_end hw) (by simp only; omega)
  have m1 : (idR s p (a + 1)).2 = none := m1
  have m2 : idL s p (a + 1) = M := m2
  obtain ⟨q1, q2⟩ := idF_ge (s := s) (p := p) (a := a + 1) (by omega) h1 h2
  refine ⟨idF s p (a + 1), by omega, q2, m3, ?_⟩
  unfold idsP
  rw [m1, m2]

theorem num_fwd {s : List UInt8} {a : Int} {k : List UInt8 → Int → PR} {v : Ver} (h0 : 0 ≤ a) (h1 : a ≤ s.length) (h : numR s a k = .inl v) :
    numB (numT s a) = true ∧ s.drop a.toNat = numT s a ++ s.drop (runD s a).toNat ∧ k (numT s a) (runD s a) = .inl v := by
  unfold numR at h
  cases h2 : (numT s a == []) with
  | true => rw [h2] at h; cases h
  | false =>
    rw [h2] at h
    cases h3 : numB (numT s a) with
    | false => rw [h3] at h; cases h
    | true =>
      rw [h3] at h
      refine ⟨rfl, ?_, h⟩
      rw [numT_eq h0 h1, drop_run h0 h1]; exact List.takeWhile_append_dropWhile.symm

theorem numB_dgs {d : List UInt8} (h : numB d = true) : dgs d = true := by
  unfold numB at h
  simp only [Bool.and_eq_true] at h
  exact h.1

theorem dgs_all {d : List UInt8} (h : dgs d = true) : d ≠ [] ∧ d.all digB = true := by
  unfold dgs at h
  simp only [Bool.and_eq_true, Bool.not_eq_true', beq_eq_false_iff_ne] at h
  exact h

theorem num_bwd {s : List UInt8} {a : Int} {k : List UInt8 → Int → PR} {d w : List UInt8} (h0 : 0 ≤ a) (h1 : a ≤ s.length) (hs : s.drop a.toNat = d ++ w) (hd : numB d = true) (hw : ∀ b, w.head? = some b → digB b = false) :
    ∃ b : Int, 0 ≤ b ∧ b ≤ s.length ∧ s.drop b.toNat = w ∧ numR s a k = k d b := by
  obtain ⟨d1, d2⟩ := dgs_all (numB_dgs hd)
  obtain ⟨e1, e2⟩ := tw_app d2 hw
  have hn : numT s a = d := by rw [numT_eq h0 h1, hs, e1]
  have hr : s.drop (runD s a).toNat = w := by rw [drop_run h0 h1, hs, e2]
  obtain ⟨q1, q2⟩ := runD_ge h0 h1
  refine ⟨runD s a, by omega, q2, hr, ?_⟩
  unfold numR
  rw [hn, show (d == []) = false by simpa using d1, hd]
  rfl

theorem dot_fwd {s : List UInt8} {a : Int} {k : PR} {v : Ver} (h0 : 0 ≤ a) (h : dotR s a k = .inl v) : s.drop a.toNat = 46 :: s.drop (a + 1).toNat ∧ a + 1 ≤ s.length ∧ k = .inl v := by
  unfold dotR at h
  cases hi : isAt s a 46 with
  | false => rw [hi] at h; cases h
  | true =>
    rw [hi] at h
    have hh := hdIs_cons ((isAt_hd (46 : UInt8) h0).symm.trans hi)
    have := drop_one h0 hh
    exact ⟨by rw [this.1]; exact hh, this.2, h⟩

theorem dot_bwd {s : List UInt8} {a : Int} {k : PR} {w : List UInt8} (h0 : 0 ≤ a) (h : s.drop a.toNat = 46 :: w) : dotR s a k = k ∧ s.drop (a + 1).toNat = w ∧ a + 1 ≤ s.length := by
  have hi : isAt s a 46 = true := (isAt_hd (46 : UInt8) h0).trans (by rw [h]; rfl)
  unfold dotR
  rw [hi]
  exact ⟨rfl, drop_one h0 h⟩

theorem bu_fwd {s : List UInt8} {a : Int} {k : List (List UInt8) → Ver} {v : Ver} (h0 : 0 ≤ a) (h1 : a ≤ s.length) (h2 : s.length ≤ 64) (h : buP s a k = .inl v) : ∃ M, fitL false M = true ∧ s.drop a.toNat = sufP 43 M ∧ v = k M := by
  have hend : ∀ {b : Int} {u : Ver}, 0 ≤ b → endP s b u = .inl v → s.drop b.toNat = [] ∧ v = u := by
    intro b u hb he
    unfold endP at he
    cases hc : decide (b < (s.length : Int)) with
    | true => rw [hc] at he; cases he
    | false =>
      rw [hc] at he
      have := of_decide_eq_false hc
      exact ⟨List.drop_eq_nil_of_le (by omega), (Sum.inl.inj he).symm⟩
  unfold buP at h
  cases hi : isAt s a 43 with
  | false =>
    rw [hi] at h
    obtain ⟨e1, e2⟩ := hend h0 h
    exact ⟨[], rfl, e1, e2⟩
  | true =>
    rw [hi] at h
    have hlt := isAt_lt hi
    have hh := hdIs_cons ((isAt_hd (43 : UInt8) h0).symm.trans hi)
    obtain ⟨M, b, m1, m2, m3, m4, m5, m6⟩ := ids_fwd (k := fun l b => endP s b (k l)) h0 (by omega) h2 h
    obtain ⟨e1, e2⟩ := hend m4 m6
    refine ⟨M, m2, ?_, e2⟩
    rw [hh, ← (drop_one h0 hh).1, m3, e1, List.append_nil]
    unfold sufP
    rw [if_neg m1]; rfl

theorem bu_bwd {s : List UInt8} {a : Int} {k : List (List UInt8) → Ver} {M : List (List UInt8)} (h0 : 0 ≤ a) (h1 : a ≤ s.length) (h2 : s.length ≤ 64) (hf : fitL false M = true) (hs : s.drop a.toNat = sufP 43 M) : buP s a k = .inl (k M) := by
  have hend : ∀ {b : Int} {u : Ver}, 0 ≤ b → s.drop b.toNat = [] → endP s b u = .inl u := by
    intro b u hb he
    have := List.drop_eq_nil_iff.1 he
    unfold endP
    rw [decide_eq_false (by omega)]; rfl
  unfold buP
  by_cases hM : M = []
  · subst hM
    have hs : s.drop a.toNat = [] := hs
    rw [show isAt s a 43 = false from (isAt_hd (43 : UInt8) h0).trans (by rw [hs]; rfl)]
    exact hend h0 hs
  · have hs : s.drop a.toNat = 43 :: joinS M [46] := by rw [hs]; unfold sufP; rw [if_neg hM]; rfl
    rw [show isAt s a 43 = true from (isAt_hd (43 : UInt8) h0).trans (by rw [hs]; rfl), cond_true]
    obtain ⟨e1, e2⟩ := drop_one h0 hs
    obtain ⟨b, b1, b2, b3, b4⟩ := ids_bwd (k := fun l b => endP s b (k l)) (w := []) h0 e2 h2 hM hf (by rw [e1, List.append_nil]) (.inl rfl)
    rw [b4]
    exact hend b1 b3

/-- A text that is read is the text of what is read, and that is fit. -/
theorem parse_fwd {s : List UInt8} {v : Ver} (h : parseS s = .inl v) : textV v = s ∧ fitV v = true ∧ s.length ≤ 64 := by
  unfold parseS at h
  by_cases hl : s.length > 64
  · rw [decide_eq_true hl] at h; cases h
  have hle : s.length ≤ 64 := by omega
  rw [decide_eq_false hl] at h
  dsimp only [cond_false] at h
  obtain ⟨a1, a2⟩ := runD_ge (s := s) (a := 0) (by omega) (by omega)
  obtain ⟨n1, n2, h⟩ := num_fwd (by omega) (by omega) h
  obtain ⟨d1, d2, h⟩ := dot_fwd (by omega) h
  obtain ⟨b1, b2⟩ := runD_ge (s := s) (a := runD s 0 + 1) (by omega) (by omega)
  obtain ⟨n3, n4, h⟩ := num_fwd (by omega) (by omega) h
  obtain ⟨d3, d4, h⟩ := dot_fwd (by omega) h
  obtain ⟨c1, c2⟩ := runD_ge (s := s) (a := runD s (runD s 0 + 1) + 1) (by omega) (by omega)
  obtain ⟨n5, n6, h⟩ := num_fwd (by omega) (by omega) h
  have hs : s = numT s 0 ++ 46 :: (numT s (runD s 0 + 1) ++ 46 :: (numT s (runD s (runD s 0 + 1) + 1) ++ s.drop (runD s (runD s (runD s 0 + 1) + 1)).toNat)) := by
    rw [← n6, ← d3, ← n4, ← d1, ← n2]; rfl
  have key : ∀ (P B : List (List UInt8)), fitL true P = true → fitL false B = true → s.drop (runD s (runD s (runD s 0 + 1) + 1)).toNat = sufP 45 P ++ sufP 43 B →
      v = ⟨numT s 0, numT s (runD s 0 + 1), numT s (runD s (runD s 0 + 1) + 1), P, B⟩ → textV v = s ∧ fitV v = true ∧ s.length ≤ 64 := by
    intro P B hP hB hd hv
    subst hv
    have ht : textV ⟨numT s 0, numT s (runD s 0 + 1), numT s (runD s (runD s 0 + 1) + 1), P, B⟩ = s := by
      refine Eq.trans ?_ hs.symm
      rw [hd]
      simp only [textV, List.append_assoc, List.cons_append, List.nil_append]
    refine ⟨ht, ?_, hle⟩
    unfold fitV
    simp only [n1, n3, n5, hP, hB, Bool.true_and]
    rw [ht]
    simp only [decide_eq_true_eq]; omega
  have g0 : (0 : Int) ≤ runD s (runD s (runD s 0 + 1) + 1) := by omega
  cases hm : isAt s (runD s (runD s (runD s 0 + 1) + 1)) 45 with
  | false =>
    rw [hm] at h
    obtain ⟨M, m1, m2, m3⟩ := bu_fwd g0 c2 hle h
    exact key [] M rfl m1 m2 m3
  | true =>
    rw [hm, cond_true] at h
    have hh := hdIs_cons ((isAt_hd (45 : UInt8) g0).symm.trans hm)
    obtain ⟨e1, e2⟩ := drop_one g0 hh
    obtain ⟨P, b, p1, p2, p3, p4, p5, p6⟩ := ids_fwd g0 e2 hle h
    obtain ⟨M, m1, m2, m3⟩ := bu_fwd p4 p5 hle p6
    refine key P M p2 m1 ?_ m3
    rw [hh, ← e1, p3, m2]
    unfold sufP
    rw [if_neg p1]
    simp

theorem endI_suf (M : List (List UInt8)) : endI (sufP 43 M) := by
  unfold sufP
  split
  · exact .inl rfl
  · exact .inr rfl

/-- A fit version's text is read as the version. -/
theorem parse_bwd {v : Ver} (h : fitV v = true) : parseS (textV v) = .inl v := by
  obtain ⟨x, y, z, P, B⟩ := v
  unfold fitV at h
  simp only [Bool.and_eq_true, decide_eq_true_eq] at h
  obtain ⟨⟨⟨⟨⟨h1, h2⟩, h3⟩, h4⟩, h5⟩, h6⟩ := h
  generalize hs : textV ⟨x, y, z, P, B⟩ = s at h6
  have hle : s.length ≤ 64 := by omega
  have hs' : s.drop (0 : Int).toNat = x ++ 46 :: (y ++ 46 :: (z ++ (sufP 45 P ++ sufP 43 B))) := by
    rw [← hs]; simp only [textV, List.append_assoc, List.cons_append, List.nil_append]; rfl
  unfold parseS
  rw [decide_eq_false (show ¬ s.length > 64 by omega)]
  dsimp only [cond_false]
  have dot : ∀ (u : List UInt8) (b : UInt8), (46 :: u : List UInt8).head? = some b → digB b = false := by intro u b hb; injection hb with hb; subst hb; decide
  obtain ⟨b1, p1, p2, p3, p4⟩ := num_bwd (k := _) (by omega) (by omega) hs' h1 (dot _)
  rw [p4]
  obtain ⟨q1, q2, q3⟩ := dot_bwd (k := _) p1 p3
  rw [q1]
  obtain ⟨b2, r1, r2, r3, r4⟩ := num_bwd (k := _) (by omega) q3 q2 h2 (dot _)
  rw [r4]
  obtain ⟨u1, u2, u3⟩ := dot_bwd (k := _) r1 r3
  rw [u1]
  have hz : ∀ b, (sufP 45 P ++ sufP 43 B).head? = some b → digB b = false := by
    intro b hb
    unfold sufP at hb
    split at hb
    · split at hb
      · cases hb
      · injection hb with hb; subst hb; decide
    · injection hb with hb; subst hb; decide
  obtain ⟨b3, v1, v2, v3, v4⟩ := num_bwd (k := _) (by omega) u3 u2 h3 hz
  rw [v4]
  by_cases hP : P = []
  · subst hP
    have v3 : s.drop b3.toNat = sufP 43 B := v3
    rw [show isAt s b3 45 = false from (isAt_hd (45 : UInt8) v1).trans (by
      rw [v3]; unfold sufP; split <;> rfl), cond_false]
    exact bu_bwd (k := fun l2 => ⟨x, y, z, [], l2⟩) v1 v2 hle h5 v3
  · have v3 : s.drop b3.toNat = 45 :: (joinS P [46] ++ sufP 43 B) := by
      rw [v3]
      conv => lhs; unfold sufP
      rw [if_neg hP]; simp only [List.cons_append, List.nil_append]; rfl
    rw [show isAt s b3 45 = true from (isAt_hd (45 : UInt8) v1).trans (by rw [v3]; rfl), cond_true]
    obtain ⟨e1, e2⟩ := drop_one v1 v3
    obtain ⟨b4, w1, w2, w3, w4⟩ := ids_bwd (k := fun l b => buP s b fun l2 => ⟨x, y, z, l, l2⟩) v1 e2 hle hP h4 e1 (endI_suf B)
    rw [w4]
    exact bu_bwd (k := fun l2 => ⟨x, y, z, P, l2⟩) w1 w2 hle h5 w3

theorem join_len {p : Bool} : ∀ {M : List (List UInt8)}, fitL p M = true → M.length ≤ (joinS M [46]).length
  | [], _ => Nat.zero_le _
  | [x], h => by
    simp only [fitL, List.all_cons, List.all_nil, Bool.and_true] at h
    rw [joinS_one]
    cases x with
    | nil => cases p <;> cases h
    | cons c x => simp
  | x :: y :: M, h => by
    have h' : fitL p (y :: M) = true := by simp only [fitL, List.all_cons, Bool.and_eq_true] at h ⊢; exact h.2
    have := join_len h'
    rw [joinS_cons (by simp)]
    simp only [List.length_append, List.length_cons] at this ⊢
    omega

theorem suf_len (c : UInt8) (M : List (List UInt8)) : (joinS M [46]).length ≤ (sufP c M).length := by
  unfold sufP
  split
  · rename_i h; subst h; exact Nat.le_refl _
  · simp

theorem fit_room {v : Ver} (h : fitV v = true) : roomV v := by
  obtain ⟨x, y, z, P, B⟩ := v
  unfold fitV at h
  simp only [Bool.and_eq_true, decide_eq_true_eq] at h
  obtain ⟨⟨⟨⟨⟨h1, h2⟩, h3⟩, h4⟩, h5⟩, h6⟩ := h
  have j1 := join_len h4
  have j2 := join_len h5
  have k1 := suf_len 45 P
  have k2 := suf_len 43 B
  simp only [textV, List.length_append, List.length_cons, List.length_nil] at h6
  refine ⟨⟨?_, ?_, ?_⟩, ⟨?_, ?_⟩, ⟨?_, ?_⟩⟩ <;> simp only <;> omega

end Go.Sem
namespace Go.Sem

open Go Go.Proofs Go.Ab

set_option maxRecDepth 100000

set_option linter.unusedVariables false

set_option linter.unusedSimpArgs false

noncomputable def tabS : Tab := ⟨41, true, pcon c41⟩ :: tabR

theorem allS : ∀ e, e ∈ tabS → Sound1 Tryd.prog e := sound_mem_tab s41 allR

theorem okS : SoundTab Tryd.prog tabS := soundTab_of allS

abbrev vAV (a b c : List UInt8) (l r : List (List UInt8)) : AV := .agg [.str a, .str b, .str c, .sl 1 l.length (strF l), .sl 1 r.length (strF r)]

theorem t15 (a b c : List UInt8) (l r : List (List UInt8)) (a2 b2 c2 : List UInt8) (l2 r2 : List (List UInt8)) : (evn tabS h15 noLoops 15 [vAV a b c l r, vAV a2 b2 c2 l2 r2] []).run =
  bif decide (IsStrs (strF l) l.length ∧ IsStrs (strF r) r.length ∧ roomV (vOf a b c l.length (strF l) r.length (strF r))) then
   bif !fitV (vOf a b c l.length (strF l) r.length (strF r)) then
    some ((AV.int IntKind.i64 (0 : Int), []))
   else
    bif decide (IsStrs (strF l2) l2.length ∧ IsStrs (strF r2) r2.length ∧ roomV (vOf a2 b2 c2 l2.length (strF l2) r2.length (strF r2))) then
     bif !fitV (vOf a2 b2 c2 l2.length (strF l2) r2.length (strF r2)) then
      some ((AV.int IntKind.i64 (0 : Int), []))
     else
      bif decide (IsStrs (strF l) l.length ∧ IsStrs (strF l2) l2.length) then
       bif [cmpD a a2, cmpD b b2, cmpD c c2, preO (strsOf (strF l) l.length) (strsOf (strF l2) l2.length)].getD 0 (0 : Int) != (0 : Int) then
        some ((AV.int IntKind.i64 ([cmpD a a2, cmpD b b2, cmpD c c2, preO (strsOf (strF l) l.length) (strsOf (strF l2) l2.length)].getD 0 (0 : Int)), []))
       else
        bif [cmpD a a2, cmpD b b2, cmpD c c2, preO (strsOf (strF l) l.length) (strsOf (strF l2) l2.length)].getD 1 (0 : Int) != (0 : Int) then
         some ((AV.int IntKind.i64 ([cmpD a a2, cmpD b b2, cmpD c c2, preO (strsOf (strF l) l.length) (strsOf (strF l2) l2.length)].getD 1 (0 : Int)), []))
        else
         bif [cmpD a a2, cmpD b b2, cmpD c c2, preO (strsOf (strF l) l.length) (strsOf (strF l2) l2.length)].getD 2 (0 : Int) != (0 : Int) then
          some ((AV.int IntKind.i64 ([cmpD a a2, cmpD b b2, cmpD c c2, preO (strsOf (strF l) l.length) (strsOf (strF l2) l2.length)].getD 2 (0 : Int)), []))
         else
          bif [cmpD a a2, cmpD b b2, cmpD c c2, preO (strsOf (strF l) l.length) (strsOf (strF l2) l2.length)].getD 3 (0 : Int) != (0 : Int) then
           some ((AV.int IntKind.i64 ([cmpD a a2, cmpD b b2, cmpD c c2, preO (strsOf (strF l) l.length) (strsOf (strF l2) l2.length)].getD 3 (0 : Int)), []))
          else
           some ((AV.int IntKind.i64 (0 : Int), []))
      else
       none
    else
     none
  else
   none := by kernel_rfl

def orZ (x y : Int) : Int := bif x != 0 then x else y

/-- The order of two fit versions. -/
def ordP (v w : Ver) : Int := orZ (cmpD v.mj w.mj) (orZ (cmpD v.mn w.mn) (orZ (cmpD v.pt w.pt) (orZ (preO v.pre w.pre) 0)))

def ordV (v w : Ver) : Int := bif fitV v && fitV w then ordP v w else 0

noncomputable def c15 : List AV → T AV
  | [.agg [.str a, .str b, .str c, .sl 1 n f, .sl 1 m g], .agg [.str a2, .str b2, .str c2, .sl 1 n2 f2, .sl 1 m2 g2]] =>
    .chk (decide (IsStrs f n ∧ IsStrs g m ∧ IsStrs f2 n2 ∧ IsStrs g2 m2 ∧ roomV (vOf a b c n f m g) ∧ roomV (vOf a2 b2 c2 n2 f2 m2 g2))) (.leaf (.int .i64 (ordV (vOf a b c n f m g) (vOf a2 b2 c2 n2 f2 m2 g2))))
  | _ => .fail

theorem chk_room {a b c : List UInt8} {l r : List (List UInt8)} (h : roomV ⟨a, b, c, l, r⟩) : decide (IsStrs (strF l) l.length ∧ IsStrs (strF r) r.length ∧ roomV (vOf a b c l.length (strF l) r.length (strF r))) = true := by
  have e : vOf a b c l.length (strF l) r.length (strF r) = ⟨a, b, c, l, r⟩ := by unfold vOf; rw [strsOf_strF, strsOf_strF]
  rw [e]
  exact decide_eq_true ⟨isStrs_strF l, isStrs_strF r, h⟩

theorem vOf_strF (a b c : List UInt8) (l r : List (List UInt8)) : vOf a b c l.length (strF l) r.length (strF r) = ⟨a, b, c, l, r⟩ := by unfold vOf; rw [strsOf_strF, strsOf_strF]

theorem s15 : Sound1 Tryd.prog ⟨15, true, pcon c15⟩ := by
  refine sound_pure okS (hn := h15) (m := 20) (k := 9) (Λ := noLoops) (fun i hi => anyLoops) fun args r hF h => ?_
  unfold c15 at h
  split at h
  · rename_i a b c n f m g a2 b2 c2 n2 f2 m2 g2
    rw [T.run_chk] at h
    split at h
    · rename_i hc
      simp only [T.run_leaf, Option.some.injEq] at h; subst h
      obtain ⟨⟨l, rfl, rfl⟩, ⟨r, rfl, rfl⟩, ⟨l2, rfl, rfl⟩, ⟨r2, rfl, rfl⟩, hr1, hr2⟩ := of_decide_eq_true hc
      rw [vOf_strF] at hr1 hr2 ⊢
      rw [vOf_strF]
      refine (t15 a b c l r a2 b2 c2 l2 r2).trans ?_
      rw [chk_room hr1, chk_room hr2, decide_eq_true (show IsStrs (strF l) l.length ∧ IsStrs (strF l2) l2.length from ⟨isStrs_strF l, isStrs_strF l2⟩), vOf_strF, vOf_strF, strsOf_strF, strsOf_strF]
      simp only [List.getD_cons_zero, List.getD_cons_succ, cond_true]
      unfold ordV ordP orZ
      simp only
      cases fitV ⟨a, b, c, l, r⟩ <;> cases fitV ⟨a2, b2, c2, l2, r2⟩ <;> first | rfl | skip
      cases (cmpD a a2 != 0) <;> cases (cmpD b b2 != 0) <;> cases (cmpD c c2 != 0) <;> cases (preO l l2 != 0) <;> rfl
    · cases h
  · cases h

noncomputable def c11 : List AV → T AV
  | [.agg [.str a, .str b, .str c, .sl 1 n f, .sl 1 m g]] => .chk (decide (IsStrs f n ∧ IsStrs g m ∧ roomV (vOf a b c n f m g))) (.leaf (.str (bif fitV (vOf a b c n f m g) then textV (vOf a b c n f m g) else [])))
  | _ => .fail

theorem s11 : Sound1 Tryd.prog ⟨11, true, pcon c11⟩ := by
  refine sound_pure okR (hn := h11) (m := 20) (k := 9) (Λ := noLoops) (fun i hi => anyLoops) fun args r hF h => ?_
  unfold c11 at h
  split at h
  · rename_i a b c n f m g
    rw [T.run_chk] at h
    split at h
    · rename_i hc
      simp only [T.run_leaf, Option.some.injEq] at h; subst h
      obtain ⟨⟨l, rfl, rfl⟩, ⟨r, rfl, rfl⟩, hr⟩ := of_decide_eq_true hc
      rw [vOf_strF] at hr ⊢
      refine (t11 a b c l r).trans ?_
      rw [chk_room hr, vOf_strF]
      cases fitV ⟨a, b, c, l, r⟩ <;> rfl
    · cases h
  · cases h

theorem t27 (s : List UInt8) : (evn tabS h27 noLoops 27 [.str s] []).run =
  bif prErr (parseS s) != (0 : Int) then
   some ((AV.str [], []))
  else
   bif decide (IsStrs (strF (prVer (parseS s)).pre) (prVer (parseS s)).pre.length ∧ roomV (vOf (prVer (parseS s)).mj (prVer (parseS s)).mn (prVer (parseS s)).pt (prVer (parseS s)).pre.length (strF (prVer (parseS s)).pre) 0 (strF []))) then
    some ((AV.str (textV (vOf (prVer (parseS s)).mj (prVer (parseS s)).mn (prVer (parseS s)).pt (prVer (parseS s)).pre.length (strF (prVer (parseS s)).pre) 0 (strF []))), []))
   else
    none := by kernel_rfl

def okP (s : List UInt8) : Bool := prErr (parseS s) == 0

theorem okP_iff (s : List UInt8) : okP s = true ↔ ∃ v, parseS s = .inl v := by
  have ho := parse_ok s
  unfold okP
  cases h : parseS s with
  | inl v => exact ⟨fun _ => ⟨v, rfl⟩, fun _ => rfl⟩
  | inr x =>
    rw [h] at ho
    have ho : x.1 = 10 ∨ x.1 = 11 ∨ x.1 = 12 ∨ x.1 = 14 := ho
    refine ⟨fun q => ?_, fun ⟨v, q⟩ => by cases q⟩
    have q : x.1 = 0 := by simpa [prErr] using q
    omega

theorem okP_fit {s : List UInt8} (h : okP s = true) : fitV (prVer (parseS s)) = true := by
  obtain ⟨v, hv⟩ := (okP_iff s).1 h
  rw [hv]
  exact (parse_fwd hv).2.1

def canonS (s : List UInt8) : List UInt8 := bif okP s then textV { prVer (parseS s) with bu := [] } else []

def c27 : List AV → T AV
  | [.str s] => .leaf (.str (canonS s))
  | _ => .fail

theorem s27 : Sound1 Tryd.prog ⟨27, true, pcon c27⟩ := by
  refine sound_pure okS (hn := h27) (m := 20) (k := 9) (Λ := noLoops) (fun i hi => anyLoops) fun args r hF h => ?_
  unfold c27 at h
  split at h
  · rename_i s
    simp only [T.run_leaf, Option.some.injEq] at h; subst h
    refine (t27 s).trans ?_
    unfold canonS
    rw [show (prErr (parseS s) != (0 : Int)) = !okP s from rfl]
    cases hs : okP s
    · rfl
    · have hr := fit_room (okP_fit hs)
      have e : vOf (prVer (parseS s)).mj (prVer (parseS s)).mn (prVer (parseS s)).pt (prVer (parseS s)).pre.length (strF (prVer (parseS s)).pre) 0 (strF []) = { prVer (parseS s) with bu := [] } := by
        unfold vOf; rw [strsOf_strF]; rfl
      rw [e, decide_eq_true (show IsStrs (strF (prVer (parseS s)).pre) (prVer (parseS s)).pre.length ∧ roomV { prVer (parseS s) with bu := [] } from ⟨isStrs_strF _, hr.1, hr.2.1, by simp [roomL, joinS, Go.Lib.join_nil]⟩)]
      rfl
  · cases h

noncomputable def tabT : Tab := ⟨27, true, pcon c27⟩ :: ⟨15, true, pcon c15⟩ :: ⟨11, true, pcon c11⟩ :: tabS

theorem allT : ∀ e, e ∈ tabT → Sound1 Tryd.prog e := sound_mem_tab s27 (sound_mem_tab s15 (sound_mem_tab s11 allS))

theorem okT : SoundTab Tryd.prog tabT := soundTab_of allT

theorem t8 (a b : List UInt8) : (evn tabT h8 noLoops 8 [.str a, .str b] []).run =
  bif prErr (parseS a) == (0 : Int) then
   bif prErr (parseS b) == (0 : Int) then
    bif decide (IsStrs (strF (prVer (parseS a)).pre) (prVer (parseS a)).pre.length ∧ IsStrs (strF (prVer (parseS a)).bu) (prVer (parseS a)).bu.length ∧ IsStrs (strF (prVer (parseS b)).pre) (prVer (parseS b)).pre.length ∧ IsStrs (strF (prVer (parseS b)).bu) (prVer (parseS b)).bu.length ∧ roomV (vOf (prVer (parseS a)).mj (prVer (parseS a)).mn (prVer (parseS a)).pt (prVer (parseS a)).pre.length (strF (prVer (parseS a)).pre) (prVer (parseS a)).bu.length (strF (prVer (parseS a)).bu)) ∧ roomV (vOf (prVer (parseS b)).mj (prVer (parseS b)).mn (prVer (parseS b)).pt (prVer (parseS b)).pre.length (strF (prVer (parseS b)).pre) (prVer (parseS b)).bu.length (strF (prVer (parseS b)).bu))) then
     some ((AV.int IntKind.i64 (ordV (vOf (prVer (parseS a)).mj (prVer (parseS a)).mn (prVer (parseS a)).pt (prVer (parseS a)).pre.length (strF (prVer (parseS a)).pre) (prVer (parseS a)).bu.length (strF (prVer (parseS a)).bu)) (vOf (prVer (parseS b)).mj (prVer (parseS b)).mn (prVer (parseS b)).pt (prVer (parseS b)).pre.length (strF (prVer (parseS b)).pre) (prVer (parseS b)).bu.length (strF (prVer (parseS b)).bu))), []))
    else
     none
   else
    bif !(prErr (parseS a) == (0 : Int)) == (prErr (parseS b) == (0 : Int)) then
     some ((AV.int IntKind.i64 (IntKind.i64.wrap (truthZ (prErr (parseS a) == (0 : Int)) - truthZ (prErr (parseS b) == (0 : Int)))), []))
    else
     some ((AV.int IntKind.i64 (Lib.compareBytes a b), []))
  else
   bif !(prErr (parseS a) == (0 : Int)) == (prErr (parseS b) == (0 : Int)) then
    some ((AV.int IntKind.i64 (IntKind.i64.wrap (truthZ (prErr (parseS a) == (0 : Int)) - truthZ (prErr (parseS b) == (0 : Int)))), []))
   else
    some ((AV.int IntKind.i64 (Lib.compareBytes a b), [])) := by kernel_rfl

/-- The order of two texts. -/
def cmpV (a b : List UInt8) : Int :=
  bif okP a && okP b then ordP (prVer (parseS a)) (prVer (parseS b)) else bif okP a != okP b then truthZ (okP a) - truthZ (okP b) else Lib.compareBytes a b

def c8 : List AV → T AV
  | [.str a, .str b] => .leaf (.int .i64 (cmpV a b))
  | _ => .fail

theorem chk_room2 {v w : Ver} (hv : roomV v) (hw : roomV w) : decide (IsStrs (strF v.pre) v.pre.length ∧ IsStrs (strF v.bu) v.bu.length ∧ IsStrs (strF w.pre) w.pre.length ∧ IsStrs (strF w.bu) w.bu.length ∧ roomV (vOf v.mj v.mn v.pt v.pre.length (strF v.pre) v.bu.length (strF v.bu)) ∧ roomV (vOf w.mj w.mn w.pt w.pre.length (strF w.pre) w.bu.length (strF w.bu))) = true := by
  rw [vOf_strF, vOf_strF]
  exact decide_eq_true ⟨isStrs_strF _, isStrs_strF _, isStrs_strF _, isStrs_strF _, hv, hw⟩

theorem s8 : Sound1 Tryd.prog ⟨8, true, pcon c8⟩ := by
  refine sound_pure okT (hn := h8) (m := 20) (k := 9) (Λ := noLoops) (fun i hi => anyLoops) fun args r hF h => ?_
  unfold c8 at h
  split at h
  · rename_i a b
    simp only [T.run_leaf, Option.some.injEq] at h; subst h
    refine (t8 a b).trans ?_
    unfold cmpV
    rw [show (prErr (parseS a) == (0 : Int)) = okP a from rfl, show (prErr (parseS b) == (0 : Int)) = okP b from rfl, truthZ_wrap]
    cases ha : okP a
    · cases hb : okP b <;> rfl
    · cases hb : okP b
      · rfl
      · have fa := okP_fit ha
        have fb := okP_fit hb
        rw [chk_room2 (fit_room fa) (fit_room fb), vOf_strF, vOf_strF]
        unfold ordV
        have e : ∀ v : Ver, (⟨v.mj, v.mn, v.pt, v.pre, v.bu⟩ : Ver) = v := fun v => rfl
        rw [e, e, fa, fb]
        rfl
  · cases h

noncomputable def tabU : Tab := ⟨8, true, pcon c8⟩ :: tabT

theorem allU : ∀ e, e ∈ tabU → Sound1 Tryd.prog e := sound_mem_tab s8 allT

theorem okU : SoundTab Tryd.prog tabU := soundTab_of allU

theorem t9  : (evn tabU h9 noLoops 9 [] []).run =
  some ((AV.bool true, [])) := by kernel_rfl

def c9 : List AV → T AV
  | [] => .leaf (.bool true)
  | _ => .fail

theorem s9 : Sound1 Tryd.prog ⟨9, true, pcon c9⟩ := by
  refine sound_pure okU (hn := h9) (m := 20) (k := 9) (Λ := noLoops) (fun i hi => anyLoops) fun args r hF h => ?_
  unfold c9 at h
  split at h
  · simp only [T.run_leaf, Option.some.injEq] at h; subst h
    exact t9
  · cases h

noncomputable def tabW : Tab := ⟨9, true, pcon c9⟩ :: tabU

theorem allW : ∀ e, e ∈ tabW → Sound1 Tryd.prog e := sound_mem_tab s9 allU

theorem okW : SoundTab Tryd.prog tabW := soundTab_of allW

theorem t3 (a b c : List UInt8) : (evn tabW h3 noLoops 3 [.str a, .str b, .str c] []).run =
  bif decide (cmpV a b < (-1 : Int)) then
   some ((AV.bool false, []))
  else
   bif decide (cmpV a b > (1 : Int)) then
    some ((AV.bool false, []))
   else
    bif cmpV b a != IntKind.i64.wrap ((0 : Int) - cmpV a b) then
     some ((AV.bool false, []))
    else
     bif cmpV a a != (0 : Int) then
      some ((AV.bool false, []))
     else
      bif decide (cmpV a b ≤ (0 : Int)) then
       bif decide (cmpV b c ≤ (0 : Int)) then
        bif decide (cmpV a c > (0 : Int)) then
         some ((AV.bool false, []))
        else
         bif decide (cmpV a b ≥ (0 : Int)) then
          bif decide (cmpV b c ≥ (0 : Int)) then
           bif decide (cmpV a c < (0 : Int)) then
            some ((AV.bool false, []))
           else
            bif cmpV a b == (0 : Int) then
             bif cmpV a c != cmpV b c then
              some ((AV.bool false, []))
             else
              some ((AV.bool true, []))
            else
             some ((AV.bool true, []))
          else
           bif cmpV a b == (0 : Int) then
            bif cmpV a c != cmpV b c then
             some ((AV.bool false, []))
            else
             some ((AV.bool true, []))
           else
            some ((AV.bool true, []))
         else
          bif cmpV a b == (0 : Int) then
           bif cmpV a c != cmpV b c then
            some ((AV.bool false, []))
           else
            some ((AV.bool true, []))
          else
           some ((AV.bool true, []))
       else
        bif decide (cmpV a b ≥ (0 : Int)) then
         bif decide (cmpV b c ≥ (0 : Int)) then
          bif decide (cmpV a c < (0 : Int)) then
           some ((AV.bool false, []))
          else
           bif cmpV a b == (0 : Int) then
            bif cmpV a c != cmpV b c then
             some ((AV.bool false, []))
            else
             some ((AV.bool true, []))
           else
            some ((AV.bool true, []))
         else
          bif cmpV a b == (0 : Int) then
           bif cmpV a c != cmpV b c then
            some ((AV.bool false, []))
           else
            some ((AV.bool true, []))
          else
           some ((AV.bool true, []))
        else
         bif cmpV a b == (0 : Int) then
          bif cmpV a c != cmpV b c then
           some ((AV.bool false, []))
          else
           some ((AV.bool true, []))
         else
          some ((AV.bool true, []))
      else
       bif decide (cmpV a b ≥ (0 : Int)) then
        bif decide (cmpV b c ≥ (0 : Int)) then
         bif decide (cmpV a c < (0 : Int)) then
          some ((AV.bool false, []))
         else
          bif cmpV a b == (0 : Int) then
           bif cmpV a c != cmpV b c then
            some ((AV.bool false, []))
           else
            some ((AV.bool true, []))
          else
           some ((AV.bool true, []))
        else
         bif cmpV a b == (0 : Int) then
          bif cmpV a c != cmpV b c then
           some ((AV.bool false, []))
          else
           some ((AV.bool true, []))
         else
          some ((AV.bool true, []))
       else
        bif cmpV a b == (0 : Int) then
         bif cmpV a c != cmpV b c then
          some ((AV.bool false, []))
         else
          some ((AV.bool true, []))
        else
         some ((AV.bool true, [])) := by kernel_rfl

end Go.Sem
namespace Go.Sem
open Go Go.Proofs Go.Ab
set_option maxRecDepth 100000
set_option linter.unusedVariables false
set_option linter.unusedSimpArgs false

/-! ### Comparisons that are orders -/
structure IsCmp {α : Type} (F : α → α → Int) : Prop where
  anti : ∀ a b, F b a = - F a b
  tr : ∀ a b c, F a b ≤ 0 → F b c ≤ 0 → F a c ≤ 0
  eqr : ∀ a b c, F a b = 0 → F a c = F b c
theorem IsCmp.self {α : Type} {F : α → α → Int} (h : IsCmp F) (a : α) : F a a = 0 := by have := h.anti a a; omega
theorem IsCmp.on {α β : Type} {F : α → α → Int} (h : IsCmp F) (k : β → α) : IsCmp fun a b => F (k a) (k b) :=
  ⟨fun a b => h.anti _ _, fun a b c => h.tr _ _ _, fun a b c => h.eqr _ _ _⟩
theorem IsCmp.lex {α : Type} {F G : α → α → Int} (hF : IsCmp F) (hG : IsCmp G) : IsCmp fun a b => if F a b ≠ 0 then F a b else G a b := by
  refine ⟨fun a b => ?_, fun a b c h1 h2 => ?_, fun a b c h => ?_⟩
  · have h1 := hF.anti a b
    have h2 := hG.anti a b
    split <;> split <;> omega
  · have t1 := hF.tr a b c
    have t2 := hG.tr a b c
    have e1 := hF.eqr a c b
    have e2 := hF.eqr a b c
    have e3 := hF.eqr b c a
    have a1 := hF.anti b c
    have a2 := hF.anti a b
    have a3 := hF.anti a c
    split at h1 <;> split at h2 <;> split <;> omega
  · have e1 := hF.eqr a b c
    have e2 := hG.eqr a b c
    split at h
    · omega
    · have e1 := e1 (by omega)
      have e2 := e2 h
      rw [e1, e2]
theorem IsCmp.congr {α : Type} {F G : α → α → Int} (hF : IsCmp F) (h : ∀ a b, G a b = F a b) : IsCmp G := by
  have : G = F := funext fun a => funext fun b => h a b
  rw [this]; exact hF
/-- Where three at a time meet some comparison that is an order. -/
theorem IsCmp.near {α : Type} {G : α → α → Int} (h : ∀ a b c, ∃ F : α → α → Int, IsCmp F ∧ ∀ x y, (x = a ∨ x = b ∨ x = c) → (y = a ∨ y = b ∨ y = c) → G x y = F x y) : IsCmp G := by
  refine ⟨fun a b => ?_, fun a b c h1 h2 => ?_, fun a b c h1 => ?_⟩
  · obtain ⟨F, hF, hG⟩ := h a b b
    rw [hG b a (by simp) (by simp), hG a b (by simp) (by simp)]; exact hF.anti a b
  · obtain ⟨F, hF, hG⟩ := h a b c
    rw [hG a b (by simp) (by simp)] at h1
    rw [hG b c (by simp) (by simp)] at h2
    rw [hG a c (by simp) (by simp)]; exact hF.tr a b c h1 h2
  · obtain ⟨F, hF, hG⟩ := h a b c
    rw [hG a b (by simp) (by simp)] at h1
    rw [hG a c (by simp) (by simp), hG b c (by simp) (by simp)]; exact hF.eqr a b c h1
theorem cmpI_cmp : IsCmp cmpI := by
  refine ⟨fun a b => ?_, fun a b c h1 h2 => ?_, fun a b c h => ?_⟩ <;> (simp only [cmpI] at *; (repeat' split at *) <;> (repeat' split) <;> omega)
theorem bytes_zero : ∀ a b : List UInt8, Lib.compareBytes a b = 0 ↔ a = b
  | [], [] => by simp [Lib.compareBytes]
  | [], _ :: _ => by simp [Lib.compareBytes]
  | _ :: _, [] => by simp [Lib.compareBytes]
  | a :: x, b :: y => by
    have ih := bytes_zero x y
    unfold Lib.compareBytes
    split
    · rename_i h; simp only [List.cons.injEq]; constructor
      · intro h; omega
      · rintro ⟨rfl, _⟩; exact absurd h (by simp)
    · split
      · rename_i h; simp only [List.cons.injEq]; constructor
        · intro h; omega
        · rintro ⟨rfl, _⟩; exact absurd h (by simp)
      · rename_i h1 h2
        have : a = b := by
          apply UInt8.toNat_inj.1
          have h1 : ¬ a.toNat < b.toNat := fun h => h1 (by simpa [UInt8.lt_iff_toNat_lt] using h)
          have h2 : ¬ b.toNat < a.toNat := fun h => h2 (by simpa [UInt8.lt_iff_toNat_lt] using h)
          omega
        subst this
        simp [ih]
theorem bytes_anti : ∀ a b : List UInt8, Lib.compareBytes b a = - Lib.compareBytes a b
  | [], [] => by simp [Lib.compareBytes]
  | [], _ :: _ => by simp [Lib.compareBytes]
  | _ :: _, [] => by simp [Lib.compareBytes]
  | a :: x, b :: y => by
    have ih := bytes_anti x y
    unfold Lib.compareBytes
    simp only [UInt8.lt_iff_toNat_lt]
    (repeat' split) <;> omega
theorem bytes_tr : ∀ a b c : List UInt8, Lib.compareBytes a b ≤ 0 → Lib.compareBytes b c ≤ 0 → Lib.compareBytes a c ≤ 0
  | [], _, [], _, _ => by simp [Lib.compareBytes]
  | [], _, _ :: _, _, _ => by simp [Lib.compareBytes]
  | _ :: _, [], _, h, _ => by simp [Lib.compareBytes] at h
  | _ :: _, _ :: _, [], _, h => by simp [Lib.compareBytes] at h
  | a :: x, b :: y, c :: z, h1, h2 => by
    have ih := bytes_tr x y z
    unfold Lib.compareBytes at h1 h2 ⊢
    simp only [UInt8.lt_iff_toNat_lt] at h1 h2 ⊢
    (repeat' split at h1) <;> (repeat' split at h2) <;> (repeat' split) <;> first | omega | exact ih h1 h2
theorem bytes_cmp : IsCmp Lib.compareBytes := ⟨bytes_anti, bytes_tr, fun a b c h => by rw [(bytes_zero a b).1 h]⟩


/-! ### Compare is an order -/
theorem cmpD_cmp : IsCmp cmpD := IsCmp.congr (IsCmp.lex (cmpI_cmp.on fun a => ((trimD a).length : Int)) (bytes_cmp.on trimD)) fun a b => rfl
/-- Two kinds, each with an order of its own. -/
theorem IsCmp.kinds {α : Type} {F G : α → α → Int} (hF : IsCmp F) (hG : IsCmp G) (p : α → Bool) : IsCmp fun a b => bif p a && p b then F a b else bif p a != p b then truthZ (p a) - truthZ (p b) else G a b := by
  refine ⟨fun a b => ?_, fun a b c => ?_, fun a b c => ?_⟩
  · have h1 := hF.anti a b
    have h2 := hG.anti a b
    cases p a <;> cases p b <;> simp_all [truthZ]
  · have h1 := hF.tr a b c
    have h2 := hG.tr a b c
    cases p a <;> cases p b <;> cases p c <;> simp_all [truthZ]
  · have h1 := hF.eqr a b c
    have h2 := hG.eqr a b c
    cases p a <;> cases p b <;> cases p c <;> simp_all [truthZ]
def lexF {α : Type} (F : α → α → Int) : List α → List α → Int
  | [], [] => 0
  | [], _ :: _ => -1
  | _ :: _, [] => 1
  | a :: l, b :: r => if F a b ≠ 0 then F a b else lexF F l r
theorem lexF_anti {α : Type} {F : α → α → Int} (h : IsCmp F) : ∀ a b, lexF F b a = - lexF F a b
  | [], [] => rfl
  | [], _ :: _ => rfl
  | _ :: _, [] => rfl
  | a :: l, b :: r => by
    have h1 := h.anti a b
    have h2 := lexF_anti h l r
    unfold lexF
    split <;> split <;> omega
theorem lexF_tr {α : Type} {F : α → α → Int} (h : IsCmp F) : ∀ a b c, lexF F a b ≤ 0 → lexF F b c ≤ 0 → lexF F a c ≤ 0
  | [], _, [], _, _ => by simp [lexF]
  | [], _, _ :: _, _, _ => by simp [lexF]
  | _ :: _, [], _, h1, _ => by simp [lexF] at h1
  | _ :: _, _ :: _, [], _, h2 => by simp [lexF] at h2
  | a :: l, b :: r, c :: m, h1, h2 => by
    have t1 := h.tr a b c
    have t2 := lexF_tr h l r m
    have e1 := h.eqr a c b
    have e2 := h.eqr a b c
    have e3 := h.eqr b c a
    have a1 := h.anti b c
    have a2 := h.anti a b
    have a3 := h.anti a c
    unfold lexF at h1 h2 ⊢
    split at h1 <;> split at h2 <;> split <;> omega
theorem lexF_eqr {α : Type} {F : α → α → Int} (h : IsCmp F) : ∀ a b c, lexF F a b = 0 → lexF F a c = lexF F b c
  | [], [], c, _ => rfl
  | [], _ :: _, _, h1 => by simp [lexF] at h1
  | _ :: _, [], _, h1 => by simp [lexF] at h1
  | a :: l, b :: r, [], h1 => rfl
  | a :: l, b :: r, c :: m, h1 => by
    have e1 := h.eqr a b c
    have e2 := lexF_eqr h l r m
    unfold lexF at h1 ⊢
    split at h1
    · omega
    · rw [e1 (by omega), e2 h1]
theorem lexF_cmp {α : Type} {F : α → α → Int} (h : IsCmp F) : IsCmp (lexF F) := ⟨lexF_anti h, lexF_tr h, lexF_eqr h⟩
theorem zero_cmp {α : Type} : IsCmp fun _ _ : α => (0 : Int) := ⟨fun _ _ => rfl, fun _ _ _ _ _ => Int.le_refl _, fun _ _ _ _ => rfl⟩
theorem idO_cmp : IsCmp idO := IsCmp.congr (IsCmp.kinds bytes_cmp cmpD_cmp fun a => !dgs a) fun a b => by
  unfold idO
  cases dgs a <;> cases dgs b <;> simp [truthZ]
theorem difI_lex : ∀ l r : List (List UInt8), (bif (difI l r).isSome then ((difI l r).getD (0, 0)).2 else truthZ (decide ((l.length : Int) > r.length)) - truthZ (decide ((l.length : Int) < r.length))) = lexF idO l r
  | [], [] => rfl
  | [], _ :: _ => by simp [difI, lexF, truthZ]; omega
  | _ :: _, [] => by simp [difI, lexF, truthZ]; omega
  | a :: l, b :: r => by
    have ih := difI_lex l r
    unfold difI lexF
    by_cases h : idO a b = 0
    · simp only [h, bne_self_eq_false, cond_false, ne_eq, not_true_eq_false, if_false]
      rw [← ih]
      cases difI l r with
      | none =>
        simp only [Option.map_none, Option.isSome_none, cond_false, List.length_cons, Int.natCast_add, Int.natCast_one]
        rw [show decide (((l.length : Int) + 1) > (r.length : Int) + 1) = decide ((l.length : Int) > r.length) by rw [decide_eq_decide]; omega,
          show decide (((l.length : Int) + 1) < (r.length : Int) + 1) = decide ((l.length : Int) < r.length) by rw [decide_eq_decide]; omega]
      | some x => rfl
    · have : (idO a b != 0) = true := by simpa using h
      simp [this, h]
theorem preO_cmp : IsCmp preO := IsCmp.congr (IsCmp.kinds zero_cmp (lexF_cmp idO_cmp) fun l : List (List UInt8) => l.isEmpty) fun l r => by
  unfold preO
  rw [difI_lex]
  cases l <;> cases r <;> simp [truthZ, lexF] <;> omega
theorem orZ_if (x y : Int) : orZ x y = if x ≠ 0 then x else y := by
  unfold orZ
  by_cases h : x = 0
  · subst h; rfl
  · rw [if_pos h, show (x != 0) = true by simpa using h]; rfl
theorem ordP_cmp : IsCmp ordP := by
  have := IsCmp.lex (cmpD_cmp.on Ver.mj) (IsCmp.lex (cmpD_cmp.on Ver.mn) (IsCmp.lex (cmpD_cmp.on Ver.pt) (IsCmp.lex (preO_cmp.on Ver.pre) (zero_cmp (α := Ver)))))
  refine this.congr fun v w => ?_
  unfold ordP
  simp only [orZ_if]
theorem cmpV_cmp : IsCmp cmpV := IsCmp.congr (IsCmp.kinds (ordP_cmp.on fun s => prVer (parseS s)) bytes_cmp okP) fun a b => rfl

def unit3 (n : Int) : Prop := -1 ≤ n ∧ n ≤ 1
theorem bytes_unit : ∀ a b : List UInt8, unit3 (Lib.compareBytes a b)
  | [], [] => by unfold Lib.compareBytes unit3; omega
  | [], _ :: _ => by unfold Lib.compareBytes unit3; omega
  | _ :: _, [] => by unfold Lib.compareBytes unit3; omega
  | a :: x, b :: y => by
    have := bytes_unit x y
    unfold unit3 at this ⊢
    unfold Lib.compareBytes
    (repeat' split) <;> omega
theorem cmpD_unit (a b : List UInt8) : unit3 (cmpD a b) := by
  have := bytes_unit (trimD a) (trimD b)
  unfold unit3 at this ⊢
  unfold cmpD cmpI
  (repeat' split) <;> omega
theorem truth_unit (a b : Bool) : unit3 (truthZ a - truthZ b) := by cases a <;> cases b <;> (unfold unit3; decide)
theorem idO_unit (a b : List UInt8) : unit3 (idO a b) := by
  have h1 := bytes_unit a b
  have h2 := cmpD_unit a b
  have h3 := truth_unit (dgs b) (dgs a)
  unfold idO
  cases dgs a <;> cases dgs b <;> first | exact h1 | exact h2 | exact truth_unit _ _
theorem lex_unit : ∀ l r : List (List UInt8), unit3 (lexF idO l r)
  | [], [] => by unfold lexF unit3; omega
  | [], _ :: _ => by unfold lexF unit3; omega
  | _ :: _, [] => by unfold lexF unit3; omega
  | a :: l, b :: r => by
    have h1 := lex_unit l r
    have h2 := idO_unit a b
    unfold lexF
    split
    · exact h2
    · exact h1
theorem preO_unit (l r : List (List UInt8)) : unit3 (preO l r) := by
  unfold preO
  rw [difI_lex]
  cases ((l.length : Int) == 0 || (r.length : Int) == 0)
  · exact lex_unit l r
  · exact truth_unit _ _
theorem ordP_unit (v w : Ver) : unit3 (ordP v w) := by
  have h1 := cmpD_unit v.mj w.mj
  have h2 := cmpD_unit v.mn w.mn
  have h3 := cmpD_unit v.pt w.pt
  have h4 := preO_unit v.pre w.pre
  unfold ordP
  simp only [orZ_if]
  unfold unit3 at *
  (repeat' split) <;> omega
theorem cmpV_unit (a b : List UInt8) : unit3 (cmpV a b) := by
  have h1 := ordP_unit (prVer (parseS a)) (prVer (parseS b))
  have h2 := truth_unit (okP a) (okP b)
  have h3 := bytes_unit a b
  unfold cmpV
  cases okP a <;> cases okP b <;> first | exact h1 | exact h3 | exact truth_unit _ _
theorem treeTrue (a b c : List UInt8) : (evn tabW h3 noLoops 3 [.str a, .str b, .str c] []).run = some (.bool true, []) := by
  refine (t3 a b c).trans ?_
  have u1 := cmpV_unit a b
  have u2 := cmpV_unit b c
  have u3 := cmpV_unit a c
  have h1 := cmpV_cmp.anti a b
  have h2 := cmpV_cmp.self a
  have t1 := cmpV_cmp.tr a b c
  have t2 := cmpV_cmp.tr c b a
  have e1 := cmpV_cmp.eqr a b c
  have a2 := cmpV_cmp.anti b c
  have a3 := cmpV_cmp.anti a c
  generalize cmpV a b = x at *
  generalize cmpV b c = y at *
  generalize cmpV a c = z at *
  generalize cmpV b a = x' at *
  generalize cmpV c b = y' at *
  generalize cmpV c a = z' at *
  unfold unit3 at *
  have hw : IntKind.i64.wrap (0 - x) = -x := by rw [w64 (by omega) (by omega)]; omega
  rw [decide_eq_false (show ¬ x < -1 by omega), decide_eq_false (show ¬ x > 1 by omega), hw, h1, h2]
  simp only [bne_self_eq_false, cond_false]
  simp only [Bool.cond_eq_ite, decide_eq_true_eq, beq_iff_eq, bne_iff_ne, ne_eq]
  (repeat' split) <;> first | rfl | (exfalso; omega)
end Go.Sem

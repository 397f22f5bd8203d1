/- Lemmas for the claims of this seat (a verified symbolic evaluator, and contracts of functions): own work; no condition. -/
import Derived.Test.YtdkmbohpmfakkaaDoorFnJ
namespace Go.Mvn
open Go Go.Proofs Go.Ab
set_option linter.unusedVariables false
set_option maxRecDepth 100000

/-! ### Splitting, from any place on -/
theorem getD_drop (s : List UInt8) (a i : Nat) : (s.drop a).getD i 0 = s.getD (a + i) 0 := by
  rw [List.getD_eq_getElem?_getD, List.getD_eq_getElem?_getD, List.getElem?_drop]
theorem fxN_drop {q : UInt8 → Bool} (s : List UInt8) (a i : Nat) : fxN q s (a + i) = a + fxN q (s.drop a) i := by
  unfold fxN
  rw [List.drop_drop]; omega
theorem kN_drop {s : List UInt8} {a i : Nat} (h : a ≤ s.length) : kN s (a + i) = a + kN (s.drop a) i := by
  rw [kN_fx, kN_fx, getD_drop]
  have e : (a + i < s.length) ↔ (i < (s.drop a).length) := by rw [List.length_drop]; omega
  by_cases hc : a + i < s.length ∧ digC (s.getD (a + i) 0) = true
  · rw [if_pos hc, if_pos ⟨e.1 hc.1, hc.2⟩, fxN_drop]
  · rw [if_neg hc, if_neg (fun q => hc ⟨e.2 q.1, q.2⟩), fxN_drop]
theorem cutX_nat (s : List UInt8) (a k : Nat) : cutX s a k = (s.drop a).take (k - a) := by
  unfold cutX; simp only [Int.toNat_natCast]
theorem nearN_drop {s : List UInt8} {a k : Nat} (h : a ≤ s.length) : nearN s (a + k) = nearN (s.drop a) k := by
  unfold nearN
  rw [getD_drop]
  congr 1
  rw [Bool.eq_iff_iff, decide_eq_true_eq, decide_eq_true_eq, List.length_drop]; omega
theorem tokAt_drop {s : List UInt8} {d : Bool} {a i : Nat} (h : a ≤ s.length) : tokAt s d (a + i) = tokAt (s.drop a) d i := by
  unfold tokAt
  rw [kN_drop h, nearN_drop h]
  have : cutX s ((a + i : Nat) : Int) ((a + kN (s.drop a) i : Nat) : Int) = cutX (s.drop a) i (kN (s.drop a) i) := by
    rw [cutX_nat, cutX_nat, List.drop_drop]
    congr 1; omega
  rw [this]
theorem nextB_drop {s : List UInt8} {a k : Nat} : nextB s (a + k) = nextB (s.drop a) k := by
  unfold nextB; rw [getD_drop]
theorem nextA_drop {s : List UInt8} {a k : Nat} : nextA s (a + k) = a + nextA (s.drop a) k := by
  unfold nextA; rw [getD_drop]
  cases partC (s.getD (a + k) 0) <;> simp <;> omega
theorem spl_drop {s : List UInt8} {a : Nat} (h : a ≤ s.length) : ∀ (m : Nat) (d : Bool) (i : Nat), spl m s d (a + i) = spl m (s.drop a) d i
  | 0, d, i => by unfold spl; rw [tokAt_drop h]
  | m + 1, d, i => by
    unfold spl
    rw [tokAt_drop h, kN_drop h, nextB_drop, nextA_drop, spl_drop h m]
    have e : (s.length ≤ a + kN (s.drop a) i) ↔ ((s.drop a).length ≤ kN (s.drop a) i) := by rw [List.length_drop]; omega
    by_cases hc : s.length ≤ a + kN (s.drop a) i
    · rw [if_pos hc, if_pos (e.1 hc)]
    · rw [if_neg hc, if_neg (fun q => hc (e.2 q))]
theorem splS_drop {s : List UInt8} {d : Bool} {a : Nat} (h : a ≤ s.length) : splS s d a = splS (s.drop a) d 0 := by
  unfold splS
  have := spl_drop h (s.length - a) d 0
  rw [Nat.add_zero] at this
  rw [this, List.length_drop, Nat.sub_zero]
theorem splS_start (s : List UInt8) (d : Bool) : splS s d 0 = if s.length ≤ kN s 0 then [tokAt s d 0] else tokAt s d 0 :: splS (s.drop (nextA s (kN s 0))) (nextB s (kN s 0)) 0 := by
  rw [splS_step (Nat.zero_le _)]
  split
  · rfl
  · rename_i h
    rw [splS_drop (next_lt (Nat.zero_le _) h).1]
theorem takeWhile_cat {q : UInt8 → Bool} : ∀ {x y : List UInt8}, (∀ b, b ∈ x → q b = true) → (∀ c r, y = c :: r → q c = false) → (x ++ y).takeWhile q = x
  | [], [], _, _ => rfl
  | [], c :: r, _, h => by
    rw [List.nil_append, List.takeWhile_cons, h c r rfl]; rfl
  | b :: x, y, h, h2 => by
    rw [List.cons_append, List.takeWhile_cons, h b (by simp), if_pos rfl, takeWhile_cat (fun c hc => h c (by simp [hc])) h2]
/-- Bytes of one token. -/
def UniX (x : List UInt8) : Prop := (x ≠ [] ∧ ∀ b, b ∈ x → digC b = true) ∨ ∀ b, b ∈ x → ndB b = true
theorem part_not {c : UInt8} (h : partC c = true) : digC c = false ∧ ndB c = false := by
  have := part_dig c
  rw [h, Bool.true_and] at this
  exact ⟨this, by rw [nd_eq, h]; rfl⟩
theorem nd_dig {b : UInt8} (h : ndB b = true) : digC b = false := by
  rw [nd_eq, Bool.and_eq_true, Bool.not_eq_true', Bool.not_eq_true'] at h
  exact h.2
theorem kN_cat {x y : List UInt8} (hx : UniX x) (hy : ∀ c r, y = c :: r → partC c = true) : kN (x ++ y) 0 = x.length := by
  have hd : ∀ c r, y = c :: r → digC c = false := fun c r e => (part_not (hy c r e)).1
  have hn : ∀ c r, y = c :: r → ndB c = false := fun c r e => (part_not (hy c r e)).2
  rw [kN_fx]
  rcases hx with ⟨h1, h2⟩ | h2
  · obtain ⟨b, x', rfl⟩ : ∃ b x', x = b :: x' := by cases x with
      | nil => exact absurd rfl h1
      | cons b x' => exact ⟨b, x', rfl⟩
    rw [if_pos ⟨by simp, h2 b (by simp)⟩]
    unfold fxN
    rw [List.drop_zero, takeWhile_cat h2 hd, Nat.zero_add]
  · have hc : ¬ (0 < (x ++ y).length ∧ digC ((x ++ y).getD 0 0) = true) := by
      rintro ⟨q1, q2⟩
      cases x with
      | nil =>
        cases y with
        | nil => simp at q1
        | cons c r =>
          have : digC c = true := q2
          rw [hd c r rfl] at this; cases this
      | cons b x' =>
        have : digC b = true := q2
        rw [nd_dig (h2 b (by simp))] at this; cases this
    rw [if_neg hc]
    unfold fxN
    rw [List.drop_zero, takeWhile_cat h2 hn, Nat.zero_add]
theorem spl_last {x : List UInt8} (hx : UniX x) (d : Bool) : splS x d 0 = [⟨d, tokN x, tokS x false⟩] := by
  have hk := kN_cat (y := []) hx (fun c r e => by cases e)
  rw [List.append_nil] at hk
  rw [splS_start, hk, if_pos (Nat.le_refl _)]
  unfold tokAt
  rw [hk]
  have e1 : cutX x ((0 : Nat) : Int) (x.length : Int) = x := by rw [cutX_nat]; simp
  have e2 : nearN x x.length = false := by unfold nearN; rw [decide_eq_false (Nat.lt_irrefl _)]; rfl
  rw [e1, e2]
theorem spl_cut {x r : List UInt8} {c : UInt8} (hx : UniX x) (hc : partC c = true) (d : Bool) : splS (x ++ c :: r) d 0 = ⟨d, tokN x, tokS x false⟩ :: splS r ((c.toNat : Int) == 45) 0 := by
  have hk := kN_cat (y := c :: r) hx (fun c' r' e => by injection e with e1 e2; rw [← e1]; exact hc)
  have hg : (x ++ c :: r).getD x.length 0 = c := by
    rw [List.getD_eq_getElem?_getD, List.getElem?_append_right (Nat.le_refl _), Nat.sub_self]; rfl
  rw [splS_start, hk, if_neg (by simp)]
  have e0 : nextA (x ++ c :: r) x.length = x.length + 1 := by unfold nextA; rw [hg, hc]; rfl
  have e3 : nextB (x ++ c :: r) x.length = ((c.toNat : Int) == 45) := by unfold nextB; rw [hg, hc]; rfl
  have e4 : (x ++ c :: r).drop (x.length + 1) = r := by
    rw [List.drop_append, List.drop_of_length_le (by omega), List.nil_append, Nat.add_sub_cancel_left]; rfl
  rw [e0, e3, e4]
  congr 1
  unfold tokAt
  rw [hk]
  have e1 : cutX (x ++ c :: r) ((0 : Nat) : Int) (x.length : Int) = x := by rw [cutX_nat]; simp
  have e2 : nearN (x ++ c :: r) x.length = false := by
    unfold nearN
    rw [hg, (part_not hc).1, Bool.and_false]
  rw [e1, e2]
/-! ### The canonical text, split -/
/-- What stands for a token. -/
def xtT (t : Tok) : List UInt8 := bif t.text == [] then [102, 105, 110, 97, 108] else t.text
def sepT (t : Tok) : UInt8 := bif t.dash then 45 else 46
def joinT : List Tok → List UInt8
  | [] => []
  | t :: r => sepT t :: (xtT t ++ joinT r)
theorem joinT_app : ∀ (l : List Tok) (t : Tok), joinT (l ++ [t]) = joinT l ++ (sepT t :: xtT t)
  | [], t => by simp [joinT]
  | u :: l, t => by simp [joinT, joinT_app l t]
theorem canL_join (f : Nat → Tok) : ∀ n, canL f (n + 1) = xtT (f 0) ++ joinT (listOf (fun i => f (i + 1)) n)
  | 0 => by
    show [] ++ pieceT 0 (f 0) = xtT (f 0) ++ []
    rw [List.append_nil]; rfl
  | n + 1 => by
    show canL f (n + 1) ++ pieceT (n + 1) (f (n + 1)) = _
    rw [canL_join f n]
    have e : listOf (fun i => f (i + 1)) (n + 1) = listOf (fun i => f (i + 1)) n ++ [f (n + 1)] := by unfold listOf; rw [List.range_succ, List.map_append]; rfl
    have e2 : pieceT (n + 1) (f (n + 1)) = sepT (f (n + 1)) :: xtT (f (n + 1)) := by
      unfold pieceT sepT
      rw [if_neg (by omega)]
      cases (f (n + 1)).dash <;> rfl
    rw [e, joinT_app, e2, List.append_assoc]
theorem low_id {b : UInt8} (h : quB b = true) : lowB b = b ∧ ndB b = true ∧ vb b = true := by
  have key : ∀ n : Nat, n < 256 → quB (UInt8.ofNat n) = true → lowB (UInt8.ofNat n) = UInt8.ofNat n ∧ ndB (UInt8.ofNat n) = true ∧ vb (UInt8.ofNat n) = true := by decide
  have hb := key b.toNat (UInt8.toNat_lt b)
  rw [UInt8.ofNat_toNat] at hb
  exact hb h
theorem dig_vb {b : UInt8} (h : digC b = true) : vb b = true := by
  have key : ∀ n : Nat, n < 256 → digC (UInt8.ofNat n) = true → vb (UInt8.ofNat n) = true := by decide
  have hb := key b.toNat (UInt8.toNat_lt b)
  rw [UInt8.ofNat_toNat] at hb
  exact hb h
theorem qua_all {x : List UInt8} (h : quaB x = true) : ∀ b, b ∈ x → quB b = true := by
  unfold quaB at h
  cases hq : alN quB x 0 with
  | true =>
    unfold alN at hq
    rw [List.drop_zero, List.all_eq_true] at hq
    exact hq
  | false => rw [hq] at h; cases h
theorem runD_all {x : List UInt8} (h : runD x 0 = x.length) : ∀ b, b ∈ x → digC b = true := by
  unfold runD runL at h
  have h2 : (x.takeWhile digB).length = x.length := by
    rw [if_neg (by omega)] at h
    simp only [Int.toNat_zero, List.drop_zero] at h
    omega
  have e : x.takeWhile digB = x := by
    have h4 := tw_take digB x
    rw [List.take_of_length_le (by omega)] at h4
    exact h4.symm
  intro b hb
  rw [← e] at hb
  exact (tw_mem hb).1
/-- A fit token, read back from what stands for it. -/
theorem xt_back {t : Tok} (h : TokQ t) (d : Bool) : UniX (xtT t) ∧ tokN (xtT t) = t.num ∧ tokS (xtT t) false = t.text ∧ ∀ b, b ∈ xtT t → vb b = true := by
  obtain ⟨h1, h2⟩ := h
  unfold xtT
  cases hn : t.num with
  | true =>
    obtain ⟨q1, q2, q3⟩ := h1 hn
    have hd := runD_all q2
    rw [show (t.text == []) = false by rw [Bool.eq_false_iff]; simpa using q1, cond_false]
    have hN : tokN t.text = true := by
      unfold tokN
      rw [show (t.text == []) = false by rw [Bool.eq_false_iff]; simpa using q1, cond_false]
      cases hx : t.text with
      | nil => exact absurd hx q1
      | cons b x => exact hd b (by rw [hx]; simp)
    refine ⟨.inl ⟨q1, hd⟩, hN, ?_, fun b hb => dig_vb (hd b hb)⟩
    unfold tokS
    rw [hN, cond_true, q3]
  | false =>
    have hq := h2 hn
    cases he : t.text == [] with
    | true =>
      rw [cond_true]
      have e : t.text = [] := by simpa using he
      rw [e]
      exact ⟨.inr (by decide), rfl, rfl, by decide⟩
    | false =>
      rw [cond_false]
      have ha := qua_all hq
      have hN : tokN t.text = false := by
        unfold tokN
        rw [he, cond_false]
        cases hx : t.text with
        | nil => rw [hx] at he; cases he
        | cons b x =>
          have := nd_dig (low_id (ha b (by rw [hx]; simp))).2.1
          exact this
      refine ⟨.inr fun b hb => (low_id (ha b hb)).2.1, hN, ?_, fun b hb => (low_id (ha b hb)).2.2⟩
      unfold tokS
      rw [hN, cond_false]
      have hl : lowF t.text 0 = t.text := by
        rw [lowF_zero]
        conv => rhs; rw [← List.map_id t.text]
        exact List.map_congr_left fun b hb => (low_id (ha b hb)).1
      rw [hl]
      unfold quaB at hq
      unfold quaT
      cases h4 : (t.text == [99, 114]) <;> cases h5 : (t.text == [102, 105, 110, 97, 108]) <;> cases h6 : (t.text == [103, 97]) <;> cases h7 : (t.text == [114, 101, 108, 101, 97, 115, 101]) <;> rw [h4, h5, h6, h7] at hq <;> first | rfl | (cases hx : alN quB t.text 0 <;> rw [hx] at hq <;> cases hq)
theorem spl_join : ∀ (r : List Tok) (t : Tok) (d : Bool), TokQ t → (∀ u, u ∈ r → TokQ u) → splS (xtT t ++ joinT r) d 0 = ⟨d, t.num, t.text⟩ :: r
  | [], t, d, h, _ => by
    obtain ⟨h1, h2, h3, _⟩ := xt_back h d
    show splS (xtT t ++ []) d 0 = _
    rw [List.append_nil, spl_last h1, h2, h3]
  | u :: r, t, d, h, hr => by
    obtain ⟨h1, h2, h3, _⟩ := xt_back h d
    show splS (xtT t ++ sepT u :: (xtT u ++ joinT r)) d 0 = _
    have hs : partC (sepT u) = true := by unfold sepT; cases u.dash <;> rfl
    have hs2 : (((sepT u).toNat : Int) == 45) = u.dash := by unfold sepT; cases u.dash <;> rfl
    rw [spl_cut h1 hs, h2, h3, hs2, spl_join r u u.dash (hr u (by simp)) (fun w hw => hr w (by simp [hw]))]
theorem toks_q {s : List UInt8} (h : okT s = true) : ∀ u, u ∈ toks s → TokQ u := by
  have hv := okT_vb h
  have := tok_each (Q := TokQ) (s := s) (fun d a near => tok_ok (cut_ok hv a) d near) ⟨fun _ => ⟨by simp, by rfl, by rfl⟩, fun q => by cases q⟩ (fun t q => q)
  intro u hu
  obtain ⟨i, hi⟩ := List.mem_iff_getElem?.1 hu
  have hl := (List.getElem?_eq_some_iff.1 hi).1
  unfold toks at hi hl
  rw [listOf_length] at hl
  rw [listOf_get hl] at hi
  injection hi with hi
  rw [← hi]
  exact this i hl
/-- What is handed out is handed out again. -/
theorem fin_norm (l : List Tok) : finT (normT (finT (normT l))) = finT (normT l) := by
  have hfix : ∀ l, normT (normT l) = normT l := by
    intro l
    induction l with
    | nil => rfl
    | cons t r ih =>
      rw [normT.eq_2]
      cases hc : nullT t.num t.text && looseH (normT r) with
      | true => rw [cond_true]; exact ih
      | false =>
        rw [cond_false, normT.eq_2, ih, hc]; rfl
  have h := hfix l
  cases hn : normT l with
  | nil => rfl
  | cons t r =>
    rw [hn] at h
    show finT (normT (⟨false, t.num, t.text⟩ :: r)) = ⟨false, t.num, t.text⟩ :: r
    rw [normT.eq_2] at h ⊢
    have hr : (nullT t.num t.text && looseH (normT r)) = false ∧ normT r = r := by
      cases hc : nullT t.num t.text && looseH (normT r) with
      | true =>
        rw [hc, cond_true] at h
        have h2 := hfix r
        rw [h] at h2
        have h3 : (normT r).length ≤ r.length := by
          clear h h2 hc hn
          induction r with
          | nil => exact Nat.le_refl _
          | cons u r ih =>
            unfold normT
            cases (nullT u.num u.text && looseH (normT r)) <;> simp <;> omega
        rw [h] at h3
        simp at h3
        omega
      | false =>
        rw [hc, cond_false] at h
        injection h with _ h
        exact ⟨rfl, h⟩
    show finT (bif nullT t.num t.text && looseH (normT r) then normT r else ⟨false, t.num, t.text⟩ :: normT r) = _
    rw [hr.1, hr.2]
    rfl
theorem toks_fix {s : List UInt8} : finT (normT (toks s)) = toks s := by
  rw [toks_eq]; exact fin_norm _
theorem toks_head {s : List UInt8} : ∃ t r, toks s = t :: r ∧ t.dash = false := by
  rw [toks_eq]
  cases normT (splS s false 0) with
  | nil => exact ⟨_, _, rfl, rfl⟩
  | cons t r => exact ⟨_, _, rfl, rfl⟩
theorem canS_join {s : List UInt8} (h : okT s = true) {t : Tok} {r : List Tok} (e : toks s = t :: r) : canS s = xtT t ++ joinT r := by
  rw [canS_toks h, e]
  have h0 : fnT (t :: r) 0 = t := rfl
  have h1 : listOf (fun i => fnT (t :: r) (i + 1)) r.length = r := fnT_list r
  show canL (fnT (t :: r)) (r.length + 1) = _
  rw [canL_join, h0, h1]
theorem join_vb : ∀ (r : List Tok), (∀ u, u ∈ r → TokQ u) → ∀ b, b ∈ joinT r → vb b = true
  | [], _, b, hb => by simp [joinT] at hb
  | u :: r, h, b, hb => by
    simp only [joinT, List.mem_cons, List.mem_append] at hb
    rcases hb with rfl | hb | hb
    · unfold sepT; cases u.dash <;> rfl
    · exact (xt_back (h u (by simp)) false).2.2.2 b hb
    · exact join_vb r (fun w hw => h w (by simp [hw])) b hb
theorem okT_of {s : List UInt8} (h1 : s.length ≤ 64) (h2 : s ≠ []) (h3 : ∀ b, b ∈ s → vb b = true) : okT s = true := by
  unfold okT
  rw [decide_eq_false (by omega), show (s == []) = false by rw [Bool.eq_false_iff]; simpa using h2]
  have : fxN vb s 0 = s.length := by
    unfold fxN
    have := takeWhile_cat (q := vb) (x := s) (y := []) h3 (fun c r e => by cases e)
    rw [List.append_nil] at this
    rw [List.drop_zero, this, Nat.zero_add]
  rw [this, decide_eq_false (Nat.lt_irrefl _)]
  rfl
/-- **THE CANONICAL TEXT's TOKENS.** -/
theorem canS_back {s : List UInt8} (h : okT s = true) (hl : (canS s).length ≤ 64) : okT (canS s) = true ∧ toks (canS s) = toks s := by
  obtain ⟨t, r, e, hd⟩ := toks_head (s := s)
  have hq := toks_q h
  rw [e] at hq
  have hj := canS_join h e
  have ht := hq t (by simp)
  have hr : ∀ u, u ∈ r → TokQ u := fun u hu => hq u (by simp [hu])
  constructor
  · refine okT_of hl ?_ fun b hb => ?_
    · intro e2
      have hne := canL_ne (f := tokF s) (tokL_pos s)
      have : canS s = canL (tokF s) (tokL s) := by unfold canS; rw [h]; rfl
      rw [← this, e2] at hne
      simp at hne
    · rw [hj, List.mem_append] at hb
      rcases hb with hb | hb
      · exact (xt_back ht false).2.2.2 b hb
      · exact join_vb r hr b hb
  · have hs : splS (canS s) false 0 = toks s := by
      rw [hj, spl_join r t false ht hr, e]
      obtain ⟨d, n, x⟩ := t
      simp only at hd
      rw [hd]
    rw [toks_eq (canS s), hs, toks_fix]
theorem cmpM_toks {a b : List UInt8} (ha : okT a = true) (hb : okT b = true) (h : toks a = toks b) : cmpM a b = 0 := by
  have hl : tokL a = tokL b := by rw [← toks_len a, ← toks_len b, h]
  have hf : ∀ i, i < tokL a → tokF a i = tokF b i := fun i hi => by
    rw [← fnT_toks hi, h, fnT_toks (by omega)]
  unfold cmpM
  rw [ha, hb, cond_true, cond_true, ordL_cmpN (fit_ok ha) (fit_ok hb) (Nat.le_refl _) (by omega : tokL b ≤ tokL a)]
  have : padF (tokF a) (tokL a) = padF (tokF b) (tokL b) := by
    funext i
    unfold padF
    rw [← hl]
    by_cases hi : i < tokL a
    · rw [if_pos hi, if_pos hi, hf i hi]
    · rw [if_neg hi, if_neg hi]
  rw [this]
  exact (cmpN_cmp (tokL a) 0).self _
end Go.Mvn
namespace Go.Mvn
open Go Go.Proofs Go.Ab
set_option linter.unusedVariables false
set_option maxRecDepth 100000

/-! ### A tail behind a separator -/
theorem fxN_cat {q : UInt8 → Bool} {s : List UInt8} {c : UInt8} {r : List UInt8} (hc : q c = false) {a : Nat} (h : a ≤ s.length) : fxN q (s ++ c :: r) a = fxN q s a := by
  unfold fxN
  rw [List.drop_append_of_le_length h]
  congr 2
  generalize s.drop a = t
  induction t with
  | nil => rw [List.nil_append, List.takeWhile_cons, hc]; rfl
  | cons b t ih =>
    rw [List.cons_append, List.takeWhile_cons, List.takeWhile_cons, ih]
theorem getD_cat {s : List UInt8} {c : UInt8} {r : List UInt8} {a : Nat} (h : a < s.length) : (s ++ c :: r).getD a 0 = s.getD a 0 := by
  rw [List.getD_eq_getElem?_getD, List.getD_eq_getElem?_getD, List.getElem?_append_left h]
theorem getD_at {s : List UInt8} {c : UInt8} {r : List UInt8} : (s ++ c :: r).getD s.length 0 = c := by
  rw [List.getD_eq_getElem?_getD, List.getElem?_append_right (Nat.le_refl _), Nat.sub_self]; rfl
theorem kN_tail {s : List UInt8} {c : UInt8} {r : List UInt8} (hc : partC c = true) {a : Nat} (h : a ≤ s.length) : kN (s ++ c :: r) a = kN s a := by
  rw [kN_fx, kN_fx, fxN_cat (part_not hc).1 h, fxN_cat (part_not hc).2 h]
  by_cases hl : a < s.length
  · rw [getD_cat hl]
    by_cases hd : digC (s.getD a 0) = true
    · rw [if_pos ⟨by simp; omega, hd⟩, if_pos ⟨hl, hd⟩]
    · rw [if_neg (fun q => hd q.2), if_neg (fun q => hd q.2)]
  · obtain rfl : a = s.length := by omega
    rw [getD_at, if_neg (fun q => by rw [(part_not hc).1] at q; cases q.2), if_neg (fun q => hl q.1)]
theorem tokAt_tail {s : List UInt8} {c : UInt8} {r : List UInt8} (hc : partC c = true) {d : Bool} {a : Nat} (h : a ≤ s.length) : tokAt (s ++ c :: r) d a = tokAt s d a := by
  have hk := kN_le' h
  unfold tokAt
  rw [kN_tail hc h]
  have e1 : cutX (s ++ c :: r) (a : Int) (kN s a : Int) = cutX s a (kN s a) := by
    rw [cutX_nat, cutX_nat, List.drop_append_of_le_length h, List.take_append_of_le_length (by rw [List.length_drop]; omega)]
  have e2 : nearN (s ++ c :: r) (kN s a) = nearN s (kN s a) := by
    unfold nearN
    by_cases hl : kN s a < s.length
    · rw [getD_cat hl, decide_eq_true hl, decide_eq_true (by simp; omega)]
    · have : kN s a = s.length := by omega
      rw [this, getD_at, (part_not hc).1, decide_eq_false (Nat.lt_irrefl _), Bool.and_false]; rfl
  rw [e1, e2]
theorem spl_tail {s : List UInt8} {c : UInt8} {r : List UInt8} (hc : partC c = true) : ∀ (m a : Nat) (d : Bool), a ≤ s.length → s.length - a ≤ m → splS (s ++ c :: r) d a = splS s d a ++ splS r ((c.toNat : Int) == 45) 0 := by
  intro m
  induction m with
  | zero =>
    intro a d h hm
    obtain rfl : a = s.length := by omega
    have hk := kN_le' h
    have hk2 : kN s s.length = s.length := by omega
    rw [splS_step (by simp), splS_step h, kN_tail hc h, tokAt_tail hc h, hk2, if_pos (Nat.le_refl _), if_neg (by simp)]
    have eA : nextA (s ++ c :: r) s.length = s.length + 1 := by unfold nextA; rw [getD_at, hc]; rfl
    have eB : nextB (s ++ c :: r) s.length = ((c.toNat : Int) == 45) := by unfold nextB; rw [getD_at, hc]; rfl
    rw [eA, eB, splS_drop (by simp), List.drop_append, List.drop_of_length_le (by omega), Nat.add_sub_cancel_left]
    rfl
  | succ m ih =>
    intro a d h hm
    have hk := kN_le' h
    rw [splS_step (by simp; omega), splS_step h, kN_tail hc h, tokAt_tail hc h]
    by_cases hl : s.length ≤ kN s a
    · have hk2 : kN s a = s.length := by omega
      rw [if_pos hl, hk2, if_neg (by simp)]
      have eA : nextA (s ++ c :: r) s.length = s.length + 1 := by unfold nextA; rw [getD_at, hc]; rfl
      have eB : nextB (s ++ c :: r) s.length = ((c.toNat : Int) == 45) := by unfold nextB; rw [getD_at, hc]; rfl
      rw [eA, eB, splS_drop (by simp), List.drop_append, List.drop_of_length_le (by omega), Nat.add_sub_cancel_left]
      rfl
    · rw [if_neg hl, if_neg (by simp; omega)]
      have hn := next_lt h hl
      have eA : nextA (s ++ c :: r) (kN s a) = nextA s (kN s a) := by unfold nextA; rw [getD_cat (by omega)]
      have eB : nextB (s ++ c :: r) (kN s a) = nextB s (kN s a) := by unfold nextB; rw [getD_cat (by omega)]
      rw [eA, eB, ih _ _ hn.1 (by omega)]
      rfl
theorem norm_nil : ∀ l : List Tok, (∀ u, u ∈ l → nullT u.num u.text = true) → normT l = []
  | [], _ => rfl
  | t :: r, h => by
    rw [normT.eq_2, norm_nil r fun u hu => h u (by simp [hu]), h t (by simp)]; rfl
theorem norm_app {n : List Tok} (h : normT n = []) : ∀ l : List Tok, normT (l ++ n) = normT l
  | [] => h
  | t :: l => by
    rw [List.cons_append, normT.eq_2, normT.eq_2, norm_app h l]
/-- The tails. -/
def tailsN : List (List UInt8) := [[46, 48], [45, 48], [46, 102, 105, 110, 97, 108], [45, 103, 97], [46, 82, 69, 76, 69, 65, 83, 69], [45, 70, 105, 110, 97, 108], [46, 48, 48, 46, 48], [45, 48, 45, 48]]
theorem tails_null : ∀ t, t ∈ tailsN → ∃ c r, t = c :: r ∧ partC c = true ∧ (splS r ((c.toNat : Int) == 45) 0).all (fun u => nullT u.num u.text) = true ∧ t.all vb = true ∧ t ≠ [] := by
  intro t ht
  simp only [tailsN, List.mem_cons, List.not_mem_nil, or_false] at ht
  rcases ht with rfl | rfl | rfl | rfl | rfl | rfl | rfl | rfl <;> exact ⟨_, _, rfl, rfl, rfl, rfl, by simp⟩
theorem toks_tail {s t : List UInt8} (ht : t ∈ tailsN) : toks (s ++ t) = toks s := by
  obtain ⟨c, r, rfl, hc, h, _⟩ := tails_null t ht
  rw [toks_eq, toks_eq, spl_tail hc s.length 0 false (Nat.zero_le _) (by omega), norm_app (norm_nil _ fun u hu => by
    rw [List.all_eq_true] at h
    exact h u hu)]
theorem okT_tail {s t : List UInt8} (ht : t ∈ tailsN) (h : okT s = true) (hl : (s ++ t).length ≤ 64) : okT (s ++ t) = true := by
  obtain ⟨c, r, rfl, hc, _, h2, h3⟩ := tails_null t ht
  refine okT_of hl (by simp) fun b hb => ?_
  rw [List.mem_append] at hb
  rcases hb with hb | hb
  · exact okT_vb h b hb
  · rw [List.all_eq_true] at h2
    exact h2 b hb
/-! ### Great letters -/
theorem low_cls (b : UInt8) : digC (lowB b) = digC b ∧ partC (lowB b) = partC b ∧ ((lowB b).toNat == 45) = (b.toNat == 45) ∧ lowB (lowB b) = lowB b ∧ (digC b = true → lowB b = b) := by
  have key : ∀ n : Nat, n < 256 → digC (lowB (UInt8.ofNat n)) = digC (UInt8.ofNat n) ∧ partC (lowB (UInt8.ofNat n)) = partC (UInt8.ofNat n) ∧ ((lowB (UInt8.ofNat n)).toNat == 45) = ((UInt8.ofNat n).toNat == 45) ∧ lowB (lowB (UInt8.ofNat n)) = lowB (UInt8.ofNat n) ∧ (digC (UInt8.ofNat n) = true → lowB (UInt8.ofNat n) = UInt8.ofNat n) := by decide
  have hb := key b.toNat (UInt8.toNat_lt b)
  rw [UInt8.ofNat_toNat] at hb
  exact hb
theorem getD_map (s : List UInt8) (i : Nat) (h : i < s.length) : (s.map lowB).getD i 0 = lowB (s.getD i 0) := by
  rw [List.getD_eq_getElem?_getD, List.getD_eq_getElem?_getD, List.getElem?_map, List.getElem?_eq_getElem h]; rfl
theorem fxN_map {q : UInt8 → Bool} (hq : ∀ b, q (lowB b) = q b) (s : List UInt8) (a : Nat) : fxN q (s.map lowB) a = fxN q s a := by
  unfold fxN
  rw [← List.map_drop]
  congr 1
  generalize s.drop a = t
  induction t with
  | nil => rfl
  | cons b t ih =>
    rw [List.map_cons, List.takeWhile_cons, List.takeWhile_cons, hq b]
    split
    · simp [ih]
    · rfl
theorem nd_low (b : UInt8) : ndB (lowB b) = ndB b := by
  rw [nd_eq, nd_eq, (low_cls b).1, (low_cls b).2.1]
theorem kN_map (s : List UInt8) (a : Nat) : kN (s.map lowB) a = kN s a := by
  rw [kN_fx, kN_fx, fxN_map (fun b => (low_cls b).1), fxN_map nd_low]
  by_cases h : a < s.length
  · rw [getD_map s a h, (low_cls _).1, List.length_map]
  · rw [if_neg (fun q => h (by simpa using q.1)), if_neg (fun q => h q.1)]
theorem tokN_map (x : List UInt8) : tokN (x.map lowB) = tokN x := by
  cases x with
  | nil => rfl
  | cons b x => exact (low_cls b).1
theorem tokS_map {x : List UInt8} (hx : UniX x) (n : Bool) : tokS (x.map lowB) n = tokS x n := by
  unfold tokS
  rw [tokN_map]
  cases hN : tokN x with
  | true =>
    rw [cond_true, cond_true]
    have hd : ∀ b, b ∈ x → digC b = true := by
      rcases hx with h | h
      · exact h.2
      · cases x with
        | nil => simp
        | cons b x =>
          have : digC b = true := hN
          rw [nd_dig (h b (by simp))] at this; cases this
    have : x.map lowB = x := by
      conv => rhs; rw [← List.map_id x]
      exact List.map_congr_left fun b hb => (low_cls b).2.2.2.2 (hd b hb)
    rw [this]
  | false =>
    rw [cond_false, cond_false, lowF_zero, lowF_zero, List.map_map]
    congr 1
    exact List.map_congr_left fun b _ => (low_cls b).2.2.2.1
theorem cut_uni (s : List UInt8) (a : Nat) (h : a ≤ s.length) : UniX (cutX s a (kN s a)) := by
  rw [cutX_nat, kN_fx]
  by_cases hc : a < s.length ∧ digC (s.getD a 0) = true
  · rw [if_pos hc]
    left
    unfold fxN
    rw [Nat.add_sub_cancel_left, tw_take]
    refine ⟨?_, fun b hb => (tw_mem hb).1⟩
    rw [dropD (0 : UInt8) hc.1, List.takeWhile_cons, hc.2]
    simp
  · rw [if_neg hc]
    right
    unfold fxN
    rw [Nat.add_sub_cancel_left, tw_take]
    exact fun b hb => (tw_mem hb).1
theorem tokAt_map {s : List UInt8} {d : Bool} {a : Nat} (h : a ≤ s.length) : tokAt (s.map lowB) d a = tokAt s d a := by
  unfold tokAt
  rw [kN_map]
  have e1 : cutX (s.map lowB) (a : Int) (kN s a : Int) = (cutX s a (kN s a)).map lowB := by
    rw [cutX_nat, cutX_nat, ← List.map_drop, ← List.map_take]
  have e2 : nearN (s.map lowB) (kN s a) = nearN s (kN s a) := by
    unfold nearN
    by_cases hl : kN s a < s.length
    · rw [getD_map _ _ hl, (low_cls _).1, List.length_map]
    · rw [decide_eq_false (by simpa using hl), decide_eq_false hl]; rfl
  rw [e1, e2, tokN_map, tokS_map (cut_uni s a h)]
theorem spl_map {s : List UInt8} : ∀ (m : Nat) (d : Bool) (a : Nat), a ≤ s.length → spl m (s.map lowB) d a = spl m s d a
  | 0, d, a, h => by unfold spl; rw [tokAt_map h]
  | m + 1, d, a, h => by
    unfold spl
    rw [tokAt_map h, kN_map, List.length_map]
    by_cases hl : s.length ≤ kN s a
    · rw [if_pos hl, if_pos hl]
    · rw [if_neg hl, if_neg hl]
      have eA : nextA (s.map lowB) (kN s a) = nextA s (kN s a) := by unfold nextA; rw [getD_map _ _ (by omega), (low_cls _).2.1]
      have eB : nextB (s.map lowB) (kN s a) = nextB s (kN s a) := by
        unfold nextB
        rw [getD_map _ _ (by omega), (low_cls _).2.1]
        have := (low_cls (s.getD (kN s a) 0)).2.2.1
        rw [show (((lowB (s.getD (kN s a) 0)).toNat : Int) == 45) = ((lowB (s.getD (kN s a) 0)).toNat == 45) from nat_beqI _ 45, this, ← nat_beqI]; rfl
      rw [eA, eB, spl_map m _ _ (next_lt h hl).1]
theorem toks_map (s : List UInt8) : toks (s.map lowB) = toks s := by
  rw [toks_eq, toks_eq]
  unfold splS
  rw [List.length_map, spl_map _ _ _ (Nat.zero_le _)]
/-- One letter made great. -/
theorem up_low {b : UInt8} (h1 : 97 ≤ b.toNat) (h2 : b.toNat ≤ 122) : lowB (UInt8.ofNat (IntKind.u8.wrap ((b.toNat : Int) - 32)).toNat) = lowB b ∧ vb (UInt8.ofNat (IntKind.u8.wrap ((b.toNat : Int) - 32)).toNat) = true := by
  have key : ∀ n : Nat, n < 256 → 97 ≤ n → n ≤ 122 → lowB (UInt8.ofNat (IntKind.u8.wrap (((UInt8.ofNat n).toNat : Int) - 32)).toNat) = lowB (UInt8.ofNat n) ∧ vb (UInt8.ofNat (IntKind.u8.wrap (((UInt8.ofNat n).toNat : Int) - 32)).toNat) = true := by decide
  have hb := key b.toNat (UInt8.toNat_lt b) h1 h2
  rw [UInt8.ofNat_toNat] at hb
  exact hb
theorem set_low {s : List UInt8} {i : Nat} {x : UInt8} (hi : i < s.length) (hx : lowB x = lowB (s.getD i 0)) : (s.set i x).map lowB = s.map lowB := by
  rw [List.map_set, hx]
  refine List.ext_getElem? fun j => ?_
  rw [List.getElem?_set]
  by_cases h : i = j
  · subst h
    rw [if_pos rfl, if_pos (by simpa using hi), List.getElem?_map, List.getElem?_eq_getElem hi, List.getD_eq_getElem?_getD, List.getElem?_eq_getElem hi]; rfl
  · rw [if_neg h]
theorem great {s : List UInt8} {i : Nat} {x : UInt8} (h : okT s = true) (hi : i < s.length) (hx : lowB x = lowB (s.getD i 0)) (hv : vb x = true) : cmpM (s.set i x) s = 0 := by
  refine cmpM_toks ?_ h ?_
  · refine okT_of (by rw [List.length_set]; exact okT_len h) (by intro e; have := congrArg List.length e; rw [List.length_set] at this; simp at this; rw [this] at hi; simp at hi) fun b hb => ?_
    rcases List.mem_or_eq_of_mem_set hb with hb | rfl
    · exact okT_vb h b hb
    · exact hv
  · rw [← toks_map (s.set i x), set_low hi hx, toks_map]
end Go.Mvn
namespace Go.Mvn

open Go Go.Proofs Go.Ab

set_option maxRecDepth 100000

set_option linter.unusedVariables false

set_option linter.unusedSimpArgs false

theorem t5 (s : List UInt8) : (evn tabX9 h5 noLoops 5 [.str s] []).run =
  bif errE s != (0 : Int) then
   bif canS s == [] then
    some ((AV.bool true, []))
   else
    some ((AV.bool false, []))
  else
   bif decide ((↑(canS s).length : Int) > (64 : Int)) then
    bif isEn en19 p19 [AV.sl 3 (toksE s).length (rowT (fnT (toksE s)))] then
     bif fitT (unT (rowT (fnT (toksE s)))) (toksE s).length then
      some ((AV.bool true, []))
     else
      some ((AV.bool false, []))
    else
     none
   else
    bif isEn en19 p19 [AV.sl 3 (toksE s).length (rowT (fnT (toksE s)))] then
     bif fitT (unT (rowT (fnT (toksE s)))) (toksE s).length then
      bif errE (canS s) == (0 : Int) && (atE (canS s) == (0 : Int) && true) then
       bif isEn en10 p10 [AV.sl 3 (toksE s).length (rowT (fnT (toksE s))), AV.sl 3 (toksE (canS s)).length (rowT (fnT (toksE (canS s))))] then
        bif decide (unL (toksE s).length (rowT (fnT (toksE s))) = unL (toksE (canS s)).length (rowT (fnT (toksE (canS s))))) then
         bif canS (canS s) == canS s then
          bif cmpM s (canS s) == (0 : Int) then
           some ((AV.bool true, []))
          else
           some ((AV.bool false, []))
         else
          some ((AV.bool false, []))
        else
         some ((AV.bool false, []))
       else
        none
      else
       some ((AV.bool false, []))
     else
      some ((AV.bool false, []))
    else
     none := by kernel_rfl

theorem toksE_bnd (s : List UInt8) : (toksE s).length ≤ bnd := by
  unfold toksE
  cases ho : okT s with
  | true => rw [cond_true, toks_len]; have := tokL_66 (okT_len ho); simp only [bnd]; omega
  | false => simp

theorem k10E (a b : List UInt8) : isEn en10 p10 [AV.sl 3 (toksE a).length (rowT (fnT (toksE a))), AV.sl 3 (toksE b).length (rowT (fnT (toksE b)))] = true := k10 _ _ ⟨toksE_bnd a, toksE_bnd b⟩

theorem fit_toks {s : List UInt8} (h : okT s = true) : fitT (fnT (toks s)) (toks s).length = true := by
  have h1 := fit_ok h
  rw [toks_len]
  have hf : ∀ i, i < tokL s → fnT (toks s) i = tokF s i := fun i hi => fnT_toks hi
  have h0 := tokL_pos s
  unfold fitT at h1 ⊢
  rw [hf 0 h0]
  have hgo : ∀ i, i < tokL s → goesF (fnT (toks s)) (tokL s) i = goesF (tokF s) (tokL s) i := fun i hi => by
    unfold goesF
    rw [hf i hi]
    by_cases hn : i + 1 < tokL s
    · rw [hf (i + 1) hn]
    · rw [show (i + 1 == tokL s) = true by simpa using (by omega : i + 1 = tokL s)]
      rfl
  have hq : ∀ i, i < tokL s → tokOk (fnT (toks s)) (tokL s) i = tokOk (tokF s) (tokL s) i := fun i hi => by
    unfold tokOk
    rw [hf i hi, hgo i hi]
  have hb : ∀ k i, i + k ≤ tokL s → fbad (tokOk (fnT (toks s)) (tokL s)) k i = fbad (tokOk (tokF s) (tokL s)) k i := by
    intro k
    induction k with
    | zero => intro i _; rfl
    | succ k ih =>
      intro i hi
      unfold fbad
      rw [hq i (by omega), ih (i + 1) (by omega)]
  rw [hb _ 0 (by omega)]
  exact h1

theorem treeCanon (s : List UInt8) : (evn tabX9 h5 noLoops 5 [.str s] []).run = some (.bool true, []) := by
  refine (t5 s).trans ?_
  cases he : errE s == 0 with
  | false =>
    have ho : okT s = false := by rw [okT_err]; exact he
    rw [show (errE s != 0) = true by rw [bne, he]; rfl, show canS s = [] by unfold canS; rw [ho]; rfl]
    rfl
  | true =>
    have ho := errE_okT he
    have hE : toksE s = toks s := by unfold toksE; rw [ho]; rfl
    have hk : isEn en19 p19 [AV.sl 3 (toksE s).length (rowT (fnT (toksE s)))] = true := k19 _ _ (toksE_bnd s)
    rw [show (errE s != 0) = false by rw [bne, he]; rfl, hk, unT_rowT]
    rw [show fitT (fnT (toksE s)) (toksE s).length = true by rw [hE]; exact fit_toks ho]
    simp only [cond_true, cond_false]
    by_cases hl : ((canS s).length : Int) > 64
    · rw [decide_eq_true hl]; rfl
    · have h64 : (canS s).length ≤ 64 := by omega
      obtain ⟨q1, q2⟩ := canS_back ho h64
      have hE2 : toksE (canS s) = toks s := by unfold toksE; rw [q1, cond_true, q2]
      have herr : errE (canS s) = 0 := by have := okT_err (canS s); rw [q1] at this; simpa using this.symm
      have hat : atE (canS s) = 0 := by
        unfold okT at q1
        unfold atE
        simp only [Bool.and_eq_true, Bool.not_eq_true'] at q1
        rw [q1.1, q1.2.1, q1.2.2]; rfl
      have hcc : canS (canS s) = canS s := by rw [canS_toks q1, q2, ← canS_toks ho]
      rw [decide_eq_false hl, herr, hat, k10E s (canS s), unL_fnT, unL_fnT, hE, hE2, decide_eq_true rfl, hcc, cmpM_toks ho q1 q2.symm]
      simp

theorem t6 (s : List UInt8) (k n : Int) : (evn tabX9 h6 noLoops 6 [.str s, .int .i64 k, .int .i64 n] []).run =
  bif decide ((0 : Int) ≤ IntKind.i64.wrap ((IntKind.u64.wrap k).tmod (8 : Int)) ∧ IntKind.i64.wrap ((IntKind.u64.wrap k).tmod (8 : Int)) < (8 : Int)) then
   bif decide (0 + (IntKind.i64.wrap ((IntKind.u64.wrap k).tmod (8 : Int))).toNat < 8) then
    bif decide (s.length + ([[(46 : UInt8), (48 : UInt8)], [(45 : UInt8), (48 : UInt8)], [(46 : UInt8), (102 : UInt8), (105 : UInt8), (110 : UInt8), (97 : UInt8), (108 : UInt8)], [(45 : UInt8), (103 : UInt8), (97 : UInt8)], [(46 : UInt8), (82 : UInt8), (69 : UInt8), (76 : UInt8), (69 : UInt8), (65 : UInt8), (83 : UInt8), (69 : UInt8)], [(45 : UInt8), (70 : UInt8), (105 : UInt8), (110 : UInt8), (97 : UInt8), (108 : UInt8)], [(46 : UInt8), (48 : UInt8), (48 : UInt8), (46 : UInt8), (48 : UInt8)], [(45 : UInt8), (48 : UInt8), (45 : UInt8), (48 : UInt8)]].getD (0 + (IntKind.i64.wrap ((IntKind.u64.wrap k).tmod (8 : Int))).toNat) []).length ≤ 4611686018427387903) then
     bif errE s != (0 : Int) then
      some ((AV.bool true, []))
     else
      bif decide ((↑(s ++ [[(46 : UInt8), (48 : UInt8)], [(45 : UInt8), (48 : UInt8)], [(46 : UInt8), (102 : UInt8), (105 : UInt8), (110 : UInt8), (97 : UInt8), (108 : UInt8)], [(45 : UInt8), (103 : UInt8), (97 : UInt8)], [(46 : UInt8), (82 : UInt8), (69 : UInt8), (76 : UInt8), (69 : UInt8), (65 : UInt8), (83 : UInt8), (69 : UInt8)], [(45 : UInt8), (70 : UInt8), (105 : UInt8), (110 : UInt8), (97 : UInt8), (108 : UInt8)], [(46 : UInt8), (48 : UInt8), (48 : UInt8), (46 : UInt8), (48 : UInt8)], [(45 : UInt8), (48 : UInt8), (45 : UInt8), (48 : UInt8)]].getD (0 + (IntKind.i64.wrap ((IntKind.u64.wrap k).tmod (8 : Int))).toNat) []).length : Int) > (64 : Int)) then
       some ((AV.bool true, []))
      else
       bif decide (IntKind.u64.wrap (↑s.length : Int) ≠ (0 : Int)) then
        bif decide ((0 : Int) ≤ IntKind.i64.wrap ((IntKind.u64.wrap n).tmod (IntKind.u64.wrap (↑s.length : Int))) ∧ IntKind.i64.wrap ((IntKind.u64.wrap n).tmod (IntKind.u64.wrap (↑s.length : Int))) < (↑s.length : Int)) then
         bif decide (0 + (IntKind.i64.wrap ((IntKind.u64.wrap n).tmod (IntKind.u64.wrap (↑s.length : Int)))).toNat < s.length) then
          bif decide ((↑(s.getD (0 + (IntKind.i64.wrap ((IntKind.u64.wrap n).tmod (IntKind.u64.wrap (↑s.length : Int)))).toNat) (0 : UInt8)).toNat : Int) ≥ (97 : Int)) then
           bif decide ((0 : Int) ≤ IntKind.i64.wrap ((IntKind.u64.wrap n).tmod (IntKind.u64.wrap (↑s.length : Int))) ∧ IntKind.i64.wrap ((IntKind.u64.wrap n).tmod (IntKind.u64.wrap (↑s.length : Int))) < (↑s.length : Int)) then
            bif decide (0 + (IntKind.i64.wrap ((IntKind.u64.wrap n).tmod (IntKind.u64.wrap (↑s.length : Int)))).toNat < s.length) then
             bif decide ((↑(s.getD (0 + (IntKind.i64.wrap ((IntKind.u64.wrap n).tmod (IntKind.u64.wrap (↑s.length : Int)))).toNat) (0 : UInt8)).toNat : Int) ≤ (122 : Int)) then
              bif decide ((0 : Int) ≤ IntKind.i64.wrap ((IntKind.u64.wrap n).tmod (IntKind.u64.wrap (↑s.length : Int))) ∧ IntKind.i64.wrap ((IntKind.u64.wrap n).tmod (IntKind.u64.wrap (↑s.length : Int))) < (↑s.length : Int)) then
               bif decide (0 + (IntKind.i64.wrap ((IntKind.u64.wrap n).tmod (IntKind.u64.wrap (↑s.length : Int)))).toNat < s.length) then
                bif decide ((0 : Int) ≤ IntKind.i64.wrap ((IntKind.u64.wrap n).tmod (IntKind.u64.wrap (↑s.length : Int))) ∧ IntKind.i64.wrap ((IntKind.u64.wrap n).tmod (IntKind.u64.wrap (↑s.length : Int))) < (↑s.length : Int)) then
                 bif decide (0 + (IntKind.i64.wrap ((IntKind.u64.wrap n).tmod (IntKind.u64.wrap (↑s.length : Int)))).toNat < s.length) then
                  bif errE (s ++ [[(46 : UInt8), (48 : UInt8)], [(45 : UInt8), (48 : UInt8)], [(46 : UInt8), (102 : UInt8), (105 : UInt8), (110 : UInt8), (97 : UInt8), (108 : UInt8)], [(45 : UInt8), (103 : UInt8), (97 : UInt8)], [(46 : UInt8), (82 : UInt8), (69 : UInt8), (76 : UInt8), (69 : UInt8), (65 : UInt8), (83 : UInt8), (69 : UInt8)], [(45 : UInt8), (70 : UInt8), (105 : UInt8), (110 : UInt8), (97 : UInt8), (108 : UInt8)], [(46 : UInt8), (48 : UInt8), (48 : UInt8), (46 : UInt8), (48 : UInt8)], [(45 : UInt8), (48 : UInt8), (45 : UInt8), (48 : UInt8)]].getD (0 + (IntKind.i64.wrap ((IntKind.u64.wrap k).tmod (8 : Int))).toNat) []) == (0 : Int) then
                   bif isEn en10 p10 [AV.sl 3 (toksE s).length (rowT (fnT (toksE s))), AV.sl 3 (toksE (s ++ [[(46 : UInt8), (48 : UInt8)], [(45 : UInt8), (48 : UInt8)], [(46 : UInt8), (102 : UInt8), (105 : UInt8), (110 : UInt8), (97 : UInt8), (108 : UInt8)], [(45 : UInt8), (103 : UInt8), (97 : UInt8)], [(46 : UInt8), (82 : UInt8), (69 : UInt8), (76 : UInt8), (69 : UInt8), (65 : UInt8), (83 : UInt8), (69 : UInt8)], [(45 : UInt8), (70 : UInt8), (105 : UInt8), (110 : UInt8), (97 : UInt8), (108 : UInt8)], [(46 : UInt8), (48 : UInt8), (48 : UInt8), (46 : UInt8), (48 : UInt8)], [(45 : UInt8), (48 : UInt8), (45 : UInt8), (48 : UInt8)]].getD (0 + (IntKind.i64.wrap ((IntKind.u64.wrap k).tmod (8 : Int))).toNat) [])).length (rowT (fnT (toksE (s ++ [[(46 : UInt8), (48 : UInt8)], [(45 : UInt8), (48 : UInt8)], [(46 : UInt8), (102 : UInt8), (105 : UInt8), (110 : UInt8), (97 : UInt8), (108 : UInt8)], [(45 : UInt8), (103 : UInt8), (97 : UInt8)], [(46 : UInt8), (82 : UInt8), (69 : UInt8), (76 : UInt8), (69 : UInt8), (65 : UInt8), (83 : UInt8), (69 : UInt8)], [(45 : UInt8), (70 : UInt8), (105 : UInt8), (110 : UInt8), (97 : UInt8), (108 : UInt8)], [(46 : UInt8), (48 : UInt8), (48 : UInt8), (46 : UInt8), (48 : UInt8)], [(45 : UInt8), (48 : UInt8), (45 : UInt8), (48 : UInt8)]].getD (0 + (IntKind.i64.wrap ((IntKind.u64.wrap k).tmod (8 : Int))).toNat) []))))] then
                    bif decide (unL (toksE s).length (rowT (fnT (toksE s))) = unL (toksE (s ++ [[(46 : UInt8), (48 : UInt8)], [(45 : UInt8), (48 : UInt8)], [(46 : UInt8), (102 : UInt8), (105 : UInt8), (110 : UInt8), (97 : UInt8), (108 : UInt8)], [(45 : UInt8), (103 : UInt8), (97 : UInt8)], [(46 : UInt8), (82 : UInt8), (69 : UInt8), (76 : UInt8), (69 : UInt8), (65 : UInt8), (83 : UInt8), (69 : UInt8)], [(45 : UInt8), (70 : UInt8), (105 : UInt8), (110 : UInt8), (97 : UInt8), (108 : UInt8)], [(46 : UInt8), (48 : UInt8), (48 : UInt8), (46 : UInt8), (48 : UInt8)], [(45 : UInt8), (48 : UInt8), (45 : UInt8), (48 : UInt8)]].getD (0 + (IntKind.i64.wrap ((IntKind.u64.wrap k).tmod (8 : Int))).toNat) [])).length (rowT (fnT (toksE (s ++ [[(46 : UInt8), (48 : UInt8)], [(45 : UInt8), (48 : UInt8)], [(46 : UInt8), (102 : UInt8), (105 : UInt8), (110 : UInt8), (97 : UInt8), (108 : UInt8)], [(45 : UInt8), (103 : UInt8), (97 : UInt8)], [(46 : UInt8), (82 : UInt8), (69 : UInt8), (76 : UInt8), (69 : UInt8), (65 : UInt8), (83 : UInt8), (69 : UInt8)], [(45 : UInt8), (70 : UInt8), (105 : UInt8), (110 : UInt8), (97 : UInt8), (108 : UInt8)], [(46 : UInt8), (48 : UInt8), (48 : UInt8), (46 : UInt8), (48 : UInt8)], [(45 : UInt8), (48 : UInt8), (45 : UInt8), (48 : UInt8)]].getD (0 + (IntKind.i64.wrap ((IntKind.u64.wrap k).tmod (8 : Int))).toNat) []))))) then
                     bif cmpM s (s ++ [[(46 : UInt8), (48 : UInt8)], [(45 : UInt8), (48 : UInt8)], [(46 : UInt8), (102 : UInt8), (105 : UInt8), (110 : UInt8), (97 : UInt8), (108 : UInt8)], [(45 : UInt8), (103 : UInt8), (97 : UInt8)], [(46 : UInt8), (82 : UInt8), (69 : UInt8), (76 : UInt8), (69 : UInt8), (65 : UInt8), (83 : UInt8), (69 : UInt8)], [(45 : UInt8), (70 : UInt8), (105 : UInt8), (110 : UInt8), (97 : UInt8), (108 : UInt8)], [(46 : UInt8), (48 : UInt8), (48 : UInt8), (46 : UInt8), (48 : UInt8)], [(45 : UInt8), (48 : UInt8), (45 : UInt8), (48 : UInt8)]].getD (0 + (IntKind.i64.wrap ((IntKind.u64.wrap k).tmod (8 : Int))).toNat) []) == (0 : Int) then
                      bif decide (0 + s.length ≤ (s.set (0 + (IntKind.i64.wrap ((IntKind.u64.wrap n).tmod (IntKind.u64.wrap (↑s.length : Int)))).toNat) (UInt8.ofNat (IntKind.u8.wrap ((↑(s.getD (0 + (IntKind.i64.wrap ((IntKind.u64.wrap n).tmod (IntKind.u64.wrap (↑s.length : Int)))).toNat) (0 : UInt8)).toNat : Int) - (32 : Int))).toNat)).length) then
                       bif cmpM (List.take s.length (List.drop 0 (s.set (0 + (IntKind.i64.wrap ((IntKind.u64.wrap n).tmod (IntKind.u64.wrap (↑s.length : Int)))).toNat) (UInt8.ofNat (IntKind.u8.wrap ((↑(s.getD (0 + (IntKind.i64.wrap ((IntKind.u64.wrap n).tmod (IntKind.u64.wrap (↑s.length : Int)))).toNat) (0 : UInt8)).toNat : Int) - (32 : Int))).toNat)))) s == (0 : Int) then
                        some ((AV.bool true, []))
                       else
                        some ((AV.bool false, []))
                      else
                       none
                     else
                      some ((AV.bool false, []))
                    else
                     some ((AV.bool false, []))
                   else
                    none
                  else
                   some ((AV.bool false, []))
                 else
                  none
                else
                 none
               else
                none
              else
               none
             else
              bif errE (s ++ [[(46 : UInt8), (48 : UInt8)], [(45 : UInt8), (48 : UInt8)], [(46 : UInt8), (102 : UInt8), (105 : UInt8), (110 : UInt8), (97 : UInt8), (108 : UInt8)], [(45 : UInt8), (103 : UInt8), (97 : UInt8)], [(46 : UInt8), (82 : UInt8), (69 : UInt8), (76 : UInt8), (69 : UInt8), (65 : UInt8), (83 : UInt8), (69 : UInt8)], [(45 : UInt8), (70 : UInt8), (105 : UInt8), (110 : UInt8), (97 : UInt8), (108 : UInt8)], [(46 : UInt8), (48 : UInt8), (48 : UInt8), (46 : UInt8), (48 : UInt8)], [(45 : UInt8), (48 : UInt8), (45 : UInt8), (48 : UInt8)]].getD (0 + (IntKind.i64.wrap ((IntKind.u64.wrap k).tmod (8 : Int))).toNat) []) == (0 : Int) then
               bif isEn en10 p10 [AV.sl 3 (toksE s).length (rowT (fnT (toksE s))), AV.sl 3 (toksE (s ++ [[(46 : UInt8), (48 : UInt8)], [(45 : UInt8), (48 : UInt8)], [(46 : UInt8), (102 : UInt8), (105 : UInt8), (110 : UInt8), (97 : UInt8), (108 : UInt8)], [(45 : UInt8), (103 : UInt8), (97 : UInt8)], [(46 : UInt8), (82 : UInt8), (69 : UInt8), (76 : UInt8), (69 : UInt8), (65 : UInt8), (83 : UInt8), (69 : UInt8)], [(45 : UInt8), (70 : UInt8), (105 : UInt8), (110 : UInt8), (97 : UInt8), (108 : UInt8)], [(46 : UInt8), (48 : UInt8), (48 : UInt8), (46 : UInt8), (48 : UInt8)], [(45 : UInt8), (48 : UInt8), (45 : UInt8), (48 : UInt8)]].getD (0 + (IntKind.i64.wrap ((IntKind.u64.wrap k).tmod (8 : Int))).toNat) [])).length (rowT (fnT (toksE (s ++ [[(46 : UInt8), (48 : UInt8)], [(45 : UInt8), (48 : UInt8)], [(46 : UInt8), (102 : UInt8), (105 : UInt8), (110 : UInt8), (97 : UInt8), (108 : UInt8)], [(45 : UInt8), (103 : UInt8), (97 : UInt8)], [(46 : UInt8), (82 : UInt8), (69 : UInt8), (76 : UInt8), (69 : UInt8), (65 : UInt8), (83 : UInt8), (69 : UInt8)], [(45 : UInt8), (70 : UInt8), (105 : UInt8), (110 : UInt8), (97 : UInt8), (108 : UInt8)], [(46 : UInt8), (48 : UInt8), (48 : UInt8), (46 : UInt8), (48 : UInt8)], [(45 : UInt8), (48 : UInt8), (45 : UInt8), (48 : UInt8)]].getD (0 + (IntKind.i64.wrap ((IntKind.u64.wrap k).tmod (8 : Int))).toNat) []))))] then
                bif decide (unL (toksE s).length (rowT (fnT (toksE s))) = unL (toksE (s ++ [[(46 : UInt8), (48 : UInt8)], [(45 : UInt8), (48 : UInt8)], [(46 : UInt8), (102 : UInt8), (105 : UInt8), (110 : UInt8), (97 : UInt8), (108 : UInt8)], [(45 : UInt8), (103 : UInt8), (97 : UInt8)], [(46 : UInt8), (82 : UInt8), (69 : UInt8), (76 : UInt8), (69 : UInt8), (65 : UInt8), (83 : UInt8), (69 : UInt8)], [(45 : UInt8), (70 : UInt8), (105 : UInt8), (110 : UInt8), (97 : UInt8), (108 : UInt8)], [(46 : UInt8), (48 : UInt8), (48 : UInt8), (46 : UInt8), (48 : UInt8)], [(45 : UInt8), (48 : UInt8), (45 : UInt8), (48 : UInt8)]].getD (0 + (IntKind.i64.wrap ((IntKind.u64.wrap k).tmod (8 : Int))).toNat) [])).length (rowT (fnT (toksE (s ++ [[(46 : UInt8), (48 : UInt8)], [(45 : UInt8), (48 : UInt8)], [(46 : UInt8), (102 : UInt8), (105 : UInt8), (110 : UInt8), (97 : UInt8), (108 : UInt8)], [(45 : UInt8), (103 : UInt8), (97 : UInt8)], [(46 : UInt8), (82 : UInt8), (69 : UInt8), (76 : UInt8), (69 : UInt8), (65 : UInt8), (83 : UInt8), (69 : UInt8)], [(45 : UInt8), (70 : UInt8), (105 : UInt8), (110 : UInt8), (97 : UInt8), (108 : UInt8)], [(46 : UInt8), (48 : UInt8), (48 : UInt8), (46 : UInt8), (48 : UInt8)], [(45 : UInt8), (48 : UInt8), (45 : UInt8), (48 : UInt8)]].getD (0 + (IntKind.i64.wrap ((IntKind.u64.wrap k).tmod (8 : Int))).toNat) []))))) then
                 bif cmpM s (s ++ [[(46 : UInt8), (48 : UInt8)], [(45 : UInt8), (48 : UInt8)], [(46 : UInt8), (102 : UInt8), (105 : UInt8), (110 : UInt8), (97 : UInt8), (108 : UInt8)], [(45 : UInt8), (103 : UInt8), (97 : UInt8)], [(46 : UInt8), (82 : UInt8), (69 : UInt8), (76 : UInt8), (69 : UInt8), (65 : UInt8), (83 : UInt8), (69 : UInt8)], [(45 : UInt8), (70 : UInt8), (105 : UInt8), (110 : UInt8), (97 : UInt8), (108 : UInt8)], [(46 : UInt8), (48 : UInt8), (48 : UInt8), (46 : UInt8), (48 : UInt8)], [(45 : UInt8), (48 : UInt8), (45 : UInt8), (48 : UInt8)]].getD (0 + (IntKind.i64.wrap ((IntKind.u64.wrap k).tmod (8 : Int))).toNat) []) == (0 : Int) then
                  bif decide (0 + s.length ≤ s.length) then
                   bif cmpM (List.take s.length (List.drop 0 s)) s == (0 : Int) then
                    some ((AV.bool true, []))
                   else
                    some ((AV.bool false, []))
                  else
                   none
                 else
                  some ((AV.bool false, []))
                else
                 some ((AV.bool false, []))
               else
                none
              else
               some ((AV.bool false, []))
            else
             none
           else
            none
          else
           bif errE (s ++ [[(46 : UInt8), (48 : UInt8)], [(45 : UInt8), (48 : UInt8)], [(46 : UInt8), (102 : UInt8), (105 : UInt8), (110 : UInt8), (97 : UInt8), (108 : UInt8)], [(45 : UInt8), (103 : UInt8), (97 : UInt8)], [(46 : UInt8), (82 : UInt8), (69 : UInt8), (76 : UInt8), (69 : UInt8), (65 : UInt8), (83 : UInt8), (69 : UInt8)], [(45 : UInt8), (70 : UInt8), (105 : UInt8), (110 : UInt8), (97 : UInt8), (108 : UInt8)], [(46 : UInt8), (48 : UInt8), (48 : UInt8), (46 : UInt8), (48 : UInt8)], [(45 : UInt8), (48 : UInt8), (45 : UInt8), (48 : UInt8)]].getD (0 + (IntKind.i64.wrap ((IntKind.u64.wrap k).tmod (8 : Int))).toNat) []) == (0 : Int) then
            bif isEn en10 p10 [AV.sl 3 (toksE s).length (rowT (fnT (toksE s))), AV.sl 3 (toksE (s ++ [[(46 : UInt8), (48 : UInt8)], [(45 : UInt8), (48 : UInt8)], [(46 : UInt8), (102 : UInt8), (105 : UInt8), (110 : UInt8), (97 : UInt8), (108 : UInt8)], [(45 : UInt8), (103 : UInt8), (97 : UInt8)], [(46 : UInt8), (82 : UInt8), (69 : UInt8), (76 : UInt8), (69 : UInt8), (65 : UInt8), (83 : UInt8), (69 : UInt8)], [(45 : UInt8), (70 : UInt8), (105 : UInt8), (110 : UInt8), (97 : UInt8), (108 : UInt8)], [(46 : UInt8), (48 : UInt8), (48 : UInt8), (46 : UInt8), (48 : UInt8)], [(45 : UInt8), (48 : UInt8), (45 : UInt8), (48 : UInt8)]].getD (0 + (IntKind.i64.wrap ((IntKind.u64.wrap k).tmod (8 : Int))).toNat) [])).length (rowT (fnT (toksE (s ++ [[(46 : UInt8), (48 : UInt8)], [(45 : UInt8), (48 : UInt8)], [(46 : UInt8), (102 : UInt8), (105 : UInt8), (110 : UInt8), (97 : UInt8), (108 : UInt8)], [(45 : UInt8), (103 : UInt8), (97 : UInt8)], [(46 : UInt8), (82 : UInt8), (69 : UInt8), (76 : UInt8), (69 : UInt8), (65 : UInt8), (83 : UInt8), (69 : UInt8)], [(45 : UInt8), (70 : UInt8), (105 : UInt8), (110 : UInt8), (97 : UInt8), (108 : UInt8)], [(46 : UInt8), (48 : UInt8), (48 : UInt8), (46 : UInt8), (48 : UInt8)], [(45 : UInt8), (48 : UInt8), (45 : UInt8), (48 : UInt8)]].getD (0 + (IntKind.i64.wrap ((IntKind.u64.wrap k).tmod (8 : Int))).toNat) []))))] then
             bif decide (unL (toksE s).length (rowT (fnT (toksE s))) = unL (toksE (s ++ [[(46 : UInt8), (48 : UInt8)], [(45 : UInt8), (48 : UInt8)], [(46 : UInt8), (102 : UInt8), (105 : UInt8), (110 : UInt8), (97 : UInt8), (108 : UInt8)], [(45 : UInt8), (103 : UInt8), (97 : UInt8)], [(46 : UInt8), (82 : UInt8), (69 : UInt8), (76 : UInt8), (69 : UInt8), (65 : UInt8), (83 : UInt8), (69 : UInt8)], [(45 : UInt8), (70 : UInt8), (105 : UInt8), (110 : UInt8), (97 : UInt8), (108 : UInt8)], [(46 : UInt8), (48 : UInt8), (48 : UInt8), (46 : UInt8), (48 : UInt8)], [(45 : UInt8), (48 : UInt8), (45 : UInt8), (48 : UInt8)]].getD (0 + (IntKind.i64.wrap ((IntKind.u64.wrap k).tmod (8 : Int))).toNat) [])).length (rowT (fnT (toksE (s ++ [[(46 : UInt8), (48 : UInt8)], [(45 : UInt8), (48 : UInt8)], [(46 : UInt8), (102 : UInt8), (105 : UInt8), (110 : UInt8), (97 : UInt8), (108 : UInt8)], [(45 : UInt8), (103 : UInt8), (97 : UInt8)], [(46 : UInt8), (82 : UInt8), (69 : UInt8), (76 : UInt8), (69 : UInt8), (65 : UInt8), (83 : UInt8), (69 : UInt8)], [(45 : UInt8), (70 : UInt8), (105 : UInt8), (110 : UInt8), (97 : UInt8), (108 : UInt8)], [(46 : UInt8), (48 : UInt8), (48 : UInt8), (46 : UInt8), (48 : UInt8)], [(45 : UInt8), (48 : UInt8), (45 : UInt8), (48 : UInt8)]].getD (0 + (IntKind.i64.wrap ((IntKind.u64.wrap k).tmod (8 : Int))).toNat) []))))) then
              bif cmpM s (s ++ [[(46 : UInt8), (48 : UInt8)], [(45 : UInt8), (48 : UInt8)], [(46 : UInt8), (102 : UInt8), (105 : UInt8), (110 : UInt8), (97 : UInt8), (108 : UInt8)], [(45 : UInt8), (103 : UInt8), (97 : UInt8)], [(46 : UInt8), (82 : UInt8), (69 : UInt8), (76 : UInt8), (69 : UInt8), (65 : UInt8), (83 : UInt8), (69 : UInt8)], [(45 : UInt8), (70 : UInt8), (105 : UInt8), (110 : UInt8), (97 : UInt8), (108 : UInt8)], [(46 : UInt8), (48 : UInt8), (48 : UInt8), (46 : UInt8), (48 : UInt8)], [(45 : UInt8), (48 : UInt8), (45 : UInt8), (48 : UInt8)]].getD (0 + (IntKind.i64.wrap ((IntKind.u64.wrap k).tmod (8 : Int))).toNat) []) == (0 : Int) then
               bif decide (0 + s.length ≤ s.length) then
                bif cmpM (List.take s.length (List.drop 0 s)) s == (0 : Int) then
                 some ((AV.bool true, []))
                else
                 some ((AV.bool false, []))
               else
                none
              else
               some ((AV.bool false, []))
             else
              some ((AV.bool false, []))
            else
             none
           else
            some ((AV.bool false, []))
         else
          none
        else
         none
       else
        none
    else
     none
   else
    none
  else
   none := by kernel_rfl

theorem mod_rng (k m : Int) (hm : 0 < m) (hM : m < 9223372036854775808) : 0 ≤ IntKind.i64.wrap ((IntKind.u64.wrap k).tmod m) ∧ IntKind.i64.wrap ((IntKind.u64.wrap k).tmod m) < m := by
  have h0 : 0 ≤ IntKind.u64.wrap k := (wrap_range .u64 k).1
  have h1 : 0 ≤ (IntKind.u64.wrap k).tmod m := Int.tmod_nonneg _ h0
  have h2 : (IntKind.u64.wrap k).tmod m < m := Int.tmod_lt_of_pos _ hm
  rw [w64 (by omega) (by omega)]
  exact ⟨h1, h2⟩

theorem getD_mem (l : List (List UInt8)) (i : Nat) (h : i < l.length) : l.getD i [] ∈ l := by
  rw [List.getD_eq_getElem?_getD, List.getElem?_eq_getElem h]
  exact List.getElem_mem h

theorem tails_len : ∀ t, t ∈ tailsN → t.length ≤ 8 := by decide

theorem u64n {n : Nat} (h : n < 1000000) : IntKind.u64.wrap (n : Int) = n := by
  simp only [IntKind.wrap, IntKind.bits, IntKind.signed]
  simp
  omega

theorem treeNulls (s : List UInt8) (k n : Int) (hb : s.length ≤ 140737488351232) : (evn tabX9 h6 noLoops 6 [.str s, .int .i64 k, .int .i64 n] []).run = some (.bool true, []) := by
  refine (t6 s k n).trans ?_
  obtain ⟨a1, a2⟩ := mod_rng k 8 (by omega) (by omega)
  generalize IntKind.i64.wrap ((IntKind.u64.wrap k).tmod 8) = j at *
  have hj : 0 + j.toNat < 8 := by omega
  have hT : ([[46, 48], [45, 48], [46, 102, 105, 110, 97, 108], [45, 103, 97], [46, 82, 69, 76, 69, 65, 83, 69], [45, 70, 105, 110, 97, 108], [46, 48, 48, 46, 48], [45, 48, 45, 48]] : List (List UInt8)).getD (0 + j.toNat) [] ∈ tailsN := getD_mem _ _ hj
  generalize ([[46, 48], [45, 48], [46, 102, 105, 110, 97, 108], [45, 103, 97], [46, 82, 69, 76, 69, 65, 83, 69], [45, 70, 105, 110, 97, 108], [46, 48, 48, 46, 48], [45, 48, 45, 48]] : List (List UInt8)).getD (0 + j.toNat) [] = t at *
  have ht8 := tails_len t hT
  simp (disch := omega) only [decT, cond_true]
  cases he : errE s == 0 with
  | false => rw [show (errE s != 0) = true by rw [bne, he]; rfl]; rfl
  | true =>
    have ho := errE_okT he
    have h64 := okT_len ho
    have hpos : 0 < s.length := by
      cases s with
      | nil => cases he
      | cons b s => simp
    rw [show (errE s != 0) = false by rw [bne, he]; rfl]
    by_cases hl : ((s ++ t).length : Int) > 64
    · rw [decide_eq_true hl]; rfl
    · have hl2 : (s ++ t).length ≤ 64 := by omega
      have q1 := okT_tail hT ho hl2
      have q2 := toks_tail (s := s) hT
      rw [decide_eq_false hl, u64n (by omega)]
      obtain ⟨b1, b2⟩ := mod_rng n s.length (by omega) (by omega)
      generalize IntKind.i64.wrap ((IntKind.u64.wrap n).tmod s.length) = i at *
      have hi : 0 + i.toNat < s.length := by omega
      have herr : errE (s ++ t) = 0 := by have := okT_err (s ++ t); rw [q1] at this; simpa using this.symm
      have hE : toksE s = toks s := by unfold toksE; rw [ho]; rfl
      have hE2 : toksE (s ++ t) = toks s := by unfold toksE; rw [q1, cond_true, q2]
      have hc1 := cmpM_toks ho q1 q2.symm
      have hc0 := cmpM_toks ho ho rfl
      have hne : ((s.length : Int) ≠ 0) := by omega
      simp (disch := omega) only [decT, cond_true, cond_false, herr, k10E s (s ++ t), unL_fnT, hE, hE2, hc1, Nat.zero_add]
      have hk : isEn en10 p10 [AV.sl 3 (toks s).length (rowT (fnT (toks s))), AV.sl 3 (toks s).length (rowT (fnT (toks s)))] = true := by
        have := k10E s s
        rwa [hE] at this
      have hd : ∀ x : List UInt8, x.length = s.length → List.take s.length (List.drop 0 x) = x := fun x hx => by rw [List.drop_zero, List.take_of_length_le (by omega)]
      rw [hk, hd s rfl, hc0]
      by_cases h97 : ((s.getD i.toNat 0).toNat : Int) ≥ 97
      · by_cases h122 : ((s.getD i.toNat 0).toNat : Int) ≤ 122
        · obtain ⟨g1, g2⟩ := up_low (b := s.getD i.toNat 0) (by omega) (by omega)
          rw [hd _ (by rw [List.length_set]), great ho (by omega) g1 g2, decide_eq_true h97, decide_eq_true h122]
          simp
        · rw [decide_eq_true h97, decide_eq_false h122]
          simp
      · rw [decide_eq_false h97]
        simp
end Go.Mvn

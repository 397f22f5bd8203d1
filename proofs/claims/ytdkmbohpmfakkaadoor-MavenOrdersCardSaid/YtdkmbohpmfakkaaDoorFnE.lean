/- Lemmas for the claims of this seat (a verified symbolic evaluator, and contracts of functions): own work; no condition. -/
import Derived.Test.YtdkmbohpmfakkaaDoorFnD
namespace Go.Mvn
open Go Go.Proofs Go.Ab
set_option maxRecDepth 100000
set_option linter.unusedVariables false
set_option linter.unusedSimpArgs false

/-! ### What trimmed leaves: no token goes; all are tokens of the text -/
theorem trimR_fix : ∀ (K : Nat) (f : Nat → Tok) (n : Nat), n < K → anyG (trimR K f n).1 (trimR K f n).2 (trimR K f n).2 = false
  | 0, f, n, h => absurd h (Nat.not_lt_zero _)
  | K + 1, f, n, h => by
    unfold trimR
    split
    · rename_i ha
      have := trimP_lt ha
      exact trimR_fix K _ _ (by omega)
    · rename_i ha
      simpa using ha
theorem anyG_none {f : Nat → Tok} {n : Nat} : ∀ {m : Nat}, anyG f n m = false → ∀ j, j < m → goesF f n j = false
  | 0, _, j, hj => absurd hj (Nat.not_lt_zero _)
  | m + 1, h, j, hj => by
    unfold anyG at h
    rw [Bool.or_eq_false_iff] at h
    rcases Nat.lt_or_ge j m with hl | hg
    · exact anyG_none h.2 j hl
    · obtain rfl : j = m := by omega
      exact h.1
theorem delF_all {Q : Tok → Prop} {f : Nat → Tok} {k n : Nat} (hk : k < n) (h : ∀ i, i < n → Q (f i)) : ∀ i, i < n - 1 → Q (delF f k n i) := by
  intro i hi
  unfold delF
  rw [if_neg (by omega)]
  split
  · exact h _ (by omega)
  · exact h _ (by omega)
theorem trimP_all {Q : Tok → Prop} : ∀ (k : Nat) (f : Nat → Tok) (n : Nat), k ≤ n → (∀ i, i < n → Q (f i)) → ∀ i, i < (trimP k f n).2 → Q ((trimP k f n).1 i)
  | 0, f, n, hk, h => h
  | k + 1, f, n, hk, h => by
    unfold trimP
    split
    · exact trimP_all k _ _ (by omega) (delF_all (by omega) h)
    · exact trimP_all k f n (by omega) h
theorem trimR_all {Q : Tok → Prop} : ∀ (K : Nat) (f : Nat → Tok) (n : Nat), (∀ i, i < n → Q (f i)) → ∀ i, i < (trimR K f n).2 → Q ((trimR K f n).1 i)
  | 0, f, n, h => h
  | K + 1, f, n, h => by
    unfold trimR
    split
    · exact trimR_all K _ _ (trimP_all n f n (Nat.le_refl _) h)
    · exact trimP_all n f n (Nat.le_refl _) h
theorem trimA_goes (f : Nat → Tok) (n : Nat) : ∀ j, j < (trimA f n).2 → goesF (trimA f n).1 (trimA f n).2 j = false :=
  anyG_none (trimR_fix (n + 1) f n (Nat.lt_succ_self _))
theorem undash_goes (f : Nat → Tok) (n i : Nat) : goesF (undash f) n i = goesF f n i := by
  unfold goesF undash
  rw [if_neg (show ¬ (i + 1 = 0) by omega)]
  by_cases hi : i = 0
  · subst hi; rfl
  · rw [if_neg hi]
end Go.Mvn
namespace Go.Mvn
open Go Go.Proofs Go.Ab
set_option maxRecDepth 100000
set_option linter.unusedVariables false
set_option linter.unusedSimpArgs false

theorem quaT_ok {q : List UInt8} {n : Bool} (h : alN quB q 0 = true) : quaB (quaT q n) = true := by
  unfold quaT
  cases h1 : (n && q == [97]) with
  | true => rfl
  | false =>
  cases h2 : (n && q == [98]) with
  | true => rfl
  | false =>
  cases h3 : (n && q == [109]) with
  | true => rfl
  | false =>
  cases h4 : q == [99, 114] with
  | true => rfl
  | false =>
  cases h5 : q == [102, 105, 110, 97, 108] with
  | true => rfl
  | false =>
  cases h6 : q == [103, 97] with
  | true => rfl
  | false =>
  cases h7 : q == [114, 101, 108, 101, 97, 115, 101] with
  | true => rfl
  | false =>
    show quaB q = true
    unfold quaB
    rw [h, h4, h5, h6, h7]
    rfl

theorem lowB_ok {b : UInt8} (h1 : vb b = true) (h2 : ndB b = true) : quB (lowB b) = true := by
  have key : ∀ n : Nat, n < 256 → (vb (UInt8.ofNat n) && ndB (UInt8.ofNat n)) = true → quB (lowB (UInt8.ofNat n)) = true := by decide
  have hb := key b.toNat (UInt8.toNat_lt b)
  rw [UInt8.ofNat_toNat, h1, h2] at hb
  exact hb rfl

theorem lowF_zero (x : List UInt8) : lowF x 0 = x.map lowB := by simp [lowF]
theorem nd_ok {x : List UInt8} (h : ∀ b, b ∈ x → vb b = true ∧ ndB b = true) : alN quB (lowF x 0) 0 = true := by
  unfold alN
  rw [lowF_zero, List.drop_zero, List.all_eq_true]
  intro b hb
  obtain ⟨c, hc, rfl⟩ := List.mem_map.1 hb
  exact lowB_ok (h c hc).1 (h c hc).2
theorem dropB_idem (c : Int) : ∀ l : List UInt8, dropB c (dropB c l) = dropB c l
  | [] => rfl
  | b :: l => by
    unfold dropB
    rw [List.dropWhile_cons]
    split
    · exact dropB_idem c l
    · rename_i hb
      rw [List.dropWhile_cons, if_neg hb]
theorem trimD_ok (x : List UInt8) (h : ∀ b, b ∈ x → digC b = true) : trimD x ≠ [] ∧ (∀ b, b ∈ trimD x → digC b = true) ∧ trimD (trimD x) = trimD x := by
  unfold trimD
  by_cases he : dropB 48 x = []
  · rw [if_pos he]
    refine ⟨by simp, ?_, rfl⟩
    intro b hb
    obtain rfl : b = 48 := by simpa using hb
    rfl
  · rw [if_neg he, dropB_idem, if_neg he]
    refine ⟨he, fun b hb => h b ?_, rfl⟩
    exact (List.dropWhile_sublist _).mem hb
theorem tw_all : ∀ l : List UInt8, (∀ b, b ∈ l → digC b = true) → l.takeWhile digB = l
  | [], _ => rfl
  | b :: l, h => by
    rw [List.takeWhile_cons, if_pos (show digB b = true from h b (by simp)), tw_all l fun c hc => h c (by simp [hc])]
theorem runD_dig {t : List UInt8} (h : ∀ b, b ∈ t → digC b = true) : runD t 0 = t.length := by
  unfold runD runL
  rw [if_neg (by omega)]
  have : t.takeWhile digB = t := tw_all t h
  simp [this]
/-- A token, as Fit wants it. -/
def TokQ (t : Tok) : Prop := (t.num = true → t.text ≠ [] ∧ runD t.text 0 = t.text.length ∧ trimD t.text = t.text) ∧ (t.num = false → quaB t.text = true)
theorem tok_ok {x : List UInt8} (h : (∀ b, b ∈ x → digC b = true) ∨ (∀ b, b ∈ x → vb b = true ∧ ndB b = true)) (d near : Bool) : TokQ ⟨d, tokN x, tokS x near⟩ := by
  have hdig : (∀ b, b ∈ x → digC b = true) → tokN x = true := by
    intro h
    unfold tokN
    cases hx : x == [] with
    | true => rfl
    | false =>
      rcases x with _ | ⟨b, x⟩
      · simp at hx
      · exact h b (by simp)
  unfold TokQ tokS
  cases hn : tokN x with
  | true =>
    refine ⟨fun _ => ?_, fun q => by cases q⟩
    have hd : ∀ b, b ∈ x → digC b = true := by
      rcases h with h | h
      · exact h
      · cases x with
        | nil => simp
        | cons b x =>
          exfalso
          have h2 := (h b (by simp)).2
          unfold tokN at hn
          rw [show ((b :: x) == []) = false from rfl, cond_false] at hn
          unfold ndB at h2
          rw [show dig (b.toNat : Int) = true from hn] at h2
          simp at h2
    have := trimD_ok x hd
    exact ⟨this.1, runD_dig this.2.1, this.2.2⟩
  | false =>
    refine ⟨fun q => (by cases q), fun _ => ?_⟩
    rcases h with h | h
    · rw [hdig h] at hn; cases hn
    · exact quaT_ok (nd_ok h)
end Go.Mvn
namespace Go.Mvn
open Go Go.Proofs Go.Ab
set_option maxRecDepth 100000
set_option linter.unusedVariables false
set_option linter.unusedSimpArgs false

/-! ### The tokens of a text are fit -/
theorem tw_mem {q : UInt8 → Bool} : ∀ {l : List UInt8} {b : UInt8}, b ∈ l.takeWhile q → q b = true ∧ b ∈ l
  | [], b, h => by simp at h
  | c :: l, b, h => by
    rw [List.takeWhile_cons] at h
    split at h
    · rename_i hc
      rcases List.mem_cons.1 h with rfl | h
      · exact ⟨hc, by simp⟩
      · have := tw_mem h
        exact ⟨this.1, by simp [this.2]⟩
    · simp at h
theorem tw_take (q : UInt8 → Bool) (l : List UInt8) : l.take (l.takeWhile q).length = l.takeWhile q := (List.prefix_iff_eq_take.1 (List.takeWhile_prefix q)).symm
theorem cut_ok {s : List UInt8} (hv : ∀ b, b ∈ s → vb b = true) (a : Nat) : (∀ b, b ∈ cutX s a (kN s a) → digC b = true) ∨ (∀ b, b ∈ cutX s a (kN s a) → vb b = true ∧ ndB b = true) := by
  unfold cutX kN
  simp only [Int.toNat_natCast]
  split
  · left
    intro b hb
    rw [Nat.add_sub_cancel_left] at hb
    unfold runL at hb
    rw [tw_take] at hb
    exact (tw_mem hb).1
  · right
    intro b hb
    unfold fxN at hb
    rw [Nat.add_sub_cancel_left, tw_take] at hb
    have := tw_mem hb
    exact ⟨hv b (List.mem_of_mem_drop this.2), this.1⟩
def TokRowQ (n : Nat) (f : Nat → Nat → AV) : Prop := ∃ h : Nat → Tok, (∀ i, i < n → TokQ (h i)) ∧ ∀ i c, i < n → c < 3 → f i c = rowT h i c
theorem TokRowQ.un {n : Nat} {f : Nat → Nat → AV} (h : TokRowQ n f) : ∀ i, i < n → TokQ (unT f i) := by
  obtain ⟨h, hq, hh⟩ := h
  intro i hi
  have e : unT f i = h i := by
    unfold unT
    rw [hh i 0 hi (by omega), hh i 1 hi (by omega), hh i 2 hi (by omega)]
    rfl
  rw [e]
  exact hq i hi
theorem TokRowQ.app {n : Nat} {f : Nat → Nat → AV} (h : n = 0 ∨ TokRowQ n f) {d : Bool} {x : List UInt8} {near : Bool} (ht : TokQ ⟨d, tokN x, tokS x near⟩) : TokRowQ (n + 1) (appG n f (oneR d x near)) := by
  cases n with
  | zero =>
    refine ⟨fun _ => ⟨d, tokN x, tokS x near⟩, fun _ _ => ht, fun i c hi hc => ?_⟩
    obtain rfl : i = 0 := by omega
    exact oneR_row d x near c hc
  | succ n =>
    obtain ⟨h, hq, hh⟩ := h.resolve_left (by omega)
    refine ⟨fun i => if i < n + 1 then h i else ⟨d, tokN x, tokS x near⟩, fun i hi => ?_, fun i c hi hc => ?_⟩
    · show TokQ (if i < n + 1 then h i else _)
      split
      · rename_i hl; exact hq i hl
      · exact ht
    · show appF (n + 1) f (oneR d x near) i c = _
      unfold appF
      by_cases hl : i < n + 1
      · rw [if_pos hl, hh i c hl hc]
        unfold rowT
        simp only [if_pos hl]
      · obtain rfl : i = n + 1 := by omega
        rw [if_neg hl, Nat.sub_self, oneR_row d x near c hc]
        unfold rowT
        simp only [if_neg hl]
theorem outP_rowQ : ∀ (m : Nat) (s : List UInt8) (hv : ∀ b, b ∈ s → vb b = true) (d : Bool) (a n : Nat) (f : Nat → Nat → AV), (n = 0 ∨ TokRowQ n f) → ((outP m s d a n f).n = 0 ∨ TokRowQ (outP m s d a n f).n (outP m s d a n f).f)
  | 0, s, hv, d, a, n, f, h => h
  | m + 1, s, hv, d, a, n, f, h => by
    unfold outP
    split
    · exact h
    · exact outP_rowQ m s hv _ _ _ _ (.inr (TokRowQ.app h (tok_ok (cut_ok hv a) _ _)))
theorem tokR_rowQ {s : List UInt8} (hv : ∀ b, b ∈ s → vb b = true) : TokRowQ (tokC s) (tokR s) := TokRowQ.app (outP_rowQ (s.length + 1) s hv false 0 0 _ (.inl rfl)) (tok_ok (cut_ok hv _) _ _)
theorem okT_vb {s : List UInt8} (h : okT s = true) : ∀ b, b ∈ s → vb b = true := by
  unfold okT at h
  simp only [Bool.and_eq_true, Bool.not_eq_true', decide_eq_false_iff_not] at h
  have h3 := h.2.2
  unfold fxN at h3
  rw [List.drop_zero, Nat.zero_add] at h3
  have e : s.takeWhile vb = s := by
    have h4 := tw_take vb s
    rw [List.take_of_length_le (by omega)] at h4
    exact h4.symm
  intro b hb
  rw [← e] at hb
  exact (tw_mem hb).1
end Go.Mvn
namespace Go.Mvn
open Go Go.Proofs Go.Ab
set_option maxRecDepth 100000
set_option linter.unusedVariables false
set_option linter.unusedSimpArgs false

theorem fbad_all {q : Nat → Bool} : ∀ (k i : Nat), (∀ j, j < i + k → q j = true) → fbad q k i = i + k
  | 0, i, h => rfl
  | k + 1, i, h => by
    unfold fbad
    rw [h i (by omega), cond_true, fbad_all k (i + 1) (fun j hj => h j (by omega))]
    omega
theorem tokOk_of {f : Nat → Tok} {n i : Nat} (hq : TokQ (f i)) (hg : goesF f n i = false) : tokOk f n i = true := by
  unfold tokOk
  rw [hg]
  cases hn : (f i).num with
  | true =>
    obtain ⟨h1, h2, h3⟩ := hq.1 hn
    rw [cond_true, show ((f i).text == []) = false by rw [Bool.eq_false_iff]; simpa using h1, show (runD (f i).text 0 == ((f i).text.length : Int)) = true by rw [h2]; simp, show (trimD (f i).text == (f i).text) = true by rw [h3]; simp]
    rfl
  | false =>
    rw [cond_false, hq.2 hn]
    rfl
theorem undash_q {f : Nat → Tok} {i : Nat} (h : TokQ (f i)) : TokQ (undash f i) := by
  unfold undash
  by_cases hi : i = 0
  · rw [if_pos hi]; subst hi; exact h
  · rw [if_neg hi]; exact h
theorem fit_ok {s : List UInt8} (h : okT s = true) : fitT (tokF s) (tokL s) = true := by
  have hv := okT_vb h
  unfold tokF tokL
  cases hz : (trim8 s).2.beq 0 with
  | true => rfl
  | false =>
    have hm : (trim8 s).2 ≠ 0 := by
      intro q
      rw [q] at hz
      cases hz
    simp only [cond_false]
    have hq : ∀ i, i < (trim8 s).2 → TokQ ((trim8 s).1 i) := trimR_all (Q := TokQ) (tokC s + 1) (unT (tokR s)) (tokC s) (tokR_rowQ hv).un
    have hg : ∀ j, j < (trim8 s).2 → goesF (trim8 s).1 (trim8 s).2 j = false := trimA_goes (unT (tokR s)) (tokC s)
    have hall : ∀ j, j < 0 + (trim8 s).2 → tokOk (undash (trim8 s).1) (trim8 s).2 j = true := fun j hj => tokOk_of (undash_q (hq j (by omega))) (by rw [undash_goes]; exact hg j (by omega))
    unfold fitT
    rw [show ((trim8 s).2 == 0) = false by simpa using hm, cond_false, show (undash (trim8 s).1 0).dash = false from rfl, cond_false]
    rw [fbad_all (q := tokOk (undash (trim8 s).1) (trim8 s).2) (trim8 s).2 0 hall]
    simp
end Go.Mvn
namespace Go.Mvn
open Go Go.Proofs Go.Ab
set_option maxRecDepth 100000
set_option linter.unusedVariables false
set_option linter.unusedSimpArgs false

def truthZ (b : Bool) : Int := if b = true then 1 else 0

/-! ### Comparisons that are orders -/
structure IsCmp {α : Type} (F : α → α → Int) : Prop where
  anti : ∀ a b, F b a = - F a b
  tr : ∀ a b c, F a b ≤ 0 → F b c ≤ 0 → F a c ≤ 0
  eqr : ∀ a b c, F a b = 0 → F a c = F b c
theorem IsCmp.self {α : Type} {F : α → α → Int} (h : IsCmp F) (a : α) : F a a = 0 := by have := h.anti a a; omega
theorem IsCmp.on {α β : Type} {F : α → α → Int} (h : IsCmp F) (k : β → α) : IsCmp fun a b => F (k a) (k b) :=
  ⟨fun a b => h.anti _ _, fun a b c => h.tr _ _ _, fun a b c => h.eqr _ _ _⟩
theorem IsCmp.lex {α : Type} {F G : α → α → Int} (hF : IsCmp F) (hG : IsCmp G) : IsCmp fun a b => if F a b ≠ 0 then F a b else G a b := by
  refine ⟨fun a b => ?_, fun a b c h1 h2 => ?_, fun a b c h => ?_⟩
  · have h1 := hF.anti a b
    have h2 := hG.anti a b
    split <;> split <;> omega
  · have t1 := hF.tr a b c
    have t2 := hG.tr a b c
    have e1 := hF.eqr a c b
    have e2 := hF.eqr a b c
    have e3 := hF.eqr b c a
    have a1 := hF.anti b c
    have a2 := hF.anti a b
    have a3 := hF.anti a c
    split at h1 <;> split at h2 <;> split <;> omega
  · have e1 := hF.eqr a b c
    have e2 := hG.eqr a b c
    split at h
    · omega
    · have e1 := e1 (by omega)
      have e2 := e2 h
      rw [e1, e2]
theorem IsCmp.congr {α : Type} {F G : α → α → Int} (hF : IsCmp F) (h : ∀ a b, G a b = F a b) : IsCmp G := by
  have : G = F := funext fun a => funext fun b => h a b
  rw [this]; exact hF
/-- Where three at a time meet some comparison that is an order. -/
theorem IsCmp.near {α : Type} {G : α → α → Int} (h : ∀ a b c, ∃ F : α → α → Int, IsCmp F ∧ ∀ x y, (x = a ∨ x = b ∨ x = c) → (y = a ∨ y = b ∨ y = c) → G x y = F x y) : IsCmp G := by
  refine ⟨fun a b => ?_, fun a b c h1 h2 => ?_, fun a b c h1 => ?_⟩
  · obtain ⟨F, hF, hG⟩ := h a b b
    rw [hG b a (by simp) (by simp), hG a b (by simp) (by simp)]; exact hF.anti a b
  · obtain ⟨F, hF, hG⟩ := h a b c
    rw [hG a b (by simp) (by simp)] at h1
    rw [hG b c (by simp) (by simp)] at h2
    rw [hG a c (by simp) (by simp)]; exact hF.tr a b c h1 h2
  · obtain ⟨F, hF, hG⟩ := h a b c
    rw [hG a b (by simp) (by simp)] at h1
    rw [hG a c (by simp) (by simp), hG b c (by simp) (by simp)]; exact hF.eqr a b c h1
theorem cmpI_cmp : IsCmp cmpI := by
  refine ⟨fun a b => ?_, fun a b c h1 h2 => ?_, fun a b c h => ?_⟩ <;> (simp only [cmpI] at *; (repeat' split at *) <;> (repeat' split) <;> omega)
theorem bytes_zero : ∀ a b : List UInt8, Lib.compareBytes a b = 0 ↔ a = b
  | [], [] => by simp [Lib.compareBytes]
  | [], _ :: _ => by simp [Lib.compareBytes]
  | _ :: _, [] => by simp [Lib.compareBytes]
  | a :: x, b :: y => by
    have ih := bytes_zero x y
    unfold Lib.compareBytes
    split
    · rename_i h; simp only [List.cons.injEq]; constructor
      · intro h; omega
      · rintro ⟨rfl, _⟩; exact absurd h (by simp)
    · split
      · rename_i h; simp only [List.cons.injEq]; constructor
        · intro h; omega
        · rintro ⟨rfl, _⟩; exact absurd h (by simp)
      · rename_i h1 h2
        have : a = b := by
          apply UInt8.toNat_inj.1
          have h1 : ¬ a.toNat < b.toNat := fun h => h1 (by simpa [UInt8.lt_iff_toNat_lt] using h)
          have h2 : ¬ b.toNat < a.toNat := fun h => h2 (by simpa [UInt8.lt_iff_toNat_lt] using h)
          omega
        subst this
        simp [ih]
theorem bytes_anti : ∀ a b : List UInt8, Lib.compareBytes b a = - Lib.compareBytes a b
  | [], [] => by simp [Lib.compareBytes]
  | [], _ :: _ => by simp [Lib.compareBytes]
  | _ :: _, [] => by simp [Lib.compareBytes]
  | a :: x, b :: y => by
    have ih := bytes_anti x y
    unfold Lib.compareBytes
    simp only [UInt8.lt_iff_toNat_lt]
    (repeat' split) <;> omega
theorem bytes_tr : ∀ a b c : List UInt8, Lib.compareBytes a b ≤ 0 → Lib.compareBytes b c ≤ 0 → Lib.compareBytes a c ≤ 0
  | [], _, [], _, _ => by simp [Lib.compareBytes]
  | [], _, _ :: _, _, _ => by simp [Lib.compareBytes]
  | _ :: _, [], _, h, _ => by simp [Lib.compareBytes] at h
  | _ :: _, _ :: _, [], _, h => by simp [Lib.compareBytes] at h
  | a :: x, b :: y, c :: z, h1, h2 => by
    have ih := bytes_tr x y z
    unfold Lib.compareBytes at h1 h2 ⊢
    simp only [UInt8.lt_iff_toNat_lt] at h1 h2 ⊢
    (repeat' split at h1) <;> (repeat' split at h2) <;> (repeat' split) <;> first | omega | exact ih h1 h2
theorem bytes_cmp : IsCmp Lib.compareBytes := ⟨bytes_anti, bytes_tr, fun a b c h => by rw [(bytes_zero a b).1 h]⟩


/-! ### Compare is an order -/
theorem cmpD_cmp : IsCmp cmpD := IsCmp.congr (IsCmp.lex (cmpI_cmp.on fun a => ((trimD a).length : Int)) (bytes_cmp.on trimD)) fun a b => rfl
/-- Two kinds, each with an order of its own. -/
theorem IsCmp.kinds {α : Type} {F G : α → α → Int} (hF : IsCmp F) (hG : IsCmp G) (p : α → Bool) : IsCmp fun a b => bif p a && p b then F a b else bif p a != p b then truthZ (p a) - truthZ (p b) else G a b := by
  refine ⟨fun a b => ?_, fun a b c => ?_, fun a b c => ?_⟩
  · have h1 := hF.anti a b
    have h2 := hG.anti a b
    cases p a <;> cases p b <;> simp_all [truthZ]
  · have h1 := hF.tr a b c
    have h2 := hG.tr a b c
    cases p a <;> cases p b <;> cases p c <;> simp_all [truthZ]
  · have h1 := hF.eqr a b c
    have h2 := hG.eqr a b c
    cases p a <;> cases p b <;> cases p c <;> simp_all [truthZ]
def lexF {α : Type} (F : α → α → Int) : List α → List α → Int
  | [], [] => 0
  | [], _ :: _ => -1
  | _ :: _, [] => 1
  | a :: l, b :: r => if F a b ≠ 0 then F a b else lexF F l r
theorem lexF_anti {α : Type} {F : α → α → Int} (h : IsCmp F) : ∀ a b, lexF F b a = - lexF F a b
  | [], [] => rfl
  | [], _ :: _ => rfl
  | _ :: _, [] => rfl
  | a :: l, b :: r => by
    have h1 := h.anti a b
    have h2 := lexF_anti h l r
    unfold lexF
    split <;> split <;> omega
theorem lexF_tr {α : Type} {F : α → α → Int} (h : IsCmp F) : ∀ a b c, lexF F a b ≤ 0 → lexF F b c ≤ 0 → lexF F a c ≤ 0
  | [], _, [], _, _ => by simp [lexF]
  | [], _, _ :: _, _, _ => by simp [lexF]
  | _ :: _, [], _, h1, _ => by simp [lexF] at h1
  | _ :: _, _ :: _, [], _, h2 => by simp [lexF] at h2
  | a :: l, b :: r, c :: m, h1, h2 => by
    have t1 := h.tr a b c
    have t2 := lexF_tr h l r m
    have e1 := h.eqr a c b
    have e2 := h.eqr a b c
    have e3 := h.eqr b c a
    have a1 := h.anti b c
    have a2 := h.anti a b
    have a3 := h.anti a c
    unfold lexF at h1 h2 ⊢
    split at h1 <;> split at h2 <;> split <;> omega
theorem lexF_eqr {α : Type} {F : α → α → Int} (h : IsCmp F) : ∀ a b c, lexF F a b = 0 → lexF F a c = lexF F b c
  | [], [], c, _ => rfl
  | [], _ :: _, _, h1 => by simp [lexF] at h1
  | _ :: _, [], _, h1 => by simp [lexF] at h1
  | a :: l, b :: r, [], h1 => rfl
  | a :: l, b :: r, c :: m, h1 => by
    have e1 := h.eqr a b c
    have e2 := lexF_eqr h l r m
    unfold lexF at h1 ⊢
    split at h1
    · omega
    · rw [e1 (by omega), e2 h1]
theorem lexF_cmp {α : Type} {F : α → α → Int} (h : IsCmp F) : IsCmp (lexF F) := ⟨lexF_anti h, lexF_tr h, lexF_eqr h⟩
theorem zero_cmp {α : Type} : IsCmp fun _ _ : α => (0 : Int) := ⟨fun _ _ => rfl, fun _ _ _ _ _ => Int.le_refl _, fun _ _ _ _ => rfl⟩
end Go.Mvn
namespace Go.Mvn
open Go Go.Proofs Go.Ab
set_option maxRecDepth 100000
set_option linter.unusedVariables false
set_option linter.unusedSimpArgs false

theorem sgn_cmp : IsCmp fun x y : Int => sgn (x - y) := by
  refine ⟨fun a b => ?_, fun a b c h1 h2 => ?_, fun a b c h => ?_⟩
  · unfold sgn; (repeat' split) <;> omega
  · unfold sgn at *; (repeat' split at h1) <;> (repeat' split at h2) <;> (repeat' split) <;> omega
  · unfold sgn at *; (repeat' split at h) <;> (repeat' split) <;> omega
/-- Two qualifiers: by rank, and the unknown ones by their bytes. -/
def quaO (a b : List UInt8) : Int := if sgn (rankN a - rankN b) ≠ 0 then sgn (rankN a - rankN b) else bif decide (rankN a < 8) then 0 else Lib.compareBytes a b
theorem sgn_zero {n : Int} (h : sgn n = 0) : n = 0 := by
  unfold sgn at h
  (repeat' split at h) <;> omega
theorem quaO_cmp : IsCmp quaO := IsCmp.congr (IsCmp.lex (sgn_cmp.on rankN) (IsCmp.kinds zero_cmp bytes_cmp fun a => decide (rankN a < 8))) fun a b => by
  unfold quaO
  by_cases h : sgn (rankN a - rankN b) = 0
  · have e : rankN a = rankN b := by have := sgn_zero h; omega
    simp only [h, ne_eq, not_true, if_false, e]
    cases decide (rankN b < 8) <;> rfl
  · simp only [if_pos h, ne_eq, not_false_eq_true]
theorem ordTT_cmp (first : Bool) : IsCmp fun a b => ordTT a b first := IsCmp.congr (IsCmp.lex (sgn_cmp.on fun t : Tok => clsT t.dash t.num first) (IsCmp.kinds (cmpD_cmp.on Tok.text) (quaO_cmp.on Tok.text) Tok.num)) fun a b => by
  have h1 := clsT_pos a.dash a.num first
  have h2 := clsT_pos b.dash b.num first
  unfold ordTT ordT
  by_cases h : sgn (clsT a.dash a.num first - clsT b.dash b.num first) = 0
  · have e : clsT a.dash a.num first = clsT b.dash b.num first := by have := sgn_zero h; omega
    rw [e, h2] at h1
    simp only [h, ne_eq, not_true, if_false]
    rw [show (clsT a.dash a.num first != clsT b.dash b.num first) = false by rw [e]; simp, cond_false, h1]
    cases a.num with
    | true => simp
    | false =>
      simp only [cond_false, Bool.and_self, bne_self_eq_false]
      unfold quaO
      by_cases hr : rankN a.text = rankN b.text
      · simp [hr, sgn]
      · have : sgn (rankN a.text - rankN b.text) ≠ 0 := fun q => hr (by have := sgn_zero q; omega)
        have hb : (rankN a.text != rankN b.text) = true := by simpa using hr
        simp [hb, this]
  · rw [if_pos h]
    have : clsT a.dash a.num first ≠ clsT b.dash b.num first := fun q => h (by rw [q, Int.sub_self]; rfl)
    rw [show (clsT a.dash a.num first != clsT b.dash b.num first) = true by simpa using this, cond_true]
end Go.Mvn
namespace Go.Mvn
open Go Go.Proofs Go.Ab
set_option maxRecDepth 100000
set_option linter.unusedVariables false
set_option linter.unusedSimpArgs false

def cmpN : Nat → Nat → (Nat → Tok) → (Nat → Tok) → Int
  | 0, i, x, y => 0
  | k + 1, i, x, y => if ordTT (x i) (y i) (i == 0) ≠ 0 then ordTT (x i) (y i) (i == 0) else cmpN k (i + 1) x y
theorem cmpN_cmp : ∀ k i, IsCmp (cmpN k i)
  | 0, i => zero_cmp
  | k + 1, i => IsCmp.congr (IsCmp.lex ((ordTT_cmp (i == 0)).on fun x : Nat → Tok => x i) (cmpN_cmp k (i + 1))) fun x y => rfl
theorem cmpN_fbad (f g : Nat → Tok) (n m : Nat) : ∀ k i, (bif decide (fbad (eqO f g n m) k i < i + k) then ordTT (padF f n (fbad (eqO f g n m) k i)) (padF g m (fbad (eqO f g n m) k i)) (fbad (eqO f g n m) k i == 0) else 0) = cmpN k i (padF f n) (padF g m)
  | 0, i => by
    unfold fbad cmpN
    rw [decide_eq_false (by omega)]
    rfl
  | k + 1, i => by
    have ih := cmpN_fbad f g n m k (i + 1)
    rw [show i + 1 + k = i + (k + 1) by omega] at ih
    unfold fbad cmpN
    cases hq : eqO f g n m i with
    | true =>
      have h0 : ordTT (padF f n i) (padF g m i) (i == 0) = 0 := by unfold eqO at hq; simpa using hq
      rw [cond_true, h0, if_neg (by simp)]
      exact ih
    | false =>
      have h0 : ordTT (padF f n i) (padF g m i) (i == 0) ≠ 0 := by unfold eqO at hq; simpa using hq
      rw [cond_false, if_pos h0, decide_eq_true (by omega), cond_true]
theorem cmpN_pad {f g : Nat → Tok} {n m : Nat} : ∀ k i, n ≤ i → m ≤ i → cmpN k i (padF f n) (padF g m) = 0
  | 0, i, h1, h2 => rfl
  | k + 1, i, h1, h2 => by
    unfold cmpN
    have h0 : ordTT (padF f n i) (padF g m i) (i == 0) = 0 := by
      unfold padF
      rw [if_neg (by omega), if_neg (by omega)]
      cases (i == 0) <;> rfl
    rw [h0, if_neg (by simp)]
    exact cmpN_pad k (i + 1) (by omega) (by omega)
theorem cmpN_more {f g : Nat → Tok} {n m : Nat} (e : Nat) : ∀ k i, n ≤ i + k → m ≤ i + k → cmpN (k + e) i (padF f n) (padF g m) = cmpN k i (padF f n) (padF g m)
  | 0, i, h1, h2 => by
    rw [Nat.zero_add]
    exact cmpN_pad e i h1 h2
  | k + 1, i, h1, h2 => by
    rw [show k + 1 + e = (k + e) + 1 by omega]
    unfold cmpN
    rw [cmpN_more e k (i + 1) (by omega) (by omega)]
end Go.Mvn
namespace Go.Mvn
open Go Go.Proofs Go.Ab
set_option maxRecDepth 100000
set_option linter.unusedVariables false
set_option linter.unusedSimpArgs false

theorem ordL_cmpN {f g : Nat → Tok} {n m : Nat} (hf : fitT f n = true) (hg : fitT g m = true) {N : Nat} (h1 : n ≤ N) (h2 : m ≤ N) : ordL f n g m = cmpN N 0 (padF f n) (padF g m) := by
  have h := cmpN_fbad f g n m (max n m) 0
  rw [Nat.zero_add] at h
  have h3 := cmpN_more (f := f) (g := g) (N - max n m) (max n m) 0 (n := n) (m := m) (by omega) (by omega)
  rw [show max n m + (N - max n m) = N by omega] at h3
  unfold ordL
  rw [hf, hg, cond_true, cond_true, h3]
  exact h
/-- Two texts that are versions. -/
def verO (a b : List UInt8) : Int := ordL (tokF a) (tokL a) (tokF b) (tokL b)
def rowP (N : Nat) (a b : List UInt8) : Int := cmpN N 0 (padF (tokF a) (tokL a)) (padF (tokF b) (tokL b))
theorem rowP_cmp (N : Nat) : IsCmp (rowP N) := (cmpN_cmp N 0).on fun s => padF (tokF s) (tokL s)
theorem cmpM_near (a b c : List UInt8) : ∃ F : List UInt8 → List UInt8 → Int, IsCmp F ∧ ∀ x y, (x = a ∨ x = b ∨ x = c) → (y = a ∨ y = b ∨ y = c) → cmpM x y = F x y := by
  refine ⟨_, IsCmp.kinds (rowP_cmp (tokL a + tokL b + tokL c)) bytes_cmp okT, fun x y hx hy => ?_⟩
  have h1 : tokL x ≤ tokL a + tokL b + tokL c := by rcases hx with rfl | rfl | rfl <;> omega
  have h2 : tokL y ≤ tokL a + tokL b + tokL c := by rcases hy with rfl | rfl | rfl <;> omega
  unfold cmpM
  cases hox : okT x with
  | true =>
    cases hoy : okT y with
    | true => exact ordL_cmpN (fit_ok hox) (fit_ok hoy) h1 h2
    | false => rfl
  | false =>
    cases hoy : okT y with
    | true => rfl
    | false => rfl
theorem cmpM_cmp : IsCmp cmpM := IsCmp.near cmpM_near
end Go.Mvn

/- Lemmas for the claims of this seat (a verified symbolic evaluator, and contracts of functions): own work; no condition. -/
import Derived.Test.YtepbfkhalkfhcaaDoorEvE
import Derived.Laws.Externs
import Derived.Test.YtepbfkhalkfhcaaDoorEvD
import Derived.Lib.Bytealg
import Derived.Sort.Grow
import Derived.Sort.EncStr
import Derived.Lib.SlicesCompact
namespace Go.Ab
open Go
set_option linter.unusedVariables false
set_option linter.unusedSimpArgs false

/-! ### Comparisons that are orders; stable sorts -/
structure IsOrd {α : Type} (F : α → α → Int) : Prop where
  anti : ∀ a b, F b a = - F a b
  tr : ∀ a b c, F a b ≤ 0 → F b c ≤ 0 → F a c ≤ 0
  eqr : ∀ a b c, F a b = 0 → F a c = F b c
section
variable {α : Type} {F : α → α → Int}
theorem IsOrd.self (h : IsOrd F) (a : α) : F a a = 0 := by have := h.anti a a; omega
theorem IsOrd.eql (h : IsOrd F) {a b : α} (e : F a b = 0) (c : α) : F c a = F c b := by
  have h1 := h.anti a c
  have h2 := h.anti b c
  have h3 := h.eqr a b c e
  omega
theorem IsOrd.lt_of (h : IsOrd F) {a b c : α} (h1 : F a b < 0) (h2 : F b c ≤ 0) : F a c < 0 := by
  have t := h.tr a b c (by omega) h2
  rcases Int.lt_or_eq_of_le t with t | t
  · exact t
  · have e := h.eqr a c b t
    have := h.anti b c
    omega
theorem IsOrd.lt_of' (h : IsOrd F) {a b c : α} (h1 : F a b ≤ 0) (h2 : F b c < 0) : F a c < 0 := by
  have t := h.tr a b c h1 (by omega)
  rcases Int.lt_or_eq_of_le t with t | t
  · exact t
  · have e := h.eql t b
    have := h.anti a b
    omega
/-- Sorted. -/
abbrev Srt (F : α → α → Int) (l : List α) : Prop := l.Pairwise fun a b => F a b ≤ 0
/-- The members of x's class, in order. -/
def cls (F : α → α → Int) (x : α) (l : List α) : List α := l.filter fun y => F x y == 0
def SameC (F : α → α → Int) (l r : List α) : Prop := ∀ x, cls F x l = cls F x r
theorem cls_app (x : α) (l r : List α) : cls F x (l ++ r) = cls F x l ++ cls F x r := by simp [cls]
theorem SameC.refl (l : List α) : SameC F l l := fun _ => rfl
theorem SameC.symm {l r : List α} (h : SameC F l r) : SameC F r l := fun x => (h x).symm
theorem SameC.trans {l r s : List α} (h : SameC F l r) (h' : SameC F r s) : SameC F l s := fun x => (h x).trans (h' x)
theorem SameC.app {l l' r r' : List α} (h : SameC F l l') (h' : SameC F r r') : SameC F (l ++ r) (l' ++ r') := fun x => by rw [cls_app, cls_app, h x, h' x]
theorem cls_mem {x y : α} {l : List α} : y ∈ cls F x l ↔ y ∈ l ∧ F x y = 0 := by simp [cls]
/-- Two rows change places where the second's are all ahead of the first's. -/
theorem SameC.swap (hF : IsOrd F) {u v : List α} (h : ∀ a ∈ u, ∀ b ∈ v, F b a < 0) : SameC F (u ++ v) (v ++ u) := fun x => by
  rw [cls_app, cls_app]
  by_cases hu : cls F x u = []
  · rw [hu]; simp
  · by_cases hv : cls F x v = []
    · rw [hv]; simp
    · exfalso
      obtain ⟨a, ha⟩ := List.exists_mem_of_ne_nil _ hu
      obtain ⟨b, hb⟩ := List.exists_mem_of_ne_nil _ hv
      have ha := cls_mem.1 ha
      have hb := cls_mem.1 hb
      have h1 := h a ha.1 b hb.1
      have h2 := hF.eqr x a b ha.2
      have h3 := hF.anti a b
      omega
/-- Of a class each list that is sorted has one order. -/
theorem srt_uniq (hF : IsOrd F) : ∀ {l r : List α}, Srt F l → Srt F r → SameC F l r → l = r
  | [], [], _, _, _ => rfl
  | [], b :: r, _, _, h => by
    have := h b
    simp [cls, hF.self b] at this
  | a :: l, [], _, _, h => by
    have := h a
    simp [cls, hF.self a] at this
  | a :: l, b :: r, hl, hr, h => by
    simp only [Srt, List.pairwise_cons] at hl hr
    have hab : F a b = 0 := by
      have h1 : b ∈ cls F b (a :: l) := by rw [h b]; exact cls_mem.2 ⟨by simp, hF.self b⟩
      have h2 : a ∈ cls F a (b :: r) := by rw [← h a]; exact cls_mem.2 ⟨by simp, hF.self a⟩
      have h1 := (cls_mem.1 h1).1
      have h2 := (cls_mem.1 h2).1
      have e1 : F a b ≤ 0 := by
        rcases List.mem_cons.1 h1 with e | e
        · rw [e, hF.self]; exact Int.le_refl _
        · exact hl.1 b e
      have e2 : F b a ≤ 0 := by
        rcases List.mem_cons.1 h2 with e | e
        · rw [e, hF.self]; exact Int.le_refl _
        · exact hr.1 a e
      have := hF.anti a b
      omega
    have e : a = b := by
      have := h a
      simp [cls, hF.self a, hab] at this
      exact this.1
    subst e
    congr 1
    refine srt_uniq hF hl.2 hr.2 fun x => ?_
    have := h x
    simp only [cls, List.filter_cons] at this ⊢
    split at this
    · exact (List.cons.inj this).2
    · exact this
/-- One more, behind those that it isn't ahead of. -/
def insR (F : α → α → Int) (x : α) : List α → List α
  | [] => [x]
  | y :: l => if F y x ≤ 0 then y :: insR F x l else x :: y :: l
def sortS (F : α → α → Int) (l : List α) : List α := l.foldl (fun o x => insR F x o) []
theorem insR_mem {x y : α} : ∀ {l : List α}, y ∈ insR F x l ↔ y = x ∨ y ∈ l
  | [] => by simp [insR]
  | z :: l => by
    have ih := insR_mem (x := x) (y := y) (l := l)
    unfold insR
    split
    · simp only [List.mem_cons, ih]
      constructor
      · rintro (h | h | h)
        · exact .inr (.inl h)
        · exact .inl h
        · exact .inr (.inr h)
      · rintro (h | h | h)
        · exact .inr (.inl h)
        · exact .inl h
        · exact .inr (.inr h)
    · simp
theorem insR_srt (hF : IsOrd F) {x : α} : ∀ {l : List α}, Srt F l → Srt F (insR F x l)
  | [], _ => by simp [insR]
  | y :: l, h => by
    have h0 := h
    simp only [Srt, List.pairwise_cons] at h
    unfold insR
    split
    · rename_i hc
      refine List.pairwise_cons.2 ⟨fun z hz => ?_, insR_srt hF h.2⟩
      rcases insR_mem.1 hz with rfl | hz
      · exact hc
      · exact h.1 z hz
    · rename_i hc
      have := hF.anti y x
      refine List.pairwise_cons.2 ⟨fun z hz => ?_, h0⟩
      rcases List.mem_cons.1 hz with rfl | hz
      · omega
      · exact hF.tr x y z (by omega) (h.1 z hz)
theorem insR_same (hF : IsOrd F) {x : α} : ∀ {l : List α}, Srt F l → SameC F (l ++ [x]) (insR F x l)
  | [], _ => by simp [insR, SameC]
  | y :: l, h => by
    have h0 := h
    simp only [Srt, List.pairwise_cons] at h
    unfold insR
    split
    · have := insR_same hF (x := x) h.2
      exact SameC.app (l := [y]) (l' := [y]) (SameC.refl _) this
    · rename_i hc
      have hx : ∀ a ∈ y :: l, ∀ b ∈ [x], F b a < 0 := by
        intro a ha b hb
        obtain rfl : b = x := by simpa using hb
        have := hF.anti y b
        rcases List.mem_cons.1 ha with rfl | ha
        · omega
        · exact hF.lt_of (b := y) (by omega) (h.1 a ha)
      exact SameC.swap hF hx
theorem fold_ok (hF : IsOrd F) : ∀ (l o : List α), Srt F o → Srt F (l.foldl (fun o x => insR F x o) o) ∧ SameC F (o ++ l) (l.foldl (fun o x => insR F x o) o)
  | [], o, h => ⟨h, by simp [SameC]⟩
  | x :: l, o, h => by
    obtain ⟨h1, h2⟩ := fold_ok hF l (insR F x o) (insR_srt hF h)
    refine ⟨h1, ?_⟩
    have e : o ++ x :: l = (o ++ [x]) ++ l := by simp
    rw [e]
    exact (SameC.app (insR_same hF h) (SameC.refl l)).trans h2
theorem sortS_srt (hF : IsOrd F) (l : List α) : Srt F (sortS F l) := (fold_ok hF l [] List.Pairwise.nil).1
theorem sortS_same (hF : IsOrd F) (l : List α) : SameC F l (sortS F l) := (fold_ok hF l [] List.Pairwise.nil).2
theorem sortS_eq (hF : IsOrd F) {l r : List α} (h : SameC F l r) (hs : Srt F r) : sortS F l = r := srt_uniq hF (sortS_srt hF l) hs ((sortS_same hF l).symm.trans h)
theorem sortS_congr (hF : IsOrd F) {l r : List α} (h : SameC F l r) : sortS F l = sortS F r := sortS_eq hF (h.trans (sortS_same hF r)) (sortS_srt hF r)
theorem insR_len (x : α) : ∀ l : List α, (insR F x l).length = l.length + 1
  | [] => rfl
  | y :: l => by unfold insR; split <;> simp [insR_len x l]
theorem fold_len : ∀ (l o : List α), (l.foldl (fun o x => insR F x o) o).length = o.length + l.length
  | [], o => rfl
  | x :: l, o => by rw [List.foldl_cons, fold_len l, insR_len]; simp; omega
theorem sortS_len (l : List α) : (sortS F l).length = l.length := by rw [sortS, fold_len]; simp
end

/-! ### Rows as functions; a piece of one -/
section
variable {α : Type} {F : α → α → Int}
/-- Places a to b. -/
def seg (f : Nat → α) (a b : Nat) : List α := (List.range (b - a)).map fun k => f (a + k)
theorem seg_len (f : Nat → α) (a b : Nat) : (seg f a b).length = b - a := by simp [seg]
theorem seg_get {f : Nat → α} {a b k : Nat} (h : k < b - a) (d : α) : (seg f a b).getD k d = f (a + k) := by
  rw [List.getD_eq_getElem?_getD, seg, List.getElem?_map, List.getElem?_range h]; rfl
theorem seg_app (f : Nat → α) {a b c : Nat} (h1 : a ≤ b) (h2 : b ≤ c) : seg f a c = seg f a b ++ seg f b c := by
  refine List.ext_getElem? fun i => ?_
  simp only [seg]
  rw [List.getElem?_append]
  simp only [List.length_map, List.length_range]
  by_cases hi : i < b - a
  · rw [if_pos hi, List.getElem?_map, List.getElem?_map, List.getElem?_range hi, List.getElem?_range (by omega)]
  · rw [if_neg hi, List.getElem?_map, List.getElem?_map]
    by_cases hj : i < c - a
    · rw [List.getElem?_range hj, List.getElem?_range (by omega)]
      simp only [Option.map_some]
      congr 2; omega
    · rw [List.getElem?_eq_none (by simpa using hj), List.getElem?_eq_none (by simp; omega)]; rfl
theorem seg_congr {f g : Nat → α} {a b : Nat} (h : ∀ k, a ≤ k → k < b → f k = g k) : seg f a b = seg g a b := by
  unfold seg
  refine List.map_congr_left fun k hk => ?_
  have := List.mem_range.1 hk
  exact h (a + k) (by omega) (by omega)
theorem seg_shift {f g : Nat → α} {a b a' : Nat} (h : ∀ k, k < b - a → f (a + k) = g (a' + k)) : seg f a b = seg g a' (a' + (b - a)) := by
  unfold seg
  rw [Nat.add_sub_cancel_left]
  exact List.map_congr_left fun k hk => h k (List.mem_range.1 hk)
theorem seg_mem {f : Nat → α} {a b : Nat} {x : α} : x ∈ seg f a b ↔ ∃ k, a ≤ k ∧ k < b ∧ f k = x := by
  simp only [seg, List.mem_map, List.mem_range]
  constructor
  · rintro ⟨k, h, rfl⟩; exact ⟨a + k, by omega, by omega, rfl⟩
  · rintro ⟨k, h1, h2, rfl⟩; exact ⟨k - a, by omega, by congr 1; omega⟩
theorem seg_nil {f : Nat → α} {a b : Nat} (h : b ≤ a) : seg f a b = [] := by
  unfold seg
  rw [Nat.sub_eq_zero_of_le h]; rfl
theorem seg_one (f : Nat → α) (a : Nat) : seg f a (a + 1) = [f a] := by
  unfold seg
  rw [Nat.add_sub_cancel_left]; rfl
theorem srt_seg {f : Nat → α} {a b : Nat} : Srt F (seg f a b) ↔ ∀ i j, a ≤ i → i < j → j < b → F (f i) (f j) ≤ 0 := by
  unfold Srt
  rw [List.pairwise_iff_getElem]
  constructor
  · intro h i j h1 h2 h3
    have := h (i - a) (j - a) (by rw [seg_len]; omega) (by rw [seg_len]; omega) (by omega)
    simp only [seg, List.getElem_map, List.getElem_range] at this
    rwa [show a + (i - a) = i by omega, show a + (j - a) = j by omega] at this
  · intro h i j hi hj hij
    rw [seg_len] at hi hj
    simp only [seg, List.getElem_map, List.getElem_range]
    exact h (a + i) (a + j) (by omega) (by omega) (by omega)
theorem srt_sub {f : Nat → α} {a b a' b' : Nat} (h : Srt F (seg f a b)) (h1 : a ≤ a') (h2 : b' ≤ b) : Srt F (seg f a' b') :=
  srt_seg.2 fun i j q1 q2 q3 => srt_seg.1 h i j (by omega) q2 (by omega)
/-- Alike but for a piece, that piece of the same classes. -/
structure EqS (F : α → α → Int) (a b : Nat) (f g : Nat → α) : Prop where
  out : ∀ k, k < a ∨ b ≤ k → g k = f k
  same : SameC F (seg f a b) (seg g a b)
theorem EqS.refl (a b : Nat) (f : Nat → α) : EqS F a b f f := ⟨fun _ _ => rfl, SameC.refl _⟩
theorem EqS.trans {a b : Nat} {f g h : Nat → α} (h1 : EqS F a b f g) (h2 : EqS F a b g h) : EqS F a b f h := ⟨fun k hk => (h2.out k hk).trans (h1.out k hk), h1.same.trans h2.same⟩
theorem EqS.wide {a b a' b' : Nat} {f g : Nat → α} (h : EqS F a b f g) (h1 : a' ≤ a) (hab : a ≤ b) (h2 : b ≤ b') : EqS F a' b' f g := by
  refine ⟨fun k hk => h.out k (by omega), ?_⟩
  rw [seg_app f h1 (by omega), seg_app g h1 (by omega), seg_app f hab h2, seg_app g hab h2]
  refine SameC.app ?_ (SameC.app h.same ?_)
  · rw [seg_congr fun k q1 q2 => (h.out k (by omega)).symm]; exact SameC.refl _
  · rw [seg_congr fun k q1 q2 => (h.out k (by omega)).symm]; exact SameC.refl _
/-- The piece sorted. -/
def sortG (F : α → α → Int) (f : Nat → α) (a b : Nat) : Nat → α := fun k => if a ≤ k ∧ k < b then (sortS F (seg f a b)).getD (k - a) (f k) else f k
theorem seg_sortG (f : Nat → α) (a b : Nat) : seg (sortG F f a b) a b = sortS F (seg f a b) := by
  have hl : (sortS F (seg f a b)).length = b - a := by rw [sortS_len, seg_len]
  refine List.ext_getElem (by rw [seg_len, hl]) fun i h1 h2 => ?_
  rw [seg_len] at h1
  simp only [seg, List.getElem_map, List.getElem_range, sortG]
  rw [if_pos (by omega)]
  rw [List.getD_eq_getElem?_getD, show a + i - a = i by omega]
  have : i < (sortS F (seg f a b)).length := by omega
  unfold seg at this
  rw [List.getElem?_eq_getElem this]; rfl
theorem sortG_eqs (hF : IsOrd F) (f : Nat → α) (a b : Nat) : EqS F a b f (sortG F f a b) := by
  refine ⟨fun k hk => ?_, ?_⟩
  · unfold sortG
    rw [if_neg (by omega)]
  · rw [seg_sortG]; exact sortS_same hF _
theorem sortG_srt (hF : IsOrd F) (f : Nat → α) (a b : Nat) : Srt F (seg (sortG F f a b) a b) := by rw [seg_sortG]; exact sortS_srt hF _
/-- What is of the same classes and sorted is the piece sorted. -/
theorem sortG_of (hF : IsOrd F) {f g : Nat → α} {a b : Nat} (h : EqS F a b f g) (hs : Srt F (seg g a b)) : sortG F f a b = g := by
  funext k
  unfold sortG
  rw [sortS_eq hF h.same hs]
  by_cases hk : a ≤ k ∧ k < b
  · rw [if_pos hk, seg_get (by omega)]
    congr 1; omega
  · rw [if_neg hk]
    exact (h.out k (by omega)).symm
theorem sortG_congr (hF : IsOrd F) {f g : Nat → α} {a b : Nat} (h : EqS F a b f g) : sortG F f a b = sortG F g a b :=
  sortG_of hF (h.trans (sortG_eqs hF g a b)) (sortG_srt hF g a b)

/-! ### Swaps and turns -/
def sw (f : Nat → α) (i j : Nat) : Nat → α := fun k => if k = j then f i else if k = i then f j else f k
/-- Two neighbours change places, the second ahead of the first. -/
theorem sw_eqs (hF : IsOrd F) {f : Nat → α} {j : Nat} (h : F (f (j + 1)) (f j) < 0) : EqS F j (j + 2) f (sw f (j + 1) j) := by
  refine ⟨fun k hk => ?_, ?_⟩
  · unfold sw
    rw [if_neg (by omega), if_neg (by omega)]
  · rw [seg_app f (show j ≤ j + 1 by omega) (by omega), seg_app (sw f (j + 1) j) (show j ≤ j + 1 by omega) (by omega), seg_one, seg_one, show j + 2 = (j + 1) + 1 from rfl, seg_one, seg_one]
    have e1 : sw f (j + 1) j j = f (j + 1) := by unfold sw; rw [if_pos rfl]
    have e2 : sw f (j + 1) j (j + 1) = f j := by unfold sw; rw [if_neg (by omega), if_pos rfl]
    rw [e1, e2]
    refine SameC.swap hF ?_
    intro a ha b hb
    obtain rfl : a = f j := by simpa using ha
    obtain rfl : b = f (j + 1) := by simpa using hb
    exact h
/-- What an insertion's inner loop does, and where it stops. -/
def bub (F : α → α → Int) (a : Nat) : Nat → (Nat → α) → (Nat → α) × Nat
  | 0, g => (g, 0)
  | j + 1, g => if a < j + 1 ∧ F (g (j + 1)) (g j) < 0 then bub F a j (sw g (j + 1) j) else (g, j + 1)
theorem bub_ok (hF : IsOrd F) {a : Nat} (i : Nat) : ∀ (j : Nat) (g : Nat → α), a ≤ j → j ≤ i →
    (∀ p q, a ≤ p → p < q → q ≤ i → p ≠ j → q ≠ j → F (g p) (g q) ≤ 0) → (∀ q, j < q → q ≤ i → F (g j) (g q) ≤ 0) → EqS F a (i + 1) g (bub F a j g).1 ∧ Srt F (seg (bub F a j g).1 a (i + 1))
  | 0, g, h1, h2, h3, h4 => by
    refine ⟨EqS.refl _ _ _, srt_seg.2 fun p q q1 q2 q3 => ?_⟩
    show F (g p) (g q) ≤ 0
    by_cases hp : p = 0
    · subst hp; exact h4 q q2 (by omega)
    · exact h3 p q q1 q2 (by omega) hp (by omega)
  | j + 1, g, h1, h2, h3, h4 => by
    unfold bub
    by_cases hc : a < j + 1 ∧ F (g (j + 1)) (g j) < 0
    · rw [if_pos hc]
      have s := sw_eqs hF hc.2
      have hsw : ∀ k, k ≠ j → k ≠ j + 1 → sw g (j + 1) j k = g k := fun k q1 q2 => by unfold sw; rw [if_neg q1, if_neg q2]
      have e1 : sw g (j + 1) j j = g (j + 1) := by unfold sw; rw [if_pos rfl]
      have e2 : sw g (j + 1) j (j + 1) = g j := by unfold sw; rw [if_neg (by omega), if_pos rfl]
      obtain ⟨i1, i2⟩ := bub_ok (a := a) hF i j (sw g (j + 1) j) (by omega) (by omega) (fun p q q1 q2 q3 q4 q5 => by
          by_cases hp : p = j + 1
          · subst hp
            rw [e2, hsw q (by omega) (by omega)]
            exact h3 j q (by omega) (by omega) q3 (by omega) (by omega)
          · by_cases hq : q = j + 1
            · subst hq
              rw [e2, hsw p q4 hp]
              exact h3 p j q1 (by omega) (by omega) hp (by omega)
            · rw [hsw p q4 hp, hsw q q5 hq]
              exact h3 p q q1 q2 q3 hp hq) (fun q q1 q2 => by
          rw [e1]
          by_cases hq : q = j + 1
          · subst hq; rw [e2]; omega
          · rw [hsw q (by omega) hq]; exact h4 q (by omega) q2)
      exact ⟨(s.wide (a' := a) (b' := i + 1) (by omega) (by omega) (by omega)).trans i1, i2⟩
    · rw [if_neg hc]
      refine ⟨EqS.refl _ _ _, srt_seg.2 fun p q q1 q2 q3 => ?_⟩
      show F (g p) (g q) ≤ 0
      by_cases hp : p = j + 1
      · subst hp; exact h4 q q2 (by omega)
      · by_cases hq : q = j + 1
        · subst hq
          by_cases hj : p = j
          · subst hj
            have := hF.anti (g p) (g (p + 1))
            omega
          · have h5 := h3 p j q1 (by omega) (by omega) hp (by omega)
            have h6 : F (g j) (g (j + 1)) ≤ 0 := by have := hF.anti (g j) (g (j + 1)); omega
            exact hF.tr _ _ _ h5 h6
        · exact h3 p q q1 q2 (by omega) hp hq
theorem bub_ins (hF : IsOrd F) {a i : Nat} {g : Nat → α} (h : a ≤ i) (hs : Srt F (seg g a i)) : EqS F a (i + 1) g (bub F a i g).1 ∧ Srt F (seg (bub F a i g).1 a (i + 1)) :=
  bub_ok hF i i g h (Nat.le_refl _) (fun p q q1 q2 q3 q4 q5 => srt_seg.1 hs p q q1 q2 (by omega)) (fun q q1 q2 => by omega)
theorem bub_le (F : α → α → Int) (a : Nat) : ∀ (j : Nat) (g : Nat → α), (bub F a j g).2 ≤ j
  | 0, g => Nat.le_refl _
  | j + 1, g => by
    unfold bub
    split
    · have := bub_le F a j (sw g (j + 1) j); omega
    · exact Nat.le_refl _
/-- Two pieces of one length change places. -/
def swpR (f : Nat → α) (a b n : Nat) : Nat → α := fun k => if a ≤ k ∧ k < a + n then f (k + b - a) else if b ≤ k ∧ k < b + n then f (k + a - b) else f k
theorem swpR_step {f : Nat → α} {a b n : Nat} (h : a + n < b) : sw (swpR f a b n) (b + n) (a + n) = swpR f a b (n + 1) := by
  funext k
  unfold sw swpR
  (repeat' split) <;> first | rfl | (exfalso; omega) | (congr 1; omega)
theorem swpR_head {f : Nat → α} {a b n : Nat} (h : a + n < b) : swpR (sw f a b) (a + 1) (b + 1) n = swpR f a b (n + 1) := by
  funext k
  unfold sw swpR
  dsimp only
  (repeat' split) <;> first | rfl | (exfalso; omega) | (congr 1; omega)
theorem swpR_zero (f : Nat → α) (a b : Nat) : swpR f a b 0 = f := by
  funext k
  unfold swpR
  rw [if_neg (by omega), if_neg (by omega)]
/-- Two neighbouring pieces change places. -/
def rotR (f : Nat → α) (a m b : Nat) : Nat → α := fun k => if a ≤ k ∧ k < a + (b - m) then f (k + (m - a)) else if a + (b - m) ≤ k ∧ k < b then f (k + m - b) else f k
/-- A turn's loop: what it has come to when i and j are left. -/
theorem rot_gt {f : Nat → α} {m i j : Nat} (hi : i ≤ m) (h : j < i) : rotR (swpR f (m - i) m j) (m - (i - j)) m (m + j) = rotR f (m - i) m (m + j) := by
  funext k
  unfold rotR swpR
  (repeat' split) <;> first | rfl | (exfalso; omega) | (congr 1; omega)
theorem rot_lt {f : Nat → α} {m i j : Nat} (hi : i ≤ m) (h : i < j) : rotR (swpR f (m - i) (m + j - i) i) (m - i) m (m + (j - i)) = rotR f (m - i) m (m + j) := by
  funext k
  unfold rotR swpR
  (repeat' split) <;> first | rfl | (exfalso; omega) | (congr 1; omega)
theorem rot_eq {f : Nat → α} {m i : Nat} (hi : i ≤ m) : swpR f (m - i) m i = rotR f (m - i) m (m + i) := by
  funext k
  unfold rotR swpR
  (repeat' split) <;> first | rfl | (exfalso; omega) | (congr 1; omega)
theorem rotR_seg1 {f : Nat → α} {a m b : Nat} (h1 : a ≤ m) (h2 : m ≤ b) : seg (rotR f a m b) a (a + (b - m)) = seg f m b := by
  have := seg_shift (f := f) (g := rotR f a m b) (a := m) (b := b) (a' := a) fun k hk => by
    unfold rotR
    rw [if_pos (by omega)]
    congr 1; omega
  exact this.symm
theorem rotR_seg2 {f : Nat → α} {a m b : Nat} (h1 : a ≤ m) (h2 : m ≤ b) : seg (rotR f a m b) (a + (b - m)) b = seg f a m := by
  have := seg_shift (f := f) (g := rotR f a m b) (a := a) (b := m) (a' := a + (b - m)) fun k hk => by
    unfold rotR
    rw [if_neg (by omega), if_pos (by omega)]
    congr 1; omega
  rw [show a + (b - m) + (m - a) = b by omega] at this
  exact this.symm
theorem rotR_eqs (hF : IsOrd F) {f : Nat → α} {a m b : Nat} (h1 : a ≤ m) (h2 : m ≤ b) (h : ∀ p q, a ≤ p → p < m → m ≤ q → q < b → F (f q) (f p) < 0) : EqS F a b f (rotR f a m b) := by
  refine ⟨fun k hk => ?_, ?_⟩
  · unfold rotR
    rw [if_neg (by omega), if_neg (by omega)]
  · rw [seg_app f h1 h2, seg_app (rotR f a m b) (show a ≤ a + (b - m) by omega) (by omega), rotR_seg1 h1 h2, rotR_seg2 h1 h2]
    refine SameC.swap hF fun x hx y hy => ?_
    obtain ⟨p, p1, p2, rfl⟩ := seg_mem.1 hx
    obtain ⟨q, q1, q2, rfl⟩ := seg_mem.1 hy
    exact h p q p1 p2 q1 q2
theorem rotR_get1 {f : Nat → α} {a m b k : Nat} (h1 : a ≤ k) (h2 : k < a + (b - m)) : rotR f a m b k = f (k + (m - a)) := by unfold rotR; rw [if_pos ⟨h1, h2⟩]
theorem rotR_get2 {f : Nat → α} {a m b k : Nat} (h0 : a ≤ m) (h1 : a + (b - m) ≤ k) (h2 : k < b) : rotR f a m b k = f (k + m - b) := by unfold rotR; rw [if_neg (by omega), if_pos ⟨h1, h2⟩]
theorem rotR_out {f : Nat → α} {a m b k : Nat} (h0 : a ≤ m) (hb : m ≤ b) (h : k < a ∨ b ≤ k) : rotR f a m b k = f k := by unfold rotR; rw [if_neg (by omega), if_neg (by omega)]
theorem rotR_same {f : Nat → α} {a m b : Nat} (h : a = m ∨ m = b) (h0 : a ≤ m) (hb : m ≤ b) : rotR f a m b = f := by
  funext k
  unfold rotR
  (repeat' split) <;> first | rfl | (exfalso; omega) | (congr 1; omega)
/-- A turn's loop: the row, and the length that is left of both. -/
def rotM : Nat → (Nat → α) → Nat → Nat → Nat → (Nat → α) × Nat
  | 0, f, m, i, j => (f, i)
  | n + 1, f, m, i, j => if i = j then (f, i) else if j < i then rotM n (swpR f (m - i) m j) m (i - j) j else rotM n (swpR f (m - i) (m + j - i) i) m i (j - i)
theorem rotM_ok : ∀ (n : Nat) (f : Nat → α) (m i j : Nat), i + j ≤ n → 0 < i → 0 < j → i ≤ m →
    0 < (rotM n f m i j).2 ∧ (rotM n f m i j).2 ≤ i ∧ (rotM n f m i j).2 ≤ j ∧ swpR (rotM n f m i j).1 (m - (rotM n f m i j).2) m (rotM n f m i j).2 = rotR f (m - i) m (m + j)
  | 0, f, m, i, j, h1, h2, h3, h4 => by omega
  | n + 1, f, m, i, j, h1, h2, h3, h4 => by
    unfold rotM
    by_cases he : i = j
    · subst he
      rw [if_pos rfl]
      exact ⟨h2, Nat.le_refl _, Nat.le_refl _, rot_eq h4⟩
    · rw [if_neg he]
      by_cases hl : j < i
      · rw [if_pos hl]
        obtain ⟨i1, i2, i3, i4⟩ := rotM_ok n (swpR f (m - i) m j) m (i - j) j (by omega) (by omega) h3 (by omega)
        exact ⟨i1, by omega, i3, i4.trans (rot_gt h4 hl)⟩
      · rw [if_neg hl]
        obtain ⟨i1, i2, i3, i4⟩ := rotM_ok n (swpR f (m - i) (m + j - i) i) m i (j - i) (by omega) h2 (by omega) h4
        exact ⟨i1, i2, by omega, i4.trans (rot_lt h4 (by omega))⟩
theorem rotM_more : ∀ (n k : Nat) (f : Nat → α) (m i j : Nat), i + j ≤ n → i + j ≤ k → 0 < i → 0 < j → rotM n f m i j = rotM k f m i j
  | 0, _, f, m, i, j, h, _, h1, h2 => by omega
  | _ + 1, 0, f, m, i, j, _, h, h1, h2 => by omega
  | n + 1, k + 1, f, m, i, j, h, h', h1, h2 => by
    unfold rotM
    by_cases he : i = j
    · rw [if_pos he, if_pos he]
    · rw [if_neg he, if_neg he]
      by_cases hl : j < i
      · rw [if_pos hl, if_pos hl, rotM_more n k _ m (i - j) j (by omega) (by omega) (by omega) h2]
      · rw [if_neg hl, if_neg hl, rotM_more n k _ m i (j - i) (by omega) (by omega) h1 (by omega)]
theorem rotM_step {f : Nat → α} {m i j : Nat} (h1 : 0 < i) (h2 : 0 < j) : rotM (i + j) f m i j = if i = j then (f, i) else if j < i then rotM (i - j + j) (swpR f (m - i) m j) m (i - j) j else rotM (i + (j - i)) (swpR f (m - i) (m + j - i) i) m i (j - i) := by
  obtain ⟨n, hn⟩ : ∃ n, i + j = n + 1 := ⟨i + j - 1, by omega⟩
  rw [hn]
  conv => lhs; unfold rotM
  by_cases he : i = j
  · rw [if_pos he, if_pos he]
  · rw [if_neg he, if_neg he]
    by_cases hl : j < i
    · rw [if_pos hl, if_pos hl, rotM_more n (i - j + j) _ m (i - j) j (by omega) (by omega) (by omega) h2]
    · rw [if_neg hl, if_neg hl, rotM_more n (i + (j - i)) _ m i (j - i) (by omega) (by omega) h1 (by omega)]
/-! ### A merge in place -/
/-- The left half's piece that goes behind: where it begins. -/
structure Cut (F : α → α → Int) (f : Nat → α) (a m b s : Nat) : Prop where
  lo : a ≤ s
  hi : s ≤ m
  mid : s ≤ (a + b) / 2
  end1 : m ≤ (a + b) / 2 + m - s
  end2 : (a + b) / 2 + m - s ≤ b
  below : ∀ p q, a ≤ p → p < s → (a + b) / 2 + m - s ≤ q → q < b → F (f p) (f q) ≤ 0
  above : ∀ p q, s ≤ p → p < m → m ≤ q → q < (a + b) / 2 + m - s → F (f q) (f p) < 0
/-- **A CUT MADE, BOTH HALVES SORTED: THE WHOLE IS SORTED.** -/
theorem merge_cut (hF : IsOrd F) {f : Nat → α} {a m b s : Nat} (h1 : a ≤ m) (h2 : m ≤ b) (hs1 : Srt F (seg f a m)) (hs2 : Srt F (seg f m b)) (c : Cut F f a m b s) :
    sortG F (sortG F (rotR f s m ((a + b) / 2 + m - s)) a ((a + b) / 2)) ((a + b) / 2) b = sortG F f a b := by
  obtain ⟨c1, c2, c3, c4, c5, c6, c7⟩ := c
  generalize hmid : (a + b) / 2 = mid at *
  have hmb : mid ≤ b := by omega
  have ham : a ≤ mid := by omega
  generalize he : mid + m - s = e at *
  have r := rotR_eqs hF c2 c4 c7
  have g1 := sortG_eqs hF (rotR f s m e) a mid
  have g2 := sortG_eqs hF (sortG F (rotR f s m e) a mid) mid b
  have all := ((r.wide (a' := a) (b' := b) c1 (by omega) c5).trans (g1.wide (a' := a) (b' := b) (Nat.le_refl _) ham hmb)).trans (g2.wide (a' := a) (b' := b) ham hmb (Nat.le_refl _))
  refine (sortG_of hF all ?_).symm
  -- what lies where
  have hlt : ∀ p q, a ≤ p → p < mid → mid ≤ q → q < b → F (rotR f s m e p) (rotR f s m e q) ≤ 0 := by
    intro p q p1 p2 q1 q2
    have hp : ∃ u, rotR f s m e p = f u ∧ ((a ≤ u ∧ u < s) ∨ (m ≤ u ∧ u < e)) := by
      by_cases hps : p < s
      · exact ⟨p, rotR_out c2 c4 (.inl hps), .inl ⟨p1, hps⟩⟩
      · exact ⟨p + (m - s), rotR_get1 (by omega) (by omega), .inr ⟨by omega, by omega⟩⟩
    have hq : ∃ v, rotR f s m e q = f v ∧ ((s ≤ v ∧ v < m) ∨ (e ≤ v ∧ v < b)) := by
      by_cases hqe : q < e
      · exact ⟨q + m - e, rotR_get2 c2 (by omega) hqe, .inl ⟨by omega, by omega⟩⟩
      · exact ⟨q, rotR_out c2 c4 (.inr (by omega)), .inr ⟨by omega, q2⟩⟩
    obtain ⟨u, eu, hu⟩ := hp
    obtain ⟨v, ev, hv⟩ := hq
    rw [eu, ev]
    rcases hu with ⟨u1, u2⟩ | ⟨u1, u2⟩ <;> rcases hv with ⟨v1, v2⟩ | ⟨v1, v2⟩
    · exact srt_seg.1 hs1 u v u1 (by omega) v2
    · exact c6 u v u1 u2 v1 v2
    · have := c7 v u v1 v2 u1 u2
      omega
    · exact srt_seg.1 hs2 u v u1 (by omega) v2
  have hl := sortG_srt hF (rotR f s m e) a mid
  have hr := sortG_srt hF (sortG F (rotR f s m e) a mid) mid b
  -- members stay members
  have mem1 : ∀ p, a ≤ p → p < mid → ∃ u, a ≤ u ∧ u < mid ∧ F (rotR f s m e u) (sortG F (rotR f s m e) a mid p) = 0 := by
    intro p p1 p2
    have hm : sortG F (rotR f s m e) a mid p ∈ cls F (sortG F (rotR f s m e) a mid p) (seg (sortG F (rotR f s m e) a mid) a mid) := cls_mem.2 ⟨seg_mem.2 ⟨p, p1, p2, rfl⟩, hF.self _⟩
    rw [← g1.same] at hm
    have := cls_mem.1 hm
    obtain ⟨u, u1, u2, u3⟩ := seg_mem.1 this.1
    exact ⟨u, u1, u2, by rw [u3]; exact hF.self _⟩
  have mem2 : ∀ q, mid ≤ q → q < b → ∃ v, mid ≤ v ∧ v < b ∧ F (rotR f s m e v) (sortG F (sortG F (rotR f s m e) a mid) mid b q) = 0 := by
    intro q q1 q2
    have hm : sortG F (sortG F (rotR f s m e) a mid) mid b q ∈ cls F (sortG F (sortG F (rotR f s m e) a mid) mid b q) (seg (sortG F (sortG F (rotR f s m e) a mid) mid b) mid b) := cls_mem.2 ⟨seg_mem.2 ⟨q, q1, q2, rfl⟩, hF.self _⟩
    rw [← g2.same] at hm
    have := cls_mem.1 hm
    obtain ⟨v, v1, v2, v3⟩ := seg_mem.1 this.1
    refine ⟨v, v1, v2, ?_⟩
    rw [g1.out v (by omega)] at v3
    rw [v3]; exact hF.self _
  refine srt_seg.2 fun p q p1 p2 q2 => ?_
  by_cases hp : p < mid
  · by_cases hq : q < mid
    · rw [g2.out p (by omega), g2.out q (by omega)]
      exact srt_seg.1 hl p q p1 p2 hq
    · obtain ⟨u, u1, u2, u3⟩ := mem1 p p1 hp
      obtain ⟨v, v1, v2, v3⟩ := mem2 q (by omega) q2
      rw [g2.out p (by omega)]
      have := hlt u v u1 u2 v1 v2
      rw [hF.eqr _ _ (rotR f s m e v) u3] at this
      rw [hF.eql v3] at this
      exact this
  · exact srt_seg.1 hr p q (by omega) p2 q2
end
end Go.Ab
namespace Go.Ab
open Go
set_option linter.unusedVariables false
set_option linter.unusedSimpArgs false
variable {P : Program}
/-! ### Contracts of functions that call themselves -/
theorem sound_all {f : FuncId} {c : List AV → Hp → T (AV × Hp)} {cn : Nat → List AV → Hp → T (AV × Hp)} (hs : ∀ n, Sound1 P ⟨f, false, gcon (cn n)⟩) (h : ∀ args hs r, (c args hs).run = some r → ∃ n, (cn n args hs).run = some r) : Sound1 P ⟨f, false, gcon c⟩ where
  ok args hp r hp' hr := by
    have key : ∃ n, (gcon (cn n) args hp).run = some (r, hp') := by
      unfold gcon at hr ⊢
      simp only at hr ⊢
      split at hr
      · rename_i hc
        obtain ⟨a, h1, h2⟩ := bind_some_inv hr
        obtain ⟨n, h3⟩ := h _ _ _ h1
        refine ⟨n, ?_⟩
        rw [T.run_bind, h3]
        exact h2
      · cases hr
    obtain ⟨n, hn⟩ := key
    exact (hs n).ok args hp r hp' hn
  len args hp r hp' hr := gcon_len hr
  pure h := by cases h
theorem sound_allp {f : FuncId} {c : List AV → T AV} {cn : Nat → List AV → T AV} (hs : ∀ n, Sound1 P ⟨f, true, pcon (cn n)⟩) (h : ∀ args r, (c args).run = some r → ∃ n, (cn n args).run = some r) : Sound1 P ⟨f, true, pcon c⟩ where
  ok args hp r hp' hr X0 σ w vargs hR hV := by
    obtain ⟨h1, h2, h3, rfl, h4⟩ := pcon_run hr
    obtain ⟨n, hn⟩ := h _ _ h2
    refine (hs n).ok args hp' r hp' ?_ X0 σ w vargs hR hV
    unfold pcon
    simp only [h1, T.run_bind, hn, Option.bind_some, h3, T.run_leaf]
  len args hp r hp' hr := by
    obtain ⟨_, _, _, rfl, _⟩ := pcon_run hr; exact Nat.le_refl _
  pure _ args hp r hp' hr := by
    obtain ⟨_, _, _, rfl, h4⟩ := pcon_run hr; exact ⟨rfl, h4⟩
/-! ### Rows of texts as functions -/
def rowS (f : Nat → List UInt8) : Nat → Nat → AV := fun i _ => .str (f i)
def unS (g : Nat → Nat → AV) : Nat → List UInt8 := fun i => strOf (g i 0)
theorem unS_rowS (f : Nat → List UInt8) : unS (rowS f) = f := rfl
theorem updS (f : Nat → List UInt8) (i : Nat) (x : List UInt8) : updf 1 (rowS f) i 0 [.str x] = rowS fun k => if k = i then x else f k := by
  funext k c
  show (if k = i then AV.str x else AV.str (f k)) = AV.str (if k = i then x else f k)
  split <;> rfl
theorem updS2 (f : Nat → List UInt8) (i j : Nat) : updf 1 (updf 1 (rowS f) i 0 [.str (f j)]) j 0 [.str (f i)] = rowS (sw f i j) := by
  rw [updS, updS]; rfl
theorem strF_rowS (l : List (List UInt8)) : strF l = rowS fun i => l.getD i [] := rfl
theorem w64a {a b : Nat} (h : a + b < 9223372036854775807) : IntKind.i64.wrap ((a : Int) + (b : Int)) = ((a + b : Nat) : Int) := by rw [wrap64 (by omega) (by omega)]; rfl
theorem w64s {a b : Nat} (h : b ≤ a) (h2 : a < 9223372036854775807) : IntKind.i64.wrap ((a : Int) - (b : Int)) = ((a - b : Nat) : Int) := by rw [wrap64 (by omega) (by omega)]; omega
theorem in_row {k n : Nat} (h : k < n) : decide ((0 : Int) ≤ (k : Int) ∧ (k : Int) < (n : Int)) = true := decide_eq_true ⟨by omega, by omega⟩
/-- A search by halves. -/
def bsN (C : Nat → Bool) : Nat → Nat → Nat → Nat
  | 0, lo, hi => lo
  | n + 1, lo, hi => bif decide (lo < hi) then (bif C ((lo + hi) / 2) then bsN C n ((lo + hi) / 2 + 1) hi else bsN C n lo ((lo + hi) / 2)) else lo
theorem bsN_ok {C : Nat → Bool} : ∀ (n lo hi : Nat), hi - lo ≤ n → lo ≤ hi → (∀ c c', lo ≤ c → c ≤ c' → c' < hi → C c' = true → C c = true) →
    lo ≤ bsN C n lo hi ∧ bsN C n lo hi ≤ hi ∧ (∀ c, lo ≤ c → c < bsN C n lo hi → C c = true) ∧ (∀ c, bsN C n lo hi ≤ c → c < hi → C c = false)
  | 0, lo, hi, h1, h2, h3 => ⟨Nat.le_refl _, h2, fun c _ _ => by simp only [bsN] at *; omega, fun c _ _ => by simp only [bsN] at *; omega⟩
  | n + 1, lo, hi, h1, h2, h3 => by
    unfold bsN
    by_cases hl : lo < hi
    · rw [decide_eq_true hl, cond_true]
      cases hC : C ((lo + hi) / 2) with
      | true =>
        rw [cond_true]
        obtain ⟨i1, i2, i3, i4⟩ := bsN_ok n ((lo + hi) / 2 + 1) hi (by omega) (by omega) fun c c' q1 q2 q3 => h3 c c' (by omega) q2 q3
        refine ⟨by omega, i2, fun c q1 q2 => ?_, i4⟩
        by_cases hc : c ≤ (lo + hi) / 2
        · exact h3 c _ q1 hc (by omega) hC
        · exact i3 c (by omega) q2
      | false =>
        rw [cond_false]
        obtain ⟨i1, i2, i3, i4⟩ := bsN_ok n lo ((lo + hi) / 2) (by omega) (by omega) fun c c' q1 q2 q3 => h3 c c' q1 q2 (by omega)
        refine ⟨i1, by omega, i3, fun c q1 q2 => ?_⟩
        by_cases hc : c < (lo + hi) / 2
        · exact i4 c q1 hc
        · cases hx : C c with
          | false => rfl
          | true =>
            have := h3 ((lo + hi) / 2) c (by omega) (by omega) q2 hx
            rw [hC] at this; cases this
    · rw [decide_eq_false hl, cond_false]
      exact ⟨Nat.le_refl _, h2, fun c q1 q2 => by omega, fun c q1 q2 => by omega⟩
theorem bsN_more {C : Nat → Bool} : ∀ (n m lo hi : Nat), hi - lo ≤ n → hi - lo ≤ m → bsN C n lo hi = bsN C m lo hi
  | 0, 0, lo, hi, _, _ => rfl
  | 0, m + 1, lo, hi, h, _ => by
    conv => rhs; unfold bsN
    rw [decide_eq_false (by omega)]; rfl
  | n + 1, 0, lo, hi, _, h => by
    conv => lhs; unfold bsN
    rw [decide_eq_false (by omega)]; rfl
  | n + 1, m + 1, lo, hi, h1, h2 => by
    unfold bsN
    by_cases hl : lo < hi
    · rw [bsN_more n m ((lo + hi) / 2 + 1) hi (by omega) (by omega), bsN_more n m lo ((lo + hi) / 2) (by omega) (by omega)]
    · rw [decide_eq_false hl]; rfl
/-- A search's step. -/
theorem bsN_step {C : Nat → Bool} {lo hi : Nat} (h : lo < hi) : bsN C (hi - lo) lo hi = bif C ((lo + hi) / 2) then bsN C (hi - ((lo + hi) / 2 + 1)) ((lo + hi) / 2 + 1) hi else bsN C ((lo + hi) / 2 - lo) lo ((lo + hi) / 2) := by
  obtain ⟨n, hn⟩ : ∃ n, hi - lo = n + 1 := ⟨hi - lo - 1, by omega⟩
  rw [hn]
  conv => lhs; unfold bsN
  rw [decide_eq_true h, cond_true, bsN_more n (hi - ((lo + hi) / 2 + 1)) ((lo + hi) / 2 + 1) hi (by omega) (by omega), bsN_more n ((lo + hi) / 2 - lo) lo ((lo + hi) / 2) (by omega) (by omega)]
theorem bsN_end {C : Nat → Bool} {lo hi : Nat} (h : hi ≤ lo) : bsN C (hi - lo) lo hi = lo := by
  rw [show hi - lo = 0 by omega]; rfl
end Go.Ab
namespace Go.Ab
open Go
set_option linter.unusedVariables false
set_option linter.unusedSimpArgs false
section
variable {α : Type} {F : α → α → Int}
/-! ### A merge in place: where to cut -/
theorem rot_sorted (hF : IsOrd F) {f : Nat → α} {a s m e b : Nat} (h1 : a ≤ s) (h2 : s ≤ m) (h3 : m ≤ e) (h4 : e ≤ b) (hs1 : Srt F (seg f a m)) (hs2 : Srt F (seg f m b))
    (q1 : ∀ p q, a ≤ p → p < s → m ≤ q → q < e → F (f p) (f q) ≤ 0) (q2 : ∀ p q, s ≤ p → p < m → m ≤ q → q < e → F (f q) (f p) < 0)
    (q3 : ∀ p q, a ≤ p → p < m → e ≤ q → q < b → F (f p) (f q) ≤ 0) : sortG F f a b = rotR f s m e := by
  refine sortG_of hF ((rotR_eqs hF h2 h3 q2).wide h1 (by omega) h4) (srt_seg.2 fun i j i1 ij j2 => ?_)
  have key : ∀ p, a ≤ p → p < b → ∃ u, rotR f s m e p = f u ∧ ((p < s ∧ u = p) ∨ (s ≤ p ∧ p < s + (e - m) ∧ u = p + (m - s)) ∨ (s + (e - m) ≤ p ∧ p < e ∧ u = p + m - e) ∨ (e ≤ p ∧ u = p)) := by
    intro p p1 p2
    by_cases c1 : p < s
    · exact ⟨p, rotR_out h2 h3 (.inl c1), .inl ⟨c1, rfl⟩⟩
    · by_cases c2 : p < s + (e - m)
      · exact ⟨_, rotR_get1 (by omega) c2, .inr (.inl ⟨by omega, c2, rfl⟩)⟩
      · by_cases c3 : p < e
        · exact ⟨_, rotR_get2 h2 (by omega) c3, .inr (.inr (.inl ⟨by omega, c3, rfl⟩))⟩
        · exact ⟨p, rotR_out h2 h3 (.inr (by omega)), .inr (.inr (.inr ⟨by omega, rfl⟩))⟩
  obtain ⟨u, eu, hu⟩ := key i i1 (by omega)
  obtain ⟨v, ev, hv⟩ := key j (by omega) j2
  rw [eu, ev]
  rcases hu with ⟨a1, rfl⟩ | ⟨a1, a2, rfl⟩ | ⟨a1, a2, rfl⟩ | ⟨a1, rfl⟩ <;> rcases hv with ⟨b1, rfl⟩ | ⟨b1, b2, rfl⟩ | ⟨b1, b2, rfl⟩ | ⟨b1, rfl⟩
  all_goals first
    | omega
    | exact srt_seg.1 hs1 _ _ (by omega) (by omega) (by omega)
    | exact srt_seg.1 hs2 _ _ (by omega) (by omega) (by omega)
    | exact q1 _ _ (by omega) (by omega) (by omega) (by omega)
    | exact Int.le_of_lt (q2 _ _ (by omega) (by omega) (by omega) (by omega))
    | exact q3 _ _ (by omega) (by omega) (by omega) (by omega)
/-- What the search asks. -/
def cutC (F : α → α → Int) (f : Nat → α) (p c : Nat) : Bool := !decide (F (f (p - c)) (f c) < 0)
theorem cut_of (hF : IsOrd F) {f : Nat → α} {a m b lo hi : Nat} (h1 : a < m) (h2 : m < b) (hs1 : Srt F (seg f a m)) (hs2 : Srt F (seg f m b))
    (hlo : (m > (a + b) / 2 ∧ lo = (a + b) / 2 + m - b ∧ hi = (a + b) / 2) ∨ (m ≤ (a + b) / 2 ∧ lo = a ∧ hi = m)) : Cut F f a m b (bsN (cutC F f ((a + b) / 2 + m - 1)) (hi - lo) lo hi) := by
  generalize hmid : (a + b) / 2 = mid at *
  have hm1 : 2 * mid ≤ a + b := by omega
  have hm2 : a + b ≤ 2 * mid + 1 := by omega
  have rng : ∀ c, lo ≤ c → c < hi → a ≤ c ∧ c < m ∧ m ≤ mid + m - 1 - c ∧ mid + m - 1 - c < b := by
    intro c c1 c2
    rcases hlo with ⟨q0, q1, q2⟩ | ⟨q0, q1, q2⟩ <;> omega
  have le1 : ∀ c, cutC F f (mid + m - 1) c = true ↔ F (f c) (f (mid + m - 1 - c)) ≤ 0 := by
    intro c
    have := hF.anti (f c) (f (mid + m - 1 - c))
    unfold cutC
    rw [Bool.not_eq_true', decide_eq_false_iff_not]
    omega
  have mono1 : ∀ x y, a ≤ x → x ≤ y → y < m → F (f x) (f y) ≤ 0 := by
    intro x y x1 x2 x3
    by_cases e : x = y
    · subst e; rw [hF.self]; exact Int.le_refl _
    · exact srt_seg.1 hs1 x y x1 (by omega) x3
  have mono2 : ∀ x y, m ≤ x → x ≤ y → y < b → F (f x) (f y) ≤ 0 := by
    intro x y x1 x2 x3
    by_cases e : x = y
    · subst e; rw [hF.self]; exact Int.le_refl _
    · exact srt_seg.1 hs2 x y x1 (by omega) x3
  obtain ⟨s1, s2, s3, s4⟩ := bsN_ok (C := cutC F f (mid + m - 1)) (hi - lo) lo hi (Nat.le_refl _) (by rcases hlo with ⟨q0, q1, q2⟩ | ⟨q0, q1, q2⟩ <;> omega) (by
    intro c c' c1 c2 c3 hc
    have r1 := rng c c1 (by omega)
    have r2 := rng c' (by omega) c3
    rw [le1] at hc ⊢
    exact hF.tr _ _ _ (mono1 c c' r1.1 c2 r2.2.1) (hF.tr _ _ _ hc (mono2 _ _ r2.2.2.1 (by omega) r1.2.2.2)))
  generalize hs : bsN (cutC F f (mid + m - 1)) (hi - lo) lo hi = s at *
  have ea : a ≤ lo ∧ hi ≤ m ∧ hi ≤ mid ∧ mid + m - lo ≤ b := by rcases hlo with ⟨q0, q1, q2⟩ | ⟨q0, q1, q2⟩ <;> omega
  refine ⟨by omega, by omega, by omega, by omega, by omega, fun p q p1 p2 q1 q2 => ?_, fun p q p1 p2 q1 q2 => ?_⟩
  · by_cases hsl : lo < s
    · have hc := (le1 (s - 1)).1 (s3 (s - 1) (by omega) (by omega))
      have r := rng (s - 1) (by omega) (by omega)
      refine hF.tr _ _ _ (mono1 p (s - 1) p1 (by omega) r.2.1) (hF.tr _ _ _ hc (mono2 _ q r.2.2.1 (by omega) q2))
    · rcases hlo with ⟨g0, g1, g2⟩ | ⟨g0, g1, g2⟩ <;> omega
  · by_cases hsh : s < hi
    · have hc := s4 s (Nat.le_refl _) hsh
      have r := rng s s1 hsh
      have hlt : F (f (mid + m - 1 - s)) (f s) < 0 := by
        unfold cutC at hc
        rw [Bool.not_eq_false', decide_eq_true_eq] at hc
        exact hc
      exact hF.lt_of' (mono2 q (mid + m - 1 - s) q1 (by omega) r.2.2.2) (hF.lt_of hlt (mono1 s p r.1 p1 p2))
    · rcases hlo with ⟨g0, g1, g2⟩ | ⟨g0, g1, g2⟩ <;> omega
/-- One ahead of a sorted piece goes to its place. -/
theorem ins_front (hF : IsOrd F) {f : Nat → α} {a b : Nat} (h : a + 1 < b) (hs : Srt F (seg f (a + 1) b)) :
    sortG F f a b = rotR f a (a + 1) (bsN (fun h => decide (F (f h) (f a) < 0)) (b - (a + 1)) (a + 1) b) := by
  obtain ⟨s1, s2, s3, s4⟩ := bsN_ok (C := fun h => decide (F (f h) (f a) < 0)) (b - (a + 1)) (a + 1) b (Nat.le_refl _) (by omega) (by
    intro c c' c1 c2 c3 hc
    rw [decide_eq_true_eq] at hc ⊢
    by_cases e : c = c'
    · subst e; exact hc
    · exact hF.lt_of' (srt_seg.1 hs c c' c1 (by omega) c3) hc)
  refine rot_sorted hF (Nat.le_refl _) (by omega) s1 s2 (by rw [seg_one]; exact List.pairwise_singleton _ _) hs (fun p q p1 p2 => by omega) (fun p q p1 p2 q1 q2 => ?_) (fun p q p1 p2 q1 q2 => ?_)
  · obtain rfl : p = a := by omega
    exact of_decide_eq_true (s3 q q1 q2)
  · obtain rfl : p = a := by omega
    have := of_decide_eq_false (s4 q q1 q2)
    have := hF.anti (f p) (f q)
    omega
/-- One behind a sorted piece goes to its place. -/
theorem ins_back (hF : IsOrd F) {f : Nat → α} {a m : Nat} (h : a < m) (hs : Srt F (seg f a m)) :
    sortG F f a (m + 1) = rotR f (bsN (fun h => !decide (F (f m) (f h) < 0)) (m - a) a m) m (m + 1) := by
  obtain ⟨s1, s2, s3, s4⟩ := bsN_ok (C := fun h => !decide (F (f m) (f h) < 0)) (m - a) a m (Nat.le_refl _) (by omega) (by
    intro c c' c1 c2 c3 hc
    rw [Bool.not_eq_true', decide_eq_false_iff_not] at hc ⊢
    intro hx
    by_cases e : c = c'
    · subst e; exact hc hx
    · exact hc (hF.lt_of hx (srt_seg.1 hs c c' c1 (by omega) c3)))
  refine rot_sorted hF s1 s2 (by omega) (Nat.le_refl _) hs (by rw [seg_one]; exact List.pairwise_singleton _ _) (fun p q p1 p2 q1 q2 => ?_) (fun p q p1 p2 q1 q2 => ?_) (fun p q p1 p2 q1 q2 => by omega)
  · obtain rfl : q = m := by omega
    have := s3 p p1 p2
    rw [Bool.not_eq_true', decide_eq_false_iff_not] at this
    have := hF.anti (f p) (f q)
    omega
  · obtain rfl : q = m := by omega
    have := s4 p p1 p2
    rw [Bool.not_eq_false', decide_eq_true_eq] at this
    exact this
theorem rot_up {f : Nat → α} {k i : Nat} (h : k + 1 < i) : rotR (sw f k (k + 1)) (k + 1) (k + 1 + 1) i = rotR f k (k + 1) i := by
  funext x
  unfold rotR sw
  try dsimp only
  (repeat' split) <;> first | rfl | (exfalso; omega) | (congr 1; omega)
theorem rot_dn {f : Nat → α} {k i : Nat} (h : i ≤ k) : rotR (sw f (k + 1) k) i k (k + 1) = rotR f i (k + 1) (k + 1 + 1) := by
  funext x
  unfold rotR sw
  try dsimp only
  (repeat' split) <;> first | rfl | (exfalso; omega) | (congr 1; omega)
/-- What is sorted behind the turn. -/
theorem cut_facts {f : Nat → α} {a m b s mid e : Nat} (hmid : (a + b) / 2 = mid) (he : mid + m - s = e) (h1 : a < m) (h2 : m < b) (hs1 : Srt F (seg f a m)) (hs2 : Srt F (seg f m b)) (c : Cut F f a m b s) :
    Srt F (seg (rotR f s m e) a s) ∧ Srt F (seg (rotR f s m e) s mid) ∧ Srt F (seg (rotR f s m e) mid e) ∧ Srt F (seg (rotR f s m e) e b) ∧ (s = a ∨ s = mid → Srt F (seg (rotR f s m e) a mid)) ∧ (e = mid ∨ e = b → Srt F (seg (rotR f s m e) mid b)) := by
  obtain ⟨c1, c2, c3, c4, c5, c6, c7⟩ := c
  rw [hmid] at c3 c4 c5
  rw [he] at c4 c5
  have k1 : Srt F (seg (rotR f s m e) a s) := by
    rw [seg_congr fun k q1 q2 => rotR_out c2 c4 (.inl q2)]
    exact srt_sub hs1 (Nat.le_refl _) c2
  have e1 : s + (e - m) = mid := by omega
  have k2 : Srt F (seg (rotR f s m e) s mid) := by
    have := rotR_seg1 (f := f) c2 c4
    rw [e1] at this
    rw [this]
    exact srt_sub hs2 (Nat.le_refl _) c5
  have k3 : Srt F (seg (rotR f s m e) mid e) := by
    have := rotR_seg2 (f := f) c2 c4
    rw [e1] at this
    rw [this]
    exact srt_sub hs1 c1 (Nat.le_refl _)
  have k4 : Srt F (seg (rotR f s m e) e b) := by
    rw [seg_congr fun k q1 q2 => rotR_out c2 c4 (.inr q1)]
    exact srt_sub hs2 c4 (Nat.le_refl _)
  refine ⟨k1, k2, k3, k4, ?_, ?_⟩
  · rintro (rfl | rfl)
    · exact k2
    · exact k1
  · rintro (rfl | rfl)
    · exact k4
    · exact k3
theorem sortG_id (hF : IsOrd F) {f : Nat → α} {a b : Nat} (h : Srt F (seg f a b)) : sortG F f a b = f := sortG_of hF (EqS.refl a b f) h
/-- A piece behind the sorted one stays. -/
theorem sortG_seg {f : Nat → α} {a b c d : Nat} (hF : IsOrd F) (h : b ≤ c) : seg (sortG F f a b) c d = seg f c d := seg_congr fun k q1 q2 => (sortG_eqs hF f a b).out k (by omega)
/-! ### Blocks -/
/-- Each block of length z from a on is sorted. -/
def BS (F : α → α → Int) (z n : Nat) (f : Nat → α) (a : Nat) : Prop := ∀ k, Srt F (seg f (a + k * z) (min (a + k * z + z) n))
theorem BS.next {z n a : Nat} {f : Nat → α} (hF : IsOrd F) (h : BS F z n f a) : BS F z n (sortG F f a (a + 2 * z)) (a + 2 * z) := by
  intro k
  have e : a + 2 * z + k * z = a + (k + 2) * z := by rw [Nat.add_mul]; omega
  rw [e, sortG_seg hF (by rw [Nat.add_mul]; omega)]
  exact h (k + 2)
def bkM (F : α → α → Int) (z : Nat) : Nat → Nat → (Nat → α) → Nat → α
  | 0, a, f => f
  | k + 1, a, f => bkM F z k (a + z) (sortG F f a (a + z))
def mgM (F : α → α → Int) (z : Nat) : Nat → Nat → (Nat → α) → Nat → α
  | 0, a, f => f
  | k + 1, a, f => mgM F z k (a + 2 * z) (sortG F f a (a + 2 * z))
def tlM (F : α → α → Int) (z n a : Nat) (f : Nat → α) : Nat → α := if a + z < n then sortG F f a n else f
theorem bk_ok (hF : IsOrd F) {z n : Nat} (hz : 0 < z) : ∀ (k a : Nat) (f : Nat → α), a + k * z ≤ n → n < a + k * z + z →
    EqS F a n f (sortG F (bkM F z k a f) (a + k * z) n) ∧ BS F z n (sortG F (bkM F z k a f) (a + k * z) n) a
  | 0, a, f, h1, h2 => by
    simp only [Nat.zero_mul, Nat.add_zero, bkM] at *
    refine ⟨sortG_eqs hF f a n, fun k => ?_⟩
    cases k with
    | zero =>
      simp only [Nat.zero_mul, Nat.add_zero]
      rw [Nat.min_eq_right (by omega)]
      exact sortG_srt hF f a n
    | succ k =>
      rw [seg_nil (by have : z ≤ (k + 1) * z := Nat.le_mul_of_pos_left z (by omega)
                      omega)]
      exact List.Pairwise.nil
  | k + 1, a, f, h1, h2 => by
    have e : a + (k + 1) * z = a + z + k * z := by rw [Nat.add_mul]; omega
    rw [e] at h1 h2 ⊢
    unfold bkM
    obtain ⟨i1, i2⟩ := bk_ok hF hz k (a + z) (sortG F f a (a + z)) h1 h2
    refine ⟨((sortG_eqs hF f a (a + z)).wide (a' := a) (b' := n) (Nat.le_refl _) (by omega) (by omega)).trans (i1.wide (a' := a) (b' := n) (by omega) (by omega) (Nat.le_refl _)), fun j => ?_⟩
    cases j with
    | zero =>
      simp only [Nat.zero_mul, Nat.add_zero]
      rw [Nat.min_eq_left (by omega), seg_congr fun q q1 q2 => i1.out q (.inl q2)]
      exact sortG_srt hF f a (a + z)
    | succ j =>
      have := i2 j
      rwa [show a + (j + 1) * z = a + z + j * z by rw [Nat.add_mul]; omega]
theorem mg_ok (hF : IsOrd F) {z n : Nat} (hz : 0 < z) : ∀ (k a : Nat) (f : Nat → α), a + k * (2 * z) ≤ n → n < a + k * (2 * z) + 2 * z → BS F z n f a →
    EqS F a n f (tlM F z n (a + k * (2 * z)) (mgM F z k a f)) ∧ BS F (2 * z) n (tlM F z n (a + k * (2 * z)) (mgM F z k a f)) a
  | 0, a, f, h1, h2, hb => by
    simp only [Nat.zero_mul, Nat.add_zero, mgM] at *
    have later : ∀ (g : Nat → α) k, Srt F (seg g (a + (k + 1) * (2 * z)) (min (a + (k + 1) * (2 * z) + 2 * z) n)) := fun g k => by
      rw [seg_nil (by have : 2 * z ≤ (k + 1) * (2 * z) := Nat.le_mul_of_pos_left _ (by omega)
                      omega)]
      exact List.Pairwise.nil
    unfold tlM
    by_cases hc : a + z < n
    · rw [if_pos hc]
      refine ⟨sortG_eqs hF f a n, fun k => ?_⟩
      cases k with
      | zero =>
        simp only [Nat.zero_mul, Nat.add_zero]
        rw [Nat.min_eq_right (by omega)]
        exact sortG_srt hF f a n
      | succ k => exact later _ k
    · rw [if_neg hc]
      refine ⟨EqS.refl _ _ _, fun k => ?_⟩
      cases k with
      | zero =>
        have := hb 0
        simp only [Nat.zero_mul, Nat.add_zero] at this ⊢
        rw [Nat.min_eq_right (by omega)] at this ⊢
        exact this
      | succ k => exact later _ k
  | k + 1, a, f, h1, h2, hb => by
    have e : a + (k + 1) * (2 * z) = a + 2 * z + k * (2 * z) := by rw [Nat.add_mul]; omega
    rw [e] at h1 h2 ⊢
    unfold mgM
    obtain ⟨i1, i2⟩ := mg_ok hF hz k (a + 2 * z) (sortG F f a (a + 2 * z)) h1 h2 (hb.next hF)
    refine ⟨((sortG_eqs hF f a (a + 2 * z)).wide (a' := a) (b' := n) (Nat.le_refl _) (by omega) (by omega)).trans (i1.wide (a' := a) (b' := n) (by omega) (by omega) (Nat.le_refl _)), fun j => ?_⟩
    cases j with
    | zero =>
      simp only [Nat.zero_mul, Nat.add_zero]
      rw [Nat.min_eq_left (by omega), seg_congr fun q q1 q2 => i1.out q (.inl q2)]
      exact sortG_srt hF f a (a + 2 * z)
    | succ j =>
      have := i2 j
      rwa [show a + (j + 1) * (2 * z) = a + 2 * z + j * (2 * z) by rw [Nat.add_mul]; omega]
/-- Two blocks' halves, sorted. -/
theorem BS.two {z n a : Nat} {f : Nat → α} (h : BS F z n f a) (h2 : a + 2 * z ≤ n) : Srt F (seg f a (a + z)) ∧ Srt F (seg f (a + z) (a + 2 * z)) := by
  have h0 := h 0
  have h1 := h 1
  simp only [Nat.zero_mul, Nat.add_zero, Nat.one_mul] at h0 h1
  rw [Nat.min_eq_left (by omega)] at h0 h1
  rw [show a + 2 * z = a + z + z by omega]
  exact ⟨h0, h1⟩
theorem BS.tail {z n a : Nat} {f : Nat → α} (h : BS F z n f a) (h1 : a + z < n) (h2 : n < a + 2 * z) : Srt F (seg f a (a + z)) ∧ Srt F (seg f (a + z) n) := by
  have h0 := h 0
  have h3 := h 1
  simp only [Nat.zero_mul, Nat.add_zero, Nat.one_mul] at h0 h3
  rw [Nat.min_eq_left (by omega)] at h0
  rw [Nat.min_eq_right (by omega)] at h3
  exact ⟨h0, h3⟩
theorem BS.rest (hF : IsOrd F) {z n : Nat} : ∀ (k a : Nat) (f : Nat → α), BS F z n f a → BS F z n (mgM F z k a f) (a + k * (2 * z))
  | 0, a, f, h => by simpa [mgM] using h
  | k + 1, a, f, h => by
    have := BS.rest hF k (a + 2 * z) _ (h.next hF)
    unfold mgM
    rwa [show a + (k + 1) * (2 * z) = a + 2 * z + k * (2 * z) by rw [Nat.add_mul]; omega]
theorem BS.whole (hF : IsOrd F) {z n : Nat} {f : Nat → α} (h : BS F z n f 0) (hz : n ≤ z) : sortG F f 0 n = f := by
  have := h 0
  simp only [Nat.zero_mul, Nat.add_zero, Nat.zero_add] at this
  rw [Nat.min_eq_right hz] at this
  exact sortG_id hF this
/-- A block's length, doubled until it is not below n. -/
def dbl (n : Nat) : Nat → Nat → Nat
  | 0, z => z
  | k + 1, z => if z < n then dbl n k (2 * z) else z
theorem dbl_more (n : Nat) : ∀ (k j z : Nat), 0 < z → n ≤ z + k → n ≤ z + j → dbl n k z = dbl n j z
  | 0, 0, z, _, _, _ => rfl
  | 0, j + 1, z, _, h, _ => by
    conv => rhs; unfold dbl
    rw [if_neg (by omega)]; rfl
  | k + 1, 0, z, _, _, h => by
    conv => lhs; unfold dbl
    rw [if_neg (by omega)]; rfl
  | k + 1, j + 1, z, h0, h1, h2 => by
    unfold dbl
    by_cases hc : z < n
    · rw [if_pos hc, if_pos hc, dbl_more n k j (2 * z) (by omega) (by omega) (by omega)]
    · rw [if_neg hc, if_neg hc]
theorem dbl_step {n z : Nat} (h0 : 0 < z) (h : z < n) : dbl n (n - z) z = dbl n (n - 2 * z) (2 * z) := by
  obtain ⟨k, hk⟩ : ∃ k, n - z = k + 1 := ⟨n - z - 1, by omega⟩
  rw [hk]
  conv => lhs; unfold dbl
  rw [if_pos h, dbl_more n k (n - 2 * z) (2 * z) (by omega) (by omega) (by omega)]
theorem dbl_end {n z : Nat} (h : n ≤ z) : dbl n (n - z) z = z := by
  rw [show n - z = 0 by omega]; rfl
end
end Go.Ab
namespace Go.Ab
open Go
set_option linter.unusedVariables false
set_option linter.unusedSimpArgs false

/-! ### Results whose room is forgotten -/
def unc : AV → AV
  | .rowc b sz n _ => .row b sz 0 n
  | a => a
theorem V_unc {X : Blk} {w : World} {σ : Sub} {a : AV} {v : Value} (h : V X w σ a v) : V X w σ (unc a) v := by
  cases a <;> try exact h
  simp only [unc, V] at h ⊢
  obtain ⟨hb, g, o, cap, arr, t, fr, h1, h2, h3, h4, h5, h6, h7⟩ := h
  exact ⟨hb, g, o, cap, arr, t, fr, h1, h2, by omega, by rw [Nat.zero_mul]; exact h5, h6, by rw [Nat.zero_add]; exact h7⟩
theorem Left.unc {X0 : Blk} {σ : Sub} {hp hp' : Hp} {w w' : World} {r : AV} {v : Value} (h : Left X0 σ hp w r hp' v w') : Left X0 σ hp w (unc r) hp' v w' := by
  obtain ⟨σ', h1, h2, h3, h4⟩ := h
  exact ⟨σ', h1, h2, h3, V_unc h4⟩
theorem CallOk.weak {P : Program} {f : FuncId} {vargs : Array Value} {w : World} {R R' : Value → World → Prop} (hR : ∀ v w', R v w' → R' v w') (h : CallOk P f vargs w R) : CallOk P f vargs w R' := by
  rcases h with ⟨h1, h2⟩ | ⟨v, w', h1, h2⟩
  · refine .inl ⟨h1, h2.mono ?_⟩
    rintro e w' ⟨v, e1, e2⟩
    exact ⟨v, e1, hR _ _ e2⟩
  · exact .inr ⟨v, w', h1, hR _ _ h2⟩
section
variable {P : Program}
theorem sound_memw {t : Tab} (ht : SoundTab P t) {f : FuncId} {c : List AV → Hp → T (AV × Hp)} {hn : HintsT} {m k : Nat} {Λ : LoopT}
    (hW : ∀ args hs r hs', (c args hs).run = some (r, hs') → ∀ i, i < (loopsOf (bodyOf P f)).length → LoopOk P t.pf (fun n => hd P t.pf t.con.run (fun f => (H0 f).to) n k) hn.to f hs.length none Λ (loopAt P f i))
    (h : ∀ args hs r hs', FitsL args → FitsH hs → (c args hs).run = some (r, hs') → (evFnT P t.pf (hdT P t.pf t.con H0 m k) hn m Λ f args hs).run.map (fun q => (unc q.1, q.2)) = some (r, hs')) : Sound1 P ⟨f, false, gcon c⟩ where
  ok args hp r hp' hr X0 σ w vargs hR hV :=
    gcon_frame (fun args hs r hs' hrun X0 σ w vargs hR hV => by
      have hh := h args hs r hs' (VL_fits _ _ _ hV) hR.fits hrun
      obtain ⟨q, hq, hq2⟩ := Option.map_eq_some_iff.1 hh
      obtain ⟨r0, h0⟩ := q
      simp only [Prod.mk.injEq] at hq2
      obtain ⟨rfl, rfl⟩ := hq2
      exact ((fn_call ht (within_at (hW args hs _ _ hrun)) hq hR hV).1).weak fun v w' => Left.unc) hr hR hV
  len args hp r hp' hr := gcon_len hr
  pure hp := by cases hp
theorem sound_cmw {t : Tab} (ht : SoundTab P t) {f : FuncId} {X : Type} {enc : X → List AV × Hp} {dec : List AV × Hp → X} {p : X → Prop} {res : X → T (AV × Hp)} (inv : ∀ x, dec (enc x) = x) {hn : HintsT} {m k : Nat} {Λ : LoopT}
    (hW : ∀ x, p x → ∀ i, i < (loopsOf (bodyOf P f)).length → LoopOk P t.pf (fun n => hd P t.pf t.con.run (fun f => (H0 f).to) n k) hn.to f (enc x).2.length none Λ (loopAt P f i))
    (h : ∀ x, p x → FitsL (enc x).1 → FitsH (enc x).2 → (evFnT P t.pf (hdT P t.pf t.con H0 m k) hn m Λ f (enc x).1 (enc x).2).run.map (fun q => (unc q.1, q.2)) = (res x).run) : Sound1 P ⟨f, false, gcon (mcon enc dec p res)⟩ := by
  refine sound_memw (m := m) (k := k) (hn := hn) (Λ := Λ) ht (fun args hs r hs' hr => ?_) fun args hs r hs' hF hH hr => ?_
  · obtain ⟨x, he, hp, h2⟩ := ccon_run inv hr
    have e : hs = (enc x).2 := congrArg (·.2) he
    rw [e]; exact hW x hp
  · obtain ⟨x, he, hp, h2⟩ := ccon_run inv hr
    obtain ⟨rfl, rfl⟩ : args = (enc x).1 ∧ hs = (enc x).2 := ⟨congrArg (·.1) he, congrArg (·.2) he⟩
    rw [h x hp hF hH]; exact h2

/-! ### Rows that are told only as far as they reach -/
def OW : AObj → AObj → Prop
  | .row sz n f, .row sz' n' f' => sz = sz' ∧ n = n' ∧ ∀ i c, i < n → c < sz → f i c = f' i c
  | a, b => a = b
theorem OW.refl (o : AObj) : OW o o := by cases o <;> first | rfl | exact ⟨rfl, rfl, fun _ _ _ _ => rfl⟩
def HpW (hp hp' : Hp) : Prop := hp.length = hp'.length ∧ ∀ (i : Nat) (o' : AObj), hp'[i]? = some (some o') → ∃ o, hp[i]? = some (some o) ∧ OW o o'
theorem HpW.refl (hp : Hp) : HpW hp hp := ⟨rfl, fun i o h => ⟨o, h, OW.refl o⟩⟩
theorem HpW.cons {hp hp' : Hp} {o o' : AObj} (h : OW o o') (ht : HpW hp hp') : HpW (some o :: hp) (some o' :: hp') := by
  refine ⟨by simp [ht.1], fun i x hx => ?_⟩
  rcases i with _ | i
  · simp at hx; subst hx; exact ⟨o, rfl, h⟩
  · simp at hx; exact ht.2 i x hx
theorem OW.row {sz n : Nat} {f f' : Nat → Nat → AV} (h : ∀ i c, i < n → c < sz → f i c = f' i c) : OW (.row sz n f) (.row sz n f') := ⟨rfl, rfl, h⟩
theorem own_hpw {σ : Sub} {hp hp' : Hp} (h : HpW hp hp') {g : Nat} (hg : Own σ hp' g) : Own σ hp g := by
  obtain ⟨i, o, h1, h2⟩ := hg
  obtain ⟨o0, h3, _⟩ := h.2 i o h1
  exact ⟨i, o0, h3, h2⟩
theorem Rel.hpw {X0 : Blk} {σ : Sub} {hp hp' : Hp} {w : World} (hR : Rel X0 σ hp w) (h : HpW hp hp') : Rel X0 σ hp' w := by
  have hX : ∀ g, Xof X0 σ hp' g → Xof X0 σ hp g := fun g hx => by
    rcases hx with hx | hx
    · exact .inl hx
    · exact .inr (own_hpw h hx)
  refine ⟨fun i j x y g hi hj h1 h2 => ?_, hR.lt, hR.x0, hR.sep, fun i g hi => by rw [← h.1]; exact hR.dom i g hi, fun i o' hi => ?_⟩
  · obtain ⟨x0, hx0, _⟩ := h.2 i x hi
    obtain ⟨y0, hy0, _⟩ := h.2 j y hj
    exact hR.inj i j x0 y0 g hx0 hy0 h1 h2
  · obtain ⟨o, ho, hw⟩ := h.2 i o' hi
    obtain ⟨g, hg, hO⟩ := hR.obj i o ho
    refine ⟨g, hg, ?_⟩
    have hO' : O (Xof X0 σ hp') σ w g o := O_mono hO rfl (fun _ _ h => h) (fun g' _ hx => hX g' hx) (Step.refl _ _)
    have key : o = o' ∨ ∃ sz n f f', o = .row sz n f ∧ o' = .row sz n f' ∧ ∀ i c, i < n → c < sz → f i c = f' i c := by
      unfold OW at hw
      split at hw
      · obtain ⟨rfl, rfl, hf⟩ := hw
        exact .inr ⟨_, _, _, _, rfl, rfl, hf⟩
      · exact .inl hw
    rcases key with rfl | ⟨sz, n, f, f', rfl, rfl, hf⟩
    · exact hO'
    obtain ⟨arr, h1, h2, h3, h4⟩ := hO'
    exact ⟨arr, h1, h2, h3, fun i c u hi hc hu => by rw [← hf i c hi hc]; exact h4 i c u hi hc hu⟩
theorem Left.hpw {X0 : Blk} {σ : Sub} {hp hp1 hp2 : Hp} {w w' : World} {r : AV} {v : Value} (h : Left X0 σ hp w r hp1 v w') (hh : HpW hp1 hp2) : Left X0 σ hp w r hp2 v w' := by
  obtain ⟨σ', h1, ⟨h2, h3⟩, h4, h5⟩ := h
  refine ⟨σ', h1, ⟨h2, fun g hg ho => h3 g hg (own_hpw hh ho)⟩, h4.hpw hh, V_mono (fun g _ hx => ?_) (Step.refl _ _) _ _ _ _ (fun _ _ h => h) h5⟩
  rcases hx with hx | hx
  · exact .inl hx
  · exact .inr (own_hpw hh hx)
/-- A result, told less of. -/
def ResW (q r : AV × Hp) : Prop := unc q.1 = r.1 ∧ HpW q.2 r.2
theorem ResW.refl (q : AV × Hp) (h : unc q.1 = q.1) : ResW q q := ⟨h, HpW.refl _⟩
theorem sound_memW {t : Tab} (ht : SoundTab P t) {f : FuncId} {c : List AV → Hp → T (AV × Hp)} {hn : HintsT} {m k : Nat} {Λ : LoopT}
    (hW : ∀ args hs r hs', (c args hs).run = some (r, hs') → ∀ i, i < (loopsOf (bodyOf P f)).length → LoopOk P t.pf (fun n => hd P t.pf t.con.run (fun f => (H0 f).to) n k) hn.to f hs.length none Λ (loopAt P f i))
    (h : ∀ args hs r hs', FitsL args → FitsH hs → (c args hs).run = some (r, hs') → ∃ q, (evFnT P t.pf (hdT P t.pf t.con H0 m k) hn m Λ f args hs).run = some q ∧ ResW q (r, hs')) : Sound1 P ⟨f, false, gcon c⟩ where
  ok args hp r hp' hr X0 σ w vargs hR hV :=
    gcon_frame (fun args hs r hs' hrun X0 σ w vargs hR hV => by
      obtain ⟨⟨r0, h0⟩, hq, rfl, hq2⟩ := h args hs r hs' (VL_fits _ _ _ hV) hR.fits hrun
      exact ((fn_call ht (within_at (hW args hs _ _ hrun)) hq hR hV).1).weak fun v w' hL => (Left.unc hL).hpw hq2) hr hR hV
  len args hp r hp' hr := gcon_len hr
  pure hp := by cases hp
theorem sound_cmW {t : Tab} (ht : SoundTab P t) {f : FuncId} {X : Type} {enc : X → List AV × Hp} {dec : List AV × Hp → X} {p : X → Prop} {res : X → T (AV × Hp)} (inv : ∀ x, dec (enc x) = x) {hn : HintsT} {m k : Nat} {Λ : LoopT}
    (hW : ∀ x, p x → ∀ i, i < (loopsOf (bodyOf P f)).length → LoopOk P t.pf (fun n => hd P t.pf t.con.run (fun f => (H0 f).to) n k) hn.to f (enc x).2.length none Λ (loopAt P f i))
    (h : ∀ x, p x → FitsL (enc x).1 → FitsH (enc x).2 → ∃ q r, (evFnT P t.pf (hdT P t.pf t.con H0 m k) hn m Λ f (enc x).1 (enc x).2).run = some q ∧ (res x).run = some r ∧ ResW q r) : Sound1 P ⟨f, false, gcon (mcon enc dec p res)⟩ := by
  refine sound_memW (m := m) (k := k) (hn := hn) (Λ := Λ) ht (fun args hs r hs' hr => ?_) fun args hs r hs' hF hH hr => ?_
  · obtain ⟨x, he, hp, h2⟩ := ccon_run inv hr
    have e : hs = (enc x).2 := congrArg (·.2) he
    rw [e]; exact hW x hp
  · obtain ⟨x, he, hp, h2⟩ := ccon_run inv hr
    obtain ⟨rfl, rfl⟩ : args = (enc x).1 ∧ hs = (enc x).2 := ⟨congrArg (·.1) he, congrArg (·.2) he⟩
    obtain ⟨q, r1, h3, h4, h5⟩ := h x hp hF hH
    rw [h4] at h2
    injection h2 with h2
    subst h2
    exact ⟨q, h3, h5⟩
/-- A contract over a heap that is told more plainly at the entry. -/
theorem sound_memV {t : Tab} (ht : SoundTab P t) {f : FuncId} {c : List AV → Hp → T (AV × Hp)} {hn : HintsT} {m k : Nat} {Λ : LoopT}
    (hW : ∀ args hs r hs', (c args hs).run = some (r, hs') → ∀ i, i < (loopsOf (bodyOf P f)).length → LoopOk P t.pf (fun n => hd P t.pf t.con.run (fun f => (H0 f).to) n k) hn.to f hs.length none Λ (loopAt P f i))
    (h : ∀ args hs r hs', FitsL args → (c args hs).run = some (r, hs') → ∃ hs0 q, HpW hs hs0 ∧ (evFnT P t.pf (hdT P t.pf t.con H0 m k) hn m Λ f args hs0).run = some q ∧ ResW q (r, hs')) : Sound1 P ⟨f, false, gcon c⟩ where
  ok args hp r hp' hr X0 σ w vargs hR hV :=
    gcon_frame (fun args hs r hs' hrun X0 σ w vargs hR hV => by
      obtain ⟨hs0, ⟨r0, h0⟩, hh, hq, rfl, hq2⟩ := h args hs r hs' (VL_fits _ _ _ hV) hrun
      have hX : ∀ g, Xof X0 σ hs0 g → Xof X0 σ hs g := fun g hx => by
        rcases hx with hx | hx
        · exact .inl hx
        · exact .inr (own_hpw hh hx)
      have hV0 : VL (Xof X0 σ hs0) w σ args vargs.toList := VL_mono (fun g _ hx => hX g hx) (Step.refl _ _) _ _ _ _ (fun _ _ h => h) hV
      have hW' := hW args hs _ _ hrun
      rw [hh.1] at hW'
      refine ((fn_call ht (within_at hW') hq (hR.hpw hh) hV0).1).weak fun v w' hL => ?_
      obtain ⟨σ', h1, ⟨h2, h3⟩, h4⟩ := (Left.unc hL).hpw hq2
      exact ⟨σ', h1, ⟨h2.mono fun g _ hx => own_hpw hh hx, fun g hg ho => own_hpw hh (h3 g hg ho)⟩, h4⟩) hr hR hV
  len args hp r hp' hr := gcon_len hr
  pure hp := by cases hp
end
end Go.Ab
namespace Go.Ab
open Go
set_option linter.unusedVariables false
set_option linter.unusedSimpArgs false

/-! ### internal/abi.NoEscape -/
def cNoEsc : List AV → Hp → T (AV × Hp)
  | [x], hp => .leaf (x, hp)
  | _, _ => .fail
theorem sound_noEscape {P : Program} {f : FuncId} {fn : Func} (hf : P.funcs[f]? = some fn) (hname : (fn.name == "runtime.NumGoroutine") = false)
    (hb : fn.body.isNone = true) (hn : Extern.findNext fn = none) (he : Extern.find fn = some Extern.AbiNoEscape.same) : Sound1 P ⟨f, true, cNoEsc⟩ where
  ok args hp r hp' hr X0 σ w vargs hR hV := by
    have hr : (cNoEsc args hp).run = some (r, hp') := hr
    unfold cNoEsc at hr
    split at hr
    · rename_i x _
      simp only [T.run_leaf, Option.some.injEq, Prod.mk.injEq] at hr
      obtain ⟨rfl, rfl⟩ := hr
      simp only [VL] at hV
      obtain ⟨u, us, hu, hx, rfl⟩ := hV
      have hva : vargs = #[u] := by apply Array.ext'; simpa using hu
      subst hva
      refine .inr ⟨u, w, ?_, σ, fun _ _ h => h, ⟨Step.refl _ _, fun _ _ h => h⟩, hR, hx⟩
      rw [run_callFunc_extern hf hname hb hn he, Lib.run_noEscape]
      rfl
    · cases hr
  len args hp r hp' hr := by
    have hr : (cNoEsc args hp).run = some (r, hp') := hr
    unfold cNoEsc at hr
    split at hr
    · simp only [T.run_leaf, Option.some.injEq, Prod.mk.injEq] at hr
      obtain ⟨_, rfl⟩ := hr
      exact Nat.le_refl _
    · cases hr
  pure _ args hp r hp' hr := by
    have hr : (cNoEsc args hp).run = some (r, hp') := hr
    show hp' = hp ∧ ∀ hp2, (cNoEsc args hp2).run = some (r, hp2)
    unfold cNoEsc at hr ⊢
    split at hr
    · simp only [T.run_leaf, Option.some.injEq, Prod.mk.injEq] at hr
      obtain ⟨rfl, rfl⟩ := hr
      exact ⟨rfl, fun _ => rfl⟩
    · cases hr
end Go.Ab
namespace Go.Ab
open Go
/-! ### Decisions, by linear arithmetic -/
theorem decT {p : Prop} {i : Decidable p} (h : p) : @decide p i = true := decide_eq_true h
theorem decF {p : Prop} {i : Decidable p} (h : ¬ p) : @decide p i = false := decide_eq_false h
theorem chkT {α : Type} {c : Bool} {x : T α} (h : c = true) : (T.chk c x).run = x.run := by subst h; rfl
end Go.Ab
namespace Go.Ab
open Go
set_option linter.unusedVariables false
set_option linter.unusedSimpArgs false

/-! ### Values told only as far as they reach -/
mutual
def AW : AV → AV → Prop
  | .sl sz n f, b => ∃ f', b = .sl sz n f' ∧ ∀ i c, i < n → c < sz → AW (f i c) (f' i c)
  | .agg cs, b => ∃ cs', b = .agg cs' ∧ AWL cs cs'
  | .tup cs, b => ∃ cs', b = .tup cs' ∧ AWL cs cs'
  | .junk, b => b = .junk
  | .undef, b => b = .undef
  | .int k n, b => b = .int k n
  | .bool q, b => b = .bool q
  | .str s, b => b = .str s
  | .nilp, b => b = .nilp
  | .ref x y, b => b = .ref x y
  | .eref x y z q, b => b = .eref x y z q
  | .fref m f, b => b = .fref m f
  | .nilsl, b => b = .nilsl
  | .row x y z q, b => b = .row x y z q
  | .rowc x y z q, b => b = .rowc x y z q
  | .fn f cap, b => b = .fn f cap
  | .yield l, b => b = .yield l
  | .nilfn, b => b = .nilfn
  | .map m, b => b = .map m
  | .nilmap, b => b = .nilmap
  | .iface t v, b => b = .iface t v
  | .niliface, b => b = .niliface
def AWL : List AV → List AV → Prop
  | [], l => l = []
  | a :: as, l => ∃ b bs, l = b :: bs ∧ AW a b ∧ AWL as bs
end
mutual
theorem AW.rfl' : ∀ a : AV, AW a a
  | .sl sz n f => by simp only [AW]; exact ⟨f, rfl, fun i c _ _ => AW.rfl' (f i c)⟩
  | .agg cs => by simp only [AW]; exact ⟨cs, rfl, AWL.rfl' cs⟩
  | .tup cs => by simp only [AW]; exact ⟨cs, rfl, AWL.rfl' cs⟩
  | .junk | .undef | .int _ _ | .bool _ | .str _ | .nilp | .ref _ _ | .eref _ _ _ _ | .fref _ _ | .nilsl | .row _ _ _ _ | .rowc _ _ _ _ | .fn _ _ | .yield _ | .nilfn | .map _ | .nilmap | .iface _ _ | .niliface => by simp only [AW]
theorem AWL.rfl' : ∀ l : List AV, AWL l l
  | [] => by simp only [AWL]
  | a :: as => by simp only [AWL]; exact ⟨a, as, rfl, AW.rfl' a, AWL.rfl' as⟩
end
section
variable {X : Blk} {w : World}
mutual
theorem V_aw : ∀ (a b : AV) (v : Value) (σ : Sub), AW a b → V X w σ a v → V X w σ b v
  | .sl sz n f, b, v, σ, h, hV => by
    simp only [AW] at h
    obtain ⟨f', rfl, h⟩ := h
    simp only [V] at hV ⊢
    refine ⟨hV.1, hV.2.imp id ?_⟩
    rintro ⟨g, off, cap, h1, h2, h3, h4, h5⟩
    refine ⟨g, off, cap, h1, h2, h3, h4, fun i c hi hc => ?_⟩
    obtain ⟨u, q1, q2, q3⟩ := h5 i c hi hc
    exact ⟨u, q1, q2, V_aw (f i c) (f' i c) u _ (h i c hi hc) q3⟩
  | .agg cs, b, v, σ, h, hV => by
    simp only [AW] at h
    obtain ⟨cs', rfl, h⟩ := h
    simp only [V] at hV ⊢
    obtain ⟨vs, h1, h2⟩ := hV
    exact ⟨vs, h1, VL_aw cs cs' _ σ h h2⟩
  | .tup cs, b, v, σ, h, hV => by
    simp only [AW] at h
    obtain ⟨cs', rfl, h⟩ := h
    simp only [V] at hV ⊢
    obtain ⟨vs, h1, h2⟩ := hV
    exact ⟨vs, h1, VL_aw cs cs' _ σ h h2⟩
  | .junk, b, v, σ, h, hV | .undef, b, v, σ, h, hV | .int _ _, b, v, σ, h, hV | .bool _, b, v, σ, h, hV | .str _, b, v, σ, h, hV | .nilp, b, v, σ, h, hV | .ref _ _, b, v, σ, h, hV | .eref _ _ _ _, b, v, σ, h, hV
  | .fref _ _, b, v, σ, h, hV | .nilsl, b, v, σ, h, hV | .row _ _ _ _, b, v, σ, h, hV | .rowc _ _ _ _, b, v, σ, h, hV | .fn _ _, b, v, σ, h, hV | .yield _, b, v, σ, h, hV | .nilfn, b, v, σ, h, hV | .map _, b, v, σ, h, hV
  | .nilmap, b, v, σ, h, hV | .iface _ _, b, v, σ, h, hV | .niliface, b, v, σ, h, hV => by
    simp only [AW] at h; subst h; exact hV
theorem VL_aw : ∀ (as bs : List AV) (vs : List Value) (σ : Sub), AWL as bs → VL X w σ as vs → VL X w σ bs vs
  | [], bs, vs, σ, h, hV => by simp only [AWL] at h; subst h; exact hV
  | a :: as, bs, vs, σ, h, hV => by
    simp only [AWL] at h
    obtain ⟨b, bs', rfl, h1, h2⟩ := h
    simp only [VL] at hV ⊢
    obtain ⟨u, us, rfl, q1, q2⟩ := hV
    exact ⟨u, us, rfl, V_aw a b u σ h1 q1, VL_aw as bs' us σ h2 q2⟩
end
end
theorem AW.tup2 {a b a' b' : AV} (h1 : AW a a') (h2 : AW b b') : AW (.tup [a, b]) (.tup [a', b']) := by
  simp only [AW, AWL]; exact ⟨_, rfl, _, _, rfl, h1, _, _, rfl, h2, rfl⟩
theorem AW.tup3 {a b c a' b' c' : AV} (h1 : AW a a') (h2 : AW b b') (h3 : AW c c') : AW (.tup [a, b, c]) (.tup [a', b', c']) := by
  simp only [AW, AWL]; exact ⟨_, rfl, _, _, rfl, h1, _, _, rfl, h2, _, _, rfl, h3, rfl⟩
theorem AW.slice {sz n : Nat} {f f' : Nat → Nat → AV} (h : ∀ i c, i < n → c < sz → f i c = f' i c) : AW (.sl sz n f) (.sl sz n f') := by
  simp only [AW]; exact ⟨f', rfl, fun i c hi hc => by rw [← h i c hi hc]; exact AW.rfl' _⟩
section
variable {P : Program}
/-- A contract of a function that lays what it hands out; its rows told as far as they reach. -/
theorem sound_frzW {t : Tab} (ht : SoundTab P t) {hs : FuncId → HintsT} {f : FuncId} {c : List AV → T AV} {hn : HintsT} {m k : Nat} {Λ : LoopT} (s : Fz)
    (hW : ∀ i, i < (loopsOf (bodyOf P f)).length → LoopOk P t.pf (fun n => hd P t.pf t.con.run (fun f => (hs f).to) n k) hn.to f 0 none Λ (loopAt P f i))
    (h : ∀ args r, FitsL args → (c args).run = some r → ∃ r0 h0 r1, (evFnT P t.pf (hdT P t.pf t.con hs m k) hn m Λ f args []).run = some (r0, h0) ∧ frz s h0 r0 = some r1 ∧ AW r1 r) : Sound1 P ⟨f, true, pcon c⟩ where
  ok args hp r hp' hr X0 σ w vargs hR hV := by
    obtain ⟨h1, h2, h3, rfl, h4⟩ := pcon_run hr
    obtain ⟨r0, h0, r1, h5, h6, h7⟩ := h args r (VL_fits _ _ _ hV) h2
    have hV' : VL (Xof (Xof X0 σ hp') (fun _ => none) []) w (fun _ => none) args vargs.toList := by rw [Xof_empty]; exact VL_noref h1 hV
    refine ((fn_call ht (within_at hW) h5 hR.empty hV').1).mono ?_
    rintro v w' ⟨σ', g1, ⟨g2, g3⟩, g4, g5⟩
    rw [own_nil] at g2
    exact ⟨σ, fun _ _ h => h, ⟨g2.mono fun _ _ h => h.elim, fun _ _ h => h⟩, hR.step g2, V_aw r1 r v _ h7 (V_mono (fun _ _ h => h) (Step.refl _ _) r1 v _ _ (fun _ _ h => by cases h) (frz_sound g4 s r0 r1 v h6 g5))⟩
  len args hp r hp' hr := by
    obtain ⟨_, _, _, rfl, _⟩ := pcon_run hr; exact Nat.le_refl _
  pure _ args hp r hp' hr := by
    obtain ⟨_, _, _, rfl, h4⟩ := pcon_run hr; exact ⟨rfl, h4⟩
/-- The same, by an encoding. -/
theorem sound_cfW {t : Tab} (ht : SoundTab P t) (hs : FuncId → HintsT) {f : FuncId} {X : Type} {enc : X → List AV} {dec : List AV → X} {p : X → Prop} {res : X → T AV} (inv : ∀ x, dec (enc x) = x) {hn : HintsT} {m k : Nat} {Λ : LoopT} (s : Fz)
    (hW : ∀ i, i < (loopsOf (bodyOf P f)).length → LoopOk P t.pf (fun n => hd P t.pf t.con.run (fun f => (hs f).to) n k) hn.to f 0 none Λ (loopAt P f i))
    (h : ∀ x, p x → FitsL (enc x) → ∃ r1 r, ((evFnT P t.pf (hdT P t.pf t.con hs m k) hn m Λ f (enc x) []).run.bind fun r => frz s r.2 r.1) = some r1 ∧ (res x).run = some r ∧ AW r1 r) : Sound1 P ⟨f, true, pcon (ccon enc dec p res)⟩ := by
  refine sound_frzW (m := m) ht s hW fun args r hF hr => ?_
  obtain ⟨x, rfl, hp, h2⟩ := ccon_run inv hr
  obtain ⟨r1, r', q1, q2, q3⟩ := h x hp hF
  rw [h2] at q2
  injection q2 with q2; subst q2
  obtain ⟨y, h3, h4⟩ := Option.bind_eq_some_iff.1 q1
  exact ⟨y.1, y.2, r1, h3, h4, q3⟩
/-- A contract, its results told less of. -/
theorem sound_aw {f : FuncId} {c c' : List AV → T AV} (hc : Sound1 P ⟨f, true, pcon c⟩) (h : ∀ args r', (c' args).run = some r' → ∃ r, (c args).run = some r ∧ norefT r = true ∧ AW r r') : Sound1 P ⟨f, true, pcon c'⟩ where
  ok args hp r hp' hr X0 σ w vargs hR hV := by
    obtain ⟨h1, h2, h3, rfl, h4⟩ := pcon_run hr
    obtain ⟨r0, h5, h6, h7⟩ := h args r h2
    refine (hc.ok args hp' r0 hp' ?_ X0 σ w vargs hR hV).weak ?_
    · show (pcon c args hp').run = _
      unfold pcon
      simp only [h1, T.run_bind, h5, Option.bind_some, h6, T.run_leaf]
    · rintro v w' ⟨σ', g1, g2, g3, g4⟩
      exact ⟨σ', g1, g2, g3, V_aw r0 r v _ h7 g4⟩
  len args hp r hp' hr := by
    obtain ⟨_, _, _, rfl, _⟩ := pcon_run hr; exact Nat.le_refl _
  pure _ args hp r hp' hr := by
    obtain ⟨_, _, _, rfl, h4⟩ := pcon_run hr; exact ⟨rfl, h4⟩
end
end Go.Ab
namespace Go.Ab
open Go
set_option linter.unusedVariables false
set_option linter.unusedSimpArgs false

/-! ### Rows of records, in general -/
/-- How a record lies in cells. -/
structure Cel (α : Type) where
  sz : Nat
  enc : α → List AV
  dec : (Nat → AV) → α
  df : α
structure Cel.Ok {α : Type} (C : Cel α) : Prop where
  inv : ∀ a, C.dec (fun c => (C.enc a).getD c .junk) = a
  len : ∀ a, (C.enc a).length = C.sz
  big : 1 < C.sz
section
variable {α : Type}
def rowG (C : Cel α) (f : Nat → α) : Nat → Nat → AV := fun i c => (C.enc (f i)).getD c .junk
def unG (C : Cel α) (g : Nat → Nat → AV) : Nat → α := fun i => C.dec (g i)
theorem unG_rowG {C : Cel α} (h : C.Ok) (f : Nat → α) : unG C (rowG C f) = f := funext fun i => h.inv (f i)
/-- A list as a function. -/
def fnG (d : α) (L : List α) (k : Nat) : α := L.getD k d
/-- A list as a row that grows: behind its end its last one. -/
def fnR (d : α) (L : List α) (k : Nat) : α := L.getD k (L.getLastD d)
def listG (f : Nat → α) (n : Nat) : List α := (List.range n).map f
theorem listG_len (f : Nat → α) (n : Nat) : (listG f n).length = n := by simp [listG]
theorem listG_get {f : Nat → α} {n i : Nat} (h : i < n) : (listG f n)[i]? = some (f i) := by simp [listG, h]
theorem listG_of {f : Nat → α} {l : List α} (h : ∀ i t, l[i]? = some t → f i = t) : listG f l.length = l := by
  refine List.ext_getElem? fun i => ?_
  by_cases hi : i < l.length
  · rw [listG_get hi, List.getElem?_eq_getElem hi, h i _ (List.getElem?_eq_getElem hi)]
  · rw [List.getElem?_eq_none (by simpa [listG] using hi), List.getElem?_eq_none (by omega)]
theorem listG_fnG (d : α) (L : List α) : listG (fnG d L) L.length = L := listG_of fun i t h => by
  unfold fnG
  rw [List.getD_eq_getElem?_getD, h]; rfl
theorem listG_fnR (d : α) (L : List α) : listG (fnR d L) L.length = L := listG_of fun i t h => by
  unfold fnR
  rw [List.getD_eq_getElem?_getD, h]; rfl
theorem listG_ext {f g : Nat → α} {n : Nat} (h : ∀ i, i < n → f i = g i) : listG f n = listG g n := by
  unfold listG
  exact List.map_congr_left fun i hi => h i (by simpa using hi)
theorem fnG_get {d : α} {L : List α} {i : Nat} (h : i < L.length) : fnG d L i = L[i] := by
  unfold fnG
  rw [List.getD_eq_getElem?_getD, List.getElem?_eq_getElem h]; rfl
theorem drop_fnG {d : α} {L : List α} {i : Nat} (h : i < L.length) : L.drop i = fnG d L i :: L.drop (i + 1) := by
  rw [List.drop_eq_getElem_cons h, fnG_get h]
theorem fnR_push (d : α) (L : List α) (t : α) : (fun k => if k < L.length then fnR d L k else t) = fnR d (L ++ [t]) := by
  funext k
  unfold fnR
  by_cases h : k < L.length
  · rw [if_pos h, List.getD_eq_getElem?_getD, List.getD_eq_getElem?_getD, List.getElem?_append_left h, List.getElem?_eq_getElem h]; rfl
  · rw [if_neg h, List.getD_eq_getElem?_getD, List.getElem?_append_right (by omega)]
    by_cases h2 : k = L.length
    · subst h2; simp
    · rw [List.getElem?_eq_none (by simp; omega)]; simp
theorem fnR_one (d t : α) : fnR d [t] = fun _ => t := by
  funext k
  unfold fnR
  cases k <;> rfl
theorem rowF_rec {C : Cel α} (h : C.Ok) {t : α} {l : List AV} (hl : l = C.enc t) (i : Nat) : rowF C.sz l i = rowG C (fun _ => t) i := by
  subst hl
  funext c
  unfold rowF
  have h1 : Nat.beq C.sz 1 = false := by
    cases hb : Nat.beq C.sz 1 with
    | false => rfl
    | true => have := Nat.eq_of_beq_eq_true hb; have := h.big; omega
  have h2 : Nat.beq (C.enc t).length C.sz = true := by rw [h.len]; exact Nat.beq_refl _
  rw [h1]
  simp only [h2]
  rfl
/-- One record appended. -/
theorem appG_rec {C : Cel α} (h : C.Ok) {n : Nat} {f : Nat → α} {t : α} {l : List AV} (hl : l = C.enc t) : appF n (rowG C f) (fun i => rowF C.sz l (0 + i)) = rowG C (fun k => if k < n then f k else t) := by
  funext k
  unfold appF
  by_cases hk : k < n
  · rw [if_pos hk]
    funext c
    simp only [rowG, if_pos hk]
  · rw [if_neg hk]
    show rowF C.sz l (0 + (k - n)) = _
    rw [rowF_rec h hl]
    funext c
    simp only [rowG, if_neg hk]
theorem rowF_first {C : Cel α} (h : C.Ok) (d : α) {t : α} {l : List AV} (hl : l = C.enc t) : (fun i => rowF C.sz l (0 + i)) = rowG C (fnR d [t]) := by
  rw [fnR_one]
  funext i
  exact rowF_rec h hl (0 + i)
theorem appG_push {C : Cel α} (h : C.Ok) (d : α) (L : List α) {t : α} {l : List AV} (hl : l = C.enc t) : appF L.length (rowG C (fnR d L)) (fun i => rowF C.sz l (0 + i)) = rowG C (fnR d (L ++ [t])) := by
  rw [appG_rec h hl, fnR_push]
theorem appF_zero (f g : Nat → Nat → AV) : appF 0 f g = g := by
  funext i
  unfold appF
  rw [if_neg (Nat.not_lt_zero i), Nat.sub_zero]
/-- A list that grows: nil, or a row of our own. -/
def rAG (C : Cel α) (b : Nat) : List α → AV
  | [] => .nilsl
  | t :: r => .row b C.sz 0 (r.length + 1)
def rHG (C : Cel α) : List α → Hp
  | [] => []
  | t :: r => [some (.row C.sz (r.length + 1) (rowG C (fnR C.df (t :: r))))]
def unHG (C : Cel α) : Hp → List α
  | [some (.row _ n g)] => listG (unG C g) n
  | _ => []
theorem unHG_rHG {C : Cel α} (h : C.Ok) (L : List α) : unHG C (rHG C L) = L := by
  cases L with
  | nil => rfl
  | cons t r =>
    show listG (unG C (rowG C (fnR C.df (t :: r)))) (r.length + 1) = t :: r
    rw [unG_rowG h]
    exact listG_fnR C.df (t :: r)
theorem rAG_push (C : Cel α) (b : Nat) (L : List α) (t : α) : rAG C b (L ++ [t]) = .row b C.sz 0 (L.length + 1) := by
  cases L with
  | nil => rfl
  | cons u r => show AV.row b C.sz 0 ((r ++ [t]).length + 1) = _; rw [List.length_append]; rfl
theorem rHG_push (C : Cel α) (L : List α) (t : α) : rHG C (L ++ [t]) = [some (.row C.sz (L.length + 1) (rowG C (fnR C.df (L ++ [t]))))] := by
  cases L with
  | nil => rfl
  | cons u r => show [some (AObj.row C.sz ((r ++ [t]).length + 1) (rowG C (fnR C.df (u :: (r ++ [t])))))] = _; rw [List.length_append]; rfl
/-- Lists as slices. -/
def unLG (C : Cel α) (n : Nat) (g : Nat → Nat → AV) : List α := listG (unG C g) n
theorem unLG_fnG {C : Cel α} (h : C.Ok) (L : List α) : unLG C L.length (rowG C (fnG C.df L)) = L := by
  unfold unLG
  rw [unG_rowG h]
  exact listG_fnG C.df L
/-- A row that holds a list, told as the list. -/
theorem row_awG {C : Cel α} {g : Nat → α} {n : Nat} {L : List α} (h : listG g n = L) : AW (.sl C.sz n (rowG C g)) (.sl C.sz L.length (rowG C (fnG C.df L))) := by
  have hn : L.length = n := by rw [← h, listG_len]
  rw [hn]
  refine AW.slice fun i c hi hc => ?_
  have : g i = fnG C.df L i := by
    unfold fnG
    rw [List.getD_eq_getElem?_getD, ← h, listG_get hi]; rfl
  unfold rowG
  rw [this]
theorem nil_awG {C : Cel α} (f : Nat → Nat → AV) : AW (.sl C.sz 0 f) (.sl C.sz ([] : List α).length (rowG C (fnG C.df []))) := AW.slice fun i c hi hc => by omega
end
end Go.Ab
namespace Go.Ab
open Go Go.ChangeShapes Go.WideShapes Go.Deep
set_option linter.unusedVariables false
set_option linter.unusedSimpArgs false
/-! ### Closing a law: rows of texts that are handed in; weights -/
section
variable {P : Program} {H : Type} {enc : TypeId × Value → H} {W : World}
theorem trod_bool_at {base : Nat} {sp : Nat → Bool} {held : Bool} {n : Nat} {u : TypeId} {a : Value} {q : DataW H × List MemPlace} (hu : P.underlying u = some .bool) (hq : DataW.trod enc P W base sp held n u [a] = some q) : ∃ x : Bool, a = .bool x ∧ q.1 = .lit (.bool x) := by
  obtain ⟨n, rfl⟩ : ∃ m, n = m + 1 := by cases n with
    | zero => simp [DataW.trod] at hq
    | succ m => exact ⟨m, rfl⟩
  cases a <;> simp [DataW.trod, hu] at hq
  rename_i x
  exact ⟨x, rfl, by rw [← hq]⟩
theorem trod_str_at {base : Nat} {sp : Nat → Bool} {held : Bool} {n : Nat} {u : TypeId} {a : Value} {q : DataW H × List MemPlace} (hu : P.underlying u = some .string) (hq : DataW.trod enc P W base sp held n u [a] = some q) : ∃ x : ByteArray, a = .string x ∧ q.1 = .lit (.string x.data.toList) := by
  obtain ⟨n, rfl⟩ : ∃ m, n = m + 1 := by cases n with
    | zero => simp [DataW.trod] at hq
    | succ m => exact ⟨m, rfl⟩
  cases a <;> simp [DataW.trod, hu] at hq
  rename_i x
  exact ⟨x, rfl, by rw [← hq.2]⟩
theorem cells_of_slice {r : Reach} {b0 : Nat} {t e : TypeId} {v : Value} (ht : P.underlying t = some (.slice e)) (hval : Value.okWide P W r b0 t v) : v.cells.toList = [v] ∧ Cell.okWide P W r b0 t v := by
  unfold Value.okWide at hval
  rw [ht] at hval
  refine ⟨?_, hval⟩
  unfold Cell.okWide at hval
  rw [ht] at hval
  cases v <;> first | rfl | (simp [Cell.ok, ht] at hval)
theorem open_rowV {r : Reach} {b0 base : Nat} {sp : Nat → Bool} {held : Bool} {t e : TypeId} {v : Value} {d : DataW H} {ps : List MemPlace} (ht : P.underlying t = some (.slice e)) (he : P.underlying e = some .string) (ce : P.cellsOf e = 1)
    (hval : Value.okWide P W r b0 t v) (hd : DataW.Trod enc P W base sp held t v d ps) :
    ∃ l : List (List UInt8), RowD l d ∧ (smallL l → V (fun _ => False) W (fun _ => none) (.sl 1 l.length (strF l)) v) := by
  obtain ⟨n, hn⟩ := hd
  obtain ⟨q1, q2⟩ := cells_of_slice ht hval
  rw [q1] at hn
  exact open_row ht he ce q2 hn
end
section
variable {P : Program} {H : Type}
theorem w_str {t : TypeId} {x : List UInt8} (hw : ∀ n ∈ (DataW.lit (.string x) : DataW H).weights P t, n ≤ reachBytes) : x.length ≤ reachBytes := hw _ (by simp [DataW.weights])
theorem w_all {e : TypeId} : ∀ {L : List (DataW H)}, (∀ n ∈ DataW.weightsAll P e L, n ≤ reachBytes) → ∀ d ∈ L, ∀ n ∈ d.weights P e, n ≤ reachBytes
  | [], _, d, hd => by simp at hd
  | x :: L, h, d, hd => by
    simp only [DataW.weightsAll, List.mem_append] at h
    rcases List.mem_cons.1 hd with rfl | hd
    · exact fun n hn => h n (.inl hn)
    · exact w_all (fun n hn => h n (.inr hn)) d hd
theorem w_slice {t e : TypeId} {k : Nat} {L sp : List (DataW H)} (ht : P.underlying t = some (.slice e)) (hb : P.bytesOf e = k) (hw : ∀ n ∈ (DataW.slice L sp).weights P t, n ≤ reachBytes) :
    L.length * k ≤ reachBytes ∧ ∀ d ∈ L, ∀ n ∈ d.weights P e, n ≤ reachBytes := by
  simp only [DataW.weights, ht, hb] at hw
  refine ⟨?_, w_all fun n hn => hw n (by simp [hn])⟩
  have := hw _ (List.mem_cons_self ..)
  have h2 : L.length * k ≤ (L.length + sp.length) * k := Nat.mul_le_mul_right _ (by omega)
  omega
theorem w_row {t e : TypeId} {k : Nat} {l : List (List UInt8)} {d : DataW H} (ht : P.underlying t = some (.slice e)) (hb : P.bytesOf e = k) (hk : 1 ≤ k) (h : RowD l d) (hw : ∀ n ∈ d.weights P t, n ≤ reachBytes) :
    l.length * k ≤ reachBytes ∧ smallL l := by
  rcases h with ⟨rfl, rfl⟩ | ⟨sp, rfl⟩
  · exact ⟨by simp, by simp [bnd], by simp⟩
  · obtain ⟨h1, h2⟩ := w_slice ht hb hw
    simp only [List.length_map] at h1
    refine ⟨h1, ?_, fun s hs => ?_⟩
    · have : l.length * 1 ≤ l.length * k := Nat.mul_le_mul_left _ hk
      simp only [reachBytes, bnd] at *; omega
    · have := w_str (h2 _ (List.mem_map.2 ⟨s, hs, rfl⟩))
      simp only [reachBytes, bnd] at *; omega
theorem w_ver {t : TypeId} {f0 f1 f2 : Field} {x y z : List UInt8} (ht : P.underlying t = some (.struct #[f0, f1, f2])) (hw : ∀ n ∈ (DataW.agg [.lit (.string x), .lit (.string y), .lit (.string z)] : DataW H).weights P t, n ≤ reachBytes) :
    x.length ≤ reachBytes ∧ y.length ≤ reachBytes ∧ z.length ≤ reachBytes :=
  ⟨hw _ (by simp [DataW.weights, ht, DataW.weightsEach]), hw _ (by simp [DataW.weights, ht, DataW.weightsEach]), hw _ (by simp [DataW.weights, ht, DataW.weightsEach])⟩
end
end Go.Ab
namespace Go.Ab
open Go
set_option linter.unusedVariables false
set_option linter.unusedSimpArgs false

/-! ### Functions without a body -/
theorem ext_sound {P : Program} {f : FuncId} {fn : Func} {e : Array Value → Sem Value} (hf : P.funcs[f]? = some fn) (hname : (fn.name == "runtime.NumGoroutine") = false)
    (hb : fn.body.isNone = true) (hn : Extern.findNext fn = none) (he : Extern.find fn = some e) {c : List AV → T AV}
    (h : ∀ args r, (c args).run = some r → ∀ X w σ (vargs : Array Value), VL X w σ args vargs.toList → ∃ v, (e vargs).run P w = .ok v w ∧ V X w σ r v) : Sound1 P ⟨f, true, pcon c⟩ where
  ok args hp r hp' hr X0 σ w vargs hR hV := by
    obtain ⟨h1, h2, h3, rfl, h4⟩ := pcon_run hr
    obtain ⟨v, h5, h6⟩ := h args r h2 _ w σ vargs hV
    refine .inr ⟨v, w, ?_, σ, fun _ _ h => h, ⟨Step.refl _ _, fun _ _ h => h⟩, hR, h6⟩
    rw [run_callFunc_extern hf hname hb hn he, h5]
    rfl
  len args hp r hp' hr := by
    obtain ⟨_, _, _, rfl, _⟩ := pcon_run hr; exact Nat.le_refl _
  pure _ args hp r hp' hr := by
    obtain ⟨_, _, _, rfl, h4⟩ := pcon_run hr; exact ⟨rfl, h4⟩
def cIxB : List AV → T AV
  | [.str a, .int .u8 c] => .leaf (.int .i64 (Lib.indexByte a c.toNat.toUInt8))
  | _ => .fail
theorem indexByte_le : ∀ (l : List UInt8) (c : UInt8), Lib.indexByte l c ≤ l.length
  | [], c => by simp [Lib.indexByte]
  | b :: l, c => by
    have := indexByte_le l c
    unfold Lib.indexByte
    split
    · simp; omega
    · split
      · simp; omega
      · simp; omega
theorem sound_indexByte {P : Program} {f : FuncId} {fn : Func} (hf : P.funcs[f]? = some fn) (hname : (fn.name == "runtime.NumGoroutine") = false)
    (hb : fn.body.isNone = true) (hn : Extern.findNext fn = none) (he : Extern.find fn = some Extern.BytealgIndexByte.indexByte) : Sound1 P ⟨f, true, pcon cIxB⟩ := by
  refine ext_sound hf hname hb hn he fun args r hr X w σ vargs hV => ?_
  unfold cIxB at hr
  split at hr
  · rename_i a b
    simp only [T.run_leaf, Option.some.injEq] at hr; subst hr
    simp only [VL, V] at hV
    obtain ⟨u, us, h1, ⟨rfl, ha⟩, u2, us2, rfl, ⟨rfl, hb⟩, rfl⟩ := hV
    have : vargs = #[.string ⟨⟨a⟩⟩, .int .u8 b] := by apply Array.ext'; simpa using h1
    subst this
    refine ⟨_, Lib.run_indexByteString _ _ w, ?_⟩
    simp only [V]
    have h1 := Lib.indexByte_ge a b.toNat.toUInt8
    have h2 := indexByte_le a b.toNat.toUInt8
    simp only [bnd] at ha
    refine ⟨trivial, ?_, ?_⟩
    · show IntKind.i64.min ≤ Lib.indexByte a _
      have : IntKind.i64.min = -9223372036854775808 := rfl
      omega
    · show Lib.indexByte a _ ≤ IntKind.i64.max
      have : IntKind.i64.max = 9223372036854775807 := rfl
      omega
  · cases hr
def cCmpB : List AV → T AV
  | [.str a, .str b] => .leaf (.int .i64 (Lib.compareBytes a b))
  | _ => .fail
theorem compareBytes_rng : ∀ a b : List UInt8, -1 ≤ Lib.compareBytes a b ∧ Lib.compareBytes a b ≤ 1
  | [], [] => by simp [Lib.compareBytes]
  | [], _ :: _ => by simp [Lib.compareBytes]
  | _ :: _, [] => by simp [Lib.compareBytes]
  | a :: x, b :: y => by
    unfold Lib.compareBytes
    split
    · omega
    · split
      · omega
      · exact compareBytes_rng x y
theorem sound_compareB {P : Program} {f : FuncId} {fn : Func} (hf : P.funcs[f]? = some fn) (hname : (fn.name == "runtime.NumGoroutine") = false)
    (hb : fn.body.isNone = true) (hn : Extern.findNext fn = none) (he : Extern.find fn = some Extern.BytealgCompare.compare) : Sound1 P ⟨f, true, pcon cCmpB⟩ := by
  refine ext_sound hf hname hb hn he fun args r hr X w σ vargs hV => ?_
  unfold cCmpB at hr
  split at hr
  · rename_i a b
    simp only [T.run_leaf, Option.some.injEq] at hr; subst hr
    simp only [VL, V] at hV
    obtain ⟨u, us, h1, ⟨rfl, ha⟩, u2, us2, rfl, ⟨rfl, hb⟩, rfl⟩ := hV
    have : vargs = #[.string ⟨⟨a⟩⟩, .string ⟨⟨b⟩⟩] := by apply Array.ext'; simpa using h1
    subst this
    refine ⟨_, Lib.run_compareString _ _ w, ?_⟩
    simp only [V]
    have := compareBytes_rng a b
    refine ⟨trivial, ?_, ?_⟩
    · show IntKind.i64.min ≤ Lib.compareBytes a b
      have : IntKind.i64.min = -9223372036854775808 := rfl
      omega
    · show Lib.compareBytes a b ≤ IntKind.i64.max
      have : IntKind.i64.max = 9223372036854775807 := rfl
      omega
  · cases hr
end Go.Ab
namespace Go.Ab
open Go Go.Proofs Go.Sort
set_option linter.unusedVariables false
set_option linter.unusedSimpArgs false
variable {P : Program}
/-! ### The library's sort of texts, and slices.Compact, on an own row -/
def lstF (f : Nat → Nat → AV) (n : Nat) : List (List UInt8) := (List.range n).map fun i => strOf (f i 0)
def srtL (l : List (List UInt8)) : List (List UInt8) := l.mergeSort fun x y => decide (x ≤ y)
def cmpL (l : List (List UInt8)) : List (List UInt8) := Lib.compact l ++ List.replicate (l.length - (Lib.compact l).length) []
theorem lstF_len (f : Nat → Nat → AV) (n : Nat) : (lstF f n).length = n := by
  unfold lstF
  rw [List.length_map, List.length_range]
theorem srtL_len (l : List (List UInt8)) : (srtL l).length = l.length := by
  unfold srtL
  rw [List.length_mergeSort]
theorem compact_le (l : List (List UInt8)) : (Lib.compact l).length ≤ l.length := by
  unfold Lib.compact Lib.compactUpTo
  rw [List.length_map]
  exact Nat.le_trans (List.length_filter_le _ _) (by simp)
theorem cmpL_len (l : List (List UInt8)) : (cmpL l).length = l.length := by
  unfold cmpL
  rw [List.length_append, List.length_replicate]
  have := compact_le l
  omega
theorem compact_mem {l : List (List UInt8)} {s : List UInt8} (h : s ∈ Lib.compact l) : s ∈ l := by
  unfold Lib.compact Lib.compactUpTo at h
  rw [List.mem_map] at h
  obtain ⟨i, hi, rfl⟩ := h
  have := List.mem_range.1 (List.mem_filter.1 hi).1
  rw [getElem!_pos l.toArray i (by simpa using this)]
  simp
open Classical in
noncomputable def cRow (res : Nat → List (List UInt8) → AV × List (List UInt8)) (nil : AV) (args : List AV) (hp : Hp) : T (AV × Hp) := match args with
  | [.nilsl] => .leaf (nil, hp)
  | [.row b sz lo n] => match hp[b]? with
    | some (some (.row sz' m f)) => match Nat.beq sz 1 && Nat.beq sz' 1 with
      | true => .chk (decide (lo = 0 ∧ n = m ∧ ∀ i, i < n → f i 0 = .str (strOf (f i 0)))) (.leaf ((res b (lstF f n)).1, hp.set b (some (.row 1 n (strF (res b (lstF f n)).2)))))
      | false => .fail
    | _ => .fail
  | _ => .fail
noncomputable def cSortS : List AV → Hp → T (AV × Hp) := cRow (fun b l => (.tup [], srtL l)) (.tup [])
noncomputable def cCompS : List AV → Hp → T (AV × Hp) := cRow (fun b l => (.row b 1 0 (Lib.compact l).length, cmpL l)) .nilsl
theorem step_put {w : World} {g k off : Nat} {d : Array (List UInt8)} {os : Array Obj} : Step (fun x => x = g) w (grow (putRow encStr (Go.Sort.ahead w k) g off d) os) := by
  have hh : (grow (putRow encStr (Go.Sort.ahead w k) g off d) os).heap = (w.heap.modify g (onCells (putCells encStr off d))) ++ os := rfl
  refine ⟨by rw [hh]; simp, rfl, rfl, rfl, fun g' h1 h2 => ?_, fun g' arr t fr h => ?_⟩
  · rw [hh, Array.getElem?_append_left (by simpa using h1), Array.getElem?_modify, if_neg (Ne.symm h2)]
  · have hlt : g' < w.heap.size := by
      rcases Nat.lt_or_ge g' w.heap.size with h' | h'
      · exact h'
      · rw [Array.getElem?_eq_none h'] at h; cases h
    rw [hh, Array.getElem?_append_left (by simpa using hlt), Array.getElem?_modify]
    by_cases hg : g = g'
    · rw [if_pos hg, h]
      exact ⟨_, fr, rfl, by simp [putCells]⟩
    · rw [if_neg hg]
      exact ⟨arr, fr, h, rfl⟩
theorem cells_put {w : World} {g k off : Nat} {d : Array (List UInt8)} {os : Array Obj} {arr : Array Value} (h : CellsAt w g arr) : CellsAt (grow (putRow encStr (Go.Sort.ahead w k) g off d) os) g (putCells encStr off d arr) := by
  have hlt := h.lt
  obtain ⟨t, fr, h1, h2, h3⟩ := h
  have hh : (grow (putRow encStr (Go.Sort.ahead w k) g off d) os).heap = (w.heap.modify g (onCells (putCells encStr off d))) ++ os := rfl
  refine ⟨t, fr, ?_, by simpa [putCells] using h2, fun u hu => ?_⟩
  · rw [hh, Array.getElem?_append_left (by simpa using hlt), Array.getElem?_modify, if_pos rfl, h1]
    rfl
  · obtain ⟨i, hi⟩ := List.getElem?_of_mem hu
    rw [Array.getElem?_toList] at hi
    unfold putCells at hi
    rw [Array.getElem?_mapIdx] at hi
    obtain ⟨x, hx, rfl⟩ := Option.map_eq_some_iff.1 hi
    split
    · rfl
    · exact h3 x (by rw [← Array.getElem?_toList] at hx; exact List.mem_of_getElem? hx)

section
variable {X0 : Blk} {σ : Sub} {hp : Hp} {w : World}
theorem rel_put {b n : Nat} {fr : Nat → Nat → AV} {v : Value} (hR : Rel X0 σ hp w) (hb : hp[b]? = some (some (.row 1 n fr))) (hf : ∀ i, i < n → fr i 0 = .str (strOf (fr i 0))) (hv : V (Xof X0 σ hp) w σ (.row b 1 0 n) v) :
    ∃ g o cap, v = .slice (some ⟨g, o, none⟩) n cap ∧ n ≤ bnd ∧ n ≤ cap ∧ g < w.heap.size ∧ Holds encStr w g o (lstF fr n).toArray ∧ (∀ s, s ∈ lstF fr n → s.length ≤ bnd) ∧
      ∀ (l : List (List UInt8)) (k : Nat) (os : Array Obj), l.length = n → (∀ s, s ∈ l → s.length ≤ bnd) →
        Step (Own σ hp) w (grow (putRow encStr (Go.Sort.ahead w k) g o l.toArray) os) ∧ (∀ q, q < w.heap.size → Own σ (hp.set b (some (.row 1 n (strF l)))) q → Own σ hp q) ∧
        Rel X0 σ (hp.set b (some (.row 1 n (strF l)))) (grow (putRow encStr (Go.Sort.ahead w k) g o l.toArray) os) ∧
        ∀ X k', k' ≤ n → V X (grow (putRow encStr (Go.Sort.ahead w k) g o l.toArray) os) σ (.row b 1 0 k') (.slice (some ⟨g, o, none⟩) k' cap) := by
  simp only [V] at hv
  obtain ⟨hnb, g, o, cap, arr0, t, frz, hg, rfl, hcap, ho, hheap, hsz⟩ := hv
  obtain ⟨g', hg', arr, hA, hms, hmb, hVr⟩ := hR.obj b _ hb
  rw [hg] at hg'; obtain rfl := Option.some.inj hg'
  have hlt := hA.lt
  have hAs : arr0 = arr := by
    obtain ⟨t2, fr2, e, _⟩ := hA
    rw [hheap] at e
    simp at e
    exact e.1
  subst hAs
  have ho' : 0 < n → o = 0 := fun h => by
    rcases ho with ho | ho
    · simpa using ho
    · omega
  have hcell : ∀ i, i < n → arr0[i]? = some (encStr (strOf (fr i 0))) ∧ (strOf (fr i 0)).length ≤ bnd := fun i hi => by
    have hlt2 : i < arr0.size := by omega
    have := hVr i 0 (arr0[i]) hi (by omega) (by simp [hlt2])
    rw [hf i hi] at this
    simp only [V] at this
    refine ⟨?_, this.2⟩
    rw [Array.getElem?_eq_getElem hlt2, this.1]
  have hH : Holds encStr w g o (lstF fr n).toArray := by
    intro j hj
    unfold lstF at hj ⊢
    simp at hj
    obtain rfl := ho' (by omega)
    have hj2 : j < arr0.size := by omega
    constructor
    · rw [hA.cell, Nat.zero_add, (hcell j hj).1]
      congr 1
      simp [hj]
    · exact hA.frozen (by omega)
  refine ⟨g, o, cap, rfl, hnb, hcap, hlt, hH, fun s hs => ?_, fun l k os hl hbl => ?_⟩
  · unfold lstF at hs
    rw [List.mem_map] at hs
    obtain ⟨j, hj, rfl⟩ := hs
    exact (hcell j (List.mem_range.1 hj)).2
  · have hst : Step (fun x => x = g) w (grow (putRow encStr (Go.Sort.ahead w k) g o l.toArray) os) := step_put
    have hA2 : CellsAt (grow (putRow encStr (Go.Sort.ahead w k) g o l.toArray) os) g (putCells encStr o l.toArray arr0) := cells_put hA
    refine ⟨hst.mono fun x _ e => own_mem hb hg x e, fun q _ h => (own_set (g := 0) hb q).1 h, hR.set hb hg hst ?_, fun X k' hk => ?_⟩
    · refine ⟨_, hA2, by simpa [putCells] using hms, hnb, fun i c u hi hc hu => ?_⟩
      obtain rfl : c = 0 := by omega
      obtain rfl := ho' (by omega)
      unfold putCells at hu
      rw [Array.getElem?_mapIdx] at hu
      obtain ⟨x, hx, rfl⟩ := Option.map_eq_some_iff.1 hu
      have hi2 : i < l.length := by omega
      simp only [Nat.mul_one, Nat.add_zero, List.size_toArray, hl]
      rw [if_pos (by omega)]
      simp only [strF, V]
      have e1 : l.getD i [] = l[i] := by simp [List.getD, hi2]
      rw [e1]
      refine ⟨?_, hbl _ (List.getElem_mem hi2)⟩
      simp [hi2]
    · simp only [V]
      obtain ⟨t2, fr2, e, _⟩ := hA2
      exact ⟨by omega, g, o, cap, _, t2, fr2, hg, rfl, by omega, ho, e, by simpa [putCells] using hsz⟩
end
theorem cRow_len {res : Nat → List (List UInt8) → AV × List (List UInt8)} {nil : AV} {args : List AV} {hp : Hp} {r : AV} {hp' : Hp} (hr : (cRow res nil args hp).run = some (r, hp')) : hp.length ≤ hp'.length := by
  unfold cRow at hr
  split at hr
  · simp only [T.run_leaf, Option.some.injEq, Prod.mk.injEq] at hr
    obtain ⟨_, rfl⟩ := hr
    exact Nat.le_refl _
  · split at hr
    · split at hr
      · rw [T.run_chk] at hr
        split at hr
        · simp only [T.run_leaf, Option.some.injEq, Prod.mk.injEq] at hr
          obtain ⟨_, rfl⟩ := hr
          simp
        · cases hr
      · cases hr
    · cases hr
  · cases hr
theorem sound_cRow {f : FuncId} (he : enterable P f = true) (res : Nat → List (List UInt8) → AV × List (List UInt8)) (nil : AV) (nilv : Value) (hn : ∀ X w σ, V X w σ nil nilv)
    (hres : ∀ b l, (res b l).2.length = l.length ∧ ((∀ s, s ∈ l → s.length ≤ bnd) → ∀ s, s ∈ (res b l).2 → s.length ≤ bnd))
    (ret : List (List UInt8) → Nat → Nat → Nat → Value)
    (hret : ∀ b l g o cap X w σ, (∀ k', k' ≤ l.length → V X w σ (.row b 1 0 k') (.slice (some ⟨g, o, none⟩) k' cap)) → V X w σ (res b l).1 (ret l g o cap))
    (hN : ∀ w, Calls P f #[.slice none 0 0] w fun e w' => e = .returned nilv ∧ w' = w)
    (hS : ∀ (b blk off cap : Nat) (ss : List (List UInt8)) (w : World), Holds encStr w blk off ss.toArray → blk < w.heap.size → ss.length ≤ bnd → ss.length ≤ cap →
      Calls P f #[.slice (some ⟨blk, off, none⟩) ss.length cap] w fun e w' => e = .returned (ret ss blk off cap) ∧ ∃ n os, w' = grow (putRow encStr (Go.Sort.ahead w n) blk off (res b ss).2.toArray) os) :
    Sound1 P ⟨f, false, cRow res nil⟩ where
  ok args hp r hp' hr X0 σ w vargs hR hV := by
    replace hr : (cRow res nil args hp).run = some (r, hp') := hr
    unfold cRow at hr
    split at hr
    · simp only [T.run_leaf, Option.some.injEq, Prod.mk.injEq] at hr
      obtain ⟨rfl, rfl⟩ := hr
      obtain rfl : vargs = #[.slice none 0 0] := by
        simp only [VL, V] at hV
        obtain ⟨v, vs, h1, rfl, rfl⟩ := hV
        cases vargs; simp_all
      refine .inl ⟨enter_of he _ _, callsIn_wide.2 ((hN w).mono ?_)⟩
      rintro e w' ⟨rfl, rfl⟩
      exact ⟨_, rfl, σ, fun _ _ h => h, ⟨Step.refl _ _, fun _ _ h => h⟩, hR, hn _ _ _⟩
    · rename_i b sz lo n
      split at hr
      · rename_i sz' m fr hb
        split at hr
        · rename_i hz
          rw [Bool.and_eq_true] at hz
          obtain rfl : sz = 1 := Nat.eq_of_beq_eq_true hz.1
          obtain rfl : sz' = 1 := Nat.eq_of_beq_eq_true hz.2
          rw [T.run_chk] at hr
          split at hr
          · rename_i hc
            simp only [decide_eq_true_eq] at hc
            obtain ⟨rfl, rfl, hf⟩ := hc
            simp only [T.run_leaf, Option.some.injEq, Prod.mk.injEq] at hr
            obtain ⟨rfl, rfl⟩ := hr
            obtain ⟨v, vs, hvs, hv, hn2⟩ : ∃ v vs, vargs.toList = v :: vs ∧ V (Xof X0 σ hp) w σ (.row b 1 0 n) v ∧ VL (Xof X0 σ hp) w σ [] vs := by simpa only [VL] using hV
            simp only [VL] at hn2
            subst hn2
            obtain rfl : vargs = #[v] := by cases vargs; simp_all
            obtain ⟨g, o, cap, rfl, hnb, hcap, hlt, hH, hsm, hput⟩ := rel_put hR hb hf hv
            have hl := lstF_len fr n
            have hcall := hS b g o cap (lstF fr n) w hH hlt (by omega) (by omega)
            rw [hl] at hcall
            refine .inl ⟨enter_of he _ _, callsIn_wide.2 (hcall.mono ?_)⟩
            rintro e w' ⟨rfl, k, os, rfl⟩
            obtain ⟨p1, p2⟩ := hres b (lstF fr n)
            obtain ⟨r1, r2, r3, r4⟩ := hput (res b (lstF fr n)).2 k os (by omega) (p2 hsm)
            exact ⟨_, rfl, σ, fun _ _ h => h, ⟨r1, r2⟩, r3, hret b (lstF fr n) g o cap _ _ _ fun k' hk => r4 _ k' (by omega)⟩
          · cases hr
        · cases hr
      · cases hr
    · cases hr
  len args hp r hp' hr := cRow_len hr
  pure h := by cases h
theorem sound_sortStr {f : FuncId} (he : enterable P f = true) (hN : ∀ w, Calls P f #[.slice none 0 0] w fun e w' => e = .returned (.tuple #[]) ∧ w' = w)
    (hS : ∀ (blk off cap : Nat) (ss : List (List UInt8)) (w : World), Holds encStr w blk off ss.toArray → blk < w.heap.size → ss.length < 4611686018427387904 →
      Calls P f #[.slice (some ⟨blk, off, none⟩) ss.length cap] w fun e w' => e = .returned (.tuple #[]) ∧ ∃ n os, w' = grow (putRow encStr (Go.Sort.ahead w n) blk off (ss.mergeSort fun x y => decide (x ≤ y)).toArray) os) :
    Sound1 P ⟨f, false, cSortS⟩ :=
  sound_cRow he _ _ (.tuple #[]) (fun X w σ => by simp only [V]; exact ⟨_, rfl, by simp [VL]⟩)
    (fun b l => ⟨srtL_len l, fun h s hs => h s (by unfold srtL at hs; rwa [List.mem_mergeSort] at hs)⟩)
    (fun _ _ _ _ => .tuple #[]) (fun b l g o cap X w σ _ => by simp only [V]; exact ⟨_, rfl, by simp [VL]⟩) hN
    (fun b blk off cap ss w h1 h2 h3 _ => hS blk off cap ss w h1 h2 (by simp only [bnd] at h3; omega))
theorem sound_compactStr {f : FuncId} (he : enterable P f = true) (hN : ∀ w, Calls P f #[.slice none 0 0] w fun e w' => e = .returned (.slice none 0 0) ∧ w' = w)
    (hS : ∀ (blk off cap : Nat) (ss : List (List UInt8)) (w : World), Holds encStr w blk off ss.toArray → ss.length ≤ 9223372036854775807 → ss.length ≤ cap →
      Calls P f #[.slice (some ⟨blk, off, none⟩) ss.length cap] w fun e w' => e = .returned (.slice (some ⟨blk, off, none⟩) (Lib.compact ss).length cap) ∧ ∃ q, w' = putRow encStr (Go.Sort.ahead w q) blk off (Lib.compact ss ++ List.replicate (ss.length - (Lib.compact ss).length) []).toArray) :
    Sound1 P ⟨f, false, cCompS⟩ :=
  sound_cRow he _ _ (.slice none 0 0) (fun X w σ => by simp only [V])
    (fun b l => ⟨cmpL_len l, fun h s hs => by
      unfold cmpL at hs
      rcases List.mem_append.1 hs with hs | hs
      · exact h s (compact_mem hs)
      · rw [List.mem_replicate] at hs
        rw [hs.2]
        exact Nat.zero_le _⟩)
    (fun l g o cap => .slice (some ⟨g, o, none⟩) (Lib.compact l).length cap) (fun b l g o cap X w σ h => h _ (compact_le l)) hN
    (fun b blk off cap ss w h1 h2 h3 h4 => (hS blk off cap ss w h1 (by simp only [bnd] at h3; omega) h4).mono fun e w' ⟨e1, q, e2⟩ => ⟨e1, q, #[], by rw [grow_empty]; exact e2⟩)
end Go.Ab
namespace Go.Ab
open Go Go.ChangeShapes Go.WideShapes Go.Deep
set_option linter.unusedVariables false
set_option linter.unusedSimpArgs false
/-! ### Rows of records that are handed in -/
def RowR {α H : Type} (dat : α → DataW H) (L : List α) (d : DataW H) : Prop := (L = [] ∧ d = .nil) ∨ ∃ sp, d = .slice (L.map dat) sp
section
variable {P : Program} {H : Type} {enc : TypeId × Value → H} {W : World}
theorem open_recs {α : Type} [Inhabited α] {C : Cel α} {dat : α → DataW H} {R : α → List Value → Prop} {small : α → Prop} {r : Reach} {b0 base : Nat} {sp : Nat → Bool} {held : Bool} {t e : TypeId} {n : Nat} {a : Value} {x : DataW H × List MemPlace}
    (ht : P.underlying t = some (.slice e)) (ce : P.cellsOf e = C.sz)
    (hrec : ∀ n cs x, cs.length = C.sz → DataW.trod enc P W base sp held n e cs = some x → ∃ k, x.1 = dat k ∧ R k cs)
    (hV : ∀ k cs, R k cs → small k → ∀ c, c < C.sz → ∃ u, cs[c]? = some u ∧ one u = true ∧ V (fun _ => False) W (fun _ => none) ((C.enc k).getD c .junk) u)
    (hval : Cell.okWide P W r b0 t a) (h : DataW.trod enc P W base sp held n t [a] = some x) :
    ∃ L : List α, RowR dat L x.1 ∧ (L.length ≤ bnd → (∀ k ∈ L, small k) → V (fun _ => False) W (fun _ => none) (.sl C.sz L.length (rowG C (fnG C.df L))) a) := by
  unfold Cell.okWide at hval
  rw [ht] at hval
  rcases open_slice ht h with ⟨h1, rfl⟩ | ⟨ad, len, cap, m, n', D, Pl, h1', hb, hl, hm, hmm, rfl, hx⟩
  · obtain rfl : a = .slice none 0 0 := by simpa using h1
    refine ⟨[], .inl ⟨rfl, rfl⟩, fun _ _ => ?_⟩
    simp only [V]
    exact ⟨by simp [bnd], .inl ⟨by first | trivial | rfl, rfl⟩⟩
  · obtain rfl : a = .slice (some ad) len cap := by simpa using h1'
    simp only [Cell.ok, ht] at hval
    obtain ⟨_, hcap, _, hspot, row, cells, hsh, _⟩ := hval
    have hlm : len ≤ m := by rw [hmm]; split <;> omega
    have hblk : ad.block < W.heap.size := by
      unfold World.shape? at hsh
      rcases Nat.lt_or_ge ad.block W.heap.size with h2 | h2
      · exact h2
      · rw [Array.getElem?_eq_none h2] at hsh; cases hsh
    have each : ∀ i, i < m → ∃ k : α × List Value, D i = dat k.1 ∧ R k.1 k.2 ∧ ∀ j, j < C.sz → W.cell? (ad.add (i * C.sz + j)) = k.2[j]? := by
      intro i hi
      obtain ⟨cs', q1, q2⟩ := hx i hi
      rw [ce] at q1
      obtain ⟨_, hlen, hcell⟩ := World.cells?_some q1
      obtain ⟨k, k1, k2⟩ := hrec _ _ _ hlen q2
      refine ⟨(k, cs'), k1, k2, fun j hj => ?_⟩
      have := hcell j hj
      rwa [add_add] at this
    obtain ⟨q, hq⟩ := choose_lt each
    obtain ⟨bk, of, sp'⟩ := ad
    simp only at hspot hblk
    subst hspot
    refine ⟨(List.range len).map fun i => (q i).1, .inr ⟨(List.range (m - len)).map fun j => D (len + j), ?_⟩, fun hsl hsm => ?_⟩
    · simp only [List.map_map]
      congr 1
      exact List.map_congr_left fun i hi => (hq i (by have := List.mem_range.1 hi; omega)).1
    · have hbl : len ≤ bnd := by simpa using hsl
      simp only [V, List.length_map, List.length_range]
      refine ⟨hbl, .inr ⟨bk, of, cap, rfl, hl, hblk, id, fun i c hi hc => ?_⟩⟩
      obtain ⟨_, k1, k2⟩ := hq i (by omega)
      have ef : fnG C.df ((List.range len).map fun i => (q i).1) i = (q i).1 := by
        unfold fnG
        rw [List.getD_eq_getElem?_getD, List.getElem?_map, List.getElem?_range hi]; rfl
      have ea : ∀ j, (⟨bk, of, none⟩ : Addr).add j = ⟨bk, of + j, none⟩ := fun j => by
        by_cases hj : j = 0
        · subst hj; simp [Addr.add]
        · simp [Addr.add, hj]
      obtain ⟨u, u1, u2, u3⟩ := hV _ _ k1 (hsm (q i).1 (List.mem_map.2 ⟨i, List.mem_range.2 hi, rfl⟩)) c hc
      refine ⟨u, ?_, u2, ?_⟩
      · rw [← ea, k2 c hc, u1]
      · unfold rowG
        rw [ef]
        exact u3
end
section
variable {P : Program} {H : Type}
theorem w_recs {α : Type} {dat : α → DataW H} {t e : TypeId} {k : Nat} {l : List α} {d : DataW H} (ht : P.underlying t = some (.slice e)) (hb : P.bytesOf e = k) (hk : 1 ≤ k) (h : RowR dat l d) (hw : ∀ n ∈ d.weights P t, n ≤ reachBytes) :
    l.length * k ≤ reachBytes ∧ l.length ≤ bnd ∧ ∀ s ∈ l, ∀ n ∈ (dat s).weights P e, n ≤ reachBytes := by
  rcases h with ⟨rfl, rfl⟩ | ⟨sp, rfl⟩
  · exact ⟨by simp, by simp [bnd], by simp⟩
  · obtain ⟨h1, h2⟩ := w_slice ht hb hw
    simp only [List.length_map] at h1
    refine ⟨h1, ?_, fun s hs => h2 _ (List.mem_map.2 ⟨s, hs, rfl⟩)⟩
    have : l.length * 1 ≤ l.length * k := Nat.mul_le_mul_left _ hk
    simp only [reachBytes, bnd] at *; omega
end
end Go.Ab

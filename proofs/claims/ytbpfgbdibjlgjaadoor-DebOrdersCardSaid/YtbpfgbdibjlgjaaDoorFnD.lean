/- Lemmas for the claims of this seat (a verified symbolic evaluator, and contracts of functions): own work; no condition. -/
import Derived.Test.YtbpfgbdibjlgjaaDoorFnC
namespace Go.Deb
open Go Go.Proofs Go.Ab
set_option linter.unusedVariables false
set_option linter.unusedSimpArgs false

/-! ### Comparisons that are orders -/
structure IsCmp {α : Type} (F : α → α → Int) : Prop where
  anti : ∀ a b, F b a = - F a b
  tr : ∀ a b c, F a b ≤ 0 → F b c ≤ 0 → F a c ≤ 0
  eqr : ∀ a b c, F a b = 0 → F a c = F b c
theorem IsCmp.self {α : Type} {F : α → α → Int} (h : IsCmp F) (a : α) : F a a = 0 := by have := h.anti a a; omega
theorem IsCmp.on {α β : Type} {F : α → α → Int} (h : IsCmp F) (k : β → α) : IsCmp fun a b => F (k a) (k b) :=
  ⟨fun a b => h.anti _ _, fun a b c => h.tr _ _ _, fun a b c => h.eqr _ _ _⟩
theorem IsCmp.lex {α : Type} {F G : α → α → Int} (hF : IsCmp F) (hG : IsCmp G) : IsCmp fun a b => if F a b ≠ 0 then F a b else G a b := by
  refine ⟨fun a b => ?_, fun a b c h1 h2 => ?_, fun a b c h => ?_⟩
  · have h1 := hF.anti a b
    have h2 := hG.anti a b
    split <;> split <;> omega
  · have t1 := hF.tr a b c
    have t2 := hG.tr a b c
    have e1 := hF.eqr a c b
    have e2 := hF.eqr a b c
    have e3 := hF.eqr b c a
    have a1 := hF.anti b c
    have a2 := hF.anti a b
    have a3 := hF.anti a c
    split at h1 <;> split at h2 <;> split <;> omega
  · have e1 := hF.eqr a b c
    have e2 := hG.eqr a b c
    split at h
    · omega
    · have e1 := e1 (by omega)
      have e2 := e2 h
      rw [e1, e2]
theorem IsCmp.congr {α : Type} {F G : α → α → Int} (hF : IsCmp F) (h : ∀ a b, G a b = F a b) : IsCmp G := by
  have : G = F := funext fun a => funext fun b => h a b
  rw [this]; exact hF
/-- Where three at a time meet some comparison that is an order. -/
theorem IsCmp.near {α : Type} {G : α → α → Int} (h : ∀ a b c, ∃ F : α → α → Int, IsCmp F ∧ ∀ x y, (x = a ∨ x = b ∨ x = c) → (y = a ∨ y = b ∨ y = c) → G x y = F x y) : IsCmp G := by
  refine ⟨fun a b => ?_, fun a b c h1 h2 => ?_, fun a b c h1 => ?_⟩
  · obtain ⟨F, hF, hG⟩ := h a b b
    rw [hG b a (by simp) (by simp), hG a b (by simp) (by simp)]; exact hF.anti a b
  · obtain ⟨F, hF, hG⟩ := h a b c
    rw [hG a b (by simp) (by simp)] at h1
    rw [hG b c (by simp) (by simp)] at h2
    rw [hG a c (by simp) (by simp)]; exact hF.tr a b c h1 h2
  · obtain ⟨F, hF, hG⟩ := h a b c
    rw [hG a b (by simp) (by simp)] at h1
    rw [hG a c (by simp) (by simp), hG b c (by simp) (by simp)]; exact hF.eqr a b c h1
theorem sign_cmp : IsCmp fun x y : Int => signZ (x - y) := by
  refine ⟨fun a b => ?_, fun a b c h1 h2 => ?_, fun a b c h => ?_⟩ <;> (simp only [signZ] at *; (repeat' split at *) <;> (repeat' split) <;> omega)
theorem cmpI_cmp : IsCmp cmpI := by
  refine ⟨fun a b => ?_, fun a b c h1 h2 => ?_, fun a b c h => ?_⟩ <;> (simp only [cmpI] at *; (repeat' split at *) <;> (repeat' split) <;> omega)
theorem bytes_zero : ∀ a b : List UInt8, Lib.compareBytes a b = 0 ↔ a = b
  | [], [] => by simp [Lib.compareBytes]
  | [], _ :: _ => by simp [Lib.compareBytes]
  | _ :: _, [] => by simp [Lib.compareBytes]
  | a :: x, b :: y => by
    have ih := bytes_zero x y
    unfold Lib.compareBytes
    split
    · rename_i h; simp only [List.cons.injEq]; constructor
      · intro h; omega
      · rintro ⟨rfl, _⟩; exact absurd h (by simp)
    · split
      · rename_i h; simp only [List.cons.injEq]; constructor
        · intro h; omega
        · rintro ⟨rfl, _⟩; exact absurd h (by simp)
      · rename_i h1 h2
        have : a = b := by
          apply UInt8.toNat_inj.1
          have h1 : ¬ a.toNat < b.toNat := fun h => h1 (by simpa [UInt8.lt_iff_toNat_lt] using h)
          have h2 : ¬ b.toNat < a.toNat := fun h => h2 (by simpa [UInt8.lt_iff_toNat_lt] using h)
          omega
        subst this
        simp [ih]
theorem bytes_anti : ∀ a b : List UInt8, Lib.compareBytes b a = - Lib.compareBytes a b
  | [], [] => by simp [Lib.compareBytes]
  | [], _ :: _ => by simp [Lib.compareBytes]
  | _ :: _, [] => by simp [Lib.compareBytes]
  | a :: x, b :: y => by
    have ih := bytes_anti x y
    unfold Lib.compareBytes
    simp only [UInt8.lt_iff_toNat_lt]
    (repeat' split) <;> omega
theorem bytes_tr : ∀ a b c : List UInt8, Lib.compareBytes a b ≤ 0 → Lib.compareBytes b c ≤ 0 → Lib.compareBytes a c ≤ 0
  | [], _, [], _, _ => by simp [Lib.compareBytes]
  | [], _, _ :: _, _, _ => by simp [Lib.compareBytes]
  | _ :: _, [], _, h, _ => by simp [Lib.compareBytes] at h
  | _ :: _, _ :: _, [], _, h => by simp [Lib.compareBytes] at h
  | a :: x, b :: y, c :: z, h1, h2 => by
    have ih := bytes_tr x y z
    unfold Lib.compareBytes at h1 h2 ⊢
    simp only [UInt8.lt_iff_toNat_lt] at h1 h2 ⊢
    (repeat' split at h1) <;> (repeat' split at h2) <;> (repeat' split) <;> first | omega | exact ih h1 h2
theorem bytes_cmp : IsCmp Lib.compareBytes := ⟨bytes_anti, bytes_tr, fun a b c h => by rw [(bytes_zero a b).1 h]⟩

/-! ### plain and Part are orders -/
theorem sign_ne (n : Int) : n ≠ 0 ↔ signZ n ≠ 0 := by unfold signZ; (repeat' split) <;> omega
theorem plain_nil : ∀ n, plainL n [] [] = 0
  | 0 => rfl
  | n + 1 => by simp [plainL, hdW, plain_nil n]
theorem plain_step (n : Nat) (a b : List UInt8) : plainL (n + 1) a b = if signZ (hdW a - hdW b) ≠ 0 then signZ (hdW a - hdW b) else plainL n a.tail b.tail := by
  simp only [plainL]
  have := sign_ne (hdW a - hdW b)
  by_cases h : hdW a - hdW b ≠ 0
  · rw [if_pos h, if_pos (this.1 h)]
  · rw [if_neg h, if_neg fun q => h (this.2 q)]
theorem plain_ge : ∀ (n m : Nat) (a b : List UInt8), a.length ≤ n → b.length ≤ n → n ≤ m → plainL m a b = plainL n a b
  | 0, m, a, b, ha, hb, h => by
    have ha : a = [] := List.eq_nil_of_length_eq_zero (by omega)
    have hb : b = [] := List.eq_nil_of_length_eq_zero (by omega)
    subst ha hb
    rw [plain_nil]; rfl
  | n + 1, m, a, b, ha, hb, h => by
    obtain ⟨m, rfl⟩ : ∃ k, m = k + 1 := ⟨m - 1, by omega⟩
    rw [plain_step, plain_step, plain_ge n m a.tail b.tail (by simp; omega) (by simp; omega) (by omega)]
theorem plainL_cmp : ∀ n, IsCmp (plainL n)
  | 0 => ⟨fun _ _ => rfl, fun _ _ _ _ _ => by simp [plainL], fun _ _ _ _ => rfl⟩
  | n + 1 => IsCmp.congr (IsCmp.lex (sign_cmp.on hdW) ((plainL_cmp n).on List.tail)) (plain_step n)
theorem plainD_ge {n : Nat} {a b : List UInt8} (ha : a.length ≤ n) (hb : b.length ≤ n) : plainD a b = plainL n a b :=
  (plain_ge (max a.length b.length) n a b (by omega) (by omega) (by omega)).symm
theorem plainD_cmp : IsCmp plainD := IsCmp.near fun a b c => ⟨plainL (a.length + b.length + c.length), plainL_cmp _, fun x y hx hy => plainD_ge (by rcases hx with rfl | rfl | rfl <;> omega) (by rcases hy with rfl | rfl | rfl <;> omega)⟩
theorem plainD_nil : plainD [] [] = 0 := rfl
theorem cmpD_cmp : IsCmp cmpD := IsCmp.congr (IsCmp.lex (cmpI_cmp.on fun a => ((trimD a).length : Int)) (bytes_cmp.on trimD)) fun a b => rfl
theorem cmpD_self (a : List UInt8) : cmpD a a = 0 := cmpD_cmp.self a
/-- What lies behind the first rows. -/
def restR (l : List UInt8) : List UInt8 := l.drop ((rowP l).length + (rowQ l).length)
def partL : Nat → List UInt8 → List UInt8 → Int
  | 0, _, _ => 0
  | n + 1, a, b => if plainD (rowP a) (rowP b) ≠ 0 then plainD (rowP a) (rowP b) else if cmpD (rowQ a) (rowQ b) ≠ 0 then cmpD (rowQ a) (rowQ b) else partL n (restR a) (restR b)
theorem partL_cmp : ∀ n, IsCmp (partL n)
  | 0 => ⟨fun _ _ => rfl, fun _ _ _ _ _ => by simp [partL], fun _ _ _ _ => rfl⟩
  | n + 1 => IsCmp.congr (IsCmp.lex (plainD_cmp.on rowP) (IsCmp.lex (cmpD_cmp.on rowQ) ((partL_cmp n).on restR))) fun a b => rfl
theorem restR_len (l : List UInt8) : (restR l).length ≤ l.length - 1 := by
  have := row_le l
  unfold restR
  rw [List.length_drop]
  by_cases h : l = []
  · subst h; simp
  · have := this.2 h; omega
theorem partL_nil : ∀ n, partL n [] [] = 0
  | 0 => rfl
  | n + 1 => by
    have h1 : rowP [] = [] := rfl
    have h2 : rowQ [] = [] := rfl
    have h3 : restR [] = [] := rfl
    unfold partL
    rw [h1, h2, h3, plainD_nil, cmpD_self, partL_nil n]; simp
theorem partL_ge : ∀ (n m : Nat) (a b : List UInt8), a.length ≤ n → b.length ≤ n → n ≤ m → partL m a b = partL n a b
  | 0, m, a, b, ha, hb, h => by
    have ha : a = [] := List.eq_nil_of_length_eq_zero (by omega)
    have hb : b = [] := List.eq_nil_of_length_eq_zero (by omega)
    subst ha hb
    rw [partL_nil]; rfl
  | n + 1, m, a, b, ha, hb, h => by
    obtain ⟨m, rfl⟩ : ∃ k, m = k + 1 := ⟨m - 1, by omega⟩
    have h1 := restR_len a
    have h2 := restR_len b
    unfold partL
    rw [partL_ge n m (restR a) (restR b) (by omega) (by omega) (by omega)]
theorem restR_drop {a : List UInt8} {x : Int} (h0 : 0 ≤ x) : a.drop (adv a x).toNat = restR (a.drop x.toNat) := by
  unfold adv gp gq restR
  rw [List.drop_drop]
  congr 1; omega
theorem partG_eq : ∀ (n : Nat) (a b : List UInt8) (x y : Int), 0 ≤ x → x ≤ a.length → 0 ≤ y → y ≤ b.length → (partG n a b x y).2.2.1 = partL n (a.drop x.toNat) (b.drop y.toNat)
  | 0, a, b, x, y, _, _, _, _ => rfl
  | n + 1, a, b, x, y, h1, h2, h3, h4 => by
    have ih := partG_eq n a b (adv a x) (adv b y)
    obtain ⟨a1, a2, a3⟩ := adv_spec h1 h2
    obtain ⟨b1, b2, b3⟩ := adv_spec h3 h4
    have ih := ih (by omega) a2 (by omega) b2
    rw [restR_drop h1, restR_drop h3] at ih
    unfold partG partL
    rw [show rowP (a.drop x.toNat) = gp a x from rfl, show rowP (b.drop y.toNat) = gp b y from rfl, show rowQ (a.drop x.toNat) = gq a x from rfl, show rowQ (b.drop y.toNat) = gq b y from rfl]
    split
    · rfl
    · split
      · rfl
      · split
        · rename_i hc
          have e1 : restR (a.drop x.toNat) = [] := by rw [← restR_drop h1]; exact List.drop_of_length_le (by omega)
          have e2 : restR (b.drop y.toNat) = [] := by rw [← restR_drop h3]; exact List.drop_of_length_le (by omega)
          rw [e1, e2, partL_nil]
        · exact ih
theorem partD_ge {n : Nat} {a b : List UInt8} (ha : a.length ≤ n) (hb : b.length ≤ n) : partD a b = partL n a b := by
  have h := partG_eq (a.length + b.length + 1) a b 0 0 (by omega) (by omega) (by omega) (by omega)
  unfold partD g13
  rw [h]
  simp only [Int.toNat_zero, List.drop_zero]
  rw [partL_ge (max a.length b.length) (a.length + b.length + 1) a b (by omega) (by omega) (by omega), ← partL_ge (max a.length b.length) n a b (by omega) (by omega) (by omega)]
theorem partD_cmp : IsCmp partD := IsCmp.near fun a b c => ⟨partL (a.length + b.length + c.length), partL_cmp _, fun x y hx hy => partD_ge (by rcases hx with rfl | rfl | rfl <;> omega) (by rcases hy with rfl | rfl | rfl <;> omega)⟩
end Go.Deb
namespace Go.Deb
open Go Go.Proofs Go.Ab
set_option linter.unusedVariables false
set_option linter.unusedSimpArgs false

/-! ### Which texts are versions -/
theorem lastN_spec (s : List UInt8) (c : Int) : ∀ n, (lastN s c n = -1 ∧ ∀ i, i < n → ((s.getD i 0).toNat : Int) ≠ c) ∨ (∃ k, k < n ∧ lastN s c n = (k : Int) ∧ ((s.getD k 0).toNat : Int) = c ∧ ∀ i, k < i → i < n → ((s.getD i 0).toNat : Int) ≠ c)
  | 0 => .inl ⟨rfl, fun i h => by omega⟩
  | n + 1 => by
    unfold lastN
    split
    · rename_i h
      exact .inr ⟨n, by omega, rfl, h, fun i h1 h2 => by omega⟩
    · rename_i h
      rcases lastN_spec s c n with ⟨h1, h2⟩ | ⟨k, h1, h2, h3, h4⟩
      · refine .inl ⟨h1, fun i hi => ?_⟩
        by_cases e : i = n
        · subst e; exact h
        · exact h2 i (by omega)
      · refine .inr ⟨k, by omega, h2, h3, fun i h5 h6 => ?_⟩
        by_cases e : i = n
        · subst e; exact h
        · exact h4 i h5 (by omega)
theorem getD_mem {s : List UInt8} {i : Nat} (h : i < s.length) : s.getD i 0 ∈ s := by
  rw [List.getD_eq_getElem?_getD, List.getElem?_eq_getElem h]; exact List.getElem_mem h
theorem byte_eq {b : UInt8} {c : Nat} (hc : c < 256) : ((b.toNat : Int) = (c : Int)) ↔ b = UInt8.ofNat c := by
  constructor
  · intro h
    apply UInt8.toNat_inj.1
    rw [UInt8.toNat_ofNat']
    omega
  · rintro rfl
    rw [UInt8.toNat_ofNat']; omega
theorem last_none {s : List UInt8} (h : (45 : UInt8) ∉ s) : lastN s 45 s.length = -1 := by
  rcases lastN_spec s 45 s.length with h1 | ⟨k, h1, h2, h3, h4⟩
  · exact h1.1
  · have h5 := (byte_eq (c := 45) (by omega)).1 h3
    have h6 := getD_mem h1
    rw [h5] at h6
    exact absurd h6 h
theorem last_at {a r : List UInt8} (h : (45 : UInt8) ∉ r) : lastN (a ++ 45 :: r) 45 (a ++ 45 :: r).length = (a.length : Int) := by
  have hat : (a ++ 45 :: r).getD a.length 0 = 45 := by simp
  rcases lastN_spec (a ++ 45 :: r) 45 (a ++ 45 :: r).length with ⟨h1, h2⟩ | ⟨k, h1, h2, h3, h4⟩
  · exact absurd (by rw [hat]; rfl) (h2 a.length (by simp))
  · rw [h2]
    rcases Nat.lt_trichotomy k a.length with hk | hk | hk
    · exact absurd (by rw [hat]; rfl) (h4 a.length hk (by simp))
    · rw [hk]
    · have h5 := (byte_eq (c := 45) (by omega)).1 h3
      exfalso
      apply h
      have h6 : (a ++ 45 :: r).getD k 0 = r.getD (k - a.length - 1) 0 := by
        rw [List.getD_eq_getElem?_getD, List.getElem?_append_right (by omega), List.getD_eq_getElem?_getD]
        obtain ⟨j, hj⟩ : ∃ j, k - a.length = j + 1 := ⟨k - a.length - 1, by omega⟩
        rw [hj]; simp
      rw [h6] at h5
      have : r.getD (k - a.length - 1) 0 ∈ r := getD_mem (by simp at h1; omega)
      rw [h5] at this; exact this
theorem firstX_all {q : Int → Bool} {s : List UInt8} {i : Int} (h0 : 0 ≤ i) (h : i ≤ s.length) : firstX q s i = s.length ↔ (s.drop i.toNat).all (fun b => q (b.toNat : Int)) = true := by
  have := takeWhile_all (p := fun b => q (b.toNat : Int)) (s.drop i.toNat)
  rw [← this]
  unfold firstX
  simp only [List.length_drop]
  omega
theorem runD_len (s : List UInt8) : runD s 0 = ((s.takeWhile digB).length : Int) := by
  unfold runD runL
  rw [if_neg (by omega)]
  simp
/-- The bytes of a body. -/
def okB (co : Bool) (l : List UInt8) : Prop := ∀ b, b ∈ l → upB co true (b.toNat : Int) = true
/-- What stands behind the epoch. -/
structure IsBody (co : Bool) (t u r : List UInt8) : Prop where
  ok : okB co t
  is : t = (if r = [] then u else u ++ 45 :: r)
  dash : (45 : UInt8) ∉ (if r = [] then u else r)
  colon : (58 : UInt8) ∉ r
theorem body_fwd {s ep : List UInt8} {fr : Int} {co : Bool} {e u r : List UInt8} {a : Int} (h0 : 0 ≤ fr) (h1 : fr ≤ s.length) (h : bodyD s ep fr co = ((e, u, r), (0, a))) :
    a = 0 ∧ e = ep ∧ IsBody co (s.drop fr.toNat) u r := by
  have wr : ∀ k : Int, wrongAt s k ≠ (0, a) := by
    intro k hk
    unfold wrongAt at hk
    split at hk <;> simp at hk
  unfold bodyD at h
  split at h
  · rename_i hf
    have hall := (firstX_all h0 h1).1 hf
    have hok : okB co (s.drop fr.toNat) := fun b hb => List.all_eq_true.1 hall b hb
    rcases lastN_spec s 45 s.length with ⟨g1, g2⟩ | ⟨k, g1, g2, g3, g4⟩
    · rw [g1] at h
      rw [if_pos (by omega)] at h
      simp only [Prod.mk.injEq] at h
      obtain ⟨⟨rfl, rfl, rfl⟩, _, rfl⟩ := h
      refine ⟨rfl, rfl, hok, by simp, ?_, by simp⟩
      rw [if_pos rfl]
      intro hm
      obtain ⟨i, hi, he⟩ := List.mem_iff_getElem.1 (List.mem_of_mem_drop hm)
      apply g2 i hi
      rw [List.getD_eq_getElem?_getD, List.getElem?_eq_getElem hi, he]; rfl
    · rw [g2] at h
      split at h
      · rename_i hlt
        simp only [Prod.mk.injEq] at h
        obtain ⟨⟨rfl, rfl, rfl⟩, _, rfl⟩ := h
        refine ⟨rfl, rfl, hok, by simp, ?_, by simp⟩
        rw [if_pos rfl]
        intro hm
        obtain ⟨i, hi, he⟩ := List.mem_iff_getElem.1 hm
        rw [List.getElem_drop] at he
        simp only [List.length_drop] at hi
        apply g4 (fr.toNat + i) (by omega) (by omega)
        rw [List.getD_eq_getElem?_getD, List.getElem?_eq_getElem (by omega), he]; rfl
      · rename_i hge
        have e1 : ((k : Int) + 1).toNat = k + 1 := by omega
        have e2 : (k : Int).toNat = k := by omega
        rw [e1, e2] at h
        split at h
        · simp only [Prod.mk.injEq] at h
          exact absurd h.2 (wr _)
        · rename_i hc
          simp only [Prod.mk.injEq] at h
          obtain ⟨⟨rfl, rfl, rfl⟩, _, rfl⟩ := h
          have hne : ¬ s.drop (k + 1) = [] := fun q => hc (.inl q)
          have hnc : (58 : UInt8) ∉ s.drop (k + 1) := fun q => hc (.inr ((indexByte_mem 58 _).2 q))
          have hk45 : s[k] = 45 := by
            have := (byte_eq (c := 45) (by omega)).1 g3
            rw [List.getD_eq_getElem?_getD, List.getElem?_eq_getElem g1] at this
            exact this
          refine ⟨rfl, rfl, hok, ?_, ?_, hnc⟩
          · rw [if_neg hne]
            have h3 : (s.drop fr.toNat).drop (k - fr.toNat) = s.drop k := by rw [List.drop_drop]; congr 1; omega
            rw [List.drop_eq_getElem_cons g1, hk45] at h3
            rw [← h3, List.take_append_drop]
          · rw [if_neg hne]
            intro hm
            obtain ⟨i, hi, he⟩ := List.mem_iff_getElem.1 hm
            rw [List.getElem_drop] at he
            simp only [List.length_drop] at hi
            apply g4 (k + 1 + i) (by omega) (by omega)
            rw [List.getD_eq_getElem?_getD, List.getElem?_eq_getElem (by omega), he]; rfl
  · simp only [Prod.mk.injEq] at h
    exact absurd h.2 (wr _)
theorem body_bwd {s ep : List UInt8} {fr : Nat} {co : Bool} {u r : List UInt8} (h1 : fr ≤ s.length) (hd : (45 : UInt8) ∉ s.take fr) (h : IsBody co (s.drop fr) u r) : bodyD s ep (fr : Int) co = ((ep, u, r), (0, 0)) := by
  have hall : (s.drop (fr : Int).toNat).all (fun b => upB co true (b.toNat : Int)) = true := List.all_eq_true.2 fun b hb => h.ok b (by simpa using hb)
  have hf := (firstX_all (q := upB co true) (s := s) (i := fr) (by omega) (by omega)).2 hall
  unfold bodyD
  rw [if_pos hf]
  have hs : s.take fr ++ s.drop fr = s := List.take_append_drop fr s
  have htl : (s.take fr).length = fr := by rw [List.length_take]; omega
  by_cases hr : r = []
  · have e1 := h.is
    have e2 := h.dash
    rw [if_pos hr] at e1 e2
    have : (45 : UInt8) ∉ s := by
      rw [← hs, e1]
      intro hm
      rcases List.mem_append.1 hm with hm | hm
      · exact hd hm
      · exact e2 hm
    rw [last_none this, if_pos (by omega)]
    simp [e1, hr]
  · have e1 := h.is
    have e2 := h.dash
    rw [if_neg hr] at e1 e2
    have e3 : s = (s.take fr ++ u) ++ 45 :: r := by rw [List.append_assoc, ← e1, hs]
    have hl := last_at (a := s.take fr ++ u) (r := r) e2
    rw [← e3] at hl
    simp only [List.length_append, htl] at hl
    rw [hl, if_neg (by omega)]
    have e4 : ((fr + u.length : Nat) + 1 : Int).toNat = fr + u.length + 1 := by omega
    have e5 : s.drop (fr + u.length + 1) = r := by
      have key : ∀ A : List UInt8, (A ++ 45 :: r).drop (A.length + 1) = r := fun A => by rw [← List.drop_drop]; simp
      have h7 := key (s.take fr ++ u)
      rw [← e3, List.length_append, htl] at h7
      exact h7
    rw [e4, e5, if_neg (by
      rintro (q | q)
      · exact hr q
      · exact h.colon ((indexByte_mem 58 r).1 q))]
    have e6 : (s.drop (fr : Int).toNat).take (((fr + u.length : Nat) : Int).toNat - (fr : Int).toNat) = u := by
      have : ((fr + u.length : Nat) : Int).toNat - (fr : Int).toNat = u.length := by omega
      rw [this]
      simp only [Int.toNat_natCast]
      rw [e1]; simp
    rw [e6]
end Go.Deb
namespace Go.Deb
open Go Go.Proofs Go.Ab
set_option linter.unusedVariables false
set_option linter.unusedSimpArgs false

/-! ### Parse, told -/
theorem up_iff (co da : Bool) (c : Int) : upB co da c = true ↔ prtB c = true ∨ (c = 58 ∧ co = true) ∨ (c = 45 ∧ da = true) := by
  unfold upB prtB alnum
  simp only [Bool.or_eq_true, Bool.and_eq_true, beq_iff_eq]
  grind
theorem prt58 : prtB 58 = false := by decide
theorem prt45 : prtB 45 = false := by decide
theorem dig_prt {b : UInt8} (h : digB b = true) : prtB (b.toNat : Int) = true := by
  have : dig (b.toNat : Int) = true := h
  unfold prtB; simp [this]
theorem b58 {b : UInt8} : ((b.toNat : Int) = 58) ↔ b = 58 := byte_eq (c := 58) (by omega)
theorem b45 {b : UInt8} : ((b.toNat : Int) = 45) ↔ b = 45 := byte_eq (c := 45) (by omega)
theorem dig58 : digB 58 = false := by decide
theorem dig45 : digB 45 = false := by decide
theorem tw_app {p : UInt8 → Bool} {a : List UInt8} {b : UInt8} {l : List UInt8} (ha : ∀ x, x ∈ a → p x = true) (hb : p b = false) : (a ++ b :: l).takeWhile p = a := by
  rw [List.takeWhile_append_of_pos ha, List.takeWhile_cons, hb]; simp
theorem tw_ok {p : UInt8 → Bool} : ∀ {l : List UInt8} {b : UInt8}, b ∈ l.takeWhile p → p b = true
  | x :: l, b, h => by
    rw [List.takeWhile_cons] at h
    split at h
    · rename_i hx
      rcases List.mem_cons.1 h with rfl | h
      · exact hx
      · exact tw_ok h
    · simp at h
theorem tw_next {p : UInt8 → Bool} : ∀ {l : List UInt8}, (h : (l.takeWhile p).length < l.length) → p (l.getD (l.takeWhile p).length 0) = false
  | x :: l, h => by
    rw [List.takeWhile_cons] at h ⊢
    cases hx : p x with
    | true =>
      rw [hx] at h
      simp only [if_true, List.length_cons] at h ⊢
      rw [List.getD_cons_succ]
      exact tw_next (by omega)
    | false => simpa using hx
theorem split_at {s : List UInt8} {k : Nat} (h : k < s.length) : s = s.take k ++ s.getD k 0 :: s.drop (k + 1) := by
  have h2 : s.getD k 0 = s[k] := by rw [List.getD_eq_getElem?_getD, List.getElem?_eq_getElem h]; rfl
  rw [h2, ← List.drop_eq_getElem_cons h, List.take_append_drop]
theorem take_tw {p : UInt8 → Bool} (l : List UInt8) : l.take (l.takeWhile p).length = l.takeWhile p := take_takeWhile l
def headD (t : List UInt8) : Prop := t ≠ [] ∧ digB (t.getD 0 0) = true
def IsVer (s e u r : List UInt8) : Prop := s.length ≤ 64 ∧ ((∃ D t, D ≠ [] ∧ (∀ b, b ∈ D → digB b = true) ∧ s = D ++ 58 :: t ∧ e = trimD D ∧ headD t ∧ IsBody true t u r) ∨ (headD s ∧ e = [48] ∧ IsBody false s u r))
theorem parse_fwd {s e u r : List UInt8} {a : Int} (h : parseD s = ((e, u, r), (0, a))) : a = 0 ∧ IsVer s e u r := by
  have wr : ∀ k : Int, wrongAt s k ≠ (0, a) := by
    intro k hk
    unfold wrongAt at hk
    split at hk <;> simp at hk
  unfold parseD at h
  split at h
  · simp at h
  · rename_i hl
    split at h
    · simp only [Prod.mk.injEq] at h; exact absurd h.2 (wr _)
    · rename_i h0
      rw [runD_len] at h h0
      have hd := takeWhile_le digB s
      have hdig : ∀ b, b ∈ s.takeWhile digB → digB b = true := fun b hb => tw_ok hb
      split at h
      · rename_i hc
        obtain ⟨hc1, hc2⟩ := hc
        split at h
        · simp only [Prod.mk.injEq] at h; exact absurd h.2 (wr _)
        · rename_i hx
          have hx1 : ¬ ((s.takeWhile digB).length : Int) + 1 ≥ s.length := fun q => hx (.inl q)
          have hx2 : isC 1 ((s.getD (((s.takeWhile digB).length : Int) + 1).toNat 0).toNat : Int) = true := by
            cases hq : isC 1 ((s.getD (((s.takeWhile digB).length : Int) + 1).toNat 0).toNat : Int) with
            | true => rfl
            | false => exact absurd (.inr hq) hx
          obtain ⟨e1, e2, e3⟩ := body_fwd (by omega) (by omega) h
          have hn : (((s.takeWhile digB).length : Int) + 1).toNat = (s.takeWhile digB).length + 1 := by omega
          have hn2 : ((s.takeWhile digB).length : Int).toNat = (s.takeWhile digB).length := by omega
          rw [hn] at e3 hx2
          rw [hn2] at e2 hc2
          rw [take_tw] at e2
          have hs := split_at (s := s) (k := (s.takeWhile digB).length) (by omega)
          rw [take_tw, b58.1 hc2] at hs
          refine ⟨e1, by omega, .inl ⟨_, _, ?_, hdig, hs, e2, ?_, e3⟩⟩
          · intro q; rw [q] at h0; simp at h0
          · refine ⟨?_, ?_⟩
            · rw [Ne, List.drop_eq_nil_iff]; omega
            · rw [List.getD_eq_getElem?_getD, List.getElem?_drop, ← List.getD_eq_getElem?_getD]
              have : dig ((s.getD ((s.takeWhile digB).length + 1) 0).toNat : Int) = true := by simpa [isC] using hx2
              exact this
      · obtain ⟨e1, e2, e3⟩ := body_fwd (by omega) (by omega) h
        simp only [Int.toNat_zero, List.drop_zero] at e3
        refine ⟨e1, by omega, .inr ⟨?_, e2, e3⟩⟩
        cases s with
        | nil => simp at h0
        | cons b l =>
          refine ⟨by simp, ?_⟩
          have : (b :: l).takeWhile digB ≠ [] := by intro q; rw [q] at h0; simp at h0
          rw [List.takeWhile_cons] at this
          simp only [List.getD_cons_zero]
          cases hb : digB b with
          | true => rfl
          | false => rw [hb] at this; simp at this
theorem head_tw {t : List UInt8} (h : headD t) : (t.takeWhile digB) ≠ [] := by
  obtain ⟨h1, h2⟩ := h
  cases t with
  | nil => exact absurd rfl h1
  | cons b l =>
    rw [List.takeWhile_cons]
    simp only [List.getD_cons_zero] at h2
    rw [h2]; simp
theorem parse_bwd {s e u r : List UInt8} (h : IsVer s e u r) : parseD s = ((e, u, r), (0, 0)) := by
  obtain ⟨hl, h⟩ := h
  unfold parseD
  rw [if_neg (by omega), runD_len]
  rcases h with ⟨D, t, h1, h2, rfl, rfl, h3, h4⟩ | ⟨h3, rfl, h4⟩
  · rw [tw_app h2 dig58]
    have hD : 0 < D.length := by cases D with
      | nil => exact absurd rfl h1
      | cons _ _ => simp
    have ht : 0 < t.length := by cases t with
      | nil => exact absurd rfl h3.1
      | cons _ _ => simp
    rw [if_neg (by omega)]
    have hn : ((D.length : Int) + 1).toNat = D.length + 1 := by omega
    have hn2 : (D.length : Int).toNat = D.length := by omega
    have g1 : (D ++ 58 :: t).getD D.length 0 = 58 := by simp
    have g2 : (D ++ 58 :: t).getD (D.length + 1) 0 = t.getD 0 0 := by
      rw [List.getD_eq_getElem?_getD, List.getElem?_append_right (by omega), List.getD_eq_getElem?_getD]
      have : D.length + 1 - D.length = 1 := by omega
      rw [this]; simp
    have g3 : (D ++ 58 :: t).drop (D.length + 1) = t := by rw [← List.drop_drop]; simp
    have g4 : (D ++ 58 :: t).take D.length = D := by simp
    have hlen : (D ++ 58 :: t).length = D.length + 1 + t.length := by simp; omega
    have g5 : isC 1 ((t.getD 0 0).toNat : Int) = true := by
      have q : dig ((t.getD 0 0).toNat : Int) = true := h3.2
      simpa [isC] using q
    rw [hn, hn2, g1, g2, g4]
    rw [if_pos ⟨by rw [hlen]; omega, rfl⟩, if_neg (by
      rintro (q | q)
      · rw [hlen] at q; omega
      · rw [g5] at q; cases q)]
    have := body_bwd (s := D ++ 58 :: t) (ep := trimD D) (fr := D.length + 1) (co := true) (u := u) (r := r) (by rw [hlen]; omega) (by
      have g6 : (D ++ 58 :: t).take (D.length + 1) = D ++ [58] := by
        have q : (D ++ 58 :: t) = (D ++ [58]) ++ t := by simp
        rw [q]
        have : D.length + 1 = (D ++ [58]).length := by simp
        rw [this, List.take_left]
      rw [g6]
      intro hm
      rcases List.mem_append.1 hm with hm | hm
      · have := h2 _ hm; rw [dig45] at this; cases this
      · simp at hm) (by rw [g3]; exact h4)
    exact this
  · have hne := head_tw h3
    have h0 : ¬ ((s.takeWhile digB).length : Int) = 0 := by
      intro q
      apply hne
      apply List.eq_nil_of_length_eq_zero
      omega
    rw [if_neg h0]
    have hc : ¬ (((s.takeWhile digB).length : Int) < s.length ∧ ((s.getD ((s.takeWhile digB).length : Int).toNat 0).toNat : Int) = 58) := by
      rintro ⟨q1, q2⟩
      have hm : s.getD ((s.takeWhile digB).length : Int).toNat 0 ∈ s := getD_mem (by omega)
      have hok := h4.ok _ hm
      rw [q2] at hok
      have := (up_iff false true 58).1 hok
      rw [prt58] at this
      simp at this
    rw [if_neg hc]
    exact body_bwd (fr := 0) (by omega) (by simp) (by simpa using h4)

/-! ### What is read is fit, and a fit version's text is read as it -/
theorem fit_iff (e u r : List UInt8) : fitD e u r = true ↔ e ≠ [] ∧ (∀ b, b ∈ e → digB b = true) ∧ trimD e = e ∧ headD u ∧ (∀ b, b ∈ u → upB true (!r == []) (b.toNat : Int) = true) ∧ (∀ b, b ∈ r → prtB (b.toNat : Int) = true) ∧ (textD e u r).length ≤ 64 := by
  rw [← fitR_eq]
  unfold fitR adg headD
  rw [upR_eq, allD_zero, allD_zero, allD_zero]
  simp only [Bool.and_eq_true, Bool.not_eq_true', List.all_eq_true, decide_eq_true_eq, beq_eq_false_iff_ne, ne_eq, beq_iff_eq]
  have : ∀ b : UInt8, dig (b.toNat : Int) = digB b := fun b => rfl
  simp only [this]
  constructor
  · rintro ⟨⟨⟨⟨⟨⟨⟨h1, h2⟩, h3⟩, h4⟩, h5⟩, h6⟩, h7⟩, h8⟩
    exact ⟨h2, h1, h3, ⟨h4, h5⟩, h6, h7, h8⟩
  · rintro ⟨h2, h1, h3, ⟨h4, h5⟩, h6, h7, h8⟩
    exact ⟨⟨⟨⟨⟨⟨⟨h1, h2⟩, h3⟩, h4⟩, h5⟩, h6⟩, h7⟩, h8⟩
theorem dropB_idem (l : List UInt8) : dropB 48 (dropB 48 l) = dropB 48 l := by
  unfold dropB
  induction l with
  | nil => rfl
  | cons b l ih =>
    rw [List.dropWhile_cons]
    split
    · exact ih
    · rename_i h; rw [List.dropWhile_cons, if_neg h]
theorem trimD_idem (l : List UInt8) : trimD (trimD l) = trimD l := by
  by_cases h : dropB 48 l = []
  · have : trimD l = [48] := by unfold trimD; rw [if_pos h]
    rw [this]; rfl
  · have h1 : trimD l = dropB 48 l := by unfold trimD; rw [if_neg h]
    rw [h1]; unfold trimD; rw [dropB_idem, if_neg h]
theorem trimD_dig {l : List UInt8} (h : ∀ b, b ∈ l → digB b = true) : ∀ b, b ∈ trimD l → digB b = true := by
  intro b hb
  unfold trimD at hb
  split at hb
  · simp at hb; subst hb; decide
  · exact h b ((List.dropWhile_sublist _).mem hb)
theorem trimD_ne (l : List UInt8) : trimD l ≠ [] := by
  unfold trimD; split
  · simp
  · assumption
theorem trimD_len {l : List UInt8} (h : l ≠ []) : (trimD l).length ≤ l.length := by
  have := dropB_le 48 l
  unfold trimD
  split
  · cases l with
    | nil => exact absurd rfl h
    | cons _ _ => simp
  · exact this
theorem text_len {e u r t : List UInt8} (h : t = (if r = [] then u else u ++ 45 :: r)) : textD e u r = (if e ≠ [48] ∨ (58 : UInt8) ∈ u then e ++ 58 :: t else t) := by
  subst h
  unfold textD
  by_cases h1 : e ≠ [48] ∨ (58 : UInt8) ∈ u <;> by_cases h2 : r = [] <;> simp [h1, h2]
theorem parse_fit {s e u r : List UInt8} (h : IsVer s e u r) : fitD e u r = true := by
  obtain ⟨hl, h⟩ := h
  rw [fit_iff]
  -- of the body
  have body : ∀ co t, headD t → IsBody co t u r → headD u ∧ (∀ b, b ∈ u → upB true (!r == []) (b.toNat : Int) = true) ∧ (∀ b, b ∈ r → prtB (b.toNat : Int) = true) := by
    intro co t ht hb
    have h1 := hb.is
    have h2 := hb.dash
    by_cases hr : r = []
    · rw [if_pos hr] at h1 h2
      subst h1
      refine ⟨ht, fun b hm => ?_, by rw [hr]; simp⟩
      rcases (up_iff co true b.toNat).1 (hb.ok b hm) with q | ⟨q, _⟩ | ⟨q, _⟩
      · exact (up_iff _ _ _).2 (.inl q)
      · exact (up_iff _ _ _).2 (.inr (.inl ⟨q, rfl⟩))
      · exact absurd (b45.1 q ▸ hm) h2
    · rw [if_neg hr] at h1 h2
      have hu : u ≠ [] := by
        intro q
        subst q
        rw [h1] at ht
        have := ht.2
        simp only [List.nil_append, List.getD_cons_zero] at this
        rw [dig45] at this; cases this
      have e0 : t.getD 0 0 = u.getD 0 0 := by
        rw [h1]
        cases u with
        | nil => exact absurd rfl hu
        | cons _ _ => simp
      refine ⟨⟨hu, e0 ▸ ht.2⟩, fun b hm => ?_, fun b hm => ?_⟩
      · have hne : (!r == []) = true := by simpa using hr
        rw [hne]
        rcases (up_iff co true b.toNat).1 (hb.ok b (by rw [h1]; simp [hm])) with q | ⟨q, _⟩ | ⟨q, _⟩
        · exact (up_iff _ _ _).2 (.inl q)
        · exact (up_iff _ _ _).2 (.inr (.inl ⟨q, rfl⟩))
        · exact (up_iff _ _ _).2 (.inr (.inr ⟨q, rfl⟩))
      · rcases (up_iff co true b.toNat).1 (hb.ok b (by rw [h1]; simp [hm])) with q | ⟨q, _⟩ | ⟨q, _⟩
        · exact q
        · exact absurd (b58.1 q ▸ hm) hb.colon
        · exact absurd (b45.1 q ▸ hm) h2
  rcases h with ⟨D, t, h1, h2, rfl, rfl, h3, h4⟩ | ⟨h3, rfl, h4⟩
  · obtain ⟨g1, g2, g3⟩ := body _ _ h3 h4
    refine ⟨trimD_ne D, trimD_dig h2, trimD_idem D, g1, g2, g3, ?_⟩
    rw [text_len h4.is]
    have := trimD_len h1
    simp only [List.length_append, List.length_cons] at hl
    split <;> simp <;> omega
  · obtain ⟨g1, g2, g3⟩ := body _ _ h3 h4
    refine ⟨by simp, by intro b hb; simp at hb; subst hb; decide, rfl, g1, g2, g3, ?_⟩
    rw [text_len h4.is, if_neg]
    · exact hl
    · rintro (q | q)
      · exact q rfl
      · have hm : (58 : UInt8) ∈ s := by
          rw [h4.is]; split
          · exact q
          · simp [q]
        have := (up_iff false true 58).1 (h4.ok 58 hm)
        rw [prt58] at this; simp at this
theorem fit_ver {e u r : List UInt8} (h : fitD e u r = true) : IsVer (textD e u r) e u r := by
  obtain ⟨h1, h2, h3, h4, h5, h6, h7⟩ := (fit_iff e u r).1 h
  have hr45 : (45 : UInt8) ∉ r := fun q => by have := h6 _ q; rw [show ((45 : UInt8).toNat : Int) = 45 from rfl, prt45] at this; cases this
  have hr58 : (58 : UInt8) ∉ r := fun q => by have := h6 _ q; rw [show ((58 : UInt8).toNat : Int) = 58 from rfl, prt58] at this; cases this
  have hu45 : r = [] → (45 : UInt8) ∉ u := fun hr q => by
    have := h5 _ q
    rw [hr] at this
    revert this; decide
  refine ⟨h7, ?_⟩
  have ht := text_len (e := e) (u := u) (r := r) rfl
  rw [ht]
  generalize hT : (if r = [] then u else u ++ 45 :: r) = t at *
  have hmem : ∀ b, b ∈ t → b ∈ u ∨ b = 45 ∨ b ∈ r := by
    intro b hb
    rw [← hT] at hb
    split at hb
    · exact .inl hb
    · rcases List.mem_append.1 hb with q | q
      · exact .inl q
      · rcases List.mem_cons.1 q with q | q
        · exact .inr (.inl q)
        · exact .inr (.inr q)
  have hhead : headD t := by
    rw [← hT]
    split
    · exact h4
    · refine ⟨by simp, ?_⟩
      have := h4.2
      cases u with
      | nil => exact absurd rfl h4.1
      | cons b l => simpa using this
  have hbody : ∀ co, (co = true ∨ (58 : UInt8) ∉ u) → IsBody co t u r := by
    intro co hco
    refine ⟨fun b hb => ?_, hT.symm, ?_, hr58⟩
    · rcases hmem b hb with q | q | q
      · rcases (up_iff _ _ _).1 (h5 b q) with g | ⟨g, _⟩ | ⟨g, _⟩
        · exact (up_iff _ _ _).2 (.inl g)
        · refine (up_iff _ _ _).2 (.inr (.inl ⟨g, ?_⟩))
          rcases hco with hco | hco
          · exact hco
          · exact absurd (b58.1 g ▸ q) hco
        · exact (up_iff _ _ _).2 (.inr (.inr ⟨g, rfl⟩))
      · subst q; exact (up_iff _ _ _).2 (.inr (.inr ⟨rfl, rfl⟩))
      · exact (up_iff _ _ _).2 (.inl (h6 b q))
    · split
      · rename_i hr; exact hu45 hr
      · exact hr45
  by_cases hc : e ≠ [48] ∨ (58 : UInt8) ∈ u
  · rw [if_pos hc]
    exact .inl ⟨e, t, h1, h2, rfl, h3.symm, hhead, hbody true (.inl rfl)⟩
  · rw [if_neg hc]
    have hc1 : e = [48] := Classical.byContradiction fun q => hc (.inl q)
    have hc2 : (58 : UInt8) ∉ u := fun q => hc (.inr q)
    exact .inr ⟨hhead, hc1, hbody false (.inr hc2)⟩
theorem parse_text {e u r : List UInt8} (h : fitD e u r = true) : parseD (textD e u r) = ((e, u, r), (0, 0)) := parse_bwd (fit_ver h)
theorem okP_fit {s : List UInt8} (h : okP s = true) : fitD (parseD s).1.1 (parseD s).1.2.1 (parseD s).1.2.2 = true ∧ (parseD s).2 = (0, 0) := by
  have h0 : (parseD s).2.1 = 0 := by simpa [okP] using h
  obtain ⟨ha, hv⟩ := parse_fwd (s := s) (e := (parseD s).1.1) (u := (parseD s).1.2.1) (r := (parseD s).1.2.2) (a := (parseD s).2.2) (by
    rw [← h0])
  exact ⟨parse_fit hv, Prod.ext h0 ha⟩
end Go.Deb
namespace Go.Deb

open Go Go.Proofs Go.Ab

set_option linter.unusedVariables false

set_option linter.unusedSimpArgs false

/-! ### Compare is an order -/

theorem sub_cmp : IsCmp fun x y : Int => x - y := ⟨fun a b => by omega, fun a b c h1 h2 => by omega, fun a b c h => by omega⟩

def verP (s : List UInt8) : List UInt8 × List UInt8 × List UInt8 := if okP s = true then (parseD s).1 else ([], [], [])

def ordV (x y : List UInt8 × List UInt8 × List UInt8) : Int := if cmpD x.1 y.1 ≠ 0 then cmpD x.1 y.1 else if partD x.2.1 y.2.1 ≠ 0 then partD x.2.1 y.2.1 else partD x.2.2 y.2.2

def txtP (s : List UInt8) : List UInt8 := if okP s = true then [] else s

theorem ordV_cmp : IsCmp ordV := IsCmp.congr (IsCmp.lex (cmpD_cmp.on fun x => x.1) (IsCmp.lex (partD_cmp.on fun x => x.2.1) (partD_cmp.on fun x => x.2.2))) fun a b => rfl

theorem ordP_eq {a b : List UInt8} (ha : okP a = true) (hb : okP b = true) : ordP a b = ordV (parseD a).1 (parseD b).1 := by
  unfold ordP orderD ordV
  rw [(okP_fit ha).1, (okP_fit hb).1]
  simp

theorem compareD_cmp : IsCmp compareD := by
  refine IsCmp.congr (IsCmp.lex (sub_cmp.on fun s => truthZ (okP s)) (IsCmp.lex (ordV_cmp.on verP) (bytes_cmp.on txtP))) fun a b => ?_
  unfold compareD
  have n1 : ordV ([], [], []) ([], [], []) = 0 := ordV_cmp.self _
  have n2 : Lib.compareBytes [] [] = 0 := rfl
  cases ha : okP a <;> cases hb : okP b
  · simp [verP, txtP, ha, hb, n1]
  · simp [ha, hb, truthZ]
  · simp [ha, hb, truthZ]
  · rw [ordP_eq ha hb]
    have e1 : verP a = (parseD a).1 := by unfold verP; rw [if_pos ha]
    have e2 : verP b = (parseD b).1 := by unfold verP; rw [if_pos hb]
    have e3 : txtP a = [] := by unfold txtP; rw [if_pos ha]
    have e4 : txtP b = [] := by unfold txtP; rw [if_pos hb]
    rw [e1, e2, e3, e4, n2]
    simp

theorem signZ_range (n : Int) : -1 ≤ signZ n ∧ signZ n ≤ 1 := by unfold signZ; (repeat' split) <;> omega

theorem plainL_range : ∀ n a b, -1 ≤ plainL n a b ∧ plainL n a b ≤ 1
  | 0, _, _ => by simp [plainL]
  | n + 1, a, b => by
    have := signZ_range (hdW a - hdW b)
    have := plainL_range n a.tail b.tail
    unfold plainL
    split <;> omega

theorem cmpD_range (a b : List UInt8) : -1 ≤ cmpD a b ∧ cmpD a b ≤ 1 := by
  have := compareBytes_range (trimD a) (trimD b)
  unfold cmpD cmpI
  (repeat' split) <;> omega

theorem partL_range : ∀ n a b, -1 ≤ partL n a b ∧ partL n a b ≤ 1
  | 0, _, _ => by simp [partL]
  | n + 1, a, b => by
    have h1 := plainL_range (max (rowP a).length (rowP b).length) (rowP a) (rowP b)
    have h2 := cmpD_range (rowQ a) (rowQ b)
    have h3 := partL_range n (restR a) (restR b)
    unfold partL plainD
    (repeat' split) <;> omega

theorem partD_range (a b : List UInt8) : -1 ≤ partD a b ∧ partD a b ≤ 1 := by
  rw [partD_ge (n := a.length + b.length) (by omega) (by omega)]; exact partL_range _ _ _

theorem compareD_range (a b : List UInt8) : -1 ≤ compareD a b ∧ compareD a b ≤ 1 := by
  have h1 := compareBytes_range a b
  have h2 := cmpD_range (parseD a).1.1 (parseD b).1.1
  have h3 := partD_range (parseD a).1.2.1 (parseD b).1.2.1
  have h4 := partD_range (parseD a).1.2.2 (parseD b).1.2.2
  unfold compareD ordP orderD truthZ
  (repeat' split) <;> omega

/-! ### dovetaillaw04.order -/

theorem t14 (x y z : Int) : (evn tabV h14 noLoops 14 [.int .i64 x, .int .i64 y, .int .i64 z] []).run =
  bif decide (x ≤ (0 : Int)) then
   bif decide (y ≤ (0 : Int)) then
    bif decide (z > (0 : Int)) then
     some ((AV.bool false, []))
    else
     bif decide (x ≥ (0 : Int)) then
      bif decide (y ≥ (0 : Int)) then
       bif decide (z < (0 : Int)) then
        some ((AV.bool false, []))
       else
        bif x == (0 : Int) then
         some ((AV.bool !z != y, []))
        else
         some ((AV.bool true, []))
      else
       bif x == (0 : Int) then
        some ((AV.bool !z != y, []))
       else
        some ((AV.bool true, []))
     else
      bif x == (0 : Int) then
       some ((AV.bool !z != y, []))
      else
       some ((AV.bool true, []))
   else
    bif decide (x ≥ (0 : Int)) then
     bif decide (y ≥ (0 : Int)) then
      bif decide (z < (0 : Int)) then
       some ((AV.bool false, []))
      else
       bif x == (0 : Int) then
        some ((AV.bool !z != y, []))
       else
        some ((AV.bool true, []))
     else
      bif x == (0 : Int) then
       some ((AV.bool !z != y, []))
      else
       some ((AV.bool true, []))
    else
     bif x == (0 : Int) then
      some ((AV.bool !z != y, []))
     else
      some ((AV.bool true, []))
  else
   bif decide (x ≥ (0 : Int)) then
    bif decide (y ≥ (0 : Int)) then
     bif decide (z < (0 : Int)) then
      some ((AV.bool false, []))
     else
      bif x == (0 : Int) then
       some ((AV.bool !z != y, []))
      else
       some ((AV.bool true, []))
    else
     bif x == (0 : Int) then
      some ((AV.bool !z != y, []))
     else
      some ((AV.bool true, []))
   else
    bif x == (0 : Int) then
     some ((AV.bool !z != y, []))
    else
     some ((AV.bool true, [])) := by kernel_rfl

def ordB (x y z : Int) : Bool := !(decide (x ≤ 0) && decide (y ≤ 0) && decide (z > 0) || decide (x ≥ 0) && decide (y ≥ 0) && decide (z < 0) || x == 0 && !(z == y))

def c14 : List AV → T AV
  | [.int .i64 x, .int .i64 y, .int .i64 z] => .leaf (.bool (ordB x y z))
  | _ => .fail

theorem s14 : Sound1 Tryd.prog ⟨14, true, pcon c14⟩ := by
  refine sound_pure okV (hn := h14) (m := 20) (k := 9) (Λ := noLoops) (fun i hi => anyLoops) fun args r hF h => ?_
  unfold c14 at h
  split at h
  · rename_i x y z
    simp only [T.run_leaf, Option.some.injEq] at h; subst h
    refine (t14 x y z).trans ?_
    unfold ordB
    cases decide (x ≤ 0) <;> cases decide (y ≤ 0) <;> cases decide (z > 0) <;> cases decide (x ≥ 0) <;> cases decide (y ≥ 0) <;> cases decide (z < 0) <;> cases (x == 0) <;> rfl
  · cases h

def tabW : Tab := ⟨14, true, pcon c14⟩ :: tabV

theorem allW : ∀ e, e ∈ tabW → Sound1 Tryd.prog e := sound_mem_tab s14 allV

theorem okW : SoundTab Tryd.prog tabW := soundTab_of allW

theorem ordB_of {α : Type} {F : α → α → Int} (h : IsCmp F) (a b c : α) : ordB (F a b) (F b c) (F a c) = true := by
  have h1 := h.tr a b c
  have h2 := h.tr c b a
  have h3 := h.eqr a b c
  have a1 := h.anti a b
  have a2 := h.anti b c
  have a3 := h.anti a c
  unfold ordB
  simp only [Bool.not_eq_true', Bool.or_eq_false_iff, Bool.and_eq_false_iff, decide_eq_false_iff_not, Bool.not_eq_false', beq_iff_eq, beq_eq_false_iff_ne, ne_eq]
  refine ⟨⟨?_, ?_⟩, ?_⟩
  · by_cases q1 : F a b ≤ 0
    · by_cases q2 : F b c ≤ 0
      · right; have := h1 q1 q2; omega
      · left; right; exact q2
    · left; left; exact q1
  · by_cases q1 : F a b ≥ 0
    · by_cases q2 : F b c ≥ 0
      · right; have := h2 (by omega) (by omega); omega
      · left; right; exact q2
    · left; left; exact q1
  · by_cases q : F a b = 0
    · right; exact h3 q
    · left; exact q

theorem t4 (a b c : List UInt8) : (evn tabW h4 noLoops 4 [.str a, .str b, .str c] []).run =
  bif compareD b a != IntKind.i64.wrap ((0 : Int) - compareD a b) then
   some ((AV.bool false, []))
  else
   bif partD b a != IntKind.i64.wrap ((0 : Int) - partD a b) then
    some ((AV.bool false, []))
   else
    bif compareD a a != (0 : Int) then
     some ((AV.bool false, []))
    else
     bif partD c c != (0 : Int) then
      some ((AV.bool false, []))
     else
      bif ordB (compareD a b) (compareD b c) (compareD a c) then
       bif ordB (partD a b) (partD b c) (partD a c) then
        some ((AV.bool true, []))
       else
        some ((AV.bool false, []))
      else
       some ((AV.bool false, [])) := by kernel_rfl

theorem tree4 (a b c : List UInt8) : (evn tabW h4 noLoops 4 [.str a, .str b, .str c] []).run = some (.bool true, []) := by
  refine (t4 a b c).trans ?_
  have r1 := compareD_range a b
  have r2 := partD_range a b
  rw [w64 (n := 0 - compareD a b) (by omega) (by omega), w64 (n := 0 - partD a b) (by omega) (by omega)]
  rw [compareD_cmp.anti a b, partD_cmp.anti a b, compareD_cmp.self a, partD_cmp.self c, ordB_of compareD_cmp a b c, ordB_of partD_cmp a b c]
  simp

theorem t7 (s e u r : List UInt8) : (evn tabW h7 noLoops 7 [.str s, verAV e u r] []).run =
  bif (parseD s).snd.fst == (0 : Int) then
   bif decide ((parseD s).fst.fst.length + (parseD s).fst.snd.fst.length + (parseD s).fst.snd.snd.length + 2 ≤ 4611686018427387903) then
    bif !fitD (parseD s).fst.fst (parseD s).fst.snd.fst (parseD s).fst.snd.snd then
     some ((AV.bool false, []))
    else
     bif decide ((parseD s).fst.fst.length + (parseD s).fst.snd.fst.length + (parseD s).fst.snd.snd.length + 2 ≤ 4611686018427387903) then
      bif compareD (fmtD (parseD s).fst.fst (parseD s).fst.snd.fst (parseD s).fst.snd.snd) s != (0 : Int) then
       some ((AV.bool false, []))
      else
       bif decide (e.length + u.length + r.length + 2 ≤ 4611686018427387903) then
        bif !fitD e u r then
         bif decide (e.length + u.length + r.length + 2 ≤ 4611686018427387903) then
          bif fmtD e u r == [] then
           some ((AV.bool true, []))
          else
           some ((AV.bool false, []))
         else
          none
        else
         bif decide (e.length + u.length + r.length + 2 ≤ 4611686018427387903) then
          bif (parseD (fmtD e u r)).snd.fst == (0 : Int) && ((parseD (fmtD e u r)).snd.snd == (0 : Int) && true) then
           bif (parseD (fmtD e u r)).fst.fst == e && ((parseD (fmtD e u r)).fst.snd.fst == u && ((parseD (fmtD e u r)).fst.snd.snd == r && true)) then
            some ((AV.bool true, []))
           else
            some ((AV.bool false, []))
          else
           some ((AV.bool false, []))
         else
          none
       else
        none
     else
      none
   else
    none
  else
   bif decide (e.length + u.length + r.length + 2 ≤ 4611686018427387903) then
    bif !fitD e u r then
     bif decide (e.length + u.length + r.length + 2 ≤ 4611686018427387903) then
      bif fmtD e u r == [] then
       some ((AV.bool true, []))
      else
       some ((AV.bool false, []))
     else
      none
    else
     bif decide (e.length + u.length + r.length + 2 ≤ 4611686018427387903) then
      bif (parseD (fmtD e u r)).snd.fst == (0 : Int) && ((parseD (fmtD e u r)).snd.snd == (0 : Int) && true) then
       bif (parseD (fmtD e u r)).fst.fst == e && ((parseD (fmtD e u r)).fst.snd.fst == u && ((parseD (fmtD e u r)).fst.snd.snd == r && true)) then
        some ((AV.bool true, []))
       else
        some ((AV.bool false, []))
      else
       some ((AV.bool false, []))
     else
      none
   else
    none := by kernel_rfl

theorem tree7 (s e u r : List UInt8) (hl : e.length + u.length + r.length + 2 ≤ bnd) : (evn tabW h7 noLoops 7 [.str s, verAV e u r] []).run = some (.bool true, []) := by
  refine (t7 s e u r).trans ?_
  simp only [bnd] at hl
  have hp := parse_len s
  have hp' : (parseD s).fst.fst.length + (parseD s).fst.snd.fst.length + (parseD s).fst.snd.snd.length + 2 ≤ 4611686018427387903 := by omega
  have g : fitD e u r = true → parseD (fmtD e u r) = ((e, u, r), (0, 0)) := fun h => by unfold fmtD; rw [if_pos h]; exact parse_text h
  have g2 : fitD e u r = false → fmtD e u r = [] := fun h => by unfold fmtD; rw [h]; simp
  rw [show ((parseD s).snd.fst == 0) = okP s from rfl, decide_eq_true hl, decide_eq_true hp']
  simp only [cond_true]
  have second : (bif !fitD e u r then (bif fmtD e u r == [] then some ((AV.bool true, ([] : Hp))) else some ((AV.bool false, []))) else
      (bif (parseD (fmtD e u r)).snd.fst == 0 && ((parseD (fmtD e u r)).snd.snd == 0 && true) then
        (bif (parseD (fmtD e u r)).fst.fst == e && ((parseD (fmtD e u r)).fst.snd.fst == u && ((parseD (fmtD e u r)).fst.snd.snd == r && true)) then some ((AV.bool true, [])) else some ((AV.bool false, [])))
       else some ((AV.bool false, [])))) = some (.bool true, []) := by
    cases hf : fitD e u r
    · rw [g2 hf]; rfl
    · rw [g hf]; simp
  cases ho : okP s
  · simp only [cond_false]; exact second
  · obtain ⟨k1, k2⟩ := okP_fit ho
    have k3 : fmtD (parseD s).1.1 (parseD s).1.2.1 (parseD s).1.2.2 = textD (parseD s).1.1 (parseD s).1.2.1 (parseD s).1.2.2 := by unfold fmtD; rw [if_pos k1]
    have k4 := parse_text k1
    have k5 : compareD (fmtD (parseD s).1.1 (parseD s).1.2.1 (parseD s).1.2.2) s = 0 := by
      rw [k3]
      have k6 : okP (textD (parseD s).1.1 (parseD s).1.2.1 (parseD s).1.2.2) = true := by unfold okP; rw [k4]; rfl
      unfold compareD
      rw [if_pos ⟨k6, ho⟩, ordP_eq k6 ho, k4]
      exact ordV_cmp.self _
    rw [k1, k5]
    simp only [cond_true, Bool.not_true, cond_false, bne_self_eq_false]
    exact second

end Go.Deb

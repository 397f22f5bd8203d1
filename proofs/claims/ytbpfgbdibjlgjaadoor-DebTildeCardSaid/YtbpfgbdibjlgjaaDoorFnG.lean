/- Lemmas for the claims of this seat (a verified symbolic evaluator, and contracts of functions): own work; no condition. -/
import Derived.Test.YtbpfgbdibjlgjaaDoorFnF
namespace Go.Deb

open Go Go.Proofs Go.Ab

set_option linter.unusedVariables false

set_option linter.unusedSimpArgs false

/-! ### The tilde, and zeros ahead -/

theorem dig126 : digB 126 = false := by decide

theorem plain_tilde (d : List UInt8) : ∀ (c : List UInt8) (n : Nat), c.length < n → plainL n (c ++ 126 :: d) c = -1
  | [], n + 1, h => by
    rw [plain_step]
    have : signZ (hdW ([] ++ 126 :: d) - hdW []) = -1 := by
      have e : hdW ([] ++ 126 :: d) = -1 := by show wtB 126 = -1; decide
      rw [e]; decide
    rw [this]; rfl
  | b :: c, n + 1, h => by
    rw [plain_step]
    have : hdW ((b :: c) ++ 126 :: d) - hdW (b :: c) = 0 := by show wtB _ - wtB _ = 0; omega
    rw [this]
    rw [if_neg (by decide)]
    exact plain_tilde d c n (by simp at h; omega)
  | _, 0, h => by omega

theorem plainD_tilde (c d : List UInt8) : plainD (c ++ 126 :: d) c = -1 := by
  unfold plainD
  exact plain_tilde d c _ (by simp)

theorem rows_split (a : List UInt8) : a = rowP a ++ (rowQ a ++ restR a) := by
  have h1 : rowP a ++ (a.dropWhile fun b => !digB b) = a := List.takeWhile_append_dropWhile
  have h2 : rowQ a ++ (a.dropWhile fun b => !digB b).dropWhile digB = (a.dropWhile fun b => !digB b) := List.takeWhile_append_dropWhile
  have h3 : restR a = (a.dropWhile fun b => !digB b).dropWhile digB := by
    unfold restR
    rw [← List.drop_drop, show a.drop (rowP a).length = a.dropWhile (fun b => !digB b) from drop_takeWhile a]
    exact drop_takeWhile _
  rw [h3, h2, h1]

theorem rowP_nd (a : List UInt8) : ∀ b, b ∈ rowP a → digB b = false := fun b hb => by
  have := tw_ok (p := fun b => !digB b) hb
  simpa using this

theorem rowQ_d (a : List UInt8) : ∀ b, b ∈ rowQ a → digB b = true := fun b hb => tw_ok (p := digB) hb

/-- The rows of bytes laid one behind another. -/
theorem rows_of {p q r : List UInt8} (hp : ∀ b, b ∈ p → digB b = false) (hq : ∀ b, b ∈ q → digB b = true) (hr : r = [] ∨ digB (r.getD 0 0) = false) (hqr : q ≠ [] ∨ r = []) :
    rowP (p ++ (q ++ r)) = p ∧ rowQ (p ++ (q ++ r)) = q ∧ restR (p ++ (q ++ r)) = r := by
  have hp' : ∀ b, b ∈ p → (!digB b) = true := fun b hb => by rw [hp b hb]; rfl
  have h1 : rowP (p ++ (q ++ r)) = p := by
    unfold rowP
    rcases hqr with h | h
    · cases q with
      | nil => exact absurd rfl h
      | cons x q =>
        exact tw_app (p := fun b => !digB b) hp' (by simp [hq x (by simp)])
    · subst h
      cases q with
      | nil =>
        simp only [List.append_nil]
        have := List.takeWhile_append_of_pos (l₂ := []) hp'
        simpa using this
      | cons x q => 
        have := tw_app (p := fun b => !digB b) (l := q) (b := x) hp' (by simp [hq x (by simp)])
        simpa using this
  have h2 : (p ++ (q ++ r)).dropWhile (fun b => !digB b) = q ++ r := by
    have h := List.takeWhile_append_dropWhile (p := fun b => !digB b) (l := p ++ (q ++ r))
    have h1' : (p ++ (q ++ r)).takeWhile (fun b => !digB b) = p := h1
    rw [h1'] at h
    exact List.append_cancel_left h
  have h3 : rowQ (p ++ (q ++ r)) = q := by
    unfold rowQ
    rw [h2]
    rcases hr with h | h
    · subst h
      have := List.takeWhile_append_of_pos (l₂ := []) hq
      simpa using this
    · cases r with
      | nil =>
        have := List.takeWhile_append_of_pos (l₂ := []) hq
        simpa using this
      | cons x r => exact tw_app hq (by simpa using h)
  refine ⟨h1, h3, ?_⟩
  have := rows_split (p ++ (q ++ r))
  rw [h1, h3] at this
  exact (List.append_cancel_left (List.append_cancel_left this)).symm

theorem rest_head (a : List UInt8) : restR a = [] ∨ digB ((restR a).getD 0 0) = false := by
  have h1 : rowP a ++ (a.dropWhile fun b => !digB b) = a := List.takeWhile_append_dropWhile
  have h2 : rowQ a ++ (a.dropWhile fun b => !digB b).dropWhile digB = (a.dropWhile fun b => !digB b) := List.takeWhile_append_dropWhile
  have h3 : restR a = (a.dropWhile fun b => !digB b).dropWhile digB := by
    have := rows_split a
    have e : rowP a ++ (rowQ a ++ restR a) = rowP a ++ (rowQ a ++ (a.dropWhile fun b => !digB b).dropWhile digB) := by rw [← this, h2, h1]
    exact List.append_cancel_left (List.append_cancel_left e)
  rw [h3]
  generalize (a.dropWhile fun b => !digB b) = l
  induction l with
  | nil => exact .inl rfl
  | cons x l ih =>
    rw [List.dropWhile_cons]
    cases hx : digB x with
    | true => simpa using ih
    | false => right; simpa using hx

theorem rowQ_nil {a : List UInt8} (h : rowQ a = []) : restR a = [] := by
  rcases rest_head a with h1 | h1
  · exact h1
  · have h2 : rowP a ++ (a.dropWhile fun b => !digB b) = a := List.takeWhile_append_dropWhile
    have h3 := rows_split a
    rw [h, List.nil_append] at h3
    have h4 : restR a = a.dropWhile fun b => !digB b := by
      have e : rowP a ++ restR a = rowP a ++ a.dropWhile fun b => !digB b := by rw [← h3, h2]
      exact List.append_cancel_left e
    cases hr : a.dropWhile fun b => !digB b with
    | nil => rw [h4, hr]
    | cons x l =>
      exfalso
      have hx : digB x = true := by
        have := List.head_dropWhile_not (p := fun b => !digB b) (l := a) (by rw [hr]; simp)
        simp only [hr, List.head_cons] at this
        simpa using this
      rw [h4, hr] at h1
      simp only [List.getD_cons_zero] at h1
      rw [hx] at h1; cases h1

theorem part_tilde (b : List UInt8) : ∀ (n : Nat) (a : List UInt8), a.length < n → partL n (a ++ 126 :: b) a = -1
  | 0, a, h => by omega
  | n + 1, a, h => by
    have hs := rows_split a
    have hrl := restR_len a
    by_cases hq : rowQ a = []
    · -- no digits: the first row parts them
      have hr := rowQ_nil hq
      rw [hq, hr] at hs
      simp only [List.append_nil] at hs
      unfold partL
      have hp : rowP (a ++ 126 :: b) = a ++ 126 :: rowP b := by
        have hnd : ∀ x, x ∈ a → (!digB x) = true := fun x hx => by rw [hs] at hx; rw [rowP_nd a x hx]; rfl
        unfold rowP
        rw [List.takeWhile_append_of_pos hnd, List.takeWhile_cons, dig126]; rfl
      rw [hp, ← hs, plainD_tilde]; rfl
    · have key := rows_of (p := rowP a) (q := rowQ a) (r := restR a ++ 126 :: b) (rowP_nd a) (rowQ_d a) (by
        right
        rcases rest_head a with q | q
        · rw [q]; exact dig126
        · cases hr : restR a with
          | nil => exact dig126
          | cons x l => rw [hr] at q; simpa using q) (.inl hq)
      have e : a ++ 126 :: b = rowP a ++ (rowQ a ++ (restR a ++ 126 :: b)) := by
        conv => lhs; rw [hs]
        simp
      rw [← e] at key
      obtain ⟨k1, k2, k3⟩ := key
      unfold partL
      rw [k1, k2, k3, plainD_cmp.self, cmpD_self]
      simp only [ne_eq, not_true, if_false]
      have hne : a ≠ [] := by intro q; rw [q] at hq; exact hq rfl
      have : 0 < a.length := by cases a with
        | nil => exact absurd rfl hne
        | cons _ _ => simp
      exact part_tilde b n (restR a) (by omega)

theorem partD_tilde (a b : List UInt8) : partD (a ++ 126 :: b) a = -1 := by
  rw [partD_ge (n := (a ++ 126 :: b).length) (by omega) (by simp)]
  exact part_tilde b _ a (by simp)

/-- It ends in no digit. -/
def EndN (a : List UInt8) : Prop := a = [] ∨ ∃ m c, a = m ++ [c] ∧ digB c = false

theorem part_same (t u : List UInt8) (ht : digB (t.getD 0 0) = true) (hu : digB (u.getD 0 0) = true) (ht0 : t ≠ []) (hu0 : u ≠ []) (hq : cmpD (rowQ t) (rowQ u) = 0) (hr : restR t = restR u) :
    ∀ (n : Nat) (a : List UInt8), EndN a → partL n (a ++ t) (a ++ u) = 0
  | 0, a, h => rfl
  | n + 1, a, h => by
    have hs := rows_split a
    have hdig : ∀ x : List UInt8, x ≠ [] → digB (x.getD 0 0) = true → rowP x = [] := by
      intro x h0 h1
      cases x with
      | nil => exact absurd rfl h0
      | cons y x =>
        unfold rowP
        simp only [List.getD_cons_zero] at h1
        rw [List.takeWhile_cons, h1]; rfl
    by_cases hqa : rowQ a = []
    · have hra := rowQ_nil hqa
      rw [hqa, hra] at hs
      simp only [List.append_nil] at hs
      have row : ∀ x : List UInt8, x ≠ [] → digB (x.getD 0 0) = true → rowP (a ++ x) = a ∧ rowQ (a ++ x) = rowQ x ∧ restR (a ++ x) = restR x := by
        intro x h0 h1
        have hsx := rows_split x
        rw [hdig x h0 h1, List.nil_append] at hsx
        have hqx : rowQ x ≠ [] := by
          intro q
          have := rowQ_nil q
          rw [q, this] at hsx
          exact h0 hsx
        have := rows_of (p := a) (q := rowQ x) (r := restR x) (fun b hb => rowP_nd a b (hs ▸ hb)) (rowQ_d x) (rest_head x) (.inl hqx)
        rw [← hsx] at this
        exact this
      obtain ⟨t1, t2, t3⟩ := row t ht0 ht
      obtain ⟨u1, u2, u3⟩ := row u hu0 hu
      unfold partL
      rw [t1, u1, t2, u2, t3, u3, plainD_cmp.self, hq, hr]
      simp only [ne_eq, not_true, if_false]
      exact (partL_cmp n).self _
    · have hrn : restR a ≠ [] ∧ EndN (restR a) := by
        rcases h with h | ⟨m, c, h1, h2⟩
        · rw [h] at hqa; exact absurd rfl hqa
        · have hr1 : restR a ≠ [] := by
            intro q
            rw [q, List.append_nil] at hs
            have hm : c ∈ rowQ a := by
              have hl : (rowP a ++ rowQ a).getLast (by intro z; apply hqa; exact (List.append_eq_nil_iff.1 z).2) = (rowQ a).getLast hqa := List.getLast_append_of_ne_nil _ hqa
              have hl2 : a.getLast (by rw [h1]; simp) = c := by simp [h1]
              have : (rowQ a).getLast hqa = c := by
                rw [← hl, ← hl2]
                congr 1
                exact hs.symm
              rw [← this]; exact List.getLast_mem _
            have := rowQ_d a c hm
            rw [h2] at this; cases this
          refine ⟨hr1, .inr ⟨(restR a).dropLast, c, ?_, h2⟩⟩
          have hl : (restR a).getLast hr1 = c := by
            have hl2 : a.getLast (by rw [h1]; simp) = c := by simp [h1]
            have hl3 : (rowP a ++ (rowQ a ++ restR a)).getLast (by simp [hr1]) = (restR a).getLast hr1 := by
              rw [List.getLast_append_of_ne_nil _ (by simp [hr1]), List.getLast_append_of_ne_nil _ hr1]
            rw [← hl3, ← hl2]
            congr 1
            exact hs.symm
          rw [← hl, List.dropLast_concat_getLast]
      have row : ∀ x : List UInt8, rowP (a ++ x) = rowP a ∧ rowQ (a ++ x) = rowQ a ∧ restR (a ++ x) = restR a ++ x := by
        intro x
        have key := rows_of (p := rowP a) (q := rowQ a) (r := restR a ++ x) (rowP_nd a) (rowQ_d a) (by
          right
          rcases rest_head a with q | q
          · exact absurd q hrn.1
          · cases hr : restR a with
            | nil => exact absurd hr hrn.1
            | cons y l => rw [hr] at q; simpa using q) (.inl hqa)
        have e : a ++ x = rowP a ++ (rowQ a ++ (restR a ++ x)) := by
          conv => lhs; rw [hs]
          simp
        rw [← e] at key
        exact key
      obtain ⟨t1, t2, t3⟩ := row t
      obtain ⟨u1, u2, u3⟩ := row u
      unfold partL
      rw [t1, u1, t2, u2, t3, u3, plainD_cmp.self, cmpD_self]
      simp only [ne_eq, not_true, if_false]
      exact part_same t u ht hu ht0 hu0 hq hr n (restR a) hrn.2

theorem zeros_tail (k : Nat) (b : List UInt8) : rowP (List.replicate k 48 ++ 55 :: b) = [] ∧ rowQ (List.replicate k 48 ++ 55 :: b) = List.replicate k 48 ++ 55 :: b.takeWhile digB ∧ restR (List.replicate k 48 ++ 55 :: b) = b.dropWhile digB := by
  have hd : b.takeWhile digB ++ b.dropWhile digB = b := List.takeWhile_append_dropWhile
  have := rows_of (p := []) (q := List.replicate k 48 ++ 55 :: b.takeWhile digB) (r := b.dropWhile digB) (by simp) (by
    intro x hx
    rcases List.mem_append.1 hx with h | h
    · rw [(List.mem_replicate.1 h).2]; decide
    · rcases List.mem_cons.1 h with h | h
      · rw [h]; decide
      · exact tw_ok (p := digB) h) (by
    generalize b = l
    induction l with
    | nil => exact .inl rfl
    | cons x l ih =>
      rw [List.dropWhile_cons]
      cases hx : digB x with
      | true => simpa using ih
      | false => right; simpa using hx) (.inl (by simp))
  have e : ([] : List UInt8) ++ ((List.replicate k 48 ++ 55 :: b.takeWhile digB) ++ b.dropWhile digB) = List.replicate k 48 ++ 55 :: b := by
    simp [hd]
  rwa [e] at this

theorem trim_zeros (k : Nat) (q : List UInt8) : trimD (List.replicate k 48 ++ 55 :: q) = 55 :: q := by
  have h : dropB 48 (List.replicate k 48 ++ 55 :: q) = 55 :: q := by
    unfold dropB
    induction k with
    | zero => rw [List.replicate_zero, List.nil_append, List.dropWhile_cons]; rfl
    | succ k ih =>
      rw [List.replicate_succ, List.cons_append, List.dropWhile_cons]
      exact ih
  unfold trimD
  rw [h]; simp

theorem partD_zeros (a b : List UInt8) (k : Nat) (ha : EndN a) : partD (a ++ (List.replicate k 48 ++ 55 :: b)) (a ++ 55 :: b) = 0 := by
  obtain ⟨t1, t2, t3⟩ := zeros_tail k b
  obtain ⟨u1, u2, u3⟩ := zeros_tail 0 b
  simp only [List.replicate_zero, List.nil_append] at u1 u2 u3
  rw [partD_ge (n := (a ++ (List.replicate k 48 ++ 55 :: b)).length) (by omega) (by simp)]
  have d55 : digB 55 = true := by decide
  have d48 : digB 48 = true := by decide
  refine part_same (List.replicate k 48 ++ 55 :: b) (55 :: b) ?_ (by simpa using d55) (by simp) (by simp) ?_ (by rw [t3, u3]) _ a ha
  · cases k with
    | zero => simpa using d55
    | succ k => rw [List.replicate_succ]; simpa using d48
  · rw [t2, u2]
    unfold cmpD
    rw [trim_zeros, show trimD (55 :: b.takeWhile digB) = 55 :: b.takeWhile digB from trim_zeros 0 _]
    have h1 : cmpI ((55 :: b.takeWhile digB).length : Int) ((55 :: b.takeWhile digB).length : Int) = 0 := cmpI_cmp.self _
    have h2 : Lib.compareBytes (55 :: b.takeWhile digB) (55 :: b.takeWhile digB) = 0 := bytes_cmp.self _
    rw [h1, h2]; rfl

theorem t5 (a b : List UInt8) (n : Int) : (evn tabBB h5 noLoops 5 [.str a, .str b, .int .i64 n] []).run =
  bif decide (a.length + 1 ≤ 4611686018427387903) then
   bif decide ((a ++ [(126 : UInt8)]).length + b.length ≤ 4611686018427387903) then
    bif partD (a ++ [(126 : UInt8)] ++ b) a != (-1 : Int) then
     some ((AV.bool false, []))
    else
     bif decide ((↑a.length : Int) > (0 : Int)) then
      bif decide ((0 : Int) ≤ IntKind.i64.wrap ((↑a.length : Int) - (1 : Int)) ∧ IntKind.i64.wrap ((↑a.length : Int) - (1 : Int)) < (↑a.length : Int)) then
       bif decide ((↑(a.getD (IntKind.i64.wrap ((↑a.length : Int) - (1 : Int))).toNat (0 : UInt8)).toNat : Int) ≥ (48 : Int)) then
        bif decide ((0 : Int) ≤ IntKind.i64.wrap ((↑a.length : Int) - (1 : Int)) ∧ IntKind.i64.wrap ((↑a.length : Int) - (1 : Int)) < (↑a.length : Int)) then
         bif decide ((↑(a.getD (IntKind.i64.wrap ((↑a.length : Int) - (1 : Int))).toNat (0 : UInt8)).toNat : Int) ≤ (57 : Int)) then
          bif decide (a.length + 1 ≤ 4611686018427387903) then
           bif decide ((0 : Int) ≤ IntKind.i64.wrap ((IntKind.u64.wrap n).tmod (4 : Int)) ∧ IntKind.i64.wrap ((IntKind.u64.wrap n).tmod (4 : Int)) < (4 : Int)) then
            bif decide (0 + (IntKind.i64.wrap ((IntKind.u64.wrap n).tmod (4 : Int))).toNat < 4) then
             bif decide ((a ++ [(46 : UInt8)]).length + ([[], [(48 : UInt8)], [(48 : UInt8), (48 : UInt8)], [(48 : UInt8), (48 : UInt8), (48 : UInt8)]].getD ((0 + (IntKind.i64.wrap ((IntKind.u64.wrap n).tmod (4 : Int))).toNat) * 1 + 0) []).length ≤ 4611686018427387903) then
              bif decide ((a ++ [(46 : UInt8)] ++ [[], [(48 : UInt8)], [(48 : UInt8), (48 : UInt8)], [(48 : UInt8), (48 : UInt8), (48 : UInt8)]].getD ((0 + (IntKind.i64.wrap ((IntKind.u64.wrap n).tmod (4 : Int))).toNat) * 1 + 0) []).length + 1 ≤ 4611686018427387903) then
               bif decide ((a ++ [(46 : UInt8)] ++ [[], [(48 : UInt8)], [(48 : UInt8), (48 : UInt8)], [(48 : UInt8), (48 : UInt8), (48 : UInt8)]].getD ((0 + (IntKind.i64.wrap ((IntKind.u64.wrap n).tmod (4 : Int))).toNat) * 1 + 0) [] ++ [(55 : UInt8)]).length + b.length ≤ 4611686018427387903) then
                bif decide ((a ++ [(46 : UInt8)]).length + 1 ≤ 4611686018427387903) then
                 bif decide ((a ++ [(46 : UInt8)] ++ [(55 : UInt8)]).length + b.length ≤ 4611686018427387903) then
                  bif partD (a ++ [(46 : UInt8)] ++ [[], [(48 : UInt8)], [(48 : UInt8), (48 : UInt8)], [(48 : UInt8), (48 : UInt8), (48 : UInt8)]].getD ((0 + (IntKind.i64.wrap ((IntKind.u64.wrap n).tmod (4 : Int))).toNat) * 1 + 0) [] ++ [(55 : UInt8)] ++ b) (a ++ [(46 : UInt8)] ++ [(55 : UInt8)] ++ b) == (0 : Int) then
                   some ((AV.bool true, []))
                  else
                   some ((AV.bool false, []))
                 else
                  none
                else
                 none
               else
                none
              else
               none
             else
              none
            else
             none
           else
            none
          else
           none
         else
          bif decide ((0 : Int) ≤ IntKind.i64.wrap ((IntKind.u64.wrap n).tmod (4 : Int)) ∧ IntKind.i64.wrap ((IntKind.u64.wrap n).tmod (4 : Int)) < (4 : Int)) then
           bif decide (0 + (IntKind.i64.wrap ((IntKind.u64.wrap n).tmod (4 : Int))).toNat < 4) then
            bif decide (a.length + ([[], [(48 : UInt8)], [(48 : UInt8), (48 : UInt8)], [(48 : UInt8), (48 : UInt8), (48 : UInt8)]].getD ((0 + (IntKind.i64.wrap ((IntKind.u64.wrap n).tmod (4 : Int))).toNat) * 1 + 0) []).length ≤ 4611686018427387903) then
             bif decide ((a ++ [[], [(48 : UInt8)], [(48 : UInt8), (48 : UInt8)], [(48 : UInt8), (48 : UInt8), (48 : UInt8)]].getD ((0 + (IntKind.i64.wrap ((IntKind.u64.wrap n).tmod (4 : Int))).toNat) * 1 + 0) []).length + 1 ≤ 4611686018427387903) then
              bif decide ((a ++ [[], [(48 : UInt8)], [(48 : UInt8), (48 : UInt8)], [(48 : UInt8), (48 : UInt8), (48 : UInt8)]].getD ((0 + (IntKind.i64.wrap ((IntKind.u64.wrap n).tmod (4 : Int))).toNat) * 1 + 0) [] ++ [(55 : UInt8)]).length + b.length ≤ 4611686018427387903) then
               bif decide (a.length + 1 ≤ 4611686018427387903) then
                bif decide ((a ++ [(55 : UInt8)]).length + b.length ≤ 4611686018427387903) then
                 bif partD (a ++ [[], [(48 : UInt8)], [(48 : UInt8), (48 : UInt8)], [(48 : UInt8), (48 : UInt8), (48 : UInt8)]].getD ((0 + (IntKind.i64.wrap ((IntKind.u64.wrap n).tmod (4 : Int))).toNat) * 1 + 0) [] ++ [(55 : UInt8)] ++ b) (a ++ [(55 : UInt8)] ++ b) == (0 : Int) then
                  some ((AV.bool true, []))
                 else
                  some ((AV.bool false, []))
                else
                 none
               else
                none
              else
               none
             else
              none
            else
             none
           else
            none
          else
           none
        else
         none
       else
        bif decide ((0 : Int) ≤ IntKind.i64.wrap ((IntKind.u64.wrap n).tmod (4 : Int)) ∧ IntKind.i64.wrap ((IntKind.u64.wrap n).tmod (4 : Int)) < (4 : Int)) then
         bif decide (0 + (IntKind.i64.wrap ((IntKind.u64.wrap n).tmod (4 : Int))).toNat < 4) then
          bif decide (a.length + ([[], [(48 : UInt8)], [(48 : UInt8), (48 : UInt8)], [(48 : UInt8), (48 : UInt8), (48 : UInt8)]].getD ((0 + (IntKind.i64.wrap ((IntKind.u64.wrap n).tmod (4 : Int))).toNat) * 1 + 0) []).length ≤ 4611686018427387903) then
           bif decide ((a ++ [[], [(48 : UInt8)], [(48 : UInt8), (48 : UInt8)], [(48 : UInt8), (48 : UInt8), (48 : UInt8)]].getD ((0 + (IntKind.i64.wrap ((IntKind.u64.wrap n).tmod (4 : Int))).toNat) * 1 + 0) []).length + 1 ≤ 4611686018427387903) then
            bif decide ((a ++ [[], [(48 : UInt8)], [(48 : UInt8), (48 : UInt8)], [(48 : UInt8), (48 : UInt8), (48 : UInt8)]].getD ((0 + (IntKind.i64.wrap ((IntKind.u64.wrap n).tmod (4 : Int))).toNat) * 1 + 0) [] ++ [(55 : UInt8)]).length + b.length ≤ 4611686018427387903) then
             bif decide (a.length + 1 ≤ 4611686018427387903) then
              bif decide ((a ++ [(55 : UInt8)]).length + b.length ≤ 4611686018427387903) then
               bif partD (a ++ [[], [(48 : UInt8)], [(48 : UInt8), (48 : UInt8)], [(48 : UInt8), (48 : UInt8), (48 : UInt8)]].getD ((0 + (IntKind.i64.wrap ((IntKind.u64.wrap n).tmod (4 : Int))).toNat) * 1 + 0) [] ++ [(55 : UInt8)] ++ b) (a ++ [(55 : UInt8)] ++ b) == (0 : Int) then
                some ((AV.bool true, []))
               else
                some ((AV.bool false, []))
              else
               none
             else
              none
            else
             none
           else
            none
          else
           none
         else
          none
        else
         none
      else
       none
     else
      bif decide ((0 : Int) ≤ IntKind.i64.wrap ((IntKind.u64.wrap n).tmod (4 : Int)) ∧ IntKind.i64.wrap ((IntKind.u64.wrap n).tmod (4 : Int)) < (4 : Int)) then
       bif decide (0 + (IntKind.i64.wrap ((IntKind.u64.wrap n).tmod (4 : Int))).toNat < 4) then
        bif decide (a.length + ([[], [(48 : UInt8)], [(48 : UInt8), (48 : UInt8)], [(48 : UInt8), (48 : UInt8), (48 : UInt8)]].getD ((0 + (IntKind.i64.wrap ((IntKind.u64.wrap n).tmod (4 : Int))).toNat) * 1 + 0) []).length ≤ 4611686018427387903) then
         bif decide ((a ++ [[], [(48 : UInt8)], [(48 : UInt8), (48 : UInt8)], [(48 : UInt8), (48 : UInt8), (48 : UInt8)]].getD ((0 + (IntKind.i64.wrap ((IntKind.u64.wrap n).tmod (4 : Int))).toNat) * 1 + 0) []).length + 1 ≤ 4611686018427387903) then
          bif decide ((a ++ [[], [(48 : UInt8)], [(48 : UInt8), (48 : UInt8)], [(48 : UInt8), (48 : UInt8), (48 : UInt8)]].getD ((0 + (IntKind.i64.wrap ((IntKind.u64.wrap n).tmod (4 : Int))).toNat) * 1 + 0) [] ++ [(55 : UInt8)]).length + b.length ≤ 4611686018427387903) then
           bif decide (a.length + 1 ≤ 4611686018427387903) then
            bif decide ((a ++ [(55 : UInt8)]).length + b.length ≤ 4611686018427387903) then
             bif partD (a ++ [[], [(48 : UInt8)], [(48 : UInt8), (48 : UInt8)], [(48 : UInt8), (48 : UInt8), (48 : UInt8)]].getD ((0 + (IntKind.i64.wrap ((IntKind.u64.wrap n).tmod (4 : Int))).toNat) * 1 + 0) [] ++ [(55 : UInt8)] ++ b) (a ++ [(55 : UInt8)] ++ b) == (0 : Int) then
              some ((AV.bool true, []))
             else
              some ((AV.bool false, []))
            else
             none
           else
            none
          else
           none
         else
          none
        else
         none
       else
        none
      else
       none
   else
    none
  else
   none := by kernel_rfl

theorem tree5 (a b : List UInt8) (n : Int) (hl : a.length + b.length + 20 ≤ bnd) : (evn tabBB h5 noLoops 5 [.str a, .str b, .int .i64 n] []).run = some (.bool true, []) := by
  refine (t5 a b n).trans ?_
  simp only [bnd] at hl
  have hu : 0 ≤ IntKind.u64.wrap n := by
    have : IntKind.u64.wrap n = n % 18446744073709551616 := by simp [IntKind.wrap, IntKind.bits, IntKind.signed]
    rw [this]; omega
  have hk0 : 0 ≤ (IntKind.u64.wrap n).tmod 4 ∧ (IntKind.u64.wrap n).tmod 4 < 4 := by
    rw [Int.tmod_eq_emod_of_nonneg hu]; omega
  have hk : IntKind.i64.wrap ((IntKind.u64.wrap n).tmod 4) = (IntKind.u64.wrap n).tmod 4 := w64 (by omega) (by omega)
  rw [hk]
  generalize (IntKind.u64.wrap n).tmod 4 = K at hk0
  have gK : decide ((0 : Int) ≤ K ∧ K < 4) = true := by simp; omega
  have gK2 : decide (0 + K.toNat < 4) = true := by simp; omega
  have hz : [([] : List UInt8), [48], [48, 48], [48, 48, 48]].getD ((0 + K.toNat) * 1 + 0) [] = List.replicate K.toNat 48 := by
    have : K.toNat = 0 ∨ K.toNat = 1 ∨ K.toNat = 2 ∨ K.toNat = 3 := by omega
    rcases this with h | h | h | h <;> rw [h] <;> rfl
  have hzl : K.toNat ≤ 3 := by omega
  rw [gK, gK2, hz]
  have hw : ∀ _ : 0 < a.length, IntKind.i64.wrap ((a.length : Int) - 1) = (a.length : Int) - 1 := fun h => w64 (by omega) (by omega)
  have L : ∀ m : Nat, m ≤ a.length + b.length + 20 → decide (m ≤ 4611686018427387903) = true := fun m h => by simp; omega
  have e1 : a ++ [126] ++ b = a ++ 126 :: b := by simp
  rw [e1, partD_tilde]
  have z1 : ∀ x : List UInt8, x ++ List.replicate K.toNat 48 ++ [55] ++ b = x ++ (List.replicate K.toNat 48 ++ 55 :: b) := by intro x; simp
  have z2 : ∀ x : List UInt8, x ++ [55] ++ b = x ++ 55 :: b := by intro x; simp
  simp only [z1, z2]
  repeat rw [L _ (by simp; omega)]
  simp only [cond_true, bne_self_eq_false, cond_false]
  by_cases h0 : 0 < a.length
  · rw [hw h0]
    have g1 : decide ((a.length : Int) > 0) = true := by simp; omega
    have g2 : decide ((0 : Int) ≤ (a.length : Int) - 1 ∧ (a.length : Int) - 1 < (a.length : Int)) = true := by simp; omega
    rw [g1, g2]
    simp only [cond_true]
    have hlast : a = a.dropLast ++ [a.getD ((a.length : Int) - 1).toNat 0] := by
      have hne : a ≠ [] := by intro q; rw [q] at h0; simp at h0
      have : a.getD ((a.length : Int) - 1).toNat 0 = a.getLast hne := by
        rw [List.getLast_eq_getElem, List.getD_eq_getElem?_getD]
        have e : ((a.length : Int) - 1).toNat = a.length - 1 := by omega
        rw [e, List.getElem?_eq_getElem (by omega)]; rfl
      rw [this, List.dropLast_concat_getLast]
    by_cases c1 : ((a.getD ((a.length : Int) - 1).toNat 0).toNat : Int) ≥ 48
    · by_cases c2 : ((a.getD ((a.length : Int) - 1).toNat 0).toNat : Int) ≤ 57
      · rw [decide_eq_true c1, decide_eq_true c2]
        simp only [cond_true]
        rw [partD_zeros (a ++ [46]) b K.toNat (.inr ⟨a, 46, rfl, by decide⟩)]
        rfl
      · rw [decide_eq_true c1, decide_eq_false c2]
        simp only [cond_true, cond_false]
        rw [partD_zeros a b K.toNat (.inr ⟨_, _, hlast, by
          show dig _ = false
          unfold dig
          rw [decide_eq_false c2]; simp⟩)]
        rfl
    · rw [decide_eq_false c1]
      simp only [cond_false]
      rw [partD_zeros a b K.toNat (.inr ⟨_, _, hlast, by
        show dig _ = false
        unfold dig
        rw [decide_eq_false c1]; simp⟩)]
      rfl
  · have g1 : decide ((a.length : Int) > 0) = false := decide_eq_false (by omega)
    rw [g1]
    simp only [cond_false]
    have ha0 : a.length = 0 := Nat.eq_zero_of_not_pos h0
    have ha : a = [] := List.eq_nil_of_length_eq_zero ha0
    rw [partD_zeros a b K.toNat (.inl ha)]
    rfl

end Go.Deb

/- Lemmas for the claims of this seat (a verified symbolic evaluator, and contracts of functions): own work; no condition. -/
import Derived.Test.YtepbfkhalkfhcaaDoorEvC
import Derived.ChangeSame
import Derived.WideKeyArgs
import Derived.ChangeMaps5
import Derived.Deep.DeepHandedRow
namespace Go.Ab
open Go
set_option linter.unusedVariables false
set_option linter.unusedSimpArgs false

/-- A state, by what it holds. -/
structure StT where
  n : Nat
  sp : Sp
  ms : List Nat
  hp : Hp
def StT.abs (s : StT) : St := { tm := tmOf s.n s.sp, ms := s.ms, hp := s.hp }
def StT.ok (s : StT) : Prop := Keys s.n s.sp
def spOf (i : Nat) : Tm → Sp
  | [] => []
  | .junk :: r => spOf (i + 1) r
  | v :: r => (i, v) :: spOf (i + 1) r
def toS (s : St) : StT := { n := s.tm.length, sp := spOf 0 s.tm, ms := s.ms, hp := s.hp }
theorem spOf_ge : ∀ (tm : Tm) (i : Nat) (p : Nat × AV), p ∈ spOf i tm → i ≤ p.1 ∧ p.1 < i + tm.length
  | [], i, p, h => by simp [spOf] at h
  | v :: r, i, p, h => by
    have key : ∀ p, p ∈ spOf (i + 1) r → i ≤ p.1 ∧ p.1 < i + (v :: r).length := fun p hp => by
      have := spOf_ge r (i + 1) p hp
      simp only [List.length_cons]; omega
    cases v with
    | junk => exact key p h
    | _ =>
      simp only [spOf] at h
      rcases List.mem_cons.1 h with rfl | h
      · exact ⟨Nat.le_refl _, by simp⟩
      · exact key p h
theorem lookT_cons_ne {i j : Nat} {v : AV} {sp : Sp} (h : i ≠ j) : lookT i ((j, v) :: sp) = lookT i sp := by
  have : Nat.beq i j = false := by
    cases hb : Nat.beq i j with
    | false => rfl
    | true => exact absurd (Nat.eq_of_beq_eq_true hb) h
  simp only [lookT, this]
theorem lookT_cons_eq {i : Nat} {v : AV} {sp : Sp} : lookT i ((i, v) :: sp) = v := by simp only [lookT, beq_self']
theorem spOf_look : ∀ (tm : Tm) (i t : Nat), lookT (i + t) (spOf i tm) = tm.getD t .junk
  | [], i, t => by simp [spOf, lookT]
  | v :: r, i, t => by
    have hnone : lookT i (spOf (i + 1) r) = .junk := lookT_none fun p hp e => by have := (spOf_ge r (i + 1) p hp).1; omega
    cases t with
    | zero =>
      cases v with
      | junk => simp only [spOf, Nat.add_zero, hnone]; rfl
      | _ => simp only [spOf, Nat.add_zero, lookT_cons_eq]; rfl
    | succ t =>
      have ih := spOf_look r (i + 1) t
      have e : i + (t + 1) = i + 1 + t := by omega
      cases v with
      | junk => simp only [spOf, e, ih]; rfl
      | _ => simp only [spOf]; rw [lookT_cons_ne (by omega), e, ih]; rfl
theorem abs_toS (s : St) : (toS s).abs = s ∧ (toS s).ok := by
  refine ⟨?_, fun p hp => by have := (spOf_ge s.tm 0 p hp).2; simpa [toS] using this⟩
  obtain ⟨tm, ms, hp⟩ := s
  simp only [toS, StT.abs, St.mk.injEq, and_true]
  refine List.ext_getElem? fun j => ?_
  unfold tmOf
  rw [List.getElem?_map]
  by_cases h : j < tm.length
  · rw [List.getElem?_range h, List.getElem?_eq_getElem h]
    have := spOf_look tm 0 j
    rw [Nat.zero_add] at this
    simp only [Option.map_some, this, List.getD_eq_getElem?_getD, List.getElem?_eq_getElem h, Option.getD_some]
  · rw [List.getElem?_eq_none (by simpa using h), List.getElem?_eq_none (by simpa using h)]
    rfl

/-- The static part, with masks by mbits. -/
structure HintsT where
  n : Nat
  keep : List (Nat × Nat)
  live : List (Nat × Nat)
def mbits (n len : Nat) : List Bool := (List.range len).map n.testBit
def HintsT.to (h : HintsT) : Hints := { keep := h.keep.map fun p => (p.1, mbits p.2 h.n), live := h.live.map fun p => (p.1, mbits p.2 h.n) }
def lookN (k : Nat) : List (Nat × Nat) → Option Nat
  | [] => none
  | (j, l) :: r => match Nat.beq j k with
    | true => some l
    | false => lookN k r
theorem lookN_live (k n : Nat) : ∀ (l : List (Nat × Nat)), lookLive k (l.map fun p => (p.1, mbits p.2 n)) = match lookN k l with
    | some N => mbits N n
    | none => []
  | [] => rfl
  | (j, N) :: r => by
    simp only [List.map_cons, lookLive, lookN]
    by_cases h : j = k
    · subst h; rw [if_pos rfl, beq_self']
    · have : Nat.beq j k = false := by
        cases hb : Nat.beq j k with
        | false => rfl
        | true => exact absurd (Nat.eq_of_beq_eq_true hb) h
      rw [if_neg h, this]; exact lookN_live k n r
def isJunk : AV → Bool
  | .junk => true
  | _ => false
def maskS (N : Nat) : Nat → Sp → Sp
  | _, [] => []
  | seen, (i, v) :: r => match N.testBit i && !(seen.testBit i) && !(isJunk v) with
    | true => (i, v) :: maskS N (seen ||| 2 ^ i) r
    | false => maskS N (seen ||| 2 ^ i) r
theorem maskS_sub (N : Nat) : ∀ (sp : Sp) (seen : Nat) (p : Nat × AV), p ∈ maskS N seen sp → p ∈ sp
  | [], seen, p, h => by simp [maskS] at h
  | (i, v) :: r, seen, p, h => by
    simp only [maskS] at h
    split at h
    · rcases List.mem_cons.1 h with rfl | h
      · simp
      · exact List.mem_cons_of_mem _ (maskS_sub N r _ p h)
    · exact List.mem_cons_of_mem _ (maskS_sub N r _ p h)
theorem maskS_look (N : Nat) (t : Nat) : ∀ (sp : Sp) (seen : Nat), lookT t (maskS N seen sp) = if (N.testBit t && !(seen.testBit t)) = true then lookT t sp else .junk
  | [], seen => by simp [maskS, lookT]
  | (i, v) :: r, seen => by
    have ih := maskS_look N t r (seen ||| 2 ^ i)
    by_cases h : t = i
    · subst h
      have hseen : (seen ||| 2 ^ t).testBit t = true := by simp [Nat.testBit_or, Nat.testBit_two_pow]
      rw [hseen] at ih
      simp only [Bool.not_true, Bool.and_false, Bool.false_eq_true, if_false] at ih
      simp only [maskS]
      split
      · rename_i hc
        simp only [Bool.and_eq_true] at hc
        rw [lookT_cons_eq, lookT_cons_eq, if_pos (by simp [hc.1.1, hc.1.2])]
      · rename_i hc
        rw [ih, lookT_cons_eq]
        split
        · rename_i h1
          cases v <;> first | rfl | (simp [isJunk] at hc; simp at h1; simp [h1] at hc)
        · rfl
    · have hb : (seen ||| 2 ^ i).testBit t = seen.testBit t := by
        rw [Nat.testBit_or, Nat.testBit_two_pow]
        have hd : decide (i = t) = false := by simpa using fun e : i = t => h e.symm
        rw [hd, Bool.or_false]
      rw [hb] at ih
      simp only [maskS]
      split
      · rw [lookT_cons_ne h, lookT_cons_ne h, ih]
      · rw [lookT_cons_ne h, ih]
theorem maskS_eq {n N : Nat} {sp : Sp} (hk : Keys n sp) : tmOf n (maskS N 0 sp) = mask (mbits N n) (tmOf n sp) ∧ Keys n (maskS N 0 sp) := by
  refine ⟨?_, fun p hp => hk p (maskS_sub N sp 0 p hp)⟩
  have hm : ∀ (l : List Nat) (f : Nat → AV), mask (l.map N.testBit) (l.map f) = l.map fun i => if N.testBit i = true then f i else .junk := by
    intro l f
    induction l with
    | nil => rfl
    | cons a l ih => simp only [List.map_cons, mask, ih]
  unfold tmOf mbits
  rw [hm]
  refine List.map_congr_left fun i hi => ?_
  rw [maskS_look]
  simp

def iterT : Nat → (StT → T (AX × StT)) → StT → T (AX × StT)
  | 0, _, _ => .fail
  | n + 1, f, s => (f s).bind fun r => match r with
    | (.normal, s') => iterT n f s'
    | (.exit i, s') => .leaf (.exit i, s')
    | (.goto i, s') => .leaf (.goto i, s')
    | (.ret, s') => .leaf (.ret, s')

/-- The same list, its spine laid bare first. -/
def bare {α β : Type} : List α → (List α → β) → β
  | [], k => k []
  | v :: vs, k => bare vs fun vs' => k (v :: vs')
theorem bare_eq {α β : Type} : ∀ (l : List α) (k : List α → β), bare l k = k l
  | [], k => rfl
  | v :: vs, k => by simp only [bare]; exact bare_eq vs _
/-- How large a piece of code is. -/
def codeSz : Code → Nat
  | .seq a b => codeSz a + codeSz b + 1
  | .cond _ a b => codeSz a + codeSz b + 1
  | .block _ b => codeSz b + 1
  | .scope b => codeSz b + 1
  | .loop b => codeSz b + 1
  | .rangeFunc _ _ a b => codeSz a + codeSz b + 1
  | .region _ ops _ => ops.size + 1
  | _ => 1
/-- A loop's number. -/
def lkey (c : Code) : Nat := firstReg c * 100000 + codeSz c
/-- The number of a range over a function, by its body. -/
def rkey (c : Code) : Nat := firstReg c * 100000 + codeSz c + 50000

abbrev LoopT := Nat → Option (St → T (AX × St))
def resS (r : AX × St) : AX × StT := (r.1, toS r.2)
def headT (base : Nat) (hn : HintsT) (c : Code) (s : StT) : St :=
  match lookN (firstReg c) hn.live with
  | some N => match Nat.beq hn.n s.n with
    | true => headSt base [] { tm := tmOf hn.n (maskS N 0 s.sp), ms := s.ms, hp := s.hp }
    | false => headSt base (lookLive (firstReg c) hn.to.live) s.abs
  | none => headSt base (lookLive (firstReg c) hn.to.live) s.abs
theorem mask_nil (tm : Tm) : mask [] tm = tm := by
  cases tm <;> rfl
theorem headT_eq {base : Nat} {hn : HintsT} {c : Code} {s : StT} (hs : s.ok) : headT base hn c s = headSt base (lookLive (firstReg c) hn.to.live) s.abs := by
  unfold headT
  split
  · rename_i N hN
    split
    · rename_i hb
      have e := Nat.eq_of_beq_eq_true hb
      have hl : lookLive (firstReg c) hn.to.live = mbits N hn.n := by
        have := lookN_live (firstReg c) hn.n hn.live
        rw [hN] at this
        exact this
      have hm := (maskS_eq (N := N) hs).1
      rw [hl]
      unfold headSt StT.abs
      simp only [e]
      rw [hm, mask_nil]
    · rfl
  · rfl

section
variable (P : Program) (pf : FuncId → Bool) (H : HdT) (hn : HintsT) (hid base : Nat) (rd : Option Nat) (m : Nat) (Λ : LoopT)
def evRangeT (f : Operand) (ps : Array Tmp) (as bo : Code) (s : StT) : T (AX × StT) :=
  match evS s.sp f with
  | .fn g cap => match enterable P g with
    | true => (match rd with
    | none => (H (.fn g) (.yield (s.hp.length + 1) :: cap) (s.hp ++ [some .dfr] ++ [some (.loop hid .ready none s.abs.tm ps as bo s.hp.length)])).bind fun r =>
      (T.opt (rangeEnd (s.hp.length + 1) (s.hp.length :: s.ms) s.abs.tm r.2)).map resS
    | some l => match s.hp[l]? with
      | some (some (.loop _ _ _ _ _ _ _ d)) => (H (.fn g) (.yield s.hp.length :: cap) (s.hp ++ [some (.loop hid .ready none s.abs.tm ps as bo d)])).bind fun r =>
        (T.opt (rangeEnd s.hp.length s.ms s.abs.tm r.2)).map resS
      | _ => .fail)
    | false => .fail
  | _ => .fail
def regT (id : Nat) (ops : Array Oper) (draw : Bool) (n : Nat) (ms : List Nat) (r : Sp × Hp) : T (AX × StT) :=
  match r with
  | (sp0, hp0) => match (!draw || drawE P pf ops (evS sp0)) with
  | true => match lookN id hn.keep with
    | some N => match Nat.beq hn.n n with
      | false => .fail
      | true => bare (maskS N 0 sp0) fun sp => bare hp0 fun hp => .leaf (.normal, { n := hn.n, sp := sp, ms := ms, hp := hp })
    | none => bare hp0 fun hp => .leaf (.normal, { n := n, sp := sp0, ms := ms, hp := hp })
  | false => .fail
def evCodeT : Code → StT → T (AX × StT)
  | .skip, s => .leaf (.normal, s)
  | .label _, s => .leaf (.normal, s)
  | .region id ops draw, ⟨n, sp, ms, hp⟩ => (evOpsT P n H ops ops.toList sp hp).bind fun r => regT P pf hn id ops draw n ms r
  | .seq a b, s => (evCodeT a s).bind fun r => match r with
    | (.normal, s') => evCodeT b s'
    | (.exit i, s') => .leaf (.exit i, s')
    | (.goto i, s') => .leaf (.goto i, s')
    | (.ret, s') => .leaf (.ret, s')
  | .cond c a b, ⟨n, sp, ms, hp⟩ => match evS sp c with
    | .bool q => .br q (evCodeT a ⟨n, setS n sp c true, ms, hp⟩) (evCodeT b ⟨n, setS n sp c false, ms, hp⟩)
    | _ => .fail
  | .block id c, s => (evCodeT c s).bind fun r => match r with
    | (.exit i, s') => match Nat.beq i id with
      | true => .leaf (.normal, s')
      | false => .leaf (.exit i, s')
    | (.normal, s') => .leaf (.normal, s')
    | (.goto i, s') => .leaf (.goto i, s')
    | (.ret, s') => .leaf (.ret, s')
  | .loop c, s => match Λ (lkey c) with
    | some l => (l (headT base hn c s)).map resS
    | none => iterT m (fun s => evCodeT c (toS (headT base hn c s))) s
  | .rangeFunc f ps as bo, s => match Λ (rkey bo) with
    | some l => (l s.abs).map resS
    | none => evRangeT P H hid rd f ps as bo s
  | .exit id, s => .leaf (.exit id, s)
  | .goto l, s => .leaf (.goto l, s)
  | .ret, s => .leaf (.ret, s)
  | .scope c, s => (evCodeT c s).bind fun r => match r with
    | (.normal, s') => .leaf (.normal, s')
    | (.exit i, s') => .leaf (.exit i, s')
    | (.goto i, s') => .fail
    | (.ret, s') => .leaf (.ret, s')
  | .refuse _, _ => .fail
end

/-- Of every loop within, and every range over a function. -/
def Within (Φ : Code → Prop) : Code → Prop
  | .seq a b => Within Φ a ∧ Within Φ b
  | .cond _ a b => Within Φ a ∧ Within Φ b
  | .block _ c => Within Φ c
  | .scope c => Within Φ c
  | .loop c => Φ (.loop c) ∧ Within Φ c
  | .rangeFunc f ps as bo => Φ (.rangeFunc f ps as bo)
  | _ => True

/-- A loop's contract is kept: from some fuel on. -/
def LoopOk (P : Program) (pf : FuncId → Bool) (H : Nat → Hd) (hn : Hints) (hid base : Nat) (rd : Option Nat) (Λ : LoopT) : Code → Prop
  | .loop c => ∀ l, Λ (lkey c) = some l → ∀ s r, (l (headSt base (lookLive (firstReg c) hn.live) s)).run = some r →
    ∃ n0, ∀ n, n0 ≤ n → ∀ j, n0 ≤ j → iter j (fun s => evCode P pf (H n) hn hid base rd n c (headSt base (lookLive (firstReg c) hn.live) s)) s = some r
  | .rangeFunc f ps as bo => ∀ l, Λ (rkey bo) = some l → ∀ s r, (l s).run = some r → ∃ n0, ∀ n, n0 ≤ n → evRange P (H n) hid rd f ps as bo s = some r
  | _ => True

section
variable {P : Program} {pf : FuncId → Bool} {HT : HdT} {H : Nat → Hd} {hn : HintsT} {hid base : Nat} {rd : Option Nat} {m : Nat} {Λ : LoopT}
theorem bind_some_inv {α β : Type} {t : T α} {k : α → T β} {r : β} (h : (t.bind k).run = some r) : ∃ a, t.run = some a ∧ (k a).run = some r := by
  rw [T.run_bind] at h
  cases ht : t.run with
  | none => rw [ht] at h; cases h
  | some a => rw [ht] at h; exact ⟨a, rfl, h⟩
theorem map_some_inv {α β : Type} {t : T α} {k : α → β} {r : β} (h : (t.map k).run = some r) : ∃ a, t.run = some a ∧ k a = r := by
  obtain ⟨a, h1, h2⟩ := bind_some_inv h
  exact ⟨a, h1, by simpa using h2⟩

/-- What a tree's piece says of the evaluation. -/
def Says (F : Nat → Option (AX × St)) (r : AX × StT) : Prop := r.2.ok ∧ ∃ n0, ∀ n, n0 ≤ n → F n = some (r.1, r.2.abs)

theorem iterT_le {F : Nat → St → Option (AX × St)} {f : StT → T (AX × StT)} (hf : ∀ s r, s.ok → (f s).run = some r → Says (fun n => F n s.abs) r) : ∀ (m : Nat) (s : StT) (r : AX × StT), s.ok → (iterT m f s).run = some r →
    r.2.ok ∧ ∃ n0, ∀ n, n0 ≤ n → ∀ j, n0 ≤ j → iter j (F n) s.abs = some (r.1, r.2.abs)
  | 0, s, r, hs, h => by cases h
  | m + 1, s, r, hs, h => by
    obtain ⟨a, h1, h2⟩ := bind_some_inv h
    obtain ⟨ha, n1, h1⟩ := hf s a hs h1
    obtain ⟨x, s'⟩ := a
    cases x with
    | normal =>
      obtain ⟨hr, n2, h2⟩ := iterT_le hf m s' r ha h2
      refine ⟨hr, max n1 n2 + 1, fun n hn j hj => ?_⟩
      obtain ⟨j, rfl⟩ : ∃ i, j = i + 1 := ⟨j - 1, by omega⟩
      simp only [iter, h1 n (by omega)]
      exact h2 n (by omega) j (by omega)
    | _ =>
      simp only [T.run_leaf, Option.some.injEq] at h2
      subst h2
      refine ⟨ha, n1 + 1, fun n hn j hj => ?_⟩
      obtain ⟨j, rfl⟩ : ∃ i, j = i + 1 := ⟨j - 1, by omega⟩
      simp only [iter, h1 n (by omega)]

theorem evRangeT_le (hH : LeH HT H) {f : Operand} {ps : Array Tmp} {as bo : Code} {s : StT} (hs : s.ok) {r : AX × StT} (h : (evRangeT P HT hid rd f ps as bo s).run = some r) : Says (fun n => evRange P (H n) hid rd f ps as bo s.abs) r := by
  unfold evRangeT at h
  unfold Says evRange
  rw [← tmOf_eval hs] at h
  have fin : ∀ (r' : AX × St), resS r' = r → r.2.ok ∧ (r.1, r.2.abs) = r' := by
    rintro r' rfl
    exact ⟨(abs_toS r'.2).2, by simp only [resS, (abs_toS r'.2).1]⟩
  split at h
  · rename_i g cap hf
    have hf' : aeval s.abs.tm f = .fn g cap := hf
    rw [hf']
    simp only
    split at h
    · rename_i he
      simp only [if_pos he]
      split at h
      · obtain ⟨a, h1, h2⟩ := bind_some_inv h
        obtain ⟨n0, h1⟩ := hH _ _ _ _ h1
        obtain ⟨r', h3, h4⟩ := map_some_inv h2
        obtain ⟨h5, h6⟩ := fin r' h4
        refine ⟨h5, n0, fun n hn => ?_⟩
        have h1' := h1 n hn
        simp only [StT.abs] at h1' ⊢
        simp only [h1']
        rw [← StT.abs, h6]
        simpa [StT.abs] using h3
      · rename_i l
        simp only
        split at h
        · rename_i ho
          obtain ⟨a, h1, h2⟩ := bind_some_inv h
          obtain ⟨n0, h1⟩ := hH _ _ _ _ h1
          obtain ⟨r', h3, h4⟩ := map_some_inv h2
          obtain ⟨h5, h6⟩ := fin r' h4
          refine ⟨h5, n0, fun n hn => ?_⟩
          have h1' := h1 n hn
          simp only [StT.abs] at h1' ⊢
          rw [ho]
          simp only [h1']
          rw [← StT.abs, h6]
          simpa [StT.abs] using h3
        · cases h
    · cases h
  · cases h

theorem range_get (ops : Array Oper) : (List.range ops.size).map (fun i => ops[i]?) = ops.toList.map some := by
  apply List.ext_getElem?
  intro i
  simp only [List.getElem?_map, List.getElem?_range]
  by_cases hi : i < ops.size
  · rw [List.getElem?_range hi, List.getElem?_eq_getElem (by simpa using hi)]
    simp [hi]
  · rw [List.getElem?_eq_none (by simpa using hi), List.getElem?_eq_none (by simpa using hi)]
    rfl

/-- THE TREE SAYS WHAT THE EVALUATION SAYS. -/
theorem evCodeT_le (hH : LeH HT H) : ∀ (c : Code), Within (LoopOk P pf H hn.to hid base rd Λ) c → ∀ (s : StT) (r : AX × StT), s.ok → (evCodeT P pf HT hn hid base rd m Λ c s).run = some r → Says (fun n => evCode P pf (H n) hn.to hid base rd n c s.abs) r
  | .skip, hW, s, r, hs, h => by simp only [evCodeT, T.run_leaf, Option.some.injEq] at h; subst h; exact ⟨hs, 0, fun n _ => rfl⟩
  | .label _, hW, s, r, hs, h => by simp only [evCodeT, T.run_leaf, Option.some.injEq] at h; subst h; exact ⟨hs, 0, fun n _ => rfl⟩
  | .region id ops draw, hW, ⟨sn, ssp, sms, shp⟩, r, hs, h => by
    simp only [evCodeT] at h
    obtain ⟨a, h1, h2⟩ := bind_some_inv h
    obtain ⟨hk, n0, h1⟩ := evOpsT_le hH _ _ _ _ _ hs (range_get ops) h1
    obtain ⟨sp0, hp0⟩ := a
    unfold regT at h2
    simp only at h2 hk
    rw [← tmOf_eval hk] at h2
    split at h2
    · rename_i e
      have e' : (!draw || drawOK P pf ops (tmOf sn sp0)) = true := e
      have hl : lookLive id hn.to.keep = match lookN id hn.keep with
        | some N => mbits N hn.n
        | none => [] := lookN_live id hn.n hn.keep
      split at h2
      · rename_i N hN
        split at h2
        · cases h2
        · rename_i hnn
          have hnn := Nat.eq_of_beq_eq_true hnn
          simp only [bare_eq, T.run_leaf, Option.some.injEq] at h2
          rw [hN] at hl
          subst h2
          have hm := maskS_eq (N := N) hk
          refine ⟨by rw [hnn]; exact hm.2, n0, fun n hn' => ?_⟩
          have h1' := h1 n hn'
          simp only [evCode, StT.abs]
          simp only [h1', hl]
          rw [if_pos e', hnn, hm.1]
      · rename_i hN
        simp only [bare_eq, T.run_leaf, Option.some.injEq] at h2
        rw [hN] at hl
        subst h2
        refine ⟨hk, n0, fun n hn' => ?_⟩
        have h1' := h1 n hn'
        simp only [evCode, StT.abs]
        simp only [h1', hl]
        rw [if_pos e']
        rfl
    · cases h2
  | .seq a b, hW, s, r, hs, h => by
    simp only [evCodeT] at h
    obtain ⟨x, h1, h2⟩ := bind_some_inv h
    obtain ⟨hx, n1, h1⟩ := evCodeT_le hH a hW.1 s x hs h1
    obtain ⟨x, s'⟩ := x
    cases x with
    | normal =>
      obtain ⟨hr, n2, h2⟩ := evCodeT_le hH b hW.2 s' r hx h2
      refine ⟨hr, max n1 n2, fun n hn => ?_⟩
      simp only [evCode, h1 n (by omega)]
      exact h2 n (by omega)
    | _ =>
      simp only [T.run_leaf, Option.some.injEq] at h2
      subst h2
      refine ⟨hx, n1, fun n hn => ?_⟩
      simp only [evCode, h1 n hn]
  | .cond c a b, hW, ⟨sn, ssp, sms, shp⟩, r, hs, h => by
    simp only [evCodeT] at h
    have hs' : Keys sn ssp := hs
    split at h
    · rename_i q e
      rw [T.run_br] at h
      have e' : aeval (tmOf sn ssp) c = .bool q := by rw [tmOf_eval hs']; exact e
      cases q with
      | true =>
        obtain ⟨g1, g2⟩ := setS_eq (n := sn) hs' e
        rw [if_pos rfl] at h
        obtain ⟨hr, n1, h1⟩ := evCodeT_le hH a hW.1 ⟨sn, setS sn ssp c true, sms, shp⟩ r g2 h
        refine ⟨hr, n1, fun n hn => ?_⟩
        have h1' := h1 n hn
        simp only [StT.abs, g1] at h1'
        simp only [evCode, StT.abs, e']
        exact h1'
      | false =>
        obtain ⟨g1, g2⟩ := setS_eq (n := sn) hs' e
        rw [if_neg (by simp)] at h
        obtain ⟨hr, n1, h1⟩ := evCodeT_le hH b hW.2 ⟨sn, setS sn ssp c false, sms, shp⟩ r g2 h
        refine ⟨hr, n1, fun n hn => ?_⟩
        have h1' := h1 n hn
        simp only [StT.abs, g1] at h1'
        simp only [evCode, StT.abs, e']
        exact h1'
    · cases h
  | .block id c, hW, s, r, hs, h => by
    simp only [evCodeT] at h
    obtain ⟨x, h1, h2⟩ := bind_some_inv h
    obtain ⟨hx, n1, h1⟩ := evCodeT_le hH c hW s x hs h1
    obtain ⟨x, s'⟩ := x
    cases x with
    | exit i =>
      simp only at h2
      split at h2
      · rename_i e
        simp only [T.run_leaf, Option.some.injEq] at h2
        subst h2
        refine ⟨hx, n1, fun n hn => ?_⟩
        simp only [evCode, h1 n hn]
        rw [if_pos (Nat.eq_of_beq_eq_true e)]
      · rename_i e
        simp only [T.run_leaf, Option.some.injEq] at h2
        subst h2
        refine ⟨hx, n1, fun n hn => ?_⟩
        simp only [evCode, h1 n hn]
        rw [if_neg (fun q => by subst q; rw [beq_self'] at e; cases e)]
    | _ =>
      simp only [T.run_leaf, Option.some.injEq] at h2
      subst h2
      refine ⟨hx, n1, fun n hn => ?_⟩
      simp only [evCode, h1 n hn]
  | .loop c, hW, s, r, hs, h => by
    simp only [evCodeT] at h
    split at h
    · rename_i l hl
      obtain ⟨r', h1, rfl⟩ := map_some_inv h
      rw [headT_eq hs] at h1
      obtain ⟨n0, h0⟩ := hW.1 l hl s.abs r' h1
      refine ⟨(abs_toS r'.2).2, n0, fun n hn => ?_⟩
      simp only [evCode]
      rw [h0 n hn n hn]
      simp only [resS, (abs_toS r'.2).1]
    · obtain ⟨hr, n0, h0⟩ := iterT_le (F := fun n s => evCode P pf (H n) hn.to hid base rd n c (headSt base (lookLive (firstReg c) hn.to.live) s)) (fun s r hs' h => by
        have := evCodeT_le hH c hW.2 _ r (abs_toS (headT base hn c s)).2 h
        rw [(abs_toS (headT base hn c s)).1, headT_eq hs'] at this
        exact this) m s r hs h
      exact ⟨hr, n0, fun n hn => by simp only [evCode]; exact h0 n hn n hn⟩
  | .rangeFunc f ps as bo, hW, s, r, hs, h => by
    simp only [evCodeT] at h
    split at h
    · rename_i l hl
      obtain ⟨r', h1, rfl⟩ := map_some_inv h
      obtain ⟨n0, h0⟩ := hW l hl s.abs r' h1
      refine ⟨(abs_toS r'.2).2, n0, fun n hn => ?_⟩
      simp only [evCode]
      rw [h0 n hn]
      simp only [resS, (abs_toS r'.2).1]
    · exact evRangeT_le hH hs h
  | .exit id, hW, s, r, hs, h => by simp only [evCodeT, T.run_leaf, Option.some.injEq] at h; subst h; exact ⟨hs, 0, fun n _ => rfl⟩
  | .goto l, hW, s, r, hs, h => by simp only [evCodeT, T.run_leaf, Option.some.injEq] at h; subst h; exact ⟨hs, 0, fun n _ => rfl⟩
  | .ret, hW, s, r, hs, h => by simp only [evCodeT, T.run_leaf, Option.some.injEq] at h; subst h; exact ⟨hs, 0, fun n _ => rfl⟩
  | .scope c, hW, s, r, hs, h => by
    simp only [evCodeT] at h
    obtain ⟨x, h1, h2⟩ := bind_some_inv h
    obtain ⟨hx, n1, h1⟩ := evCodeT_le hH c hW s x hs h1
    obtain ⟨x, s'⟩ := x
    cases x with
    | goto i => cases h2
    | _ =>
      simp only [T.run_leaf, Option.some.injEq] at h2
      subst h2
      refine ⟨hx, n1, fun n hn => ?_⟩
      simp only [evCode, h1 n hn]
  | .refuse _, hW, s, r, hs, h => by cases h
end

def noLoops : LoopT := fun _ => none
theorem within_none {P : Program} {pf : FuncId → Bool} {H : Nat → Hd} {hn : Hints} {hid base : Nat} {rd : Option Nat} : ∀ c, Within (LoopOk P pf H hn hid base rd noLoops) c
  | .seq a b => ⟨within_none a, within_none b⟩
  | .cond _ a b => ⟨within_none a, within_none b⟩
  | .block _ c => within_none c
  | .loop c => ⟨(fun l hl => by cases hl), within_none c⟩
  | .region _ _ _ => trivial
  | .skip => trivial
  | .label _ => trivial
  | .rangeFunc _ _ _ _ => (fun l hl => by cases hl)
  | .exit _ => trivial
  | .goto _ => trivial
  | .ret => trivial
  | .scope c => within_none c
  | .refuse _ => trivial

/-! ### A function's end, over what is held -/
def aresS (P : Program) (sp : Sp) (hp : Hp) : List ResultVar → Option (List AV)
  | [] => some []
  | .tmp t :: rs => match aresS P sp hp rs with
    | some vs => some (lookT t sp :: vs)
    | none => none
  | .cell a t :: rs => match aload P t (lookT a sp) hp, aresS P sp hp rs with
    | some v, some vs => some (v :: vs)
    | _, _ => none
theorem aresS_eq {P : Program} {n : Nat} {sp : Sp} (hk : Keys n sp) (hp : Hp) : ∀ rs, aresS P sp hp rs = ares P (tmOf n sp) hp rs
  | [] => rfl
  | .tmp t :: rs => by simp only [aresS, ares, aresS_eq hk hp rs, tmOf_get hk]; rfl
  | .cell a t :: rs => by simp only [aresS, ares, aresS_eq hk hp rs, tmOf_get hk]; rfl
def aendS (P : Program) (fn : Func) (base : Nat) (s : StT) : Option (AV × Hp) :=
  match amarks s.ms s.hp with
  | none => none
  | some hp => match aresS P s.sp hp fn.results.toList with
    | none => none
    | some vs => some ((compact base [atup vs] hp).1.headD .junk, (compact base [atup vs] hp).2)
theorem aendS_eq {P : Program} {fn : Func} {base : Nat} {s : StT} (hs : s.ok) : aendS P fn base s = aend P fn base s.abs := by
  unfold aendS aend
  simp only [StT.abs]
  cases amarks s.ms s.hp with
  | none => rfl
  | some hp => simp only [aresS_eq hs]; rfl
def evFnT (P : Program) (pf : FuncId → Bool) (H : HdT) (hn : HintsT) (m : Nat) (Λ : LoopT) (f : FuncId) (args : List AV) (hp : Hp) : T (AV × Hp) :=
  match P.funcs[f]? with
  | none => .fail
  | some fn => match fn.body with
    | none => .fail
    | some c => if enterable P f = true then
      (evCodeT P pf H hn f hp.length none m Λ c (toS { tm := args ++ List.replicate (fn.ntmps - args.length) .junk, ms := [], hp })).bind fun r => match r with
      | (.normal, s) => .opt (aendS P fn hp.length s)
      | (.ret, s) => .opt (aendS P fn hp.length s)
      | _ => .fail
      else .fail
def evRoundT (P : Program) (pf : FuncId → Bool) (H : HdT) (hints : FuncId → HintsT) (m : Nat) (l : Nat) (args : List AV) (hp : Hp) : T (AV × Hp) :=
  match hp[l]? with
  | some (some (.loop hid _ _ tm ps as bo _)) =>
    if args.length = ps.size then
      (evCodeT P pf H (hints hid) hid hp.length (some l) m noLoops as (toS { tm := setParams (ps.toList.zip args) tm, ms := [], hp })).bind fun r => match r with
      | (.normal, s1) => match s1.hp[l]? with
        | some (some (.loop hid1 .ready pe1 tm1 ps1 as1 bo1 d1)) =>
          (evCodeT P pf H (hints hid) hid hp.length (some l) m noLoops bo { s1 with hp := s1.hp.set l (some (.loop hid1 .busy pe1 tm1 ps1 as1 bo1 d1)) }).bind fun r2 => match r2 with
          | (x, s2) => match s2.hp[l]? with
            | some (some (.loop hid2 _ _ tm2 ps2 as2 bo2 d2)) =>
              .leaf (.bool (jumpOf x).isNone, (compact hp.length [] (s2.hp.set l (some (.loop hid2 (if (jumpOf x).isNone then .ready else .done) (jumpOf x) tm2 ps2 as2 bo2 d2)))).2)
            | _ => .fail
        | _ => .fail
      | _ => .fail
    else .fail
  | _ => .fail
abbrev ConT := FuncId → Option (List AV → Hp → T (AV × Hp))
/-- The contracts, run. -/
def ConT.run (Γ : ConT) : FuncId → Option (List AV → Hp → Option (AV × Hp)) := fun f => (Γ f).map fun c args hp => (c args hp).run
def hdT (P : Program) (pf : FuncId → Bool) (Γ : ConT) (hints : FuncId → HintsT) (m : Nat) : Nat → HdT
  | 0, _, _, _ => .fail
  | k + 1, .fn f, args, hp => match Γ f with
    | some c => c args hp
    | none => evFnT P pf (hdT P pf Γ hints m k) (hints f) m noLoops f args hp
  | k + 1, .yield l, args, hp => evRoundT P pf (hdT P pf Γ hints m k) hints m l args hp

section
variable {P : Program} {pf : FuncId → Bool} {HT : HdT} {H : Nat → Hd}
theorem evFnT_le (hH : LeH HT H) {hn : HintsT} {m : Nat} {Λ : LoopT} {f : FuncId} {args : List AV} {hp : Hp} {r : AV × Hp} (hW : ∀ fn c, P.funcs[f]? = some fn → fn.body = some c → Within (LoopOk P pf H hn.to f hp.length none Λ) c)
    (h : (evFnT P pf HT hn m Λ f args hp).run = some r) : ∃ n0, ∀ n, n0 ≤ n → evFn P pf (H n) hn.to n f args hp = some r := by
  unfold evFnT at h
  unfold evFn
  split at h
  · cases h
  · rename_i fn hf
    rw [hf]
    simp only
    split at h
    · cases h
    · rename_i c hc
      rw [hc]
      simp only
      split at h
      · rename_i he
        simp only [if_pos he]
        obtain ⟨x, h1, h2⟩ := bind_some_inv h
        obtain ⟨hx, n1, h1⟩ := evCodeT_le hH c (hW fn c hf hc) _ _ (abs_toS _).2 h1
        rw [(abs_toS _).1] at h1
        refine ⟨n1, fun n hn => ?_⟩
        simp only [h1 n hn]
        obtain ⟨x, s⟩ := x
        cases x with
        | normal => simpa [aendS_eq hx] using h2
        | ret => simpa [aendS_eq hx] using h2
        | _ => cases h2
      · cases h
theorem evRoundT_le (hH : LeH HT H) {hints : FuncId → HintsT} {m l : Nat} {args : List AV} {hp : Hp} {r : AV × Hp} (h : (evRoundT P pf HT hints m l args hp).run = some r) : ∃ n0, ∀ n, n0 ≤ n → evRound P pf (H n) (fun f => (hints f).to) n l args hp = some r := by
  unfold evRoundT at h
  unfold evRound
  split at h
  · rename_i hid st pe tm ps as bo d ho
    rw [ho]
    simp only
    split at h
    · rename_i hlen
      simp only [if_pos hlen]
      obtain ⟨x, h1, h2⟩ := bind_some_inv h
      obtain ⟨hx, n1, h1⟩ := evCodeT_le hH as (within_none as) _ _ (abs_toS _).2 h1
      rw [(abs_toS _).1] at h1
      obtain ⟨x, s1⟩ := x
      cases x with
      | normal =>
        simp only at h2
        split at h2
        · rename_i hid1 pe1 tm1 ps1 as1 bo1 d1 ho1
          obtain ⟨y, h3, h4⟩ := bind_some_inv h2
          obtain ⟨hy, n2, h3⟩ := evCodeT_le hH bo (within_none bo) { s1 with hp := s1.hp.set l (some (.loop hid1 .busy pe1 tm1 ps1 as1 bo1 d1)) } _ hx h3
          obtain ⟨y, s2⟩ := y
          refine ⟨max n1 n2, fun n hn => ?_⟩
          have ho1' : s1.abs.hp[l]? = some (some (.loop hid1 .ready pe1 tm1 ps1 as1 bo1 d1)) := ho1
          have h3' : evCode P pf (H n) (hints hid).to hid hp.length (some l) n bo { tm := s1.abs.tm, ms := s1.abs.ms, hp := s1.abs.hp.set l (some (.loop hid1 .busy pe1 tm1 ps1 as1 bo1 d1)) } = some (y, s2.abs) := h3 n (by omega)
          simp only [h1 n (by omega), ho1', h3']
          simp only at h4
          split at h4
          · rename_i ho2
            have ho2' : s2.abs.hp[l]? = _ := ho2
            rw [ho2']; exact h4
          · cases h4
        · cases h2
      | _ => cases h2
    · cases h
  · cases h
theorem hdT_le {Γ : ConT} {hints : FuncId → HintsT} {m : Nat} : ∀ k, LeH (hdT P pf Γ hints m k) (fun n => hd P pf Γ.run (fun f => (hints f).to) n k)
  | 0 => fun t args hp r h => by cases h
  | k + 1 => fun t args hp r h => by
    cases t with
    | fn f =>
      simp only [hdT] at h
      simp only [hd, ConT.run]
      split at h
      · rename_i c hc
        rw [hc]
        exact ⟨0, fun n _ => h⟩
      · rename_i hc
        rw [hc]
        exact evFnT_le (hdT_le k) (fun fn c _ _ => within_none c) h
    | yield l => exact evRoundT_le (hdT_le k) h

/-- **A FUNCTION's CONTRACT OUT OF ITS TREE.** -/
theorem fn_call {Γ : ConT} (hΓ : SoundC P pf Γ.run) {hints : FuncId → HintsT} {hn : HintsT} {m k : Nat} {Λ : LoopT} {f : FuncId} {args : List AV} {hp hp' : Hp} {r : AV}
    (hW : ∀ fn c, P.funcs[f]? = some fn → fn.body = some c → Within (LoopOk P pf (fun n => hd P pf Γ.run (fun f => (hints f).to) n k) hn.to f hp.length none Λ) c)
    (h : (evFnT P pf (hdT P pf Γ hints m k) hn m Λ f args hp).run = some (r, hp')) {X0 : Blk} {σ : Sub} {w : World} {vargs : Array Value} (hR : Rel X0 σ hp w) (hV : VL (Xof X0 σ hp) w σ args vargs.toList) :
    CallOk P f vargs w (Left X0 σ hp w r hp') ∧ hp.length ≤ hp'.length := by
  obtain ⟨n0, h0⟩ := evFnT_le (hdT_le k) hW h
  have := h0 n0 (Nat.le_refl _)
  exact ⟨evFn_sound (hd_sound hΓ k) (hd_len hΓ k) (hd_pure hΓ k) this hR hV, evFn_len (hd_len hΓ k) this⟩
end
end Go.Ab
namespace Go.Ab
open Go
set_option linter.unusedVariables false
set_option linter.unusedSimpArgs false

/-! ### Tables of contracts -/
structure Con where
  fn : FuncId
  pure : Bool
  c : List AV → Hp → T (AV × Hp)
abbrev Tab := List Con
def Tab.get : Tab → FuncId → Option Con
  | [], _ => none
  | e :: t, f => match f == e.fn with
    | true => some e
    | false => Tab.get t f
def Tab.con (t : Tab) : ConT := fun f => match t.get f with
  | some e => some e.c
  | none => none
def Tab.pf (t : Tab) : FuncId → Bool := fun f => match t.get f with
  | some e => e.pure
  | none => false
structure Sound1 (P : Program) (e : Con) : Prop where
  ok : ∀ args hp r hp', (e.c args hp).run = some (r, hp') → ∀ X0 σ w (vargs : Array Value), Rel X0 σ hp w → VL (Xof X0 σ hp) w σ args vargs.toList → CallOk P e.fn vargs w (Left X0 σ hp w r hp')
  len : ∀ args hp r hp', (e.c args hp).run = some (r, hp') → hp.length ≤ hp'.length
  pure : e.pure = true → ∀ args hp r hp', (e.c args hp).run = some (r, hp') → hp' = hp ∧ ∀ hp2, (e.c args hp2).run = some (r, hp2)
def SoundTab (P : Program) (t : Tab) : Prop := SoundC P t.pf t.con.run
theorem Tab.get_of {t : Tab} {f : FuncId} {e : Con} (h : t.get f = some e) : e ∈ t ∧ e.fn = f := by
  induction t with
  | nil => cases h
  | cons x t ih =>
    simp only [Tab.get] at h
    split at h
    · rename_i hx
      injection h with h; subst h
      exact ⟨by simp, (by simpa using hx : f = _).symm⟩
    · obtain ⟨h1, h2⟩ := ih h
      exact ⟨by simp [h1], h2⟩
theorem soundTab_of {P : Program} {t : Tab} (h : ∀ e, e ∈ t → Sound1 P e) : SoundTab P t := by
  have key : ∀ f c, t.con.run f = some c → ∃ e, e ∈ t ∧ e.fn = f ∧ t.get f = some e ∧ c = fun args hp => (e.c args hp).run := by
    intro f c hc
    simp only [ConT.run, Tab.con] at hc
    cases hg : t.get f with
    | none => rw [hg] at hc; cases hc
    | some e =>
      rw [hg] at hc
      simp only [Option.map_some, Option.some.injEq] at hc
      obtain ⟨h1, h2⟩ := Tab.get_of hg
      exact ⟨e, h1, h2, rfl, hc.symm⟩
  refine ⟨fun f c hc args hp r hp' hr => ?_, fun f c hc args hp r hp' hr => ?_, fun f hf => ?_⟩
  · obtain ⟨e, h1, rfl, _, rfl⟩ := key f c hc
    exact (h e h1).ok args hp r hp' hr
  · obtain ⟨e, h1, rfl, _, rfl⟩ := key f c hc
    exact (h e h1).len args hp r hp' hr
  · simp only [Tab.pf] at hf
    cases hg : t.get f with
    | none => rw [hg] at hf; cases hf
    | some e =>
      rw [hg] at hf
      obtain ⟨h1, h2⟩ := Tab.get_of hg
      refine ⟨fun args hp => (e.c args hp).run, by simp [ConT.run, Tab.con, hg], (h e h1).pure hf⟩
theorem SoundTab.nil (P : Program) : SoundTab P [] := soundTab_of (by simp)

/-! ### The frame: a call that is handed no memory of ours -/
section
variable {P : Program} {X0 : Blk} {σ : Sub} {hp : Hp} {w : World}
theorem own_nil (σ : Sub) : Own σ [] = fun _ => False := funext fun g => propext ⟨fun ⟨i, o, h, _⟩ => by simp at h, False.elim⟩
theorem Rel.empty (hR : Rel X0 σ hp w) : Rel (Xof X0 σ hp) (fun _ => none) [] w :=
  ⟨(fun i j o o' g h => by simp at h), (fun i g h => by cases h), (fun g hg => hg.elim (hR.x0 g) fun ⟨i, o, h1, h2⟩ => hR.lt i g h2), (fun i g h => by cases h), (fun i g h => by cases h), (fun i o h => by simp at h)⟩
theorem Xof_empty (X : Blk) (σ' : Sub) : Xof X σ' [] = X := funext fun g => propext ⟨fun h => h.elim id fun h => by rw [own_nil] at h; exact h.elim, .inl⟩
/-- A value of no memory of ours: a cell, a struct, a tuple. -/
def norefA (a : AV) : Bool := match a with
  | .agg cs => cs.all noref
  | a => noref a
def norefT (a : AV) : Bool := match a with
  | .tup vs => vs.all norefA
  | a => norefA a
theorem VL_noref0 {X : Blk} {σ' : Sub} : ∀ {as : List AV} {vs : List Value}, as.all noref = true → VL X w σ as vs → VL X w σ' as vs
  | [], vs, h, hV => hV
  | a :: as, vs, h, hV => by
    simp only [List.all_cons, Bool.and_eq_true] at h
    obtain ⟨u, us, rfl, h1, h2⟩ := hV
    exact ⟨u, us, rfl, V_noref h1 h.1, VL_noref0 h.2 h2⟩
theorem V_norefA {X : Blk} {σ' : Sub} {a : AV} {v : Value} (h : norefA a = true) (hV : V X w σ a v) : V X w σ' a v := by
  unfold norefA at h
  split at h
  · simp only [V] at hV ⊢
    obtain ⟨vs, rfl, hV⟩ := hV
    exact ⟨vs, rfl, VL_noref0 h hV⟩
  · exact V_noref hV h
theorem VL_noref {X : Blk} {σ' : Sub} : ∀ {as : List AV} {vs : List Value}, as.all norefA = true → VL X w σ as vs → VL X w σ' as vs
  | [], vs, h, hV => hV
  | a :: as, vs, h, hV => by
    simp only [List.all_cons, Bool.and_eq_true] at h
    obtain ⟨u, us, rfl, h1, h2⟩ := hV
    exact ⟨u, us, rfl, V_norefA h.1 h1, VL_noref h.2 h2⟩
theorem V_norefT {X : Blk} {σ' : Sub} {a : AV} {v : Value} (h : norefT a = true) (hV : V X w σ a v) : V X w σ' a v := by
  unfold norefT at h
  split at h
  · simp only [V] at hV ⊢
    obtain ⟨vs, rfl, hV⟩ := hV
    exact ⟨vs, rfl, VL_noref h hV⟩
  · exact V_norefA h hV
theorem Left.frame0 (hR : Rel X0 σ hp w) {r : AV} {v : Value} {w' : World} (hr : norefT r = true) (h : Left (Xof X0 σ hp) (fun _ => none) [] w r [] v w') : Left X0 σ hp w r hp v w' := by
  obtain ⟨σ', h1, ⟨h2, h3⟩, h4, h5⟩ := h
  rw [own_nil] at h2
  rw [Xof_empty] at h5
  exact ⟨σ, fun _ _ h => h, ⟨h2.mono fun _ _ h => h.elim, fun _ _ h => h⟩, hR.step h2, V_norefT hr h5⟩

theorem CallOk.mono {f : FuncId} {vargs : Array Value} {R R' : Value → World → Prop} (h : CallOk P f vargs w R) (hr : ∀ v w', R v w' → R' v w') : CallOk P f vargs w R' := by
  rcases h with ⟨h1, h2⟩ | ⟨v, w', h1, h2⟩
  · exact .inl ⟨h1, h2.mono fun e w' ⟨v, he, hv⟩ => ⟨v, he, hr v w' hv⟩⟩
  · exact .inr ⟨v, w', h1, hr v w' h2⟩
end

mutual
/-- What a value's parts are known to be. -/
def Fits : AV → Prop
  | .int k n => k.min ≤ n ∧ n ≤ k.max
  | .str s => s.length ≤ bnd
  | .sl sz n f => n ≤ bnd ∧ ∀ i c, i < n → c < sz → Fits (f i c)
  | .fref m f => ∀ c, c < m → Fits (f c)
  | .row _ _ _ n => n ≤ bnd
  | .rowc _ _ n _ => n ≤ bnd
  | .agg cs => FitsL cs
  | .tup cs => FitsL cs
  | .iface _ a => Fits a
  | .fn _ cap => FitsL cap
  | _ => True
def FitsL : List AV → Prop
  | [] => True
  | a :: as => Fits a ∧ FitsL as
end
section
variable {X : Blk} {w : World}
mutual
theorem V_fits : (a : AV) → (v : Value) → (σ : Sub) → V X w σ a v → Fits a
  | .int k n, v, σ, h => by simp only [V] at h; exact h.2
  | .str s, v, σ, h => by simp only [V] at h; exact h.2
  | .sl sz n f, v, σ, h => by
    simp only [V] at h
    refine ⟨h.1, fun i c hi hc => ?_⟩
    rcases h.2 with ⟨_, h0⟩ | ⟨g, off, cap, _, _, _, _, h5⟩
    · omega
    · obtain ⟨u, _, _, hu⟩ := h5 i c hi hc
      exact V_fits (f i c) u _ hu
  | .fref m f, v, σ, h => by
    simp only [V] at h
    obtain ⟨g, off, _, _, _, h5⟩ := h
    intro c hc
    obtain ⟨u, _, _, hu⟩ := h5 c hc
    exact V_fits (f c) u _ hu
  | .row _ _ _ n, v, σ, h => by simp only [V] at h; exact h.1
  | .rowc _ _ n _, v, σ, h => by simp only [V] at h; exact h.1
  | .agg cs, v, σ, h => by simp only [V] at h; obtain ⟨vs, _, h⟩ := h; exact VL_fits cs _ _ h
  | .tup cs, v, σ, h => by simp only [V] at h; obtain ⟨vs, _, h⟩ := h; exact VL_fits cs _ _ h
  | .iface _ a, v, σ, h => by simp only [V] at h; obtain ⟨u, _, h⟩ := h; exact V_fits a _ _ h
  | .fn _ cap, v, σ, h => by simp only [V] at h; obtain ⟨vs, _, h⟩ := h; exact VL_fits cap _ _ h
  | .junk, _, _, _ | .undef, _, _, _ | .bool _, _, _, _ | .nilp, _, _, _ | .ref _ _, _, _, _ | .eref _ _ _ _, _, _, _ | .nilsl, _, _, _ | .yield _, _, _, _ | .nilfn, _, _, _ | .map _, _, _, _ | .nilmap, _, _, _ | .niliface, _, _, _ => by simp [Fits]
theorem VL_fits : (as : List AV) → (vs : List Value) → (σ : Sub) → VL X w σ as vs → FitsL as
  | [], _, _, _ => trivial
  | a :: as, vs, σ, h => by
    simp only [VL] at h
    obtain ⟨u, us, _, h1, h2⟩ := h
    exact ⟨V_fits a u σ h1, VL_fits as us σ h2⟩
end
end

/-- A contract of no memory. -/
def pcon (c : List AV → T AV) : List AV → Hp → T (AV × Hp) := fun args hp => match args.all norefA with
  | true => (c args).bind fun r => match norefT r with
    | true => .leaf (r, hp)
    | false => .fail
  | false => .fail
theorem pcon_run {c : List AV → T AV} {args : List AV} {hp hp' : Hp} {r : AV} (h : (pcon c args hp).run = some (r, hp')) : args.all norefA = true ∧ (c args).run = some r ∧ norefT r = true ∧ hp' = hp ∧ ∀ hp2, (pcon c args hp2).run = some (r, hp2) := by
  unfold pcon at h ⊢
  split at h
  · rename_i ha
    obtain ⟨r', h1, h2⟩ := bind_some_inv h
    split at h2
    · rename_i hn
      simp only [T.run_leaf, Option.some.injEq, Prod.mk.injEq] at h2
      obtain ⟨rfl, rfl⟩ := h2
      refine ⟨ha, h1, hn, rfl, fun hp2 => ?_⟩
      simp only [ha, T.run_bind, h1, Option.bind_some, hn, T.run_leaf]
    · cases h2
  · cases h
def H0 : FuncId → HintsT := fun _ => ⟨0, [], []⟩
/-- The loops of a piece of code, an outer one ahead of its inner ones. -/
def loopsOf : Code → List Code
  | .seq a b => loopsOf a ++ loopsOf b
  | .cond _ a b => loopsOf a ++ loopsOf b
  | .block _ c => loopsOf c
  | .scope c => loopsOf c
  | .loop c => .loop c :: loopsOf c
  | .rangeFunc f ps as bo => [.rangeFunc f ps as bo]
  | _ => []
theorem within_of {Φ : Code → Prop} : ∀ (c : Code), (∀ d, d ∈ loopsOf c → Φ d) → Within Φ c
  | .seq a b, h => ⟨within_of a fun d hd => h d (List.mem_append_left _ hd), within_of b fun d hd => h d (List.mem_append_right _ hd)⟩
  | .cond _ a b, h => ⟨within_of a fun d hd => h d (List.mem_append_left _ hd), within_of b fun d hd => h d (List.mem_append_right _ hd)⟩
  | .block _ c, h => within_of c h
  | .loop c, h => ⟨h (.loop c) (by simp [loopsOf]), within_of c fun d hd => h d (by simp [loopsOf, hd])⟩
  | .region _ _ _, _ => trivial
  | .skip, _ => trivial
  | .label _, _ => trivial
  | .rangeFunc f ps as bo, h => h _ (by simp [loopsOf])
  | .exit _, _ => trivial
  | .goto _, _ => trivial
  | .ret, _ => trivial
  | .scope c, h => within_of c h
  | .refuse _, _ => trivial

/-- Temporaries, by a mask. -/
def encGo : List Bool → List AV → Tm
  | [], _ => []
  | true :: bs, v :: vs => v :: encGo bs vs
  | true :: bs, [] => .junk :: encGo bs []
  | false :: bs, vs => .junk :: encGo bs vs
def decGo : List Bool → Tm → Option (List AV)
  | [], [] => some []
  | true :: bs, v :: vs => match decGo bs vs with
    | some r => some (v :: r)
    | none => none
  | false :: bs, .junk :: vs => decGo bs vs
  | _, _ => none
theorem decGo_spec : ∀ (bs : List Bool) (tm : Tm) (vs : List AV), decGo bs tm = some vs → tm = encGo bs vs
  | [], tm, vs, h => by
    cases tm with
    | nil => rfl
    | cons _ _ => simp [decGo] at h
  | true :: bs, [], vs, h => by simp [decGo] at h
  | true :: bs, v :: tm, vs, h => by
    simp only [decGo] at h
    split at h
    · rename_i r hr
      injection h with h; subst h
      simp only [encGo, ← decGo_spec bs tm r hr]
    · cases h
  | false :: bs, [], vs, h => by simp [decGo] at h
  | false :: bs, v :: tm, vs, h => by
    cases v <;> simp only [decGo] at h <;> first | cases h | skip
    cases vs <;> simp only [encGo, ← decGo_spec bs tm _ h]
/-- A loop's contract, over what is live at its head. -/
def lcon (lv : List Bool) (D : List AV → Hp → T (AX × St)) : St → T (AX × St) := fun st => match decGo lv st.tm with
  | some vs => match st.ms with
    | [] => D vs st.hp
    | _ :: _ => .fail
  | none => .fail
theorem lcon_run {lv : List Bool} {D : List AV → Hp → T (AX × St)} {st : St} {r : AX × St} (h : (lcon lv D st).run = some r) : ∃ vs, st = { tm := encGo lv vs, ms := [], hp := st.hp } ∧ (D vs st.hp).run = some r := by
  obtain ⟨tm, ms, hp⟩ := st
  unfold lcon at h
  simp only at h
  split at h
  · rename_i vs hv
    cases ms with
    | nil => exact ⟨vs, by rw [decGo_spec _ _ _ hv], h⟩
    | cons _ _ => cases h
  · cases h
/-- The body of a function. -/
def bodyOf (P : Program) (f : FuncId) : Code := match P.funcs[f]? with
  | some fn => fn.body.getD .skip
  | none => .skip
def loopAt (P : Program) (f : FuncId) (i : Nat) : Code := (loopsOf (bodyOf P f)).getD i .skip
def inOf : Code → Code
  | .loop c => c
  | .rangeFunc _ _ _ c => c
  | c => c
/-- The body of a function's loop. -/
def lbody (P : Program) (f : FuncId) (i : Nat) : Code := inOf (loopAt P f i)
theorem within_at {P : Program} {f : FuncId} {Φ : Code → Prop} (h : ∀ i, i < (loopsOf (bodyOf P f)).length → Φ (loopAt P f i)) : ∀ fn c, P.funcs[f]? = some fn → fn.body = some c → Within Φ c := by
  intro fn c h1 h2
  have hb : bodyOf P f = c := by simp [bodyOf, h1, h2]
  refine within_of c fun d hd => ?_
  rw [← hb] at hd
  obtain ⟨i, hi, rfl⟩ := List.mem_iff_getElem.1 hd
  have := h i hi
  simpa [loopAt, hi] using this

section
variable {P : Program}
/-- **A CONTRACT OF NO MEMORY, OUT OF THE FUNCTION's TREE.** -/
theorem sound_pure {t : Tab} (ht : SoundTab P t) {f : FuncId} {c : List AV → T AV} {hn : HintsT} {m k : Nat} {Λ : LoopT}
    (hW : ∀ i, i < (loopsOf (bodyOf P f)).length → LoopOk P t.pf (fun n => hd P t.pf t.con.run (fun f => (H0 f).to) n k) hn.to f 0 none Λ (loopAt P f i))
    (h : ∀ args r, FitsL args → (c args).run = some r → (evFnT P t.pf (hdT P t.pf t.con H0 m k) hn m Λ f args []).run = some (r, [])) : Sound1 P ⟨f, true, pcon c⟩ where
  ok args hp r hp' hr X0 σ w vargs hR hV := by
    obtain ⟨h1, h2, h3, rfl, h4⟩ := pcon_run hr
    have hV' : VL (Xof (Xof X0 σ hp') (fun _ => none) []) w (fun _ => none) args vargs.toList := by rw [Xof_empty]; exact VL_noref h1 hV
    have := (fn_call ht (within_at hW) (h args r (VL_fits _ _ _ hV) h2) hR.empty hV').1
    exact this.mono fun v w' hl => hl.frame0 hR h3
  len args hp r hp' hr := by
    obtain ⟨_, _, _, rfl, _⟩ := pcon_run hr; exact Nat.le_refl _
  pure _ args hp r hp' hr := by
    obtain ⟨_, _, _, rfl, h4⟩ := pcon_run hr; exact ⟨rfl, h4⟩

/-- One round of a loop, and the head of the next. -/
def roundT (P : Program) (pf : FuncId → Bool) (H : HdT) (hn : HintsT) (hid base : Nat) (rd : Option Nat) (m : Nat) (Λ : LoopT) (c : Code) (s : St) : T (AX × St) :=
  (evCodeT P pf H hn hid base rd m Λ c (toS s)).bind fun r => match r with
    | (.normal, s') => .leaf (.normal, headT base hn c s')
    | (.exit i, s') => .leaf (.exit i, s'.abs)
    | (.goto i, s') => .leaf (.goto i, s'.abs)
    | (.ret, s') => .leaf (.ret, s'.abs)
theorem roundT_says {pf : FuncId → Bool} {HT : HdT} {H : Nat → Hd} (hH : LeH HT H) {hn : HintsT} {hid base : Nat} {rd : Option Nat} {m : Nat} {Λ : LoopT} {c : Code} (hW : Within (LoopOk P pf H hn.to hid base rd Λ) c) {s : St} {r : AX × St}
    (h : (roundT P pf HT hn hid base rd m Λ c s).run = some r) : ∃ s', r.2 = (match r.1 with
      | .normal => headSt base (lookLive (firstReg c) hn.to.live) s'
      | _ => s') ∧ ∃ n0, ∀ n, n0 ≤ n → evCode P pf (H n) hn.to hid base rd n c s = some (r.1, s') := by
  obtain ⟨a, h1, h2⟩ := bind_some_inv h
  obtain ⟨ha, n0, h3⟩ := evCodeT_le hH c hW _ _ (abs_toS s).2 h1
  rw [(abs_toS s).1] at h3
  obtain ⟨x, s'⟩ := a
  refine ⟨s'.abs, ?_⟩
  cases x <;> simp only [T.run_leaf, Option.some.injEq] at h2 <;> subst h2 <;> first | exact ⟨headT_eq ha, n0, h3⟩ | exact ⟨rfl, n0, h3⟩
/-- **A LOOP's CONTRACT OUT OF ONE ROUND's TREE**: rounds lead on, and the measure falls; or the loop is left. -/
theorem loop_run {pf : FuncId → Bool} {HT : HdT} {H : Nat → Hd} (hH : LeH HT H) {hn : HintsT} {hid base : Nat} {rd : Option Nat} {m : Nat} {Λ : LoopT} {c : Code} (hW : Within (LoopOk P pf H hn.to hid base rd Λ) c)
    {X : Type} (enc : X → St) (out : X → AX × St) (p : X → Prop) (μ : X → Nat)
    (h : ∀ x, p x → (∃ y, p y ∧ μ y < μ x ∧ out y = out x ∧ (roundT P pf HT hn hid base rd m Λ c (enc x)).run = some (.normal, enc y)) ∨ ((roundT P pf HT hn hid base rd m Λ c (enc x)).run = some (out x) ∧ (out x).1 ≠ .normal)) :
    ∀ (k : Nat) (x : X), μ x ≤ k → p x → ∀ s, headSt base (lookLive (firstReg c) hn.to.live) s = enc x →
      ∃ n0, ∀ n, n0 ≤ n → ∀ j, n0 ≤ j → iter j (fun s => evCode P pf (H n) hn.to hid base rd n c (headSt base (lookLive (firstReg c) hn.to.live) s)) s = some (out x) := by
  have last : ∀ x s, headSt base (lookLive (firstReg c) hn.to.live) s = enc x → (roundT P pf HT hn hid base rd m Λ c (enc x)).run = some (out x) → (out x).1 ≠ .normal →
      ∃ n0, ∀ n, n0 ≤ n → ∀ j, n0 ≤ j → iter j (fun s => evCode P pf (H n) hn.to hid base rd n c (headSt base (lookLive (firstReg c) hn.to.live) s)) s = some (out x) := by
    intro x s hs h1 h2
    obtain ⟨s', h3, n1, h5⟩ := roundT_says hH hW h1
    generalize out x = r at h2 h3 h5
    obtain ⟨x', s2⟩ := r
    refine ⟨n1 + 1, fun n hn j hj => ?_⟩
    obtain ⟨j, rfl⟩ : ∃ i, j = i + 1 := ⟨j - 1, by omega⟩
    simp only [iter, hs, h5 n (by omega)]
    cases x' with
    | normal => exact absurd rfl h2
    | _ => simp only at h3; rw [h3]
  intro k
  induction k with
  | zero =>
    intro x hx hp s hs
    rcases h x hp with ⟨y, _, hlt, _⟩ | ⟨h1, h2⟩
    · omega
    · exact last x s hs h1 h2
  | succ k ih =>
    intro x hx hp s hs
    rcases h x hp with ⟨y, hy, hlt, ho, h1⟩ | ⟨h1, h2⟩
    · obtain ⟨s', h3, n1, h5⟩ := roundT_says hH hW h1
      obtain ⟨n2, h6⟩ := ih y (by omega) hy s' h3.symm
      refine ⟨max n1 n2 + 1, fun n hn j hj => ?_⟩
      obtain ⟨j, rfl⟩ : ∃ i, j = i + 1 := ⟨j - 1, by omega⟩
      simp only [iter, hs, h5 n (by omega)]
      rw [← ho]
      exact h6 n (by omega) j (by omega)
    · exact last x s hs h1 h2
/-- A loop's contract is kept, out of its rounds' trees. -/
theorem loop_con {pf : FuncId → Bool} {HT : HdT} {H : Nat → Hd} (hH : LeH HT H) {hn : HintsT} {hid base : Nat} {rd : Option Nat} {m : Nat} {Λ : LoopT} {c : Code} {D : List AV → Hp → T (AX × St)} {lv : List Bool}
    (hW : Within (LoopOk P pf H hn.to hid base rd Λ) c) (hΛ : Λ (lkey c) = some (lcon lv D))
    {X : Type} (enc : X → List AV × Hp) (out : X → AX × St) (p : X → Prop) (μ : X → Nat)
    (hD : ∀ vs hp r, (D vs hp).run = some r → ∃ x, (vs, hp) = enc x ∧ p x ∧ r = out x)
    (h : ∀ x, p x → (∃ y, p y ∧ μ y < μ x ∧ out y = out x ∧ (roundT P pf HT hn hid base rd m Λ c { tm := encGo lv (enc x).1, ms := [], hp := (enc x).2 }).run = some (.normal, { tm := encGo lv (enc y).1, ms := [], hp := (enc y).2 })) ∨
      ((roundT P pf HT hn hid base rd m Λ c { tm := encGo lv (enc x).1, ms := [], hp := (enc x).2 }).run = some (out x) ∧ (out x).1 ≠ .normal)) : LoopOk P pf H hn.to hid base rd Λ (.loop c) := by
  intro l hl s r hr
  rw [hΛ] at hl
  injection hl with hl
  subst hl
  obtain ⟨vs, h1, h2⟩ := lcon_run hr
  obtain ⟨x, h3, h4, rfl⟩ := hD _ _ _ h2
  refine loop_run hH hW (fun x => { tm := encGo lv (enc x).1, ms := [], hp := (enc x).2 }) out p μ h (μ x) x (Nat.le_refl _) h4 s ?_
  rw [h1]
  rw [← h3]
end
end Go.Ab
namespace Go.Ab
open Go
set_option linter.unusedVariables false
set_option linter.unusedSimpArgs false

/-! ### The frame: a call that is handed some of our objects -/
abbrev Ph := Nat → Option Nat
mutual
def mapAV (φ : Ph) : AV → AV
  | .ref b off => match φ b with | some b' => .ref b' off | none => .junk
  | .eref b sz i c => match φ b with | some b' => .eref b' sz i c | none => .junk
  | .row b sz lo n => match φ b with | some b' => .row b' sz lo n | none => .junk
  | .rowc b sz n c => match φ b with | some b' => .rowc b' sz n c | none => .junk
  | .fn f cap => .fn f (mapL φ cap)
  | .yield l => match φ l with | some l' => .yield l' | none => .junk
  | .map m => match φ m with | some m' => .map m' | none => .junk
  | .iface t v => .iface t (mapAV φ v)
  | .agg cs => .agg (mapL φ cs)
  | .tup vs => .tup (mapL φ vs)
  | a => a
def mapL (φ : Ph) : List AV → List AV
  | [] => []
  | a :: as => mapAV φ a :: mapL φ as
end
def mapObj (φ : Ph) : AObj → Option AObj
  | .cells cs => some (.cells (mapL φ cs))
  | .tcells t cs => some (.tcells t (mapL φ cs))
  | .loop h st pe tm ps as bo d => match φ d with
    | some d' => some (.loop h st pe (mapL φ tm) ps as bo d')
    | none => none
  | o => some o
/-- The names lead to the same blocks. -/
def Agree (φ : Ph) (σ σ' : Sub) : Prop := ∀ i j g, φ i = some j → σ i = some g → σ' j = some g
section
variable {X X' : Blk} {w : World} {σ σ' : Sub} {φ : Ph}
mutual
theorem V_map (hX : ∀ g, X' g → X g) (hφ : Agree φ σ σ') : ∀ (a : AV) (v : Value), V X w σ a v → V X' w σ' (mapAV φ a) v
  | .junk, v, h => by simp only [mapAV, V]
  | .undef, v, h => by simpa only [mapAV, V] using h
  | .int k n, v, h => by simpa only [mapAV, V] using h
  | .bool b, v, h => by simpa only [mapAV, V] using h
  | .str s, v, h => by simpa only [mapAV, V] using h
  | .nilp, v, h => by simpa only [mapAV, V] using h
  | .ref b off, v, h => by
    simp only [V] at h; obtain ⟨g, h1, h2⟩ := h
    simp only [mapAV]; split
    · rename_i b' hb; simp only [V]; exact ⟨g, hφ _ _ _ hb h1, h2⟩
    · simp only [V]
  | .eref b sz i c, v, h => by
    simp only [V] at h; obtain ⟨g, h1, h2⟩ := h
    simp only [mapAV]; split
    · rename_i b' hb; simp only [V]; exact ⟨g, hφ _ _ _ hb h1, h2⟩
    · simp only [V]
  | .fref m f, v, h => by
    simp only [mapAV]
    exact V_mono (fun g _ => hX g) (Step.refl _ _) (.fref m f) v σ _ (fun _ _ h => h) h |> V_noref (σ' := σ') |> fun q => q rfl
  | .nilsl, v, h => by simpa only [mapAV, V] using h
  | .sl sz n f, v, h => by
    simp only [mapAV]
    exact V_mono (fun g _ => hX g) (Step.refl _ _) (.sl sz n f) v σ _ (fun _ _ h => h) h |> V_noref (σ' := σ') |> fun q => q rfl
  | .row b sz lo n, v, h => by
    simp only [V] at h; obtain ⟨hb0, g, o, cap, arr, t, fr, h1, h2⟩ := h
    simp only [mapAV]; split
    · rename_i b' hb; simp only [V]; exact ⟨hb0, g, o, cap, arr, t, fr, hφ _ _ _ hb h1, h2⟩
    · simp only [V]
  | .rowc b sz n c, v, h => by
    simp only [V] at h; obtain ⟨hb0, g, o, cap, arr, t, fr, h1, h2⟩ := h
    simp only [mapAV]; split
    · rename_i b' hb; simp only [V]; exact ⟨hb0, g, o, cap, arr, t, fr, hφ _ _ _ hb h1, h2⟩
    · simp only [V]
  | .fn f cap, v, h => by
    simp only [V] at h; obtain ⟨vs, h1, h2⟩ := h
    simp only [mapAV, V]; exact ⟨vs, h1, VL_mapL hX hφ cap _ h2⟩
  | .yield l, v, h => by
    simp only [V] at h; obtain ⟨g, h1, h2⟩ := h
    simp only [mapAV]; split
    · rename_i b' hb; simp only [V]; exact ⟨g, hφ _ _ _ hb h1, h2⟩
    · simp only [V]
  | .nilfn, v, h => by simpa only [mapAV, V] using h
  | .map m, v, h => by
    simp only [V] at h; obtain ⟨g, h1, h2⟩ := h
    simp only [mapAV]; split
    · rename_i b' hb; simp only [V]; exact ⟨g, hφ _ _ _ hb h1, h2⟩
    · simp only [V]
  | .nilmap, v, h => by simpa only [mapAV, V] using h
  | .iface t a, v, h => by
    simp only [V] at h; obtain ⟨u, h1, h2⟩ := h
    simp only [mapAV, V]; exact ⟨u, h1, V_map hX hφ a u h2⟩
  | .niliface, v, h => by simpa only [mapAV, V] using h
  | .agg cs, v, h => by
    simp only [V] at h; obtain ⟨vs, h1, h2⟩ := h
    simp only [mapAV, V]; exact ⟨vs, h1, VL_mapL hX hφ cs _ h2⟩
  | .tup cs, v, h => by
    simp only [V] at h; obtain ⟨vs, h1, h2⟩ := h
    simp only [mapAV, V]; exact ⟨vs, h1, VL_mapL hX hφ cs _ h2⟩
theorem VL_mapL (hX : ∀ g, X' g → X g) (hφ : Agree φ σ σ') : ∀ (as : List AV) (vs : List Value), VL X w σ as vs → VL X' w σ' (mapL φ as) vs
  | [], vs, h => by simpa only [mapL, VL] using h
  | a :: as, vs, h => by
    simp only [VL] at h; obtain ⟨u, us, h1, h2, h3⟩ := h
    simp only [mapL, VL]; exact ⟨u, us, h1, V_map hX hφ a u h2, VL_mapL hX hφ as us h3⟩
end
theorem O_map (hX : ∀ g, X' g → X g) (hφ : Agree φ σ σ') {g : Nat} {o o' : AObj} (h : O X σ w g o) (ho : mapObj φ o = some o') : O X' σ' w g o' := by
  cases o with
  | cells cs =>
    simp only [mapObj, Option.some.injEq] at ho; subst ho
    obtain ⟨arr, h1, h2⟩ := h
    exact ⟨arr, h1, VL_mapL hX hφ _ _ h2⟩
  | tcells t cs =>
    simp only [mapObj, Option.some.injEq] at ho; subst ho
    obtain ⟨arr, h1, h2, h3⟩ := h
    exact ⟨arr, h1, VL_mapL hX hφ _ _ h2, h3⟩
  | loop hid st pe tm ps as bo d =>
    simp only [mapObj] at ho
    split at ho
    · rename_i d' hd
      injection ho with ho; subst ho
      obtain ⟨L, gd, h1, h2, h3, h4, h5, h6, h7, h8, h9⟩ := h
      exact ⟨L, gd, h1, h2, h3, VL_mapL hX hφ _ _ h4, h5, h6, h7, hφ _ _ _ hd h8, h9⟩
    · cases ho
  | row sz n f =>
    simp only [mapObj, Option.some.injEq] at ho; subst ho
    exact O_mono (σ := σ) h rfl (fun i g hi => by have := hi; exact hi) (fun g _ => hX g) (Step.refl _ _) |> fun q => by
      obtain ⟨arr, h1, h2, h3, h4⟩ := q
      exact ⟨arr, h1, h2, h3, h4⟩
  | bytes l => simp only [mapObj, Option.some.injEq] at ho; subst ho; exact h
  | dfr => simp only [mapObj, Option.some.injEq] at ho; subst ho; exact h
  | smap m => simp only [mapObj, Option.some.injEq] at ho; subst ho; exact h
  | map es =>
    simp only [mapObj, Option.some.injEq] at ho; subst ho
    obtain ⟨arr, clock, h1, h2, h3⟩ := h
    exact ⟨arr, clock, h1, VL_mono (fun g _ => hX g) (Step.refl _ _) _ _ _ _ (fun _ _ h => h) h2, VL_mono (fun g _ => hX g) (Step.refl _ _) _ _ _ _ (fun _ _ h => h) h3⟩
end

/-- What a call may reach, in the order in which it is met. -/
def footOf (args : List AV) (hp : Hp) : List Nat := reach hp 0 200 (idsL args) []
def aliveB (hp : Hp) (i : Nat) : Bool := match hp[i]? with
  | some (some _) => true
  | _ => false
def smallHp (L : List Nat) (hp : Hp) : Hp := L.map fun i => (hp.getD i none).bind (mapObj fun i => pos i L 0)
def backPh (L : List Nat) (N : Nat) : Ph := fun j => if j < L.length then L[j]? else some (N + (j - L.length))
def backHp (L : List Nat) (hp hs' : Hp) : Hp :=
  ((List.range hp.length).map fun i => match pos i L 0 with
    | some j => (hs'.getD j none).bind (mapObj (backPh L hp.length))
    | none => hp.getD i none) ++ (hs'.drop L.length).map fun o => o.bind (mapObj (backPh L hp.length))
/-- A contract over a small memory, put to work in a greater one. -/
def gcon (c : List AV → Hp → T (AV × Hp)) : List AV → Hp → T (AV × Hp) := fun args hp =>
  let L := footOf args hp
  match nodupB L && L.all (aliveB hp) with
  | true => (c (mapL (fun i => pos i L 0) args) (smallHp L hp)).bind fun r => match Nat.ble L.length r.2.length with
    | true => .leaf (mapAV (backPh L hp.length) r.1, backHp L hp r.2)
    | false => .fail
  | false => .fail

section
variable {P : Program} {X0 : Blk} {σ : Sub} {hp : Hp} {w : World}
theorem pos_some {i : Nat} : ∀ {L : List Nat} {k : Nat}, i ∈ L → ∃ j, pos i L k = some j
  | x :: L, k, h => by
    simp only [pos]
    by_cases e : i = x
    · rw [if_pos e]; exact ⟨k, rfl⟩
    · rw [if_neg e]
      exact pos_some ((List.mem_cons.1 h).resolve_left e)
theorem pos_none {i : Nat} {L : List Nat} {k : Nat} (h : pos i L k = none) : i ∉ L := fun hm => by
  obtain ⟨j, hj⟩ := pos_some (k := k) hm
  rw [hj] at h; cases h
theorem pos0_spec {i j : Nat} {L : List Nat} (h : pos i L 0 = some j) : L[j]? = some i := by
  have := (pos_spec i L 0 j h).2
  simpa using this

theorem gcon_frame {c : List AV → Hp → T (AV × Hp)} {f : FuncId} (hc : ∀ args hs r hs', (c args hs).run = some (r, hs') → ∀ X0 σ w (vargs : Array Value), Rel X0 σ hs w → VL (Xof X0 σ hs) w σ args vargs.toList → CallOk P f vargs w (Left X0 σ hs w r hs'))
    {args : List AV} {r3 : AV} {hp3 : Hp} (h : (gcon c args hp).run = some (r3, hp3)) {vargs : Array Value} (hR : Rel X0 σ hp w) (hV : VL (Xof X0 σ hp) w σ args vargs.toList) : CallOk P f vargs w (Left X0 σ hp w r3 hp3) := by
  unfold gcon at h
  simp only at h
  generalize footOf args hp = L at h
  split at h
  · rename_i hchk
    simp only [Bool.and_eq_true, List.all_eq_true] at hchk
    obtain ⟨hnd, halive⟩ := hchk
    obtain ⟨⟨r, hs'⟩, hrun, h2⟩ := bind_some_inv h
    simp only at h2
    split at h2
    · rename_i hle
      have hle : L.length ≤ hs'.length := Nat.le_of_ble_eq_true hle
      simp only [T.run_leaf, Option.some.injEq, Prod.mk.injEq] at h2
      obtain ⟨rfl, rfl⟩ := h2
      have hal : ∀ a, a ∈ L → ∃ o, hp[a]? = some (some o) := by
        intro a ha
        have := halive a ha
        unfold aliveB at this
        split at this
        · rename_i o ho; exact ⟨o, ho⟩
        · cases this
      have halL : ∀ (j a : Nat), L[j]? = some a → ∃ o, hp[a]? = some (some o) := fun j a hj => hal a (List.mem_of_getElem? hj)
      -- the small world
      let X1 : Blk := fun g => X0 g ∨ ∃ i o, hp[i]? = some (some o) ∧ σ i = some g ∧ i ∉ L
      let σ1 : Sub := fun j => (L[j]?).bind σ
      have hφ : Agree (fun i => pos i L 0) σ σ1 := by
        intro i j g hi hg
        have := pos0_spec hi
        show (L[j]?).bind σ = some g
        rw [this]; exact hg
      have hsGet : ∀ (j : Nat) (o' : AObj), (smallHp L hp)[j]? = some (some o') → ∃ (a : Nat) (o : AObj), L[j]? = some a ∧ hp[a]? = some (some o) ∧ mapObj (fun i => pos i L 0) o = some o' := by
        intro j o' hj
        unfold smallHp at hj
        rw [List.getElem?_map] at hj
        cases ha : L[j]? with
        | none => rw [ha] at hj; cases hj
        | some a =>
          rw [ha] at hj
          simp only [Option.map_some, Option.some.injEq] at hj
          obtain ⟨o, ho⟩ := halL j a ha
          rw [List.getD_eq_getElem?_getD, ho] at hj
          exact ⟨a, o, rfl, ho, hj⟩
      have hOwn1 : ∀ g, Own σ1 (smallHp L hp) g → ∃ (j a : Nat) (o : AObj), L[j]? = some a ∧ hp[a]? = some (some o) ∧ σ a = some g := by
        rintro g ⟨j, o', h1, h2⟩
        obtain ⟨a, o, q1, q2, _⟩ := hsGet j o' h1
        refine ⟨j, a, o, q1, q2, ?_⟩
        have h2' : (L[j]?).bind σ = some g := h2
        rw [q1] at h2'; exact h2'
      have hOwnSub : ∀ g, Own σ1 (smallHp L hp) g → Own σ hp g := fun g hg => by
        obtain ⟨j, a, o, _, q2, q3⟩ := hOwn1 g hg
        exact ⟨a, o, q2, q3⟩
      have hX1 : ∀ g, Xof X1 σ1 (smallHp L hp) g → Xof X0 σ hp g := by
        intro g hg
        rcases hg with (hg | ⟨i, o, h1, h2, _⟩) | hg
        · exact .inl hg
        · exact .inr ⟨i, o, h1, h2⟩
        · exact .inr (hOwnSub g hg)
      have hR1 : Rel X1 σ1 (smallHp L hp) w := by
        refine ⟨?_, ?_, ?_, ?_, ?_, ?_⟩
        · intro i j o o' g hi hj h1 h2
          obtain ⟨a, oa, q1, q2, _⟩ := hsGet i o hi
          obtain ⟨b, ob, q3, q4, _⟩ := hsGet j o' hj
          have h1' : (L[i]?).bind σ = some g := h1
          have h2' : (L[j]?).bind σ = some g := h2
          rw [q1] at h1'; rw [q3] at h2'
          have := hR.inj a b oa ob g q2 q4 h1' h2'
          subst this
          exact nodupB_inj hnd i j a q1 q3
        · intro i g hi
          have hi' : (L[i]?).bind σ = some g := hi
          cases ha : L[i]? with
          | none => rw [ha] at hi'; cases hi'
          | some a => rw [ha] at hi'; exact hR.lt a g hi'
        · rintro g (hg | ⟨i, o, h1, h2, _⟩)
          · exact hR.x0 g hg
          · exact hR.lt i g h2
        · intro i g hi hx
          have hi' : (L[i]?).bind σ = some g := hi
          cases ha : L[i]? with
          | none => rw [ha] at hi'; cases hi'
          | some a =>
            rw [ha] at hi'
            obtain ⟨o, ho⟩ := halL i a ha
            rcases hx with hx | ⟨k, o', h1, h2, h3⟩
            · exact hR.sep a g hi' hx
            · have := hR.inj a k o o' g ho h1 hi' h2
              subst this
              exact h3 (List.mem_of_getElem? ha)
        · intro i g hi
          have hi' : (L[i]?).bind σ = some g := hi
          cases ha : L[i]? with
          | none => rw [ha] at hi'; cases hi'
          | some a =>
            have := (List.getElem?_eq_some_iff.1 ha).1
            simpa [smallHp] using this
        · intro i o' hi
          obtain ⟨a, o, q1, q2, q3⟩ := hsGet i o' hi
          obtain ⟨g, g1, g2⟩ := hR.obj a o q2
          refine ⟨g, ?_, O_map hX1 hφ g2 q3⟩
          show (L[i]?).bind σ = some g
          rw [q1]; exact g1
      have hV1 := VL_mapL hX1 hφ args _ hV
      refine (hc _ _ _ _ hrun X1 σ1 w vargs hR1 hV1).mono ?_
      rintro v w' ⟨σ2, hsub, ⟨hstep, hown⟩, hR2, hv2⟩
      -- back
      let σ3 : Sub := fun i => if i < hp.length then σ i else σ2 (L.length + (i - hp.length))
      have hσ3 : ∀ i g, σ i = some g → σ3 i = some g := fun i g hi => by
        show (if i < hp.length then σ i else _) = _
        rw [if_pos (hR.dom i g hi)]; exact hi
      have hψ : Agree (backPh L hp.length) σ2 σ3 := by
        intro j i g hj hg
        unfold backPh at hj
        split at hj
        · rename_i hlt
          obtain ⟨o, ho⟩ := halL j i hj
          obtain ⟨g', hg', _⟩ := hR.obj i o ho
          have : σ1 j = some g' := by show (L[j]?).bind σ = some g'; rw [hj]; exact hg'
          have := hsub j g' this
          rw [hg] at this; injection this with this; subst this
          exact hσ3 i _ hg'
        · rename_i hge
          injection hj with hj; subst hj
          show (if hp.length + (j - L.length) < hp.length then _ else σ2 (L.length + (hp.length + (j - L.length) - hp.length))) = _
          rw [if_neg (by omega)]
          have : L.length + (hp.length + (j - L.length) - hp.length) = j := by omega
          rw [this]; exact hg
      -- what lies where
      have hback : ∀ (i : Nat) (o3 : AObj), (backHp L hp hs')[i]? = some (some o3) → (i ∉ L ∧ i < hp.length ∧ hp[i]? = some (some o3)) ∨
          ∃ (j : Nat) (o' : AObj), hs'[j]? = some (some o') ∧ mapObj (backPh L hp.length) o' = some o3 ∧ backPh L hp.length j = some i := by
        intro i o3 hi
        unfold backHp at hi
        by_cases hlt : i < hp.length
        · rw [List.getElem?_append_left (by simpa using hlt), List.getElem?_map, List.getElem?_range hlt] at hi
          simp only [Option.map_some, Option.some.injEq] at hi
          split at hi
          · rename_i j hj
            have hLj := pos0_spec hj
            right
            rw [List.getD_eq_getElem?_getD] at hi
            cases hs : hs'[j]? with
            | none => rw [hs] at hi; cases hi
            | some oo =>
              rw [hs] at hi
              simp only [Option.getD_some] at hi
              cases oo with
              | none => cases hi
              | some o' =>
                refine ⟨j, o', hs, hi, ?_⟩
                unfold backPh
                rw [if_pos (List.getElem?_eq_some_iff.1 hLj).1]; exact hLj
          · rename_i hn
            left
            rw [List.getD_eq_getElem?_getD, List.getElem?_eq_getElem hlt] at hi
            exact ⟨pos_none hn, hlt, by rw [List.getElem?_eq_getElem hlt]; simpa using hi⟩
        · rw [List.getElem?_append_right (by simpa using Nat.le_of_not_lt hlt)] at hi
          simp only [List.length_map, List.length_range, List.getElem?_map, List.getElem?_drop] at hi
          right
          cases hs : hs'[L.length + (i - hp.length)]? with
          | none => rw [hs] at hi; cases hi
          | some oo =>
            rw [hs] at hi
            simp only [Option.map_some, Option.some.injEq] at hi
            cases oo with
            | none => cases hi
            | some o' =>
              refine ⟨_, o', hs, hi, ?_⟩
              unfold backPh
              rw [if_neg (by omega)]
              congr 1; omega
      -- objects that were ours stay ours
      have hOwn2 : ∀ g, g < w.heap.size → Own σ2 hs' g → Own σ hp g := fun g hg hx => hOwnSub g (hown g hg hx)
      have hAB : ∀ (i : Nat) (o3 : AObj) (g : Nat), (backHp L hp hs')[i]? = some (some o3) → σ3 i = some g → (i ∉ L ∧ i < hp.length ∧ hp[i]? = some (some o3) ∧ σ i = some g) ∨ ∃ (j : Nat) (o' : AObj), hs'[j]? = some (some o') ∧ mapObj (backPh L hp.length) o' = some o3 ∧ backPh L hp.length j = some i ∧ σ2 j = some g := by
        intro i o3 g hi hg
        rcases hback i o3 hi with ⟨h1, h2, h3⟩ | ⟨j, o', h1, h2, h3⟩
        · left
          refine ⟨h1, h2, h3, ?_⟩
          have : (if i < hp.length then σ i else σ2 (L.length + (i - hp.length))) = some g := hg
          rwa [if_pos h2] at this
        · right
          obtain ⟨g2, hg2, _⟩ := hR2.obj j o' h1
          have := hψ j i g2 h3 hg2
          rw [hg] at this; injection this with this; subst this
          exact ⟨j, o', h1, h2, h3, hg2⟩
      have hX3 : ∀ g, Xof X0 σ3 (backHp L hp hs') g → Xof X1 σ2 hs' g := by
        rintro g (hg | ⟨i, o3, h1, h2⟩)
        · exact .inl (.inl hg)
        · rcases hAB i o3 g h1 h2 with ⟨q1, q2, q3, q4⟩ | ⟨j, o', q1, q2, q3, q4⟩
          · exact .inl (.inr ⟨i, o3, q3, q4, q1⟩)
          · exact .inr ⟨j, o', q1, q4⟩
      have hown3 : ∀ g, g < w.heap.size → Own σ3 (backHp L hp hs') g → Own σ hp g := by
        rintro g hg ⟨i, o3, h1, h2⟩
        rcases hAB i o3 g h1 h2 with ⟨q1, q2, q3, q4⟩ | ⟨j, o', q1, q2, q3, q4⟩
        · exact ⟨i, o3, q3, q4⟩
        · exact hOwn2 g hg ⟨j, o', q1, q4⟩
      have hstep3 : Step (Own σ hp) w w' := hstep.mono fun g _ hg => hOwnSub g hg
      have hstepX : Step (Xof X0 σ hp) w w' := hstep3.mono fun g _ hg => .inr hg
      refine ⟨σ3, hσ3, ⟨hstep3, hown3⟩, ?_, V_map hX3 hψ r v hv2⟩
      have hinjB : ∀ j j' i, backPh L hp.length j = some i → backPh L hp.length j' = some i → j = j' := by
        intro j j' i h1 h2
        unfold backPh at h1 h2
        split at h1 <;> split at h2
        · exact nodupB_inj hnd j j' i h1 h2
        · obtain ⟨o, ho⟩ := halL j i h1
          have := (List.getElem?_eq_some_iff.1 ho).1
          injection h2 with h2; omega
        · obtain ⟨o, ho⟩ := halL j' i h2
          have := (List.getElem?_eq_some_iff.1 ho).1
          injection h1 with h1; omega
        · injection h1 with h1; injection h2 with h2; omega
      refine ⟨?_, ?_, fun g hg => Nat.lt_of_lt_of_le (hR.x0 g hg) hstep.size, ?_, ?_, ?_⟩
      · intro i i' o o' g hi hi' h1 h2
        rcases hAB i o g hi h1 with ⟨q1, q2, q3, q4⟩ | ⟨j, ob, q1, q2, q3, q4⟩ <;> rcases hAB i' o' g hi' h2 with ⟨p1, p2, p3, p4⟩ | ⟨j', ob', p1, p2, p3, p4⟩
        · exact hR.inj i i' o o' g q3 p3 q4 p4
        · exact absurd (show X1 g from .inr ⟨i, o, q3, q4, q1⟩) (hR2.sep j' g p4)
        · exact absurd (show X1 g from .inr ⟨i', o', p3, p4, p1⟩) (hR2.sep j g q4)
        · have := hR2.inj j j' ob ob' g q1 p1 q4 p4
          subst this
          rw [q3] at p3; injection p3
      · intro i g hi
        have hi' : (if i < hp.length then σ i else σ2 (L.length + (i - hp.length))) = some g := hi
        split at hi'
        · exact Nat.lt_of_lt_of_le (hR.lt i g hi') hstep.size
        · exact hR2.lt _ g hi'
      · intro i g hi hx
        have hi' : (if i < hp.length then σ i else σ2 (L.length + (i - hp.length))) = some g := hi
        split at hi'
        · exact hR.sep i g hi' hx
        · exact hR2.sep _ g hi' (.inl hx)
      · intro i g hi
        have hi' : (if i < hp.length then σ i else σ2 (L.length + (i - hp.length))) = some g := hi
        simp only [backHp, List.length_append, List.length_map, List.length_range, List.length_drop]
        split at hi'
        · omega
        · have := hR2.dom _ g hi'; omega
      · intro i o3 hi
        rcases hback i o3 hi with ⟨q1, q2, q3⟩ | ⟨j, o', q1, q2, q3⟩
        · obtain ⟨g, g1, g2⟩ := hR.obj i o3 q3
          refine ⟨g, hσ3 i g g1, O_mono g2 ?_ hσ3 (fun g' hg' hx => ?_) hstepX⟩
          · refine hstep.keep g (hR.lt i g g1) ?_
            intro hx
            obtain ⟨k, a, o, p1, p2, p3⟩ := hOwn1 g hx
            have := hR.inj i a o3 o g q3 p2 g1 p3
            subst this
            exact q1 (List.mem_of_getElem? p1)
          · rcases hx with hx | hx
            · exact .inl hx
            · exact .inr (hown3 g' hg' hx)
        · obtain ⟨g, g1, g2⟩ := hR2.obj j o' q1
          exact ⟨g, hψ j i g q3 g1, O_map hX3 hψ g2 q2⟩
    · cases h2
  · cases h

theorem gcon_len {c : List AV → Hp → T (AV × Hp)} {args : List AV} {r3 : AV} {hp3 : Hp} (h : (gcon c args hp).run = some (r3, hp3)) : hp.length ≤ hp3.length := by
  unfold gcon at h
  simp only at h
  split at h
  · obtain ⟨⟨r, hs'⟩, hrun, h2⟩ := bind_some_inv h
    simp only at h2
    split at h2
    · simp only [T.run_leaf, Option.some.injEq, Prod.mk.injEq] at h2
      obtain ⟨_, rfl⟩ := h2
      simp only [backHp, List.length_append, List.length_map, List.length_range]; omega
    · cases h2
  · cases h

/-- What the objects of a heap are known to be. -/
def FitsO : Option AObj → Prop
  | some (.cells cs) => FitsL cs
  | some (.tcells _ cs) => FitsL cs
  | some (.row sz n f) => n ≤ bnd ∧ ∀ i c, i < n → c < sz → Fits (f i c)
  | some (.bytes l) => l.length ≤ bnd
  | some (.smap m) => ∀ p, p ∈ m → p.2.length ≤ bnd
  | some (.loop _ _ _ tm _ _ _ _) => FitsL tm
  | _ => True
theorem O_fits {X : Blk} {g : Nat} {o : AObj} (h : O X σ w g o) : FitsO (some o) := by
  cases o with
  | cells cs => obtain ⟨arr, _, h2⟩ := h; exact VL_fits _ _ _ h2
  | tcells t cs => obtain ⟨arr, _, h2, _⟩ := h; exact VL_fits _ _ _ h2
  | row sz n f =>
    obtain ⟨arr, h1, h2, h3, h4⟩ := h
    refine ⟨h3, fun i c hi hc => ?_⟩
    have hlt : i * sz + c < arr.size := by
      have : (i + 1) * sz ≤ n * sz := Nat.mul_le_mul_right _ hi
      rw [Nat.add_mul] at this
      omega
    exact V_fits _ _ _ (h4 i c _ hi hc (Array.getElem?_eq_getElem hlt))
  | bytes l => obtain ⟨arr, h1, h2, h3, h4⟩ := h; exact h3.1
  | loop hid st pe tm ps as bo d => obtain ⟨L, gd, h1, h2, h3, h4, _⟩ := h; exact VL_fits _ _ _ h4
  | dfr => trivial
  | map es => trivial
  | smap m => obtain ⟨arr, clock, h1, h2, h3⟩ := h; exact h3
def FitsH (hp : Hp) : Prop := ∀ o, o ∈ hp → FitsO o
theorem Rel.fits (hR : Rel X0 σ hp w) : FitsH hp := by
  intro o ho
  obtain ⟨i, hi⟩ := List.mem_iff_getElem?.1 ho
  cases o with
  | none => trivial
  | some o => obtain ⟨g, _, h⟩ := hR.obj i o hi; exact O_fits h

/-- **A CONTRACT OVER A SMALL MEMORY, OUT OF THE FUNCTION's TREE.** -/
theorem sound_mem {t : Tab} (ht : SoundTab P t) {f : FuncId} {c : List AV → Hp → T (AV × Hp)} {hn : HintsT} {m k : Nat} {Λ : LoopT}
    (hW : ∀ args hs r hs', (c args hs).run = some (r, hs') → ∀ i, i < (loopsOf (bodyOf P f)).length → LoopOk P t.pf (fun n => hd P t.pf t.con.run (fun f => (H0 f).to) n k) hn.to f hs.length none Λ (loopAt P f i))
    (h : ∀ args hs r hs', FitsL args → FitsH hs → (c args hs).run = some (r, hs') → (evFnT P t.pf (hdT P t.pf t.con H0 m k) hn m Λ f args hs).run = some (r, hs')) : Sound1 P ⟨f, false, gcon c⟩ where
  ok args hp r hp' hr X0 σ w vargs hR hV :=
    gcon_frame (fun args hs r hs' hrun X0 σ w vargs hR hV => (fn_call ht (within_at (hW args hs r hs' hrun)) (h args hs r hs' (VL_fits _ _ _ hV) hR.fits hrun) hR hV).1) hr hR hV
  len args hp r hp' hr := gcon_len hr
  pure hp := by cases hp
end
end Go.Ab
namespace Go.Ab
open Go
set_option linter.unusedVariables false
set_option linter.unusedSimpArgs false
variable {P : Program}
/-- sound_pure, the inner functions' hints given. -/
theorem sound_pureH {t : Tab} (ht : SoundTab P t) (hs : FuncId → HintsT) {f : FuncId} {c : List AV → T AV} {hn : HintsT} {m k : Nat} {Λ : LoopT}
    (hW : ∀ i, i < (loopsOf (bodyOf P f)).length → LoopOk P t.pf (fun n => hd P t.pf t.con.run (fun f => (hs f).to) n k) hn.to f 0 none Λ (loopAt P f i))
    (h : ∀ args r, FitsL args → (c args).run = some r → (evFnT P t.pf (hdT P t.pf t.con hs m k) hn m Λ f args []).run = some (r, [])) : Sound1 P ⟨f, true, pcon c⟩ where
  ok args hp r hp' hr X0 σ w vargs hR hV := by
    obtain ⟨h1, h2, h3, rfl, h4⟩ := pcon_run hr
    have hV' : VL (Xof (Xof X0 σ hp') (fun _ => none) []) w (fun _ => none) args vargs.toList := by rw [Xof_empty]; exact VL_noref h1 hV
    have := (fn_call ht (within_at hW) (h args r (VL_fits _ _ _ hV) h2) hR.empty hV').1
    exact this.mono fun v w' hl => hl.frame0 hR h3
  len args hp r hp' hr := by
    obtain ⟨_, _, _, rfl, _⟩ := pcon_run hr; exact Nat.le_refl _
  pure _ args hp r hp' hr := by
    obtain ⟨_, _, _, rfl, h4⟩ := pcon_run hr; exact ⟨rfl, h4⟩
end Go.Ab
namespace Go.Ab
open Go
set_option linter.unusedVariables false
set_option linter.unusedSimpArgs false
variable {P : Program}
theorem wrap64 {n : Int} (h1 : -9223372036854775808 ≤ n) (h2 : n < 9223372036854775808) : IntKind.i64.wrap n = n := by
  rw [IntKind.wrap_i64]; omega
theorem drop_at {s : List UInt8} {i : Int} (h0 : 0 ≤ i) (h : i < s.length) : s.drop i.toNat = s.getD i.toNat 0 :: s.drop (i + 1).toNat := by
  have e : (i + 1).toNat = i.toNat + 1 := by omega
  rw [e, List.drop_eq_getElem_cons (by omega), List.getD_eq_getElem?_getD, List.getElem?_eq_getElem (by omega)]; rfl
/-- Of each byte from a place on. -/
def allD (q : Int → Bool) (s : List UInt8) (i : Int) : Bool := (s.drop i.toNat).all fun b => q (b.toNat : Int)
theorem allD_step {q : Int → Bool} {s : List UInt8} {i : Int} (h0 : 0 ≤ i) (h : i < s.length) : allD q s i = (q ((s.getD i.toNat 0).toNat : Int) && allD q s (i + 1)) := by
  unfold allD; rw [drop_at h0 h, List.all_cons]
theorem allD_end {q : Int → Bool} {s : List UInt8} {i : Int} (h : s.length ≤ i) : allD q s i = true := by
  unfold allD; rw [List.drop_of_length_le (by omega)]; rfl
theorem allD_zero {q : Int → Bool} {s : List UInt8} : allD q s 0 = s.all fun b => q (b.toNat : Int) := rfl
/-- **A LOOP THAT ASKS EACH BYTE OF A TEXT.** -/
theorem all_con {pf : FuncId → Bool} {HT : HdT} {H : Nat → Hd} (hH : LeH HT H) {hn : HintsT} {hid base : Nat} {rd : Option Nat} {m : Nat} {Λ : LoopT} {c : Code} {D : List AV → Hp → T (AX × St)} {lv : List Bool}
    (hW : Within (LoopOk P pf H hn.to hid base rd Λ) c) (hΛ : Λ (lkey c) = some (lcon lv D))
    {Y : Type} (enc : Y → Int → List AV × Hp) (str : Y → List UInt8) (q : Y → Int → Bool) (done bad : Y → AX × St) (p : Y → Prop)
    (hD : ∀ vs hp r, (D vs hp).run = some r → ∃ y i, (vs, hp) = enc y i ∧ p y ∧ 0 ≤ i ∧ i ≤ (str y).length ∧ (str y).length ≤ bnd ∧ r = if allD (q y) (str y) i = true then done y else bad y)
    (h1 : ∀ (y : Y) (i : Int), p y → 0 ≤ i → i < (str y).length → IntKind.i64.wrap (i + 1) = i + 1 → (roundT P pf HT hn hid base rd m Λ c { tm := encGo lv (enc y i).1, ms := [], hp := (enc y i).2 }).run =
      if q y (((str y).getD i.toNat 0).toNat : Int) = true then some (.normal, { tm := encGo lv (enc y (i + 1)).1, ms := [], hp := (enc y (i + 1)).2 }) else some (bad y))
    (h2 : ∀ y, p y → (roundT P pf HT hn hid base rd m Λ c { tm := encGo lv (enc y (str y).length).1, ms := [], hp := (enc y (str y).length).2 }).run = some (done y))
    (h3 : ∀ y, (done y).1 ≠ .normal ∧ (bad y).1 ≠ .normal) : LoopOk P pf H hn.to hid base rd Λ (.loop c) := by
  refine loop_con (m := m) hH hW hΛ (X := Y × Int) (fun x => enc x.1 x.2) (fun x => if allD (q x.1) (str x.1) x.2 = true then done x.1 else bad x.1) (fun x => p x.1 ∧ 0 ≤ x.2 ∧ x.2 ≤ (str x.1).length ∧ (str x.1).length ≤ bnd) (fun x => ((str x.1).length - x.2).toNat) ?_ ?_
  · intro vs hp r hr
    obtain ⟨y, i, e1, e2, e3, e4, e5, e6⟩ := hD vs hp r hr
    exact ⟨(y, i), e1, ⟨e2, e3, e4, e5⟩, e6⟩
  · rintro ⟨y, i⟩ ⟨hp, h0, hl, hb⟩
    simp only at hp h0 hl hb ⊢
    simp only [bnd] at hb
    by_cases hlt : i < (str y).length
    · have hr := h1 y i hp h0 hlt (wrap64 (by omega) (by omega))
      rw [allD_step h0 hlt]
      cases hq : q y (((str y).getD i.toNat 0).toNat : Int) with
      | true =>
        rw [hq, if_pos rfl] at hr
        left
        refine ⟨(y, i + 1), ⟨hp, by simp only; omega, by simp only; omega, by simp only [bnd]; omega⟩, by simp only; omega, ?_, hr⟩
        simp
      | false =>
        rw [hq, if_neg (by simp)] at hr
        right
        refine ⟨by simpa using hr, by simpa using (h3 y).2⟩
    · obtain rfl : i = (str y).length := by omega
      right
      rw [allD_end (Int.le_refl _), if_pos rfl]
      exact ⟨h2 y hp, (h3 y).1⟩
/-- The first place from i on at which q fails; or the end. -/
def firstX (q : Int → Bool) (s : List UInt8) (i : Int) : Int := i + (((s.drop i.toNat).takeWhile fun b => q (b.toNat : Int)).length : Nat)
theorem firstX_step {q : Int → Bool} {s : List UInt8} {i : Int} (h0 : 0 ≤ i) (h : i < s.length) : firstX q s i = if q ((s.getD i.toNat 0).toNat : Int) = true then firstX q s (i + 1) else i := by
  unfold firstX; rw [drop_at h0 h, List.takeWhile_cons]
  split <;> simp <;> omega
theorem firstX_end {q : Int → Bool} {s : List UInt8} {i : Int} (h : s.length ≤ i) : firstX q s i = i := by
  unfold firstX; rw [List.drop_of_length_le (by omega)]; simp
theorem takeWhile_le {α : Type} (q : α → Bool) : ∀ l : List α, (l.takeWhile q).length ≤ l.length
  | [] => by simp
  | b :: l => by
    have := takeWhile_le q l
    rw [List.takeWhile_cons]; split <;> simp <;> omega
theorem firstX_le {q : Int → Bool} {s : List UInt8} {i : Int} (h0 : 0 ≤ i) (h : i ≤ s.length) : i ≤ firstX q s i ∧ firstX q s i ≤ s.length := by
  unfold firstX
  have := takeWhile_le (fun b : UInt8 => q (b.toNat : Int)) (s.drop i.toNat)
  simp only [List.length_drop] at this
  omega
/-- **A LOOP THAT SEEKS THE FIRST BYTE OF WHICH q DOES NOT HOLD.** -/
theorem find_con {pf : FuncId → Bool} {HT : HdT} {H : Nat → Hd} (hH : LeH HT H) {hn : HintsT} {hid base : Nat} {rd : Option Nat} {m : Nat} {Λ : LoopT} {c : Code} {D : List AV → Hp → T (AX × St)} {lv : List Bool}
    (hW : Within (LoopOk P pf H hn.to hid base rd Λ) c) (hΛ : Λ (lkey c) = some (lcon lv D))
    {Y : Type} (enc : Y → Int → List AV × Hp) (str : Y → List UInt8) (q : Y → Int → Bool) (done : Y → AX × St) (bad : Y → Int → AX × St) (p : Y → Prop)
    (hD : ∀ vs hp r, (D vs hp).run = some r → ∃ y i, (vs, hp) = enc y i ∧ p y ∧ 0 ≤ i ∧ i ≤ (str y).length ∧ (str y).length ≤ bnd ∧ r = if firstX (q y) (str y) i = (str y).length then done y else bad y (firstX (q y) (str y) i))
    (h1 : ∀ (y : Y) (i : Int), p y → 0 ≤ i → i < (str y).length → IntKind.i64.wrap (i + 1) = i + 1 → (roundT P pf HT hn hid base rd m Λ c { tm := encGo lv (enc y i).1, ms := [], hp := (enc y i).2 }).run =
      if q y (((str y).getD i.toNat 0).toNat : Int) = true then some (.normal, { tm := encGo lv (enc y (i + 1)).1, ms := [], hp := (enc y (i + 1)).2 }) else some (bad y i))
    (h2 : ∀ y, p y → (roundT P pf HT hn hid base rd m Λ c { tm := encGo lv (enc y (str y).length).1, ms := [], hp := (enc y (str y).length).2 }).run = some (done y))
    (h3 : ∀ y i, (done y).1 ≠ .normal ∧ (bad y i).1 ≠ .normal) : LoopOk P pf H hn.to hid base rd Λ (.loop c) := by
  refine loop_con (m := m) hH hW hΛ (X := Y × Int) (fun x => enc x.1 x.2) (fun x => if firstX (q x.1) (str x.1) x.2 = (str x.1).length then done x.1 else bad x.1 (firstX (q x.1) (str x.1) x.2)) (fun x => p x.1 ∧ 0 ≤ x.2 ∧ x.2 ≤ (str x.1).length ∧ (str x.1).length ≤ bnd) (fun x => ((str x.1).length - x.2).toNat) ?_ ?_
  · intro vs hp r hr
    obtain ⟨y, i, e1, e2, e3, e4, e5, e6⟩ := hD vs hp r hr
    exact ⟨(y, i), e1, ⟨e2, e3, e4, e5⟩, e6⟩
  · rintro ⟨y, i⟩ ⟨hp, h0, hl, hb⟩
    simp only at hp h0 hl hb ⊢
    simp only [bnd] at hb
    by_cases hlt : i < (str y).length
    · have hr := h1 y i hp h0 hlt (wrap64 (by omega) (by omega))
      rw [firstX_step h0 hlt]
      cases hq : q y (((str y).getD i.toNat 0).toNat : Int) with
      | true =>
        rw [hq, if_pos rfl] at hr
        left
        refine ⟨(y, i + 1), ⟨hp, by simp only; omega, by simp only; omega, by simp only [bnd]; omega⟩, by simp only; omega, ?_, hr⟩
        simp
      | false =>
        rw [hq, if_neg (by simp)] at hr
        right
        have hne : ¬ i = (str y).length := by omega
        simp only [Bool.false_eq_true, if_false, if_neg hne]
        exact ⟨hr, (h3 y i).2⟩
    · obtain rfl : i = (str y).length := by omega
      right
      rw [firstX_end (Int.le_refl _), if_pos rfl]
      exact ⟨h2 y hp, (h3 y 0).1⟩
end Go.Ab
namespace Go.Ab
open Go
set_option linter.unusedVariables false
set_option linter.unusedSimpArgs false

/-! ### From a tree to a law's statement -/
section
variable {P : Program} {H : Type} {enc : TypeId × Value → H} {W W' : World}
theorem step_kept (h : Step (fun _ => False) W W') : W.keptBut W' (fun _ => False) := by
  refine ⟨h.os, h.output, fun i hi => ?_⟩
  rw [h.keep i hi id]
  cases W.heap[i]? with
  | none => trivial
  | some o => cases o <;> simp
theorem step_same (h : Step (fun _ => False) W W') {p : MemPlace} (hp : p.block < W.heap.size) : W.sameAt W' p := by
  cases p with
  | cell b off =>
    have := h.keep b hp id
    show W'.cell? ⟨b, off, none⟩ = W.cell? ⟨b, off, none⟩
    simp only [World.cell?, this]
  | map b => exact h.keep b hp id
theorem args_stay (hl : laidOutB P = true) (h : Step (fun _ => False) W W') (sp : Nat → Bool) : ∀ {ts : List TypeId} {vs : List Value} {ds : List (DataW H)} {ps : List MemPlace},
    (∀ t, t ∈ ts → P.readableRec t = true ∧ t < P.types.size) → DataW.TrodAll enc P W 0 (fun _ => true) true ts vs ds ps → (∀ p ∈ ps, p.block < W.heap.size) → (∀ p ∈ ps, sp p.block = true) → DataW.TrodAll enc P W' 0 sp true ts vs ds ps
  | [], [], [], ps, hr, hT, hlt, hs => hT
  | t :: ts, v :: vs, d :: ds, ps, hr, ⟨p, q, h1, h2, e⟩, hlt, hs => by
    subst e
    have ht := hr t (by simp)
    exact ⟨p, q, WideElems.Trod_stays hl ht.1 ht.2 h1 (fun x hx => step_same h (hlt x (by simp [hx]))) (fun x hx => hs x (by simp [hx])),
      args_stay hl h sp (fun t ht => hr t (by simp [ht])) h2 (fun x hx => hlt x (by simp [hx])) (fun x hx => hs x (by simp [hx])), rfl⟩
  | [], _ :: _, _, _, _, hT, _, _ => hT.elim
  | [], [], _ :: _, _, _, hT, _, _ => hT.elim
  | _ :: _, [], _, _, _, hT, _, _ => hT.elim
  | _ :: _, _ :: _, [], _, _, hT, _, _ => hT.elim
/-- **A LAW's END**: it returned true, and nothing of what was there has turned. -/
theorem law_post {fn : Func} {s : ChangeSpec} {args : Array Value} {ds gs : List (DataW H)} {before : List MemPlace} {apart fresh handsOn : Bool} {tb : TypeId}
    (hl : laidOutB P = true) (hr : ∀ t, t ∈ fn.params.toList → P.readableRec t = true ∧ t < P.types.size)
    (hres : fn.resultTypes = #[tb]) (htb : P.underlying tb = some .bool) (hv : s.vars = [])
    (hW : DataW.Whole enc P fn.params.toList s.vars apart W args.toList ds gs before) (hs : Step (fun _ => False) W W')
    (hspec : s.fn H ds = { results := [.lit (.bool true)], args := ds }) : s.post enc P fn apart fresh handsOn false W args (.bool true) W' := by
  obtain ⟨p, q, hA, hV, rfl, hfz, hnd⟩ := hW
  have hlt := DataW.Whole.lt (⟨p, q, hA, hV, rfl, hfz, hnd⟩ : DataW.Whole enc P fn.params.toList s.vars apart W args.toList ds gs (p ++ q))
  have hV' := hV
  rw [hv] at hV
  have hgs : gs = [] ∧ q = [] := by
    cases gs with
    | nil => exact ⟨rfl, hV⟩
    | cons _ _ => exact hV.elim
  obtain ⟨rfl, rfl⟩ := hgs
  simp only [List.append_nil] at hlt
  have hold : ∀ x ∈ p, (fun b => decide (b < W.heap.size)) x.block = true := fun x hx => by simpa using hlt x hx
  refine ⟨ds, [], p ++ [], [], p, [], ⟨p, [], hA, hV', rfl, hfz, hnd⟩, ?_, ?_, ?_, ?_, fun h => by cases h⟩
  · rw [List.append_nil, hspec, hres]
    refine ⟨[], [], ⟨1, ?_⟩, rfl, rfl⟩
    simp [Value.cells, DataW.trod, DataW.trodStep, htb]
  · rw [List.append_nil, hspec]
    exact args_stay hl hs _ hr hA hlt hold
  · rw [List.append_nil, hspec, hv]
    rfl
  · exact World.keptBut_mono (fun _ f => f.elim) (step_kept hs)

theorem rel_start (W : World) : Rel (fun _ => False) (fun _ => none) [] W :=
  ⟨(fun i j o o' g h => by simp at h), (fun i g h => by cases h), (fun g hg => hg.elim), (fun i g h => by cases h), (fun i g h => by cases h), (fun i o h => by simp at h)⟩
theorem xof_start : Xof (fun _ => False) (fun _ => none) [] = fun _ => False := funext fun g => propext ⟨fun h => h.elim id fun ⟨i, o, h1, _⟩ => by simp at h1, fun h => h.elim⟩
/-- **A LAW's CALL, OUT OF ITS TREE.** -/
theorem law_calls {t : Tab} (ht : SoundTab P t) {hs : FuncId → HintsT} {f : FuncId} {hn : HintsT} {m k : Nat} {Λ : LoopT} {av : List AV} {vargs : Array Value}
    (hW : ∀ i, i < (loopsOf (bodyOf P f)).length → LoopOk P t.pf (fun n => hd P t.pf t.con.run (fun f => (hs f).to) n k) hn.to f 0 none Λ (loopAt P f i))
    (he : enterable P f = true) (hrun : (evFnT P t.pf (hdT P t.pf t.con hs m k) hn m Λ f av []).run = some (.bool true, [])) (hV : VL (fun _ => False) W (fun _ => none) av vargs.toList) :
    Calls P f vargs W fun e W' => e = .returned (.bool true) ∧ Step (fun _ => False) W W' := by
  have hV' : VL (Xof (fun _ => False) (fun _ => none) []) W (fun _ => none) av vargs.toList := by rw [xof_start]; exact hV
  have hc := (fn_call ht (within_at hW) hrun (rel_start W) hV').1
  rcases hc with ⟨_, h2⟩ | ⟨v, w', h1, _⟩
  · refine (callsIn_wide.1 h2).mono fun e w' ⟨v, e1, σ', h1, ⟨h2, h3⟩, h4, h5⟩ => ?_
    rw [own_nil] at h2
    simp only [V] at h5
    exact ⟨by rw [e1, h5], h2⟩
  · rw [enter_of he] at h1
    cases h1
end

/-! ### Arguments of plain data -/
section
variable {P : Program} {H : Type} {enc : TypeId × Value → H} {W : World}
theorem V_string {X : Blk} {σ : Sub} {s : ByteArray} (h : s.size ≤ bnd) : V X W σ (.str s.data.toList) (.string s) := by
  simp only [V]
  exact ⟨by first | trivial | rfl, by simpa using h⟩
theorem V_lit {X : Blk} {σ : Sub} {k : IntKind} {n : Int} (h : (Lit.int k n).wf = true) : V X W σ (.int k n) (.int k n) := by
  simp only [Lit.wf, Bool.and_eq_true, decide_eq_true_eq] at h
  simp only [V]
  exact ⟨by first | trivial | rfl, h⟩
/-- A struct of three texts. -/
theorem open_str3 {r : Reach} {b0 base : Nat} {sp : Nat → Bool} {held : Bool} {t : TypeId} {f0 f1 f2 : Field} {v : Value} {d : DataW H} {ps : List MemPlace} (ht : P.underlying t = some (.struct #[f0, f1, f2]))
    (h0 : P.underlying f0.type = some .string) (h1 : P.underlying f1.type = some .string) (h2 : P.underlying f2.type = some .string) (o0 : f0.offset = 0) (o1 : f1.offset = 1) (o2 : f2.offset = 2)
    (c : P.cellsOf t = 3) (c0 : P.cellsOf f0.type = 1) (c1 : P.cellsOf f1.type = 1) (c2 : P.cellsOf f2.type = 1)
    (hval : Value.okWide P W r b0 t v) (hd : DataW.Trod enc P W base sp held t v d ps) :
    ∃ x y z : ByteArray, v = .agg #[.string x, .string y, .string z] ∧ d = .agg [.lit (.string x.data.toList), .lit (.string y.data.toList), .lit (.string z.data.toList)] ∧ ps = [] := by
  have str : ∀ {n : Nat} {u : TypeId} {a : Value} {q : DataW H × List MemPlace}, P.underlying u = some .string → DataW.trod enc P W base sp held n u [a] = some q → ∃ x : ByteArray, a = .string x ∧ q = (.lit (.string x.data.toList), []) := by
    intro n u a q hu hq
    obtain ⟨n, rfl⟩ : ∃ m, n = m + 1 := by cases n with
      | zero => simp [DataW.trod] at hq
      | succ m => exact ⟨m, rfl⟩
    cases a <;> simp [DataW.trod, hu] at hq
    rename_i x
    exact ⟨x, rfl, hq.2.symm⟩
  have hval' := hval
  unfold Value.okWide at hval'
  rw [ht] at hval'
  obtain ⟨cs, rfl, hsz, _⟩ := hval'
  rw [c] at hsz
  obtain ⟨cs⟩ := cs
  obtain ⟨a0, a1, a2, rfl⟩ : ∃ a0 a1 a2, cs = [a0, a1, a2] := by
    simp only [List.size_toArray] at hsz
    match cs, hsz with
    | [x, y, z], _ => exact ⟨x, y, z, rfl⟩
  obtain ⟨n, hn⟩ := hd
  obtain ⟨n, rfl⟩ : ∃ m, n = m + 1 := by cases n with
    | zero => simp [DataW.trod] at hn
    | succ m => exact ⟨m, rfl⟩
  simp only [Value.cells, DataW.trod, ht, List.length_cons, List.length_nil, c, if_true, List.mapM_cons, List.mapM_nil, o0, o1, o2, c0, c1, c2, List.drop_zero, List.take_succ_cons, List.take_zero, List.drop_succ_cons, Option.map_eq_some_iff, Option.bind_eq_bind, Option.bind_eq_some_iff, Option.pure_def, Option.some.injEq] at hn
  obtain ⟨xs, ⟨q0, e0, q1', ⟨q1, e1, q2', ⟨q2, e2, q3, e3, e4⟩, e5⟩, e6⟩, e7⟩ := hn
  obtain ⟨x, rfl, rfl⟩ := str h0 e0
  obtain ⟨y, rfl, rfl⟩ := str h1 e1
  obtain ⟨z, rfl, rfl⟩ := str h2 e2
  subst e3 e4 e5 e6
  simp at e7
  exact ⟨x, y, z, rfl, e7.1.symm, e7.2⟩
end

/-- What a reading lays. -/
def flatD {H : Type} : Nat → DataW H → List Value
  | 0, _ => []
  | n + 1, .lit (.int k i) => [.int k i]
  | n + 1, .lit (.bool b) => [.bool b]
  | n + 1, .agg ps => ps.flatMap (flatD n)
  | _, _ => []
/-- A settled world in which the listed variables lie. -/
noncomputable def laidWorld (P : Program) (os : Os) (l : List (Nat × List Value)) : World :=
  l.foldl (fun w x => { w with heap := w.heap.modify x.1 fun
      | .cells _ t frozen => .cells x.2.toArray t frozen
      | o => o }) (World.holding P os ⟨#[], #[], []⟩)
end Go.Ab

/- Lemmas for the claims of this seat (a verified symbolic evaluator, and contracts of functions): own work; no condition. -/
import Derived.Test.YtbpfgbdibjlgjaaDoorFnB
namespace Go.Deb

open Go Go.Proofs Go.Ab

set_option linter.unusedVariables false

set_option linter.unusedSimpArgs false

/-! ### dovetailref04.digit, letter, part -/

theorem t46 (c : Int) : (evn tabQ h46 noLoops 46 [.int .u8 c] []).run =
  bif decide (c ≥ (48 : Int)) then
   some ((AV.bool (decide (c ≤ (57 : Int))), []))
  else
   some ((AV.bool false, [])) := by kernel_rfl
theorem t64 (c : Int) : (evn tabQ h64 noLoops 64 [.int .u8 c] []).run =
  bif decide (c ≥ (97 : Int)) then
   bif decide (c ≤ (122 : Int)) then
    some ((AV.bool true, []))
   else
    bif decide (c ≥ (65 : Int)) then
     some ((AV.bool (decide (c ≤ (90 : Int))), []))
    else
     some ((AV.bool false, []))
  else
   bif decide (c ≥ (65 : Int)) then
    some ((AV.bool (decide (c ≤ (90 : Int))), []))
   else
    some ((AV.bool false, [])) := by kernel_rfl

def c46 : List AV → T AV
  | [.int .u8 c] => .leaf (.bool (dig c))
  | _ => .fail

def c64 : List AV → T AV
  | [.int .u8 c] => .leaf (.bool (let_ c))
  | _ => .fail

theorem s46 : Sound1 Tryd.prog ⟨46, true, pcon c46⟩ := by
  refine sound_pure okQ (hn := h46) (m := 20) (k := 9) (Λ := noLoops) (fun i hi => anyLoops) fun args r hF h => ?_
  unfold c46 at h
  split at h
  · rename_i c
    simp only [T.run_leaf, Option.some.injEq] at h; subst h
    refine (t46 c).trans ?_
    simp only [dig, Bool.cond_eq_ite]
    (repeat' split) <;> grind
  · cases h

theorem s64 : Sound1 Tryd.prog ⟨64, true, pcon c64⟩ := by
  refine sound_pure okQ (hn := h64) (m := 20) (k := 9) (Λ := noLoops) (fun i hi => anyLoops) fun args r hF h => ?_
  unfold c64 at h
  split at h
  · rename_i c
    simp only [T.run_leaf, Option.some.injEq] at h; subst h
    refine (t64 c).trans ?_
    simp only [let_, Bool.cond_eq_ite]
    (repeat' split) <;> grind
  · cases h

def tabR : Tab := ⟨64, true, pcon c64⟩ :: ⟨46, true, pcon c46⟩ :: tabQ

theorem allR : ∀ e, e ∈ tabR → Sound1 Tryd.prog e := sound_mem_tab s64 (sound_mem_tab s46 allQ)

theorem okR : SoundTab Tryd.prog tabR := soundTab_of allR

theorem t47 (c : Int) : (evn tabR h47 noLoops 47 [.int .u8 c] []).run =
  bif dig c then
   some ((AV.bool true, []))
  else
   bif let_ c then
    some ((AV.bool true, []))
   else
    bif c == (46 : Int) then
     some ((AV.bool true, []))
    else
     bif c == (43 : Int) then
      some ((AV.bool true, []))
     else
      some ((AV.bool (c == (126 : Int)), [])) := by kernel_rfl

def prtB (c : Int) : Bool := dig c || let_ c || c == 46 || c == 43 || c == 126

def c47 : List AV → T AV
  | [.int .u8 c] => .leaf (.bool (prtB c))
  | _ => .fail

theorem s47 : Sound1 Tryd.prog ⟨47, true, pcon c47⟩ := by
  refine sound_pure okR (hn := h47) (m := 20) (k := 9) (Λ := noLoops) (fun i hi => anyLoops) fun args r hF h => ?_
  unfold c47 at h
  split at h
  · rename_i c
    simp only [T.run_leaf, Option.some.injEq] at h; subst h
    refine (t47 c).trans ?_
    simp only [prtB]
    cases dig c <;> cases let_ c <;> cases (c == 46) <;> cases (c == 43) <;> cases (c == 126) <;> rfl
  · cases h

def tabS : Tab := ⟨47, true, pcon c47⟩ :: tabR

theorem allS : ∀ e, e ∈ tabS → Sound1 Tryd.prog e := sound_mem_tab s47 allR

theorem okS : SoundTab Tryd.prog tabS := soundTab_of allS

/-! ### dovetailref04.alldigits -/

def en44 (s : List UInt8) (i : Int) : List AV × Hp := ([.str s, .int .i64 i], [])

def bad44 (s : List UInt8) : AX × St := (.ret, { tm := tmOf 18 [(2, .bool false)], ms := [], hp := [] })

def dn44 (s : List UInt8) : AX × St := (.exit 0, { tm := tmOf 18 [(0, .str s), (3, .int .i64 s.length), (7, .bool false)], ms := [], hp := [] })

def D44 : List AV → Hp → T (AX × St)
  | [.str s, .int .i64 i], [] => .chk (decide (0 ≤ i ∧ i ≤ s.length ∧ s.length ≤ bnd)) (.br (allD dig s i) (.leaf (dn44 s)) (.leaf (bad44 s)))
  | _, _ => .fail

def L44 : LoopT := fun k => match Nat.beq k 200029 with
  | true => some (lcon (mbits 9 18) D44)
  | false => none

theorem r44 (s : List UInt8) (i : Int) : (rdn tabS h44 L44 44 0 0 { tm := encGo (mbits 9 18) (en44 s i).1, ms := [], hp := (en44 s i).2 }).run =
  bif decide (i < (↑s.length : Int)) then
   bif decide ((0 : Int) ≤ i ∧ i < (↑s.length : Int)) then
    bif !dig (↑(s.getD i.toNat (0 : UInt8)).toNat : Int) then
     some ((AX.ret, { tm := tmOf 18 [(2, AV.bool false)], ms := [], hp := [] }))
    else
     some ((AX.normal, { tm := tmOf 18 [(0, AV.str s), (3, AV.int IntKind.i64 (IntKind.i64.wrap (i + (1 : Int))))], ms := [], hp := [] }))
   else
    none
  else
   some ((AX.exit 0, { tm := tmOf 18 [(0, AV.str s), (3, AV.int IntKind.i64 i), (7, AV.bool false)], ms := [], hp := [] })) := by kernel_rfl

theorem l44 : LoopOk Tryd.prog tabS.pf (fun n => hd Tryd.prog tabS.pf tabS.con.run (fun f => (H0 f).to) n 9) h44.to 44 0 none L44 (loopAt Tryd.prog 44 0) := by
  rw [show loopAt Tryd.prog 44 0 = .loop (lbody Tryd.prog 44 0) by kernel_rfl]
  refine all_con (hdT_le (m := 20) 9) (m := 20) (within_of _ (by rw [show loopsOf (lbody Tryd.prog 44 0) = [] by kernel_rfl]; simp)) (D := D44) (lv := mbits 9 18) (by kernel_rfl)
    en44 (fun s => s) (fun _ => dig) dn44 bad44 (fun _ => True) ?_ ?_ ?_ (fun y => ⟨by simp [dn44], by simp [bad44]⟩)
  · intro vs hp r h
    unfold D44 at h
    split at h
    · rename_i s i
      rw [T.run_chk] at h
      split at h
      · rename_i hc
        have hc := of_decide_eq_true hc
        refine ⟨s, i, rfl, trivial, hc.1, hc.2.1, hc.2.2, ?_⟩
        rw [T.run_br] at h
        split at h <;> rename_i hq
        · rw [if_pos hq]; exact (Option.some.inj h).symm
        · rw [if_neg hq]; exact (Option.some.inj h).symm
      · cases h
    · cases h
  · rintro s i _ h0 hl hw
    refine (r44 _ _).trans ?_
    simp only [Bool.cond_eq_ite]
    rw [if_pos (by simpa using hl), if_pos (by simp; omega)]
    simp only [hw]
    cases dig ((s.getD i.toNat 0).toNat : Int) <;> rfl
  · rintro s _
    refine (r44 _ _).trans ?_
    simp only [Int.lt_irrefl, decide_false, cond_false]
    rfl

theorem t44 (s : List UInt8) : (evn tabS h44 L44 44 [.str s] []).run =
  bif decide ((0 : Int) ≤ (0 : Int) ∧ (0 : Int) ≤ (↑s.length : Int) ∧ s.length ≤ 4611686018427387903) then
   bif allD dig s (0 : Int) then
    some ((AV.bool (decide ((↑s.length : Int) > (0 : Int))), []))
   else
    some ((AV.bool false, []))
  else
   none := by kernel_rfl

def adg (s : List UInt8) : Bool := allD dig s 0 && !(s == [])

def c44 : List AV → T AV
  | [.str s] => .leaf (.bool (adg s))
  | _ => .fail

theorem s44 : Sound1 Tryd.prog ⟨44, true, pcon c44⟩ := by
  refine sound_pure okS (hn := h44) (m := 20) (k := 9) (Λ := L44) (oneLoop (by kernel_rfl) l44) fun args r hF h => ?_
  unfold c44 at h
  split at h
  · rename_i s
    simp only [T.run_leaf, Option.some.injEq] at h; subst h
    have hb : s.length ≤ bnd := hF.1
    simp only [bnd] at hb
    refine (t44 s).trans ?_
    unfold adg
    have g : decide ((0 : Int) ≤ 0 ∧ (0 : Int) ≤ (s.length : Int) ∧ s.length ≤ 4611686018427387903) = true := by simp; omega
    rw [g]
    cases allD dig s 0
    · rfl
    · cases s <;> simp
  · cases h

/-! ### dovetailref01.Trim -/

def bad45 (s : List UInt8) (i : Int) : AX × St := (.exit 0, { tm := tmOf 23 [(0, .str s), (3, .int .i64 i), (13, .bool false)], ms := [], hp := [] })

def zer (c : Int) : Bool := c == 48

def D45 : List AV → Hp → T (AX × St)
  | [.str s, .int .i64 i], [] => .chk (decide (0 ≤ i ∧ i ≤ s.length ∧ s.length ≤ bnd)) (.leaf (bad45 s (firstX zer s i)))
  | _, _ => .fail

def L45 : LoopT := fun k => match Nat.beq k 200021 with
  | true => some (lcon (mbits 9 23) D45)
  | false => none

theorem r45 (s : List UInt8) (i : Int) : (rdn tabS h45 L45 45 0 0 { tm := encGo (mbits 9 23) (en44 s i).1, ms := [], hp := (en44 s i).2 }).run =
  bif decide (i < (↑s.length : Int)) then
   bif decide ((0 : Int) ≤ i ∧ i < (↑s.length : Int)) then
    bif (↑(s.getD i.toNat (0 : UInt8)).toNat : Int) == (48 : Int) then
     some ((AX.normal, { tm := tmOf 23 [(0, AV.str s), (3, AV.int IntKind.i64 (IntKind.i64.wrap (i + (1 : Int))))], ms := [], hp := [] }))
    else
     some ((AX.exit 0, { tm := tmOf 23 [(0, AV.str s), (3, AV.int IntKind.i64 i), (13, AV.bool false)], ms := [], hp := [] }))
   else
    none
  else
   some ((AX.exit 0, { tm := tmOf 23 [(0, AV.str s), (3, AV.int IntKind.i64 i), (13, AV.bool false)], ms := [], hp := [] })) := by kernel_rfl

theorem l45 : LoopOk Tryd.prog tabS.pf (fun n => hd Tryd.prog tabS.pf tabS.con.run (fun f => (H0 f).to) n 9) h45.to 45 0 none L45 (loopAt Tryd.prog 45 0) := by
  rw [show loopAt Tryd.prog 45 0 = .loop (lbody Tryd.prog 45 0) by kernel_rfl]
  refine find_con (hdT_le (m := 20) 9) (m := 20) (within_of _ (by rw [show loopsOf (lbody Tryd.prog 45 0) = [] by kernel_rfl]; simp)) (D := D45) (lv := mbits 9 23) (by kernel_rfl)
    en44 (fun s => s) (fun _ => zer) (fun s => bad45 s s.length) bad45 (fun _ => True) ?_ ?_ ?_ (fun y i => ⟨by simp [bad45], by simp [bad45]⟩)
  · intro vs hp r h
    unfold D45 at h
    split at h
    · rename_i s i
      rw [T.run_chk] at h
      split at h
      · rename_i hc
        have hc := of_decide_eq_true hc
        refine ⟨s, i, rfl, trivial, hc.1, hc.2.1, hc.2.2, ?_⟩
        have h := (Option.some.inj h).symm
        split
        · rename_i hq; rw [h, hq]
        · exact h
      · cases h
    · cases h
  · rintro s i _ h0 hl hw
    refine (r45 _ _).trans ?_
    simp only [Bool.cond_eq_ite]
    rw [if_pos (by simpa using hl), if_pos (by simp; omega)]
    simp only [hw]
    rfl
  · rintro s _
    refine (r45 _ _).trans ?_
    simp only [Int.lt_irrefl, decide_false, cond_false]
    rfl

theorem t45 (s : List UInt8) : (evn tabS h45 L45 45 [.str s] []).run =
  bif decide ((0 : Int) ≤ (0 : Int) ∧ (0 : Int) ≤ (↑s.length : Int) ∧ s.length ≤ 4611686018427387903) then
   bif firstX zer s (0 : Int) == (↑s.length : Int) then
    some ((AV.str [(48 : UInt8)], []))
   else
    bif decide ((0 : Int) ≤ firstX zer s (0 : Int) ∧ firstX zer s (0 : Int) ≤ (↑s.length : Int)) then
     some ((AV.str (List.drop (firstX zer s (0 : Int)).toNat s), []))
    else
     none
  else
   none := by kernel_rfl

def c45 : List AV → T AV
  | [.str s] => .leaf (.str (trimD s))
  | _ => .fail

theorem first_drop (q : Int → Bool) (s : List UInt8) : s.drop (firstX q s 0).toNat = s.dropWhile (fun b => q (b.toNat : Int)) := by
  unfold firstX
  have : (0 + ((List.takeWhile (fun b => q (b.toNat : Int)) (List.drop (0 : Int).toNat s)).length : Int)).toNat = (s.takeWhile (fun b => q (b.toNat : Int))).length := by simp
  rw [this]; exact drop_takeWhile s

theorem s45 : Sound1 Tryd.prog ⟨45, true, pcon c45⟩ := by
  refine sound_pure okS (hn := h45) (m := 20) (k := 9) (Λ := L45) (oneLoop (by kernel_rfl) l45) fun args r hF h => ?_
  unfold c45 at h
  split at h
  · rename_i s
    simp only [T.run_leaf, Option.some.injEq] at h; subst h
    have hb : s.length ≤ bnd := hF.1
    simp only [bnd] at hb
    refine (t45 s).trans ?_
    have g : decide ((0 : Int) ≤ 0 ∧ (0 : Int) ≤ (s.length : Int) ∧ s.length ≤ 4611686018427387903) = true := by simp; omega
    obtain ⟨f1, f2⟩ := firstX_le (q := zer) (s := s) (i := 0) (by omega) (by omega)
    have g2 : decide ((0 : Int) ≤ firstX zer s 0 ∧ firstX zer s 0 ≤ (s.length : Int)) = true := by simp; omega
    have hd := first_drop zer s
    have hdb : s.dropWhile (fun b => zer (b.toNat : Int)) = dropB 48 s := rfl
    rw [hdb] at hd
    rw [g, g2, hd]
    have hlen := congrArg List.length hd
    simp only [List.length_drop] at hlen
    unfold trimD
    by_cases he : firstX zer s 0 = s.length
    · have : dropB 48 s = [] := by apply List.eq_nil_of_length_eq_zero; omega
      simp [he, this]
    · have : ¬ dropB 48 s = [] := by intro h; rw [h] at hlen; simp at hlen; omega
      have he' : (firstX zer s 0 == (s.length : Int)) = false := by simpa using he
      simp [he', this]
  · cases h

/-! ### dovetailref04.text -/

structure Y48 where
  e : List UInt8
  u : List UInt8
  r : List UInt8
  co : Bool
  i : Int

def ncol (c : Int) : Bool := !(c == 58)

def e48 (x : Y48) : List AV × Hp := ([.ref 0 0, .str x.u, .bool x.co, .int .i64 x.i], hp15 x.e x.u x.r)

def o48 (x : Y48) : AX × St := (.exit 0, { tm := tmOf 41 [(1, .ref 0 0), (3, .str x.u), (4, .bool (x.co || !(allD ncol x.u x.i))), (5, .int .i64 x.u.length), (11, .bool false)], ms := [], hp := hp15 x.e x.u x.r })

def D48 : List AV → Hp → T (AX × St)
  | [.ref 0 0, .str u', .bool co, .int .i64 i], [some (.cells [.str e, .str u, .str r])] => .chk (decide (u' = u ∧ 0 ≤ i ∧ i ≤ u.length ∧ u.length ≤ bnd)) (.leaf (o48 ⟨e, u, r, co, i⟩))
  | _, _ => .fail

def L48 : LoopT := fun k => match Nat.beq k 400025 with
  | true => some (lcon (mbits 58 41) D48)
  | false => none

theorem r48 (x : Y48) : (rdn tabS h48 L48 48 0 0 { tm := encGo (mbits 58 41) (e48 x).1, ms := [], hp := (e48 x).2 }).run =
  bif decide (x.i < (↑x.u.length : Int)) then
   bif x.co then
    some ((AX.normal, { tm := tmOf 41 [(1, AV.ref 0 0), (3, AV.str x.u), (4, AV.bool true), (5, AV.int IntKind.i64 (IntKind.i64.wrap (x.i + (1 : Int))))], ms := [], hp := [some (AObj.cells [AV.str x.e, AV.str x.u, AV.str x.r])] }))
   else
    bif decide ((0 : Int) ≤ x.i ∧ x.i < (↑x.u.length : Int)) then
     some ((AX.normal, { tm := tmOf 41 [(1, AV.ref 0 0), (3, AV.str x.u), (4, AV.bool ((↑(x.u.getD x.i.toNat (0 : UInt8)).toNat : Int) == (58 : Int))), (5, AV.int IntKind.i64 (IntKind.i64.wrap (x.i + (1 : Int))))], ms := [], hp := [some (AObj.cells [AV.str x.e, AV.str x.u, AV.str x.r])] }))
    else
     none
  else
   some ((AX.exit 0, { tm := tmOf 41 [(1, AV.ref 0 0), (3, AV.str x.u), (4, AV.bool x.co), (5, AV.int IntKind.i64 x.i), (11, AV.bool false)], ms := [], hp := [some (AObj.cells [AV.str x.e, AV.str x.u, AV.str x.r])] })) := by kernel_rfl

theorem l48 : LoopOk Tryd.prog tabS.pf (fun n => hd Tryd.prog tabS.pf tabS.con.run (fun f => (H0 f).to) n 9) h48.to 48 0 none L48 (loopAt Tryd.prog 48 0) := by
  rw [show loopAt Tryd.prog 48 0 = .loop (lbody Tryd.prog 48 0) by kernel_rfl]
  refine loop_con (hdT_le (m := 20) 9) (m := 20) (within_of _ (by rw [show loopsOf (lbody Tryd.prog 48 0) = [] by kernel_rfl]; simp)) (D := D48) (lv := mbits 58 41) (by kernel_rfl)
    e48 o48 (fun x => 0 ≤ x.i ∧ x.i ≤ x.u.length ∧ x.u.length ≤ bnd) (fun x => ((x.u.length : Int) - x.i).toNat) ?_ ?_
  · intro vs hp r h
    unfold D48 at h
    split at h
    · rename_i u' co i e u r'
      rw [T.run_chk] at h
      split at h
      · rename_i hc
        have hc := of_decide_eq_true hc
        obtain ⟨rfl, hc⟩ := hc
        exact ⟨⟨e, u', r', co, i⟩, rfl, hc, (Option.some.inj h).symm⟩
      · cases h
    · cases h
  · rintro ⟨e, u, r, co, i⟩ ⟨h1, h2, h3⟩
    simp only at h1 h2 h3
    simp only [bnd] at h3
    have ht := r48 ⟨e, u, r, co, i⟩
    rw [w64 (n := i + 1) (by omega) (by omega)] at ht
    by_cases hlt : i < u.length
    · left
      have hs := allD_step (q := ncol) h1 hlt
      have c2 : decide (0 ≤ i ∧ i < (u.length : Int)) = true := by simp; omega
      rw [c2, show decide (i < (u.length : Int)) = true by simpa using hlt] at ht
      simp only [cond_true] at ht
      cases co with
      | true => exact ⟨⟨e, u, r, true, i + 1⟩, ⟨by simp only; omega, by simp only; omega, by simp only [bnd]; omega⟩, by simp only; omega, by simp [o48], ht.trans rfl⟩
      | false =>
        refine ⟨⟨e, u, r, ((u.getD i.toNat 0).toNat : Int) == 58, i + 1⟩, ⟨by simp only; omega, by simp only; omega, by simp only [bnd]; omega⟩, by simp only; omega, ?_, ht.trans rfl⟩
        simp only [o48, hs, ncol, Bool.false_or, Bool.not_and, Bool.not_not]
    · right
      obtain rfl : i = u.length := by omega
      simp only [Int.lt_irrefl, decide_false, cond_false] at ht
      refine ⟨ht.trans ?_, by simp [o48]⟩
      simp only [o48, allD_end (Int.le_refl _), Bool.not_true, Bool.or_false]
      rfl

theorem t48 (e u r : List UInt8) : (evn tabS h48 L48 48 [verAV e u r] []).run =
  bif decide (u = u ∧ (0 : Int) ≤ (0 : Int) ∧ (0 : Int) ≤ (↑u.length : Int) ∧ u.length ≤ 4611686018427387903) then
   bif !e == [(48 : UInt8)] then
    bif decide (e.length + 1 ≤ 4611686018427387903) then
     bif decide ((e ++ [(58 : UInt8)]).length + u.length ≤ 4611686018427387903) then
      bif !r == [] then
       bif decide ((e ++ [(58 : UInt8)] ++ u).length + 1 ≤ 4611686018427387903) then
        bif decide ((e ++ [(58 : UInt8)] ++ u ++ [(45 : UInt8)]).length + r.length ≤ 4611686018427387903) then
         some ((AV.str (e ++ [(58 : UInt8)] ++ u ++ [(45 : UInt8)] ++ r), []))
        else
         none
       else
        none
      else
       some ((AV.str (e ++ [(58 : UInt8)] ++ u), []))
     else
      none
    else
     none
   else
    bif false || !allD ncol u (0 : Int) then
     bif decide (e.length + 1 ≤ 4611686018427387903) then
      bif decide ((e ++ [(58 : UInt8)]).length + u.length ≤ 4611686018427387903) then
       bif !r == [] then
        bif decide ((e ++ [(58 : UInt8)] ++ u).length + 1 ≤ 4611686018427387903) then
         bif decide ((e ++ [(58 : UInt8)] ++ u ++ [(45 : UInt8)]).length + r.length ≤ 4611686018427387903) then
          some ((AV.str (e ++ [(58 : UInt8)] ++ u ++ [(45 : UInt8)] ++ r), []))
         else
          none
        else
         none
       else
        some ((AV.str (e ++ [(58 : UInt8)] ++ u), []))
      else
       none
     else
      none
    else
     bif !r == [] then
      bif decide (u.length + 1 ≤ 4611686018427387903) then
       bif decide ((u ++ [(45 : UInt8)]).length + r.length ≤ 4611686018427387903) then
        some ((AV.str (u ++ [(45 : UInt8)] ++ r), []))
       else
        none
      else
       none
     else
      some ((AV.str u, []))
  else
   none := by kernel_rfl

def c48 : List AV → T AV
  | [.agg [.str e, .str u, .str r]] => .chk (decide (e.length + u.length + r.length + 2 ≤ bnd)) (.leaf (.str (textD e u r)))
  | _ => .fail

theorem ncol_mem (u : List UInt8) : allD ncol u 0 = true ↔ ¬ (58 : UInt8) ∈ u := by
  rw [allD_zero, List.all_eq_true]
  constructor
  · intro h hm
    have := h 58 hm
    simp [ncol] at this
  · intro h b hb
    simp only [ncol, Bool.not_eq_true', beq_eq_false_iff_ne, ne_eq]
    intro he
    apply h
    have : b = 58 := by
      apply UInt8.toNat_inj.1
      have : b.toNat = 58 := by omega
      rw [this]; rfl
    rw [← this]; exact hb

theorem s48 : Sound1 Tryd.prog ⟨48, true, pcon c48⟩ := by
  refine sound_pure okS (hn := h48) (m := 20) (k := 9) (Λ := L48) (oneLoop (by kernel_rfl) l48) fun args r hF h => ?_
  unfold c48 at h
  split at h
  · rename_i e u r
    rw [T.run_chk] at h
    split at h
    · rename_i hk
      have hk := of_decide_eq_true hk
      simp only [bnd] at hk
      simp only [T.run_leaf, Option.some.injEq] at h; subst h
      refine (t48 e u r).trans ?_
      have hm := ncol_mem u
      have hl1 : (e ++ [58]).length = e.length + 1 := by simp
      have hl2 : (e ++ [58] ++ u).length = e.length + 1 + u.length := by simp; omega
      have hl3 : (e ++ [58] ++ u ++ [45]).length = e.length + 1 + u.length + 1 := by simp; omega
      have hl4 : (u ++ [45]).length = u.length + 1 := by simp
      have g0 : decide (u = u ∧ (0 : Int) ≤ 0 ∧ (0 : Int) ≤ (u.length : Int) ∧ u.length ≤ 4611686018427387903) = true := by simp; omega
      have gu : u.length ≤ 4611686018427387903 := by omega
      have g1 : decide (e.length + 1 ≤ 4611686018427387903) = true := by simp; omega
      have g2 : decide (e.length + 1 + u.length ≤ 4611686018427387903) = true := by simp; omega
      have g3 : decide (e.length + 1 + u.length + 1 ≤ 4611686018427387903) = true := by simp; omega
      have g4 : decide (e.length + 1 + u.length + 1 + r.length ≤ 4611686018427387903) = true := by simp; omega
      have g5 : decide (u.length + 1 ≤ 4611686018427387903) = true := by simp; omega
      have g6 : decide (u.length + 1 + r.length ≤ 4611686018427387903) = true := by simp; omega
      simp only [hl1, hl2, hl3, hl4, g0, g1, g2, g3, g4, g5, g6, cond_true, Bool.false_or]
      unfold textD
      cases h1 : (e == [48])
      · have h1' : e ≠ [48] := by intro h; rw [h] at h1; simp at h1
        cases h2 : (r == [])
        · have h2' : r ≠ [] := by intro h; rw [h] at h2; simp at h2
          simp [gu, h1', h2']
        · have h2' : r = [] := by simpa using h2
          simp [gu, h1', h2']
      · have h1' : e = [48] := by simpa using h1
        cases h3 : allD ncol u 0
        · have h3' : (58 : UInt8) ∈ u := by
            apply Classical.byContradiction
            intro hc
            rw [hm.2 hc] at h3; cases h3
          cases h2 : (r == [])
          · have h2' : r ≠ [] := by intro h; rw [h] at h2; simp at h2
            simp [gu, h1', h2', h3']
          · have h2' : r = [] := by simpa using h2
            simp [gu, h1', h2', h3']
        · have h3' := hm.1 h3
          cases h2 : (r == [])
          · have h2' : r ≠ [] := by intro h; rw [h] at h2; simp at h2
            simp [gu, h1', h2', h3']
          · have h2' : r = [] := by simpa using h2
            simp [gu, h1', h2', h3']
    · cases h
  · cases h

def tabT : Tab := ⟨48, true, pcon c48⟩ :: ⟨45, true, pcon c45⟩ :: ⟨44, true, pcon c44⟩ :: tabS

theorem allT : ∀ e, e ∈ tabT → Sound1 Tryd.prog e := sound_mem_tab s48 (sound_mem_tab s45 (sound_mem_tab s44 allS))

theorem okT : SoundTab Tryd.prog tabT := soundTab_of allT

end Go.Deb
namespace Go.Deb

open Go Go.Proofs Go.Ab

set_option linter.unusedVariables false

set_option linter.unusedSimpArgs false

/-! ### dovetailref04.Fit -/

def upR (d : Bool) (c : Int) : Bool := prtB c || c == 58 || (c == 45 && d)

def enA16 (y : List UInt8 × List UInt8 × List UInt8) (i : Int) : List AV × Hp := ([.ref 0 0, .int .i64 i], hp15 y.1 y.2.1 y.2.2)

def bad16 (y : List UInt8 × List UInt8 × List UInt8) : AX × St := (.ret, { tm := tmOf 75 [(2, .bool false)], ms := [], hp := hp15 y.1 y.2.1 y.2.2 })

def dnA16 (y : List UInt8 × List UInt8 × List UInt8) : AX × St := (.exit 0, { tm := tmOf 75 [(1, .ref 0 0), (3, .int .i64 y.2.1.length), (34, .bool false)], ms := [], hp := hp15 y.1 y.2.1 y.2.2 })

def dnB16 (y : List UInt8 × List UInt8 × List UInt8) : AX × St := (.exit 2, { tm := tmOf 75 [(1, .ref 0 0), (5, .int .i64 y.2.2.length), (62, .bool false)], ms := [], hp := hp15 y.1 y.2.1 y.2.2 })

def DA16 : List AV → Hp → T (AX × St)
  | [.ref 0 0, .int .i64 i], [some (.cells [.str e, .str u, .str r])] => .chk (decide (0 ≤ i ∧ i ≤ u.length ∧ u.length ≤ bnd)) (.br (allD (upR (!r == [])) u i) (.leaf (dnA16 (e, u, r))) (.leaf (bad16 (e, u, r))))
  | _, _ => .fail

def DB16 : List AV → Hp → T (AX × St)
  | [.ref 0 0, .int .i64 i], [some (.cells [.str e, .str u, .str r])] => .chk (decide (0 ≤ i ∧ i ≤ r.length ∧ r.length ≤ bnd)) (.br (allD prtB r i) (.leaf (dnB16 (e, u, r))) (.leaf (bad16 (e, u, r))))
  | _, _ => .fail

def L16 : LoopT := fun k => match Nat.beq k 400049 with
  | true => some (lcon (mbits 10 75) DA16)
  | false => match Nat.beq k 1000031 with
    | true => some (lcon (mbits 34 75) DB16)
    | false => none

theorem rA16 (y : List UInt8 × List UInt8 × List UInt8) (i : Int) : (rdn tabT h16 L16 16 0 0 { tm := encGo (mbits 10 75) (enA16 y i).1, ms := [], hp := (enA16 y i).2 }).run =
  bif decide (i < (↑y.snd.fst.length : Int)) then
   bif decide ((0 : Int) ≤ i ∧ i < (↑y.snd.fst.length : Int)) then
    bif !prtB (↑(y.snd.fst.getD i.toNat (0 : UInt8)).toNat : Int) then
     bif (↑(y.snd.fst.getD i.toNat (0 : UInt8)).toNat : Int) != (58 : Int) then
      bif (↑(y.snd.fst.getD i.toNat (0 : UInt8)).toNat : Int) == (45 : Int) then
       bif !!y.snd.snd == [] then
        some ((AX.ret, { tm := tmOf 75 [(2, AV.bool false)], ms := [], hp := [some (AObj.cells [AV.str y.fst, AV.str y.snd.fst, AV.str y.snd.snd])] }))
       else
        some ((AX.normal, { tm := tmOf 75 [(1, AV.ref 0 0), (3, AV.int IntKind.i64 (IntKind.i64.wrap (i + (1 : Int))))], ms := [], hp := [some (AObj.cells [AV.str y.fst, AV.str y.snd.fst, AV.str y.snd.snd])] }))
      else
       some ((AX.ret, { tm := tmOf 75 [(2, AV.bool false)], ms := [], hp := [some (AObj.cells [AV.str y.fst, AV.str y.snd.fst, AV.str y.snd.snd])] }))
     else
      some ((AX.normal, { tm := tmOf 75 [(1, AV.ref 0 0), (3, AV.int IntKind.i64 (IntKind.i64.wrap (i + (1 : Int))))], ms := [], hp := [some (AObj.cells [AV.str y.fst, AV.str y.snd.fst, AV.str y.snd.snd])] }))
    else
     some ((AX.normal, { tm := tmOf 75 [(1, AV.ref 0 0), (3, AV.int IntKind.i64 (IntKind.i64.wrap (i + (1 : Int))))], ms := [], hp := [some (AObj.cells [AV.str y.fst, AV.str y.snd.fst, AV.str y.snd.snd])] }))
   else
    none
  else
   some ((AX.exit 0, { tm := tmOf 75 [(1, AV.ref 0 0), (3, AV.int IntKind.i64 i), (34, AV.bool false)], ms := [], hp := [some (AObj.cells [AV.str y.fst, AV.str y.snd.fst, AV.str y.snd.snd])] })) := by kernel_rfl
theorem rB16 (y : List UInt8 × List UInt8 × List UInt8) (i : Int) : (rdn tabT h16 L16 16 0 1 { tm := encGo (mbits 34 75) (enA16 y i).1, ms := [], hp := (enA16 y i).2 }).run =
  bif decide (i < (↑y.snd.snd.length : Int)) then
   bif decide ((0 : Int) ≤ i ∧ i < (↑y.snd.snd.length : Int)) then
    bif !prtB (↑(y.snd.snd.getD i.toNat (0 : UInt8)).toNat : Int) then
     some ((AX.ret, { tm := tmOf 75 [(2, AV.bool false)], ms := [], hp := [some (AObj.cells [AV.str y.fst, AV.str y.snd.fst, AV.str y.snd.snd])] }))
    else
     some ((AX.normal, { tm := tmOf 75 [(1, AV.ref 0 0), (5, AV.int IntKind.i64 (IntKind.i64.wrap (i + (1 : Int))))], ms := [], hp := [some (AObj.cells [AV.str y.fst, AV.str y.snd.fst, AV.str y.snd.snd])] }))
   else
    none
  else
   some ((AX.exit 2, { tm := tmOf 75 [(1, AV.ref 0 0), (5, AV.int IntKind.i64 i), (62, AV.bool false)], ms := [], hp := [some (AObj.cells [AV.str y.fst, AV.str y.snd.fst, AV.str y.snd.snd])] })) := by kernel_rfl

theorem lA16 : LoopOk Tryd.prog tabT.pf (fun n => hd Tryd.prog tabT.pf tabT.con.run (fun f => (H0 f).to) n 9) h16.to 16 0 none L16 (loopAt Tryd.prog 16 0) := by
  rw [show loopAt Tryd.prog 16 0 = .loop (lbody Tryd.prog 16 0) by kernel_rfl]
  refine all_con (hdT_le (m := 20) 9) (m := 20) (within_of _ (by rw [show loopsOf (lbody Tryd.prog 16 0) = [] by kernel_rfl]; simp)) (D := DA16) (lv := mbits 10 75) (by kernel_rfl)
    enA16 (fun y => y.2.1) (fun y => upR (!y.2.2 == [])) dnA16 bad16 (fun _ => True) ?_ ?_ ?_ (fun y => ⟨by simp [dnA16], by simp [bad16]⟩)
  · intro vs hp r h
    unfold DA16 at h
    split at h
    · rename_i i e u r'
      rw [T.run_chk] at h
      split at h
      · rename_i hc
        have hc := of_decide_eq_true hc
        refine ⟨(e, u, r'), i, rfl, trivial, hc.1, hc.2.1, hc.2.2, ?_⟩
        rw [T.run_br] at h
        simp only
        split at h <;> rename_i hq
        · rw [if_pos hq]; exact (Option.some.inj h).symm
        · rw [if_neg hq]; exact (Option.some.inj h).symm
      · cases h
    · cases h
  · rintro ⟨e, u, r⟩ i _ h0 hl hw
    simp only at hl
    refine (rA16 _ _).trans ?_
    have g1 : decide (i < (u.length : Int)) = true := by simpa using hl
    have g2 : decide ((0 : Int) ≤ i ∧ i < (u.length : Int)) = true := by simp; omega
    rw [g1, g2, hw, ← Bool.cond_eq_ite]
    simp only [upR, cond_true, bne]
    cases prtB ((u.getD i.toNat 0).toNat : Int) <;> cases (((u.getD i.toNat 0).toNat : Int) == 58) <;> cases (((u.getD i.toNat 0).toNat : Int) == 45) <;> cases (r == []) <;> rfl
  · rintro ⟨e, u, r⟩ _
    refine (rA16 _ _).trans ?_
    simp only [Int.lt_irrefl, decide_false, cond_false]
    rfl

theorem lB16 : LoopOk Tryd.prog tabT.pf (fun n => hd Tryd.prog tabT.pf tabT.con.run (fun f => (H0 f).to) n 9) h16.to 16 0 none L16 (loopAt Tryd.prog 16 1) := by
  rw [show loopAt Tryd.prog 16 1 = .loop (lbody Tryd.prog 16 1) by kernel_rfl]
  refine all_con (hdT_le (m := 20) 9) (m := 20) (within_of _ (by rw [show loopsOf (lbody Tryd.prog 16 1) = [] by kernel_rfl]; simp)) (D := DB16) (lv := mbits 34 75) (by kernel_rfl)
    enA16 (fun y => y.2.2) (fun y => prtB) dnB16 bad16 (fun _ => True) ?_ ?_ ?_ (fun y => ⟨by simp [dnB16], by simp [bad16]⟩)
  · intro vs hp r h
    unfold DB16 at h
    split at h
    · rename_i i e u r'
      rw [T.run_chk] at h
      split at h
      · rename_i hc
        have hc := of_decide_eq_true hc
        refine ⟨(e, u, r'), i, rfl, trivial, hc.1, hc.2.1, hc.2.2, ?_⟩
        rw [T.run_br] at h
        simp only
        split at h <;> rename_i hq
        · rw [if_pos hq]; exact (Option.some.inj h).symm
        · rw [if_neg hq]; exact (Option.some.inj h).symm
      · cases h
    · cases h
  · rintro ⟨e, u, r⟩ i _ h0 hl hw
    simp only at hl
    refine (rB16 _ _).trans ?_
    simp only [Bool.cond_eq_ite]
    rw [if_pos (by simpa using hl), if_pos (by simp; omega)]
    simp only [hw]
    cases prtB ((r.getD i.toNat 0).toNat : Int) <;> rfl
  · rintro ⟨e, u, r⟩ _
    refine (rB16 _ _).trans ?_
    simp only [Int.lt_irrefl, decide_false, cond_false]
    rfl

theorem t16 (e u r : List UInt8) : (evn tabT h16 L16 16 [verAV e u r] []).run =
  bif !adg e then
   some ((AV.bool false, []))
  else
   bif !trimD e == e then
    some ((AV.bool false, []))
   else
    bif u == [] then
     some ((AV.bool false, []))
    else
     bif decide ((0 : Int) ≤ (0 : Int) ∧ (0 : Int) < (↑u.length : Int)) then
      bif !dig (↑(u.getD 0 (0 : UInt8)).toNat : Int) then
       some ((AV.bool false, []))
      else
       bif decide ((0 : Int) ≤ (0 : Int) ∧ (0 : Int) ≤ (↑u.length : Int) ∧ u.length ≤ 4611686018427387903) then
        bif allD (upR !r == []) u (0 : Int) then
         bif decide ((0 : Int) ≤ (0 : Int) ∧ (0 : Int) ≤ (↑r.length : Int) ∧ r.length ≤ 4611686018427387903) then
          bif allD prtB r (0 : Int) then
           bif decide (e.length + u.length + r.length + 2 ≤ 4611686018427387903) then
            some ((AV.bool (decide ((↑(textD e u r).length : Int) ≤ (64 : Int))), []))
           else
            none
          else
           some ((AV.bool false, []))
         else
          none
        else
         some ((AV.bool false, []))
       else
        none
     else
      none := by kernel_rfl

def fitR (e u r : List UInt8) : Bool := adg e && (trimD e == e) && !(u == []) && dig ((u.getD 0 0).toNat : Int) && allD (upR (!r == [])) u 0 && allD prtB r 0 && decide ((textD e u r).length ≤ 64)

def c16 : List AV → T AV
  | [.agg [.str e, .str u, .str r]] => .chk (decide (e.length + u.length + r.length + 2 ≤ bnd)) (.leaf (.bool (fitD e u r)))
  | _ => .fail

theorem takeWhile_all {p : UInt8 → Bool} : ∀ l : List UInt8, ((l.takeWhile p).length = l.length) ↔ l.all p = true
  | [] => by simp
  | b :: l => by
    have ih := takeWhile_all (p := p) l
    have hle := takeWhile_le p l
    rw [List.takeWhile_cons, List.all_cons]
    cases p b with
    | true => simp only [if_true, List.length_cons, Bool.true_and]; rw [← ih]; omega
    | false => simp

theorem upR_eq (d : Bool) : upR d = upB true d := by
  funext c
  unfold upR upB prtB alnum
  cases dig c <;> cases let_ c <;> cases (c == 46) <;> cases (c == 43) <;> cases (c == 126) <;> cases (c == 58) <;> cases (c == 45) <;> cases d <;> rfl

theorem prtB_eq : prtB = upB false false := by
  funext c
  unfold upB prtB alnum
  cases dig c <;> cases let_ c <;> cases (c == 46) <;> cases (c == 43) <;> cases (c == 126) <;> cases (c == 58) <;> cases (c == 45) <;> rfl

theorem runD_all (e : List UInt8) : (runD e 0 == (e.length : Int)) = allD dig e 0 := by
  have h := takeWhile_all (p := digB) e
  have h1 : runD e 0 = ((e.takeWhile digB).length : Int) := by
    unfold runD runL
    rw [if_neg (by omega)]
    simp
  have h2 : allD dig e 0 = e.all digB := rfl
  rw [h1, h2]
  cases ha : e.all digB with
  | true => have := h.2 ha; rw [this]; simp
  | false =>
    have : ¬ (e.takeWhile digB).length = e.length := fun q => by rw [h.1 q] at ha; cases ha
    simp only [beq_eq_false_iff_ne, ne_eq]; omega

theorem fitR_eq (e u r : List UInt8) : fitR e u r = fitD e u r := by
  unfold fitR fitD adg
  rw [upR_eq, prtB_eq, runD_all, show isC 1 ((u.getD 0 0).toNat : Int) = dig ((u.getD 0 0).toNat : Int) by simp [isC]]
  cases allD dig e 0 <;> cases (e == []) <;> rfl

theorem s16 : Sound1 Tryd.prog ⟨16, true, pcon c16⟩ := by
  refine sound_pure okT (hn := h16) (m := 20) (k := 9) (Λ := L16) (twoLoops (by kernel_rfl) lA16 lB16) fun args r hF h => ?_
  unfold c16 at h
  split at h
  · rename_i e u r'
    rw [T.run_chk] at h
    split at h
    · rename_i hk
      have hk := of_decide_eq_true hk
      simp only [bnd] at hk
      simp only [T.run_leaf, Option.some.injEq] at h; subst h
      refine (t16 e u r').trans ?_
      rw [← fitR_eq]
      have hu : u.length ≤ 4611686018427387903 := by omega
      have hr : r'.length ≤ 4611686018427387903 := by omega
      unfold fitR
      cases h1 : adg e
      · simp
      cases h3 : (trimD e == e)
      · simp
      cases h4 : (u == [])
      · have hp : 0 < u.length := by cases u <;> simp at h4 ⊢
        cases h5 : dig ((u.getD 0 0).toNat : Int)
        · simp [hp]
        cases h6 : allD (upR (!r' == [])) u 0
        · simp [hp, hu]
        cases h7 : allD prtB r' 0
        · simp [hp, hu, hr]
        simp [hp, hu, hr, hk]
        omega
      · simp
    · cases h
  · cases h

def tabU : Tab := ⟨16, true, pcon c16⟩ :: tabT

theorem allU : ∀ e, e ∈ tabU → Sound1 Tryd.prog e := sound_mem_tab s16 allT

theorem okU : SoundTab Tryd.prog tabU := soundTab_of allU

theorem t18 (e u r : List UInt8) : (evn tabU h18 noLoops 18 [verAV e u r] []).run =
  bif decide (e.length + u.length + r.length + 2 ≤ 4611686018427387903) then
   bif !fitD e u r then
    some ((AV.str [], []))
   else
    bif decide (e.length + u.length + r.length + 2 ≤ 4611686018427387903) then
     some ((AV.str (textD e u r), []))
    else
     none
  else
   none := by kernel_rfl

theorem s18 : Sound1 Tryd.prog ⟨18, true, pcon c17⟩ := by
  refine sound_pure okU (hn := h18) (m := 20) (k := 9) (Λ := noLoops) (fun i hi => anyLoops) fun args r hF h => ?_
  unfold c17 at h
  split at h
  · rename_i e u r'
    rw [T.run_chk] at h
    split at h
    · rename_i hk
      have hk := of_decide_eq_true hk
      simp only [bnd] at hk
      simp only [T.run_leaf, Option.some.injEq] at h; subst h
      refine (t18 e u r').trans ?_
      unfold fmtD
      cases hf : fitD e u r' <;> simp [hk]
    · cases h
  · cases h

def tabV : Tab := ⟨18, true, pcon c17⟩ :: tabU

theorem allV : ∀ e, e ∈ tabV → Sound1 Tryd.prog e := sound_mem_tab s18 allU

theorem okV : SoundTab Tryd.prog tabV := soundTab_of allV

/-! ### the law DebWrites -/

theorem t6 (e u r : List UInt8) : (evn tabV h6 noLoops 6 [verAV e u r] []).run =
  bif decide (e.length + u.length + r.length + 2 ≤ 4611686018427387903) then
   bif decide (e.length + u.length + r.length + 2 ≤ 4611686018427387903) then
    bif fitD e u r == fitD e u r then
     bif decide (e.length + u.length + r.length + 2 ≤ 4611686018427387903) then
      bif decide (e.length + u.length + r.length + 2 ≤ 4611686018427387903) then
       bif fmtD e u r == fmtD e u r then
        some ((AV.bool true, []))
       else
        some ((AV.bool false, []))
      else
       none
     else
      none
    else
     some ((AV.bool false, []))
   else
    none
  else
   none := by kernel_rfl

end Go.Deb

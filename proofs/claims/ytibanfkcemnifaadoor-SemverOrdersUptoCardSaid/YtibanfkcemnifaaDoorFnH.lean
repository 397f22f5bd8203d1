/- Lemmas for the claims of this seat (a verified symbolic evaluator, and contracts of functions): own work; no condition. -/
import Derived.Test.YtibanfkcemnifaaDoorFnF
namespace Go.Sem

open Go Go.Proofs Go.Ab

set_option maxRecDepth 100000

set_option linter.unusedVariables false

set_option linter.unusedSimpArgs false

/-! ### ref01.Trim, Texts, Cmp, Is, Run; ref02.digit, digits, number, bad, ident -/

def q48 (b : UInt8) : Bool := (b.toNat : Int) == 48

structure Y42 where
  s : List UInt8
  i : Nat

def eL42 : Y42 → List AV × Hp := fun ⟨s, i⟩ => ([.str s, .int .i64 i], [])

def dL42 : List AV × Hp → Y42
  | ([.str s, .int .i64 i], []) => ⟨s, i.toNat⟩
  | _ => ⟨default, default⟩

def pL42 : Y42 → Prop := fun ⟨s, i⟩ => i ≤ s.length ∧ s.length ≤ bnd

def rL42 : Y42 → T (AX × St) := fun ⟨s, i⟩ => .leaf (.exit 0, { tm := tmOf 23 [(0, .str s), (3, .int .i64 (fxN q48 s i)), (13, .bool false)], ms := [], hp := [] })

noncomputable def L42 : LoopT := fun k => match Nat.beq k 200021 with
  | true => some (lccon (mbits 9 23) eL42 dL42 pL42 rL42)
  | false => none

theorem iL42 : ∀ x, dL42 (eL42 x) = x := by
  rintro ⟨s, i⟩
  simp only [eL42, dL42, Int.toNat_natCast]

theorem kL42 (s : List UInt8) (i : Nat) (h : i ≤ s.length ∧ s.length ≤ bnd) : isEn eL42 pL42 ([.str s, .int .i64 i], []) = true := isEn_true (enc := eL42) (p := pL42) ⟨s, i⟩ h

theorem q42 (s : List UInt8) (i : Nat) : (rdn tabY h42 L42 42 0 0 { tm := encGo (mbits 9 23) [.str s, .int .i64 i], ms := [], hp := [] }).run =
  bif decide ((↑i : Int) < (↑s.length : Int)) then
   bif decide ((0 : Int) ≤ (↑i : Int) ∧ (↑i : Int) < (↑s.length : Int)) then
    bif (↑(s.getD (↑i : Int).toNat (0 : UInt8)).toNat : Int) == (48 : Int) then
     some ((AX.normal, { tm := tmOf 23 [(0, AV.str s), (3, AV.int IntKind.i64 (IntKind.i64.wrap ((↑i : Int) + (1 : Int))))], ms := [], hp := [] }))
    else
     some ((AX.exit 0, { tm := tmOf 23 [(0, AV.str s), (3, AV.int IntKind.i64 (↑i : Int)), (13, AV.bool false)], ms := [], hp := [] }))
   else
    none
  else
   some ((AX.exit 0, { tm := tmOf 23 [(0, AV.str s), (3, AV.int IntKind.i64 (↑i : Int)), (13, AV.bool false)], ms := [], hp := [] })) := by kernel_rfl

theorem l42 : LoopOk Tryd.prog tabY.pf (fun n => hd Tryd.prog tabY.pf tabY.con.run (fun f => (H0 f).to) n 9) h42.to 42 0 none L42 (loopAt Tryd.prog 42 0) := by
  rw [show loopAt Tryd.prog 42 0 = .loop (lbody Tryd.prog 42 0) by kernel_rfl]
  refine loop_c (hdT_le (m := 20) 9) (m := 20) (lv := mbits 9 23) (p := pL42) (res := rL42) iL42 (within_of _ (by rw [show loopsOf (lbody Tryd.prog 42 0) = [] by kernel_rfl]; simp)) (by kernel_rfl) (fun ⟨s, i⟩ => s.length - i) ?_
  rintro ⟨s, i⟩ hp
  have ht := q42 s i
  have hb : s.length ≤ 4611686018427387903 := by have := hp; simp only [pL42, bnd] at this; omega
  have hi : i ≤ s.length := by have := hp; simp only [pL42, bnd] at this; omega
  by_cases hl : i < s.length
  · have hd := fxN_step (q := q48) (0) hl
    rw [decide_eq_true (show (i : Int) < s.length by omega), byte_at hl, Int.toNat_natCast, w64n (by omega)] at ht
    rw [show (((s.getD i 0).toNat : Int) == 48) = q48 (s.getD i 0) from rfl] at ht
    dsimp only [cond_true] at ht
    cases hq : q48 (s.getD i 0) with
    | false =>
      rw [hq] at ht hd
      right
      refine ⟨_, ?_, ?_, ht⟩
      · simp
      · simp only [rL42, T.run_leaf, hd, cond_false] <;> rfl
    | true =>
      rw [hq] at ht hd
      left
      refine ⟨⟨s, i + 1⟩, ?_, by simp only; omega, ?_, ht⟩
      · have := hp
        simp only [pL42, bnd] at this ⊢
        omega
      · simp only [rL42, T.run_leaf, hd, cond_true]
  · have he : i = s.length := by omega
    right
    rw [decide_eq_false (show ¬ (i : Int) < s.length by omega)] at ht
    refine ⟨_, ?_, ?_, ht⟩
    · simp
    · simp only [rL42, T.run_leaf, fxN_end (show s.length ≤ i by omega)] <;> rfl

theorem fx_drop {q : UInt8 → Bool} (s : List UInt8) : s.drop (fxN q s 0) = s.dropWhile q := by
  unfold fxN
  rw [List.drop_zero, Nat.zero_add]
  exact drop_tw q s

theorem trimD_fx (s : List UInt8) : trimD s = if fxN q48 s 0 = s.length then [48] else s.drop (fxN q48 s 0) := by
  have h := fx_drop (q := q48) s
  have e : dropB 48 s = s.dropWhile q48 := rfl
  have hl := fxN_le (q := q48) (s := s) (i := 0) (Nat.zero_le _)
  unfold trimD
  rw [e, ← h]
  by_cases hx : fxN q48 s 0 = s.length
  · rw [if_pos (by rw [hx]; exact List.drop_length), if_pos hx]
  · rw [if_neg (by rw [List.drop_eq_nil_iff]; omega), if_neg hx]

theorem t42 (s : List UInt8) : (evn tabY h42 L42 42 [.str s] []).run =
  bif isEn eL42 pL42 ([AV.str s, AV.int IntKind.i64 (0 : Int)], []) then
   bif (↑(fxN q48 s 0) : Int) == (↑s.length : Int) then
    some ((AV.str [(48 : UInt8)], []))
   else
    bif decide ((0 : Int) ≤ (↑(fxN q48 s 0) : Int) ∧ (↑(fxN q48 s 0) : Int) ≤ (↑s.length : Int)) then
     some ((AV.str (List.drop (↑(fxN q48 s 0) : Int).toNat s), []))
    else
     none
  else
   none := by kernel_rfl

def c42 : List AV → T AV
  | [.str s] => .leaf (.str (trimD s))
  | _ => .fail

theorem e42 (s : List UInt8) (hF : FitsL [.str s]) : (evn tabY h42 L42 42 [.str s] []).run = (.leaf (.str (trimD s)) : T AV).run.map fun r => (r, []) := by
  refine (t42 s).trans ?_
  have hb : s.length ≤ bnd := hF.1
  refine (cond_chk (kL42 s 0 ⟨Nat.zero_le _, hb⟩)).trans ?_
  have hl := fxN_le (q := q48) (s := s) (i := 0) (Nat.zero_le _)
  rw [trimD_fx]
  by_cases hx : fxN q48 s 0 = s.length
  · rw [if_pos hx, hx, cond_chk (by simp)]; rfl
  · rw [if_neg hx, cond_no (by simp; omega), cond_chk (by simp; omega)]
    simp only [Int.toNat_natCast]
    rfl

theorem s42 : Sound1 Tryd.prog ⟨42, true, pcon c42⟩ := by
  refine sound_pureH (m := 20) (k := 9) (hn := h42) (Λ := L42) (soundTab_of all_tabY) H0 (oneLoop (by kernel_rfl) l42) fun args r hF h => ?_
  unfold c42 at h
  split at h
  · rename_i s
    have he := e42 s hF
    rw [he, h]; rfl
  · cases h

theorem abytesLess_iff : ∀ a b : List UInt8, abytesLess a b = decide (Lib.compareBytes a b < 0)
  | [], [] => rfl
  | [], _ :: _ => rfl
  | _ :: _, [] => rfl
  | a :: x, b :: y => by
    have ih := abytesLess_iff x y
    unfold abytesLess Lib.compareBytes
    by_cases h1 : a < b
    · simp [h1]
    · by_cases h2 : b < a
      · have : ¬ a = b := by rintro rfl; exact h1 h2
        simp [h1, h2, this]
      · have : a = b := by
          apply UInt8.toNat_inj.1
          have h1 : ¬ a.toNat < b.toNat := fun h => h1 (by simpa [UInt8.lt_iff_toNat_lt] using h)
          have h2 : ¬ b.toNat < a.toNat := fun h => h2 (by simpa [UInt8.lt_iff_toNat_lt] using h)
          omega
        subst this
        simp [ih]

theorem bytes_eqz (a b : List UInt8) : (a == b) = decide (Lib.compareBytes a b = 0) := by
  rw [Bool.eq_iff_iff, beq_iff_eq, decide_eq_true_eq, bytes_zero]

theorem t43 (a : List UInt8) (b : List UInt8) : (evn tabY h43 noLoops 43 [.str a, .str b] []).run =
  bif abytesLess a b then
   some ((AV.int IntKind.i64 (-1 : Int), []))
  else
   bif !(abytesLess a b || a == b) then
    some ((AV.int IntKind.i64 (1 : Int), []))
   else
    some ((AV.int IntKind.i64 (0 : Int), [])) := by kernel_rfl

def c43 : List AV → T AV
  | [.str a, .str b] => .leaf (.int .i64 (Lib.compareBytes a b))
  | _ => .fail

theorem e43 (a : List UInt8) (b : List UInt8) (hF : FitsL [.str a, .str b]) : (evn tabY h43 noLoops 43 [.str a, .str b] []).run = (.leaf (.int .i64 (Lib.compareBytes a b)) : T AV).run.map fun r => (r, []) := by
  refine (t43 a b).trans ?_
  have h := compareBytes_range a b
  rw [abytesLess_iff, bytes_eqz]
  rcases (by omega : Lib.compareBytes a b = -1 ∨ Lib.compareBytes a b = 0 ∨ Lib.compareBytes a b = 1) with e | e | e <;> rw [e] <;> rfl

theorem s43 : Sound1 Tryd.prog ⟨43, true, pcon c43⟩ := by
  refine sound_pureH (m := 20) (k := 9) (hn := h43) (Λ := noLoops) (soundTab_of all_tabY) H0 (fun i hi => anyLoops) fun args r hF h => ?_
  unfold c43 at h
  split at h
  · rename_i a b
    have he := e43 a b hF
    rw [he, h]; rfl
  · cases h

theorem t84 (c : Int) : (evn tabY h84 noLoops 84 [.int .u8 c] []).run =
  bif decide (c ≥ (48 : Int)) then
   some ((AV.bool (decide (c ≤ (57 : Int))), []))
  else
   some ((AV.bool false, [])) := by kernel_rfl

def c84 : List AV → T AV
  | [.int .u8 c] => .leaf (.bool (dig c))
  | _ => .fail

theorem e84 (c : Int) (hF : FitsL [.int .u8 c]) : (evn tabY h84 noLoops 84 [.int .u8 c] []).run = (.leaf (.bool (dig c)) : T AV).run.map fun r => (r, []) := by
  refine (t84 c).trans ?_
  unfold dig
  cases decide (c ≥ 48) <;> rfl

theorem s84 : Sound1 Tryd.prog ⟨84, true, pcon c84⟩ := by
  refine sound_pureH (m := 20) (k := 9) (hn := h84) (Λ := noLoops) (soundTab_of all_tabY) H0 (fun i hi => anyLoops) fun args r hF h => ?_
  unfold c84 at h
  split at h
  · rename_i c
    have he := e84 c hF
    rw [he, h]; rfl
  · cases h

theorem t85 (c : Int) : (evn tabY h85 noLoops 85 [.int .u8 c, .int .i64 1] []).run =
  bif decide (c ≥ (48 : Int)) then
   bif decide (c ≥ (97 : Int)) then
    bif decide (c ≥ (65 : Int)) then
     bif c == (32 : Int) then
      some ((AV.bool (decide (c ≤ (57 : Int))), []))
     else
      some ((AV.bool (decide (c ≤ (57 : Int))), []))
    else
     bif c == (32 : Int) then
      some ((AV.bool (decide (c ≤ (57 : Int))), []))
     else
      some ((AV.bool (decide (c ≤ (57 : Int))), []))
   else
    bif decide (c ≥ (65 : Int)) then
     bif c == (32 : Int) then
      some ((AV.bool (decide (c ≤ (57 : Int))), []))
     else
      some ((AV.bool (decide (c ≤ (57 : Int))), []))
    else
     bif c == (32 : Int) then
      some ((AV.bool (decide (c ≤ (57 : Int))), []))
     else
      some ((AV.bool (decide (c ≤ (57 : Int))), []))
  else
   bif decide (c ≥ (97 : Int)) then
    bif decide (c ≥ (65 : Int)) then
     bif c == (32 : Int) then
      some ((AV.bool false, []))
     else
      some ((AV.bool false, []))
    else
     bif c == (32 : Int) then
      some ((AV.bool false, []))
     else
      some ((AV.bool false, []))
   else
    bif decide (c ≥ (65 : Int)) then
     bif c == (32 : Int) then
      some ((AV.bool false, []))
     else
      some ((AV.bool false, []))
    else
     bif c == (32 : Int) then
      some ((AV.bool false, []))
     else
      some ((AV.bool false, [])) := by kernel_rfl

def c85 : List AV → T AV
  | [.int .u8 c, .int .i64 1] => .leaf (.bool (dig c))
  | _ => .fail

theorem e85 (c : Int) (hF : FitsL [.int .u8 c, .int .i64 1]) : (evn tabY h85 noLoops 85 [.int .u8 c, .int .i64 1] []).run = (.leaf (.bool (dig c)) : T AV).run.map fun r => (r, []) := by
  refine (t85 c).trans ?_
  unfold dig
  cases decide (c ≥ 48) <;> cases decide (c ≥ 97) <;> cases decide (c ≥ 65) <;> cases (c == 32) <;> rfl

theorem s85 : Sound1 Tryd.prog ⟨85, true, pcon c85⟩ := by
  refine sound_pureH (m := 20) (k := 9) (hn := h85) (Λ := noLoops) (soundTab_of all_tabY) H0 (fun i hi => anyLoops) fun args r hF h => ?_
  unfold c85 at h
  split at h
  · rename_i c
    have he := e85 c hF
    rw [he, h]; rfl
  · cases h

noncomputable def tabZ : Tab := ⟨42, true, pcon c42⟩ :: ⟨43, true, pcon c43⟩ :: ⟨84, true, pcon c84⟩ :: ⟨85, true, pcon c85⟩ :: tabY

theorem all_tabZ : ∀ e, e ∈ tabZ → Sound1 Tryd.prog e := (sound_mem_tab s42 (sound_mem_tab s43 (sound_mem_tab s84 (sound_mem_tab s85 all_tabY))))

theorem ok_tabZ : SoundTab Tryd.prog tabZ := soundTab_of all_tabZ

theorem t16 (a : List UInt8) (b : List UInt8) : (evn tabZ h16 noLoops 16 [.str a, .str b] []).run =
  bif decide ((↑(trimD a).length : Int) < (↑(trimD b).length : Int)) then
   some ((AV.int IntKind.i64 (-1 : Int), []))
  else
   bif decide ((↑(trimD a).length : Int) > (↑(trimD b).length : Int)) then
    some ((AV.int IntKind.i64 (1 : Int), []))
   else
    some ((AV.int IntKind.i64 (Lib.compareBytes (trimD a) (trimD b)), [])) := by kernel_rfl

def c16 : List AV → T AV
  | [.str a, .str b] => .leaf (.int .i64 (cmpD a b))
  | _ => .fail

theorem e16 (a : List UInt8) (b : List UInt8) (hF : FitsL [.str a, .str b]) : (evn tabZ h16 noLoops 16 [.str a, .str b] []).run = (.leaf (.int .i64 (cmpD a b)) : T AV).run.map fun r => (r, []) := by
  refine (t16 a b).trans ?_
  unfold cmpD cmpI
  by_cases h1 : ((trimD a).length : Int) < (trimD b).length
  · simp only [h1, decide_true, cond_true, if_true]; rfl
  · by_cases h2 : ((trimD b).length : Int) < (trimD a).length
    · simp only [h1, h2, gt_iff_lt, decide_true, decide_false, cond_true, cond_false, if_true, if_false]; rfl
    · simp only [h1, h2, gt_iff_lt, decide_true, decide_false, cond_true, cond_false, if_true, if_false]; rfl

theorem s16 : Sound1 Tryd.prog ⟨16, true, pcon c16⟩ := by
  refine sound_pureH (m := 20) (k := 9) (hn := h16) (Λ := noLoops) (soundTab_of all_tabZ) H0 (fun i hi => anyLoops) fun args r hF h => ?_
  unfold c16 at h
  split at h
  · rename_i a b
    have he := e16 a b hF
    rw [he, h]; rfl
  · cases h

structure Y68 where
  s : List UInt8
  i : Nat

def eL68 : Y68 → List AV × Hp := fun ⟨s, i⟩ => ([.str s, .int .i64 i, .int .i64 1], [])

def dL68 : List AV × Hp → Y68
  | ([.str s, .int .i64 i, .int .i64 _], []) => ⟨s, i.toNat⟩
  | _ => ⟨default, default⟩

def pL68 : Y68 → Prop := fun ⟨s, i⟩ => i ≤ s.length ∧ s.length ≤ bnd

def rL68 : Y68 → T (AX × St) := fun ⟨s, i⟩ => .leaf (.exit 0, { tm := tmOf 30 [(0, .str s), (1, .int .i64 (fxN digB s i)), (2, .int .i64 1), (26, .bool false)], ms := [], hp := [] })

noncomputable def L68 : LoopT := fun k => match Nat.beq k 300022 with
  | true => some (lccon (mbits 7 30) eL68 dL68 pL68 rL68)
  | false => none

theorem iL68 : ∀ x, dL68 (eL68 x) = x := by
  rintro ⟨s, i⟩
  simp only [eL68, dL68, Int.toNat_natCast]

theorem kL68 (s : List UInt8) (i : Nat) (h : i ≤ s.length ∧ s.length ≤ bnd) : isEn eL68 pL68 ([.str s, .int .i64 i, .int .i64 1], []) = true := isEn_true (enc := eL68) (p := pL68) ⟨s, i⟩ h

theorem q68 (s : List UInt8) (i : Nat) : (rdn tabZ h68 L68 68 0 0 { tm := encGo (mbits 7 30) [.str s, .int .i64 i, .int .i64 1], ms := [], hp := [] }).run =
  bif decide ((↑i : Int) < (↑s.length : Int)) then
   bif decide ((0 : Int) ≤ (↑i : Int) ∧ (↑i : Int) < (↑s.length : Int)) then
    bif dig (↑(s.getD (↑i : Int).toNat (0 : UInt8)).toNat : Int) then
     some ((AX.normal, { tm := tmOf 30 [(0, AV.str s), (1, AV.int IntKind.i64 (IntKind.i64.wrap ((↑i : Int) + (1 : Int)))), (2, AV.int IntKind.i64 (1 : Int))], ms := [], hp := [] }))
    else
     some ((AX.exit 0, { tm := tmOf 30 [(0, AV.str s), (1, AV.int IntKind.i64 (↑i : Int)), (2, AV.int IntKind.i64 (1 : Int)), (26, AV.bool false)], ms := [], hp := [] }))
   else
    none
  else
   some ((AX.exit 0, { tm := tmOf 30 [(0, AV.str s), (1, AV.int IntKind.i64 (↑i : Int)), (2, AV.int IntKind.i64 (1 : Int)), (26, AV.bool false)], ms := [], hp := [] })) := by kernel_rfl

theorem l68 : LoopOk Tryd.prog tabZ.pf (fun n => hd Tryd.prog tabZ.pf tabZ.con.run (fun f => (H0 f).to) n 9) h68.to 68 0 none L68 (loopAt Tryd.prog 68 0) := by
  rw [show loopAt Tryd.prog 68 0 = .loop (lbody Tryd.prog 68 0) by kernel_rfl]
  refine loop_c (hdT_le (m := 20) 9) (m := 20) (lv := mbits 7 30) (p := pL68) (res := rL68) iL68 (within_of _ (by rw [show loopsOf (lbody Tryd.prog 68 0) = [] by kernel_rfl]; simp)) (by kernel_rfl) (fun ⟨s, i⟩ => s.length - i) ?_
  rintro ⟨s, i⟩ hp
  have ht := q68 s i
  have hb : s.length ≤ 4611686018427387903 := by have := hp; simp only [pL68, bnd] at this; omega
  have hi : i ≤ s.length := by have := hp; simp only [pL68, bnd] at this; omega
  by_cases hl : i < s.length
  · have hd := fxN_step (q := digB) (0) hl
    rw [decide_eq_true (show (i : Int) < s.length by omega), byte_at hl, Int.toNat_natCast, w64n (by omega)] at ht
    rw [show (dig ((s.getD i 0).toNat : Int)) = digB (s.getD i 0) from rfl] at ht
    dsimp only [cond_true] at ht
    cases hq : digB (s.getD i 0) with
    | false =>
      rw [hq] at ht hd
      right
      refine ⟨_, ?_, ?_, ht⟩
      · simp
      · simp only [rL68, T.run_leaf, hd, cond_false] <;> rfl
    | true =>
      rw [hq] at ht hd
      left
      refine ⟨⟨s, i + 1⟩, ?_, by simp only; omega, ?_, ht⟩
      · have := hp
        simp only [pL68, bnd] at this ⊢
        omega
      · simp only [rL68, T.run_leaf, hd, cond_true]
  · have he : i = s.length := by omega
    right
    rw [decide_eq_false (show ¬ (i : Int) < s.length by omega)] at ht
    refine ⟨_, ?_, ?_, ht⟩
    · simp
    · simp only [rL68, T.run_leaf, fxN_end (show s.length ≤ i by omega)] <;> rfl

theorem t68 (s : List UInt8) (a : Int) : (evn tabZ h68 L68 68 [.str s, .int .i64 a, .int .i64 1] []).run =
  bif decide (a < (0 : Int)) then
   some ((AV.int IntKind.i64 a, []))
  else
   bif decide (a > (↑s.length : Int)) then
    some ((AV.int IntKind.i64 a, []))
   else
    bif isEn eL68 pL68 ([AV.str s, AV.int IntKind.i64 a, AV.int IntKind.i64 (1 : Int)], []) then
     some ((AV.int IntKind.i64 (↑(fxN digB s a.toNat) : Int), []))
    else
     none := by kernel_rfl

def c68 : List AV → T AV
  | [.str s, .int .i64 a, .int .i64 1] => .leaf (.int .i64 (runD s a))
  | _ => .fail

theorem e68 (s : List UInt8) (a : Int) (hF : FitsL [.str s, .int .i64 a, .int .i64 1]) : (evn tabZ h68 L68 68 [.str s, .int .i64 a, .int .i64 1] []).run = (.leaf (.int .i64 (runD s a)) : T AV).run.map fun r => (r, []) := by
  refine (t68 s a).trans ?_
  have hb : s.length ≤ bnd := hF.1
  unfold runD
  by_cases h1 : a < 0
  · rw [cond_chk (by simpa using h1), if_pos (.inl h1)]; rfl
  · by_cases h2 : a > s.length
    · rw [cond_no (by simpa using h1), cond_chk (by simpa using h2), if_pos (.inr h2)]; rfl
    · rw [cond_no (by simpa using h1), cond_no (by simpa using h2), if_neg (by omega)]
      obtain ⟨n, rfl⟩ : ∃ n : Nat, a = n := ⟨a.toNat, by omega⟩
      refine (cond_chk (kL68 s n ⟨by omega, hb⟩)).trans ?_
      simp only [Int.toNat_natCast, fxN, runL]
      show some (AV.int IntKind.i64 _, _) = some (AV.int IntKind.i64 _, _)
      rw [Int.natCast_add]

theorem s68 : Sound1 Tryd.prog ⟨68, true, pcon c68⟩ := by
  refine sound_pureH (m := 20) (k := 9) (hn := h68) (Λ := L68) (soundTab_of all_tabZ) H0 (oneLoop (by kernel_rfl) l68) fun args r hF h => ?_
  unfold c68 at h
  split at h
  · rename_i s a
    have he := e68 s a hF
    rw [he, h]; rfl
  · cases h

structure Y64 where
  s : List UInt8
  i : Nat

def eL64 : Y64 → List AV × Hp := fun ⟨s, i⟩ => ([.str s, .int .i64 i], [])

def dL64 : List AV × Hp → Y64
  | ([.str s, .int .i64 i], []) => ⟨s, i.toNat⟩
  | _ => ⟨default, default⟩

def pL64 : Y64 → Prop := fun ⟨s, i⟩ => i ≤ s.length ∧ s.length ≤ bnd

def rL64 : Y64 → T (AX × St) := fun ⟨s, i⟩ => .br (alN digB s i) (.leaf (.exit 0, { tm := tmOf 18 [(0, .str s), (3, .int .i64 s.length), (7, .bool false)], ms := [], hp := [] })) (.leaf (.ret, { tm := tmOf 18 [(2, .bool false)], ms := [], hp := [] }))

noncomputable def L64 : LoopT := fun k => match Nat.beq k 200029 with
  | true => some (lccon (mbits 9 18) eL64 dL64 pL64 rL64)
  | false => none

theorem iL64 : ∀ x, dL64 (eL64 x) = x := by
  rintro ⟨s, i⟩
  simp only [eL64, dL64, Int.toNat_natCast]

theorem kL64 (s : List UInt8) (i : Nat) (h : i ≤ s.length ∧ s.length ≤ bnd) : isEn eL64 pL64 ([.str s, .int .i64 i], []) = true := isEn_true (enc := eL64) (p := pL64) ⟨s, i⟩ h

theorem q64 (s : List UInt8) (i : Nat) : (rdn tabZ h64 L64 64 0 0 { tm := encGo (mbits 9 18) [.str s, .int .i64 i], ms := [], hp := [] }).run =
  bif decide ((↑i : Int) < (↑s.length : Int)) then
   bif decide ((0 : Int) ≤ (↑i : Int) ∧ (↑i : Int) < (↑s.length : Int)) then
    bif !dig (↑(s.getD (↑i : Int).toNat (0 : UInt8)).toNat : Int) then
     some ((AX.ret, { tm := tmOf 18 [(2, AV.bool false)], ms := [], hp := [] }))
    else
     some ((AX.normal, { tm := tmOf 18 [(0, AV.str s), (3, AV.int IntKind.i64 (IntKind.i64.wrap ((↑i : Int) + (1 : Int))))], ms := [], hp := [] }))
   else
    none
  else
   some ((AX.exit 0, { tm := tmOf 18 [(0, AV.str s), (3, AV.int IntKind.i64 (↑i : Int)), (7, AV.bool false)], ms := [], hp := [] })) := by kernel_rfl

theorem l64 : LoopOk Tryd.prog tabZ.pf (fun n => hd Tryd.prog tabZ.pf tabZ.con.run (fun f => (H0 f).to) n 9) h64.to 64 0 none L64 (loopAt Tryd.prog 64 0) := by
  rw [show loopAt Tryd.prog 64 0 = .loop (lbody Tryd.prog 64 0) by kernel_rfl]
  refine loop_c (hdT_le (m := 20) 9) (m := 20) (lv := mbits 9 18) (p := pL64) (res := rL64) iL64 (within_of _ (by rw [show loopsOf (lbody Tryd.prog 64 0) = [] by kernel_rfl]; simp)) (by kernel_rfl) (fun ⟨s, i⟩ => s.length - i) ?_
  rintro ⟨s, i⟩ hp
  have ht := q64 s i
  have hb : s.length ≤ 4611686018427387903 := by have := hp; simp only [pL64, bnd] at this; omega
  have hi : i ≤ s.length := by have := hp; simp only [pL64, bnd] at this; omega
  by_cases hl : i < s.length
  · have hd := alN_step (q := digB) (0) hl
    rw [decide_eq_true (show (i : Int) < s.length by omega), byte_at hl, Int.toNat_natCast, w64n (by omega)] at ht
    rw [show (dig ((s.getD i 0).toNat : Int)) = digB (s.getD i 0) from rfl] at ht
    dsimp only [cond_true] at ht
    cases hq : digB (s.getD i 0) with
    | false =>
      rw [hq] at ht hd
      right
      refine ⟨_, ?_, ?_, ht⟩
      · simp
      · simp only [rL64, T.run_br, hd, Bool.false_and] <;> rfl
    | true =>
      rw [hq] at ht hd
      left
      refine ⟨⟨s, i + 1⟩, ?_, by simp only; omega, ?_, ht⟩
      · have := hp
        simp only [pL64, bnd] at this ⊢
        omega
      · simp only [rL64, T.run_br, hd, Bool.true_and]
  · have he : i = s.length := by omega
    right
    rw [decide_eq_false (show ¬ (i : Int) < s.length by omega)] at ht
    refine ⟨_, ?_, ?_, ht⟩
    · simp
    · simp only [rL64, T.run_br, alN_end (show s.length ≤ i by omega)]
      rw [he] <;> rfl

theorem t64 (s : List UInt8) : (evn tabZ h64 L64 64 [.str s] []).run =
  bif isEn eL64 pL64 ([AV.str s, AV.int IntKind.i64 (0 : Int)], []) then
   bif alN digB s 0 then
    some ((AV.bool (decide ((↑s.length : Int) > (0 : Int))), []))
   else
    some ((AV.bool false, []))
  else
   none := by kernel_rfl

def c64 : List AV → T AV
  | [.str s] => .leaf (.bool (dgs s))
  | _ => .fail

theorem e64 (s : List UInt8) (hF : FitsL [.str s]) : (evn tabZ h64 L64 64 [.str s] []).run = (.leaf (.bool (dgs s)) : T AV).run.map fun r => (r, []) := by
  refine (t64 s).trans ?_
  have hb : s.length ≤ bnd := hF.1
  refine (cond_chk (kL64 s 0 ⟨Nat.zero_le _, hb⟩)).trans ?_
  unfold dgs alN
  simp only [show Int.toNat (0 : Int) = 0 from rfl, List.drop_zero]
  cases s with
  | nil => rfl
  | cons c s =>
    rw [show decide (((c :: s).length : Int) > 0) = true from decide_eq_true (by simp only [List.length_cons]; omega)]
    cases ((c :: s).all digB) <;> rfl

theorem s64 : Sound1 Tryd.prog ⟨64, true, pcon c64⟩ := by
  refine sound_pureH (m := 20) (k := 9) (hn := h64) (Λ := L64) (soundTab_of all_tabZ) H0 (oneLoop (by kernel_rfl) l64) fun args r hF h => ?_
  unfold c64 at h
  split at h
  · rename_i s
    have he := e64 s hF
    rw [he, h]; rfl
  · cases h

theorem t66 (c : Int) : (evn tabZ h66 noLoops 66 [.int .u8 c] []).run =
  bif dig c then
   some ((AV.bool true, []))
  else
   bif decide (c ≥ (97 : Int)) then
    bif decide (c ≤ (122 : Int)) then
     some ((AV.bool true, []))
    else
     bif decide (c ≥ (65 : Int)) then
      bif decide (c ≤ (90 : Int)) then
       some ((AV.bool true, []))
      else
       some ((AV.bool (c == (45 : Int)), []))
     else
      some ((AV.bool (c == (45 : Int)), []))
   else
    bif decide (c ≥ (65 : Int)) then
     bif decide (c ≤ (90 : Int)) then
      some ((AV.bool true, []))
     else
      some ((AV.bool (c == (45 : Int)), []))
    else
     some ((AV.bool (c == (45 : Int)), [])) := by kernel_rfl

def c66 : List AV → T AV
  | [.int .u8 c] => .leaf (.bool (idB c))
  | _ => .fail

theorem e66 (c : Int) (hF : FitsL [.int .u8 c]) : (evn tabZ h66 noLoops 66 [.int .u8 c] []).run = (.leaf (.bool (idB c)) : T AV).run.map fun r => (r, []) := by
  refine (t66 c).trans ?_
  unfold idB alnum let_
  cases dig c <;> cases decide (c ≥ 97) <;> cases decide (c ≤ 122) <;> cases decide (c ≥ 65) <;> cases decide (c ≤ 90) <;> rfl

theorem s66 : Sound1 Tryd.prog ⟨66, true, pcon c66⟩ := by
  refine sound_pureH (m := 20) (k := 9) (hn := h66) (Λ := noLoops) (soundTab_of all_tabZ) H0 (fun i hi => anyLoops) fun args r hF h => ?_
  unfold c66 at h
  split at h
  · rename_i c
    have he := e66 c hF
    rw [he, h]; rfl
  · cases h

noncomputable def tabA1 : Tab := ⟨16, true, pcon c16⟩ :: ⟨68, true, pcon c68⟩ :: ⟨64, true, pcon c64⟩ :: ⟨66, true, pcon c66⟩ :: tabZ

theorem all_tabA1 : ∀ e, e ∈ tabA1 → Sound1 Tryd.prog e := (sound_mem_tab s16 (sound_mem_tab s68 (sound_mem_tab s64 (sound_mem_tab s66 all_tabZ))))

theorem ok_tabA1 : SoundTab Tryd.prog tabA1 := soundTab_of all_tabA1

theorem t44 (s : List UInt8) : (evn tabA1 h44 noLoops 44 [.str s] []).run =
  bif dgs s then
   bif decide ((0 : Int) ≤ (0 : Int) ∧ (0 : Int) < (↑s.length : Int)) then
    bif (↑(s.getD 0 (0 : UInt8)).toNat : Int) != (48 : Int) then
     some ((AV.bool true, []))
    else
     some ((AV.bool ((↑s.length : Int) == (1 : Int)), []))
   else
    none
  else
   some ((AV.bool false, [])) := by kernel_rfl

def c44 : List AV → T AV
  | [.str s] => .leaf (.bool (numB s))
  | _ => .fail

theorem e44 (s : List UInt8) (hF : FitsL [.str s]) : (evn tabA1 h44 noLoops 44 [.str s] []).run = (.leaf (.bool (numB s)) : T AV).run.map fun r => (r, []) := by
  refine (t44 s).trans ?_
  unfold numB
  cases hd : dgs s with
  | false => rfl
  | true =>
    have hp := dgs_pos hd
    have g : decide ((0 : Int) ≤ 0 ∧ (0 : Int) < (s.length : Int)) = true := by simp; omega
    rw [g]
    simp only [cond_true, Bool.true_and]
    cases (((s.getD 0 0).toNat : Int) != 48) <;> rfl

theorem s44 : Sound1 Tryd.prog ⟨44, true, pcon c44⟩ := by
  refine sound_pureH (m := 20) (k := 9) (hn := h44) (Λ := noLoops) (soundTab_of all_tabA1) H0 (fun i hi => anyLoops) fun args r hF h => ?_
  unfold c44 at h
  split at h
  · rename_i s
    have he := e44 s hF
    rw [he, h]; rfl
  · cases h

noncomputable def tabA2 : Tab := ⟨44, true, pcon c44⟩ :: tabA1

theorem all_tabA2 : ∀ e, e ∈ tabA2 → Sound1 Tryd.prog e := (sound_mem_tab s44 all_tabA1)

theorem ok_tabA2 : SoundTab Tryd.prog tabA2 := soundTab_of all_tabA2

theorem t65 (s : List UInt8) : (evn tabA2 h65 noLoops 65 [.str s] []).run =
  bif dgs s then
   some ((AV.bool !numB s, []))
  else
   some ((AV.bool false, [])) := by kernel_rfl

def c65 : List AV → T AV
  | [.str s] => .leaf (.bool (dgs s && !numB s))
  | _ => .fail

theorem e65 (s : List UInt8) (hF : FitsL [.str s]) : (evn tabA2 h65 noLoops 65 [.str s] []).run = (.leaf (.bool (dgs s && !numB s)) : T AV).run.map fun r => (r, []) := by
  refine (t65 s).trans ?_
  cases dgs s <;> rfl

theorem s65 : Sound1 Tryd.prog ⟨65, true, pcon c65⟩ := by
  refine sound_pureH (m := 20) (k := 9) (hn := h65) (Λ := noLoops) (soundTab_of all_tabA2) H0 (fun i hi => anyLoops) fun args r hF h => ?_
  unfold c65 at h
  split at h
  · rename_i s
    have he := e65 s hF
    rw [he, h]; rfl
  · cases h

noncomputable def tabA3 : Tab := ⟨65, true, pcon c65⟩ :: tabA2

theorem all_tabA3 : ∀ e, e ∈ tabA3 → Sound1 Tryd.prog e := (sound_mem_tab s65 all_tabA2)

theorem ok_tabA3 : SoundTab Tryd.prog tabA3 := soundTab_of all_tabA3

end Go.Sem
namespace Go.Sem

open Go Go.Proofs Go.Ab

set_option maxRecDepth 100000

set_option linter.unusedVariables false

set_option linter.unusedSimpArgs false

/-! ### ref02.idents, joined, text, Fit, Format -/

theorem smallL_get {l : List (List UInt8)} (h : smallL l) (i : Nat) : (l.getD i []).length ≤ bnd := by
  rw [List.getD_eq_getElem?_getD]
  cases hx : l[i]? with
  | none => simp [bnd]
  | some x => exact h.2 x (List.mem_of_getElem? hx)

theorem fits_small {l : List (List UInt8)} (h : Fits (.sl 1 l.length (strF l))) : smallL l := by
  refine ⟨h.1, fun s hs => ?_⟩
  obtain ⟨i, hi, rfl⟩ := List.mem_iff_getElem.1 hs
  have := h.2 i 0 hi (by omega)
  simp only [strF, Fits, List.getD_eq_getElem?_getD, List.getElem?_eq_getElem hi, Option.getD_some] at this
  exact this

theorem allidb (x : List UInt8) : allD idB x 0 = x.all idb := allD_zero

structure Y45_1 where
  l : List (List UInt8)
  p : Bool
  i : Nat
  k : Nat

def eL45_1 : Y45_1 → List AV × Hp := fun ⟨l, p, i, k⟩ => ([.sl 1 l.length (strF l), .bool p, .int .i64 i, .int .i64 k], [])

def dL45_1 : List AV × Hp → Y45_1
  | ([.sl 1 l_n l_f, .bool p, .int .i64 i, .int .i64 k], []) => ⟨strsOf l_f l_n, p, i.toNat, k.toNat⟩
  | _ => ⟨default, default, default, default⟩

def pL45_1 : Y45_1 → Prop := fun ⟨l, p, i, k⟩ => i < l.length ∧ k ≤ (l.getD i []).length ∧ smallL l

def rL45_1 : Y45_1 → T (AX × St) := fun ⟨l, p, i, k⟩ => .br (alN idb (l.getD i []) k) (.leaf (.exit 2, { tm := tmOf 46 [(0, .sl 1 l.length (strF l)), (1, .bool p), (5, .int .i64 i), (6, .int .i64 (l.getD i []).length), (35, .bool false)], ms := [], hp := [] })) (.leaf (.ret, { tm := tmOf 46 [(4, .bool false)], ms := [], hp := [] }))

noncomputable def LI45 : LoopT := fun k => match Nat.beq k 700035 with
  | true => some (lccon (mbits 99 46) eL45_1 dL45_1 pL45_1 rL45_1)
  | false => none

theorem iL45_1 : ∀ x, dL45_1 (eL45_1 x) = x := by
  rintro ⟨l, p, i, k⟩
  simp only [eL45_1, dL45_1, strsOf_strF, Int.toNat_natCast]

theorem kL45_1 (l : List (List UInt8)) (p : Bool) (i : Nat) (k : Nat) (h : i < l.length ∧ k ≤ (l.getD i []).length ∧ smallL l) : isEn eL45_1 pL45_1 ([.sl 1 l.length (strF l), .bool p, .int .i64 i, .int .i64 k], []) = true := isEn_true (enc := eL45_1) (p := pL45_1) ⟨l, p, i, k⟩ h

theorem zL45_1 (l : List (List UInt8)) (p : Bool) (i : Nat) (h : pL45_1 ⟨l, p, i, 0⟩) : isEn eL45_1 pL45_1 ([.sl 1 l.length (strF l), .bool p, .int .i64 i, .int .i64 (0 : Int)], []) = true := isEn_true (enc := eL45_1) (p := pL45_1) ⟨l, p, i, 0⟩ h

theorem q45_1 (l : List (List UInt8)) (p : Bool) (i : Nat) (k : Nat) : (rdn tabA3 h45 LI45 45 0 1 { tm := encGo (mbits 99 46) [.sl 1 l.length (strF l), .bool p, .int .i64 i, .int .i64 k], ms := [], hp := [] }).run =
  bif decide ((0 : Int) ≤ (↑i : Int) ∧ (↑i : Int) < (↑l.length : Int)) then
   bif decide ((↑k : Int) < (↑(l.getD (↑i : Int).toNat []).length : Int)) then
    bif decide ((0 : Int) ≤ (↑i : Int) ∧ (↑i : Int) < (↑l.length : Int)) then
     bif decide ((0 : Int) ≤ (↑k : Int) ∧ (↑k : Int) < (↑(l.getD (↑i : Int).toNat []).length : Int)) then
      bif !idB (↑((l.getD (↑i : Int).toNat []).getD (↑k : Int).toNat (0 : UInt8)).toNat : Int) then
       some ((AX.ret, { tm := tmOf 46 [(4, AV.bool false)], ms := [], hp := [] }))
      else
       some ((AX.normal, { tm := tmOf 46 [(0, AV.sl 1 l.length (strF l)), (1, AV.bool p), (5, AV.int IntKind.i64 (↑i : Int)), (6, AV.int IntKind.i64 (IntKind.i64.wrap ((↑k : Int) + (1 : Int))))], ms := [], hp := [] }))
     else
      none
    else
     none
   else
    some ((AX.exit 2, { tm := tmOf 46 [(0, AV.sl 1 l.length (strF l)), (1, AV.bool p), (5, AV.int IntKind.i64 (↑i : Int)), (6, AV.int IntKind.i64 (↑k : Int)), (35, AV.bool false)], ms := [], hp := [] }))
  else
   none := by kernel_rfl

theorem l45_1 : LoopOk Tryd.prog tabA3.pf (fun n => hd Tryd.prog tabA3.pf tabA3.con.run (fun f => (H0 f).to) n 9) h45.to 45 0 none LI45 (loopAt Tryd.prog 45 1) := by
  rw [show loopAt Tryd.prog 45 1 = .loop (lbody Tryd.prog 45 1) by kernel_rfl]
  refine loop_c (hdT_le (m := 20) 9) (m := 20) (lv := mbits 99 46) (p := pL45_1) (res := rL45_1) iL45_1 (within_of _ (by rw [show loopsOf (lbody Tryd.prog 45 1) = [] by kernel_rfl]; simp)) (by kernel_rfl) (fun ⟨l, p, i, k⟩ => (l.getD i []).length - k) ?_
  rintro ⟨l, p, i, k⟩ hp
  have ht := q45_1 l p i k
  have hp1 := smallL_get hp.2.2 i
  have hp0 : i < l.length := hp.1
  rw [byte_at hp0] at ht
  simp only [Int.toNat_natCast, cond_true, bnd] at ht hp1
  by_cases hl : k < (l.getD i []).length
  · have hd := alN_step (q := idb) 0 hl
    rw [decide_eq_true (show (k : Int) < (l.getD i []).length by omega), byte_at hl, w64n (by omega)] at ht
    rw [show (idB (((l.getD i []).getD k 0).toNat : Int)) = idb ((l.getD i []).getD k 0) from rfl] at ht
    dsimp only [cond_true] at ht
    cases hq : idb ((l.getD i []).getD k 0) with
    | false =>
      rw [hq] at ht hd
      right
      refine ⟨_, ?_, ?_, ht⟩
      · simp
      · simp only [rL45_1, T.run_br, hd, Bool.false_and] <;> rfl
    | true =>
      rw [hq] at ht hd
      left
      refine ⟨⟨l, p, i, k + 1⟩, ⟨hp0, by omega, hp.2.2⟩, by simp only; omega, ?_, ht⟩
      simp only [rL45_1, T.run_br, hd, Bool.true_and]
  · have he : k = (l.getD i []).length := by have := hp.2.1; omega
    right
    rw [decide_eq_false (show ¬ (k : Int) < (l.getD i []).length by omega)] at ht
    refine ⟨_, ?_, ?_, ht⟩
    · simp
    · simp only [rL45_1, T.run_br, alN_end (show (l.getD i []).length ≤ k by omega)]
      rw [he] <;> rfl

theorem identB_ref (p : Bool) (x : List UInt8) : identB p x = (!((x.length : Int) == 0) && (!(p && (dgs x && !numB x)) && alN idb x 0)) := by
  have e : alN idb x 0 = x.all idb := rfl
  unfold identB
  rw [allidb, e]
  cases x with
  | nil => cases p <;> rfl
  | cons c x =>
    rw [show (((c :: x).length : Int) == 0) = false by simp; omega, show ((c :: x) == []) = false from rfl]
    cases p <;> cases dgs (c :: x) <;> cases numB (c :: x) <;> cases (c :: x).all idb <;> rfl

structure Y45 where
  l : List (List UInt8)
  p : Bool
  i : Nat

def eL45 : Y45 → List AV × Hp := fun ⟨l, p, i⟩ => ([.sl 1 l.length (strF l), .bool p, .int .i64 i], [])

def dL45 : List AV × Hp → Y45
  | ([.sl 1 l_n l_f, .bool p, .int .i64 i], []) => ⟨strsOf l_f l_n, p, i.toNat⟩
  | _ => ⟨default, default, default⟩

def pL45 : Y45 → Prop := fun ⟨l, p, i⟩ => i ≤ l.length ∧ smallL l

def rL45 : Y45 → T (AX × St) := fun ⟨l, p, i⟩ => .br (alN (identB p) l i) (.leaf (.exit 0, { tm := tmOf 46 [(0, .sl 1 l.length (strF l)), (1, .bool p), (5, .int .i64 l.length), (10, .bool false)], ms := [], hp := [] })) (.leaf (.ret, { tm := tmOf 46 [(4, .bool false)], ms := [], hp := [] }))

noncomputable def L45 : LoopT := fun k => match Nat.beq k 200081 with
  | true => some (lccon (mbits 35 46) eL45 dL45 pL45 rL45)
  | false => LI45 k

theorem iL45 : ∀ x, dL45 (eL45 x) = x := by
  rintro ⟨l, p, i⟩
  simp only [eL45, dL45, strsOf_strF, Int.toNat_natCast]

theorem kL45 (l : List (List UInt8)) (p : Bool) (i : Nat) (h : i ≤ l.length ∧ smallL l) : isEn eL45 pL45 ([.sl 1 l.length (strF l), .bool p, .int .i64 i], []) = true := isEn_true (enc := eL45) (p := pL45) ⟨l, p, i⟩ h

theorem zL45 (l : List (List UInt8)) (p : Bool) (h : pL45 ⟨l, p, 0⟩) : isEn eL45 pL45 ([.sl 1 l.length (strF l), .bool p, .int .i64 (0 : Int)], []) = true := isEn_true (enc := eL45) (p := pL45) ⟨l, p, 0⟩ h

theorem q45 (l : List (List UInt8)) (p : Bool) (i : Nat) : (rdn tabA3 h45 L45 45 0 0 { tm := encGo (mbits 35 46) [.sl 1 l.length (strF l), .bool p, .int .i64 i], ms := [], hp := [] }).run =
  bif decide ((↑i : Int) < (↑l.length : Int)) then
   bif decide ((0 : Int) ≤ (↑i : Int) ∧ (↑i : Int) < (↑l.length : Int)) then
    bif (↑(l.getD (↑i : Int).toNat []).length : Int) == (0 : Int) then
     some ((AX.ret, { tm := tmOf 46 [(4, AV.bool false)], ms := [], hp := [] }))
    else
     bif p then
      bif decide ((0 : Int) ≤ (↑i : Int) ∧ (↑i : Int) < (↑l.length : Int)) then
       bif dgs (l.getD (↑i : Int).toNat []) && !numB (l.getD (↑i : Int).toNat []) then
        some ((AX.ret, { tm := tmOf 46 [(4, AV.bool false)], ms := [], hp := [] }))
       else
        bif isEn eL45_1 pL45_1 ([AV.sl 1 l.length (strF l), AV.bool p, AV.int IntKind.i64 (↑i : Int), AV.int IntKind.i64 (0 : Int)], []) then
         bif alN idb ((strsOf (strF l) l.length).getD (↑i : Int).toNat []) 0 then
          some ((AX.normal, { tm := tmOf 46 [(0, AV.sl 1 (strsOf (strF l) l.length).length (strF (strsOf (strF l) l.length))), (1, AV.bool p), (5, AV.int IntKind.i64 (IntKind.i64.wrap ((↑(↑i : Int).toNat : Int) + (1 : Int))))], ms := [], hp := [] }))
         else
          some ((AX.ret, { tm := tmOf 46 [(4, AV.bool false)], ms := [], hp := [] }))
        else
         none
      else
       none
     else
      bif isEn eL45_1 pL45_1 ([AV.sl 1 l.length (strF l), AV.bool p, AV.int IntKind.i64 (↑i : Int), AV.int IntKind.i64 (0 : Int)], []) then
       bif alN idb ((strsOf (strF l) l.length).getD (↑i : Int).toNat []) 0 then
        some ((AX.normal, { tm := tmOf 46 [(0, AV.sl 1 (strsOf (strF l) l.length).length (strF (strsOf (strF l) l.length))), (1, AV.bool p), (5, AV.int IntKind.i64 (IntKind.i64.wrap ((↑(↑i : Int).toNat : Int) + (1 : Int))))], ms := [], hp := [] }))
       else
        some ((AX.ret, { tm := tmOf 46 [(4, AV.bool false)], ms := [], hp := [] }))
      else
       none
   else
    none
  else
   some ((AX.exit 0, { tm := tmOf 46 [(0, AV.sl 1 l.length (strF l)), (1, AV.bool p), (5, AV.int IntKind.i64 (↑i : Int)), (10, AV.bool false)], ms := [], hp := [] })) := by kernel_rfl

theorem l45 : LoopOk Tryd.prog tabA3.pf (fun n => hd Tryd.prog tabA3.pf tabA3.con.run (fun f => (H0 f).to) n 9) h45.to 45 0 none L45 (loopAt Tryd.prog 45 0) := by
  rw [show loopAt Tryd.prog 45 0 = .loop (lbody Tryd.prog 45 0) by kernel_rfl]
  refine loop_c (hdT_le (m := 20) 9) (m := 20) (lv := mbits 35 46) (p := pL45) (res := rL45) iL45 (within_of _ (by
      rw [show loopsOf (lbody Tryd.prog 45 0) = [loopAt Tryd.prog 45 1] by kernel_rfl]
      intro d hd
      simp only [List.mem_cons, List.not_mem_nil, or_false] at hd
      subst hd
      exact l45_1)) (by kernel_rfl) (fun ⟨l, p, i⟩ => l.length - i) ?_
  rintro ⟨l, p, i⟩ hp
  have ht := q45 l p i
  obtain ⟨h1, h2⟩ := hp
  have hb := h2.1
  simp only [bnd] at hb
  by_cases hl : i < l.length
  · have hd := alN_step (q := identB p) [] hl
    rw [decide_eq_true (show (i : Int) < l.length by omega), byte_at hl, zL45_1 l p i ⟨hl, Nat.zero_le _, h2⟩] at ht
    simp only [Int.toNat_natCast, cond_true, strsOf_strF, w64n (show i < 9223372036854775807 by omega)] at ht
    have e := identB_ref p (l.getD i [])
    have go : identB p (l.getD i []) = true → _ := fun hq => (show (∃ y : Y45, pL45 y ∧ (l.length - y.i) < l.length - i ∧ (rL45 y).run = (rL45 ⟨l, p, i⟩).run ∧ y = ⟨l, p, i + 1⟩) from ⟨⟨l, p, i + 1⟩, ⟨by omega, h2⟩, by simp only; omega, by simp only [rL45, T.run_br, hd, hq, Bool.true_and], rfl⟩)
    have no : identB p (l.getD i []) = false → (rL45 ⟨l, p, i⟩).run = some (.ret, { tm := tmOf 46 [(4, .bool false)], ms := [], hp := [] }) := fun hq => by
      simp only [rL45, T.run_br, hd, hq, Bool.false_and] <;> rfl
    cases hq : identB p (l.getD i []) with
    | true =>
      obtain ⟨y, g1, g2, g3, rfl⟩ := go hq
      left
      refine ⟨_, g1, g2, g3, ht.trans ?_⟩
      rw [hq] at e
      revert e
      cases (((l.getD i []).length : Int) == 0) <;> cases p <;> cases (dgs (l.getD i []) && !numB (l.getD i [])) <;> cases alN idb (l.getD i []) 0 <;> intro e <;> first | rfl | cases e
    | false =>
      right
      refine ⟨_, ?_, no hq, ht.trans ?_⟩
      · simp
      · rw [hq] at e
        revert e
        cases (((l.getD i []).length : Int) == 0) <;> cases p <;> cases (dgs (l.getD i []) && !numB (l.getD i [])) <;> cases alN idb (l.getD i []) 0 <;> intro e <;> first | rfl | cases e
  · have he : i = l.length := by omega
    right
    rw [decide_eq_false (show ¬ (i : Int) < l.length by omega)] at ht
    refine ⟨_, ?_, ?_, ht⟩
    · simp
    · simp only [rL45, T.run_br, alN_end (show l.length ≤ i by omega)]
      rw [he] <;> rfl

theorem t45 (l : List (List UInt8)) (p : Bool) : (evn tabA3 h45 L45 45 [.sl 1 l.length (strF l), .bool p] []).run =
  bif isEn eL45 pL45 ([AV.sl 1 l.length (strF l), AV.bool p, AV.int IntKind.i64 (0 : Int)], []) then
   bif alN (identB p) (strsOf (strF l) l.length) 0 then
    some ((AV.bool true, []))
   else
    some ((AV.bool false, []))
  else
   none := by kernel_rfl

structure X45 where
  l : List (List UInt8)
  p : Bool

def en45 : X45 → List AV := fun ⟨l, p⟩ => [.sl 1 l.length (strF l), .bool p]

def de45 : List AV → X45
  | [.sl 1 l_n l_f, .bool p] => ⟨strsOf l_f l_n, p⟩
  | _ => ⟨default, default⟩

def p45 : X45 → Prop := fun ⟨l, p⟩ => True

def rs45 : X45 → T AV := fun ⟨l, p⟩ => .leaf (.bool (fitL p l))

noncomputable def c45 : List AV → T AV := ccon en45 de45 p45 rs45

theorem in45 : ∀ x, de45 (en45 x) = x := by
  rintro ⟨l, p⟩
  simp only [en45, de45, strsOf_strF]

theorem k45 (l : List (List UInt8)) (p : Bool) (h : True) : isEn en45 p45 [.sl 1 l.length (strF l), .bool p] = true := isEn_true (enc := en45) (p := p45) ⟨l, p⟩ h

theorem e45 (l : List (List UInt8)) (p : Bool) (hF : FitsL [.sl 1 l.length (strF l), .bool p]) : (evn tabA3 h45 L45 45 [.sl 1 l.length (strF l), .bool p] []).run = (.leaf (.bool (fitL p l)) : T AV).run.map fun r => (r, []) := by
  refine (t45 l p).trans ?_
  refine (cond_chk (kL45 l p 0 ⟨Nat.zero_le _, fits_small hF.1⟩)).trans ?_
  simp only [strsOf_strF, alN, List.drop_zero, fitL]
  cases l.all (identB p) <;> rfl

theorem s45 : Sound1 Tryd.prog ⟨45, true, pcon c45⟩ := by
  refine sound_c (soundTab_of all_tabA3) H0 in45 (hn := h45) (m := 20) (k := 9) (Λ := L45) (twoLoops (by kernel_rfl) l45 l45_1) ?_
  rintro ⟨l, p⟩ hp hF
  exact e45 l p hF

/-- Texts with dots between, from the i-th on. -/
def jf (l : List (List UInt8)) (i : Nat) (a : List UInt8) : List UInt8 := if i = 0 then a ++ joinS l [46] else a ++ (l.drop i).flatMap fun x => 46 :: x

theorem joinS_flat (x : List UInt8) : ∀ l : List (List UInt8), joinS (x :: l) [46] = x ++ l.flatMap fun x => 46 :: x
  | [] => by rw [joinS_one]; simp
  | y :: l => by rw [joinS_cons (by simp), joinS_flat y l]; simp

theorem jf_zero {l : List (List UInt8)} (a : List UInt8) (h : 0 < l.length) : jf l 0 a = jf l 1 (a ++ l.getD 0 []) := by
  cases l with
  | nil => simp at h
  | cons x l => simp [jf, joinS_flat]

theorem jf_step {l : List (List UInt8)} {i : Nat} (a : List UInt8) (h0 : 0 < i) (h : i < l.length) : jf l i a = jf l (i + 1) (a ++ [46] ++ l.getD i []) := by
  unfold jf
  rw [if_neg (by omega), if_neg (by omega), dropD [] h]
  simp

theorem jf_end {l : List (List UInt8)} {i : Nat} (a : List UInt8) (h : l.length ≤ i) : jf l i a = a := by
  unfold jf
  split
  · have : l = [] := List.length_eq_zero_iff.1 (by omega)
    subst this; simp [joinS, Go.Lib.join_nil]
  · rw [List.drop_eq_nil_of_le h]; simp

theorem jf_len (l : List (List UInt8)) (i : Nat) (a : List UInt8) : a.length ≤ (jf l i a).length := by
  unfold jf
  split <;> simp

structure Y67 where
  l : List (List UInt8)
  a : List UInt8
  i : Nat

def eL67 : Y67 → List AV × Hp := fun ⟨l, a, i⟩ => ([.sl 1 l.length (strF l), .str a, .int .i64 i], [])

def dL67 : List AV × Hp → Y67
  | ([.sl 1 l_n l_f, .str a, .int .i64 i], []) => ⟨strsOf l_f l_n, a, i.toNat⟩
  | _ => ⟨default, default, default⟩

def pL67 : Y67 → Prop := fun ⟨l, a, i⟩ => i ≤ l.length ∧ l.length ≤ bnd ∧ (jf l i a).length ≤ bnd

def rL67 : Y67 → T (AX × St) := fun ⟨l, a, i⟩ => .leaf (.exit 0, { tm := tmOf 22 [(0, .sl 1 l.length (strF l)), (3, .str (jf l i a)), (4, .int .i64 l.length), (8, .bool false)], ms := [], hp := [] })

noncomputable def L67 : LoopT := fun k => match Nat.beq k 300035 with
  | true => some (lccon (mbits 25 22) eL67 dL67 pL67 rL67)
  | false => none

theorem iL67 : ∀ x, dL67 (eL67 x) = x := by
  rintro ⟨l, a, i⟩
  simp only [eL67, dL67, strsOf_strF, Int.toNat_natCast]

theorem kL67 (l : List (List UInt8)) (a : List UInt8) (i : Nat) (h : i ≤ l.length ∧ l.length ≤ bnd ∧ (jf l i a).length ≤ bnd) : isEn eL67 pL67 ([.sl 1 l.length (strF l), .str a, .int .i64 i], []) = true := isEn_true (enc := eL67) (p := pL67) ⟨l, a, i⟩ h

theorem zL67 (l : List (List UInt8)) (a : List UInt8) (h : pL67 ⟨l, a, 0⟩) : isEn eL67 pL67 ([.sl 1 l.length (strF l), .str a, .int .i64 (0 : Int)], []) = true := isEn_true (enc := eL67) (p := pL67) ⟨l, a, 0⟩ h

theorem q67 (l : List (List UInt8)) (a : List UInt8) (i : Nat) : (rdn tabA3 h67 L67 67 0 0 { tm := encGo (mbits 25 22) [.sl 1 l.length (strF l), .str a, .int .i64 i], ms := [], hp := [] }).run =
  bif decide ((↑i : Int) < (↑l.length : Int)) then
   bif decide ((↑i : Int) > (0 : Int)) then
    bif decide (a.length + 1 ≤ 4611686018427387903) then
     bif decide ((0 : Int) ≤ (↑i : Int) ∧ (↑i : Int) < (↑l.length : Int)) then
      bif decide ((a ++ [(46 : UInt8)]).length + (l.getD (↑i : Int).toNat []).length ≤ 4611686018427387903) then
       some ((AX.normal, { tm := tmOf 22 [(0, AV.sl 1 l.length (strF l)), (3, AV.str (a ++ [(46 : UInt8)] ++ l.getD (↑i : Int).toNat [])), (4, AV.int IntKind.i64 (IntKind.i64.wrap ((↑i : Int) + (1 : Int))))], ms := [], hp := [] }))
      else
       none
     else
      none
    else
     none
   else
    bif decide ((0 : Int) ≤ (↑i : Int) ∧ (↑i : Int) < (↑l.length : Int)) then
     bif decide (a.length + (l.getD (↑i : Int).toNat []).length ≤ 4611686018427387903) then
      some ((AX.normal, { tm := tmOf 22 [(0, AV.sl 1 l.length (strF l)), (3, AV.str (a ++ l.getD (↑i : Int).toNat [])), (4, AV.int IntKind.i64 (IntKind.i64.wrap ((↑i : Int) + (1 : Int))))], ms := [], hp := [] }))
     else
      none
    else
     none
  else
   some ((AX.exit 0, { tm := tmOf 22 [(0, AV.sl 1 l.length (strF l)), (3, AV.str a), (4, AV.int IntKind.i64 (↑i : Int)), (8, AV.bool false)], ms := [], hp := [] })) := by kernel_rfl

theorem l67 : LoopOk Tryd.prog tabA3.pf (fun n => hd Tryd.prog tabA3.pf tabA3.con.run (fun f => (H0 f).to) n 9) h67.to 67 0 none L67 (loopAt Tryd.prog 67 0) := by
  rw [show loopAt Tryd.prog 67 0 = .loop (lbody Tryd.prog 67 0) by kernel_rfl]
  refine loop_c (hdT_le (m := 20) 9) (m := 20) (lv := mbits 25 22) (p := pL67) (res := rL67) iL67 (within_of _ (by rw [show loopsOf (lbody Tryd.prog 67 0) = [] by kernel_rfl]; simp)) (by kernel_rfl) (fun ⟨l, a, i⟩ => l.length - i) ?_
  rintro ⟨l, a, i⟩ hp
  have ht := q67 l a i
  obtain ⟨h1, h2, h3⟩ := hp
  simp only [bnd] at h2 h3
  by_cases hl : i < l.length
  · rw [decide_eq_true (show (i : Int) < l.length by omega), byte_at hl, Int.toNat_natCast, w64n (by omega)] at ht
    left
    by_cases hi : i = 0
    · subst hi
      have hj := jf_zero a hl
      have hn := jf_len l 1 (a ++ l.getD 0 [])
      rw [hj] at h3
      rw [List.length_append] at hn
      rw [decide_eq_false (by omega), decide_eq_true (show a.length + (l.getD 0 []).length ≤ 4611686018427387903 by omega)] at ht
      refine ⟨⟨l, _, 1⟩, ⟨by omega, by simpa only [bnd] using h2, by simpa only [bnd] using h3⟩, by simp only; omega, ?_, ht⟩
      simp only [rL67, T.run_leaf, hj]
    · have hj := jf_step a (by omega) hl
      have hn := jf_len l (i + 1) (a ++ [46] ++ l.getD i [])
      rw [hj] at h3
      rw [List.length_append] at hn
      have hn2 : (a ++ [46]).length = a.length + 1 := by simp
      rw [decide_eq_true (show (i : Int) > 0 by omega), decide_eq_true (show a.length + 1 ≤ 4611686018427387903 by omega), decide_eq_true (show List.length (a ++ [(46 : UInt8)]) + (l.getD i []).length ≤ 4611686018427387903 by omega)] at ht
      refine ⟨⟨l, _, i + 1⟩, ⟨by omega, by simpa only [bnd] using h2, by simpa only [bnd] using h3⟩, by simp only; omega, ?_, ht⟩
      simp only [rL67, T.run_leaf, hj]
  · have he : i = l.length := by omega
    right
    rw [decide_eq_false (show ¬ (i : Int) < l.length by omega)] at ht
    refine ⟨_, ?_, ?_, ht⟩
    · simp
    · simp only [rL67, T.run_leaf, jf_end a (show l.length ≤ i by omega)]
      rw [he] <;> rfl

theorem t67 (l : List (List UInt8)) : (evn tabA3 h67 L67 67 [.sl 1 l.length (strF l)] []).run =
  bif isEn eL67 pL67 ([AV.sl 1 l.length (strF l), AV.str [], AV.int IntKind.i64 (0 : Int)], []) then
   some ((AV.str (jf (strsOf (strF l) l.length) 0 []), []))
  else
   none := by kernel_rfl

structure X67 where
  l : List (List UInt8)

def en67 : X67 → List AV := fun ⟨l⟩ => [.sl 1 l.length (strF l)]

def de67 : List AV → X67
  | [.sl 1 l_n l_f] => ⟨strsOf l_f l_n⟩
  | _ => ⟨default⟩

def p67 : X67 → Prop := fun ⟨l⟩ => (joinS l [46]).length ≤ bnd

def rs67 : X67 → T AV := fun ⟨l⟩ => .leaf (.str (joinS l [46]))

noncomputable def c67 : List AV → T AV := ccon en67 de67 p67 rs67

theorem in67 : ∀ x, de67 (en67 x) = x := by
  rintro ⟨l⟩
  simp only [en67, de67, strsOf_strF]

theorem k67 (l : List (List UInt8)) (h : (joinS l [46]).length ≤ bnd) : isEn en67 p67 [.sl 1 l.length (strF l)] = true := isEn_true (enc := en67) (p := p67) ⟨l⟩ h

theorem e67 (l : List (List UInt8)) (hF : FitsL [.sl 1 l.length (strF l)]) (hp : (joinS l [46]).length ≤ bnd) : (evn tabA3 h67 L67 67 [.sl 1 l.length (strF l)] []).run = (.leaf (.str (joinS l [46])) : T AV).run.map fun r => (r, []) := by
  refine (t67 l).trans ?_
  refine (cond_chk (kL67 l [] 0 ⟨Nat.zero_le _, hF.1.1, by simpa [jf] using hp⟩)).trans ?_
  simp [strsOf_strF, jf, T.run]

theorem s67 : Sound1 Tryd.prog ⟨67, true, pcon c67⟩ := by
  refine sound_c (soundTab_of all_tabA3) H0 in67 (hn := h67) (m := 20) (k := 9) (Λ := L67) (oneLoop (by kernel_rfl) l67) ?_
  rintro ⟨l⟩ hp hF
  exact e67 l hF hp

noncomputable def tabB1 : Tab := ⟨45, true, pcon c45⟩ :: ⟨67, true, pcon c67⟩ :: tabA3

theorem all_tabB1 : ∀ e, e ∈ tabB1 → Sound1 Tryd.prog e := (sound_mem_tab s45 (sound_mem_tab s67 all_tabA3))

theorem ok_tabB1 : SoundTab Tryd.prog tabB1 := soundTab_of all_tabB1

theorem pos_ne (l : List (List UInt8)) : decide ((l.length : Int) > 0) = !decide (l = []) := by cases l <;> simp <;> omega

theorem t46 (v : Ver) : (evn tabB1 h46 noLoops 46 [.agg [.str v.mj, .str v.mn, .str v.pt, .sl 1 v.pre.length (strF v.pre), .sl 1 v.bu.length (strF v.bu)]] []).run =
  bif decide (v.mj.length + 1 ≤ 4611686018427387903) then
   bif decide ((v.mj ++ [(46 : UInt8)]).length + v.mn.length ≤ 4611686018427387903) then
    bif decide ((v.mj ++ [(46 : UInt8)] ++ v.mn).length + 1 ≤ 4611686018427387903) then
     bif decide ((v.mj ++ [(46 : UInt8)] ++ v.mn ++ [(46 : UInt8)]).length + v.pt.length ≤ 4611686018427387903) then
      bif decide ((↑v.pre.length : Int) > (0 : Int)) then
       bif decide ((v.mj ++ [(46 : UInt8)] ++ v.mn ++ [(46 : UInt8)] ++ v.pt).length + 1 ≤ 4611686018427387903) then
        bif isEn en67 p67 [AV.sl 1 v.pre.length (strF v.pre)] then
         bif decide ((v.mj ++ [(46 : UInt8)] ++ v.mn ++ [(46 : UInt8)] ++ v.pt ++ [(45 : UInt8)]).length + (joinS (strsOf (strF v.pre) v.pre.length) [(46 : UInt8)]).length ≤ 4611686018427387903) then
          bif decide ((↑v.bu.length : Int) > (0 : Int)) then
           bif decide ((v.mj ++ [(46 : UInt8)] ++ v.mn ++ [(46 : UInt8)] ++ v.pt ++ [(45 : UInt8)] ++ joinS (strsOf (strF v.pre) v.pre.length) [(46 : UInt8)]).length + 1 ≤ 4611686018427387903) then
            bif isEn en67 p67 [AV.sl 1 v.bu.length (strF v.bu)] then
             bif decide ((v.mj ++ [(46 : UInt8)] ++ v.mn ++ [(46 : UInt8)] ++ v.pt ++ [(45 : UInt8)] ++ joinS (strsOf (strF v.pre) v.pre.length) [(46 : UInt8)] ++ [(43 : UInt8)]).length + (joinS (strsOf (strF v.bu) v.bu.length) [(46 : UInt8)]).length ≤ 4611686018427387903) then
              some ((AV.str (v.mj ++ [(46 : UInt8)] ++ v.mn ++ [(46 : UInt8)] ++ v.pt ++ [(45 : UInt8)] ++ joinS (strsOf (strF v.pre) v.pre.length) [(46 : UInt8)] ++ [(43 : UInt8)] ++ joinS (strsOf (strF v.bu) v.bu.length) [(46 : UInt8)]), []))
             else
              none
            else
             none
           else
            none
          else
           some ((AV.str (v.mj ++ [(46 : UInt8)] ++ v.mn ++ [(46 : UInt8)] ++ v.pt ++ [(45 : UInt8)] ++ joinS (strsOf (strF v.pre) v.pre.length) [(46 : UInt8)]), []))
         else
          none
        else
         none
       else
        none
      else
       bif decide ((↑v.bu.length : Int) > (0 : Int)) then
        bif decide ((v.mj ++ [(46 : UInt8)] ++ v.mn ++ [(46 : UInt8)] ++ v.pt).length + 1 ≤ 4611686018427387903) then
         bif isEn en67 p67 [AV.sl 1 v.bu.length (strF v.bu)] then
          bif decide ((v.mj ++ [(46 : UInt8)] ++ v.mn ++ [(46 : UInt8)] ++ v.pt ++ [(43 : UInt8)]).length + (joinS (strsOf (strF v.bu) v.bu.length) [(46 : UInt8)]).length ≤ 4611686018427387903) then
           some ((AV.str (v.mj ++ [(46 : UInt8)] ++ v.mn ++ [(46 : UInt8)] ++ v.pt ++ [(43 : UInt8)] ++ joinS (strsOf (strF v.bu) v.bu.length) [(46 : UInt8)]), []))
          else
           none
         else
          none
        else
         none
       else
        some ((AV.str (v.mj ++ [(46 : UInt8)] ++ v.mn ++ [(46 : UInt8)] ++ v.pt), []))
     else
      none
    else
     none
   else
    none
  else
   none := by kernel_rfl

structure X46 where
  v : Ver

def en46 : X46 → List AV := fun ⟨v⟩ => [.agg [.str v.mj, .str v.mn, .str v.pt, .sl 1 v.pre.length (strF v.pre), .sl 1 v.bu.length (strF v.bu)]]

def de46 : List AV → X46
  | [.agg [.str v_a, .str v_b, .str v_c, .sl 1 v_n v_f, .sl 1 v_m v_g]] => ⟨vOf v_a v_b v_c v_n v_f v_m v_g⟩
  | _ => ⟨default⟩

def p46 : X46 → Prop := fun ⟨v⟩ => roomV v

def rs46 : X46 → T AV := fun ⟨v⟩ => .leaf (.str (textV v))

noncomputable def c46 : List AV → T AV := ccon en46 de46 p46 rs46

theorem in46 : ∀ x, de46 (en46 x) = x := by
  rintro ⟨v⟩
  simp only [en46, de46, vOf_strF]

theorem k46 (v : Ver) (h : roomV v) : isEn en46 p46 [.agg [.str v.mj, .str v.mn, .str v.pt, .sl 1 v.pre.length (strF v.pre), .sl 1 v.bu.length (strF v.bu)]] = true := isEn_true (enc := en46) (p := p46) ⟨v⟩ h

theorem e46 (v : Ver) (hF : FitsL [.agg [.str v.mj, .str v.mn, .str v.pt, .sl 1 v.pre.length (strF v.pre), .sl 1 v.bu.length (strF v.bu)]]) (hp : roomV v) : (evn tabB1 h46 noLoops 46 [.agg [.str v.mj, .str v.mn, .str v.pt, .sl 1 v.pre.length (strF v.pre), .sl 1 v.bu.length (strF v.bu)]] []).run = (.leaf (.str (textV v)) : T AV).run.map fun r => (r, []) := by
  refine (t46 v).trans ?_
  obtain ⟨⟨q1, q2, q3⟩, ⟨q4, q5⟩, ⟨q6, q7⟩⟩ := hp
  rw [k67 v.pre (by simp only [bnd]; omega), k67 v.bu (by simp only [bnd]; omega)]
  simp only [strsOf_strF, List.length_append, List.length_singleton]
  rw [pos_ne, pos_ne]
  unfold textV sufP
  by_cases hl : v.pre = [] <;> by_cases hr : v.bu = []
  all_goals
    simp only [hl, hr, decide_true, decide_false, Bool.not_true, Bool.not_false, cond_true, cond_false, if_true, if_false]
    repeat rw [decide_eq_true (show _ ≤ 4611686018427387903 by omega), cond_true]
    try (first | rfl | simp only [List.append_assoc, List.append_nil] <;> rfl)

theorem s46 : Sound1 Tryd.prog ⟨46, true, pcon c46⟩ := by
  refine sound_c (soundTab_of all_tabB1) H0 in46 (hn := h46) (m := 20) (k := 9) (Λ := noLoops) (fun i hi => anyLoops) ?_
  rintro ⟨v⟩ hp hF
  exact e46 v hF hp

noncomputable def tabB2 : Tab := ⟨46, true, pcon c46⟩ :: tabB1

theorem all_tabB2 : ∀ e, e ∈ tabB2 → Sound1 Tryd.prog e := (sound_mem_tab s46 all_tabB1)

theorem ok_tabB2 : SoundTab Tryd.prog tabB2 := soundTab_of all_tabB2

theorem t17 (v : Ver) : (evn tabB2 h17 noLoops 17 [.agg [.str v.mj, .str v.mn, .str v.pt, .sl 1 v.pre.length (strF v.pre), .sl 1 v.bu.length (strF v.bu)]] []).run =
  bif numB v.mj then
   bif numB v.mn then
    bif numB v.pt then
     bif isEn en45 p45 [AV.sl 1 v.pre.length (strF v.pre), AV.bool true] then
      bif fitL true (strsOf (strF v.pre) v.pre.length) then
       bif isEn en45 p45 [AV.sl 1 v.bu.length (strF v.bu), AV.bool false] then
        bif fitL false (strsOf (strF v.bu) v.bu.length) then
         bif isEn en46 p46 [AV.agg [AV.str v.mj, AV.str v.mn, AV.str v.pt, AV.sl 1 v.pre.length (strF v.pre), AV.sl 1 v.bu.length (strF v.bu)]] then
          some ((AV.bool (decide ((↑(textV (vOf v.mj v.mn v.pt v.pre.length (strF v.pre) v.bu.length (strF v.bu))).length : Int) ≤ (64 : Int))), []))
         else
          none
        else
         some ((AV.bool false, []))
       else
        none
      else
       some ((AV.bool false, []))
     else
      none
    else
     some ((AV.bool false, []))
   else
    some ((AV.bool false, []))
  else
   some ((AV.bool false, [])) := by kernel_rfl

structure X17 where
  v : Ver

def en17 : X17 → List AV := fun ⟨v⟩ => [.agg [.str v.mj, .str v.mn, .str v.pt, .sl 1 v.pre.length (strF v.pre), .sl 1 v.bu.length (strF v.bu)]]

def de17 : List AV → X17
  | [.agg [.str v_a, .str v_b, .str v_c, .sl 1 v_n v_f, .sl 1 v_m v_g]] => ⟨vOf v_a v_b v_c v_n v_f v_m v_g⟩
  | _ => ⟨default⟩

def p17 : X17 → Prop := fun ⟨v⟩ => roomV v

def rs17 : X17 → T AV := fun ⟨v⟩ => .leaf (.bool (fitV v))

noncomputable def c17 : List AV → T AV := ccon en17 de17 p17 rs17

theorem in17 : ∀ x, de17 (en17 x) = x := by
  rintro ⟨v⟩
  simp only [en17, de17, vOf_strF]

theorem k17 (v : Ver) (h : roomV v) : isEn en17 p17 [.agg [.str v.mj, .str v.mn, .str v.pt, .sl 1 v.pre.length (strF v.pre), .sl 1 v.bu.length (strF v.bu)]] = true := isEn_true (enc := en17) (p := p17) ⟨v⟩ h

theorem e17 (v : Ver) (hF : FitsL [.agg [.str v.mj, .str v.mn, .str v.pt, .sl 1 v.pre.length (strF v.pre), .sl 1 v.bu.length (strF v.bu)]]) (hp : roomV v) : (evn tabB2 h17 noLoops 17 [.agg [.str v.mj, .str v.mn, .str v.pt, .sl 1 v.pre.length (strF v.pre), .sl 1 v.bu.length (strF v.bu)]] []).run = (.leaf (.bool (fitV v)) : T AV).run.map fun r => (r, []) := by
  refine (t17 v).trans ?_
  rw [k45 _ _ trivial, k45 _ _ trivial, k46 _ hp]
  simp only [strsOf_strF, vOf_ver]
  unfold fitV
  cases numB v.mj <;> cases numB v.mn <;> cases numB v.pt <;> cases fitL true v.pre <;> cases fitL false v.bu <;> rfl

theorem s17 : Sound1 Tryd.prog ⟨17, true, pcon c17⟩ := by
  refine sound_c (soundTab_of all_tabB2) H0 in17 (hn := h17) (m := 20) (k := 9) (Λ := noLoops) (fun i hi => anyLoops) ?_
  rintro ⟨v⟩ hp hF
  exact e17 v hF hp

noncomputable def tabB3 : Tab := ⟨17, true, pcon c17⟩ :: tabB2

theorem all_tabB3 : ∀ e, e ∈ tabB3 → Sound1 Tryd.prog e := (sound_mem_tab s17 all_tabB2)

theorem ok_tabB3 : SoundTab Tryd.prog tabB3 := soundTab_of all_tabB3

theorem t18 (v : Ver) : (evn tabB3 h18 noLoops 18 [.agg [.str v.mj, .str v.mn, .str v.pt, .sl 1 v.pre.length (strF v.pre), .sl 1 v.bu.length (strF v.bu)]] []).run =
  bif isEn en17 p17 [AV.agg [AV.str v.mj, AV.str v.mn, AV.str v.pt, AV.sl 1 v.pre.length (strF v.pre), AV.sl 1 v.bu.length (strF v.bu)]] then
   bif !fitV (vOf v.mj v.mn v.pt v.pre.length (strF v.pre) v.bu.length (strF v.bu)) then
    some ((AV.str [], []))
   else
    bif isEn en46 p46 [AV.agg [AV.str v.mj, AV.str v.mn, AV.str v.pt, AV.sl 1 v.pre.length (strF v.pre), AV.sl 1 v.bu.length (strF v.bu)]] then
     some ((AV.str (textV (vOf v.mj v.mn v.pt v.pre.length (strF v.pre) v.bu.length (strF v.bu))), []))
    else
     none
  else
   none := by kernel_rfl

structure X18 where
  v : Ver

def en18 : X18 → List AV := fun ⟨v⟩ => [.agg [.str v.mj, .str v.mn, .str v.pt, .sl 1 v.pre.length (strF v.pre), .sl 1 v.bu.length (strF v.bu)]]

def de18 : List AV → X18
  | [.agg [.str v_a, .str v_b, .str v_c, .sl 1 v_n v_f, .sl 1 v_m v_g]] => ⟨vOf v_a v_b v_c v_n v_f v_m v_g⟩
  | _ => ⟨default⟩

def p18 : X18 → Prop := fun ⟨v⟩ => roomV v

def rs18 : X18 → T AV := fun ⟨v⟩ => .leaf (.str (bif fitV v then textV v else []))

noncomputable def c18 : List AV → T AV := ccon en18 de18 p18 rs18

theorem in18 : ∀ x, de18 (en18 x) = x := by
  rintro ⟨v⟩
  simp only [en18, de18, vOf_strF]

theorem k18 (v : Ver) (h : roomV v) : isEn en18 p18 [.agg [.str v.mj, .str v.mn, .str v.pt, .sl 1 v.pre.length (strF v.pre), .sl 1 v.bu.length (strF v.bu)]] = true := isEn_true (enc := en18) (p := p18) ⟨v⟩ h

theorem e18 (v : Ver) (hF : FitsL [.agg [.str v.mj, .str v.mn, .str v.pt, .sl 1 v.pre.length (strF v.pre), .sl 1 v.bu.length (strF v.bu)]]) (hp : roomV v) : (evn tabB3 h18 noLoops 18 [.agg [.str v.mj, .str v.mn, .str v.pt, .sl 1 v.pre.length (strF v.pre), .sl 1 v.bu.length (strF v.bu)]] []).run = (.leaf (.str (bif fitV v then textV v else [])) : T AV).run.map fun r => (r, []) := by
  refine (t18 v).trans ?_
  rw [k17 _ hp, k46 _ hp]
  simp only [vOf_ver]
  cases fitV v <;> rfl

theorem s18 : Sound1 Tryd.prog ⟨18, true, pcon c18⟩ := by
  refine sound_c (soundTab_of all_tabB3) H0 in18 (hn := h18) (m := 20) (k := 9) (Λ := noLoops) (fun i hi => anyLoops) ?_
  rintro ⟨v⟩ hp hF
  exact e18 v hF hp

noncomputable def tabB4 : Tab := ⟨18, true, pcon c18⟩ :: tabB3

theorem all_tabB4 : ∀ e, e ∈ tabB4 → Sound1 Tryd.prog e := (sound_mem_tab s18 all_tabB3)

theorem ok_tabB4 : SoundTab Tryd.prog tabB4 := soundTab_of all_tabB4

/-! ### Next, of both -/

/-- The last place up to k that holds no nine. -/
def stK (s : List UInt8) : Nat → Nat
  | 0 => 0
  | k + 1 => bif ((s.getD (k + 1) 0).toNat : Int) == 57 then stK s k else k + 1

/-- The nines behind it noughts. -/
def zK : List UInt8 → Nat → List UInt8
  | s, 0 => s
  | s, k + 1 => bif ((s.getD (k + 1) 0).toNat : Int) == 57 then zK (s.set (k + 1) 48) k else s

theorem stK_set : ∀ (k : Nat) (s : List UInt8) (j : Nat) (b : UInt8), k < j → stK (s.set j b) k = stK s k
  | 0, s, j, b, h => rfl
  | k + 1, s, j, b, h => by
    unfold stK
    rw [List.getD_eq_getElem?_getD, List.getElem?_set_ne (by omega), ← List.getD_eq_getElem?_getD, stK_set k s j b (by omega)]

theorem zK_len : ∀ (k : Nat) (s : List UInt8), (zK s k).length = s.length
  | 0, s => rfl
  | k + 1, s => by
    unfold zK
    cases (((s.getD (k + 1) 0).toNat : Int) == 57)
    · rfl
    · rw [cond_true, zK_len k]; simp

structure Y39 where
  s : List UInt8
  k : Nat

def eL39 : Y39 → List AV × Hp := fun ⟨s, k⟩ => ([.row 0 1 0 s.length, .int .i64 k], [some (.bytes s)])

def dL39 : List AV × Hp → Y39
  | ([.row _ _ _ _, .int .i64 k], [some (.bytes s)]) => ⟨s, k.toNat⟩
  | _ => ⟨default, default⟩

def pL39 : Y39 → Prop := fun ⟨s, k⟩ => k < s.length ∧ s.length ≤ bnd ∧ (((s.getD 0 0).toNat : Int) == 57) = false

def rL39 : Y39 → T (AX × St) := fun ⟨s, k⟩ => .leaf (.exit 0, { tm := tmOf 35 [(3, .row 0 1 0 s.length), (4, .int .i64 (stK s k)), (20, .bool false)], ms := [], hp := [some (.bytes (zK s k))] })

noncomputable def L39 : LoopT := fun k => match Nat.beq k 500022 with
  | true => some (lccon (mbits 24 35) eL39 dL39 pL39 rL39)
  | false => none

theorem iL39 : ∀ x, dL39 (eL39 x) = x := by
  rintro ⟨s, k⟩
  simp only [eL39, dL39, Int.toNat_natCast]

theorem kL39 (s : List UInt8) (k : Nat) (h : k < s.length ∧ s.length ≤ bnd ∧ (((s.getD 0 0).toNat : Int) == 57) = false) : isEn eL39 pL39 ([.row 0 1 0 s.length, .int .i64 k], [some (.bytes s)]) = true := isEn_true (enc := eL39) (p := pL39) ⟨s, k⟩ h

theorem zL39 (s : List UInt8) (h : pL39 ⟨s, 0⟩) : isEn eL39 pL39 ([.row 0 1 0 s.length, .int .i64 (0 : Int)], [some (.bytes s)]) = true := isEn_true (enc := eL39) (p := pL39) ⟨s, 0⟩ h

theorem q39 (s : List UInt8) (k : Nat) : (rdn tabB4 h39 L39 39 0 0 { tm := encGo (mbits 24 35) [.row 0 1 0 s.length, .int .i64 k], ms := [], hp := [some (.bytes s)] }).run =
  bif decide ((0 : Int) ≤ (↑k : Int) ∧ (↑k : Int) < (↑s.length : Int)) then
   bif decide (0 + (↑k : Int).toNat < s.length) then
    bif (↑(s.getD (0 + (↑k : Int).toNat) (0 : UInt8)).toNat : Int) == (57 : Int) then
     bif decide ((0 : Int) ≤ (↑k : Int) ∧ (↑k : Int) < (↑s.length : Int)) then
      bif decide (0 + (↑k : Int).toNat < s.length) then
       some ((AX.normal, { tm := tmOf 35 [(3, AV.row 0 1 0 s.length), (4, AV.int IntKind.i64 (IntKind.i64.wrap ((↑k : Int) - (1 : Int))))], ms := [], hp := [some (AObj.bytes (s.set (0 + (↑k : Int).toNat) (48 : UInt8)))] }))
      else
       none
     else
      none
    else
     some ((AX.exit 0, { tm := tmOf 35 [(3, AV.row 0 1 0 s.length), (4, AV.int IntKind.i64 (↑k : Int)), (20, AV.bool false)], ms := [], hp := [some (AObj.bytes s)] }))
   else
    none
  else
   none := by kernel_rfl

theorem l39 : LoopOk Tryd.prog tabB4.pf (fun n => hd Tryd.prog tabB4.pf tabB4.con.run (fun f => (H0 f).to) n 9) h39.to 39 0 none L39 (loopAt Tryd.prog 39 0) := by
  rw [show loopAt Tryd.prog 39 0 = .loop (lbody Tryd.prog 39 0) by kernel_rfl]
  refine loop_c (hdT_le (m := 20) 9) (m := 20) (lv := mbits 24 35) (p := pL39) (res := rL39) iL39 (within_of _ (by rw [show loopsOf (lbody Tryd.prog 39 0) = [] by kernel_rfl]; simp)) (by kernel_rfl) (fun ⟨s, k⟩ => k) ?_
  rintro ⟨s, k⟩ hp
  have ht := q39 s k
  obtain ⟨h1, h2, h3⟩ := hp
  simp only [bnd] at h2
  rw [byte_at h1] at ht
  simp only [Int.toNat_natCast, Nat.zero_add, cond_true, decide_eq_true h1] at ht
  cases hq : (((s.getD k 0).toNat : Int) == 57) with
  | false =>
    rw [hq] at ht
    right
    refine ⟨_, ?_, ?_, ht⟩
    · simp
    · cases k with
      | zero => rfl
      | succ k => simp only [rL39, stK, zK, hq, cond_false, T.run_leaf]
  | true =>
    rw [hq] at ht
    cases k with
    | zero => rw [h3] at hq; cases hq
    | succ k =>
      left
      rw [w64 (by omega) (by omega), show ((k + 1 : Nat) : Int) - 1 = (k : Nat) by omega] at ht
      refine ⟨⟨s.set (k + 1) 48, k⟩, ⟨by simp; omega, by simpa [bnd] using h2, ?_⟩, by simp only; omega, ?_, ?_⟩
      · rw [List.getD_eq_getElem?_getD, List.getElem?_set_ne (by omega), ← List.getD_eq_getElem?_getD]; exact h3
      · simp only [rL39, T.run_leaf, stK_set k s (k + 1) 48 (by omega), stK, zK, hq, cond_true, List.length_set]
      · refine ht.trans ?_
        simp only [eL39, List.length_set]
        rfl

theorem stK_le : ∀ (k : Nat) (s : List UInt8), stK s k ≤ k
  | 0, s => Nat.le_refl _
  | k + 1, s => by
    have := stK_le k s
    unfold stK
    cases (((s.getD (k + 1) 0).toNat : Int) == 57) <;> simp <;> omega

def bump (b : UInt8) : UInt8 := UInt8.ofNat (IntKind.u8.wrap ((b.toNat : Int) + 1)).toNat

/-- A number and one, in digits; and whether one is left over. -/
def incL : List UInt8 → Bool × List UInt8
  | [] => (true, [])
  | b :: r => bif (incL r).1 then (bif (b.toNat : Int) == 57 then (true, 48 :: (incL r).2) else (false, bump b :: (incL r).2)) else (false, b :: (incL r).2)

theorem incL_snoc (x : UInt8) : ∀ l : List UInt8, incL (l ++ [x]) = bif (x.toNat : Int) == 57 then ((incL l).1, (incL l).2 ++ [48]) else (false, l ++ [bump x])
  | [] => by simp only [List.nil_append, incL, cond_true]
  | b :: l => by
    have ih := incL_snoc x l
    simp only [List.cons_append, incL, ih]
    cases ((x.toNat : Int) == 57)
    · rfl
    · cases (incL l).1 <;> cases ((b.toNat : Int) == 57) <;> rfl

theorem take_snoc {l : List UInt8} {k : Nat} (h : k < l.length) : l.take (k + 1) = l.take k ++ [l.getD k 0] := by
  rw [List.take_add_one, List.getElem?_eq_getElem h, List.getD_eq_getElem?_getD, List.getElem?_eq_getElem h]; rfl

theorem incK : ∀ (k : Nat) (S : List UInt8), k < S.length → (((S.getD 0 0).toNat : Int) == 57) = false → (zK S k).set (stK S k) (bump ((zK S k).getD (stK S k) 0)) = (incL (S.take (k + 1))).2 ++ S.drop (k + 1)
  | 0, S, h, h0 => by
    cases S with
    | nil => simp at h
    | cons b r =>
      have h0 : ((b.toNat : Int) == 57) = false := h0
      simp [zK, stK, incL, h0]
  | k + 1, S, h, h0 => by
    rw [take_snoc h, incL_snoc]
    unfold zK stK
    cases hq : (((S.getD (k + 1) 0).toNat : Int) == 57) with
    | false =>
      simp only [cond_false]
      rw [List.set_eq_take_append_cons_drop, if_pos h]
      simp
    | true =>
      simp only [cond_true]
      have e0 : (((S.set (k + 1) 48).getD 0 0).toNat : Int) = ((S.getD 0 0).toNat : Int) := by
        rw [List.getD_eq_getElem?_getD, List.getElem?_set_ne (by omega), ← List.getD_eq_getElem?_getD]
      have ih := incK k (S.set (k + 1) 48) (by simp; omega) (by rw [e0]; exact h0)
      rw [stK_set k S (k + 1) 48 (by omega)] at ih
      rw [ih, List.take_set_of_le (by omega)]
      have ed : (S.set (k + 1) 48).drop (k + 1) = 48 :: S.drop (k + 1 + 1) := by
        rw [List.set_eq_take_append_cons_drop, if_pos h, List.drop_append_of_le_length (by simp; omega)]
        simp
      rw [ed]
      simp

/-- The number behind one. -/
def nextD (s : List UInt8) : List UInt8 := if runD s 0 = s.length then trimD (incL (48 :: s)).2 else [49]

theorem t39 (s : List UInt8) : (evn tabB4 h39 L39 39 [.str s] []).run =
  bif runD s (0 : Int) != (↑s.length : Int) then
   some ((AV.str [(49 : UInt8)], []))
  else
   bif decide (1 + s.length ≤ 4611686018427387903) then
    bif isEn eL39 pL39 ([AV.row 0 1 0 ([(48 : UInt8)] ++ s).length, AV.int IntKind.i64 (IntKind.i64.wrap ((↑([(48 : UInt8)] ++ s).length : Int) - (1 : Int)))], [some (AObj.bytes ([(48 : UInt8)] ++ s))]) then
     bif decide ((0 : Int) ≤ (↑(stK ([(48 : UInt8)] ++ s) (IntKind.i64.wrap ((↑([(48 : UInt8)] ++ s).length : Int) - (1 : Int))).toNat) : Int) ∧ (↑(stK ([(48 : UInt8)] ++ s) (IntKind.i64.wrap ((↑([(48 : UInt8)] ++ s).length : Int) - (1 : Int))).toNat) : Int) < (↑([(48 : UInt8)] ++ s).length : Int)) then
      bif decide (0 + (↑(stK ([(48 : UInt8)] ++ s) (IntKind.i64.wrap ((↑([(48 : UInt8)] ++ s).length : Int) - (1 : Int))).toNat) : Int).toNat < (zK ([(48 : UInt8)] ++ s) (IntKind.i64.wrap ((↑([(48 : UInt8)] ++ s).length : Int) - (1 : Int))).toNat).length) then
       bif decide ((0 : Int) ≤ (↑(stK ([(48 : UInt8)] ++ s) (IntKind.i64.wrap ((↑([(48 : UInt8)] ++ s).length : Int) - (1 : Int))).toNat) : Int) ∧ (↑(stK ([(48 : UInt8)] ++ s) (IntKind.i64.wrap ((↑([(48 : UInt8)] ++ s).length : Int) - (1 : Int))).toNat) : Int) < (↑([(48 : UInt8)] ++ s).length : Int)) then
        bif decide (0 + (↑(stK ([(48 : UInt8)] ++ s) (IntKind.i64.wrap ((↑([(48 : UInt8)] ++ s).length : Int) - (1 : Int))).toNat) : Int).toNat < (zK ([(48 : UInt8)] ++ s) (IntKind.i64.wrap ((↑([(48 : UInt8)] ++ s).length : Int) - (1 : Int))).toNat).length) then
         bif decide (0 + ([(48 : UInt8)] ++ s).length ≤ ((zK ([(48 : UInt8)] ++ s) (IntKind.i64.wrap ((↑([(48 : UInt8)] ++ s).length : Int) - (1 : Int))).toNat).set (0 + (↑(stK ([(48 : UInt8)] ++ s) (IntKind.i64.wrap ((↑([(48 : UInt8)] ++ s).length : Int) - (1 : Int))).toNat) : Int).toNat) (UInt8.ofNat (IntKind.u8.wrap ((↑((zK ([(48 : UInt8)] ++ s) (IntKind.i64.wrap ((↑([(48 : UInt8)] ++ s).length : Int) - (1 : Int))).toNat).getD (0 + (↑(stK ([(48 : UInt8)] ++ s) (IntKind.i64.wrap ((↑([(48 : UInt8)] ++ s).length : Int) - (1 : Int))).toNat) : Int).toNat) (0 : UInt8)).toNat : Int) + (1 : Int))).toNat)).length) then
          some ((AV.str (trimD (List.take ([(48 : UInt8)] ++ s).length (List.drop 0 ((zK ([(48 : UInt8)] ++ s) (IntKind.i64.wrap ((↑([(48 : UInt8)] ++ s).length : Int) - (1 : Int))).toNat).set (0 + (↑(stK ([(48 : UInt8)] ++ s) (IntKind.i64.wrap ((↑([(48 : UInt8)] ++ s).length : Int) - (1 : Int))).toNat) : Int).toNat) (UInt8.ofNat (IntKind.u8.wrap ((↑((zK ([(48 : UInt8)] ++ s) (IntKind.i64.wrap ((↑([(48 : UInt8)] ++ s).length : Int) - (1 : Int))).toNat).getD (0 + (↑(stK ([(48 : UInt8)] ++ s) (IntKind.i64.wrap ((↑([(48 : UInt8)] ++ s).length : Int) - (1 : Int))).toNat) : Int).toNat) (0 : UInt8)).toNat : Int) + (1 : Int))).toNat))))), []))
         else
          none
        else
         none
       else
        none
      else
       none
     else
      none
    else
     none
   else
    none := by kernel_rfl

def c39 : List AV → T AV
  | [.str s] => .chk (decide (s.length ≤ 1073741824)) (.leaf (.str (nextD s)))
  | _ => .fail

theorem e39 (s : List UInt8) (hF : FitsL [.str s]) (hp : s.length ≤ 1073741824) : (evn tabB4 h39 L39 39 [.str s] []).run = (.leaf (.str (nextD s)) : T AV).run.map fun r => (r, []) := by
  refine (t39 s).trans ?_
  unfold nextD
  by_cases hr : runD s 0 = s.length
  · rw [cond_no (by rw [hr]; simp), if_pos hr, cond_chk (decide_eq_true (by omega))]
    have hl : ([(48 : UInt8)] ++ s).length = s.length + 1 := by simp only [List.length_append, List.length_cons, List.length_nil]; omega
    have hw : IntKind.i64.wrap ((([(48 : UInt8)] ++ s).length : Int) - 1) = (s.length : Nat) := by rw [w64 (by omega) (by omega), hl]; omega
    rw [hw]
    simp only [Int.toNat_natCast, Nat.zero_add, List.drop_zero, List.length_set, zK_len]
    have hs := stK_le s.length ([(48 : UInt8)] ++ s)
    refine (cond_chk (kL39 ([(48 : UInt8)] ++ s) s.length ⟨by omega, by simp only [bnd]; omega, rfl⟩)).trans ?_
    rw [byte_at (show stK ([(48 : UInt8)] ++ s) s.length < ([(48 : UInt8)] ++ s).length by omega), decide_eq_true (show stK ([(48 : UInt8)] ++ s) s.length < ([(48 : UInt8)] ++ s).length by omega), decide_eq_true (Nat.le_refl _)]
    dsimp only [cond_true]
    have hk := incK s.length ([(48 : UInt8)] ++ s) (by omega) rfl
    unfold bump at hk
    rw [hk, List.take_of_length_le (show ([(48 : UInt8)] ++ s).length ≤ s.length + 1 by omega), List.drop_eq_nil_of_le (show ([(48 : UInt8)] ++ s).length ≤ s.length + 1 by omega), List.append_nil]
    rw [List.take_of_length_le]
    · rfl
    · have hk2 := congrArg List.length hk
      rw [List.length_set, zK_len] at hk2
      rw [List.take_of_length_le (show ([(48 : UInt8)] ++ s).length ≤ s.length + 1 by omega), List.drop_eq_nil_of_le (show ([(48 : UInt8)] ++ s).length ≤ s.length + 1 by omega), List.append_nil] at hk2
      omega
  · rw [cond_chk (by simpa using hr), if_neg hr]; rfl

theorem s39 : Sound1 Tryd.prog ⟨39, true, pcon c39⟩ := by
  refine sound_pureH (m := 20) (k := 9) (hn := h39) (Λ := L39) (soundTab_of all_tabB4) H0 (oneLoop (by kernel_rfl) l39) fun args r hF h => ?_
  unfold c39 at h
  split at h
  · rename_i s
    rw [T.run_chk] at h
    split at h
    · rename_i hp
      have he := e39 s hF (of_decide_eq_true hp)
      rw [he, h]; rfl
    · cases h
  · cases h

structure Y47 where
  s : List UInt8
  k : Nat

def eL47 : Y47 → List AV × Hp := fun ⟨s, k⟩ => ([.row 0 1 0 s.length, .int .i64 k], [some (.bytes s)])

def dL47 : List AV × Hp → Y47
  | ([.row _ _ _ _, .int .i64 k], [some (.bytes s)]) => ⟨s, k.toNat⟩
  | _ => ⟨default, default⟩

def pL47 : Y47 → Prop := fun ⟨s, k⟩ => k < s.length ∧ s.length ≤ bnd ∧ (((s.getD 0 0).toNat : Int) == 57) = false

def rL47 : Y47 → T (AX × St) := fun ⟨s, k⟩ => .leaf (.exit 0, { tm := tmOf 35 [(3, .row 0 1 0 s.length), (4, .int .i64 (stK s k)), (20, .bool false)], ms := [], hp := [some (.bytes (zK s k))] })

noncomputable def L47 : LoopT := fun k => match Nat.beq k 500022 with
  | true => some (lccon (mbits 24 35) eL47 dL47 pL47 rL47)
  | false => none

theorem iL47 : ∀ x, dL47 (eL47 x) = x := by
  rintro ⟨s, k⟩
  simp only [eL47, dL47, Int.toNat_natCast]

theorem kL47 (s : List UInt8) (k : Nat) (h : k < s.length ∧ s.length ≤ bnd ∧ (((s.getD 0 0).toNat : Int) == 57) = false) : isEn eL47 pL47 ([.row 0 1 0 s.length, .int .i64 k], [some (.bytes s)]) = true := isEn_true (enc := eL47) (p := pL47) ⟨s, k⟩ h

theorem zL47 (s : List UInt8) (h : pL47 ⟨s, 0⟩) : isEn eL47 pL47 ([.row 0 1 0 s.length, .int .i64 (0 : Int)], [some (.bytes s)]) = true := isEn_true (enc := eL47) (p := pL47) ⟨s, 0⟩ h

theorem q47 (s : List UInt8) (k : Nat) : (rdn tabB4 h47 L47 47 0 0 { tm := encGo (mbits 24 35) [.row 0 1 0 s.length, .int .i64 k], ms := [], hp := [some (.bytes s)] }).run =
  bif decide ((0 : Int) ≤ (↑k : Int) ∧ (↑k : Int) < (↑s.length : Int)) then
   bif decide (0 + (↑k : Int).toNat < s.length) then
    bif (↑(s.getD (0 + (↑k : Int).toNat) (0 : UInt8)).toNat : Int) == (57 : Int) then
     bif decide ((0 : Int) ≤ (↑k : Int) ∧ (↑k : Int) < (↑s.length : Int)) then
      bif decide (0 + (↑k : Int).toNat < s.length) then
       some ((AX.normal, { tm := tmOf 35 [(3, AV.row 0 1 0 s.length), (4, AV.int IntKind.i64 (IntKind.i64.wrap ((↑k : Int) - (1 : Int))))], ms := [], hp := [some (AObj.bytes (s.set (0 + (↑k : Int).toNat) (48 : UInt8)))] }))
      else
       none
     else
      none
    else
     some ((AX.exit 0, { tm := tmOf 35 [(3, AV.row 0 1 0 s.length), (4, AV.int IntKind.i64 (↑k : Int)), (20, AV.bool false)], ms := [], hp := [some (AObj.bytes s)] }))
   else
    none
  else
   none := by kernel_rfl

theorem l47 : LoopOk Tryd.prog tabB4.pf (fun n => hd Tryd.prog tabB4.pf tabB4.con.run (fun f => (H0 f).to) n 9) h47.to 47 0 none L47 (loopAt Tryd.prog 47 0) := by
  rw [show loopAt Tryd.prog 47 0 = .loop (lbody Tryd.prog 47 0) by kernel_rfl]
  refine loop_c (hdT_le (m := 20) 9) (m := 20) (lv := mbits 24 35) (p := pL47) (res := rL47) iL47 (within_of _ (by rw [show loopsOf (lbody Tryd.prog 47 0) = [] by kernel_rfl]; simp)) (by kernel_rfl) (fun ⟨s, k⟩ => k) ?_
  rintro ⟨s, k⟩ hp
  have ht := q47 s k
  obtain ⟨h1, h2, h3⟩ := hp
  simp only [bnd] at h2
  rw [byte_at h1] at ht
  simp only [Int.toNat_natCast, Nat.zero_add, cond_true, decide_eq_true h1] at ht
  cases hq : (((s.getD k 0).toNat : Int) == 57) with
  | false =>
    rw [hq] at ht
    right
    refine ⟨_, ?_, ?_, ht⟩
    · simp
    · cases k with
      | zero => rfl
      | succ k => simp only [rL47, stK, zK, hq, cond_false, T.run_leaf]
  | true =>
    rw [hq] at ht
    cases k with
    | zero => rw [h3] at hq; cases hq
    | succ k =>
      left
      rw [w64 (by omega) (by omega), show ((k + 1 : Nat) : Int) - 1 = (k : Nat) by omega] at ht
      refine ⟨⟨s.set (k + 1) 48, k⟩, ⟨by simp; omega, by simpa [bnd] using h2, ?_⟩, by simp only; omega, ?_, ?_⟩
      · rw [List.getD_eq_getElem?_getD, List.getElem?_set_ne (by omega), ← List.getD_eq_getElem?_getD]; exact h3
      · simp only [rL47, T.run_leaf, stK_set k s (k + 1) 48 (by omega), stK, zK, hq, cond_true, List.length_set]
      · refine ht.trans ?_
        simp only [eL47, List.length_set]
        rfl

theorem t47 (s : List UInt8) : (evn tabB4 h47 L47 47 [.str s] []).run =
  bif runD s (0 : Int) != (↑s.length : Int) then
   some ((AV.str [(49 : UInt8)], []))
  else
   bif decide (1 + s.length ≤ 4611686018427387903) then
    bif isEn eL47 pL47 ([AV.row 0 1 0 ([(48 : UInt8)] ++ s).length, AV.int IntKind.i64 (IntKind.i64.wrap ((↑([(48 : UInt8)] ++ s).length : Int) - (1 : Int)))], [some (AObj.bytes ([(48 : UInt8)] ++ s))]) then
     bif decide ((0 : Int) ≤ (↑(stK ([(48 : UInt8)] ++ s) (IntKind.i64.wrap ((↑([(48 : UInt8)] ++ s).length : Int) - (1 : Int))).toNat) : Int) ∧ (↑(stK ([(48 : UInt8)] ++ s) (IntKind.i64.wrap ((↑([(48 : UInt8)] ++ s).length : Int) - (1 : Int))).toNat) : Int) < (↑([(48 : UInt8)] ++ s).length : Int)) then
      bif decide (0 + (↑(stK ([(48 : UInt8)] ++ s) (IntKind.i64.wrap ((↑([(48 : UInt8)] ++ s).length : Int) - (1 : Int))).toNat) : Int).toNat < (zK ([(48 : UInt8)] ++ s) (IntKind.i64.wrap ((↑([(48 : UInt8)] ++ s).length : Int) - (1 : Int))).toNat).length) then
       bif decide ((0 : Int) ≤ (↑(stK ([(48 : UInt8)] ++ s) (IntKind.i64.wrap ((↑([(48 : UInt8)] ++ s).length : Int) - (1 : Int))).toNat) : Int) ∧ (↑(stK ([(48 : UInt8)] ++ s) (IntKind.i64.wrap ((↑([(48 : UInt8)] ++ s).length : Int) - (1 : Int))).toNat) : Int) < (↑([(48 : UInt8)] ++ s).length : Int)) then
        bif decide (0 + (↑(stK ([(48 : UInt8)] ++ s) (IntKind.i64.wrap ((↑([(48 : UInt8)] ++ s).length : Int) - (1 : Int))).toNat) : Int).toNat < (zK ([(48 : UInt8)] ++ s) (IntKind.i64.wrap ((↑([(48 : UInt8)] ++ s).length : Int) - (1 : Int))).toNat).length) then
         bif decide (0 + ([(48 : UInt8)] ++ s).length ≤ ((zK ([(48 : UInt8)] ++ s) (IntKind.i64.wrap ((↑([(48 : UInt8)] ++ s).length : Int) - (1 : Int))).toNat).set (0 + (↑(stK ([(48 : UInt8)] ++ s) (IntKind.i64.wrap ((↑([(48 : UInt8)] ++ s).length : Int) - (1 : Int))).toNat) : Int).toNat) (UInt8.ofNat (IntKind.u8.wrap ((↑((zK ([(48 : UInt8)] ++ s) (IntKind.i64.wrap ((↑([(48 : UInt8)] ++ s).length : Int) - (1 : Int))).toNat).getD (0 + (↑(stK ([(48 : UInt8)] ++ s) (IntKind.i64.wrap ((↑([(48 : UInt8)] ++ s).length : Int) - (1 : Int))).toNat) : Int).toNat) (0 : UInt8)).toNat : Int) + (1 : Int))).toNat)).length) then
          some ((AV.str (trimD (List.take ([(48 : UInt8)] ++ s).length (List.drop 0 ((zK ([(48 : UInt8)] ++ s) (IntKind.i64.wrap ((↑([(48 : UInt8)] ++ s).length : Int) - (1 : Int))).toNat).set (0 + (↑(stK ([(48 : UInt8)] ++ s) (IntKind.i64.wrap ((↑([(48 : UInt8)] ++ s).length : Int) - (1 : Int))).toNat) : Int).toNat) (UInt8.ofNat (IntKind.u8.wrap ((↑((zK ([(48 : UInt8)] ++ s) (IntKind.i64.wrap ((↑([(48 : UInt8)] ++ s).length : Int) - (1 : Int))).toNat).getD (0 + (↑(stK ([(48 : UInt8)] ++ s) (IntKind.i64.wrap ((↑([(48 : UInt8)] ++ s).length : Int) - (1 : Int))).toNat) : Int).toNat) (0 : UInt8)).toNat : Int) + (1 : Int))).toNat))))), []))
         else
          none
        else
         none
       else
        none
      else
       none
     else
      none
    else
     none
   else
    none := by kernel_rfl

def c47 : List AV → T AV
  | [.str s] => .chk (decide (s.length ≤ 1073741824)) (.leaf (.str (nextD s)))
  | _ => .fail

theorem e47 (s : List UInt8) (hF : FitsL [.str s]) (hp : s.length ≤ 1073741824) : (evn tabB4 h47 L47 47 [.str s] []).run = (.leaf (.str (nextD s)) : T AV).run.map fun r => (r, []) := by
  refine (t47 s).trans ?_
  unfold nextD
  by_cases hr : runD s 0 = s.length
  · rw [cond_no (by rw [hr]; simp), if_pos hr, cond_chk (decide_eq_true (by omega))]
    have hl : ([(48 : UInt8)] ++ s).length = s.length + 1 := by simp only [List.length_append, List.length_cons, List.length_nil]; omega
    have hw : IntKind.i64.wrap ((([(48 : UInt8)] ++ s).length : Int) - 1) = (s.length : Nat) := by rw [w64 (by omega) (by omega), hl]; omega
    rw [hw]
    simp only [Int.toNat_natCast, Nat.zero_add, List.drop_zero, List.length_set, zK_len]
    have hs := stK_le s.length ([(48 : UInt8)] ++ s)
    refine (cond_chk (kL47 ([(48 : UInt8)] ++ s) s.length ⟨by omega, by simp only [bnd]; omega, rfl⟩)).trans ?_
    rw [byte_at (show stK ([(48 : UInt8)] ++ s) s.length < ([(48 : UInt8)] ++ s).length by omega), decide_eq_true (show stK ([(48 : UInt8)] ++ s) s.length < ([(48 : UInt8)] ++ s).length by omega), decide_eq_true (Nat.le_refl _)]
    dsimp only [cond_true]
    have hk := incK s.length ([(48 : UInt8)] ++ s) (by omega) rfl
    unfold bump at hk
    rw [hk, List.take_of_length_le (show ([(48 : UInt8)] ++ s).length ≤ s.length + 1 by omega), List.drop_eq_nil_of_le (show ([(48 : UInt8)] ++ s).length ≤ s.length + 1 by omega), List.append_nil]
    rw [List.take_of_length_le]
    · rfl
    · have hk2 := congrArg List.length hk
      rw [List.length_set, zK_len] at hk2
      rw [List.take_of_length_le (show ([(48 : UInt8)] ++ s).length ≤ s.length + 1 by omega), List.drop_eq_nil_of_le (show ([(48 : UInt8)] ++ s).length ≤ s.length + 1 by omega), List.append_nil] at hk2
      omega
  · rw [cond_chk (by simpa using hr), if_neg hr]; rfl

theorem s47 : Sound1 Tryd.prog ⟨47, true, pcon c47⟩ := by
  refine sound_pureH (m := 20) (k := 9) (hn := h47) (Λ := L47) (soundTab_of all_tabB4) H0 (oneLoop (by kernel_rfl) l47) fun args r hF h => ?_
  unfold c47 at h
  split at h
  · rename_i s
    rw [T.run_chk] at h
    split at h
    · rename_i hp
      have he := e47 s hF (of_decide_eq_true hp)
      rw [he, h]; rfl
    · cases h
  · cases h

end Go.Sem

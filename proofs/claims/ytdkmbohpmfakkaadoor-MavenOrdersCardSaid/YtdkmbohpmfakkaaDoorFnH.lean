/- Lemmas for the claims of this seat (a verified symbolic evaluator, and contracts of functions): own work; no condition. -/
import Derived.Test.YtdkmbohpmfakkaaDoorFnF
import Derived.Test.YtdkmbohpmfakkaaDoorEvF
namespace Go.Mvn

open Go Go.Proofs Go.Ab

set_option maxRecDepth 100000

set_option linter.unusedVariables false

set_option linter.unusedSimpArgs false

/-! ### The reference's small functions -/

theorem t42 (c : Int) : (evn tabW h42 noLoops 42 [.int .u8 c] []).run =
  bif decide (c ≥ (48 : Int)) then
   some ((AV.bool (decide (c ≤ (57 : Int))), []))
  else
   some ((AV.bool false, [])) := by kernel_rfl

def c42 : List AV → T AV
  | [.int .u8 c] => .leaf (.bool (dig c))
  | _ => .fail

theorem e42 (c : Int) (hF : FitsL [.int .u8 c]) : (evn tabW h42 noLoops 42 [.int .u8 c] []).run = (.leaf (.bool (dig c)) : T AV).run.map fun r => (r, []) := by
  refine (t42 c).trans ?_
  unfold dig
  cases decide (c ≥ 48) <;> rfl

theorem s42 : Sound1 Tryd.prog ⟨42, true, pcon c42⟩ := by
  refine sound_pureH (m := 20) (k := 9) (hn := h42) (Λ := noLoops) (soundTab_of all_tabW) H0 (fun i hi => anyLoops) fun args r hF h => ?_
  unfold c42 at h
  split at h
  · rename_i c
    have he := e42 c hF
    rw [he, h]; rfl
  · cases h

theorem t55 (c : Int) : (evn tabW h55 noLoops 55 [.int .u8 c] []).run =
  bif decide (c ≥ (97 : Int)) then
   bif decide (c ≤ (122 : Int)) then
    some ((AV.bool true, []))
   else
    bif decide (c ≥ (65 : Int)) then
     some ((AV.bool (decide (c ≤ (90 : Int))), []))
    else
     some ((AV.bool false, []))
  else
   bif decide (c ≥ (65 : Int)) then
    some ((AV.bool (decide (c ≤ (90 : Int))), []))
   else
    some ((AV.bool false, [])) := by kernel_rfl

def c55 : List AV → T AV
  | [.int .u8 c] => .leaf (.bool (let_ c))
  | _ => .fail

theorem e55 (c : Int) (hF : FitsL [.int .u8 c]) : (evn tabW h55 noLoops 55 [.int .u8 c] []).run = (.leaf (.bool (let_ c)) : T AV).run.map fun r => (r, []) := by
  refine (t55 c).trans ?_
  unfold let_
  cases decide (c ≥ 97) <;> cases decide (c ≤ 122) <;> cases decide (c ≥ 65) <;> rfl

theorem s55 : Sound1 Tryd.prog ⟨55, true, pcon c55⟩ := by
  refine sound_pureH (m := 20) (k := 9) (hn := h55) (Λ := noLoops) (soundTab_of all_tabW) H0 (fun i hi => anyLoops) fun args r hF h => ?_
  unfold c55 at h
  split at h
  · rename_i c
    have he := e55 c hF
    rw [he, h]; rfl
  · cases h

theorem t56 (c : Int) : (evn tabW h56 noLoops 56 [.int .u8 c] []).run =
  bif c == (46 : Int) then
   some ((AV.bool true, []))
  else
   some ((AV.bool (c == (45 : Int)), [])) := by kernel_rfl

def c56 : List AV → T AV
  | [.int .u8 c] => .leaf (.bool (partB c))
  | _ => .fail

theorem e56 (c : Int) (hF : FitsL [.int .u8 c]) : (evn tabW h56 noLoops 56 [.int .u8 c] []).run = (.leaf (.bool (partB c)) : T AV).run.map fun r => (r, []) := by
  refine (t56 c).trans ?_
  unfold partB
  cases (c == 46) <;> rfl

theorem s56 : Sound1 Tryd.prog ⟨56, true, pcon c56⟩ := by
  refine sound_pureH (m := 20) (k := 9) (hn := h56) (Λ := noLoops) (soundTab_of all_tabW) H0 (fun i hi => anyLoops) fun args r hF h => ?_
  unfold c56 at h
  split at h
  · rename_i c
    have he := e56 c hF
    rw [he, h]; rfl
  · cases h

theorem t89 (c : Int) : (evn tabW h89 noLoops 89 [.int .u8 c, .int .i64 3] []).run =
  bif decide (c ≥ (48 : Int)) then
   bif decide (c ≥ (97 : Int)) then
    bif decide (c ≥ (65 : Int)) then
     bif c == (32 : Int) then
      some ((AV.bool (decide (c ≤ (90 : Int))), []))
     else
      some ((AV.bool (decide (c ≤ (90 : Int))), []))
    else
     bif c == (32 : Int) then
      some ((AV.bool false, []))
     else
      some ((AV.bool false, []))
   else
    bif decide (c ≥ (65 : Int)) then
     bif c == (32 : Int) then
      some ((AV.bool (decide (c ≤ (90 : Int))), []))
     else
      some ((AV.bool (decide (c ≤ (90 : Int))), []))
    else
     bif c == (32 : Int) then
      some ((AV.bool false, []))
     else
      some ((AV.bool false, []))
  else
   bif decide (c ≥ (97 : Int)) then
    bif decide (c ≥ (65 : Int)) then
     bif c == (32 : Int) then
      some ((AV.bool (decide (c ≤ (90 : Int))), []))
     else
      some ((AV.bool (decide (c ≤ (90 : Int))), []))
    else
     bif c == (32 : Int) then
      some ((AV.bool false, []))
     else
      some ((AV.bool false, []))
   else
    bif decide (c ≥ (65 : Int)) then
     bif c == (32 : Int) then
      some ((AV.bool (decide (c ≤ (90 : Int))), []))
     else
      some ((AV.bool (decide (c ≤ (90 : Int))), []))
    else
     bif c == (32 : Int) then
      some ((AV.bool false, []))
     else
      some ((AV.bool false, [])) := by kernel_rfl

def c89 : List AV → T AV
  | [.int .u8 c, .int .i64 3] => .leaf (.bool (upp c))
  | _ => .fail

theorem e89 (c : Int) (hF : FitsL [.int .u8 c, .int .i64 3]) : (evn tabW h89 noLoops 89 [.int .u8 c, .int .i64 3] []).run = (.leaf (.bool (upp c)) : T AV).run.map fun r => (r, []) := by
  refine (t89 c).trans ?_
  unfold upp
  cases decide (c ≥ 48) <;> cases decide (c ≥ 97) <;> cases decide (c ≥ 65) <;> cases (c == 32) <;> rfl

theorem s89 : Sound1 Tryd.prog ⟨89, true, pcon c89⟩ := by
  refine sound_pureH (m := 20) (k := 9) (hn := h89) (Λ := noLoops) (soundTab_of all_tabW) H0 (fun i hi => anyLoops) fun args r hF h => ?_
  unfold c89 at h
  split at h
  · rename_i c
    have he := e89 c hF
    rw [he, h]; rfl
  · cases h

theorem t63 (d : Bool) (n : Bool) (s : List UInt8) : (evn tabW h63 noLoops 63 [.agg [.bool d, .bool n, .str s]] []).run =
  bif n then
   bif s == [(48 : UInt8)] then
    some ((AV.bool true, []))
   else
    bif !n then
     some ((AV.bool (s == []), []))
    else
     some ((AV.bool false, []))
  else
   bif !n then
    some ((AV.bool (s == []), []))
   else
    some ((AV.bool false, [])) := by kernel_rfl

def c63 : List AV → T AV
  | [.agg [.bool d, .bool n, .str s]] => .leaf (.bool (nullT n s))
  | _ => .fail

theorem e63 (d : Bool) (n : Bool) (s : List UInt8) (hF : FitsL [.agg [.bool d, .bool n, .str s]]) : (evn tabW h63 noLoops 63 [.agg [.bool d, .bool n, .str s]] []).run = (.leaf (.bool (nullT n s)) : T AV).run.map fun r => (r, []) := by
  refine (t63 d n s).trans ?_
  unfold nullT
  cases n <;> cases (s == [48]) <;> rfl

theorem s63 : Sound1 Tryd.prog ⟨63, true, pcon c63⟩ := by
  refine sound_pureH (m := 20) (k := 9) (hn := h63) (Λ := noLoops) (soundTab_of all_tabW) H0 (fun i hi => anyLoops) fun args r hF h => ?_
  unfold c63 at h
  split at h
  · rename_i d n s
    have he := e63 d n s hF
    rw [he, h]; rfl
  · cases h

theorem abytesLess_iff : ∀ a b : List UInt8, abytesLess a b = decide (Lib.compareBytes a b < 0)
  | [], [] => rfl
  | [], _ :: _ => rfl
  | _ :: _, [] => rfl
  | a :: x, b :: y => by
    have ih := abytesLess_iff x y
    unfold abytesLess Lib.compareBytes
    by_cases h1 : a < b
    · simp [h1]
    · by_cases h2 : b < a
      · have : ¬ a = b := by rintro rfl; exact h1 h2
        simp [h1, h2, this]
      · have : a = b := by
          apply UInt8.toNat_inj.1
          have h1 : ¬ a.toNat < b.toNat := fun h => h1 (by simpa [UInt8.lt_iff_toNat_lt] using h)
          have h2 : ¬ b.toNat < a.toNat := fun h => h2 (by simpa [UInt8.lt_iff_toNat_lt] using h)
          omega
        subst this
        simp [ih]

theorem bytes_eqz (a b : List UInt8) : (a == b) = decide (Lib.compareBytes a b = 0) := by
  rw [Bool.eq_iff_iff, beq_iff_eq, decide_eq_true_eq, bytes_zero]

theorem t80 (a : List UInt8) (b : List UInt8) : (evn tabW h80 noLoops 80 [.str a, .str b] []).run =
  bif abytesLess a b then
   some ((AV.int IntKind.i64 (-1 : Int), []))
  else
   bif !(abytesLess a b || a == b) then
    some ((AV.int IntKind.i64 (1 : Int), []))
   else
    some ((AV.int IntKind.i64 (0 : Int), [])) := by kernel_rfl

def c80 : List AV → T AV
  | [.str a, .str b] => .leaf (.int .i64 (Lib.compareBytes a b))
  | _ => .fail

theorem e80 (a : List UInt8) (b : List UInt8) (hF : FitsL [.str a, .str b]) : (evn tabW h80 noLoops 80 [.str a, .str b] []).run = (.leaf (.int .i64 (Lib.compareBytes a b)) : T AV).run.map fun r => (r, []) := by
  refine (t80 a b).trans ?_
  have h := compareBytes_range a b
  rw [abytesLess_iff, bytes_eqz]
  rcases (by omega : Lib.compareBytes a b = -1 ∨ Lib.compareBytes a b = 0 ∨ Lib.compareBytes a b = 1) with e | e | e <;> rw [e] <;> rfl

theorem s80 : Sound1 Tryd.prog ⟨80, true, pcon c80⟩ := by
  refine sound_pureH (m := 20) (k := 9) (hn := h80) (Λ := noLoops) (soundTab_of all_tabW) H0 (fun i hi => anyLoops) fun args r hF h => ?_
  unfold c80 at h
  split at h
  · rename_i a b
    have he := e80 a b hF
    rw [he, h]; rfl
  · cases h

def q48 (b : UInt8) : Bool := (b.toNat : Int) == 48

structure Y43 where
  s : List UInt8
  i : Nat

def eL43 : Y43 → List AV × Hp := fun ⟨s, i⟩ => ([.str s, .int .i64 i], [])

def dL43 : List AV × Hp → Y43
  | ([.str s, .int .i64 i], []) => ⟨s, i.toNat⟩
  | _ => ⟨default, default⟩

def pL43 : Y43 → Prop := fun ⟨s, i⟩ => i ≤ s.length ∧ s.length ≤ bnd

def rL43 : Y43 → T (AX × St) := fun ⟨s, i⟩ => .leaf (.exit 0, { tm := tmOf 23 [(0, .str s), (3, .int .i64 (fxN q48 s i)), (13, .bool false)], ms := [], hp := [] })

noncomputable def L43 : LoopT := fun k => match Nat.beq k 200021 with
  | true => some (lccon (mbits 9 23) eL43 dL43 pL43 rL43)
  | false => none

theorem iL43 : ∀ x, dL43 (eL43 x) = x := by
  rintro ⟨s, i⟩
  simp only [eL43, dL43, Int.toNat_natCast]

theorem kL43 (s : List UInt8) (i : Nat) (h : i ≤ s.length ∧ s.length ≤ bnd) : isEn eL43 pL43 ([.str s, .int .i64 i], []) = true := isEn_true (enc := eL43) (p := pL43) ⟨s, i⟩ h

theorem zL43 (s : List UInt8) (h : pL43 ⟨s, 0⟩) : isEn eL43 pL43 ([.str s, .int .i64 (0 : Int)], []) = true := isEn_true (enc := eL43) (p := pL43) ⟨s, 0⟩ h

theorem q43 (s : List UInt8) (i : Nat) : (rdn tabW h43 L43 43 0 0 { tm := encGo (mbits 9 23) [.str s, .int .i64 i], ms := [], hp := [] }).run =
  bif decide ((↑i : Int) < (↑s.length : Int)) then
   bif decide ((0 : Int) ≤ (↑i : Int) ∧ (↑i : Int) < (↑s.length : Int)) then
    bif (↑(s.getD (↑i : Int).toNat (0 : UInt8)).toNat : Int) == (48 : Int) then
     some ((AX.normal, { tm := tmOf 23 [(0, AV.str s), (3, AV.int IntKind.i64 (IntKind.i64.wrap ((↑i : Int) + (1 : Int))))], ms := [], hp := [] }))
    else
     some ((AX.exit 0, { tm := tmOf 23 [(0, AV.str s), (3, AV.int IntKind.i64 (↑i : Int)), (13, AV.bool false)], ms := [], hp := [] }))
   else
    none
  else
   some ((AX.exit 0, { tm := tmOf 23 [(0, AV.str s), (3, AV.int IntKind.i64 (↑i : Int)), (13, AV.bool false)], ms := [], hp := [] })) := by kernel_rfl

theorem l43 : LoopOk Tryd.prog tabW.pf (fun n => hd Tryd.prog tabW.pf tabW.con.run (fun f => (H0 f).to) n 9) h43.to 43 0 none L43 (loopAt Tryd.prog 43 0) := by
  rw [show loopAt Tryd.prog 43 0 = .loop (lbody Tryd.prog 43 0) by kernel_rfl]
  refine loop_c (hdT_le (m := 20) 9) (m := 20) (lv := mbits 9 23) (p := pL43) (res := rL43) iL43 (within_of _ (by rw [show loopsOf (lbody Tryd.prog 43 0) = [] by kernel_rfl]; simp)) (by kernel_rfl) (fun ⟨s, i⟩ => s.length - i) ?_
  rintro ⟨s, i⟩ hp
  have ht := q43 s i
  have hb : s.length ≤ 4611686018427387903 := by have := hp; simp only [pL43, bnd] at this; omega
  have hi : i ≤ s.length := by have := hp; simp only [pL43, bnd] at this; omega
  by_cases hl : i < s.length
  · have hd := fxN_step (q := q48) (0) hl
    rw [decide_eq_true (show (i : Int) < s.length by omega), byte_at hl, Int.toNat_natCast, w64n (by omega)] at ht
    rw [show (((s.getD i 0).toNat : Int) == 48) = q48 (s.getD i 0) from rfl] at ht
    dsimp only [cond_true] at ht
    cases hq : q48 (s.getD i 0) with
    | false =>
      rw [hq] at ht hd
      right
      refine ⟨_, ?_, ?_, ht⟩
      · simp
      · simp only [rL43, T.run_leaf, hd, cond_false] <;> rfl
    | true =>
      rw [hq] at ht hd
      left
      refine ⟨⟨s, i + 1⟩, ?_, by simp only; omega, ?_, ht⟩
      · have := hp
        simp only [pL43, bnd] at this ⊢
        omega
      · simp only [rL43, T.run_leaf, hd, cond_true]
  · have he : i = s.length := by omega
    right
    rw [decide_eq_false (show ¬ (i : Int) < s.length by omega)] at ht
    refine ⟨_, ?_, ?_, ht⟩
    · simp
    · simp only [rL43, T.run_leaf, fxN_end (show s.length ≤ i by omega)] <;> rfl

theorem drop_tw {α : Type} (p : α → Bool) : ∀ l : List α, l.drop (l.takeWhile p).length = l.dropWhile p
  | [] => rfl
  | b :: l => by
    rw [List.takeWhile_cons, List.dropWhile_cons]
    cases p b with
    | false => rfl
    | true => simp only [if_true, List.length_cons, List.drop_succ_cons]; exact drop_tw p l

theorem fx_drop {q : UInt8 → Bool} (s : List UInt8) : s.drop (fxN q s 0) = s.dropWhile q := by
  unfold fxN
  rw [List.drop_zero, Nat.zero_add]
  exact drop_tw q s

theorem trimD_fx (s : List UInt8) : trimD s = if fxN q48 s 0 = s.length then [48] else s.drop (fxN q48 s 0) := by
  have h := fx_drop (q := q48) s
  have e : dropB 48 s = s.dropWhile q48 := rfl
  have hl := fxN_le (q := q48) (s := s) (i := 0) (Nat.zero_le _)
  unfold trimD
  rw [e, ← h]
  by_cases hx : fxN q48 s 0 = s.length
  · rw [if_pos (by rw [hx]; exact List.drop_length), if_pos hx]
  · rw [if_neg (by rw [List.drop_eq_nil_iff]; omega), if_neg hx]

theorem t43 (s : List UInt8) : (evn tabW h43 L43 43 [.str s] []).run =
  bif isEn eL43 pL43 ([AV.str s, AV.int IntKind.i64 (0 : Int)], []) then
   bif (↑(fxN q48 s 0) : Int) == (↑s.length : Int) then
    some ((AV.str [(48 : UInt8)], []))
   else
    bif decide ((0 : Int) ≤ (↑(fxN q48 s 0) : Int) ∧ (↑(fxN q48 s 0) : Int) ≤ (↑s.length : Int)) then
     some ((AV.str (List.drop (↑(fxN q48 s 0) : Int).toNat s), []))
    else
     none
  else
   none := by kernel_rfl

def c43 : List AV → T AV
  | [.str s] => .leaf (.str (trimD s))
  | _ => .fail

theorem e43 (s : List UInt8) (hF : FitsL [.str s]) : (evn tabW h43 L43 43 [.str s] []).run = (.leaf (.str (trimD s)) : T AV).run.map fun r => (r, []) := by
  refine (t43 s).trans ?_
  have hb : s.length ≤ bnd := hF.1
  refine (cond_chk (kL43 s 0 ⟨Nat.zero_le _, hb⟩)).trans ?_
  have hl := fxN_le (q := q48) (s := s) (i := 0) (Nat.zero_le _)
  rw [trimD_fx]
  by_cases hx : fxN q48 s 0 = s.length
  · rw [if_pos hx, hx, cond_chk (by simp)]; rfl
  · rw [if_neg hx, cond_no (by simp; omega), cond_chk (by simp; omega)]
    simp only [Int.toNat_natCast]
    rfl

theorem s43 : Sound1 Tryd.prog ⟨43, true, pcon c43⟩ := by
  refine sound_pureH (m := 20) (k := 9) (hn := h43) (Λ := L43) (soundTab_of all_tabW) H0 (oneLoop (by kernel_rfl) l43) fun args r hF h => ?_
  unfold c43 at h
  split at h
  · rename_i s
    have he := e43 s hF
    rw [he, h]; rfl
  · cases h

noncomputable def tabX1 : Tab := ⟨42, true, pcon c42⟩ :: ⟨55, true, pcon c55⟩ :: ⟨56, true, pcon c56⟩ :: ⟨89, true, pcon c89⟩ :: ⟨63, true, pcon c63⟩ :: ⟨80, true, pcon c80⟩ :: ⟨43, true, pcon c43⟩ :: tabW

theorem all_tabX1 : ∀ e, e ∈ tabX1 → Sound1 Tryd.prog e := (sound_mem_tab s42 (sound_mem_tab s55 (sound_mem_tab s56 (sound_mem_tab s89 (sound_mem_tab s63 (sound_mem_tab s80 (sound_mem_tab s43 all_tabW)))))))

theorem ok_tabX1 : SoundTab Tryd.prog tabX1 := soundTab_of all_tabX1

theorem t69 (a : List UInt8) (b : List UInt8) : (evn tabX1 h69 noLoops 69 [.str a, .str b] []).run =
  bif decide ((↑(trimD a).length : Int) < (↑(trimD b).length : Int)) then
   some ((AV.int IntKind.i64 (-1 : Int), []))
  else
   bif decide ((↑(trimD a).length : Int) > (↑(trimD b).length : Int)) then
    some ((AV.int IntKind.i64 (1 : Int), []))
   else
    some ((AV.int IntKind.i64 (Lib.compareBytes (trimD a) (trimD b)), [])) := by kernel_rfl

def c69 : List AV → T AV
  | [.str a, .str b] => .leaf (.int .i64 (cmpD a b))
  | _ => .fail

theorem e69 (a : List UInt8) (b : List UInt8) (hF : FitsL [.str a, .str b]) : (evn tabX1 h69 noLoops 69 [.str a, .str b] []).run = (.leaf (.int .i64 (cmpD a b)) : T AV).run.map fun r => (r, []) := by
  refine (t69 a b).trans ?_
  unfold cmpD cmpI
  by_cases h1 : ((trimD a).length : Int) < (trimD b).length
  · simp only [h1, decide_true, cond_true, if_true]; rfl
  · by_cases h2 : ((trimD b).length : Int) < (trimD a).length
    · simp only [h1, h2, gt_iff_lt, decide_true, decide_false, cond_true, cond_false, if_true, if_false]; rfl
    · simp only [h1, h2, gt_iff_lt, decide_true, decide_false, cond_true, cond_false, if_true, if_false]; rfl

theorem s69 : Sound1 Tryd.prog ⟨69, true, pcon c69⟩ := by
  refine sound_pureH (m := 20) (k := 9) (hn := h69) (Λ := noLoops) (soundTab_of all_tabX1) H0 (fun i hi => anyLoops) fun args r hF h => ?_
  unfold c69 at h
  split at h
  · rename_i a b
    have he := e69 a b hF
    rw [he, h]; rfl
  · cases h

structure Y83 where
  s : List UInt8
  i : Nat

def eL83 : Y83 → List AV × Hp := fun ⟨s, i⟩ => ([.row 0 1 0 s.length, .int .i64 i], [some (.bytes s)])

def dL83 : List AV × Hp → Y83
  | ([.row _ _ _ _, .int .i64 i], [some (.bytes s)]) => ⟨s, i.toNat⟩
  | _ => ⟨default, default⟩

def pL83 : Y83 → Prop := fun ⟨s, i⟩ => i ≤ s.length ∧ s.length ≤ bnd

def rL83 : Y83 → T (AX × St) := fun ⟨s, i⟩ => .leaf (.exit 0, { tm := tmOf 28 [(3, .row 0 1 0 s.length), (4, .int .i64 s.length), (10, .bool false)], ms := [], hp := [some (.bytes (lowF s i))] })

noncomputable def L83 : LoopT := fun k => match Nat.beq k 300035 with
  | true => some (lccon (mbits 24 28) eL83 dL83 pL83 rL83)
  | false => none

theorem iL83 : ∀ x, dL83 (eL83 x) = x := by
  rintro ⟨s, i⟩
  simp only [eL83, dL83, Int.toNat_natCast]

theorem kL83 (s : List UInt8) (i : Nat) (h : i ≤ s.length ∧ s.length ≤ bnd) : isEn eL83 pL83 ([.row 0 1 0 s.length, .int .i64 i], [some (.bytes s)]) = true := isEn_true (enc := eL83) (p := pL83) ⟨s, i⟩ h

theorem zL83 (s : List UInt8) (h : pL83 ⟨s, 0⟩) : isEn eL83 pL83 ([.row 0 1 0 s.length, .int .i64 (0 : Int)], [some (.bytes s)]) = true := isEn_true (enc := eL83) (p := pL83) ⟨s, 0⟩ h

theorem q83 (s : List UInt8) (i : Nat) : (rdn tabX1 h83 L83 83 0 0 { tm := encGo (mbits 24 28) [.row 0 1 0 s.length, .int .i64 i], ms := [], hp := [some (.bytes s)] }).run =
  bif decide ((↑i : Int) < (↑s.length : Int)) then
   bif decide ((0 : Int) ≤ (↑i : Int) ∧ (↑i : Int) < (↑s.length : Int)) then
    bif decide (0 + (↑i : Int).toNat < s.length) then
     bif upp (↑(s.getD (0 + (↑i : Int).toNat) (0 : UInt8)).toNat : Int) then
      bif decide ((0 : Int) ≤ (↑i : Int) ∧ (↑i : Int) < (↑s.length : Int)) then
       bif decide (0 + (↑i : Int).toNat < s.length) then
        bif decide ((0 : Int) ≤ (↑i : Int) ∧ (↑i : Int) < (↑s.length : Int)) then
         bif decide (0 + (↑i : Int).toNat < s.length) then
          some ((AX.normal, { tm := tmOf 28 [(3, AV.row 0 1 0 s.length), (4, AV.int IntKind.i64 (IntKind.i64.wrap ((↑i : Int) + (1 : Int))))], ms := [], hp := [some (AObj.bytes (s.set (0 + (↑i : Int).toNat) (UInt8.ofNat (IntKind.u8.wrap ((↑(s.getD (0 + (↑i : Int).toNat) (0 : UInt8)).toNat : Int) + (32 : Int))).toNat)))] }))
         else
          none
        else
         none
       else
        none
      else
       none
     else
      some ((AX.normal, { tm := tmOf 28 [(3, AV.row 0 1 0 s.length), (4, AV.int IntKind.i64 (IntKind.i64.wrap ((↑i : Int) + (1 : Int))))], ms := [], hp := [some (AObj.bytes s)] }))
    else
     none
   else
    none
  else
   some ((AX.exit 0, { tm := tmOf 28 [(3, AV.row 0 1 0 s.length), (4, AV.int IntKind.i64 (↑i : Int)), (10, AV.bool false)], ms := [], hp := [some (AObj.bytes s)] })) := by kernel_rfl

theorem l83 : LoopOk Tryd.prog tabX1.pf (fun n => hd Tryd.prog tabX1.pf tabX1.con.run (fun f => (H0 f).to) n 9) h83.to 83 0 none L83 (loopAt Tryd.prog 83 0) := by
  rw [show loopAt Tryd.prog 83 0 = .loop (lbody Tryd.prog 83 0) by kernel_rfl]
  refine loop_c (hdT_le (m := 20) 9) (m := 20) (lv := mbits 24 28) (p := pL83) (res := rL83) iL83 (within_of _ (by rw [show loopsOf (lbody Tryd.prog 83 0) = [] by kernel_rfl]; simp)) (by kernel_rfl) (fun ⟨s, i⟩ => s.length - i) ?_
  rintro ⟨s, i⟩ hp
  have ht := q83 s i
  obtain ⟨h1, h2⟩ := hp
  simp only [bnd] at h2
  by_cases hl : i < s.length
  · rw [decide_eq_true (show (i : Int) < s.length by omega), in_row hl, w64n (by omega)] at ht
    simp only [Int.toNat_natCast, Nat.zero_add, cond_true, decide_eq_true hl] at ht
    left
    cases hu : upp ((s.getD i 0).toNat : Int) with
    | true =>
      rw [hu] at ht
      have e : UInt8.ofNat (IntKind.u8.wrap (((s.getD i 0).toNat : Int) + 32)).toNat = lowB (s.getD i 0) := by unfold lowB; rw [hu]; rfl
      rw [e] at ht
      refine ⟨⟨s.set i (lowB (s.getD i 0)), i + 1⟩, ⟨by simp; omega, by simpa only [List.length_set, bnd] using h2⟩, by simp only [List.length_set]; omega, ?_, ?_⟩
      · simp only [rL83, T.run_leaf, lowF_set hl, List.length_set]
      · simp only [eL83, List.length_set]; exact ht
    | false =>
      rw [hu] at ht
      refine ⟨⟨s, i + 1⟩, ⟨by omega, by simpa only [bnd] using h2⟩, by simp only; omega, ?_, ht⟩
      simp only [rL83, T.run_leaf, lowF_same hl hu]
  · right
    rw [decide_eq_false (show ¬ (i : Int) < s.length by omega)] at ht
    obtain rfl : i = s.length := by omega
    refine ⟨_, ?_, ?_, ht⟩
    · simp
    · simp only [rL83, T.run_leaf, lowF_end]

theorem t83 (s : List UInt8) : (evn tabX1 h83 L83 83 [.str s] []).run =
  bif isEn eL83 pL83 ([AV.row 0 1 0 s.length, AV.int IntKind.i64 (0 : Int)], [some (AObj.bytes s)]) then
   bif decide (0 + s.length ≤ (lowF s 0).length) then
    some ((AV.str (List.take s.length (List.drop 0 (lowF s 0))), []))
   else
    none
  else
   none := by kernel_rfl

def c83 : List AV → T AV
  | [.str s] => .leaf (.str (lowF s 0))
  | _ => .fail

theorem e83 (s : List UInt8) (hF : FitsL [.str s]) : (evn tabX1 h83 L83 83 [.str s] []).run = (.leaf (.str (lowF s 0)) : T AV).run.map fun r => (r, []) := by
  refine (t83 s).trans ?_
  have hb : s.length ≤ bnd := hF.1
  refine (cond_chk (kL83 s 0 ⟨Nat.zero_le _, hb⟩)).trans ?_
  have hl := lowF_len (s := s) (i := 0) (Nat.zero_le _)
  rw [cond_chk (by simp [hl])]
  rw [List.drop_zero, List.take_of_length_le (by omega)]
  rfl

theorem s83 : Sound1 Tryd.prog ⟨83, true, pcon c83⟩ := by
  refine sound_pureH (m := 20) (k := 9) (hn := h83) (Λ := L83) (soundTab_of all_tabX1) H0 (oneLoop (by kernel_rfl) l83) fun args r hF h => ?_
  unfold c83 at h
  split at h
  · rename_i s
    have he := e83 s hF
    rw [he, h]; rfl
  · cases h

noncomputable def tabX2 : Tab := ⟨69, true, pcon c69⟩ :: ⟨83, true, pcon c83⟩ :: tabX1

theorem all_tabX2 : ∀ e, e ∈ tabX2 → Sound1 Tryd.prog e := (sound_mem_tab s69 (sound_mem_tab s83 all_tabX1))

theorem ok_tabX2 : SoundTab Tryd.prog tabX2 := soundTab_of all_tabX2

theorem t71 (d : Bool) (s : List UInt8) (n : Bool) : (evn tabX2 h71 noLoops 71 [.bool d, .str s, .bool n] []).run =
  bif s == [] then
   some ((AV.agg [AV.bool d, AV.bool true, AV.str (trimD s)], []))
  else
   bif decide ((0 : Int) ≤ (0 : Int) ∧ (0 : Int) < (↑s.length : Int)) then
    bif dig (↑(s.getD 0 (0 : UInt8)).toNat : Int) then
     some ((AV.agg [AV.bool d, AV.bool true, AV.str (trimD s)], []))
    else
     bif n then
      bif lowF s 0 == [(97 : UInt8)] then
       some ((AV.agg [AV.bool d, AV.bool false, AV.str [(97 : UInt8), (108 : UInt8), (112 : UInt8), (104 : UInt8), (97 : UInt8)]], []))
      else
       bif n then
        bif lowF s 0 == [(98 : UInt8)] then
         some ((AV.agg [AV.bool d, AV.bool false, AV.str [(98 : UInt8), (101 : UInt8), (116 : UInt8), (97 : UInt8)]], []))
        else
         bif n then
          bif lowF s 0 == [(109 : UInt8)] then
           some ((AV.agg [AV.bool d, AV.bool false, AV.str [(109 : UInt8), (105 : UInt8), (108 : UInt8), (101 : UInt8), (115 : UInt8), (116 : UInt8), (111 : UInt8), (110 : UInt8), (101 : UInt8)]], []))
          else
           bif lowF s 0 == [(99 : UInt8), (114 : UInt8)] then
            some ((AV.agg [AV.bool d, AV.bool false, AV.str [(114 : UInt8), (99 : UInt8)]], []))
           else
            bif lowF s 0 == [(102 : UInt8), (105 : UInt8), (110 : UInt8), (97 : UInt8), (108 : UInt8)] then
             some ((AV.agg [AV.bool d, AV.bool false, AV.str []], []))
            else
             bif lowF s 0 == [(103 : UInt8), (97 : UInt8)] then
              some ((AV.agg [AV.bool d, AV.bool false, AV.str []], []))
             else
              bif lowF s 0 == [(114 : UInt8), (101 : UInt8), (108 : UInt8), (101 : UInt8), (97 : UInt8), (115 : UInt8), (101 : UInt8)] then
               some ((AV.agg [AV.bool d, AV.bool false, AV.str []], []))
              else
               some ((AV.agg [AV.bool d, AV.bool false, AV.str (lowF s 0)], []))
         else
          bif lowF s 0 == [(99 : UInt8), (114 : UInt8)] then
           some ((AV.agg [AV.bool d, AV.bool false, AV.str [(114 : UInt8), (99 : UInt8)]], []))
          else
           bif lowF s 0 == [(102 : UInt8), (105 : UInt8), (110 : UInt8), (97 : UInt8), (108 : UInt8)] then
            some ((AV.agg [AV.bool d, AV.bool false, AV.str []], []))
           else
            bif lowF s 0 == [(103 : UInt8), (97 : UInt8)] then
             some ((AV.agg [AV.bool d, AV.bool false, AV.str []], []))
            else
             bif lowF s 0 == [(114 : UInt8), (101 : UInt8), (108 : UInt8), (101 : UInt8), (97 : UInt8), (115 : UInt8), (101 : UInt8)] then
              some ((AV.agg [AV.bool d, AV.bool false, AV.str []], []))
             else
              some ((AV.agg [AV.bool d, AV.bool false, AV.str (lowF s 0)], []))
       else
        bif n then
         bif lowF s 0 == [(109 : UInt8)] then
          some ((AV.agg [AV.bool d, AV.bool false, AV.str [(109 : UInt8), (105 : UInt8), (108 : UInt8), (101 : UInt8), (115 : UInt8), (116 : UInt8), (111 : UInt8), (110 : UInt8), (101 : UInt8)]], []))
         else
          bif lowF s 0 == [(99 : UInt8), (114 : UInt8)] then
           some ((AV.agg [AV.bool d, AV.bool false, AV.str [(114 : UInt8), (99 : UInt8)]], []))
          else
           bif lowF s 0 == [(102 : UInt8), (105 : UInt8), (110 : UInt8), (97 : UInt8), (108 : UInt8)] then
            some ((AV.agg [AV.bool d, AV.bool false, AV.str []], []))
           else
            bif lowF s 0 == [(103 : UInt8), (97 : UInt8)] then
             some ((AV.agg [AV.bool d, AV.bool false, AV.str []], []))
            else
             bif lowF s 0 == [(114 : UInt8), (101 : UInt8), (108 : UInt8), (101 : UInt8), (97 : UInt8), (115 : UInt8), (101 : UInt8)] then
              some ((AV.agg [AV.bool d, AV.bool false, AV.str []], []))
             else
              some ((AV.agg [AV.bool d, AV.bool false, AV.str (lowF s 0)], []))
        else
         bif lowF s 0 == [(99 : UInt8), (114 : UInt8)] then
          some ((AV.agg [AV.bool d, AV.bool false, AV.str [(114 : UInt8), (99 : UInt8)]], []))
         else
          bif lowF s 0 == [(102 : UInt8), (105 : UInt8), (110 : UInt8), (97 : UInt8), (108 : UInt8)] then
           some ((AV.agg [AV.bool d, AV.bool false, AV.str []], []))
          else
           bif lowF s 0 == [(103 : UInt8), (97 : UInt8)] then
            some ((AV.agg [AV.bool d, AV.bool false, AV.str []], []))
           else
            bif lowF s 0 == [(114 : UInt8), (101 : UInt8), (108 : UInt8), (101 : UInt8), (97 : UInt8), (115 : UInt8), (101 : UInt8)] then
             some ((AV.agg [AV.bool d, AV.bool false, AV.str []], []))
            else
             some ((AV.agg [AV.bool d, AV.bool false, AV.str (lowF s 0)], []))
     else
      bif n then
       bif lowF s 0 == [(98 : UInt8)] then
        some ((AV.agg [AV.bool d, AV.bool false, AV.str [(98 : UInt8), (101 : UInt8), (116 : UInt8), (97 : UInt8)]], []))
       else
        bif n then
         bif lowF s 0 == [(109 : UInt8)] then
          some ((AV.agg [AV.bool d, AV.bool false, AV.str [(109 : UInt8), (105 : UInt8), (108 : UInt8), (101 : UInt8), (115 : UInt8), (116 : UInt8), (111 : UInt8), (110 : UInt8), (101 : UInt8)]], []))
         else
          bif lowF s 0 == [(99 : UInt8), (114 : UInt8)] then
           some ((AV.agg [AV.bool d, AV.bool false, AV.str [(114 : UInt8), (99 : UInt8)]], []))
          else
           bif lowF s 0 == [(102 : UInt8), (105 : UInt8), (110 : UInt8), (97 : UInt8), (108 : UInt8)] then
            some ((AV.agg [AV.bool d, AV.bool false, AV.str []], []))
           else
            bif lowF s 0 == [(103 : UInt8), (97 : UInt8)] then
             some ((AV.agg [AV.bool d, AV.bool false, AV.str []], []))
            else
             bif lowF s 0 == [(114 : UInt8), (101 : UInt8), (108 : UInt8), (101 : UInt8), (97 : UInt8), (115 : UInt8), (101 : UInt8)] then
              some ((AV.agg [AV.bool d, AV.bool false, AV.str []], []))
             else
              some ((AV.agg [AV.bool d, AV.bool false, AV.str (lowF s 0)], []))
        else
         bif lowF s 0 == [(99 : UInt8), (114 : UInt8)] then
          some ((AV.agg [AV.bool d, AV.bool false, AV.str [(114 : UInt8), (99 : UInt8)]], []))
         else
          bif lowF s 0 == [(102 : UInt8), (105 : UInt8), (110 : UInt8), (97 : UInt8), (108 : UInt8)] then
           some ((AV.agg [AV.bool d, AV.bool false, AV.str []], []))
          else
           bif lowF s 0 == [(103 : UInt8), (97 : UInt8)] then
            some ((AV.agg [AV.bool d, AV.bool false, AV.str []], []))
           else
            bif lowF s 0 == [(114 : UInt8), (101 : UInt8), (108 : UInt8), (101 : UInt8), (97 : UInt8), (115 : UInt8), (101 : UInt8)] then
             some ((AV.agg [AV.bool d, AV.bool false, AV.str []], []))
            else
             some ((AV.agg [AV.bool d, AV.bool false, AV.str (lowF s 0)], []))
      else
       bif n then
        bif lowF s 0 == [(109 : UInt8)] then
         some ((AV.agg [AV.bool d, AV.bool false, AV.str [(109 : UInt8), (105 : UInt8), (108 : UInt8), (101 : UInt8), (115 : UInt8), (116 : UInt8), (111 : UInt8), (110 : UInt8), (101 : UInt8)]], []))
        else
         bif lowF s 0 == [(99 : UInt8), (114 : UInt8)] then
          some ((AV.agg [AV.bool d, AV.bool false, AV.str [(114 : UInt8), (99 : UInt8)]], []))
         else
          bif lowF s 0 == [(102 : UInt8), (105 : UInt8), (110 : UInt8), (97 : UInt8), (108 : UInt8)] then
           some ((AV.agg [AV.bool d, AV.bool false, AV.str []], []))
          else
           bif lowF s 0 == [(103 : UInt8), (97 : UInt8)] then
            some ((AV.agg [AV.bool d, AV.bool false, AV.str []], []))
           else
            bif lowF s 0 == [(114 : UInt8), (101 : UInt8), (108 : UInt8), (101 : UInt8), (97 : UInt8), (115 : UInt8), (101 : UInt8)] then
             some ((AV.agg [AV.bool d, AV.bool false, AV.str []], []))
            else
             some ((AV.agg [AV.bool d, AV.bool false, AV.str (lowF s 0)], []))
       else
        bif lowF s 0 == [(99 : UInt8), (114 : UInt8)] then
         some ((AV.agg [AV.bool d, AV.bool false, AV.str [(114 : UInt8), (99 : UInt8)]], []))
        else
         bif lowF s 0 == [(102 : UInt8), (105 : UInt8), (110 : UInt8), (97 : UInt8), (108 : UInt8)] then
          some ((AV.agg [AV.bool d, AV.bool false, AV.str []], []))
         else
          bif lowF s 0 == [(103 : UInt8), (97 : UInt8)] then
           some ((AV.agg [AV.bool d, AV.bool false, AV.str []], []))
          else
           bif lowF s 0 == [(114 : UInt8), (101 : UInt8), (108 : UInt8), (101 : UInt8), (97 : UInt8), (115 : UInt8), (101 : UInt8)] then
            some ((AV.agg [AV.bool d, AV.bool false, AV.str []], []))
           else
            some ((AV.agg [AV.bool d, AV.bool false, AV.str (lowF s 0)], []))
   else
    none := by kernel_rfl

def c71 : List AV → T AV
  | [.bool d, .str s, .bool n] => .leaf (.agg [.bool d, .bool (tokN s), .str (tokS s n)])
  | _ => .fail

theorem e71 (d : Bool) (s : List UInt8) (n : Bool) (hF : FitsL [.bool d, .str s, .bool n]) : (evn tabX2 h71 noLoops 71 [.bool d, .str s, .bool n] []).run = (.leaf (.agg [.bool d, .bool (tokN s), .str (tokS s n)]) : T AV).run.map fun r => (r, []) := by
  refine (t71 d s n).trans ?_
  unfold tokS tokN
  cases hs : (s == []) with
  | true => rfl
  | false =>
    have hpos : 0 < s.length := by
      rcases s with _ | ⟨a, s⟩
      · simp at hs
      · simp
    simp (disch := omega) only [cond_false, decT, cond_true]
    unfold quaT
    cases dig ((s.getD 0 0).toNat : Int) <;> cases n <;> cases (lowF s 0 == [97]) <;> cases (lowF s 0 == [98]) <;> cases (lowF s 0 == [109]) <;> cases (lowF s 0 == [99, 114]) <;> cases (lowF s 0 == [102, 105, 110, 97, 108]) <;> cases (lowF s 0 == [103, 97]) <;> cases (lowF s 0 == [114, 101, 108, 101, 97, 115, 101]) <;> rfl

theorem s71 : Sound1 Tryd.prog ⟨71, true, pcon c71⟩ := by
  refine sound_pureH (m := 20) (k := 9) (hn := h71) (Λ := noLoops) (soundTab_of all_tabX2) H0 (fun i hi => anyLoops) fun args r hF h => ?_
  unfold c71 at h
  split at h
  · rename_i d s n
    have he := e71 d s n hF
    rw [he, h]; rfl
  · cases h

theorem t44 (N : Nat) (n : Nat) (i : Nat) (f : Nat → Tok) : (evn tabX2 h44 noLoops 44 [.row 0 3 0 n, .int .i64 i] [some (.row 3 N (rowT f))]).run =
  bif decide ((0 : Int) ≤ (↑i : Int) ∧ (↑i : Int) < (↑n : Int)) then
   bif decide (0 + (↑i : Int).toNat < N) then
    bif nullT (f (0 + (↑i : Int).toNat)).num (f (0 + (↑i : Int).toNat)).text then
     bif IntKind.i64.wrap ((↑i : Int) + (1 : Int)) == (↑n : Int) then
      some ((AV.bool true, [some (AObj.row 3 N (rowT f))]))
     else
      bif decide ((0 : Int) ≤ IntKind.i64.wrap ((↑i : Int) + (1 : Int)) ∧ IntKind.i64.wrap ((↑i : Int) + (1 : Int)) < (↑n : Int)) then
       bif decide (0 + (IntKind.i64.wrap ((↑i : Int) + (1 : Int))).toNat < N) then
        bif (f (0 + (IntKind.i64.wrap ((↑i : Int) + (1 : Int))).toNat)).dash then
         some ((AV.bool true, [some (AObj.row 3 N (rowT f))]))
        else
         bif decide ((0 : Int) ≤ IntKind.i64.wrap ((↑i : Int) + (1 : Int)) ∧ IntKind.i64.wrap ((↑i : Int) + (1 : Int)) < (↑n : Int)) then
          bif decide (0 + (IntKind.i64.wrap ((↑i : Int) + (1 : Int))).toNat < N) then
           some ((AV.bool !(f (0 + (IntKind.i64.wrap ((↑i : Int) + (1 : Int))).toNat)).num, [some (AObj.row 3 N (rowT f))]))
          else
           none
         else
          none
       else
        none
      else
       none
    else
     some ((AV.bool false, [some (AObj.row 3 N (rowT f))]))
   else
    none
  else
   none := by kernel_rfl

structure X44 where
  N : Nat
  n : Nat
  i : Nat
  f : Nat → Tok

def en44 : X44 → List AV × Hp := fun ⟨N, n, i, f⟩ => ([.row 0 3 0 n, .int .i64 i], [some (.row 3 N (rowT f))])

def de44 : List AV × Hp → X44
  | ([.row _ _ _ n, .int .i64 i], [some (.row _ N f_g)]) => ⟨N, n, i.toNat, unT f_g⟩
  | _ => ⟨default, default, default, default⟩

def p44 : X44 → Prop := fun ⟨N, n, i, f⟩ => i < n ∧ n ≤ N ∧ N ≤ bnd

def rs44 : X44 → T (AV × Hp) := fun ⟨N, n, i, f⟩ => .leaf (.bool (goesF f n i), [some (.row 3 N (rowT f))])

noncomputable def c44 : List AV → Hp → T (AV × Hp) := mcon en44 de44 p44 rs44

theorem in44 : ∀ x, de44 (en44 x) = x := by
  rintro ⟨N, n, i, f⟩
  simp only [en44, de44, Int.toNat_natCast, unT_rowT]

theorem k44 (N : Nat) (n : Nat) (i : Nat) (f : Nat → Tok) (h : i < n ∧ n ≤ N ∧ N ≤ bnd) : isEn en44 p44 ([.row 0 3 0 n, .int .i64 i], [some (.row 3 N (rowT f))]) = true := isEn_true (enc := en44) (p := p44) ⟨N, n, i, f⟩ h

theorem e44 (N : Nat) (n : Nat) (i : Nat) (f : Nat → Tok) (hF : FitsL [.row 0 3 0 n, .int .i64 i]) (hH : FitsH [some (.row 3 N (rowT f))]) (hp : i < n ∧ n ≤ N ∧ N ≤ bnd) : (evn tabX2 h44 noLoops 44 [.row 0 3 0 n, .int .i64 i] [some (.row 3 N (rowT f))]).run = (.leaf (.bool (goesF f n i), [some (.row 3 N (rowT f))]) : T (AV × Hp)).run := by
  refine (t44 N n i f).trans ?_
  obtain ⟨h1, h2, h3⟩ := hp
  simp only [bnd] at h3
  rw [w64n (by omega), in_row h1, nat_beqI]
  simp only [Int.toNat_natCast, Nat.zero_add, cond_true, decide_eq_true (show i < N by omega)]
  unfold goesF
  cases nullT (f i).num (f i).text with
  | false => rfl
  | true =>
    cases he : (i + 1 == n) with
    | true => rfl
    | false =>
      have : i + 1 ≠ n := by simpa using he
      rw [in_row (show i + 1 < n by omega), decide_eq_true (show i + 1 < N by omega)]
      cases (f (i + 1)).dash <;> rfl

theorem s44 : Sound1 Tryd.prog ⟨44, false, gcon c44⟩ := by
  refine sound_cm (soundTab_of all_tabX2) in44 (hn := h44) (m := 20) (k := 9) (Λ := noLoops) (fun _ _ i hi => anyLoopsB) ?_
  rintro ⟨N, n, i, f⟩ hp hF hH
  exact e44 N n i f hF hH hp

noncomputable def tabX3 : Tab := ⟨71, true, pcon c71⟩ :: ⟨44, false, gcon c44⟩ :: tabX2

theorem all_tabX3 : ∀ e, e ∈ tabX3 → Sound1 Tryd.prog e := (sound_mem_tab s71 (sound_mem_tab s44 all_tabX2))

theorem ok_tabX3 : SoundTab Tryd.prog tabX3 := soundTab_of all_tabX3
end Go.Mvn
namespace Go.Mvn
open Go Go.Proofs Go.Ab
set_option linter.unusedVariables false
set_option maxRecDepth 100000

/-! ### The places of a token -/
theorem fxN_in {q : UInt8 → Bool} {s : List UInt8} : ∀ {i j : Nat}, i ≤ j → j < fxN q s i → q (s.getD j 0) = true ∧ j < s.length := by
  intro i j
  have key : ∀ m i, i + m = j → j < fxN q s i → q (s.getD j 0) = true ∧ j < s.length := by
    intro m
    induction m with
    | zero =>
      intro i hi hj
      obtain rfl : i = j := by omega
      by_cases hl : i < s.length
      · rw [fxN_step 0 hl] at hj
        cases hq : q (s.getD i 0) with
        | true => exact ⟨rfl, hl⟩
        | false => rw [hq, cond_false] at hj; omega
      · rw [fxN_end (by omega)] at hj; omega
    | succ m ih =>
      intro i hi hj
      by_cases hl : i < s.length
      · rw [fxN_step 0 hl] at hj
        cases hq : q (s.getD i 0) with
        | true => rw [hq, cond_true] at hj; exact ih (i + 1) (by omega) hj
        | false => rw [hq, cond_false] at hj; omega
      · rw [fxN_end (by omega)] at hj; omega
  exact fun h1 h2 => key (j - i) i (by omega) h2
theorem fxN_at {q : UInt8 → Bool} {s : List UInt8} {i : Nat} (h : fxN q s i < s.length) : q (s.getD (fxN q s i) 0) = false := by
  have key : ∀ m i, s.length - i ≤ m → fxN q s i < s.length → q (s.getD (fxN q s i) 0) = false := by
    intro m
    induction m with
    | zero =>
      intro i hi h
      rw [fxN_end (by omega)] at h; omega
    | succ m ih =>
      intro i hi h
      by_cases hl : i < s.length
      · have hd := fxN_step (q := q) 0 hl
        cases hq : q (s.getD i 0) with
        | true => rw [hq, cond_true] at hd; rw [hd] at h ⊢; exact ih (i + 1) (by omega) h
        | false => rw [hq, cond_false] at hd; rw [hd]; exact hq
      · rw [fxN_end (by omega)] at h; omega
  exact key (s.length - i) i (Nat.le_refl _) h
theorem run_fx (s : List UInt8) (a : Nat) : a + runL (s.drop a) = fxN digC s a := rfl
theorem kN_fx (s : List UInt8) (a : Nat) : kN s a = if a < s.length ∧ digC (s.getD a 0) = true then fxN digC s a else fxN ndB s a := rfl
theorem kN_le' {s : List UInt8} {a : Nat} (h : a ≤ s.length) : a ≤ kN s a ∧ kN s a ≤ s.length := by
  rw [kN_fx]; split <;> exact fxN_le h
/-- Does the token that began at fr go on over the place i? -/
def goOn (s : List UInt8) (fr i : Nat) : Bool := decide (i < s.length) && (!partC (s.getD i 0) && !(decide (fr < i) && (digC (s.getD i 0) != digC (s.getD (i - 1) 0))))
theorem part_dig (b : UInt8) : (partC b && digC b) = false := by
  have key : ∀ n : Nat, n < 256 → (partC (UInt8.ofNat n) && digC (UInt8.ofNat n)) = false := by decide
  have hb := key b.toNat (UInt8.toNat_lt b)
  rw [UInt8.ofNat_toNat] at hb
  exact hb
theorem nd_eq (b : UInt8) : ndB b = (!partC b && !digC b) := rfl
theorem goOn_kN {s : List UInt8} {fr i : Nat} (h0 : fr ≤ i) (h1 : i ≤ kN s fr) : goOn s fr i = decide (i < kN s fr) := by
  have hpd : ∀ b, digC b = true → partC b = false := fun b hb => by
    have := part_dig b
    rw [hb, Bool.and_true] at this; exact this
  by_cases hd : fr < s.length ∧ digC (s.getD fr 0) = true
  · have hk : kN s fr = fxN digC s fr := by rw [kN_fx, if_pos hd]
    rw [hk] at h1 ⊢
    by_cases hi : i < fxN digC s fr
    · obtain ⟨q1, q2⟩ := fxN_in h0 hi
      rw [decide_eq_true hi]
      unfold goOn
      rw [decide_eq_true q2, hpd _ q1, q1]
      by_cases hf : fr < i
      · obtain ⟨q3, _⟩ := fxN_in (q := digC) (s := s) (i := fr) (j := i - 1) (by omega) (by omega)
        rw [q3, decide_eq_true hf]; rfl
      · rw [decide_eq_false hf]; rfl
    · obtain rfl : i = fxN digC s fr := by omega
      rw [decide_eq_false hi]
      unfold goOn
      by_cases hl : fxN digC s fr < s.length
      · have hq := fxN_at hl
        have hf : fr < fxN digC s fr := by
          rcases Nat.lt_or_ge fr (fxN digC s fr) with h | h
          · exact h
          · have : fxN digC s fr = fr := by omega
            rw [this, hd.2] at hq; cases hq
        obtain ⟨q3, _⟩ := fxN_in (q := digC) (s := s) (i := fr) (j := fxN digC s fr - 1) (by omega) (by omega)
        rw [hq, q3, decide_eq_true hf, decide_eq_true hl]
        cases partC (s.getD (fxN digC s fr) 0) <;> rfl
      · rw [decide_eq_false hl]; rfl
  · have hk : kN s fr = fxN ndB s fr := by rw [kN_fx, if_neg hd]
    rw [hk] at h1 ⊢
    by_cases hi : i < fxN ndB s fr
    · obtain ⟨q1, q2⟩ := fxN_in h0 hi
      rw [decide_eq_true hi]
      rw [nd_eq, Bool.and_eq_true] at q1
      unfold goOn
      rw [decide_eq_true q2, q1.1]
      by_cases hf : fr < i
      · obtain ⟨q3, _⟩ := fxN_in (q := ndB) (s := s) (i := fr) (j := i - 1) (by omega) (by omega)
        rw [nd_eq, Bool.and_eq_true] at q3
        have e1 := q1.2
        have e2 := q3.2
        rw [Bool.not_eq_true'] at e1 e2
        rw [e1, e2, decide_eq_true hf]; rfl
      · rw [decide_eq_false hf]; rfl
    · obtain rfl : i = fxN ndB s fr := by omega
      rw [decide_eq_false hi]
      unfold goOn
      by_cases hl : fxN ndB s fr < s.length
      · have hq := fxN_at hl
        rw [decide_eq_true hl]
        cases hp : partC (s.getD (fxN ndB s fr) 0) with
        | true => rfl
        | false =>
          rw [nd_eq, hp] at hq
          have hdg : digC (s.getD (fxN ndB s fr) 0) = true := by simpa using hq
          have hf : fr < fxN ndB s fr := by
            rcases Nat.lt_or_ge fr (fxN ndB s fr) with h | h
            · exact h
            · have e : fxN ndB s fr = fr := by omega
              rw [e] at hdg hl
              exact absurd ⟨hl, hdg⟩ hd
          obtain ⟨q3, _⟩ := fxN_in (q := ndB) (s := s) (i := fr) (j := fxN ndB s fr - 1) (by omega) (by omega)
          rw [nd_eq, Bool.and_eq_true] at q3
          have e2 := q3.2
          rw [Bool.not_eq_true'] at e2
          rw [hdg, e2, decide_eq_true hf]; rfl
      · rw [decide_eq_false hl]; rfl
/-! ### The tokens as a list -/
def tokAt (s : List UInt8) (d : Bool) (a : Nat) : Tok := ⟨d, tokN (cutX s a (kN s a)), tokS (cutX s a (kN s a)) (nearN s (kN s a))⟩
def spl : Nat → List UInt8 → Bool → Nat → List Tok
  | 0, s, d, a => [tokAt s d a]
  | m + 1, s, d, a => if s.length ≤ kN s a then [tokAt s d a] else tokAt s d a :: spl m s (nextB s (kN s a)) (nextA s (kN s a))
/-- What remains from a place on, as a measure. -/
theorem next_lt {s : List UInt8} {a : Nat} (ha : a ≤ s.length) (h : ¬ s.length ≤ kN s a) : nextA s (kN s a) ≤ s.length ∧ a < nextA s (kN s a) := by
  have hk := kN_le' ha
  unfold nextA
  cases hp : partC (s.getD (kN s a) 0) with
  | true => rw [cond_true]; omega
  | false =>
    rw [cond_false]
    refine ⟨by omega, ?_⟩
    have hg := goOn_kN (s := s) (Nat.le_refl a) hk.1
    unfold goOn at hg
    rcases Nat.lt_or_ge a (kN s a) with h' | h'
    · exact h'
    · have e : kN s a = a := by omega
      rw [e] at hp hg
      rw [hp, decide_eq_true (by omega), decide_eq_false (Nat.lt_irrefl a)] at hg
      cases hg
theorem spl_more (s : List UInt8) : ∀ (m m' : Nat) (d : Bool) (a : Nat), a ≤ s.length → s.length - a ≤ m → s.length - a ≤ m' → spl m s d a = spl m' s d a
  | 0, 0, d, a, _, _, _ => rfl
  | 0, m' + 1, d, a, ha, h, _ => by
    have hk := kN_le' ha
    unfold spl
    rw [if_pos (by omega)]
  | m + 1, 0, d, a, ha, _, h => by
    have hk := kN_le' ha
    unfold spl
    rw [if_pos (by omega)]
  | m + 1, m' + 1, d, a, ha, h1, h2 => by
    unfold spl
    by_cases h : s.length ≤ kN s a
    · rw [if_pos h, if_pos h]
    · rw [if_neg h, if_neg h]
      have hn := next_lt ha h
      rw [spl_more s m m' _ _ hn.1 (by omega) (by omega)]
/-- All tokens, as they stand. -/
def splS (s : List UInt8) (d : Bool) (a : Nat) : List Tok := spl (s.length - a) s d a
theorem splS_step {s : List UInt8} {d : Bool} {a : Nat} (ha : a ≤ s.length) : splS s d a = if s.length ≤ kN s a then [tokAt s d a] else tokAt s d a :: splS s (nextB s (kN s a)) (nextA s (kN s a)) := by
  unfold splS
  rw [spl_more s (s.length - a) (s.length - a + 1) d a ha (Nat.le_refl _) (by omega)]
  rw [spl.eq_2]
  split
  · rfl
  · rename_i h
    have hn := next_lt ha h
    rw [spl_more s (s.length - a) (s.length - nextA s (kN s a)) _ _ hn.1 (by omega) (Nat.le_refl _)]
/-! ### Rows and lists -/
def listOf (f : Nat → Tok) (n : Nat) : List Tok := (List.range n).map f
theorem listOf_length (f : Nat → Tok) (n : Nat) : (listOf f n).length = n := by simp [listOf]
theorem listOf_get {f : Nat → Tok} {n i : Nat} (h : i < n) : (listOf f n)[i]? = some (f i) := by simp [listOf, h]
theorem listOf_ext {f g : Nat → Tok} {n : Nat} (h : ∀ i, i < n → f i = g i) : listOf f n = listOf g n := by
  unfold listOf
  refine List.map_congr_left fun i hi => h i (by simpa using hi)
theorem listOf_of {f : Nat → Tok} {l : List Tok} (h : ∀ i t, l[i]? = some t → f i = t) : listOf f l.length = l := by
  refine List.ext_getElem? fun i => ?_
  by_cases hi : i < l.length
  · rw [listOf_get hi, List.getElem?_eq_getElem hi, h i _ (List.getElem?_eq_getElem hi)]
  · rw [List.getElem?_eq_none (by simpa [listOf] using hi), List.getElem?_eq_none (by omega)]
theorem listOf_push (f : Nat → Tok) (n : Nat) (t : Tok) : listOf (fun k => if k < n then f k else t) (n + 1) = listOf f n ++ [t] := by
  unfold listOf
  rw [List.range_succ, List.map_append]
  congr 1
  · refine List.map_congr_left fun i hi => ?_
    rw [if_pos (by simpa using hi)]
  · simp
theorem listOf_del {f : Nat → Tok} {n k : Nat} (g : Nat → Tok) (hk : k < n) (h1 : ∀ i, i < k → g i = f i) (h2 : ∀ i, k ≤ i → i < n - 1 → g i = f (i + 1)) : listOf g (n - 1) = (listOf f n).eraseIdx k := by
  refine List.ext_getElem? fun i => ?_
  rw [List.getElem?_eraseIdx]
  by_cases hi : i < n - 1
  · rw [listOf_get hi]
    by_cases hik : i < k
    · rw [if_pos hik, listOf_get (by omega), h1 i hik]
    · rw [if_neg hik, listOf_get (by omega), h2 i (by omega) hi]
  · rw [List.getElem?_eq_none (by simpa [listOf] using hi)]
    split
    · omega
    · rw [List.getElem?_eq_none (by simp [listOf]; omega)]
/-- A null that stands where none may, in a list. -/
def looseH : List Tok → Bool
  | [] => true
  | u :: _ => u.dash || !u.num
def goesL (l : List Tok) (i : Nat) : Bool := match l.drop i with
  | [] => false
  | t :: r => nullT t.num t.text && looseH r
def normT : List Tok → List Tok
  | [] => []
  | t :: r => bif nullT t.num t.text && looseH (normT r) then normT r else t :: normT r
theorem goesL_zero (t : Tok) (r : List Tok) : goesL (t :: r) 0 = (nullT t.num t.text && looseH r) := rfl
theorem goesL_succ (t : Tok) (r : List Tok) (i : Nat) : goesL (t :: r) (i + 1) = goesL r i := rfl
theorem loose_norm : ∀ (t : Tok) (r : List Tok), nullT t.num t.text = true → looseH r = true → looseH (normT r) = true
  | t, [], h, h2 => rfl
  | t, u :: r, h, h2 => by
    unfold normT
    cases hc : nullT u.num u.text && looseH (normT r) with
    | true =>
      rw [Bool.and_eq_true] at hc
      exact hc.2
    | false => exact h2
/-- A loose null may go first. -/
theorem normT_erase : ∀ (l : List Tok) (i : Nat), goesL l i = true → normT (l.eraseIdx i) = normT l
  | [], i, h => by simp [goesL] at h
  | t :: r, 0, h => by
    rw [goesL_zero, Bool.and_eq_true] at h
    show normT r = normT (t :: r)
    rw [normT.eq_2, h.1, loose_norm t r h.1 h.2]; rfl
  | t :: r, i + 1, h => by
    rw [goesL_succ] at h
    have ih := normT_erase r i h
    show normT (t :: r.eraseIdx i) = normT (t :: r)
    rw [normT.eq_2, normT.eq_2, ih]
theorem normT_fix : ∀ (l : List Tok), (∀ i, i < l.length → goesL l i = false) → normT l = l
  | [], h => rfl
  | t :: r, h => by
    have ih := normT_fix r fun i hi => by
      have := h (i + 1) (by simp; omega)
      rwa [goesL_succ] at this
    have h0 := h 0 (by simp)
    rw [goesL_zero] at h0
    rw [normT.eq_2, ih, h0]; rfl
theorem goesF_L {f : Nat → Tok} {n i : Nat} (h : i < n) : goesF f n i = goesL (listOf f n) i := by
  have hd : (listOf f n).drop i = f i :: (listOf f n).drop (i + 1) := by
    rw [List.drop_eq_getElem_cons (by simpa [listOf] using h)]
    congr 1
    simp [listOf]
  unfold goesL goesF
  rw [hd]
  by_cases he : i + 1 = n
  · have : (listOf f n).drop (i + 1) = [] := List.drop_eq_nil_of_le (by simp [listOf]; omega)
    rw [this, show (i + 1 == n) = true by simpa using he]
    rfl
  · have hd2 : (listOf f n).drop (i + 1) = f (i + 1) :: (listOf f n).drop (i + 2) := by
      rw [List.drop_eq_getElem_cons (by simp [listOf]; omega)]
      congr 1
      simp [listOf]
    rw [hd2, show (i + 1 == n) = false by simpa using he]
    rfl
theorem delF_list {f : Nat → Tok} {n k : Nat} (hk : k < n) : listOf (delF f k n) (n - 1) = (listOf f n).eraseIdx k :=
  listOf_del _ hk (fun i hi => by
    unfold delF
    rw [if_neg (by omega), if_neg (by omega)]) (fun i hi h2 => by
    unfold delF
    rw [if_neg (by omega), if_pos (by omega)])
theorem trimP_norm : ∀ (k : Nat) (f : Nat → Tok) (n : Nat), k ≤ n → normT (listOf (trimP k f n).1 (trimP k f n).2) = normT (listOf f n)
  | 0, f, n, h => rfl
  | k + 1, f, n, h => by
    unfold trimP
    split
    · rename_i hg
      rw [trimP_norm k _ _ (by omega), delF_list (by omega)]
      exact normT_erase _ _ (by rw [← goesF_L (by omega)]; exact hg)
    · exact trimP_norm k f n (by omega)
theorem trimR_norm : ∀ (K : Nat) (f : Nat → Tok) (n : Nat), normT (listOf (trimR K f n).1 (trimR K f n).2) = normT (listOf f n)
  | 0, f, n => rfl
  | K + 1, f, n => by
    unfold trimR
    split
    · rw [trimR_norm K, trimP_norm n f n (Nat.le_refl _)]
    · exact trimP_norm n f n (Nat.le_refl _)
theorem trimA_list (f : Nat → Tok) (n : Nat) : listOf (trimA f n).1 (trimA f n).2 = normT (listOf f n) := by
  have h := trimR_norm (n + 1) f n
  have hg := trimA_goes f n
  rw [← h]
  refine (normT_fix _ fun i hi => ?_).symm
  rw [listOf_length] at hi
  rw [← goesF_L hi]
  exact hg i hi
/-- The tokens handed out: the first has no dash; none is zero. -/
def finT : List Tok → List Tok
  | [] => [⟨false, true, [48]⟩]
  | t :: r => ⟨false, t.num, t.text⟩ :: r
def toks (s : List UInt8) : List Tok := listOf (tokF s) (tokL s)
theorem toks_fin (s : List UInt8) : toks s = finT (normT (listOf (unT (tokR s)) (tokC s))) := by
  have h := trimA_list (unT (tokR s)) (tokC s)
  rw [← h]
  unfold toks tokF tokL
  show listOf (bif (trim8 s).2.beq 0 then oneZ else undash (trim8 s).1) (bif (trim8 s).2.beq 0 then 1 else (trim8 s).2) = finT (listOf (trim8 s).1 (trim8 s).2)
  generalize trim8 s = p
  obtain ⟨f, n⟩ := p
  cases n with
  | zero => rfl
  | succ n =>
    show listOf (undash f) (n + 1) = finT (listOf f (n + 1))
    unfold listOf
    rw [List.range_succ_eq_map, List.map_cons, List.map_cons, List.map_map, List.map_map]
    show undash f 0 :: _ = ⟨false, (f 0).num, (f 0).text⟩ :: _
    congr 1
/-- A row of tokens is a list of tokens. -/
def IsRow (L : List Tok) (n : Nat) (f : Nat → Nat → AV) : Prop := n = L.length ∧ ∀ i c t, L[i]? = some t → c < 3 → f i c = rowT (fun _ => t) i c
theorem IsRow.list {L : List Tok} {n : Nat} {f : Nat → Nat → AV} (h : IsRow L n f) : listOf (unT f) n = L := by
  obtain ⟨rfl, h⟩ := h
  refine listOf_of fun i t ht => ?_
  unfold unT
  rw [h i 0 t ht (by omega), h i 1 t ht (by omega), h i 2 t ht (by omega)]
  rfl
theorem IsRow.app {L : List Tok} {n : Nat} {f : Nat → Nat → AV} (h : IsRow L n f) (d : Bool) (x : List UInt8) (near : Bool) : IsRow (L ++ [⟨d, tokN x, tokS x near⟩]) (n + 1) (appG n f (oneR d x near)) := by
  obtain ⟨rfl, h⟩ := h
  refine ⟨by simp, fun i c t ht hc => ?_⟩
  rw [List.getElem?_append] at ht
  cases hL : L with
  | nil =>
    subst hL
    simp only [List.length_nil, Nat.not_lt_zero, if_false, Nat.sub_zero] at ht
    have hi : i = 0 := by
      have := (List.getElem?_eq_some_iff.1 ht).1
      simpa using this
    subst hi
    simp at ht
    subst ht
    exact oneR_row d x near c hc
  | cons t0 L0 =>
    rw [← hL]
    have hn : L.length = L0.length + 1 := by rw [hL]; rfl
    rw [hn]
    show appF (L0.length + 1) f (oneR d x near) i c = _
    rw [← hn]
    unfold appF
    split at ht
    · rename_i hi
      rw [if_pos hi]
      exact h i c t ht hc
    · rename_i hi
      have hi2 : i - L.length = 0 := by
        have := (List.getElem?_eq_some_iff.1 ht).1
        simpa using this
      rw [hi2] at ht
      simp at ht
      subst ht
      rw [if_neg hi, hi2, oneR_row d x near c hc]
      rfl
theorem outP_list : ∀ (m : Nat) (s : List UInt8) (d : Bool) (a n : Nat) (f : Nat → Nat → AV) (L : List Tok), IsRow L n f → ∃ X, IsRow (L ++ X) (outP m s d a n f).n (outP m s d a n f).f ∧ spl m s d a = X ++ [tokAt s (outP m s d a n f).d (outP m s d a n f).a]
  | 0, s, d, a, n, f, L, h => ⟨[], by simpa [outP] using h, rfl⟩
  | m + 1, s, d, a, n, f, L, h => by
    unfold outP spl
    split
    · exact ⟨[], by simpa using h, rfl⟩
    · obtain ⟨X, h1, h2⟩ := outP_list m s (nextB s (kN s a)) (nextA s (kN s a)) (n + 1) _ _ (IsRow.app h d (cutX s a (kN s a)) (nearN s (kN s a)))
      refine ⟨tokAt s d a :: X, ?_, ?_⟩
      · rw [List.append_assoc] at h1; exact h1
      · rw [h2]; rfl
theorem tokR_list (s : List UInt8) : listOf (unT (tokR s)) (tokC s) = splS s false 0 := by
  obtain ⟨X, h1, h2⟩ := outP_list (s.length + 1) s false 0 0 (fun _ _ => .junk) [] ⟨rfl, fun i c t h => by simp at h⟩
  have h3 := IsRow.app h1 (fin8 s).d (cutX s (fin8 s).a (kN s (fin8 s).a)) (nearN s (kN s (fin8 s).a))
  have h4 := IsRow.list h3
  have h5 : spl (s.length + 1) s false 0 = splS s false 0 := spl_more s _ _ _ _ (Nat.zero_le _) (by omega) (Nat.le_refl _)
  rw [← h5, h2]
  exact h4
/-- **THE TOKENS OF A TEXT.** -/
theorem toks_eq (s : List UInt8) : toks s = finT (normT (splS s false 0)) := by rw [toks_fin, tokR_list]
end Go.Mvn
namespace Go.Mvn

open Go Go.Proofs Go.Ab

set_option maxRecDepth 100000

set_option linter.unusedVariables false

set_option linter.unusedSimpArgs false

/-! ### The reference's trim -/

theorem iA57 (n : Nat) (i : Int) (f : Nat → Tok) (ag : Bool) : (rdn tabX3 h57 noLoops 57 1 1 { tm := encGo (mbits 25 41) [.row 0 3 0 n, .bool ag, .int .i64 i], ms := [], hp := [some (.row 3 n (rowT f))] }).run =
  bif decide (i ≥ (0 : Int)) then
   bif !ag then
    bif isEn en44 p44 ([AV.row 0 3 0 n, AV.int IntKind.i64 i], [some (AObj.row 3 n (rowT f))]) then
     bif goesF (unT (rowT f)) n i.toNat then
      bif decide ((0 : Int) ≤ i ∧ i ≤ (↑n : Int)) then
       bif decide (0 + i.toNat ≤ n) then
        bif decide (i.toNat = 0) then
         bif decide ((0 : Int) ≤ IntKind.i64.wrap (i + (1 : Int)) ∧ IntKind.i64.wrap (i + (1 : Int)) ≤ (↑n : Int)) then
          bif decide (0 + (IntKind.i64.wrap (i + (1 : Int))).toNat + (n - (IntKind.i64.wrap (i + (1 : Int))).toNat) ≤ n) then
           bif decide (n - (IntKind.i64.wrap (i + (1 : Int))).toNat = 0) then
            some ((AX.normal, { tm := tmOf 41 [(0, AV.nilsl), (3, AV.bool true), (4, AV.int IntKind.i64 (IntKind.i64.wrap (i - (1 : Int))))], ms := [], hp := [some (AObj.row 3 n (rowT (unT (rowT f))))] }))
           else
            bif decide ((n - (IntKind.i64.wrap (i + (1 : Int))).toNat) * 24 ≤ 140737488355328 ∧ n - (IntKind.i64.wrap (i + (1 : Int))).toNat ≤ 4611686018427387903) then
             some ((AX.normal, { tm := tmOf 41 [(0, AV.row 1 3 0 (n - (IntKind.i64.wrap (i + (1 : Int))).toNat)), (3, AV.bool true), (4, AV.int IntKind.i64 (IntKind.i64.wrap (i - (1 : Int))))], ms := [], hp := [some (AObj.row 3 n (rowT (unT (rowT f)))), some (AObj.row 3 (n - (IntKind.i64.wrap (i + (1 : Int))).toNat) fun i_1 => rowT (unT (rowT f)) (0 + (IntKind.i64.wrap (i + (1 : Int))).toNat + i_1))] }))
            else
             none
          else
           none
         else
          none
        else
         bif decide (i.toNat * 24 ≤ 140737488355328 ∧ i.toNat ≤ 4611686018427387903) then
          bif decide ((0 : Int) ≤ IntKind.i64.wrap (i + (1 : Int)) ∧ IntKind.i64.wrap (i + (1 : Int)) ≤ (↑n : Int)) then
           bif decide (0 + (IntKind.i64.wrap (i + (1 : Int))).toNat + (n - (IntKind.i64.wrap (i + (1 : Int))).toNat) ≤ n) then
            bif decide (i.toNat = i.toNat) then
             bif decide ((i.toNat + (n - (IntKind.i64.wrap (i + (1 : Int))).toNat)) * 24 ≤ 140737488355328 ∧ i.toNat + (n - (IntKind.i64.wrap (i + (1 : Int))).toNat) ≤ 4611686018427387903) then
              some ((AX.normal, { tm := tmOf 41 [(0, AV.row 1 3 0 (i.toNat + (n - (IntKind.i64.wrap (i + (1 : Int))).toNat))), (3, AV.bool true), (4, AV.int IntKind.i64 (IntKind.i64.wrap (i - (1 : Int))))], ms := [], hp := [some (AObj.row 3 n (rowT (unT (rowT f)))), some (AObj.row 3 (i.toNat + (n - (IntKind.i64.wrap (i + (1 : Int))).toNat)) (appF i.toNat (fun i => rowT (unT (rowT f)) (0 + i)) fun i_1 => rowT (unT (rowT f)) (0 + (IntKind.i64.wrap (i + (1 : Int))).toNat + i_1)))] }))
             else
              none
            else
             none
           else
            none
          else
           none
         else
          none
       else
        none
      else
       none
     else
      some ((AX.normal, { tm := tmOf 41 [(0, AV.row 0 3 0 n), (3, AV.bool ag), (4, AV.int IntKind.i64 (IntKind.i64.wrap (i - (1 : Int))))], ms := [], hp := [some (AObj.row 3 n (rowT (unT (rowT f))))] }))
    else
     none
   else
    some ((AX.exit 2, { tm := tmOf 41 [(0, AV.row 0 3 0 n), (3, AV.bool ag), (4, AV.int IntKind.i64 i), (15, AV.bool false)], ms := [], hp := [some (AObj.row 3 n (rowT f))] }))
  else
   some ((AX.exit 2, { tm := tmOf 41 [(0, AV.row 0 3 0 n), (3, AV.bool ag), (4, AV.int IntKind.i64 i), (15, AV.bool false)], ms := [], hp := [some (AObj.row 3 n (rowT f))] })) := by kernel_rfl

theorem iB57 (N n : Nat) (i : Int) (f0 f : Nat → Tok) (ag : Bool) : (rdn tabX3 h57 noLoops 57 1 1 { tm := encGo (mbits 25 41) [.row 1 3 0 n, .bool ag, .int .i64 i], ms := [], hp := [some (.row 3 N (rowT f0)), some (.row 3 n (rowT f))] }).run =
  bif decide (i ≥ (0 : Int)) then
   bif !ag then
    bif isEn en44 p44 ([AV.row 0 3 0 n, AV.int IntKind.i64 i], [some (AObj.row 3 n (rowT f))]) then
     bif goesF (unT (rowT f)) n i.toNat then
      bif decide ((0 : Int) ≤ i ∧ i ≤ (↑n : Int)) then
       bif decide (0 + i.toNat ≤ n) then
        bif decide (i.toNat = 0) then
         bif decide ((0 : Int) ≤ IntKind.i64.wrap (i + (1 : Int)) ∧ IntKind.i64.wrap (i + (1 : Int)) ≤ (↑n : Int)) then
          bif decide (0 + (IntKind.i64.wrap (i + (1 : Int))).toNat + (n - (IntKind.i64.wrap (i + (1 : Int))).toNat) ≤ n) then
           bif decide (n - (IntKind.i64.wrap (i + (1 : Int))).toNat = 0) then
            some ((AX.normal, { tm := tmOf 41 [(0, AV.nilsl), (3, AV.bool true), (4, AV.int IntKind.i64 (IntKind.i64.wrap (i - (1 : Int))))], ms := [], hp := [some (AObj.row 3 N (rowT f0))] }))
           else
            bif decide ((n - (IntKind.i64.wrap (i + (1 : Int))).toNat) * 24 ≤ 140737488355328 ∧ n - (IntKind.i64.wrap (i + (1 : Int))).toNat ≤ 4611686018427387903) then
             some ((AX.normal, { tm := tmOf 41 [(0, AV.row 1 3 0 (n - (IntKind.i64.wrap (i + (1 : Int))).toNat)), (3, AV.bool true), (4, AV.int IntKind.i64 (IntKind.i64.wrap (i - (1 : Int))))], ms := [], hp := [some (AObj.row 3 N (rowT f0)), some (AObj.row 3 (n - (IntKind.i64.wrap (i + (1 : Int))).toNat) fun i_1 => rowT (unT (rowT f)) (0 + (IntKind.i64.wrap (i + (1 : Int))).toNat + i_1))] }))
            else
             none
          else
           none
         else
          none
        else
         bif decide (i.toNat * 24 ≤ 140737488355328 ∧ i.toNat ≤ 4611686018427387903) then
          bif decide ((0 : Int) ≤ IntKind.i64.wrap (i + (1 : Int)) ∧ IntKind.i64.wrap (i + (1 : Int)) ≤ (↑n : Int)) then
           bif decide (0 + (IntKind.i64.wrap (i + (1 : Int))).toNat + (n - (IntKind.i64.wrap (i + (1 : Int))).toNat) ≤ n) then
            bif decide (i.toNat = i.toNat) then
             bif decide ((i.toNat + (n - (IntKind.i64.wrap (i + (1 : Int))).toNat)) * 24 ≤ 140737488355328 ∧ i.toNat + (n - (IntKind.i64.wrap (i + (1 : Int))).toNat) ≤ 4611686018427387903) then
              some ((AX.normal, { tm := tmOf 41 [(0, AV.row 1 3 0 (i.toNat + (n - (IntKind.i64.wrap (i + (1 : Int))).toNat))), (3, AV.bool true), (4, AV.int IntKind.i64 (IntKind.i64.wrap (i - (1 : Int))))], ms := [], hp := [some (AObj.row 3 N (rowT f0)), some (AObj.row 3 (i.toNat + (n - (IntKind.i64.wrap (i + (1 : Int))).toNat)) (appF i.toNat (fun i => rowT (unT (rowT f)) (0 + i)) fun i_1 => rowT (unT (rowT f)) (0 + (IntKind.i64.wrap (i + (1 : Int))).toNat + i_1)))] }))
             else
              none
            else
             none
           else
            none
          else
           none
         else
          none
       else
        none
      else
       none
     else
      some ((AX.normal, { tm := tmOf 41 [(0, AV.row 1 3 0 n), (3, AV.bool ag), (4, AV.int IntKind.i64 (IntKind.i64.wrap (i - (1 : Int))))], ms := [], hp := [some (AObj.row 3 N (rowT f0)), some (AObj.row 3 n (rowT (unT (rowT f))))] }))
    else
     none
   else
    some ((AX.exit 2, { tm := tmOf 41 [(0, AV.row 1 3 0 n), (3, AV.bool ag), (4, AV.int IntKind.i64 i), (15, AV.bool false)], ms := [], hp := [some (AObj.row 3 N (rowT f0)), some (AObj.row 3 n (rowT f))] }))
  else
   some ((AX.exit 2, { tm := tmOf 41 [(0, AV.row 1 3 0 n), (3, AV.bool ag), (4, AV.int IntKind.i64 i), (15, AV.bool false)], ms := [], hp := [some (AObj.row 3 N (rowT f0)), some (AObj.row 3 n (rowT f))] })) := by kernel_rfl

theorem iC57 (N : Nat) (i : Int) (f0 : Nat → Tok) (ag : Bool) : (rdn tabX3 h57 noLoops 57 1 1 { tm := encGo (mbits 25 41) [.nilsl, .bool ag, .int .i64 i], ms := [], hp := [some (.row 3 N (rowT f0))] }).run =
  bif decide (i ≥ (0 : Int)) then
   bif !ag then
    bif isEn en44 p44 ([AV.nilsl, AV.int IntKind.i64 i], []) then
     bif decide (i = (0 : Int)) then
      bif decide (IntKind.i64.wrap (i + (1 : Int)) = (0 : Int)) then
       some ((AX.normal, { tm := tmOf 41 [(0, AV.nilsl), (3, AV.bool true), (4, AV.int IntKind.i64 (IntKind.i64.wrap (i - (1 : Int))))], ms := [], hp := [some (AObj.row 3 N (rowT f0))] }))
      else
       none
     else
      none
    else
     none
   else
    some ((AX.exit 2, { tm := tmOf 41 [(0, AV.nilsl), (3, AV.bool ag), (4, AV.int IntKind.i64 i), (15, AV.bool false)], ms := [], hp := [some (AObj.row 3 N (rowT f0))] }))
  else
   some ((AX.exit 2, { tm := tmOf 41 [(0, AV.nilsl), (3, AV.bool ag), (4, AV.int IntKind.i64 i), (15, AV.bool false)], ms := [], hp := [some (AObj.row 3 N (rowT f0))] })) := by kernel_rfl

/-- Where the row stands: as it came; in a block of its own; nowhere. -/
inductive R57 where
  | a (n : Nat) (f : Nat → Tok)
  | b (N : Nat) (f0 : Nat → Tok) (n : Nat) (f : Nat → Tok)
  | c (N : Nat) (f0 : Nat → Tok)

namespace R57

def av : R57 → AV
  | a n f => .row 0 3 0 n
  | b N f0 n f => .row 1 3 0 n
  | c N f0 => .nilsl

def hp : R57 → Hp
  | a n f => [some (.row 3 n (rowT f))]
  | b N f0 n f => [some (.row 3 N (rowT f0)), some (.row 3 n (rowT f))]
  | c N f0 => [some (.row 3 N (rowT f0))]

def n : R57 → Nat
  | a n f => n
  | b N f0 n f => n
  | c N f0 => 0

def f : R57 → Nat → Tok
  | a n f => f
  | b N f0 n f => f
  | c N f0 => fun _ => zeroT

def oN : R57 → Nat
  | a n f => n
  | b N f0 n f => N
  | c N f0 => N

def oF : R57 → Nat → Tok
  | a n f => f
  | b N f0 n f => f0
  | c N f0 => f0

def dec : AV → Hp → R57
  | .row 0 _ _ n, [some (.row _ _ g)] => .a n (unT g)
  | .row 1 _ _ n, [some (.row _ N g0), some (.row _ _ g)] => .b N (unT g0) n (unT g)
  | _, [some (.row _ N g0)] => .c N (unT g0)
  | _, _ => .c 0 (fun _ => zeroT)

theorem dec_enc (r : R57) : dec r.av r.hp = r := by cases r <;> rfl

end R57

def delG (f : Nat → Tok) (j : Nat) : Nat → Tok := fun k => if k < j then f k else f (j + 1 + (k - j))

theorem delG_app (f : Nat → Tok) (j : Nat) : appF j (fun i => rowT f (0 + i)) (fun i => rowT f (0 + (j + 1) + i)) = rowT (delG f j) := by
  funext k c
  unfold appF delG
  by_cases h : k < j
  · rw [if_pos h]
    simp only [rowT, if_pos h, Nat.zero_add]
  · rw [if_neg h]
    simp only [rowT, if_neg h, Nat.zero_add]

theorem delG_zero (f : Nat → Tok) : (fun i => rowT f (0 + (0 + 1) + i)) = rowT (delG f 0) := by
  funext k c
  unfold delG
  simp only [rowT, Nat.not_lt_zero, if_false, Nat.zero_add, Nat.sub_zero]

namespace R57

def kind : R57 → Nat
  | a _ _ => 0
  | b _ _ _ _ => 1
  | c _ _ => 2

def cs {α : Type} (r : R57) (k : R57 → T α) : T α := .br (Nat.beq r.kind 2) (k (.c r.oN r.oF)) (.br (Nat.beq r.kind 0) (k (.a r.n r.f)) (k (.b r.oN r.oF r.n r.f)))

theorem cs_run {α : Type} (r : R57) (k : R57 → T α) : (cs r k).run = (k r).run := by cases r <;> rfl

end R57

/-- One goes. -/
def delR (r : R57) (j : Nat) : R57 := if r.n - 1 = 0 then .c r.oN r.oF else .b r.oN r.oF (r.n - 1) (delG r.f j)

def scanR (r : R57) : Nat → R57 × Bool × Int
  | 0 => (r, false, -1)
  | k + 1 => bif goesF r.f r.n k then (delR r k, true, (k : Int) - 1) else scanR r k

def stR (x : R57 × Bool × Int) : AX × St := (.exit 2, { tm := tmOf 41 [(0, x.1.av), (3, .bool x.2.1), (4, .int .i64 x.2.2), (15, .bool false)], ms := [], hp := x.1.hp })

def en57i : R57 × Bool × Int → List AV × Hp := fun x => ([x.1.av, .bool x.2.1, .int .i64 x.2.2], x.1.hp)

def de57i : List AV × Hp → R57 × Bool × Int
  | ([a, .bool ag, .int _ i], hp) => (R57.dec a hp, ag, i)
  | _ => (.c 0 (fun _ => zeroT), false, 0)

def p57i : R57 × Bool × Int → Prop := fun x => x.1.n ≤ 1000000 ∧ (x.2.1 = false → -1 ≤ x.2.2 ∧ x.2.2 < x.1.n)

def T57 (x : R57 × Bool × Int) : T (AX × St) := R57.cs x.1 fun r => .leaf (stR (r, x.2))

theorem T57_run (x : R57 × Bool × Int) : (T57 x).run = some (stR x) := R57.cs_run _ _

noncomputable def r57i : R57 × Bool × Int → T (AX × St)
  | (.a n f, ag, i) => T57 (bif ag then (.a n f, ag, i) else scanR (.a n f) (i + 1).toNat)
  | (.b N f0 n f, ag, i) => T57 (bif ag then (.b N f0 n f, ag, i) else scanR (.b N f0 n f) (i + 1).toNat)
  | (.c N f0, ag, i) => T57 (bif ag then (.c N f0, ag, i) else scanR (.c N f0) (i + 1).toNat)

theorem r57i_run (r : R57) (ag : Bool) (i : Int) : (r57i (r, ag, i)).run = some (stR (bif ag then (r, ag, i) else scanR r (i + 1).toNat)) := by
  cases r <;> exact T57_run _

noncomputable def L57i : LoopT := fun k => match Nat.beq k 500047 with
  | true => some (lccon (mbits 25 41) en57i de57i p57i r57i)
  | false => none

theorem i57i : ∀ x, de57i (en57i x) = x := by
  rintro ⟨r, ag, i⟩
  show (R57.dec r.av r.hp, ag, i) = _
  rw [R57.dec_enc]

/-- The next state of the inner loop, by the place. -/
theorem round57 (r : R57) (i : Int) (ag : Bool) (h : p57i (r, ag, i)) : (rdn tabX3 h57 noLoops 57 1 1 { tm := encGo (mbits 25 41) [r.av, .bool ag, .int .i64 i], ms := [], hp := r.hp }).run =
    bif decide (0 ≤ i) && !ag then (bif goesF r.f r.n i.toNat then some (.normal, { tm := encGo (mbits 25 41) [(delR r i.toNat).av, .bool true, .int .i64 (i - 1)], ms := [], hp := (delR r i.toNat).hp })
      else some (.normal, { tm := encGo (mbits 25 41) [r.av, .bool false, .int .i64 (i - 1)], ms := [], hp := r.hp })) else some (stR (r, ag, i)) := by
  obtain ⟨h1, h2⟩ := h
  simp only at h1 h2
  have hw : 0 ≤ i → ag = false → IntKind.i64.wrap (i + 1) = i + 1 ∧ IntKind.i64.wrap (i - 1) = i - 1 := fun q1 q2 => by
    have := h2 q2
    exact ⟨w64 (by omega) (by omega), w64 (by omega) (by omega)⟩
  have hk : ∀ (n : Nat) (f : Nat → Tok), 0 ≤ i → i < n → n ≤ 1000000 → isEn en44 p44 ([AV.row 0 3 0 n, AV.int IntKind.i64 i], [some (AObj.row 3 n (rowT f))]) = true := fun n f q1 q2 q3 => by
    have := k44 n n i.toNat f ⟨by omega, Nat.le_refl _, by simp only [bnd]; omega⟩
    rw [Int.toNat_of_nonneg q1] at this
    exact this
  cases hag : ag with
  | true =>
    rw [Bool.not_true, Bool.and_false, cond_false]
    cases r with
    | a n f => refine (iA57 n i f true).trans ?_; cases decide (i ≥ 0) <;> rfl
    | b N f0 n f => refine (iB57 N n i f0 f true).trans ?_; cases decide (i ≥ 0) <;> rfl
    | c N f0 => refine (iC57 N i f0 true).trans ?_; cases decide (i ≥ 0) <;> rfl
  | false =>
    subst hag
    by_cases h0 : 0 ≤ i
    · obtain ⟨w1, w2⟩ := hw h0 rfl
      have h3 := (h2 rfl).2
      rw [decide_eq_true h0, Bool.not_false, Bool.and_true, cond_true]
      obtain ⟨j, rfl⟩ := Int.eq_ofNat_of_zero_le h0
      simp only [Int.toNat_natCast] at *
      have w1' : IntKind.i64.wrap ((j : Int) + 1) = ((j + 1 : Nat) : Int) := w1
      cases r with
      | a n f =>
        have h3 : (j : Int) < n := h3
        have h1 : n ≤ 1000000 := h1
        refine (iA57 n j f false).trans ?_
        rw [hk n f h0 h3 h1, w1', w2]
        simp only [Int.toNat_natCast, unT_rowT]
        show _ = bif goesF f n j then _ else _
        cases hg : goesF f n j with
        | false => simp (disch := omega) only [decT, cond_true, cond_false, Bool.not_false]; rfl
        | true =>
          simp (disch := omega) only [decT, cond_true, cond_false, Bool.not_false]
          unfold delR
          show _ = some (AX.normal, ({ tm := encGo (mbits 25 41) [(if n - 1 = 0 then R57.c n f else R57.b n f (n - 1) (delG f j)).av, .bool true, .int .i64 ((j : Int) - 1)], ms := [], hp := (if n - 1 = 0 then R57.c n f else R57.b n f (n - 1) (delG f j)).hp } : St))
          by_cases hj : j = 0
          · subst hj
            by_cases hn : n - 1 = 0
            · simp (disch := omega) only [decT, cond_true, if_pos hn]; rfl
            · simp (disch := omega) only [decT, decF, cond_true, cond_false, if_neg hn, delG_zero]; rfl
          · have hn : ¬ n - 1 = 0 := by omega
            simp (disch := omega) only [decT, decF, cond_true, cond_false, if_neg hn, delG_app, show j + (n - (j + 1)) = n - 1 by omega]; rfl
      | b N f0 n f =>
        have h3 : (j : Int) < n := h3
        have h1 : n ≤ 1000000 := h1
        refine (iB57 N n j f0 f false).trans ?_
        rw [hk n f h0 h3 h1, w1', w2]
        simp only [Int.toNat_natCast, unT_rowT]
        show _ = bif goesF f n j then _ else _
        cases hg : goesF f n j with
        | false => simp (disch := omega) only [decT, cond_true, cond_false, Bool.not_false]; rfl
        | true =>
          simp (disch := omega) only [decT, cond_true, cond_false, Bool.not_false]
          unfold delR
          show _ = some (AX.normal, ({ tm := encGo (mbits 25 41) [(if n - 1 = 0 then R57.c N f0 else R57.b N f0 (n - 1) (delG f j)).av, .bool true, .int .i64 ((j : Int) - 1)], ms := [], hp := (if n - 1 = 0 then R57.c N f0 else R57.b N f0 (n - 1) (delG f j)).hp } : St))
          by_cases hj : j = 0
          · subst hj
            by_cases hn : n - 1 = 0
            · simp (disch := omega) only [decT, cond_true, if_pos hn]; rfl
            · simp (disch := omega) only [decT, decF, cond_true, cond_false, if_neg hn, delG_zero]; rfl
          · have hn : ¬ n - 1 = 0 := by omega
            simp (disch := omega) only [decT, decF, cond_true, cond_false, if_neg hn, delG_app, show j + (n - (j + 1)) = n - 1 by omega]; rfl
      | c N f0 =>
        have h3 : (j : Int) < (0 : Nat) := h3
        omega
    · rw [decide_eq_false h0, Bool.false_and, cond_false]
      cases r with
      | a n f => refine (iA57 n i f false).trans ?_; rw [decF (show ¬ i ≥ 0 from h0)]; rfl
      | b N f0 n f => refine (iB57 N n i f0 f false).trans ?_; rw [decF (show ¬ i ≥ 0 from h0)]; rfl
      | c N f0 => refine (iC57 N i f0 false).trans ?_; rw [decF (show ¬ i ≥ 0 from h0)]; rfl

theorem delR_n (r : R57) (j : Nat) : (delR r j).n = r.n - 1 := by
  unfold delR
  split
  · rename_i h; rw [h]; rfl
  · rfl

theorem l57i : LoopOk Tryd.prog tabX3.pf (fun n => hd Tryd.prog tabX3.pf tabX3.con.run (fun f => (H0 f).to) n 9) h57.to 57 1 none L57i (loopAt Tryd.prog 57 1) := by
  rw [show loopAt Tryd.prog 57 1 = .loop (lbody Tryd.prog 57 1) by kernel_rfl]
  refine loop_c (hdT_le (m := 20) 9) (m := 20) (lv := mbits 25 41) (p := p57i) (res := r57i) i57i (within_of _ (by rw [show loopsOf (lbody Tryd.prog 57 1) = [] by kernel_rfl]; simp)) (by kernel_rfl) (fun x => (x.2.2 + 1).toNat + (bif x.2.1 then 0 else 1)) ?_
  rintro ⟨r, ag, i⟩ hp
  have ht := round57 r i ag hp
  obtain ⟨h1, h2⟩ := hp
  simp only at h1 h2
  cases hag : ag with
  | true =>
    rw [hag, Bool.not_true, Bool.and_false, cond_false] at ht
    right
    exact ⟨stR (r, true, i), by simp [stR], r57i_run _ _ _, ht⟩
  | false =>
    rw [hag] at ht
    have h3 := h2 hag
    by_cases h0 : 0 ≤ i
    · rw [decide_eq_true h0, Bool.not_false, Bool.and_true, cond_true] at ht
      left
      have e : (i + 1).toNat = i.toNat + 1 := by omega
      have es : scanR r (i.toNat + 1) = bif goesF r.f r.n i.toNat then (delR r i.toNat, true, ((i.toNat : Nat) : Int) - 1) else scanR r i.toNat := rfl
      cases hg : goesF r.f r.n i.toNat with
      | true =>
        rw [hg, cond_true] at ht
        refine ⟨(delR r i.toNat, true, i - 1), ⟨by simp only [delR_n]; omega, fun q => by cases q⟩, by simp only [cond_true, cond_false]; omega, ?_, ht⟩
        refine (r57i_run _ _ _).trans (Eq.trans ?_ (r57i_run _ _ _).symm)
        show some (stR (delR r i.toNat, true, i - 1)) = some (stR (scanR r (i + 1).toNat))
        rw [e, es, hg, cond_true, Int.toNat_of_nonneg h0]
      | false =>
        rw [hg, cond_false] at ht
        refine ⟨(r, false, i - 1), ⟨h1, fun _ => by simp only; omega⟩, by simp only [cond_false]; omega, ?_, ht⟩
        refine (r57i_run _ _ _).trans (Eq.trans ?_ (r57i_run _ _ _).symm)
        show some (stR (scanR r (i - 1 + 1).toNat)) = some (stR (scanR r (i + 1).toNat))
        rw [e, es, hg, cond_false, show i - 1 + 1 = i by omega]
    · rw [decide_eq_false h0, Bool.false_and, cond_false] at ht
      right
      have hi : i = -1 := by omega
      subst hi
      exact ⟨stR (r, false, -1), by simp [stR], r57i_run _ _ _, ht⟩

theorem oA57 (n : Nat) (f : Nat → Tok) (ag : Bool) : (rdn tabX3 h57 L57i 57 1 0 { tm := encGo (mbits 9 41) [.row 0 3 0 n, .bool ag], ms := [], hp := [some (.row 3 n (rowT f))] }).run =
  bif ag then
   bif isEn en57i p57i ([AV.row 0 3 0 n, AV.bool false, AV.int IntKind.i64 (IntKind.i64.wrap ((↑n : Int) - (1 : Int)))], [some (AObj.row 3 n (rowT f))]) then
    bif (bif false then (R57.a n (unT (rowT f)), false, IntKind.i64.wrap ((↑n : Int) - (1 : Int))) else scanR (R57.a n (unT (rowT f))) (IntKind.i64.wrap ((↑n : Int) - (1 : Int)) + (1 : Int)).toNat).fst.kind.beq 2 then
     some ((AX.normal, { tm := tmOf 41 [(0, AV.nilsl), (3, AV.bool (bif false then (R57.a n (unT (rowT f)), false, IntKind.i64.wrap ((↑n : Int) - (1 : Int))) else scanR (R57.a n (unT (rowT f))) (IntKind.i64.wrap ((↑n : Int) - (1 : Int)) + (1 : Int)).toNat).snd.fst)], ms := [], hp := [some (AObj.row 3 (bif false then (R57.a n (unT (rowT f)), false, IntKind.i64.wrap ((↑n : Int) - (1 : Int))) else scanR (R57.a n (unT (rowT f))) (IntKind.i64.wrap ((↑n : Int) - (1 : Int)) + (1 : Int)).toNat).fst.oN (rowT (bif false then (R57.a n (unT (rowT f)), false, IntKind.i64.wrap ((↑n : Int) - (1 : Int))) else scanR (R57.a n (unT (rowT f))) (IntKind.i64.wrap ((↑n : Int) - (1 : Int)) + (1 : Int)).toNat).fst.oF))] }))
    else
     bif (bif false then (R57.a n (unT (rowT f)), false, IntKind.i64.wrap ((↑n : Int) - (1 : Int))) else scanR (R57.a n (unT (rowT f))) (IntKind.i64.wrap ((↑n : Int) - (1 : Int)) + (1 : Int)).toNat).fst.kind.beq 0 then
      some ((AX.normal, { tm := tmOf 41 [(0, AV.row 0 3 0 (bif false then (R57.a n (unT (rowT f)), false, IntKind.i64.wrap ((↑n : Int) - (1 : Int))) else scanR (R57.a n (unT (rowT f))) (IntKind.i64.wrap ((↑n : Int) - (1 : Int)) + (1 : Int)).toNat).fst.n), (3, AV.bool (bif false then (R57.a n (unT (rowT f)), false, IntKind.i64.wrap ((↑n : Int) - (1 : Int))) else scanR (R57.a n (unT (rowT f))) (IntKind.i64.wrap ((↑n : Int) - (1 : Int)) + (1 : Int)).toNat).snd.fst)], ms := [], hp := [some (AObj.row 3 (bif false then (R57.a n (unT (rowT f)), false, IntKind.i64.wrap ((↑n : Int) - (1 : Int))) else scanR (R57.a n (unT (rowT f))) (IntKind.i64.wrap ((↑n : Int) - (1 : Int)) + (1 : Int)).toNat).fst.n (rowT (bif false then (R57.a n (unT (rowT f)), false, IntKind.i64.wrap ((↑n : Int) - (1 : Int))) else scanR (R57.a n (unT (rowT f))) (IntKind.i64.wrap ((↑n : Int) - (1 : Int)) + (1 : Int)).toNat).fst.f))] }))
     else
      some ((AX.normal, { tm := tmOf 41 [(0, AV.row 1 3 0 (bif false then (R57.a n (unT (rowT f)), false, IntKind.i64.wrap ((↑n : Int) - (1 : Int))) else scanR (R57.a n (unT (rowT f))) (IntKind.i64.wrap ((↑n : Int) - (1 : Int)) + (1 : Int)).toNat).fst.n), (3, AV.bool (bif false then (R57.a n (unT (rowT f)), false, IntKind.i64.wrap ((↑n : Int) - (1 : Int))) else scanR (R57.a n (unT (rowT f))) (IntKind.i64.wrap ((↑n : Int) - (1 : Int)) + (1 : Int)).toNat).snd.fst)], ms := [], hp := [some (AObj.row 3 (bif false then (R57.a n (unT (rowT f)), false, IntKind.i64.wrap ((↑n : Int) - (1 : Int))) else scanR (R57.a n (unT (rowT f))) (IntKind.i64.wrap ((↑n : Int) - (1 : Int)) + (1 : Int)).toNat).fst.oN (rowT (bif false then (R57.a n (unT (rowT f)), false, IntKind.i64.wrap ((↑n : Int) - (1 : Int))) else scanR (R57.a n (unT (rowT f))) (IntKind.i64.wrap ((↑n : Int) - (1 : Int)) + (1 : Int)).toNat).fst.oF)), some (AObj.row 3 (bif false then (R57.a n (unT (rowT f)), false, IntKind.i64.wrap ((↑n : Int) - (1 : Int))) else scanR (R57.a n (unT (rowT f))) (IntKind.i64.wrap ((↑n : Int) - (1 : Int)) + (1 : Int)).toNat).fst.n (rowT (bif false then (R57.a n (unT (rowT f)), false, IntKind.i64.wrap ((↑n : Int) - (1 : Int))) else scanR (R57.a n (unT (rowT f))) (IntKind.i64.wrap ((↑n : Int) - (1 : Int)) + (1 : Int)).toNat).fst.f))] }))
   else
    none
  else
   some ((AX.exit 0, { tm := tmOf 41 [(0, AV.row 0 3 0 n), (6, AV.bool false)], ms := [], hp := [some (AObj.row 3 n (rowT f))] })) := by kernel_rfl

theorem oB57 (N n : Nat) (f0 f : Nat → Tok) (ag : Bool) : (rdn tabX3 h57 L57i 57 1 0 { tm := encGo (mbits 9 41) [.row 1 3 0 n, .bool ag], ms := [], hp := [some (.row 3 N (rowT f0)), some (.row 3 n (rowT f))] }).run =
  bif ag then
   bif isEn en57i p57i ([AV.row 1 3 0 n, AV.bool false, AV.int IntKind.i64 (IntKind.i64.wrap ((↑n : Int) - (1 : Int)))], [some (AObj.row 3 N (rowT f0)), some (AObj.row 3 n (rowT f))]) then
    bif (bif false then (R57.b N (unT (rowT f0)) n (unT (rowT f)), false, IntKind.i64.wrap ((↑n : Int) - (1 : Int))) else scanR (R57.b N (unT (rowT f0)) n (unT (rowT f))) (IntKind.i64.wrap ((↑n : Int) - (1 : Int)) + (1 : Int)).toNat).fst.kind.beq 2 then
     some ((AX.normal, { tm := tmOf 41 [(0, AV.nilsl), (3, AV.bool (bif false then (R57.b N (unT (rowT f0)) n (unT (rowT f)), false, IntKind.i64.wrap ((↑n : Int) - (1 : Int))) else scanR (R57.b N (unT (rowT f0)) n (unT (rowT f))) (IntKind.i64.wrap ((↑n : Int) - (1 : Int)) + (1 : Int)).toNat).snd.fst)], ms := [], hp := [some (AObj.row 3 (bif false then (R57.b N (unT (rowT f0)) n (unT (rowT f)), false, IntKind.i64.wrap ((↑n : Int) - (1 : Int))) else scanR (R57.b N (unT (rowT f0)) n (unT (rowT f))) (IntKind.i64.wrap ((↑n : Int) - (1 : Int)) + (1 : Int)).toNat).fst.oN (rowT (bif false then (R57.b N (unT (rowT f0)) n (unT (rowT f)), false, IntKind.i64.wrap ((↑n : Int) - (1 : Int))) else scanR (R57.b N (unT (rowT f0)) n (unT (rowT f))) (IntKind.i64.wrap ((↑n : Int) - (1 : Int)) + (1 : Int)).toNat).fst.oF))] }))
    else
     bif (bif false then (R57.b N (unT (rowT f0)) n (unT (rowT f)), false, IntKind.i64.wrap ((↑n : Int) - (1 : Int))) else scanR (R57.b N (unT (rowT f0)) n (unT (rowT f))) (IntKind.i64.wrap ((↑n : Int) - (1 : Int)) + (1 : Int)).toNat).fst.kind.beq 0 then
      some ((AX.normal, { tm := tmOf 41 [(0, AV.row 0 3 0 (bif false then (R57.b N (unT (rowT f0)) n (unT (rowT f)), false, IntKind.i64.wrap ((↑n : Int) - (1 : Int))) else scanR (R57.b N (unT (rowT f0)) n (unT (rowT f))) (IntKind.i64.wrap ((↑n : Int) - (1 : Int)) + (1 : Int)).toNat).fst.n), (3, AV.bool (bif false then (R57.b N (unT (rowT f0)) n (unT (rowT f)), false, IntKind.i64.wrap ((↑n : Int) - (1 : Int))) else scanR (R57.b N (unT (rowT f0)) n (unT (rowT f))) (IntKind.i64.wrap ((↑n : Int) - (1 : Int)) + (1 : Int)).toNat).snd.fst)], ms := [], hp := [some (AObj.row 3 (bif false then (R57.b N (unT (rowT f0)) n (unT (rowT f)), false, IntKind.i64.wrap ((↑n : Int) - (1 : Int))) else scanR (R57.b N (unT (rowT f0)) n (unT (rowT f))) (IntKind.i64.wrap ((↑n : Int) - (1 : Int)) + (1 : Int)).toNat).fst.n (rowT (bif false then (R57.b N (unT (rowT f0)) n (unT (rowT f)), false, IntKind.i64.wrap ((↑n : Int) - (1 : Int))) else scanR (R57.b N (unT (rowT f0)) n (unT (rowT f))) (IntKind.i64.wrap ((↑n : Int) - (1 : Int)) + (1 : Int)).toNat).fst.f))] }))
     else
      some ((AX.normal, { tm := tmOf 41 [(0, AV.row 1 3 0 (bif false then (R57.b N (unT (rowT f0)) n (unT (rowT f)), false, IntKind.i64.wrap ((↑n : Int) - (1 : Int))) else scanR (R57.b N (unT (rowT f0)) n (unT (rowT f))) (IntKind.i64.wrap ((↑n : Int) - (1 : Int)) + (1 : Int)).toNat).fst.n), (3, AV.bool (bif false then (R57.b N (unT (rowT f0)) n (unT (rowT f)), false, IntKind.i64.wrap ((↑n : Int) - (1 : Int))) else scanR (R57.b N (unT (rowT f0)) n (unT (rowT f))) (IntKind.i64.wrap ((↑n : Int) - (1 : Int)) + (1 : Int)).toNat).snd.fst)], ms := [], hp := [some (AObj.row 3 (bif false then (R57.b N (unT (rowT f0)) n (unT (rowT f)), false, IntKind.i64.wrap ((↑n : Int) - (1 : Int))) else scanR (R57.b N (unT (rowT f0)) n (unT (rowT f))) (IntKind.i64.wrap ((↑n : Int) - (1 : Int)) + (1 : Int)).toNat).fst.oN (rowT (bif false then (R57.b N (unT (rowT f0)) n (unT (rowT f)), false, IntKind.i64.wrap ((↑n : Int) - (1 : Int))) else scanR (R57.b N (unT (rowT f0)) n (unT (rowT f))) (IntKind.i64.wrap ((↑n : Int) - (1 : Int)) + (1 : Int)).toNat).fst.oF)), some (AObj.row 3 (bif false then (R57.b N (unT (rowT f0)) n (unT (rowT f)), false, IntKind.i64.wrap ((↑n : Int) - (1 : Int))) else scanR (R57.b N (unT (rowT f0)) n (unT (rowT f))) (IntKind.i64.wrap ((↑n : Int) - (1 : Int)) + (1 : Int)).toNat).fst.n (rowT (bif false then (R57.b N (unT (rowT f0)) n (unT (rowT f)), false, IntKind.i64.wrap ((↑n : Int) - (1 : Int))) else scanR (R57.b N (unT (rowT f0)) n (unT (rowT f))) (IntKind.i64.wrap ((↑n : Int) - (1 : Int)) + (1 : Int)).toNat).fst.f))] }))
   else
    none
  else
   some ((AX.exit 0, { tm := tmOf 41 [(0, AV.row 1 3 0 n), (6, AV.bool false)], ms := [], hp := [some (AObj.row 3 N (rowT f0)), some (AObj.row 3 n (rowT f))] })) := by kernel_rfl

theorem oC57 (N : Nat) (f0 : Nat → Tok) (ag : Bool) : (rdn tabX3 h57 L57i 57 1 0 { tm := encGo (mbits 9 41) [.nilsl, .bool ag], ms := [], hp := [some (.row 3 N (rowT f0))] }).run =
  bif ag then
   bif isEn en57i p57i ([AV.nilsl, AV.bool false, AV.int IntKind.i64 (-1 : Int)], [some (AObj.row 3 N (rowT f0))]) then
    some ((AX.normal, { tm := tmOf 41 [(0, AV.nilsl), (3, AV.bool (bif false then (R57.c N (unT (rowT f0)), false, (-1 : Int)) else scanR (R57.c N (unT (rowT f0))) 0).snd.fst)], ms := [], hp := [some (AObj.row 3 (bif false then (R57.c N (unT (rowT f0)), false, (-1 : Int)) else scanR (R57.c N (unT (rowT f0))) 0).fst.oN (rowT (bif false then (R57.c N (unT (rowT f0)), false, (-1 : Int)) else scanR (R57.c N (unT (rowT f0))) 0).fst.oF))] }))
   else
    none
  else
   some ((AX.exit 0, { tm := tmOf 41 [(0, AV.nilsl), (6, AV.bool false)], ms := [], hp := [some (AObj.row 3 N (rowT f0))] })) := by kernel_rfl

def endR (r : R57) : AX × St := (.exit 0, { tm := tmOf 41 [(0, r.av), (6, .bool false)], ms := [], hp := r.hp })

theorem roundO (r : R57) (ag : Bool) (h : r.n ≤ 1000000) : (rdn tabX3 h57 L57i 57 1 0 { tm := encGo (mbits 9 41) [r.av, .bool ag], ms := [], hp := r.hp }).run =
    bif ag then some (.normal, { tm := encGo (mbits 9 41) [(scanR r r.n).1.av, .bool (scanR r r.n).2.1], ms := [], hp := (scanR r r.n).1.hp }) else some (endR r) := by
  cases ag with
  | false =>
    cases r with
    | a n f => exact oA57 n f false
    | b N f0 n f => exact oB57 N n f0 f false
    | c N f0 => exact oC57 N f0 false
  | true =>
    rw [cond_true]
    have hw : ∀ n : Nat, n ≤ 1000000 → IntKind.i64.wrap ((n : Int) - 1) = (n : Int) - 1 := fun n hn => w64 (by omega) (by omega)
    cases r with
    | a n f =>
      have h : n ≤ 1000000 := h
      refine (oA57 n f true).trans ?_
      rw [hw n h]
      refine (cond_chk (isEn_true (enc := en57i) (p := p57i) (R57.a n f, false, (n : Int) - 1) ⟨h, fun _ => ⟨by simp only; omega, by show (n : Int) - 1 < n; omega⟩⟩)).trans ?_
      rw [show ((n : Int) - 1 + 1).toNat = n by omega]
      show _ = some (AX.normal, ({ tm := encGo (mbits 9 41) [(scanR (R57.a n f) n).1.av, .bool (scanR (R57.a n f) n).2.1], ms := [], hp := (scanR (R57.a n f) n).1.hp } : St))
      rw [unT_rowT, cond_false]
      generalize scanR (R57.a n f) n = y
      obtain ⟨r, a, i⟩ := y
      cases r <;> rfl
    | b N f0 n f =>
      have h : n ≤ 1000000 := h
      refine (oB57 N n f0 f true).trans ?_
      rw [hw n h]
      refine (cond_chk (isEn_true (enc := en57i) (p := p57i) (R57.b N f0 n f, false, (n : Int) - 1) ⟨h, fun _ => ⟨by simp only; omega, by show (n : Int) - 1 < n; omega⟩⟩)).trans ?_
      rw [show ((n : Int) - 1 + 1).toNat = n by omega]
      show _ = some (AX.normal, ({ tm := encGo (mbits 9 41) [(scanR (R57.b N f0 n f) n).1.av, .bool (scanR (R57.b N f0 n f) n).2.1], ms := [], hp := (scanR (R57.b N f0 n f) n).1.hp } : St))
      rw [unT_rowT, unT_rowT, cond_false]
      generalize scanR (R57.b N f0 n f) n = y
      obtain ⟨r, a, i⟩ := y
      cases r <;> rfl
    | c N f0 =>
      refine (oC57 N f0 true).trans ?_
      exact (cond_chk (isEn_true (enc := en57i) (p := p57i) (R57.c N f0, false, -1) ⟨h, fun _ => ⟨by simp only; omega, by show (-1 : Int) < (0 : Nat); omega⟩⟩)).trans rfl

theorem scanR_spec (r : R57) : ∀ k, ((scanR r k).2.1 = true → ∃ j, j < k ∧ goesF r.f r.n j = true ∧ (scanR r k).1 = delR r j) ∧ ((scanR r k).2.1 = false → (scanR r k).1 = r ∧ ∀ j, j < k → goesF r.f r.n j = false)
  | 0 => ⟨fun h => (by cases h), fun _ => ⟨rfl, fun j hj => (by omega)⟩⟩
  | k + 1 => by
    have ih := scanR_spec r k
    unfold scanR
    cases hg : goesF r.f r.n k with
    | true =>
      rw [cond_true]
      exact ⟨fun _ => ⟨k, (by omega), hg, rfl⟩, fun h => (by cases h)⟩
    | false =>
      rw [cond_false]
      refine ⟨fun h => ?_, fun h => ?_⟩
      · obtain ⟨j, h1, h2, h3⟩ := ih.1 h
        exact ⟨j, by omega, h2, h3⟩
      · obtain ⟨h1, h2⟩ := ih.2 h
        refine ⟨h1, fun j hj => ?_⟩
        rcases Nat.lt_or_ge j k with h' | h'
        · exact h2 j h'
        · obtain rfl : j = k := by omega
          exact hg

def trimO : Nat → R57 → R57
  | 0, r => r
  | K + 1, r => bif (scanR r r.n).2.1 then trimO K (scanR r r.n).1 else (scanR r r.n).1

def enO57 : R57 × Bool → List AV × Hp := fun x => ([x.1.av, .bool x.2], x.1.hp)

def deO57 : List AV × Hp → R57 × Bool
  | ([a, .bool ag], hp) => (R57.dec a hp, ag)
  | _ => (.c 0 (fun _ => zeroT), false)

def pO57 : R57 × Bool → Prop := fun x => x.1.n ≤ 1000000

noncomputable def rO57 : R57 × Bool → T (AX × St)
  | (.a n f, ag) => R57.cs (bif ag then trimO (n + 1) (.a n f) else .a n f) fun r => .leaf (endR r)
  | (.b N f0 n f, ag) => R57.cs (bif ag then trimO (n + 1) (.b N f0 n f) else .b N f0 n f) fun r => .leaf (endR r)
  | (.c N f0, ag) => R57.cs (bif ag then trimO 1 (.c N f0) else .c N f0) fun r => .leaf (endR r)

theorem rO57_run (r : R57) (ag : Bool) : (rO57 (r, ag)).run = some (endR (bif ag then trimO (r.n + 1) r else r)) := by
  cases r <;> simp only [rO57, R57.cs_run, T.run_leaf] <;> rfl

noncomputable def LO57 : LoopT := fun k => match Nat.beq k 200066 with
  | true => some (lccon (mbits 9 41) enO57 deO57 pO57 rO57)
  | false => L57i k

theorem iO57 : ∀ x, deO57 (enO57 x) = x := by
  rintro ⟨r, ag⟩
  show (R57.dec r.av r.hp, ag) = _
  rw [R57.dec_enc]

theorem l57i' : LoopOk Tryd.prog tabX3.pf (fun n => hd Tryd.prog tabX3.pf tabX3.con.run (fun f => (H0 f).to) n 9) h57.to 57 1 none LO57 (loopAt Tryd.prog 57 1) := by
  have h := l57i
  have e : loopAt Tryd.prog 57 1 = .loop (lbody Tryd.prog 57 1) := by kernel_rfl
  rw [e] at h ⊢
  intro l hl
  refine h l ?_
  rw [← hl]
  kernel_rfl

theorem roundO' (r : R57) (ag : Bool) (h : r.n ≤ 1000000) : (rdn tabX3 h57 LO57 57 1 0 { tm := encGo (mbits 9 41) [r.av, .bool ag], ms := [], hp := r.hp }).run =
    bif ag then some (.normal, { tm := encGo (mbits 9 41) [(scanR r r.n).1.av, .bool (scanR r r.n).2.1], ms := [], hp := (scanR r r.n).1.hp }) else some (endR r) := by
  rw [← roundO r ag h]
  cases r <;> kernel_rfl

theorem lO57 : LoopOk Tryd.prog tabX3.pf (fun n => hd Tryd.prog tabX3.pf tabX3.con.run (fun f => (H0 f).to) n 9) h57.to 57 1 none LO57 (loopAt Tryd.prog 57 0) := by
  rw [show loopAt Tryd.prog 57 0 = .loop (lbody Tryd.prog 57 0) by kernel_rfl]
  refine loop_c (hdT_le (m := 20) 9) (m := 20) (lv := mbits 9 41) (p := pO57) (res := rO57) iO57 (within_of _ (by
      rw [show loopsOf (lbody Tryd.prog 57 0) = [loopAt Tryd.prog 57 1] by kernel_rfl]
      intro d hd
      simp only [List.mem_cons, List.not_mem_nil, or_false] at hd
      subst hd
      exact l57i')) (by kernel_rfl) (fun x => 2 * x.1.n + (bif x.2 then 1 else 0)) ?_
  rintro ⟨r, ag⟩ hp
  have ht := roundO' r ag hp
  have hp : r.n ≤ 1000000 := hp
  cases ag with
  | false =>
    right
    exact ⟨endR r, by simp [endR], rO57_run _ _, ht⟩
  | true =>
    rw [cond_true] at ht
    left
    have hs := scanR_spec r r.n
    refine ⟨((scanR r r.n).1, (scanR r r.n).2.1), ?_, ?_, ?_, ht⟩
    · cases hb : (scanR r r.n).2.1 with
      | true =>
        obtain ⟨j, _, _, h3⟩ := hs.1 hb
        show (scanR r r.n).1.n ≤ 1000000
        rw [h3, delR_n]; omega
      | false =>
        show (scanR r r.n).1.n ≤ 1000000
        rw [(hs.2 hb).1]; exact hp
    · show 2 * (scanR r r.n).1.n + (bif (scanR r r.n).2.1 then 1 else 0) < 2 * r.n + 1
      cases hb : (scanR r r.n).2.1 with
      | true =>
        obtain ⟨j, h1, _, h3⟩ := hs.1 hb
        rw [h3, delR_n, cond_true]; omega
      | false =>
        rw [(hs.2 hb).1, cond_false]; omega
    · refine (rO57_run _ _).trans (Eq.trans ?_ (rO57_run _ _).symm)
      rw [cond_true]
      show _ = some (endR (bif (scanR r r.n).2.1 then trimO r.n (scanR r r.n).1 else (scanR r r.n).1))
      cases hb : (scanR r r.n).2.1 with
      | true =>
        obtain ⟨j, h1, _, h3⟩ := hs.1 hb
        rw [cond_true, cond_true, show (scanR r r.n).1.n + 1 = r.n by rw [h3, delR_n]; omega]
      | false => rfl

theorem oneZ_rowF {l : List AV} (hl : l = [AV.bool false, AV.bool true, AV.str [48]]) : rowF 3 l = rowT (fun _ => ⟨false, true, [48]⟩) := by
  subst hl
  funext i c
  match c with
  | 0 => rfl
  | 1 => rfl
  | 2 => rfl
  | c + 3 => rfl

theorem undash_rowT (g : Nat → Tok) : updf 3 (rowT g) 0 0 [.bool false] = rowT (undash g) := by
  funext i c
  show (if i = 0 then (fun c' => if 0 ≤ c' ∧ c' < 0 + 1 then [AV.bool false].getD (c' - 0) .junk else rowT g 0 c') else rowT g i) c = rowT (undash g) i c
  unfold undash
  by_cases h : i = 0
  · subst h
    match c with
    | 0 => rfl
    | 1 => rfl
    | 2 => rfl
    | c + 3 => rfl
  · simp only [if_neg h]
    match c with
    | 0 => simp only [rowT, if_neg h]
    | 1 => simp only [rowT, if_neg h]
    | 2 => simp only [rowT, if_neg h]
    | c + 3 => rfl

def t57R (n : Nat) (f : Nat → Tok) : R57 := trimO (n + 1) (.a n f)

theorem t57 (n : Nat) (f : Nat → Tok) : (evn tabX3 h57 LO57 57 [.row 0 3 0 n] [some (.row 3 n (rowT f))]).run =
  bif isEn enO57 pO57 ([AV.row 0 3 0 n, AV.bool true], [some (AObj.row 3 n (rowT f))]) then
   bif (bif true then trimO (n + 1) (R57.a n (unT (rowT f))) else R57.a n (unT (rowT f))).kind.beq 2 then
    some ((AV.row 1 3 0 1, [some (AObj.row 3 (bif true then trimO (n + 1) (R57.a n (unT (rowT f))) else R57.a n (unT (rowT f))).oN (rowT (bif true then trimO (n + 1) (R57.a n (unT (rowT f))) else R57.a n (unT (rowT f))).oF)), some (AObj.row 3 1 (rowF 3 (over (List.map (fun i => (List.map aconst1 (Value.agg #[Value.bool false, Value.bool false, Value.string { data := #[] }]).cells.toList).getD (i % 3) AV.junk) (List.range 3)) 0 [AV.bool false, AV.bool true, AV.str [(48 : UInt8)]])))]))
   else
    bif (bif true then trimO (n + 1) (R57.a n (unT (rowT f))) else R57.a n (unT (rowT f))).kind.beq 0 then
     bif (↑(bif true then trimO (n + 1) (R57.a n (unT (rowT f))) else R57.a n (unT (rowT f))).n : Int) == (0 : Int) then
      some ((AV.row 1 3 0 1, [some (AObj.row 3 (bif true then trimO (n + 1) (R57.a n (unT (rowT f))) else R57.a n (unT (rowT f))).n (rowT (bif true then trimO (n + 1) (R57.a n (unT (rowT f))) else R57.a n (unT (rowT f))).f)), some (AObj.row 3 1 (rowF 3 (over (List.map (fun i => (List.map aconst1 (Value.agg #[Value.bool false, Value.bool false, Value.string { data := #[] }]).cells.toList).getD (i % 3) AV.junk) (List.range 3)) 0 [AV.bool false, AV.bool true, AV.str [(48 : UInt8)]])))]))
     else
      bif decide ((0 : Int) ≤ (0 : Int) ∧ (0 : Int) < (↑(bif true then trimO (n + 1) (R57.a n (unT (rowT f))) else R57.a n (unT (rowT f))).n : Int)) then
       bif decide (0 < (bif true then trimO (n + 1) (R57.a n (unT (rowT f))) else R57.a n (unT (rowT f))).n) then
        some ((AV.row 0 3 0 (bif true then trimO (n + 1) (R57.a n (unT (rowT f))) else R57.a n (unT (rowT f))).n, [some (AObj.row 3 (bif true then trimO (n + 1) (R57.a n (unT (rowT f))) else R57.a n (unT (rowT f))).n (updf 3 (rowT (bif true then trimO (n + 1) (R57.a n (unT (rowT f))) else R57.a n (unT (rowT f))).f) 0 0 [AV.bool false]))]))
       else
        none
      else
       none
    else
     bif (↑(bif true then trimO (n + 1) (R57.a n (unT (rowT f))) else R57.a n (unT (rowT f))).n : Int) == (0 : Int) then
      some ((AV.row 1 3 0 1, [some (AObj.row 3 (bif true then trimO (n + 1) (R57.a n (unT (rowT f))) else R57.a n (unT (rowT f))).oN (rowT (bif true then trimO (n + 1) (R57.a n (unT (rowT f))) else R57.a n (unT (rowT f))).oF)), some (AObj.row 3 1 (rowF 3 (over (List.map (fun i => (List.map aconst1 (Value.agg #[Value.bool false, Value.bool false, Value.string { data := #[] }]).cells.toList).getD (i % 3) AV.junk) (List.range 3)) 0 [AV.bool false, AV.bool true, AV.str [(48 : UInt8)]])))]))
     else
      bif decide ((0 : Int) ≤ (0 : Int) ∧ (0 : Int) < (↑(bif true then trimO (n + 1) (R57.a n (unT (rowT f))) else R57.a n (unT (rowT f))).n : Int)) then
       bif decide (0 < (bif true then trimO (n + 1) (R57.a n (unT (rowT f))) else R57.a n (unT (rowT f))).n) then
        some ((AV.row 1 3 0 (bif true then trimO (n + 1) (R57.a n (unT (rowT f))) else R57.a n (unT (rowT f))).n, [some (AObj.row 3 (bif true then trimO (n + 1) (R57.a n (unT (rowT f))) else R57.a n (unT (rowT f))).oN (rowT (bif true then trimO (n + 1) (R57.a n (unT (rowT f))) else R57.a n (unT (rowT f))).oF)), some (AObj.row 3 (bif true then trimO (n + 1) (R57.a n (unT (rowT f))) else R57.a n (unT (rowT f))).n (updf 3 (rowT (bif true then trimO (n + 1) (R57.a n (unT (rowT f))) else R57.a n (unT (rowT f))).f) 0 0 [AV.bool false]))]))
       else
        none
      else
       none
  else
   none := by kernel_rfl

structure X57 where
  n : Nat
  f : Nat → Tok

def en57 : X57 → List AV × Hp := fun ⟨n, f⟩ => ([.row 0 3 0 n], [some (.row 3 n (rowT f))])

def de57 : List AV × Hp → X57
  | ([.row _ _ _ n], [some (.row _ _ f_g)]) => ⟨n, unT f_g⟩
  | _ => ⟨default, default⟩

def p57 : X57 → Prop := fun ⟨n, f⟩ => n ≤ 1000000

def rs57 : X57 → T (AV × Hp) := fun ⟨n, f⟩ => .br (Nat.beq (t57R n f).n 0) (.leaf (.row 1 3 0 1, [some (.row 3 (t57R n f).oN (rowT (t57R n f).oF)), some (.row 3 1 (rowT (fun _ => ⟨false, true, [48]⟩)))])) (.br (Nat.beq (t57R n f).kind 0) (.leaf (.row 0 3 0 (t57R n f).n, [some (.row 3 (t57R n f).n (rowT (undash (t57R n f).f)))])) (.leaf (.row 1 3 0 (t57R n f).n, [some (.row 3 (t57R n f).oN (rowT (t57R n f).oF)), some (.row 3 (t57R n f).n (rowT (undash (t57R n f).f)))])))

noncomputable def c57 : List AV → Hp → T (AV × Hp) := mcon en57 de57 p57 rs57

theorem in57 : ∀ x, de57 (en57 x) = x := by
  rintro ⟨n, f⟩
  simp only [en57, de57, Int.toNat_natCast, unT_rowT]

theorem k57 (n : Nat) (f : Nat → Tok) (h : n ≤ 1000000) : isEn en57 p57 ([.row 0 3 0 n], [some (.row 3 n (rowT f))]) = true := isEn_true (enc := en57) (p := p57) ⟨n, f⟩ h

theorem e57 (n : Nat) (f : Nat → Tok) (hF : FitsL [.row 0 3 0 n]) (hH : FitsH [some (.row 3 n (rowT f))]) (hp : n ≤ 1000000) : (evn tabX3 h57 LO57 57 [.row 0 3 0 n] [some (.row 3 n (rowT f))]).run = (.br (Nat.beq (t57R n f).n 0) (.leaf (.row 1 3 0 1, [some (.row 3 (t57R n f).oN (rowT (t57R n f).oF)), some (.row 3 1 (rowT (fun _ => ⟨false, true, [48]⟩)))])) (.br (Nat.beq (t57R n f).kind 0) (.leaf (.row 0 3 0 (t57R n f).n, [some (.row 3 (t57R n f).n (rowT (undash (t57R n f).f)))])) (.leaf (.row 1 3 0 (t57R n f).n, [some (.row 3 (t57R n f).oN (rowT (t57R n f).oF)), some (.row 3 (t57R n f).n (rowT (undash (t57R n f).f)))]))) : T (AV × Hp)).run := by
  refine (t57 n f).trans ?_
  refine (cond_chk (isEn_true (enc := enO57) (p := pO57) (R57.a n f, true) hp)).trans ?_
  rw [unT_rowT, cond_true]
  simp only [undash_rowT]
  show _ = (T.br (Nat.beq (trimO (n + 1) (R57.a n f)).n 0) _ _).run
  unfold t57R
  generalize trimO (n + 1) (R57.a n f) = r
  cases r with
  | a n f =>
    cases n with
    | zero =>
      show some (AV.row 1 3 0 1, [some (AObj.row 3 0 (rowT f)), some (AObj.row 3 1 (rowF 3 _))]) = _
      rw [oneZ_rowF (by rfl)]; rfl
    | succ n =>
      show (bif ((n + 1 : Nat) : Int) == 0 then _ else bif decide ((0 : Int) ≤ 0 ∧ (0 : Int) < ((n + 1 : Nat) : Int)) then bif decide (0 < n + 1) then some (AV.row 0 3 0 (n + 1), [some (AObj.row 3 (n + 1) (rowT (undash f)))]) else none else none) = _
      rw [show ((((n + 1 : Nat) : Int) == 0) = false) by simp; omega]
      simp (disch := omega) only [decT, cond_true, cond_false]
      rfl
  | b N f0 n f =>
    cases n with
    | zero =>
      show some (AV.row 1 3 0 1, [some (AObj.row 3 N (rowT f0)), some (AObj.row 3 1 (rowF 3 _))]) = _
      rw [oneZ_rowF (by rfl)]; rfl
    | succ n =>
      show (bif ((n + 1 : Nat) : Int) == 0 then _ else bif decide ((0 : Int) ≤ 0 ∧ (0 : Int) < ((n + 1 : Nat) : Int)) then bif decide (0 < n + 1) then some (AV.row 1 3 0 (n + 1), [some (AObj.row 3 N (rowT f0)), some (AObj.row 3 (n + 1) (rowT (undash f)))]) else none else none) = _
      rw [show ((((n + 1 : Nat) : Int) == 0) = false) by simp; omega]
      simp (disch := omega) only [decT, cond_true, cond_false]
      rfl
  | c N f0 =>
    show some (AV.row 1 3 0 1, [some (AObj.row 3 N (rowT f0)), some (AObj.row 3 1 (rowF 3 _))]) = _
    rw [oneZ_rowF (by rfl)]; rfl

theorem s57 : Sound1 Tryd.prog ⟨57, false, gcon c57⟩ := by
  refine sound_cm (soundTab_of all_tabX3) in57 (hn := h57) (m := 20) (k := 9) (Λ := LO57) (fun _ _ => twoLoops (by kernel_rfl) lO57 l57i') ?_
  rintro ⟨n, f⟩ hp hF hH
  exact e57 n f hF hH hp
end Go.Mvn

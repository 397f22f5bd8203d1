/- Lemmas for the claims of this seat (a verified symbolic evaluator, and contracts of functions): own work; no condition. -/
import Derived.Test.YtdkmbohpmfakkaaDoorFnI
namespace Go.Mvn

open Go Go.Proofs Go.Ab

set_option maxRecDepth 100000

set_option linter.unusedVariables false

set_option linter.unusedSimpArgs false

/-! ### tokens, Tokens, Same of the reference -/

noncomputable def c31 : List AV → T AV
  | [.str s] => .leaf (.tup [.sl 3 (toksE s).length (rowT (fnT (toksE s))), .int .i64 (errE s), .int .i64 (atE s)])
  | _ => .fail

theorem listOf_zero {f : Nat → Tok} {n : Nat} (h : n = 0) : listOf f n = [] := by subst h; rfl

theorem undash_fin {f : Nat → Tok} {n : Nat} (h : n ≠ 0) : listOf (undash f) n = finT (listOf f n) := by
  obtain ⟨m, rfl⟩ := Nat.exists_eq_succ_of_ne_zero h
  unfold listOf
  rw [List.range_succ_eq_map, List.map_cons, List.map_cons, List.map_map, List.map_map]
  show undash f 0 :: _ = ⟨false, (f 0).num, (f 0).text⟩ :: _
  congr 1

theorem splS_le (s : List UInt8) : (splS s false 0).length ≤ s.length + 1 := by
  have := spl_len (s.length - 0) s false 0
  unfold splS
  omega

theorem s31 : Sound1 Tryd.prog ⟨31, true, pcon c31⟩ := by
  refine sound_frzW (m := 20) (k := 9) (hn := h31) (Λ := L31) (hs := H0) (soundTab_of all_tabX5) (.tup [.rows 3, .any, .any]) (oneLoop (by kernel_rfl) l31) fun args r hF h => ?_
  unfold c31 at h
  split at h
  · rename_i s
    have hb : s.length ≤ bnd := hF.1
    simp only [T.run_leaf, Option.some.injEq] at h
    subst h
    have ht := t31 s
    unfold toksE errE atE okT
    cases h1 : decide ((s.length : Int) > 64) with
    | true =>
      rw [h1, cond_true] at ht
      exact ⟨_, _, _, ht, rfl, AW.tup3 (nil_aw _) (AW.rfl' _) (AW.rfl' _)⟩
    | false =>
      have h64 : s.length ≤ 64 := by
        have := of_decide_eq_false h1
        omega
      rw [h1, cond_false] at ht
      cases h2 : s == [] with
      | true =>
        rw [h2, cond_true] at ht
        exact ⟨_, _, _, ht, rfl, AW.tup3 (nil_aw _) (AW.rfl' _) (AW.rfl' _)⟩
      | false =>
        rw [h2, cond_false, zL31 s ⟨Nat.zero_le _, hb⟩, cond_true] at ht
        cases h3 : decide (fxN vb s 0 < s.length) with
        | true =>
          rw [h3, cond_true] at ht
          exact ⟨_, _, _, ht, rfl, AW.tup3 (nil_aw _) (AW.rfl' _) (AW.rfl' _)⟩
        | false =>
          have hlen := splS_le s
          rw [h3, cond_false, k58 s (by omega), cond_true, k57 _ _ (by omega), cond_true, unT_rowT] at ht
          have hl := t57R_list (splS s false 0).length (fnL (splS s false 0))
          rw [fnL_list] at hl
          have hq := toks_eq s
          simp only [Bool.not_false, Bool.and_true, cond_true, cond_false]
          generalize t57R (splS s false 0).length (fnL (splS s false 0)) = r at ht hl
          rw [← hl] at hq
          cases hn : r.n.beq 0 with
          | true =>
            rw [hn, cond_true] at ht
            have hz : r.n = 0 := Nat.eq_of_beq_eq_true hn
            rw [listOf_zero hz] at hq
            exact ⟨_, _, _, ht, rfl, AW.tup3 (row_aw hq.symm) (AW.rfl' _) (AW.rfl' _)⟩
          | false =>
            have hz : r.n ≠ 0 := fun e => by rw [e] at hn; cases hn
            rw [hn, cond_false] at ht
            rw [← undash_fin hz] at hq
            have hf : frz (.tup [.rows 3, .any, .any]) [some (.row 3 r.n (rowT (undash r.f)))] (.tup [.row 0 3 0 r.n, .int .i64 0, .int .i64 0]) = some (.tup [.sl 3 r.n (rowT (undash r.f)), .int .i64 0, .int .i64 0]) := by
              have e1 : frz (.rows 3) [some (.row 3 r.n (rowT (undash r.f)))] (.row 0 3 0 r.n) = some (.sl 3 r.n (rowT (undash r.f))) := by
                show (if 3 = 3 ∧ 3 = 3 ∧ 0 + r.n ≤ r.n then _ else none) = _
                rw [if_pos ⟨rfl, rfl, by omega⟩]
                rfl
              unfold frz frzL
              rw [e1]
              rfl
            cases hk : r.kind.beq 0 with
            | true =>
              rw [hk, cond_true] at ht
              exact ⟨_, _, _, ht, hf, AW.tup3 (row_aw hq.symm) (AW.rfl' _) (AW.rfl' _)⟩
            | false =>
              rw [hk, cond_false] at ht
              exact ⟨_, _, _, ht, hf, AW.tup3 (row_aw hq.symm) (AW.rfl' _) (AW.rfl' _)⟩
  · cases h

noncomputable def tabX6 : Tab := ⟨31, true, pcon c31⟩ :: ⟨8, true, pcon c8L⟩ :: tabX5

theorem all_tabX6 : ∀ e, e ∈ tabX6 → Sound1 Tryd.prog e := (sound_mem_tab s31 (sound_mem_tab s8L all_tabX5))

theorem ok_tabX6 : SoundTab Tryd.prog tabX6 := soundTab_of all_tabX6

theorem t9 (s : List UInt8) : (evn tabX6 h9 noLoops 9 [.str s] []).run =
  some ((AV.tup [AV.sl 3 (toksE s).length (rowT (fnT (toksE s))), AV.agg [AV.int IntKind.i64 (errE s), AV.int IntKind.i64 (atE s)]], [])) := by kernel_rfl

def c9 : List AV → T AV
  | [.str s] => .leaf (.tup [.sl 3 (toksE s).length (rowT (fnT (toksE s))), .agg [.int .i64 (errE s), .int .i64 (atE s)]])
  | _ => .fail

theorem e9 (s : List UInt8) (hF : FitsL [.str s]) : (evn tabX6 h9 noLoops 9 [.str s] []).run = (.leaf (.tup [.sl 3 (toksE s).length (rowT (fnT (toksE s))), .agg [.int .i64 (errE s), .int .i64 (atE s)]]) : T AV).run.map fun r => (r, []) := by
  refine (t9 s).trans ?_
  rfl

theorem s9 : Sound1 Tryd.prog ⟨9, true, pcon c9⟩ := by
  refine sound_pureH (m := 20) (k := 9) (hn := h9) (Λ := noLoops) (soundTab_of all_tabX6) H0 (fun i hi => anyLoops) fun args r hF h => ?_
  unfold c9 at h
  split at h
  · rename_i s
    have he := e9 s hF
    rw [he, h]; rfl
  · cases h

instance : DecidableEq Tok := fun a b => if h : a.dash = b.dash ∧ a.num = b.num ∧ a.text = b.text then isTrue (by
    obtain ⟨a1, a2, a3⟩ := a
    obtain ⟨b1, b2, b3⟩ := b
    obtain ⟨rfl, rfl, rfl⟩ := h
    rfl) else isFalse (fun e => h (by subst e; exact ⟨rfl, rfl, rfl⟩))

theorem eqT_iff (a b : Tok) : (a.dash == b.dash && (a.num == b.num && (a.text == b.text && true))) = decide (a = b) := by
  rw [Bool.eq_iff_iff]
  simp only [Bool.and_eq_true, beq_iff_eq, decide_eq_true_eq, and_true]
  refine ⟨fun ⟨h1, h2, h3⟩ => ?_, fun h => by subst h; exact ⟨rfl, rfl, rfl⟩⟩
  obtain ⟨a1, a2, a3⟩ := a
  obtain ⟨b1, b2, b3⟩ := b
  simp only at h1 h2 h3
  subst h1 h2 h3
  rfl

theorem drop_fnT {a : List Tok} {i : Nat} (h : i < a.length) : a.drop i = fnT a i :: a.drop (i + 1) := by
  unfold fnT
  rw [List.drop_eq_getElem_cons h, List.getD_eq_getElem?_getD, List.getElem?_eq_getElem h]; rfl

structure Y10 where
  a : List Tok
  b : List Tok
  i : Nat

def eL10 : Y10 → List AV × Hp := fun ⟨a, b, i⟩ => ([.sl 3 a.length (rowT (fnT a)), .sl 3 b.length (rowT (fnT b)), .int .i64 i], [])

def dL10 : List AV × Hp → Y10
  | ([.sl _ a_n a_f, .sl _ b_n b_f, .int .i64 i], []) => ⟨unL a_n a_f, unL b_n b_f, i.toNat⟩
  | _ => ⟨default, default, default⟩

def pL10 : Y10 → Prop := fun ⟨a, b, i⟩ => i ≤ a.length ∧ a.length ≤ bnd ∧ a.length = b.length

def rL10 : Y10 → T (AX × St) := fun ⟨a, b, i⟩ => .br (decide (a.drop i = b.drop i)) (.leaf (.exit 0, { tm := tmOf 26 [(0, .sl 3 a.length (rowT (fnT a))), (1, .sl 3 b.length (rowT (fnT b))), (5, .int .i64 a.length), (14, .bool false)], ms := [], hp := [] })) (.leaf (.ret, { tm := tmOf 26 [(4, .bool false)], ms := [], hp := [] }))

noncomputable def L10 : LoopT := fun k => match Nat.beq k 400033 with
  | true => some (lccon (mbits 35 26) eL10 dL10 pL10 rL10)
  | false => none

theorem iL10 : ∀ x, dL10 (eL10 x) = x := by
  rintro ⟨a, b, i⟩
  simp only [eL10, dL10, unL_fnT, Int.toNat_natCast]

theorem kL10 (a : List Tok) (b : List Tok) (i : Nat) (h : i ≤ a.length ∧ a.length ≤ bnd ∧ a.length = b.length) : isEn eL10 pL10 ([.sl 3 a.length (rowT (fnT a)), .sl 3 b.length (rowT (fnT b)), .int .i64 i], []) = true := isEn_true (enc := eL10) (p := pL10) ⟨a, b, i⟩ h

theorem zL10 (a : List Tok) (b : List Tok) (h : pL10 ⟨a, b, 0⟩) : isEn eL10 pL10 ([.sl 3 a.length (rowT (fnT a)), .sl 3 b.length (rowT (fnT b)), .int .i64 (0 : Int)], []) = true := isEn_true (enc := eL10) (p := pL10) ⟨a, b, 0⟩ h

theorem q10 (a : List Tok) (b : List Tok) (i : Nat) : (rdn tabX6 h10 L10 10 0 0 { tm := encGo (mbits 35 26) [.sl 3 a.length (rowT (fnT a)), .sl 3 b.length (rowT (fnT b)), .int .i64 i], ms := [], hp := [] }).run =
  bif decide ((↑i : Int) < (↑a.length : Int)) then
   bif decide ((0 : Int) ≤ (↑i : Int) ∧ (↑i : Int) < (↑a.length : Int)) then
    bif decide ((0 : Int) ≤ (↑i : Int) ∧ (↑i : Int) < (↑b.length : Int)) then
     bif !((fnT a (↑i : Int).toNat).dash == (fnT b (↑i : Int).toNat).dash && ((fnT a (↑i : Int).toNat).num == (fnT b (↑i : Int).toNat).num && ((fnT a (↑i : Int).toNat).text == (fnT b (↑i : Int).toNat).text && true))) then
      some ((AX.ret, { tm := tmOf 26 [(4, AV.bool false)], ms := [], hp := [] }))
     else
      some ((AX.normal, { tm := tmOf 26 [(0, AV.sl 3 a.length (rowT (fnT a))), (1, AV.sl 3 b.length (rowT (fnT b))), (5, AV.int IntKind.i64 (IntKind.i64.wrap ((↑i : Int) + (1 : Int))))], ms := [], hp := [] }))
    else
     none
   else
    none
  else
   some ((AX.exit 0, { tm := tmOf 26 [(0, AV.sl 3 a.length (rowT (fnT a))), (1, AV.sl 3 b.length (rowT (fnT b))), (5, AV.int IntKind.i64 (↑i : Int)), (14, AV.bool false)], ms := [], hp := [] })) := by kernel_rfl

theorem l10 : LoopOk Tryd.prog tabX6.pf (fun n => hd Tryd.prog tabX6.pf tabX6.con.run (fun f => (H0 f).to) n 9) h10.to 10 0 none L10 (loopAt Tryd.prog 10 0) := by
  rw [show loopAt Tryd.prog 10 0 = .loop (lbody Tryd.prog 10 0) by kernel_rfl]
  refine loop_c (hdT_le (m := 20) 9) (m := 20) (lv := mbits 35 26) (p := pL10) (res := rL10) iL10 (within_of _ (by rw [show loopsOf (lbody Tryd.prog 10 0) = [] by kernel_rfl]; simp)) (by kernel_rfl) (fun ⟨a, b, i⟩ => a.length - i) ?_
  rintro ⟨a, b, i⟩ hp
  have ht := q10 a b i
  obtain ⟨h1, h2, h3⟩ := hp
  have hb := h2
  simp only [bnd] at hb
  by_cases hl : i < a.length
  · simp (disch := omega) only [decT, cond_true, Int.toNat_natCast, w64n, eqT_iff] at ht
    have hd : decide (a.drop i = b.drop i) = (decide (fnT a i = fnT b i) && decide (a.drop (i + 1) = b.drop (i + 1))) := by
      rw [drop_fnT hl, drop_fnT (a := b) (by omega), Bool.eq_iff_iff]
      simp
    cases hq : decide (fnT a i = fnT b i) with
    | true =>
      rw [hq] at ht hd
      left
      refine ⟨⟨a, b, i + 1⟩, ⟨hl, h2, h3⟩, by simp only; omega, ?_, ht⟩
      simp only [rL10, T.run_br, hd, Bool.true_and]
    | false =>
      rw [hq] at ht hd
      right
      refine ⟨_, ?_, ?_, ht⟩
      · simp
      · simp only [rL10, T.run_br, hd, Bool.false_and]; rfl
  · have he : i = a.length := by omega
    right
    subst he
    rw [decide_eq_false (show ¬ ((a.length : Nat) : Int) < a.length by omega)] at ht
    refine ⟨_, ?_, ?_, ht⟩
    · simp
    · simp only [rL10, T.run_br, List.drop_length, List.drop_of_length_le (show b.length ≤ a.length by omega)]
      rfl

theorem t10 (a : List Tok) (b : List Tok) : (evn tabX6 h10 L10 10 [.sl 3 a.length (rowT (fnT a)), .sl 3 b.length (rowT (fnT b))] []).run =
  bif (↑a.length : Int) != (↑b.length : Int) then
   some ((AV.bool false, []))
  else
   bif isEn eL10 pL10 ([AV.sl 3 a.length (rowT (fnT a)), AV.sl 3 b.length (rowT (fnT b)), AV.int IntKind.i64 (0 : Int)], []) then
    bif decide (List.drop 0 (unL a.length (rowT (fnT a))) = List.drop 0 (unL b.length (rowT (fnT b)))) then
     some ((AV.bool true, []))
    else
     some ((AV.bool false, []))
   else
    none := by kernel_rfl

structure X10 where
  a : List Tok
  b : List Tok

def en10 : X10 → List AV := fun ⟨a, b⟩ => [.sl 3 a.length (rowT (fnT a)), .sl 3 b.length (rowT (fnT b))]

def de10 : List AV → X10
  | [.sl _ a_n a_f, .sl _ b_n b_f] => ⟨unL a_n a_f, unL b_n b_f⟩
  | _ => ⟨default, default⟩

def p10 : X10 → Prop := fun ⟨a, b⟩ => a.length ≤ bnd ∧ b.length ≤ bnd

def rs10 : X10 → T AV := fun ⟨a, b⟩ => .leaf (.bool (decide (a = b)))

noncomputable def c10 : List AV → T AV := ccon en10 de10 p10 rs10

theorem in10 : ∀ x, de10 (en10 x) = x := by
  rintro ⟨a, b⟩
  simp only [en10, de10, unL_fnT]

theorem k10 (a : List Tok) (b : List Tok) (h : a.length ≤ bnd ∧ b.length ≤ bnd) : isEn en10 p10 [.sl 3 a.length (rowT (fnT a)), .sl 3 b.length (rowT (fnT b))] = true := isEn_true (enc := en10) (p := p10) ⟨a, b⟩ h

theorem e10 (a : List Tok) (b : List Tok) (hF : FitsL [.sl 3 a.length (rowT (fnT a)), .sl 3 b.length (rowT (fnT b))]) (hp : a.length ≤ bnd ∧ b.length ≤ bnd) : (evn tabX6 h10 L10 10 [.sl 3 a.length (rowT (fnT a)), .sl 3 b.length (rowT (fnT b))] []).run = (.leaf (.bool (decide (a = b))) : T AV).run.map fun r => (r, []) := by
  refine (t10 a b).trans ?_
  obtain ⟨h1, h2⟩ := hp
  by_cases he : a.length = b.length
  · have := zL10 a b ⟨Nat.zero_le _, h1, he⟩
    rw [unL_fnT, unL_fnT, show ((a.length : Int) != (b.length : Int)) = false by rw [he]; simp]
    refine (cond_chk this).trans ?_
    simp only [List.drop_zero]
    cases decide (a = b) <;> rfl
  · rw [show ((a.length : Int) != (b.length : Int)) = true by simp; omega, show decide (a = b) = false from decide_eq_false (fun e => he (by rw [e]))]
    rfl

theorem s10 : Sound1 Tryd.prog ⟨10, true, pcon c10⟩ := by
  refine sound_c (soundTab_of all_tabX6) H0 in10 (hn := h10) (m := 20) (k := 9) (Λ := L10) (oneLoop (by kernel_rfl) l10) ?_
  rintro ⟨a, b⟩ hp hF
  exact e10 a b hF hp

noncomputable def tabX7 : Tab := ⟨9, true, pcon c9⟩ :: ⟨10, true, pcon c10⟩ :: tabX6

theorem all_tabX7 : ∀ e, e ∈ tabX7 → Sound1 Tryd.prog e := (sound_mem_tab s9 (sound_mem_tab s10 all_tabX6))

theorem ok_tabX7 : SoundTab Tryd.prog tabX7 := soundTab_of all_tabX7

theorem beq_comm' (a b : List UInt8) : (a == b) = (b == a) := by rw [Bool.eq_iff_iff, beq_iff_eq, beq_iff_eq]; exact ⟨Eq.symm, Eq.symm⟩

theorem t16 (q : List UInt8) : (evn tabX7 h16 noLoops 16 [.str q] []).run =
  bif [(97 : UInt8), (108 : UInt8), (112 : UInt8), (104 : UInt8), (97 : UInt8)] == q then
   some ((AV.int IntKind.i64 (1 : Int), []))
  else
   bif [(98 : UInt8), (101 : UInt8), (116 : UInt8), (97 : UInt8)] == q then
    some ((AV.int IntKind.i64 (2 : Int), []))
   else
    bif [(109 : UInt8), (105 : UInt8), (108 : UInt8), (101 : UInt8), (115 : UInt8), (116 : UInt8), (111 : UInt8), (110 : UInt8), (101 : UInt8)] == q then
     some ((AV.int IntKind.i64 (3 : Int), []))
    else
     bif [(114 : UInt8), (99 : UInt8)] == q then
      some ((AV.int IntKind.i64 (4 : Int), []))
     else
      bif [(115 : UInt8), (110 : UInt8), (97 : UInt8), (112 : UInt8), (115 : UInt8), (104 : UInt8), (111 : UInt8), (116 : UInt8)] == q then
       some ((AV.int IntKind.i64 (5 : Int), []))
      else
       bif [] == q then
        some ((AV.int IntKind.i64 (6 : Int), []))
       else
        bif [(115 : UInt8), (112 : UInt8)] == q then
         some ((AV.int IntKind.i64 (7 : Int), []))
        else
         some ((AV.int IntKind.i64 (8 : Int), [])) := by kernel_rfl

def c16 : List AV → T AV
  | [.str q] => .leaf (.int .i64 (rankN q))
  | _ => .fail

theorem e16 (q : List UInt8) (hF : FitsL [.str q]) : (evn tabX7 h16 noLoops 16 [.str q] []).run = (.leaf (.int .i64 (rankN q)) : T AV).run.map fun r => (r, []) := by
  refine (t16 q).trans ?_
  unfold rankN
  rw [beq_comm' _ q, beq_comm' _ q, beq_comm' _ q, beq_comm' _ q, beq_comm' _ q, beq_comm' _ q, beq_comm' _ q]
  cases (q == [97, 108, 112, 104, 97]) <;> cases (q == [98, 101, 116, 97]) <;> cases (q == [109, 105, 108, 101, 115, 116, 111, 110, 101]) <;> cases (q == [114, 99]) <;> cases (q == [115, 110, 97, 112, 115, 104, 111, 116]) <;> cases (q == []) <;> cases (q == [115, 112]) <;> rfl

theorem s16 : Sound1 Tryd.prog ⟨16, true, pcon c16⟩ := by
  refine sound_pureH (m := 20) (k := 9) (hn := h16) (Λ := noLoops) (soundTab_of all_tabX7) H0 (fun i hi => anyLoops) fun args r hF h => ?_
  unfold c16 at h
  split at h
  · rename_i q
    have he := e16 q hF
    rw [he, h]; rfl
  · cases h

/-- Is the last token that of a snapshot? -/
def snapB (s : List UInt8) : Bool := errE s == 0 && (!(fnT (toksE s) ((toksE s).length - 1)).num && (fnT (toksE s) ((toksE s).length - 1)).text == [115, 110, 97, 112, 115, 104, 111, 116])

theorem errE_okT {s : List UInt8} (h : (errE s == 0) = true) : okT s = true := by rw [okT_err]; exact h

theorem toks_len (s : List UInt8) : (toks s).length = tokL s := listOf_length _ _

theorem toksE_len {s : List UInt8} (h : okT s = true) : 0 < (toksE s).length ∧ (toksE s).length ≤ 66 := by
  unfold toksE
  rw [h, cond_true, toks_len]
  exact ⟨tokL_pos s, tokL_66 (okT_len h)⟩

theorem w64e {n : Nat} (h : 0 < n) (h2 : n < 9223372036854775807) : IntKind.i64.wrap ((n : Int) - 1) = ((n - 1 : Nat) : Int) := w64d h h2

theorem t13 (s : List UInt8) : (evn tabX7 h13 noLoops 13 [.str s] []).run =
  bif errE s == (0 : Int) then
   bif decide ((0 : Int) ≤ IntKind.i64.wrap ((↑(toksE s).length : Int) - (1 : Int)) ∧ IntKind.i64.wrap ((↑(toksE s).length : Int) - (1 : Int)) < (↑(toksE s).length : Int)) then
    bif !(fnT (toksE s) (IntKind.i64.wrap ((↑(toksE s).length : Int) - (1 : Int))).toNat).num then
     bif decide ((0 : Int) ≤ IntKind.i64.wrap ((↑(toksE s).length : Int) - (1 : Int)) ∧ IntKind.i64.wrap ((↑(toksE s).length : Int) - (1 : Int)) < (↑(toksE s).length : Int)) then
      some ((AV.bool ((fnT (toksE s) (IntKind.i64.wrap ((↑(toksE s).length : Int) - (1 : Int))).toNat).text == [(115 : UInt8), (110 : UInt8), (97 : UInt8), (112 : UInt8), (115 : UInt8), (104 : UInt8), (111 : UInt8), (116 : UInt8)]), []))
     else
      none
    else
     some ((AV.bool false, []))
   else
    none
  else
   some ((AV.bool false, [])) := by kernel_rfl

def c13 : List AV → T AV
  | [.str s] => .leaf (.bool (snapB s))
  | _ => .fail

theorem e13 (s : List UInt8) (hF : FitsL [.str s]) : (evn tabX7 h13 noLoops 13 [.str s] []).run = (.leaf (.bool (snapB s)) : T AV).run.map fun r => (r, []) := by
  refine (t13 s).trans ?_
  unfold snapB
  cases he : errE s == 0 with
  | false => rfl
  | true =>
    obtain ⟨h1, h2⟩ := toksE_len (errE_okT he)
    simp (disch := omega) only [decT, cond_true, w64e, Int.toNat_natCast]
    cases (fnT (toksE s) ((toksE s).length - 1)).num <;> rfl

theorem s13 : Sound1 Tryd.prog ⟨13, true, pcon c13⟩ := by
  refine sound_pureH (m := 20) (k := 9) (hn := h13) (Λ := noLoops) (soundTab_of all_tabX7) H0 (fun i hi => anyLoops) fun args r hF h => ?_
  unfold c13 at h
  split at h
  · rename_i s
    have he := e13 s hF
    rw [he, h]; rfl
  · cases h

theorem t14 (s : List UInt8) : (evn tabX7 h14 noLoops 14 [.str s] []).run =
  bif errE s == (0 : Int) then
   bif decide ((0 : Int) ≤ IntKind.i64.wrap ((↑(toksE s).length : Int) - (1 : Int)) ∧ IntKind.i64.wrap ((↑(toksE s).length : Int) - (1 : Int)) < (↑(toksE s).length : Int)) then
    bif decide ((0 : Int) ≤ IntKind.i64.wrap ((↑(toksE s).length : Int) - (1 : Int)) ∧ IntKind.i64.wrap ((↑(toksE s).length : Int) - (1 : Int)) < (↑(toksE s).length : Int)) then
     some ((AV.bool ((fnT (toksE s) (IntKind.i64.wrap ((↑(toksE s).length : Int) - (1 : Int))).toNat).dash == (fnT (toksE s) (IntKind.i64.wrap ((↑(toksE s).length : Int) - (1 : Int))).toNat).dash && ((fnT (toksE s) (IntKind.i64.wrap ((↑(toksE s).length : Int) - (1 : Int))).toNat).num == false && ((fnT (toksE s) (IntKind.i64.wrap ((↑(toksE s).length : Int) - (1 : Int))).toNat).text == [(115 : UInt8), (110 : UInt8), (97 : UInt8), (112 : UInt8), (115 : UInt8), (104 : UInt8), (111 : UInt8), (116 : UInt8)] && true))), []))
    else
     none
   else
    none
  else
   some ((AV.bool false, [])) := by kernel_rfl

def c14 : List AV → T AV
  | [.str s] => .leaf (.bool (snapB s))
  | _ => .fail

theorem e14 (s : List UInt8) (hF : FitsL [.str s]) : (evn tabX7 h14 noLoops 14 [.str s] []).run = (.leaf (.bool (snapB s)) : T AV).run.map fun r => (r, []) := by
  refine (t14 s).trans ?_
  unfold snapB
  cases he : errE s == 0 with
  | false => rfl
  | true =>
    obtain ⟨h1, h2⟩ := toksE_len (errE_okT he)
    simp (disch := omega) only [decT, cond_true, w64e, Int.toNat_natCast]
    cases (fnT (toksE s) ((toksE s).length - 1)).num <;> cases (fnT (toksE s) ((toksE s).length - 1)).dash <;> simp <;> rfl

theorem s14 : Sound1 Tryd.prog ⟨14, true, pcon c14⟩ := by
  refine sound_pureH (m := 20) (k := 9) (hn := h14) (Λ := noLoops) (soundTab_of all_tabX7) H0 (fun i hi => anyLoops) fun args r hF h => ?_
  unfold c14 at h
  split at h
  · rename_i s
    have he := e14 s hF
    rw [he, h]; rfl
  · cases h

noncomputable def tabX8 : Tab := ⟨16, true, pcon c16⟩ :: ⟨13, true, pcon c13⟩ :: ⟨14, true, pcon c14⟩ :: tabX7

theorem all_tabX8 : ∀ e, e ∈ tabX8 → Sound1 Tryd.prog e := (sound_mem_tab s16 (sound_mem_tab s13 (sound_mem_tab s14 all_tabX7)))

theorem ok_tabX8 : SoundTab Tryd.prog tabX8 := soundTab_of all_tabX8
end Go.Mvn
namespace Go.Mvn

open Go Go.Proofs Go.Ab

set_option maxRecDepth 100000

set_option linter.unusedVariables false

set_option linter.unusedSimpArgs false

/-! ### The reference's Canon -/

theorem q12 (t : List UInt8) (L : List Tok) (i : Nat) : (rdn tabX8 h12 noLoops 12 0 0 { tm := encGo (mbits 200 53) [.sl 3 L.length (rowT (fnT L)), .str t, .int .i64 i], ms := [], hp := [] }).run =
  bif decide ((↑i : Int) < (↑L.length : Int)) then
   bif decide ((↑i : Int) > (0 : Int)) then
    bif decide ((0 : Int) ≤ (↑i : Int) ∧ (↑i : Int) < (↑L.length : Int)) then
     bif (fnT L (↑i : Int).toNat).dash then
      bif decide (t.length + 1 ≤ 4611686018427387903) then
       bif decide ((0 : Int) ≤ (↑i : Int) ∧ (↑i : Int) < (↑L.length : Int)) then
        bif (fnT L (↑i : Int).toNat).text == [] then
         bif decide ((t ++ [(45 : UInt8)]).length + 5 ≤ 4611686018427387903) then
          bif decide ((0 : Int) ≤ (↑i : Int) ∧ (↑i : Int) < (↑L.length : Int)) then
           bif decide ((t ++ [(45 : UInt8)] ++ [(102 : UInt8), (105 : UInt8), (110 : UInt8), (97 : UInt8), (108 : UInt8)]).length + (fnT L (↑i : Int).toNat).text.length ≤ 4611686018427387903) then
            some ((AX.normal, { tm := tmOf 53 [(3, AV.sl 3 L.length (rowT (fnT L))), (6, AV.str (t ++ [(45 : UInt8)] ++ [(102 : UInt8), (105 : UInt8), (110 : UInt8), (97 : UInt8), (108 : UInt8)] ++ (fnT L (↑i : Int).toNat).text)), (7, AV.int IntKind.i64 (IntKind.i64.wrap ((↑i : Int) + (1 : Int))))], ms := [], hp := [] }))
           else
            none
          else
           none
         else
          none
        else
         bif decide ((0 : Int) ≤ (↑i : Int) ∧ (↑i : Int) < (↑L.length : Int)) then
          bif decide ((t ++ [(45 : UInt8)]).length + (fnT L (↑i : Int).toNat).text.length ≤ 4611686018427387903) then
           some ((AX.normal, { tm := tmOf 53 [(3, AV.sl 3 L.length (rowT (fnT L))), (6, AV.str (t ++ [(45 : UInt8)] ++ (fnT L (↑i : Int).toNat).text)), (7, AV.int IntKind.i64 (IntKind.i64.wrap ((↑i : Int) + (1 : Int))))], ms := [], hp := [] }))
          else
           none
         else
          none
       else
        none
      else
       none
     else
      bif decide ((↑i : Int) > (0 : Int)) then
       bif decide (t.length + 1 ≤ 4611686018427387903) then
        bif decide ((0 : Int) ≤ (↑i : Int) ∧ (↑i : Int) < (↑L.length : Int)) then
         bif (fnT L (↑i : Int).toNat).text == [] then
          bif decide ((t ++ [(46 : UInt8)]).length + 5 ≤ 4611686018427387903) then
           bif decide ((0 : Int) ≤ (↑i : Int) ∧ (↑i : Int) < (↑L.length : Int)) then
            bif decide ((t ++ [(46 : UInt8)] ++ [(102 : UInt8), (105 : UInt8), (110 : UInt8), (97 : UInt8), (108 : UInt8)]).length + (fnT L (↑i : Int).toNat).text.length ≤ 4611686018427387903) then
             some ((AX.normal, { tm := tmOf 53 [(3, AV.sl 3 L.length (rowT (fnT L))), (6, AV.str (t ++ [(46 : UInt8)] ++ [(102 : UInt8), (105 : UInt8), (110 : UInt8), (97 : UInt8), (108 : UInt8)] ++ (fnT L (↑i : Int).toNat).text)), (7, AV.int IntKind.i64 (IntKind.i64.wrap ((↑i : Int) + (1 : Int))))], ms := [], hp := [] }))
            else
             none
           else
            none
          else
           none
         else
          bif decide ((0 : Int) ≤ (↑i : Int) ∧ (↑i : Int) < (↑L.length : Int)) then
           bif decide ((t ++ [(46 : UInt8)]).length + (fnT L (↑i : Int).toNat).text.length ≤ 4611686018427387903) then
            some ((AX.normal, { tm := tmOf 53 [(3, AV.sl 3 L.length (rowT (fnT L))), (6, AV.str (t ++ [(46 : UInt8)] ++ (fnT L (↑i : Int).toNat).text)), (7, AV.int IntKind.i64 (IntKind.i64.wrap ((↑i : Int) + (1 : Int))))], ms := [], hp := [] }))
           else
            none
          else
           none
        else
         none
       else
        none
      else
       bif decide ((0 : Int) ≤ (↑i : Int) ∧ (↑i : Int) < (↑L.length : Int)) then
        bif (fnT L (↑i : Int).toNat).text == [] then
         bif decide (t.length + 5 ≤ 4611686018427387903) then
          bif decide ((0 : Int) ≤ (↑i : Int) ∧ (↑i : Int) < (↑L.length : Int)) then
           bif decide ((t ++ [(102 : UInt8), (105 : UInt8), (110 : UInt8), (97 : UInt8), (108 : UInt8)]).length + (fnT L (↑i : Int).toNat).text.length ≤ 4611686018427387903) then
            some ((AX.normal, { tm := tmOf 53 [(3, AV.sl 3 L.length (rowT (fnT L))), (6, AV.str (t ++ [(102 : UInt8), (105 : UInt8), (110 : UInt8), (97 : UInt8), (108 : UInt8)] ++ (fnT L (↑i : Int).toNat).text)), (7, AV.int IntKind.i64 (IntKind.i64.wrap ((↑i : Int) + (1 : Int))))], ms := [], hp := [] }))
           else
            none
          else
           none
         else
          none
        else
         bif decide ((0 : Int) ≤ (↑i : Int) ∧ (↑i : Int) < (↑L.length : Int)) then
          bif decide (t.length + (fnT L (↑i : Int).toNat).text.length ≤ 4611686018427387903) then
           some ((AX.normal, { tm := tmOf 53 [(3, AV.sl 3 L.length (rowT (fnT L))), (6, AV.str (t ++ (fnT L (↑i : Int).toNat).text)), (7, AV.int IntKind.i64 (IntKind.i64.wrap ((↑i : Int) + (1 : Int))))], ms := [], hp := [] }))
          else
           none
         else
          none
       else
        none
    else
     none
   else
    bif decide ((↑i : Int) > (0 : Int)) then
     bif decide (t.length + 1 ≤ 4611686018427387903) then
      bif decide ((0 : Int) ≤ (↑i : Int) ∧ (↑i : Int) < (↑L.length : Int)) then
       bif (fnT L (↑i : Int).toNat).text == [] then
        bif decide ((t ++ [(46 : UInt8)]).length + 5 ≤ 4611686018427387903) then
         bif decide ((0 : Int) ≤ (↑i : Int) ∧ (↑i : Int) < (↑L.length : Int)) then
          bif decide ((t ++ [(46 : UInt8)] ++ [(102 : UInt8), (105 : UInt8), (110 : UInt8), (97 : UInt8), (108 : UInt8)]).length + (fnT L (↑i : Int).toNat).text.length ≤ 4611686018427387903) then
           some ((AX.normal, { tm := tmOf 53 [(3, AV.sl 3 L.length (rowT (fnT L))), (6, AV.str (t ++ [(46 : UInt8)] ++ [(102 : UInt8), (105 : UInt8), (110 : UInt8), (97 : UInt8), (108 : UInt8)] ++ (fnT L (↑i : Int).toNat).text)), (7, AV.int IntKind.i64 (IntKind.i64.wrap ((↑i : Int) + (1 : Int))))], ms := [], hp := [] }))
          else
           none
         else
          none
        else
         none
       else
        bif decide ((0 : Int) ≤ (↑i : Int) ∧ (↑i : Int) < (↑L.length : Int)) then
         bif decide ((t ++ [(46 : UInt8)]).length + (fnT L (↑i : Int).toNat).text.length ≤ 4611686018427387903) then
          some ((AX.normal, { tm := tmOf 53 [(3, AV.sl 3 L.length (rowT (fnT L))), (6, AV.str (t ++ [(46 : UInt8)] ++ (fnT L (↑i : Int).toNat).text)), (7, AV.int IntKind.i64 (IntKind.i64.wrap ((↑i : Int) + (1 : Int))))], ms := [], hp := [] }))
         else
          none
        else
         none
      else
       none
     else
      none
    else
     bif decide ((0 : Int) ≤ (↑i : Int) ∧ (↑i : Int) < (↑L.length : Int)) then
      bif (fnT L (↑i : Int).toNat).text == [] then
       bif decide (t.length + 5 ≤ 4611686018427387903) then
        bif decide ((0 : Int) ≤ (↑i : Int) ∧ (↑i : Int) < (↑L.length : Int)) then
         bif decide ((t ++ [(102 : UInt8), (105 : UInt8), (110 : UInt8), (97 : UInt8), (108 : UInt8)]).length + (fnT L (↑i : Int).toNat).text.length ≤ 4611686018427387903) then
          some ((AX.normal, { tm := tmOf 53 [(3, AV.sl 3 L.length (rowT (fnT L))), (6, AV.str (t ++ [(102 : UInt8), (105 : UInt8), (110 : UInt8), (97 : UInt8), (108 : UInt8)] ++ (fnT L (↑i : Int).toNat).text)), (7, AV.int IntKind.i64 (IntKind.i64.wrap ((↑i : Int) + (1 : Int))))], ms := [], hp := [] }))
         else
          none
        else
         none
       else
        none
      else
       bif decide ((0 : Int) ≤ (↑i : Int) ∧ (↑i : Int) < (↑L.length : Int)) then
        bif decide (t.length + (fnT L (↑i : Int).toNat).text.length ≤ 4611686018427387903) then
         some ((AX.normal, { tm := tmOf 53 [(3, AV.sl 3 L.length (rowT (fnT L))), (6, AV.str (t ++ (fnT L (↑i : Int).toNat).text)), (7, AV.int IntKind.i64 (IntKind.i64.wrap ((↑i : Int) + (1 : Int))))], ms := [], hp := [] }))
        else
         none
       else
        none
     else
      none
  else
   some ((AX.exit 0, { tm := tmOf 53 [(3, AV.sl 3 L.length (rowT (fnT L))), (6, AV.str t), (7, AV.int IntKind.i64 (↑i : Int)), (19, AV.bool false)], ms := [], hp := [] })) := by kernel_rfl

structure Y12 where
  L : List Tok
  i : Nat

def eL12 : Y12 → List AV × Hp := fun ⟨L, i⟩ => ([.sl 3 L.length (rowT (fnT L)), .str (canL (fnT L) i), .int .i64 i], [])

def dL12 : List AV × Hp → Y12
  | ([.sl _ L_n L_f, .str _, .int .i64 i], []) => ⟨unL L_n L_f, i.toNat⟩
  | _ => ⟨default, default⟩

def pL12 : Y12 → Prop := fun ⟨L, i⟩ => i ≤ L.length ∧ L.length ≤ 1000000 ∧ (canL (fnT L) L.length).length ≤ 1000000

def rL12 : Y12 → T (AX × St) := fun ⟨L, i⟩ => .leaf (.exit 0, { tm := tmOf 53 [(3, .sl 3 L.length (rowT (fnT L))), (6, .str (canL (fnT L) L.length)), (7, .int .i64 L.length), (19, .bool false)], ms := [], hp := [] })

noncomputable def L12 : LoopT := fun k => match Nat.beq k 600067 with
  | true => some (lccon (mbits 200 53) eL12 dL12 pL12 rL12)
  | false => none

theorem iL12 : ∀ x, dL12 (eL12 x) = x := by
  rintro ⟨L, i⟩
  simp only [eL12, dL12, unL_fnT, Int.toNat_natCast]

theorem kL12 (L : List Tok) (i : Nat) (h : i ≤ L.length ∧ L.length ≤ 1000000 ∧ (canL (fnT L) L.length).length ≤ 1000000) : isEn eL12 pL12 ([.sl 3 L.length (rowT (fnT L)), .str (canL (fnT L) i), .int .i64 i], []) = true := isEn_true (enc := eL12) (p := pL12) ⟨L, i⟩ h

theorem l12 : LoopOk Tryd.prog tabX8.pf (fun n => hd Tryd.prog tabX8.pf tabX8.con.run (fun f => (H0 f).to) n 9) h12.to 12 0 none L12 (loopAt Tryd.prog 12 0) := by
  rw [show loopAt Tryd.prog 12 0 = .loop (lbody Tryd.prog 12 0) by kernel_rfl]
  refine loop_c (hdT_le (m := 20) 9) (m := 20) (lv := mbits 200 53) (p := pL12) (res := rL12) iL12 (within_of _ (by rw [show loopsOf (lbody Tryd.prog 12 0) = [] by kernel_rfl]; simp)) (by kernel_rfl) (fun ⟨L, i⟩ => L.length - i) ?_
  rintro ⟨L, i⟩ hp
  skip
  obtain ⟨h1, h2, h3⟩ := hp
  have hrd : ∀ t, (rdn tabX8 h12 L12 12 0 0 { tm := encGo (mbits 200 53) [.sl 3 L.length (rowT (fnT L)), .str t, .int .i64 i], ms := [], hp := [] }).run = (rdn tabX8 h12 noLoops 12 0 0 { tm := encGo (mbits 200 53) [.sl 3 L.length (rowT (fnT L)), .str t, .int .i64 i], ms := [], hp := [] }).run := fun t => by kernel_rfl
  by_cases hl : i < L.length
  · left
    refine ⟨⟨L, i + 1⟩, ⟨hl, h2, h3⟩, by simp only; omega, rfl, ?_⟩
    refine (hrd _).trans ?_
    have hle := canL_le (fnT L) (i := i + 1) hl
    have hs : canL (fnT L) (i + 1) = canL (fnT L) i ++ pieceT i (fnT L i) := rfl
    rw [hs, List.length_append] at hle
    refine (q12 (canL (fnT L) i) L i).trans ?_
    show _ = some (AX.normal, ({ tm := encGo (mbits 200 53) [.sl 3 L.length (rowT (fnT L)), .str (canL (fnT L) i ++ pieceT i (fnT L i)), .int .i64 ((i + 1 : Nat) : Int)], ms := [], hp := [] } : St))
    revert hle
    generalize canL (fnT L) i = t
    unfold pieceT
    intro hle
    simp (disch := omega) only [decT, decF, cond_true, cond_false, Int.toNat_natCast, w64n]
    by_cases hi : i = 0
    · rw [if_pos hi, List.nil_append] at hle ⊢
      cases hq : (fnT L i).text == [] with
      | true =>
        rw [hq, cond_true] at hle
        have he : (fnT L i).text = [] := by simpa using hq
        simp only [List.length_cons, List.length_nil] at hle
        simp (disch := omega) only [he, decT, decF, cond_true, cond_false, List.length_append, List.length_cons, List.length_nil, List.append_nil]
        rfl
      | false =>
        rw [hq, cond_false] at hle
        simp (disch := omega) only [decT, decF, cond_true, cond_false, List.length_append, List.length_cons, List.length_nil, List.append_nil]
        rfl
    · rw [if_neg hi] at hle ⊢
      cases hd : (fnT L i).dash <;> cases hq : (fnT L i).text == [] <;> rw [hd, hq] at hle <;> simp only [cond_true, cond_false, List.length_append, List.length_cons, List.length_nil] at hle
      · simp (disch := omega) only [decT, decF, cond_true, cond_false, List.length_append, List.length_cons, List.length_nil, List.append_assoc]
        rfl
      · have he : (fnT L i).text = [] := by simpa using hq
        simp (disch := omega) only [he, decT, decF, cond_true, cond_false, List.length_append, List.length_cons, List.length_nil, List.append_assoc, List.append_nil]
        rfl
      · simp (disch := omega) only [decT, decF, cond_true, cond_false, List.length_append, List.length_cons, List.length_nil, List.append_assoc]
        rfl
      · have he : (fnT L i).text = [] := by simpa using hq
        simp (disch := omega) only [he, decT, decF, cond_true, cond_false, List.length_append, List.length_cons, List.length_nil, List.append_assoc, List.append_nil]
        rfl
  · have he : i = L.length := by omega
    subst he
    right
    refine ⟨_, ?_, rfl, (hrd _).trans ((q12 _ _ _).trans ?_)⟩
    · simp
    · simp (disch := omega) only [decF, cond_false]

theorem canL_congr {f g : Nat → Tok} : ∀ {n : Nat}, (∀ i, i < n → f i = g i) → canL f n = canL g n
  | 0, h => rfl
  | n + 1, h => by
    show canL f n ++ pieceT n (f n) = canL g n ++ pieceT n (g n)
    rw [canL_congr (n := n) (fun i hi => h i (by omega)), h n (by omega)]

theorem fnT_toks {s : List UInt8} {i : Nat} (h : i < tokL s) : fnT (toks s) i = tokF s i := by
  unfold fnT toks
  rw [List.getD_eq_getElem?_getD, listOf_get h]; rfl

theorem canS_toks {s : List UInt8} (h : okT s = true) : canS s = canL (fnT (toks s)) (toks s).length := by
  unfold canS
  rw [h, cond_true, toks_len]
  exact canL_congr fun i hi => (fnT_toks hi).symm

theorem t12 (s : List UInt8) : (evn tabX8 h12 L12 12 [.str s] []).run =
  bif errE s != (0 : Int) then
   some ((AV.str [], []))
  else
   bif isEn eL12 pL12 ([AV.sl 3 (toksE s).length (rowT (fnT (toksE s))), AV.str [], AV.int IntKind.i64 (0 : Int)], []) then
    some ((AV.str (canL (fnT (unL (toksE s).length (rowT (fnT (toksE s))))) (unL (toksE s).length (rowT (fnT (toksE s)))).length), []))
   else
    none := by kernel_rfl

def c12 : List AV → T AV
  | [.str s] => .leaf (.str (canS s))
  | _ => .fail

theorem e12 (s : List UInt8) (hF : FitsL [.str s]) : (evn tabX8 h12 L12 12 [.str s] []).run = (.leaf (.str (canS s)) : T AV).run.map fun r => (r, []) := by
  refine (t12 s).trans ?_
  cases he : errE s == 0 with
  | false =>
    have ho : okT s = false := by rw [okT_err]; exact he
    unfold canS
    rw [show (errE s != 0) = true by rw [bne, he]; rfl, ho]
    rfl
  | true =>
    have ho := errE_okT he
    have hE : toksE s = toks s := by unfold toksE; rw [ho]; rfl
    have hlen := toksE_len ho
    have hc := canL_tok (okT_len ho)
    have hcs := canS_toks ho
    have hcs2 : canS s = canL (tokF s) (tokL s) := by unfold canS; rw [ho]; rfl
    rw [hE] at hlen
    rw [← hcs2, hcs] at hc
    rw [show (errE s != 0) = false by rw [bne, he]; rfl, hE, cond_false]
    have := kL12 (toks s) 0 ⟨Nat.zero_le _, by omega, by omega⟩
    refine (cond_chk this).trans ?_
    rw [unL_fnT, hcs]
    rfl

theorem s12 : Sound1 Tryd.prog ⟨12, true, pcon c12⟩ := by
  refine sound_pureH (m := 20) (k := 9) (hn := h12) (Λ := L12) (soundTab_of all_tabX8) H0 (oneLoop (by kernel_rfl) l12) fun args r hF h => ?_
  unfold c12 at h
  split at h
  · rename_i s
    have he := e12 s hF
    rw [he, h]; rfl
  · cases h

noncomputable def tabX9 : Tab := ⟨12, true, pcon c12⟩ :: tabX8

theorem all_tabX9 : ∀ e, e ∈ tabX9 → Sound1 Tryd.prog e := (sound_mem_tab s12 all_tabX8)

theorem ok_tabX9 : SoundTab Tryd.prog tabX9 := soundTab_of all_tabX9

theorem t3 (s : List UInt8) : (evn tabX9 h3 noLoops 3 [.str s] []).run =
  bif isEn en10 p10 [AV.sl 3 (toksE s).length (rowT (fnT (toksE s))), AV.sl 3 (toksE s).length (rowT (fnT (toksE s)))] then
   bif decide (unL (toksE s).length (rowT (fnT (toksE s))) = unL (toksE s).length (rowT (fnT (toksE s)))) then
    bif errE s == errE s && (atE s == atE s && true) then
     bif canS s == canS s then
      bif snapB s == snapB s then
       bif rankN s == rankN s then
        some ((AV.bool true, []))
       else
        some ((AV.bool false, []))
      else
       some ((AV.bool false, []))
     else
      some ((AV.bool false, []))
    else
     some ((AV.bool false, []))
   else
    some ((AV.bool false, []))
  else
   none := by kernel_rfl

theorem treeReads (s : List UInt8) : (evn tabX9 h3 noLoops 3 [.str s] []).run = some (.bool true, []) := by
  refine (t3 s).trans ?_
  have hb : (toksE s).length ≤ bnd := by
    unfold toksE
    cases ho : okT s with
    | true => rw [cond_true, toks_len]; have := tokL_66 (okT_len ho); simp only [bnd]; omega
    | false => simp
  rw [k10 _ _ ⟨hb, hb⟩, cond_true, decide_eq_true rfl]
  simp
end Go.Mvn

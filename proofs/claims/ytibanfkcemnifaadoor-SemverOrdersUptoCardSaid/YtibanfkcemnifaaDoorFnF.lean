/- Lemmas for the claims of this seat (a verified symbolic evaluator, and contracts of functions): own work; no condition. -/
import Derived.Test.YtibanfkcemnifaaDoorFnD
import Derived.Test.YtibanfkcemnifaaDoorFnE
import Derived.Test.YtibanfkcemnifaaDoorEvE
namespace Go.Sem

open Go Go.Proofs Go.Ab

set_option maxRecDepth 100000

set_option linter.unusedVariables false

set_option linter.unusedSimpArgs false

abbrev all_tabW := allW

/-! ### ref02.Texts, Same -/

theorem drop_ne {α : Type} [BEq α] [LawfulBEq α] {a b : List α} {i : Nat} (h1 : i < a.length) (h2 : i < b.length) (d : α) : (a.drop i == b.drop i) = (a.getD i d == b.getD i d && (a.drop (i + 1) == b.drop (i + 1))) := by
  rw [drop_getD d h1, drop_getD d h2, List.cons_beq_cons]

structure Y22 where
  a : List (List UInt8)
  b : List (List UInt8)
  i : Nat

def eL22 : Y22 → List AV × Hp := fun ⟨a, b, i⟩ => ([.sl 1 a.length (strF a), .sl 1 b.length (strF b), .int .i64 i], [])

def dL22 : List AV × Hp → Y22
  | ([.sl 1 a_n a_f, .sl 1 b_n b_f, .int .i64 i], []) => ⟨strsOf a_f a_n, strsOf b_f b_n, i.toNat⟩
  | _ => ⟨default, default, default⟩

def pL22 : Y22 → Prop := fun ⟨a, b, i⟩ => i ≤ a.length ∧ a.length = b.length ∧ a.length ≤ bnd

def rL22 : Y22 → T (AX × St) := fun ⟨a, b, i⟩ => .br (a.drop i == b.drop i) (.leaf (.exit 0, { tm := tmOf 26 [(0, .sl 1 a.length (strF a)), (1, .sl 1 b.length (strF b)), (5, .int .i64 a.length), (14, .bool false)], ms := [], hp := [] })) (.leaf (.ret, { tm := tmOf 26 [(4, .bool false)], ms := [], hp := [] }))

noncomputable def L22 : LoopT := fun k => match Nat.beq k 400033 with
  | true => some (lccon (mbits 35 26) eL22 dL22 pL22 rL22)
  | false => none

theorem iL22 : ∀ x, dL22 (eL22 x) = x := by
  rintro ⟨a, b, i⟩
  simp only [eL22, dL22, strsOf_strF, Int.toNat_natCast]

theorem kL22 (a : List (List UInt8)) (b : List (List UInt8)) (i : Nat) (h : i ≤ a.length ∧ a.length = b.length ∧ a.length ≤ bnd) : isEn eL22 pL22 ([.sl 1 a.length (strF a), .sl 1 b.length (strF b), .int .i64 i], []) = true := isEn_true (enc := eL22) (p := pL22) ⟨a, b, i⟩ h

theorem q22 (a : List (List UInt8)) (b : List (List UInt8)) (i : Nat) : (rdn tabW h22 L22 22 0 0 { tm := encGo (mbits 35 26) [.sl 1 a.length (strF a), .sl 1 b.length (strF b), .int .i64 i], ms := [], hp := [] }).run =
  bif decide ((↑i : Int) < (↑a.length : Int)) then
   bif decide ((0 : Int) ≤ (↑i : Int) ∧ (↑i : Int) < (↑a.length : Int)) then
    bif decide ((0 : Int) ≤ (↑i : Int) ∧ (↑i : Int) < (↑b.length : Int)) then
     bif !a.getD (↑i : Int).toNat [] == b.getD (↑i : Int).toNat [] then
      some ((AX.ret, { tm := tmOf 26 [(4, AV.bool false)], ms := [], hp := [] }))
     else
      some ((AX.normal, { tm := tmOf 26 [(0, AV.sl 1 a.length (strF a)), (1, AV.sl 1 b.length (strF b)), (5, AV.int IntKind.i64 (IntKind.i64.wrap ((↑i : Int) + (1 : Int))))], ms := [], hp := [] }))
    else
     none
   else
    none
  else
   some ((AX.exit 0, { tm := tmOf 26 [(0, AV.sl 1 a.length (strF a)), (1, AV.sl 1 b.length (strF b)), (5, AV.int IntKind.i64 (↑i : Int)), (14, AV.bool false)], ms := [], hp := [] })) := by kernel_rfl

theorem l22 : LoopOk Tryd.prog tabW.pf (fun n => hd Tryd.prog tabW.pf tabW.con.run (fun f => (H0 f).to) n 9) h22.to 22 0 none L22 (loopAt Tryd.prog 22 0) := by
  rw [show loopAt Tryd.prog 22 0 = .loop (lbody Tryd.prog 22 0) by kernel_rfl]
  refine loop_c (hdT_le (m := 20) 9) (m := 20) (lv := mbits 35 26) (p := pL22) (res := rL22) iL22 (within_of _ (by rw [show loopsOf (lbody Tryd.prog 22 0) = [] by kernel_rfl]; simp)) (by kernel_rfl) (fun ⟨a, b, i⟩ => a.length - i) ?_
  rintro ⟨a, b, i⟩ hp
  have ht := q22 a b i
  obtain ⟨h1, h2, h3⟩ := hp
  simp only [bnd] at h3
  by_cases hl : i < a.length
  · have hd := drop_ne hl (h2 ▸ hl) ([] : List UInt8)
    rw [decide_eq_true (show (i : Int) < a.length by omega), byte_at hl, byte_at (h2 ▸ hl), Int.toNat_natCast, w64n (by omega)] at ht
    dsimp only [cond_true] at ht
    cases hq : (a.getD i [] == b.getD i [])
    · rw [hq] at ht
      right
      refine ⟨_, ?_, ?_, ht⟩
      · simp
      · simp only [rL22, T.run_br, hd, hq]; rfl
    · rw [hq] at ht
      left
      refine ⟨⟨a, b, i + 1⟩, ⟨by omega, h2, by simpa only [bnd] using h3⟩, by simp only; omega, ?_, ht⟩
      simp only [rL22, T.run_br, hd, hq, Bool.true_and]
  · right
    obtain rfl : i = a.length := by omega
    rw [decide_eq_false (by omega)] at ht
    refine ⟨_, ?_, ?_, ht⟩
    · simp
    · simp only [rL22, T.run_br]
      rw [List.drop_length, h2, List.drop_length]; rfl

theorem t22 (a : List (List UInt8)) (b : List (List UInt8)) : (evn tabW h22 L22 22 [.sl 1 a.length (strF a), .sl 1 b.length (strF b)] []).run =
  bif (↑a.length : Int) != (↑b.length : Int) then
   some ((AV.bool false, []))
  else
   bif isEn eL22 pL22 ([AV.sl 1 a.length (strF a), AV.sl 1 b.length (strF b), AV.int IntKind.i64 (0 : Int)], []) then
    bif List.drop 0 (strsOf (strF a) a.length) == List.drop 0 (strsOf (strF b) b.length) then
     some ((AV.bool true, []))
    else
     some ((AV.bool false, []))
   else
    none := by kernel_rfl

structure X22 where
  a : List (List UInt8)
  b : List (List UInt8)

def en22 : X22 → List AV := fun ⟨a, b⟩ => [.sl 1 a.length (strF a), .sl 1 b.length (strF b)]

def de22 : List AV → X22
  | [.sl 1 a_n a_f, .sl 1 b_n b_f] => ⟨strsOf a_f a_n, strsOf b_f b_n⟩
  | _ => ⟨default, default⟩

def p22 : X22 → Prop := fun ⟨a, b⟩ => True

def rs22 : X22 → T AV := fun ⟨a, b⟩ => .leaf (.bool (a == b))

noncomputable def c22 : List AV → T AV := ccon en22 de22 p22 rs22

theorem in22 : ∀ x, de22 (en22 x) = x := by
  rintro ⟨a, b⟩
  simp only [en22, de22, strsOf_strF]

theorem k22 (a : List (List UInt8)) (b : List (List UInt8)) (h : True) : isEn en22 p22 [.sl 1 a.length (strF a), .sl 1 b.length (strF b)] = true := isEn_true (enc := en22) (p := p22) ⟨a, b⟩ h

theorem e22 (a : List (List UInt8)) (b : List (List UInt8)) (hF : FitsL [.sl 1 a.length (strF a), .sl 1 b.length (strF b)]) : (evn tabW h22 L22 22 [.sl 1 a.length (strF a), .sl 1 b.length (strF b)] []).run = (.leaf (.bool (a == b)) : T AV).run.map fun r => (r, []) := by
  refine (t22 a b).trans ?_
  have h0 := hF.1.1
  by_cases hl : a.length = b.length
  · rw [cond_no (by simp [hl])]
    refine (cond_chk (kL22 a b 0 ⟨Nat.zero_le _, hl, h0⟩)).trans ?_
    simp only [strsOf_strF, List.drop_zero]
    cases (a == b) <;> rfl
  · rw [cond_chk (show ((a.length : Int) != b.length) = true by simp; omega)]
    have : (a == b) = false := by
      rw [beq_eq_false_iff_ne]; rintro rfl; exact hl rfl
    rw [this]; rfl

theorem s22 : Sound1 Tryd.prog ⟨22, true, pcon c22⟩ := by
  refine sound_c (soundTab_of all_tabW) H0 in22 (hn := h22) (m := 20) (k := 9) (Λ := L22) (oneLoop (by kernel_rfl) l22) ?_
  rintro ⟨a, b⟩ hp hF
  exact e22 a b hF

noncomputable def tabX : Tab := ⟨22, true, pcon c22⟩ :: tabW

theorem all_tabX : ∀ e, e ∈ tabX → Sound1 Tryd.prog e := (sound_mem_tab s22 all_tabW)

theorem ok_tabX : SoundTab Tryd.prog tabX := soundTab_of all_tabX

def verEq (v w : Ver) : Bool := v.mj == w.mj && v.mn == w.mn && v.pt == w.pt && v.pre == w.pre && v.bu == w.bu

theorem verEq_iff {v w : Ver} : verEq v w = true ↔ v = w := by
  obtain ⟨a, b, c, l, r⟩ := v
  obtain ⟨a2, b2, c2, l2, r2⟩ := w
  simp [verEq, and_assoc]

instance : Inhabited Ver := ⟨⟨[], [], [], [], []⟩⟩

theorem t13 (v : Ver) (w : Ver) : (evn tabX h13 noLoops 13 [.agg [.str v.mj, .str v.mn, .str v.pt, .sl 1 v.pre.length (strF v.pre), .sl 1 v.bu.length (strF v.bu)], .agg [.str w.mj, .str w.mn, .str w.pt, .sl 1 w.pre.length (strF w.pre), .sl 1 w.bu.length (strF w.bu)]] []).run =
  bif v.mj == w.mj then
   bif v.mn == w.mn then
    bif v.pt == w.pt then
     bif isEn en22 p22 [AV.sl 1 v.pre.length (strF v.pre), AV.sl 1 w.pre.length (strF w.pre)] then
      bif strsOf (strF v.pre) v.pre.length == strsOf (strF w.pre) w.pre.length then
       bif isEn en22 p22 [AV.sl 1 v.bu.length (strF v.bu), AV.sl 1 w.bu.length (strF w.bu)] then
        some ((AV.bool (strsOf (strF v.bu) v.bu.length == strsOf (strF w.bu) w.bu.length), []))
       else
        none
      else
       some ((AV.bool false, []))
     else
      none
    else
     some ((AV.bool false, []))
   else
    some ((AV.bool false, []))
  else
   some ((AV.bool false, [])) := by kernel_rfl

structure X13 where
  v : Ver
  w : Ver

def en13 : X13 → List AV := fun ⟨v, w⟩ => [.agg [.str v.mj, .str v.mn, .str v.pt, .sl 1 v.pre.length (strF v.pre), .sl 1 v.bu.length (strF v.bu)], .agg [.str w.mj, .str w.mn, .str w.pt, .sl 1 w.pre.length (strF w.pre), .sl 1 w.bu.length (strF w.bu)]]

def de13 : List AV → X13
  | [.agg [.str v_a, .str v_b, .str v_c, .sl 1 v_n v_f, .sl 1 v_m v_g], .agg [.str w_a, .str w_b, .str w_c, .sl 1 w_n w_f, .sl 1 w_m w_g]] => ⟨vOf v_a v_b v_c v_n v_f v_m v_g, vOf w_a w_b w_c w_n w_f w_m w_g⟩
  | _ => ⟨default, default⟩

def p13 : X13 → Prop := fun ⟨v, w⟩ => True

def rs13 : X13 → T AV := fun ⟨v, w⟩ => .leaf (.bool (verEq v w))

noncomputable def c13 : List AV → T AV := ccon en13 de13 p13 rs13

theorem in13 : ∀ x, de13 (en13 x) = x := by
  rintro ⟨v, w⟩
  simp only [en13, de13, vOf_strF]

theorem k13 (v : Ver) (w : Ver) (h : True) : isEn en13 p13 [.agg [.str v.mj, .str v.mn, .str v.pt, .sl 1 v.pre.length (strF v.pre), .sl 1 v.bu.length (strF v.bu)], .agg [.str w.mj, .str w.mn, .str w.pt, .sl 1 w.pre.length (strF w.pre), .sl 1 w.bu.length (strF w.bu)]] = true := isEn_true (enc := en13) (p := p13) ⟨v, w⟩ h

theorem e13 (v : Ver) (w : Ver) (hF : FitsL [.agg [.str v.mj, .str v.mn, .str v.pt, .sl 1 v.pre.length (strF v.pre), .sl 1 v.bu.length (strF v.bu)], .agg [.str w.mj, .str w.mn, .str w.pt, .sl 1 w.pre.length (strF w.pre), .sl 1 w.bu.length (strF w.bu)]]) : (evn tabX h13 noLoops 13 [.agg [.str v.mj, .str v.mn, .str v.pt, .sl 1 v.pre.length (strF v.pre), .sl 1 v.bu.length (strF v.bu)], .agg [.str w.mj, .str w.mn, .str w.pt, .sl 1 w.pre.length (strF w.pre), .sl 1 w.bu.length (strF w.bu)]] []).run = (.leaf (.bool (verEq v w)) : T AV).run.map fun r => (r, []) := by
  refine (t13 v w).trans ?_
  rw [k22 _ _ trivial, k22 _ _ trivial]
  simp only [strsOf_strF, verEq]
  cases (v.mj == w.mj) <;> cases (v.mn == w.mn) <;> cases (v.pt == w.pt) <;> cases (v.pre == w.pre) <;> rfl

theorem s13 : Sound1 Tryd.prog ⟨13, true, pcon c13⟩ := by
  refine sound_c (soundTab_of all_tabX) H0 in13 (hn := h13) (m := 20) (k := 9) (Λ := noLoops) (fun i hi => anyLoops) ?_
  rintro ⟨v, w⟩ hp hF
  exact e13 v w hF

noncomputable def tabY : Tab := ⟨13, true, pcon c13⟩ :: tabX

theorem all_tabY : ∀ e, e ∈ tabY → Sound1 Tryd.prog e := (sound_mem_tab s13 all_tabX)

theorem ok_tabY : SoundTab Tryd.prog tabY := soundTab_of all_tabY

theorem t4 (s : List UInt8) (v : Ver) : (evn tabY h4 noLoops 4 [.str s, vAV v.mj v.mn v.pt v.pre v.bu] []).run =
  bif prErr (parseS s) == (0 : Int) then
   bif decide (IsStrs (strF (prVer (parseS s)).pre) (prVer (parseS s)).pre.length ∧ IsStrs (strF (prVer (parseS s)).bu) (prVer (parseS s)).bu.length ∧ roomV (vOf (prVer (parseS s)).mj (prVer (parseS s)).mn (prVer (parseS s)).pt (prVer (parseS s)).pre.length (strF (prVer (parseS s)).pre) (prVer (parseS s)).bu.length (strF (prVer (parseS s)).bu))) then
    bif !(bif fitV (vOf (prVer (parseS s)).mj (prVer (parseS s)).mn (prVer (parseS s)).pt (prVer (parseS s)).pre.length (strF (prVer (parseS s)).pre) (prVer (parseS s)).bu.length (strF (prVer (parseS s)).bu)) then textV (vOf (prVer (parseS s)).mj (prVer (parseS s)).mn (prVer (parseS s)).pt (prVer (parseS s)).pre.length (strF (prVer (parseS s)).pre) (prVer (parseS s)).bu.length (strF (prVer (parseS s)).bu)) else []) == s then
     some ((AV.bool false, []))
    else
     bif decide (IsStrs (strF v.pre) v.pre.length ∧ IsStrs (strF v.bu) v.bu.length ∧ roomV (vOf v.mj v.mn v.pt v.pre.length (strF v.pre) v.bu.length (strF v.bu))) then
      bif decide (IsStrs (strF v.pre) v.pre.length ∧ IsStrs (strF v.bu) v.bu.length ∧ roomV (vOf v.mj v.mn v.pt v.pre.length (strF v.pre) v.bu.length (strF v.bu))) then
       bif !fitV (vOf v.mj v.mn v.pt v.pre.length (strF v.pre) v.bu.length (strF v.bu)) then
        bif (bif fitV (vOf v.mj v.mn v.pt v.pre.length (strF v.pre) v.bu.length (strF v.bu)) then textV (vOf v.mj v.mn v.pt v.pre.length (strF v.pre) v.bu.length (strF v.bu)) else []) == [] then
         some ((AV.bool true, []))
        else
         some ((AV.bool false, []))
       else
        bif prErr (parseS (bif fitV (vOf v.mj v.mn v.pt v.pre.length (strF v.pre) v.bu.length (strF v.bu)) then textV (vOf v.mj v.mn v.pt v.pre.length (strF v.pre) v.bu.length (strF v.bu)) else [])) == (0 : Int) && (prAt (parseS (bif fitV (vOf v.mj v.mn v.pt v.pre.length (strF v.pre) v.bu.length (strF v.bu)) then textV (vOf v.mj v.mn v.pt v.pre.length (strF v.pre) v.bu.length (strF v.bu)) else [])) == (0 : Int) && true) then
         bif isEn en13 p13 [AV.agg [AV.str (prVer (parseS (bif fitV (vOf v.mj v.mn v.pt v.pre.length (strF v.pre) v.bu.length (strF v.bu)) then textV (vOf v.mj v.mn v.pt v.pre.length (strF v.pre) v.bu.length (strF v.bu)) else []))).mj, AV.str (prVer (parseS (bif fitV (vOf v.mj v.mn v.pt v.pre.length (strF v.pre) v.bu.length (strF v.bu)) then textV (vOf v.mj v.mn v.pt v.pre.length (strF v.pre) v.bu.length (strF v.bu)) else []))).mn, AV.str (prVer (parseS (bif fitV (vOf v.mj v.mn v.pt v.pre.length (strF v.pre) v.bu.length (strF v.bu)) then textV (vOf v.mj v.mn v.pt v.pre.length (strF v.pre) v.bu.length (strF v.bu)) else []))).pt, AV.sl 1 (prVer (parseS (bif fitV (vOf v.mj v.mn v.pt v.pre.length (strF v.pre) v.bu.length (strF v.bu)) then textV (vOf v.mj v.mn v.pt v.pre.length (strF v.pre) v.bu.length (strF v.bu)) else []))).pre.length (strF (prVer (parseS (bif fitV (vOf v.mj v.mn v.pt v.pre.length (strF v.pre) v.bu.length (strF v.bu)) then textV (vOf v.mj v.mn v.pt v.pre.length (strF v.pre) v.bu.length (strF v.bu)) else []))).pre), AV.sl 1 (prVer (parseS (bif fitV (vOf v.mj v.mn v.pt v.pre.length (strF v.pre) v.bu.length (strF v.bu)) then textV (vOf v.mj v.mn v.pt v.pre.length (strF v.pre) v.bu.length (strF v.bu)) else []))).bu.length (strF (prVer (parseS (bif fitV (vOf v.mj v.mn v.pt v.pre.length (strF v.pre) v.bu.length (strF v.bu)) then textV (vOf v.mj v.mn v.pt v.pre.length (strF v.pre) v.bu.length (strF v.bu)) else []))).bu)], AV.agg [AV.str v.mj, AV.str v.mn, AV.str v.pt, AV.sl 1 v.pre.length (strF v.pre), AV.sl 1 v.bu.length (strF v.bu)]] then
          bif verEq (vOf (prVer (parseS (bif fitV (vOf v.mj v.mn v.pt v.pre.length (strF v.pre) v.bu.length (strF v.bu)) then textV (vOf v.mj v.mn v.pt v.pre.length (strF v.pre) v.bu.length (strF v.bu)) else []))).mj (prVer (parseS (bif fitV (vOf v.mj v.mn v.pt v.pre.length (strF v.pre) v.bu.length (strF v.bu)) then textV (vOf v.mj v.mn v.pt v.pre.length (strF v.pre) v.bu.length (strF v.bu)) else []))).mn (prVer (parseS (bif fitV (vOf v.mj v.mn v.pt v.pre.length (strF v.pre) v.bu.length (strF v.bu)) then textV (vOf v.mj v.mn v.pt v.pre.length (strF v.pre) v.bu.length (strF v.bu)) else []))).pt (prVer (parseS (bif fitV (vOf v.mj v.mn v.pt v.pre.length (strF v.pre) v.bu.length (strF v.bu)) then textV (vOf v.mj v.mn v.pt v.pre.length (strF v.pre) v.bu.length (strF v.bu)) else []))).pre.length (strF (prVer (parseS (bif fitV (vOf v.mj v.mn v.pt v.pre.length (strF v.pre) v.bu.length (strF v.bu)) then textV (vOf v.mj v.mn v.pt v.pre.length (strF v.pre) v.bu.length (strF v.bu)) else []))).pre) (prVer (parseS (bif fitV (vOf v.mj v.mn v.pt v.pre.length (strF v.pre) v.bu.length (strF v.bu)) then textV (vOf v.mj v.mn v.pt v.pre.length (strF v.pre) v.bu.length (strF v.bu)) else []))).bu.length (strF (prVer (parseS (bif fitV (vOf v.mj v.mn v.pt v.pre.length (strF v.pre) v.bu.length (strF v.bu)) then textV (vOf v.mj v.mn v.pt v.pre.length (strF v.pre) v.bu.length (strF v.bu)) else []))).bu)) (vOf v.mj v.mn v.pt v.pre.length (strF v.pre) v.bu.length (strF v.bu)) then
           some ((AV.bool true, []))
          else
           some ((AV.bool false, []))
         else
          none
        else
         some ((AV.bool false, []))
      else
       none
     else
      none
   else
    none
  else
   bif decide (IsStrs (strF v.pre) v.pre.length ∧ IsStrs (strF v.bu) v.bu.length ∧ roomV (vOf v.mj v.mn v.pt v.pre.length (strF v.pre) v.bu.length (strF v.bu))) then
    bif decide (IsStrs (strF v.pre) v.pre.length ∧ IsStrs (strF v.bu) v.bu.length ∧ roomV (vOf v.mj v.mn v.pt v.pre.length (strF v.pre) v.bu.length (strF v.bu))) then
     bif !fitV (vOf v.mj v.mn v.pt v.pre.length (strF v.pre) v.bu.length (strF v.bu)) then
      bif (bif fitV (vOf v.mj v.mn v.pt v.pre.length (strF v.pre) v.bu.length (strF v.bu)) then textV (vOf v.mj v.mn v.pt v.pre.length (strF v.pre) v.bu.length (strF v.bu)) else []) == [] then
       some ((AV.bool true, []))
      else
       some ((AV.bool false, []))
     else
      bif prErr (parseS (bif fitV (vOf v.mj v.mn v.pt v.pre.length (strF v.pre) v.bu.length (strF v.bu)) then textV (vOf v.mj v.mn v.pt v.pre.length (strF v.pre) v.bu.length (strF v.bu)) else [])) == (0 : Int) && (prAt (parseS (bif fitV (vOf v.mj v.mn v.pt v.pre.length (strF v.pre) v.bu.length (strF v.bu)) then textV (vOf v.mj v.mn v.pt v.pre.length (strF v.pre) v.bu.length (strF v.bu)) else [])) == (0 : Int) && true) then
       bif isEn en13 p13 [AV.agg [AV.str (prVer (parseS (bif fitV (vOf v.mj v.mn v.pt v.pre.length (strF v.pre) v.bu.length (strF v.bu)) then textV (vOf v.mj v.mn v.pt v.pre.length (strF v.pre) v.bu.length (strF v.bu)) else []))).mj, AV.str (prVer (parseS (bif fitV (vOf v.mj v.mn v.pt v.pre.length (strF v.pre) v.bu.length (strF v.bu)) then textV (vOf v.mj v.mn v.pt v.pre.length (strF v.pre) v.bu.length (strF v.bu)) else []))).mn, AV.str (prVer (parseS (bif fitV (vOf v.mj v.mn v.pt v.pre.length (strF v.pre) v.bu.length (strF v.bu)) then textV (vOf v.mj v.mn v.pt v.pre.length (strF v.pre) v.bu.length (strF v.bu)) else []))).pt, AV.sl 1 (prVer (parseS (bif fitV (vOf v.mj v.mn v.pt v.pre.length (strF v.pre) v.bu.length (strF v.bu)) then textV (vOf v.mj v.mn v.pt v.pre.length (strF v.pre) v.bu.length (strF v.bu)) else []))).pre.length (strF (prVer (parseS (bif fitV (vOf v.mj v.mn v.pt v.pre.length (strF v.pre) v.bu.length (strF v.bu)) then textV (vOf v.mj v.mn v.pt v.pre.length (strF v.pre) v.bu.length (strF v.bu)) else []))).pre), AV.sl 1 (prVer (parseS (bif fitV (vOf v.mj v.mn v.pt v.pre.length (strF v.pre) v.bu.length (strF v.bu)) then textV (vOf v.mj v.mn v.pt v.pre.length (strF v.pre) v.bu.length (strF v.bu)) else []))).bu.length (strF (prVer (parseS (bif fitV (vOf v.mj v.mn v.pt v.pre.length (strF v.pre) v.bu.length (strF v.bu)) then textV (vOf v.mj v.mn v.pt v.pre.length (strF v.pre) v.bu.length (strF v.bu)) else []))).bu)], AV.agg [AV.str v.mj, AV.str v.mn, AV.str v.pt, AV.sl 1 v.pre.length (strF v.pre), AV.sl 1 v.bu.length (strF v.bu)]] then
        bif verEq (vOf (prVer (parseS (bif fitV (vOf v.mj v.mn v.pt v.pre.length (strF v.pre) v.bu.length (strF v.bu)) then textV (vOf v.mj v.mn v.pt v.pre.length (strF v.pre) v.bu.length (strF v.bu)) else []))).mj (prVer (parseS (bif fitV (vOf v.mj v.mn v.pt v.pre.length (strF v.pre) v.bu.length (strF v.bu)) then textV (vOf v.mj v.mn v.pt v.pre.length (strF v.pre) v.bu.length (strF v.bu)) else []))).mn (prVer (parseS (bif fitV (vOf v.mj v.mn v.pt v.pre.length (strF v.pre) v.bu.length (strF v.bu)) then textV (vOf v.mj v.mn v.pt v.pre.length (strF v.pre) v.bu.length (strF v.bu)) else []))).pt (prVer (parseS (bif fitV (vOf v.mj v.mn v.pt v.pre.length (strF v.pre) v.bu.length (strF v.bu)) then textV (vOf v.mj v.mn v.pt v.pre.length (strF v.pre) v.bu.length (strF v.bu)) else []))).pre.length (strF (prVer (parseS (bif fitV (vOf v.mj v.mn v.pt v.pre.length (strF v.pre) v.bu.length (strF v.bu)) then textV (vOf v.mj v.mn v.pt v.pre.length (strF v.pre) v.bu.length (strF v.bu)) else []))).pre) (prVer (parseS (bif fitV (vOf v.mj v.mn v.pt v.pre.length (strF v.pre) v.bu.length (strF v.bu)) then textV (vOf v.mj v.mn v.pt v.pre.length (strF v.pre) v.bu.length (strF v.bu)) else []))).bu.length (strF (prVer (parseS (bif fitV (vOf v.mj v.mn v.pt v.pre.length (strF v.pre) v.bu.length (strF v.bu)) then textV (vOf v.mj v.mn v.pt v.pre.length (strF v.pre) v.bu.length (strF v.bu)) else []))).bu)) (vOf v.mj v.mn v.pt v.pre.length (strF v.pre) v.bu.length (strF v.bu)) then
         some ((AV.bool true, []))
        else
         some ((AV.bool false, []))
       else
        none
      else
       some ((AV.bool false, []))
    else
     none
   else
    none := by kernel_rfl

theorem vOf_ver (v : Ver) : vOf v.mj v.mn v.pt v.pre.length (strF v.pre) v.bu.length (strF v.bu) = v := by rw [vOf_strF]

def bulkR (l : List (List UInt8)) : Nat := (l.map fun s => s.length + 1).sum

def bulkV (v : Ver) : Nat := v.mj.length + v.mn.length + v.pt.length + bulkR v.pre + bulkR v.bu

theorem bulkR_len : ∀ l : List (List UInt8), l.length ≤ bulkR l
  | [] => Nat.le_refl _
  | x :: l => by have := bulkR_len l; simp only [bulkR, List.map_cons, List.sum_cons, List.length_cons] at this ⊢; omega

theorem bulkR_join : ∀ l : List (List UInt8), (joinS l [46]).length ≤ bulkR l
  | [] => Nat.le_refl _
  | [x] => by rw [joinS_one]; simp [bulkR]
  | x :: y :: l => by
    have := bulkR_join (y :: l)
    rw [joinS_cons (by simp)]
    simp only [bulkR, List.map_cons, List.sum_cons, List.length_append, List.length_cons] at this ⊢
    omega

theorem bulkR_mem {l : List (List UInt8)} {s : List UInt8} (h : s ∈ l) : s.length ≤ bulkR l := by
  induction l with
  | nil => cases h
  | cons x l ih =>
    simp only [bulkR, List.map_cons, List.sum_cons] at ih ⊢
    rcases List.mem_cons.1 h with rfl | h
    · omega
    · have := ih h; omega

theorem small_of {l : List (List UInt8)} (h : bulkR l ≤ 1048576) : smallL l := by
  have := bulkR_len l
  refine ⟨by simp only [bnd]; omega, fun s hs => ?_⟩
  have := bulkR_mem hs
  simp only [bnd]; omega

theorem room_of {v : Ver} (h : bulkV v ≤ 1048576) : roomV v := by
  have h1 := bulkR_len v.pre
  have h2 := bulkR_len v.bu
  have h3 := bulkR_join v.pre
  have h4 := bulkR_join v.bu
  unfold bulkV at h
  refine ⟨⟨?_, ?_, ?_⟩, ⟨?_, ?_⟩, ⟨?_, ?_⟩⟩ <;> omega

theorem chk_v {v : Ver} (h : roomV v) : decide (IsStrs (strF v.pre) v.pre.length ∧ IsStrs (strF v.bu) v.bu.length ∧ roomV v) = true := decide_eq_true ⟨isStrs_strF _, isStrs_strF _, h⟩

theorem treeBack (s : List UInt8) (v : Ver) (hs : s.length ≤ 1048576) (hv : bulkV v ≤ 1048576) : (evn tabY h4 noLoops 4 [.str s, vAV v.mj v.mn v.pt v.pre v.bu] []).run = some (.bool true, []) := by
  refine (t4 s v).trans ?_
  simp only [vOf_ver]
  rw [show (prErr (parseS s) == (0 : Int)) = okP s from rfl, chk_v (room_of hv)]
  cases hp : okP s with
  | false =>
    cases hf : fitV v with
    | false => rfl
    | true =>
      simp only [cond_true, cond_false, Bool.not_true, parse_bwd hf]
      rw [k13 _ _ trivial, show prVer (Sum.inl v : PR) = v from rfl, verEq_iff.2 rfl]; rfl
  | true =>
    obtain ⟨w, hw⟩ := (okP_iff s).1 hp
    obtain ⟨g1, g2, g3⟩ := parse_fwd hw
    have e : prVer (parseS s) = w := by rw [hw]; rfl
    rw [e, chk_v (fit_room g2), g2]
    simp only [cond_true, g1, beq_self_eq_true, Bool.not_true, cond_false]
    cases hf : fitV v with
    | false => rfl
    | true =>
      simp only [cond_true, cond_false, Bool.not_true, parse_bwd hf]
      rw [k13 _ _ trivial, show prVer (Sum.inl v : PR) = v from rfl, verEq_iff.2 rfl]; rfl

end Go.Sem

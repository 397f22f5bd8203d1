/- Lemmas for the claims of this seat (a verified symbolic evaluator, and contracts of functions): own work; no condition. -/
import Derived.Test.YtnhoihimdkpmnaaFnC
namespace Go.Pln
open Go Go.Proofs Go.Ab
set_option maxRecDepth 100000
set_option linter.unusedVariables false
set_option linter.unusedSimpArgs false

/-! ### Parse -/
noncomputable def ev15 (s : List UInt8) : Option (AV × Hp) := (evFnT Try.prog tabI.pf (hdT Try.prog tabI.pf tabI.con hs15 20 9) h15 20 L15 15 [.str s] []).run
def er15 (e fa : Int) : Option (AV × Hp) := some (.tup [.int .i64 0, .nilsl, .agg [.int .i64 e, .int .i64 fa]], [])
def aI (s : List UInt8) : Int := IntKind.i64.wrap (((cutA 10 s).length : Int) + 1)
def dI (s : List UInt8) : Int := ixS (unS (rowS dnm)) (cutA 32 (cutA 10 s)) 6
open Classical in
noncomputable def in15 (s : List UInt8) : Bool := decide (st15 (dI s) s (aI s) = st15 (dI s) s ((aI s).toNat : Nat) ∧ (aI s).toNat ≤ s.length ∧ s.length ≤ 65536)
theorem t15 (s : List UInt8) : ev15 s =
  bif decide ((s.length : Int) > 65536) then er15 12 65536
  else bif isEn en34 p34 [.str s, .str [10]] then
   bif isEn en34 p34 [.str (cutA 10 s), .str [32]] then
    bif isEn en35 p35 [.sl 1 6 (rowS dnm), .str (cutA 32 (cutA 10 s))] then
     bif decide (dI s < 1) then er15 15 0
     else bif !cutR 32 (cutA 10 s) == [112, 108, 97, 110] then er15 15 0
     else bif decide ((cutA 32 (cutA 10 s)).length + 5 ≤ 4611686018427387903) then
      bif !cutA 10 s == cutA 32 (cutA 10 s) ++ [32, 112, 108, 97, 110] then er15 15 0
      else bif !s.contains 10 then er15 11 s.length
      else bif in15 s then
       bif (ocL (pkO s (aI s).toNat)).isEmpty then
        bif (ocE (pkO s (aI s).toNat) : Int) != 0 then er15 (ocE (pkO s (aI s).toNat)) (ocF (pkO s (aI s).toNat))
        else some (.tup [.int .i64 (dI s), .nilsl, .agg [.int .i64 0, .int .i64 0]], [])
       else
        bif (ocE (pkO s (aI s).toNat) : Int) != 0 then er15 (ocE (pkO s (aI s).toNat)) (ocF (pkO s (aI s).toNat))
        else some (.tup [.int .i64 (dI s), .row 0 2 0 (ocL (pkO s (aI s).toNat)).length, .agg [.int .i64 0, .int .i64 0]], [some (.row 2 (ocL (pkO s (aI s).toNat)).length (rowG CK (fnR CK.df (ocL (pkO s (aI s).toNat)))))])
      else none
     else none
    else none
   else none
  else none := by kernel_rfl

structure Pr where
  d : Int
  L : List Pk
  e : Nat
  fa : Nat
def plW : List UInt8 := [112, 108, 97, 110]
def dix (s : List UInt8) : Int := ixS dnm (cutA 32 (cutA 10 s)) 6
def hdBad (s : List UInt8) : Bool := decide (dix s < 1) || (!cutR 32 (cutA 10 s) == plW || !cutA 10 s == cutA 32 (cutA 10 s) ++ 32 :: plW)
def a1 (s : List UInt8) : Nat := (cutA 10 s).length + 1
def prs (s : List UInt8) : Pr :=
  bif decide (65536 < s.length) then ⟨0, [], 12, 65536⟩
  else bif hdBad s then ⟨0, [], 15, 0⟩
  else bif !s.contains 10 then ⟨0, [], 11, s.length⟩
  else bif ocE (pkO s (a1 s)) != 0 then ⟨0, [], ocE (pkO s (a1 s)), ocF (pkO s (a1 s))⟩
  else ⟨dix s, ocL (pkO s (a1 s)), 0, 0⟩
theorem cutA_le (c : UInt8) (s : List UInt8) : (cutA c s).length ≤ s.length := by
  unfold cutA
  exact List.Sublist.length_le (List.takeWhile_sublist _)
noncomputable def av15 (p : Pr) : AV := .tup [.int .i64 p.d, .sl 2 p.L.length (rowK (fnG CK.df p.L)), .agg [.int .i64 p.e, .int .i64 p.fa]]
theorem er_ok {s : List UInt8} (e fa : Nat) (h : ev15 s = er15 e fa) : ∃ r0 h0 r1, ev15 s = some (r0, h0) ∧ frz (.tup [.any, .rows 2, .any]) h0 r0 = some r1 ∧ AW r1 (av15 ⟨0, [], e, fa⟩) :=
  ⟨_, _, _, h, rfl, AW.tup3 (AW.rfl' _) (by rw [← rowK_rowG]; exact nil_awG (C := CK) _) (AW.rfl' _)⟩
theorem frz3 (d : Int) (n : Nat) (g : Nat → Nat → AV) : frz (.tup [.any, .rows 2, .any]) [some (.row 2 n g)] (.tup [.int .i64 d, .row 0 2 0 n, .agg [.int .i64 0, .int .i64 0]]) = some (.tup [.int .i64 d, .sl 2 n g, .agg [.int .i64 0, .int .i64 0]]) := by
  have e1 : frz (.rows 2) [some (.row 2 n g)] (.row 0 2 0 n) = some (.sl 2 n g) := by
    show (if 2 = 2 ∧ 2 = 2 ∧ 0 + n ≤ n then _ else none) = _
    rw [if_pos ⟨rfl, rfl, by omega⟩]
    rfl
  unfold frz frzL
  rw [show frz .any [some (.row 2 n g)] (.int .i64 d) = some (.int .i64 d) from rfl]
  simp only [frzL, e1, Option.bind_some, Option.map_some, show frz .any [some (.row 2 n g)] (.agg [.int .i64 0, .int .i64 0]) = some (.agg [.int .i64 0, .int .i64 0]) from rfl]
noncomputable def c15 : List AV → T AV
  | [.str s] => .leaf (av15 (prs s))
  | _ => .fail
theorem s15 : Sound1 Try.prog ⟨15, true, pcon c15⟩ := by
  refine sound_frzW (m := 20) (k := 9) (hn := h15) (Λ := L15) (hs := hs15) (soundTab_of all_tabI) (.tup [.any, .rows 2, .any]) (oneLoop (by kernel_rfl) l15) fun args r hF h => ?_
  unfold c15 at h
  split at h
  · rename_i s
    have hb : s.length ≤ bnd := hF.1
    simp only [bnd] at hb
    simp only [T.run_leaf, Option.some.injEq] at h
    subst h
    have ht := t15 s
    show ∃ r0 h0 r1, ev15 s = some (r0, h0) ∧ _
    unfold prs
    have hdix : dI s = dix s := by unfold dI dix; rw [unS_rowS]
    by_cases h1 : 65536 < s.length
    · rw [decide_eq_true (show (s.length : Int) > 65536 by omega), cond_true] at ht
      rw [decide_eq_true h1, cond_true]
      exact er_ok 12 65536 ht
    · have l1 := cutA_le 10 s
      have l2 := cutA_le 32 (cutA 10 s)
      rw [decide_eq_false (show ¬ (s.length : Int) > 65536 by omega), k34 s 10 trivial, k34 _ 32 trivial, k35 6 dnm _ (by decide), hdix] at ht
      rw [decide_eq_false h1]
      simp only [cond_false, cond_true] at ht ⊢
      unfold hdBad plW
      cases h2 : decide (dix s < 1) with
      | true =>
        rw [h2, cond_true] at ht
        rw [Bool.true_or, cond_true]
        exact er_ok 15 0 ht
      | false =>
        rw [h2, cond_false] at ht
        rw [Bool.false_or]
        cases h3 : (!cutR 32 (cutA 10 s) == [112, 108, 97, 110]) with
        | true =>
          rw [h3, cond_true] at ht
          rw [Bool.true_or, cond_true]
          exact er_ok 15 0 ht
        | false =>
          rw [h3, cond_false, decide_eq_true (show (cutA 32 (cutA 10 s)).length + 5 ≤ 4611686018427387903 by omega), cond_true] at ht
          rw [Bool.false_or]
          cases h4 : (!cutA 10 s == cutA 32 (cutA 10 s) ++ [32, 112, 108, 97, 110]) with
          | true =>
            rw [h4, cond_true] at ht
            rw [cond_true]
            exact er_ok 15 0 ht
          | false =>
            rw [h4, cond_false] at ht
            rw [cond_false]
            cases h5 : s.contains 10 with
            | false =>
              rw [h5, Bool.not_false, cond_true] at ht
              rw [Bool.not_false, cond_true]
              exact er_ok 11 s.length ht
            | true =>
              have hlt := cut_lt (c := 10) (s := s) (by simpa using h5)
              have ha : aI s = (a1 s : Nat) := by unfold aI a1; rw [w64n (by omega)]
              have hin : in15 s = true := by
                unfold in15
                rw [ha, Int.toNat_natCast]
                have hq : st15 (dI s) s (a1 s : Nat) = st15 (dI s) s (a1 s : Nat) ∧ a1 s ≤ s.length ∧ s.length ≤ 65536 := ⟨rfl, by unfold a1; omega, by omega⟩
                simp only [decide_eq_true_eq]; exact ⟨trivial, hq.2⟩
              rw [h5, hin, ha, Int.toNat_natCast] at ht
              simp only [Bool.not_true, cond_false, cond_true] at ht ⊢
              generalize pkO s (a1 s) = o at ht ⊢
              have hne : ((ocE o : Int) != 0) = (ocE o != 0) := by
                rw [Bool.eq_iff_iff, bne_iff_ne, bne_iff_ne]; omega
              rw [hne] at ht
              cases h6 : (ocE o != 0) with
              | true =>
                rw [h6] at ht
                rw [cond_true]
                exact er_ok _ _ (ht.trans (by cases (ocL o).isEmpty <;> rfl))
              | false =>
                rw [h6] at ht
                rw [cond_false]
                generalize ocL o = L at ht ⊢
                simp only [cond_false] at ht
                cases L with
                | nil => exact ⟨_, _, _, ht, rfl, AW.tup3 (AW.rfl' _) (by rw [← rowK_rowG]; exact nil_awG (C := CK) _) (AW.rfl' _)⟩
                | cons x L => exact ⟨_, _, _, ht, frz3 (dix s) _ _, AW.tup3 (AW.rfl' _) (by rw [← rowK_rowG]; exact row_awG (C := CK) (listG_fnR CK.df (x :: L))) (AW.rfl' _)⟩
  · cases h
end Go.Pln
namespace Go.Pln

open Go Go.Proofs Go.Ab

set_option maxRecDepth 100000

set_option linter.unusedVariables false

set_option linter.unusedSimpArgs false

/-! ### awake -/

noncomputable def tabW : Tab := ⟨15, true, pcon c15⟩ :: tabB

theorem all_tabW : ∀ e, e ∈ tabW → Sound1 Try.prog e := sound_mem_tab s15 all_tabB

theorem t13 : (evn tabW h13 noLoops 13 [] []).run = some (.bool true, []) := by kernel_rfl

def c13 : List AV → T AV
  | [] => .leaf (.bool true)
  | _ => .fail

theorem s13 : Sound1 Try.prog ⟨13, true, pcon c13⟩ := by
  refine sound_pure (m := 20) (k := 9) (hn := h13) (Λ := noLoops) (soundTab_of all_tabW) (fun i hi => anyLoops) fun args r hF h => ?_
  unfold c13 at h
  split at h
  · simp only [T.run_leaf, Option.some.injEq] at h; subst h
    exact t13
  · cases h

/-! ### PickRow -/

def samK (f g : Nat → Pk) (i : Nat) : Bool := (f i).nm == (g i).nm && ((f i).vr == (g i).vr && true)

structure Y12 where
  n : Nat
  f : Nat → Pk
  g : Nat → Pk
  i : Nat

def eL12 : Y12 → List AV × Hp := fun ⟨n, f, g, i⟩ => ([.sl 2 n (rowK f), .sl 2 n (rowK g), .int .i64 i], [])

def dL12 : List AV × Hp → Y12
  | ([.sl _ n f_g, .sl _ _ g_g, .int .i64 i], []) => ⟨n, unK f_g, unK g_g, i.toNat⟩
  | _ => ⟨default, default, default, default⟩

def pL12 : Y12 → Prop := fun ⟨n, f, g, i⟩ => i ≤ n ∧ n ≤ bnd

def rL12 : Y12 → T (AX × St) := fun ⟨n, f, g, i⟩ => .br (decide (fbad (samK f g) (n - i) i < n)) (.leaf (.ret, { tm := tmOf 26 [(4, .bool false)], ms := [], hp := [] })) (.leaf (.exit 0, { tm := tmOf 26 [(0, .sl 2 n (rowK f)), (1, .sl 2 n (rowK g)), (5, .int .i64 n), (14, .bool false)], ms := [], hp := [] }))

noncomputable def L12 : LoopT := fun k => match Nat.beq k 400033 with
  | true => some (lccon (mbits 35 26) eL12 dL12 pL12 rL12)
  | false => none

theorem iL12 : ∀ x, dL12 (eL12 x) = x := by
  rintro ⟨n, f, g, i⟩
  simp only [eL12, dL12, Int.toNat_natCast, unK_rowK]

theorem kL12 (n : Nat) (f : Nat → Pk) (g : Nat → Pk) (i : Nat) (h : i ≤ n ∧ n ≤ bnd) : isEn eL12 pL12 ([.sl 2 n (rowK f), .sl 2 n (rowK g), .int .i64 i], []) = true := isEn_true (enc := eL12) (p := pL12) ⟨n, f, g, i⟩ h

theorem zL12 (n : Nat) (f : Nat → Pk) (g : Nat → Pk) (h : pL12 ⟨n, f, g, 0⟩) : isEn eL12 pL12 ([.sl 2 n (rowK f), .sl 2 n (rowK g), .int .i64 (0 : Int)], []) = true := isEn_true (enc := eL12) (p := pL12) ⟨n, f, g, 0⟩ h

theorem q12 (n : Nat) (f : Nat → Pk) (g : Nat → Pk) (i : Nat) : (rdn tabI h12 L12 12 0 0 { tm := encGo (mbits 35 26) [.sl 2 n (rowK f), .sl 2 n (rowK g), .int .i64 i], ms := [], hp := [] }).run =
  bif decide ((↑i : Int) < (↑n : Int)) then
   bif decide ((0 : Int) ≤ (↑i : Int) ∧ (↑i : Int) < (↑n : Int)) then
    bif decide ((0 : Int) ≤ (↑i : Int) ∧ (↑i : Int) < (↑n : Int)) then
     bif !((f (↑i : Int).toNat).nm == (g (↑i : Int).toNat).nm && ((f (↑i : Int).toNat).vr == (g (↑i : Int).toNat).vr && true)) then
      some ((AX.ret, { tm := tmOf 26 [(4, AV.bool false)], ms := [], hp := [] }))
     else
      some ((AX.normal, { tm := tmOf 26 [(0, AV.sl 2 n (rowK f)), (1, AV.sl 2 n (rowK g)), (5, AV.int IntKind.i64 (IntKind.i64.wrap ((↑i : Int) + (1 : Int))))], ms := [], hp := [] }))
    else
     none
   else
    none
  else
   some ((AX.exit 0, { tm := tmOf 26 [(0, AV.sl 2 n (rowK f)), (1, AV.sl 2 n (rowK g)), (5, AV.int IntKind.i64 (↑i : Int)), (14, AV.bool false)], ms := [], hp := [] })) := by kernel_rfl

theorem l12 : LoopOk Try.prog tabI.pf (fun n => hd Try.prog tabI.pf tabI.con.run (fun f => (H0 f).to) n 9) h12.to 12 0 none L12 (loopAt Try.prog 12 0) := by
  rw [show loopAt Try.prog 12 0 = .loop (lbody Try.prog 12 0) by kernel_rfl]
  refine loop_c (hdT_le (m := 20) 9) (m := 20) (lv := mbits 35 26) (p := pL12) (res := rL12) iL12 (within_of _ (by rw [show loopsOf (lbody Try.prog 12 0) = [] by kernel_rfl]; simp)) (by kernel_rfl) (fun ⟨n, f, g, i⟩ => n - i) ?_
  rintro ⟨n, f, g, i⟩ hp
  have ht := q12 n f g i
  obtain ⟨h1, h2⟩ := hp
  have hb := h2
  simp only [bnd] at hb
  by_cases hl : i < n
  · have hd := fbad_step (q := samK f g) hl
    rw [decide_eq_true (show (i : Int) < n by omega), in_row hl, Int.toNat_natCast, w64n (by omega)] at ht
    cases hq : samK f g i with
    | true =>
      rw [hq] at hd
      unfold samK at hq
      rw [hq] at ht
      rw [cond_true] at hd
      left
      refine ⟨⟨n, f, g, i + 1⟩, ⟨by omega, h2⟩, by simp only; omega, ?_, ht⟩
      simp only [rL12, T.run_br, hd]
    | false =>
      rw [hq] at hd
      unfold samK at hq
      rw [hq] at ht
      rw [cond_false] at hd
      right
      refine ⟨_, ?_, ?_, ht⟩
      · simp
      · simp only [rL12, T.run_br, hd, decide_eq_true hl] <;> rfl
  · have he : i = n := by omega
    right
    subst he
    rw [decide_eq_false (show ¬ (i : Int) < i by omega)] at ht
    refine ⟨_, ?_, ?_, ht⟩
    · simp
    · simp only [rL12, T.run_br, Nat.sub_self, fbad, decide_eq_false (Nat.lt_irrefl i)] <;> rfl

def eqK (f g : Nat → Pk) (n m : Nat) : Bool := n == m && decide (¬ fbad (samK f g) n 0 < n)

theorem t12 (n : Nat) (f : Nat → Pk) (m : Nat) (g : Nat → Pk) : (evn tabI h12 L12 12 [.sl 2 n (rowK f), .sl 2 m (rowK g)] []).run =
  bif (↑n : Int) != (↑m : Int) then
   some ((AV.bool false, []))
  else
   bif isEn eL12 pL12 ([AV.sl 2 n (rowK f), AV.sl 2 m (rowK g), AV.int IntKind.i64 (0 : Int)], []) then
    bif decide (fbad (samK (unK (rowK f)) (unK (rowK g))) (n - 0) 0 < n) then
     some ((AV.bool false, []))
    else
     some ((AV.bool true, []))
   else
    none := by kernel_rfl

structure X12 where
  n : Nat
  f : Nat → Pk
  m : Nat
  g : Nat → Pk

def en12 : X12 → List AV := fun ⟨n, f, m, g⟩ => [.sl 2 n (rowK f), .sl 2 m (rowK g)]

def de12 : List AV → X12
  | [.sl _ n f_g, .sl _ m g_g] => ⟨n, unK f_g, m, unK g_g⟩
  | _ => ⟨default, default, default, default⟩

def p12 : X12 → Prop := fun ⟨n, f, m, g⟩ => n ≤ bnd

def rs12 : X12 → T AV := fun ⟨n, f, m, g⟩ => .leaf (.bool (eqK f g n m))

noncomputable def c12 : List AV → T AV := ccon en12 de12 p12 rs12

theorem in12 : ∀ x, de12 (en12 x) = x := by
  rintro ⟨n, f, m, g⟩
  simp only [en12, de12, Int.toNat_natCast, unK_rowK]

theorem k12 (n : Nat) (f : Nat → Pk) (m : Nat) (g : Nat → Pk) (h : n ≤ bnd) : isEn en12 p12 [.sl 2 n (rowK f), .sl 2 m (rowK g)] = true := isEn_true (enc := en12) (p := p12) ⟨n, f, m, g⟩ h

theorem e12 (n : Nat) (f : Nat → Pk) (m : Nat) (g : Nat → Pk) (hF : FitsL [.sl 2 n (rowK f), .sl 2 m (rowK g)]) (hp : n ≤ bnd) : (evn tabI h12 L12 12 [.sl 2 n (rowK f), .sl 2 m (rowK g)] []).run = (.leaf (.bool (eqK f g n m)) : T AV).run.map fun r => (r, []) := by
  refine (t12 n f m g).trans ?_
  unfold eqK
  by_cases hnm : n = m
  · subst hnm
    rw [show ((n : Int) != n) = false by simp, cond_false, cond_chk (zL12 n f g ⟨Nat.zero_le _, hp⟩)]
    rw [unK_rowK, unK_rowK, Nat.sub_zero, show (n == n) = true by simp, Bool.true_and]
    by_cases hb : fbad (samK f g) n 0 < n
    · rw [decide_eq_true hb, decide_eq_false (fun q => q hb)]; rfl
    · rw [decide_eq_false hb, decide_eq_true hb]; rfl
  · rw [show ((n : Int) != m) = true by rw [bne_iff_ne]; omega, cond_true, show (n == m) = false by simpa using hnm]
    rfl

theorem s12 : Sound1 Try.prog ⟨12, true, pcon c12⟩ := by
  refine sound_c (soundTab_of all_tabI) H0 in12 (hn := h12) (m := 20) (k := 9) (Λ := L12) (oneLoop (by kernel_rfl) l12) ?_
  rintro ⟨n, f, m, g⟩ hp hF
  exact e12 n f m g hF hp

noncomputable def tabJ : Tab := ⟨13, true, pcon c13⟩ :: ⟨15, true, pcon c15⟩ :: ⟨12, true, pcon c12⟩ :: tabI

theorem all_tabJ : ∀ e, e ∈ tabJ → Sound1 Try.prog e := (sound_mem_tab s13 (sound_mem_tab s15 (sound_mem_tab s12 all_tabI)))

theorem ok_tabJ : SoundTab Try.prog tabJ := soundTab_of all_tabJ
end Go.Pln
namespace Go.Pln
open Go Go.Proofs Go.Ab
set_option maxRecDepth 100000
set_option linter.unusedVariables false
set_option linter.unusedSimpArgs false

/-! ### Plain: written and read -/
theorem less_or {a b : List UInt8} (h : abytesLess a b = false) (hne : a ≠ b) : abytesLess b a = true := by
  induction a generalizing b with
  | nil => cases b with
    | nil => exact absurd rfl hne
    | cons y ys => simp [abytesLess] at h
  | cons x xs ih => cases b with
    | nil => rfl
    | cons y ys =>
      simp only [abytesLess, Bool.or_eq_false_iff, Bool.and_eq_false_iff, decide_eq_false_iff_not, beq_eq_false_iff_ne] at h
      simp only [abytesLess, Bool.or_eq_true, Bool.and_eq_true, decide_eq_true_eq, beq_iff_eq]
      by_cases hxy : x = y
      · subst hxy
        right
        refine ⟨rfl, ih ?_ ?_⟩
        · rcases h.2 with h | h
          · exact absurd rfl h
          · exact h
        · rintro rfl; exact hne rfl
      · left
        have h1 := h.1
        rw [UInt8.lt_iff_toNat_lt] at h1 ⊢
        have : x.toNat ≠ y.toNat := fun e => hxy (UInt8.toNat_inj.1 e)
        omega
theorem less_asym {a b : List UInt8} (h : abytesLess a b = true) : abytesLess b a = false ∧ b ≠ a := by
  induction a generalizing b with
  | nil => cases b with
    | nil => simp [abytesLess] at h
    | cons y ys => simp [abytesLess]
  | cons x xs ih => cases b with
    | nil => simp [abytesLess] at h
    | cons y ys =>
      simp only [abytesLess, Bool.or_eq_true, Bool.and_eq_true, decide_eq_true_eq, beq_iff_eq] at h
      simp only [abytesLess, Bool.or_eq_false_iff, Bool.and_eq_false_iff, decide_eq_false_iff_not, beq_eq_false_iff_ne]
      rcases h with h | ⟨rfl, h⟩
      · rw [UInt8.lt_iff_toNat_lt] at h
        refine ⟨⟨by rw [UInt8.lt_iff_toNat_lt]; omega, .inl ?_⟩, ?_⟩
        · rintro rfl; omega
        · rintro e; injection e with e1 e2; subst e1; omega
      · obtain ⟨h1, h2⟩ := ih h
        exact ⟨⟨by rw [UInt8.lt_iff_toNat_lt]; omega, .inr h1⟩, fun e => h2 (by injection e)⟩

def linesL : List Pk → List UInt8
  | [] => []
  | p :: R => lineK p ++ linesL R
def goodL : List UInt8 → List Pk → Prop
  | _, [] => True
  | last, p :: R => word p.nm = true ∧ word p.vr = true ∧ abytesLess last p.nm = true ∧ goodL p.nm R
theorem word_iff (w : List UInt8) : word w = true ↔ (∀ b, b ∈ w → wB b = true) ∧ w ≠ [] ∧ w.length ≤ 128 := by
  unfold word
  simp [List.all_eq_true]
theorem fxN_wrd (s : List UInt8) (a : Nat) : fxN wB s a = a + (wrdA s a).length := rfl
theorem view (s : List UInt8) {a : Nat} {c : UInt8} (h : fxN wB s a < s.length) (hc : s.getD (fxN wB s a) 0 = c) : s.drop a = wrdA s a ++ c :: s.drop (fxN wB s a + 1) := by
  have h1 : (s.drop a).takeWhile wB ++ (s.drop a).dropWhile wB = s.drop a := List.takeWhile_append_dropWhile
  have h2 : (s.drop a).drop ((s.drop a).takeWhile wB).length = (s.drop a).dropWhile wB := by
    have := List.drop_left (l₁ := (s.drop a).takeWhile wB) (l₂ := (s.drop a).dropWhile wB)
    rwa [h1] at this
  rw [List.drop_drop] at h2
  have h3 : s.drop (fxN wB s a) = (s.drop a).dropWhile wB := h2
  rw [dropD 0 h, hc] at h3
  rw [h3]
  exact h1.symm
theorem view_back {s : List UInt8} {a : Nat} {w r : List UInt8} {c : UInt8} (hs : s.drop a = w ++ c :: r) (hw : ∀ b, b ∈ w → wB b = true) (hc : wB c = false) :
    wrdA s a = w ∧ fxN wB s a = a + w.length ∧ fxN wB s a < s.length ∧ s.getD (fxN wB s a) 0 = c ∧ s.drop (fxN wB s a + 1) = r := by
  have h1 : wrdA s a = w := by
    unfold wrdA
    rw [hs, List.takeWhile_append_of_pos hw, List.takeWhile_cons, hc]
    simp
  have h2 : fxN wB s a = a + w.length := by rw [fxN_wrd, h1]
  have h3 : s.drop (a + w.length) = c :: r := by
    rw [← List.drop_drop, hs]
    exact List.drop_left
  have hl : a + w.length < s.length := by
    have := congrArg List.length h3
    rw [List.length_drop] at this
    simp only [List.length_cons] at this
    omega
  rw [h2]
  rw [dropD 0 hl] at h3
  injection h3 with h4 h5
  exact ⟨h1, rfl, hl, h4, h5⟩
theorem wrd_all (s : List UInt8) (a : Nat) : ∀ b, b ∈ wrdA s a → wB b = true := fun b hb => by
  unfold wrdA at hb
  have : ∀ l : List UInt8, b ∈ l.takeWhile wB → wB b = true := by
    intro l
    induction l with
    | nil => simp
    | cons x l ih =>
      rw [List.takeWhile_cons]
      cases hx : wB x with
      | true =>
        intro h
        rcases List.mem_cons.1 h with rfl | h
        · exact hx
        · exact ih h
      | false => intro h; simp at h
  exact this _ hb
theorem badE_iff (s : List UInt8) (c : UInt8) (a : Nat) : badE s c.toNat a = false ↔ wrdA s a ≠ [] ∧ s.getD (fxN wB s a) 0 = c := by
  unfold badE
  rw [Bool.or_eq_false_iff]
  refine and_congr (by simp) ?_
  rw [bne_eq_false_iff_eq]
  constructor
  · intro h; exact UInt8.toNat_inj.1 (by omega)
  · rintro rfl; rfl

theorem pk1_all {s last : List UInt8} {a : Nat} {L : List Pk} (h : pk1 s last a L = none) :
    a < s.length ∧ fxN wB s a ≤ a + 128 ∧ fxN wB s a ≠ s.length ∧ badE s 32 a = false ∧ (abytesLess (wrdA s a) last || wrdA s a == last) = false ∧
    fxN wB s (bN s a) ≤ bN s a + 128 ∧ fxN wB s (bN s a) ≠ s.length ∧ badE s 10 (bN s a) = false := by
  unfold pk1 at h
  cases h1 : decide (a < s.length) with
  | false => rw [h1] at h; cases h
  | true =>
  rw [h1, cond_true] at h
  cases h2 : decide (a + 128 < fxN wB s a) with
  | true => rw [h2] at h; cases h
  | false =>
  rw [h2, cond_false] at h
  cases h3 : decide (fxN wB s a = s.length) with
  | true => rw [h3] at h; cases h
  | false =>
  rw [h3, cond_false] at h
  cases h4 : badE s 32 a with
  | true => rw [h4] at h; cases h
  | false =>
  rw [h4, cond_false] at h
  cases h5 : (abytesLess (wrdA s a) last || wrdA s a == last) with
  | true => rw [h5] at h; cases h
  | false =>
  rw [h5, cond_false] at h
  cases h6 : decide (bN s a + 128 < fxN wB s (bN s a)) with
  | true => rw [h6] at h; cases h
  | false =>
  rw [h6, cond_false] at h
  cases h7 : decide (fxN wB s (bN s a) = s.length) with
  | true => rw [h7] at h; cases h
  | false =>
  rw [h7, cond_false] at h
  cases h8 : badE s 10 (bN s a) with
  | true => rw [h8] at h; cases h
  | false =>
  simp only [decide_eq_true_eq, decide_eq_false_iff_not] at h1 h2 h3 h6 h7
  exact ⟨h1, by omega, h3, rfl, rfl, by omega, h7, rfl⟩
theorem pk1_mk {s last : List UInt8} {a : Nat} {L : List Pk}
    (h : a < s.length ∧ fxN wB s a ≤ a + 128 ∧ fxN wB s a ≠ s.length ∧ badE s 32 a = false ∧ (abytesLess (wrdA s a) last || wrdA s a == last) = false ∧
    fxN wB s (bN s a) ≤ bN s a + 128 ∧ fxN wB s (bN s a) ≠ s.length ∧ badE s 10 (bN s a) = false) : pk1 s last a L = none := by
  obtain ⟨h1, h2, h3, h4, h5, h6, h7, h8⟩ := h
  unfold pk1
  rw [decide_eq_true h1, decide_eq_false (show ¬ a + 128 < fxN wB s a by omega), decide_eq_false h3, h4, h5, decide_eq_false (show ¬ bN s a + 128 < fxN wB s (bN s a) by omega), decide_eq_false h7, h8]
  rfl
theorem pk1_end {s last : List UInt8} {a : Nat} {L : List Pk} {o : Oc} (h : pk1 s last a L = some o) (h0 : ocE o = 0) : o = .fin a last L ∧ s.length ≤ a := by
  unfold pk1 at h
  cases h1 : decide (a < s.length) with
  | false =>
    rw [h1, cond_false] at h
    injection h with h
    have := of_decide_eq_false h1
    exact ⟨h.symm, by omega⟩
  | true =>
    exfalso
    rw [h1, cond_true] at h
    cases h2 : decide (a + 128 < fxN wB s a) with
    | true => rw [h2] at h; injection h with h; subst h; cases h0
    | false =>
    rw [h2, cond_false] at h
    cases h3 : decide (fxN wB s a = s.length) with
    | true => rw [h3] at h; injection h with h; subst h; cases h0
    | false =>
    rw [h3, cond_false] at h
    cases h4 : badE s 32 a with
    | true => rw [h4] at h; injection h with h; subst h; cases h0
    | false =>
    rw [h4, cond_false] at h
    cases h5 : (abytesLess (wrdA s a) last || wrdA s a == last) with
    | true => rw [h5] at h; injection h with h; subst h; cases h0
    | false =>
    rw [h5, cond_false] at h
    cases h6 : decide (bN s a + 128 < fxN wB s (bN s a)) with
    | true => rw [h6] at h; injection h with h; subst h; cases h0
    | false =>
    rw [h6, cond_false] at h
    cases h7 : decide (fxN wB s (bN s a) = s.length) with
    | true => rw [h7] at h; injection h with h; subst h; cases h0
    | false =>
    rw [h7, cond_false] at h
    cases h8 : badE s 10 (bN s a) with
    | true => rw [h8] at h; injection h with h; subst h; cases h0
    | false => rw [h8] at h; cases h

theorem pk_back (s : List UInt8) : ∀ (m : Nat) (last : List UInt8) (a : Nat) (L : List Pk), a ≤ s.length → s.length - a < m → ocE (pkR s m last a L) = 0 →
    ∃ R, ocL (pkR s m last a L) = L ++ R ∧ linesL R = s.drop a ∧ goodL last R
  | 0, last, a, L, h1, h2, h0 => by omega
  | m + 1, last, a, L, h1, h2, h0 => by
    unfold pkR at h0 ⊢
    cases hp : pk1 s last a L with
    | some o =>
      rw [hp] at h0
      obtain ⟨rfl, h3⟩ := pk1_end hp h0
      exact ⟨[], by simp [ocL], by rw [List.drop_eq_nil_of_le h3]; rfl, trivial⟩
    | none =>
      rw [hp] at h0
      simp only at h0 ⊢
      obtain ⟨q1, q2, q3, q4, q5, q6, q7, q8⟩ := pk1_all hp
      obtain ⟨_, w2, w3, w4, w5⟩ := pk1_none hp
      have hlt : a < nxA s a := by unfold nxA; unfold bN at *; omega
      have hle : nxA s a ≤ s.length := by unfold nxA; omega
      obtain ⟨R, r1, r2, r3⟩ := pk_back s m _ _ _ hle (by omega) h0
      obtain ⟨g1, g2⟩ := (badE_iff s 32 a).1 q4
      obtain ⟨k1, k2⟩ := (badE_iff s 10 (bN s a)).1 q8
      rw [Bool.or_eq_false_iff] at q5
      refine ⟨pkA s a :: R, by rw [r1]; simp, ?_, ?_, ?_, ?_, r3⟩
      · show lineK (pkA s a) ++ linesL R = _
        rw [r2, view s w2 g2, show fxN wB s a + 1 = bN s a from rfl, view s w3 k2]
        unfold lineK pkA nxA
        simp only [List.append_assoc, List.singleton_append, List.cons_append, List.nil_append]
      · rw [word_iff]
        exact ⟨wrd_all s a, g1, by rw [fxN_wrd] at q2; show (wrdA s a).length ≤ 128; omega⟩
      · rw [word_iff]
        exact ⟨wrd_all s (bN s a), k1, by rw [fxN_wrd] at q6; show (wrdA s (bN s a)).length ≤ 128; omega⟩
      · exact less_or (a := wrdA s a) q5.1 (by simpa using q5.2)
theorem pk_forth (s : List UInt8) : ∀ (R : List Pk) (m : Nat) (last : List UInt8) (a : Nat) (L : List Pk), a ≤ s.length → s.length - a < m → s.drop a = linesL R → goodL last R →
    ∃ last', pkR s m last a L = .fin s.length last' (L ++ R)
  | [], m, last, a, L, h1, h2, h3, h4 => by
    have hl := congrArg List.length h3
    rw [List.length_drop] at hl
    simp only [linesL, List.length_nil] at hl
    obtain rfl : a = s.length := by omega
    obtain ⟨m, rfl⟩ : ∃ k, m = k + 1 := ⟨m - 1, by omega⟩
    refine ⟨last, ?_⟩
    unfold pkR
    have : pk1 s last s.length L = some (.fin s.length last L) := by
      unfold pk1
      rw [decide_eq_false (Nat.lt_irrefl _)]
      rfl
    rw [this]
    simp
  | p :: R, m, last, a, L, h1, h2, h3, ⟨g1, g2, g3, g4⟩ => by
    obtain ⟨n1, n2, n3⟩ := (word_iff _).1 g1
    obtain ⟨v1, v2, v3⟩ := (word_iff _).1 g2
    have hv : s.drop a = p.nm ++ 32 :: (p.vr ++ 10 :: linesL R) := by
      rw [h3]
      show lineK p ++ linesL R = _
      unfold lineK
      simp only [List.append_assoc, List.singleton_append, List.cons_append, List.nil_append]
    obtain ⟨a1, a2, a3, a4, a5⟩ := view_back hv n1 (by decide)
    obtain ⟨b1, b2, b3, b4, b5⟩ := view_back (show s.drop (bN s a) = _ from a5) v1 (by decide)
    obtain ⟨m, rfl⟩ : ∃ k, m = k + 1 := ⟨m - 1, by omega⟩
    obtain ⟨l1, l2⟩ := less_asym g3
    have hp : pk1 s last a L = none := pk1_mk ⟨by omega, by omega, by omega, (badE_iff s 32 a).2 ⟨by rw [a1]; exact n2, a4⟩, by rw [a1, l1, Bool.false_or]; simpa using l2, by omega, by omega, (badE_iff s 10 (bN s a)).2 ⟨by rw [b1]; exact v2, b4⟩⟩
    have hlt : a < nxA s a := by unfold nxA; unfold bN at *; omega
    have hle : nxA s a ≤ s.length := by unfold nxA; omega
    obtain ⟨last', hr⟩ := pk_forth s R m (wrdA s a) (nxA s a) (L ++ [pkA s a]) hle (by omega) b5 (by rw [a1]; exact g4)
    refine ⟨last', ?_⟩
    unfold pkR
    rw [hp]
    simp only
    rw [hr, show pkA s a = p by unfold pkA; rw [a1, b1]]
    simp
end Go.Pln
namespace Go.Pln
open Go Go.Proofs Go.Ab
set_option maxRecDepth 100000
set_option linter.unusedVariables false
set_option linter.unusedSimpArgs false

/-! ### The head; Parse and Format, there and back -/
theorem fbad_le (q : Nat → Bool) : ∀ k i, i ≤ fbad q k i ∧ fbad q k i ≤ i + k
  | 0, i => ⟨Nat.le_refl _, Nat.le_refl _⟩
  | k + 1, i => by
    have := fbad_le q k (i + 1)
    unfold fbad
    cases q i
    · exact ⟨Nat.le_refl _, by simp only [cond_false]; omega⟩
    · simp only [cond_true]; omega
theorem fbad_false (q : Nat → Bool) : ∀ k i, fbad q k i < i + k → q (fbad q k i) = false
  | 0, i, h => by unfold fbad at h; omega
  | k + 1, i, h => by
    unfold fbad at h ⊢
    cases hq : q i with
    | true => rw [hq] at h; simp only [cond_true] at h ⊢; exact fbad_false q k (i + 1) (by omega)
    | false => exact hq
theorem fbad_all (q : Nat → Bool) : ∀ k i, (∀ j, i ≤ j → j < i + k → q j = true) → fbad q k i = i + k
  | 0, i, h => rfl
  | k + 1, i, h => by
    unfold fbad
    rw [h i (Nat.le_refl _) (by omega), cond_true, fbad_all q k (i + 1) fun j h1 h2 => h j (by omega) (by omega)]
    omega
theorem fbad_ge (q : Nat → Bool) : ∀ k i, ¬ fbad q k i < i + k → ∀ j, i ≤ j → j < i + k → q j = true
  | 0, i, h, j, h1, h2 => by omega
  | k + 1, i, h, j, h1, h2 => by
    unfold fbad at h
    cases hq : q i with
    | false => rw [hq] at h; simp only [cond_false] at h; omega
    | true =>
      rw [hq] at h
      simp only [cond_true] at h
      rcases Nat.lt_or_ge i j with h3 | h3
      · exact fbad_ge q k (i + 1) (by omega) j (by omega) (by omega)
      · obtain rfl : j = i := by omega
        exact hq

theorem cut_mk {c : UInt8} {w r : List UInt8} (h : ¬ c ∈ w) : cutA c (w ++ c :: r) = w ∧ cutR c (w ++ c :: r) = r ∧ (w ++ c :: r).contains c = true := by
  have hall : ∀ b, b ∈ w → (b != c) = true := fun b hb => by simp; rintro rfl; exact h hb
  unfold cutA cutR
  rw [List.takeWhile_append_of_pos hall, List.dropWhile_append_of_pos hall, List.takeWhile_cons, List.dropWhile_cons]
  simp
theorem cut_view {c : UInt8} {s : List UInt8} (h : c ∈ s) : s = cutA c s ++ c :: cutR c s := by
  unfold cutA cutR
  have h1 : s.takeWhile (· != c) ++ s.dropWhile (· != c) = s := List.takeWhile_append_dropWhile
  have h2 : ∃ r, s.dropWhile (· != c) = c :: r := by
    clear h1
    induction s with
    | nil => simp at h
    | cons b l ih =>
      rw [List.dropWhile_cons]
      by_cases hb : b = c
      · subst hb; exact ⟨l, by simp⟩
      · rcases List.mem_cons.1 h with h | h
        · exact absurd h.symm hb
        · rw [show (b != c) = true by simpa using hb]
          exact ih h
  obtain ⟨r, hr⟩ := h2
  rw [hr] at h1 ⊢
  exact h1.symm
theorem ix_dn : ∀ k : Nat, 1 ≤ k → k < 6 → ixS dnm (dnm k) 6 = k := fun k h1 h2 => by
  rcases (by omega : k = 1 ∨ k = 2 ∨ k = 3 ∨ k = 4 ∨ k = 5) with rfl | rfl | rfl | rfl | rfl <;> decide
theorem ix_back {x : List UInt8} (h : ¬ ixS dnm x 6 < 1) : ∃ k : Nat, 1 ≤ k ∧ k < 6 ∧ ixS dnm x 6 = k ∧ dnm k = x := by
  unfold ixS at h ⊢
  cases hd : decide (fbad (notK dnm x) 6 0 < 6) with
  | false => rw [hd] at h; simp at h
  | true =>
    rw [hd] at h
    simp only [cond_true] at h ⊢
    have h6 := of_decide_eq_true hd
    have hq := fbad_false (notK dnm x) 6 0 (by omega)
    refine ⟨_, by omega, h6, rfl, ?_⟩
    generalize fbad (notK dnm x) 6 0 = j at hq ⊢
    unfold notK at hq
    simpa using hq
theorem dnm_no : ∀ k : Nat, 1 ≤ k → k < 6 → ¬ (32 : UInt8) ∈ dnm k ∧ ¬ (10 : UInt8) ∈ dnm k ++ 32 :: plW := fun k h1 h2 => by
  rcases (by omega : k = 1 ∨ k = 2 ∨ k = 3 ∨ k = 4 ∨ k = 5) with rfl | rfl | rfl | rfl | rfl <;> decide
theorem headN_eq (k : Nat) (r : List UInt8) : headN k ++ r = (dnm k ++ 32 :: plW) ++ 10 :: r := by
  unfold headN dnm plW
  simp

theorem prs_ok {s : List UInt8} (h : (prs s).e = 0) : ∃ (k : Nat) (L : List Pk), 1 ≤ k ∧ k < 6 ∧ prs s = ⟨k, L, 0, 0⟩ ∧ s = headN k ++ linesL L ∧ goodL [] L ∧ s.length ≤ 65536 := by
  unfold prs at h ⊢
  cases h1 : decide (65536 < s.length) with
  | true => rw [h1] at h; cases h
  | false =>
  rw [h1, cond_false] at h
  cases h2 : hdBad s with
  | true => rw [h2] at h; cases h
  | false =>
  rw [h2, cond_false] at h
  cases h3 : s.contains 10 with
  | false => rw [h3] at h; simp only [Bool.not_false, cond_true] at h; exfalso; unfold hdBad at h2
             rw [Bool.or_eq_false_iff, Bool.or_eq_false_iff] at h2
             have hl := h2.2.2
             simp at hl
             have := congrArg List.length hl
             have l1 := cutA_le 10 s
             rw [List.length_append] at this
             simp only [List.length_cons] at this
             omega
  | true =>
  rw [h3, Bool.not_true, cond_false] at h
  cases h4 : (ocE (pkO s (a1 s)) != 0) with
  | true => rw [h4] at h; simp only [cond_true] at h; simp at h4; exact absurd h h4
  | false =>
  simp only [cond_false, cond_true, Bool.not_true]
  have hm : (10 : UInt8) ∈ s := by simpa using h3
  have hs := cut_view hm
  have hlt := cut_lt hm
  unfold hdBad at h2
  simp only [Bool.or_eq_false_iff, decide_eq_false_iff_not, Bool.not_eq_false', beq_iff_eq] at h2
  obtain ⟨g1, g2, g3⟩ := h2
  obtain ⟨k, k1, k2, k3, k4⟩ := ix_back (x := cutA 32 (cutA 10 s)) g1
  have h0 : ocE (pkO s (a1 s)) = 0 := by simpa using h4
  obtain ⟨R, r1, r2, r3⟩ := pk_back s (s.length + 1 - a1 s) [] (a1 s) [] (by unfold a1; omega) (by unfold a1; omega) h0
  refine ⟨k, R, k1, k2, ?_, ?_, r3, by have := of_decide_eq_false h1; omega⟩
  · unfold dix
    rw [k3, show ocL (pkO s (a1 s)) = R by unfold pkO; rw [r1]; rfl]
  · rw [headN_eq, k4]
    have hd : s.drop (a1 s) = cutR 10 s := cut_drop
    rw [r2, hd]
    refine hs.trans ?_
    rw [← g3]
theorem prs_mk {k : Nat} {L : List Pk} (k1 : 1 ≤ k) (k2 : k < 6) (hg : goodL [] L) (hl : (headN k ++ linesL L).length ≤ 65536) : prs (headN k ++ linesL L) = ⟨k, L, 0, 0⟩ := by
  obtain ⟨n1, n2⟩ := dnm_no k k1 k2
  generalize hs : headN k ++ linesL L = s at hl
  have hs' := hs
  rw [headN_eq] at hs'
  obtain ⟨c1, c2, c3⟩ := cut_mk (r := linesL L) n2
  obtain ⟨e1, e2, e3⟩ := cut_mk (r := plW) n1
  rw [hs'] at c1 c2 c3
  rw [← c1] at e1 e2 e3
  have hd : s.drop (a1 s) = linesL L := by rw [← c2]; exact cut_drop
  have hdx : dix s = k := by unfold dix; rw [e1]; exact ix_dn k k1 k2
  have hb : hdBad s = false := by
    unfold hdBad
    rw [hdx, e2, decide_eq_false (show ¬ (k : Int) < 1 by omega), e1, ← c1]
    simp
  have hlt := cut_lt (c := 10) (s := s) (by simpa using c3)
  obtain ⟨last', hp⟩ := pk_forth s L (s.length + 1 - a1 s) [] (a1 s) [] (by unfold a1; omega) (by unfold a1; omega) hd hg
  have hp' : pkO s (a1 s) = .fin s.length last' L := hp
  unfold prs
  rw [decide_eq_false (show ¬ 65536 < s.length by omega), hb, c3, hp', hdx]
  rfl
end Go.Pln
namespace Go.Pln
open Go Go.Proofs Go.Ab
set_option maxRecDepth 100000
set_option linter.unusedVariables false
set_option linter.unusedSimpArgs false

/-! ### The law -/
theorem fit_iff (f : Nat → Pk) (n : Nat) : fitK f n = true ↔ ∀ i, i < n → okK f i = true := by
  unfold fitK
  rw [decide_eq_true_eq]
  constructor
  · intro h i hi
    exact fbad_ge (okK f) n 0 (by omega) i (Nat.zero_le _) (by omega)
  · intro h
    rw [fbad_all (okK f) n 0 fun j _ hj => h j (by omega)]
    omega
theorem eq_all {f g : Nat → Pk} {n : Nat} (h : ∀ i, i < n → f i = g i) : eqK f g n n = true := by
  unfold eqK
  rw [fbad_all (samK f g) n 0 fun j _ hj => by unfold samK; rw [h j (by omega)]; simp]
  simp
def lsF (f : Nat → Pk) : Nat → Nat → List Pk
  | 0, _ => []
  | k + 1, i => f i :: lsF f k (i + 1)
theorem lsF_len (f : Nat → Pk) : ∀ k i, (lsF f k i).length = k
  | 0, i => rfl
  | k + 1, i => by simp [lsF, lsF_len f k]
theorem lines_lsF (f : Nat → Pk) : ∀ k i, linesF f k i = linesL (lsF f k i)
  | 0, i => rfl
  | k + 1, i => by
    show lineK (f i) ++ linesF f k (i + 1) = lineK (f i) ++ linesL (lsF f k (i + 1))
    rw [lines_lsF f k]
theorem fnG_lsF (f : Nat → Pk) (d : Pk) : ∀ k j i, i < k → fnG d (lsF f k j) i = f (j + i)
  | 0, j, i, h => by omega
  | k + 1, j, 0, h => rfl
  | k + 1, j, i + 1, h => by
    show fnG d (lsF f k (j + 1)) i = _
    rw [fnG_lsF f d k (j + 1) i (by omega)]
    congr 1
    omega
theorem lsF_fnG (d : Pk) (L : List Pk) : ∀ k i, i + k = L.length → lsF (fnG d L) k i = L.drop i
  | 0, i, h => by rw [List.drop_eq_nil_of_le (by omega)]; rfl
  | k + 1, i, h => by
    show fnG d L i :: lsF (fnG d L) k (i + 1) = _
    rw [lsF_fnG d L k (i + 1) (by omega), ← drop_fnG (show i < L.length by omega)]
theorem good_lsF (f : Nat → Pk) (last : Nat → List UInt8) (hl : ∀ i, last (i + 1) = (f i).nm) (h0 : last 0 = []) : ∀ k i, (∀ j, i ≤ j → j < i + k → okK f j = true) → goodL (last i) (lsF f k i)
  | 0, i, h => trivial
  | k + 1, i, h => by
    have hi := h i (Nat.le_refl _) (by omega)
    unfold okK at hi
    simp only [Bool.and_eq_true] at hi
    obtain ⟨h1, h2, h3⟩ := hi
    refine ⟨h1, h2, ?_, ?_⟩
    · cases i with
      | zero =>
        rw [h0]
        cases hn : (f 0).nm with
        | nil => rw [hn] at h1; cases h1
        | cons x l => rfl
      | succ i =>
        rw [hl]
        simpa using h3
    · rw [← hl i]
      exact good_lsF f last hl h0 k (i + 1) fun j h1 h2 => h j (by omega) (by omega)
theorem good_of_fit {f : Nat → Pk} {n : Nat} (h : fitK f n = true) : goodL [] (lsF f n 0) :=
  good_lsF f (fun i => match i with | 0 => [] | k + 1 => (f k).nm) (fun i => rfl) rfl n 0 fun j _ hj => (fit_iff f n).1 h j (by omega)
theorem good_ok (d : Pk) : ∀ (L : List Pk) (last : List UInt8), goodL last L → ∀ i, i < L.length → word (fnG d L i).nm = true ∧ word (fnG d L i).vr = true ∧ (∀ k, i = k + 1 → abytesLess (fnG d L k).nm (fnG d L i).nm = true)
  | [], last, h, i, hi => by simp at hi
  | p :: R, last, ⟨h1, h2, h3, h4⟩, 0, hi => ⟨h1, h2, fun k hk => by omega⟩
  | p :: R, last, ⟨h1, h2, h3, h4⟩, i + 1, hi => by
    have ih := good_ok d R p.nm h4 i (by simpa using hi)
    refine ⟨ih.1, ih.2.1, fun k hk => ?_⟩
    obtain rfl : k = i := by omega
    cases k with
    | zero =>
      cases R with
      | nil => simp at hi
      | cons q R => exact h4.2.2.1
    | succ k => exact ih.2.2 k rfl
theorem fit_of_good {d : Pk} {L : List Pk} (h : goodL [] L) : fitK (fnG d L) L.length = true := by
  rw [fit_iff]
  intro i hi
  obtain ⟨h1, h2, h3⟩ := good_ok d L [] h i hi
  unfold okK
  rw [h1, h2]
  cases i with
  | zero => rfl
  | succ k => simpa using h3 k rfl
theorem lines_le (f : Nat → Pk) (B : Nat) : ∀ k i, (∀ j, i ≤ j → j < i + k → (f j).nm.length ≤ B ∧ (f j).vr.length ≤ B) → (linesF f k i).length ≤ k * (2 * B + 2)
  | 0, i, h => by simp [linesF]
  | k + 1, i, h => by
    rw [linesF_len]
    have h1 := h i (Nat.le_refl _) (by omega)
    have h2 := lines_le f B k (i + 1) fun j h1 h2 => h j (by omega) (by omega)
    have h3 : (lineK (f i)).length = (f i).nm.length + 1 + (f i).vr.length + 1 := by
      unfold lineK; simp only [List.length_append, List.length_cons, List.length_nil]
    rw [Nat.succ_mul]
    omega
noncomputable abbrev ev4 (d : Int) (n : Nat) (f : Nat → Pk) (s : List UInt8) : Option (AV × Hp) := (evn tabJ h4 noLoops 4 [.int .i64 d, .sl 2 n (rowK f), .str s] []).run
noncomputable def sec4 (s : List UInt8) : Option (AV × Hp) :=
  bif ((prs s).e : Int) != 0 then some (.bool true, [])
  else bif isEn en14 p14 [AV.int IntKind.i64 (prs s).d, AV.sl 2 (prs s).L.length (rowK (fnG CK.df (prs s).L))] then
   bif fmtK (prs s).d (prs s).L.length (unK (rowK (fnG CK.df (prs s).L))) == s then some (.bool true, []) else some (.bool false, [])
  else none
theorem t4 (d : Int) (n : Nat) (f : Nat → Pk) (s : List UInt8) : ev4 d n f s =
  bif isEn en14 p14 [AV.int IntKind.i64 d, AV.sl 2 n (rowK f)] then
   bif !fmtK d n (unK (rowK f)) == [] then
    bif decide (((fmtK d n (unK (rowK f))).length : Int) ≤ 65536) then
     bif (prs (fmtK d n (unK (rowK f)))).d != d then some (.bool false, [])
     else bif isEn en12 p12 [AV.sl 2 (prs (fmtK d n (unK (rowK f)))).L.length (rowK (fnG CK.df (prs (fmtK d n (unK (rowK f)))).L)), AV.sl 2 n (rowK f)] then
      bif !eqK (unK (rowK (fnG CK.df (prs (fmtK d n (unK (rowK f)))).L))) (unK (rowK f)) (prs (fmtK d n (unK (rowK f)))).L.length n then some (.bool false, [])
      else bif !(((prs (fmtK d n (unK (rowK f)))).e : Int) == 0 && (((prs (fmtK d n (unK (rowK f)))).fa : Int) == 0 && true)) then some (.bool false, [])
      else sec4 s
     else none
    else sec4 s
   else sec4 s
  else none := by kernel_rfl
theorem sec4_ok (s : List UInt8) : sec4 s = some (.bool true, []) := by
  unfold sec4
  by_cases h : (prs s).e = 0
  · obtain ⟨k, L, k1, k2, hp, hs, hg, hl⟩ := prs_ok h
    rw [hp]
    have hll : linesF (fnG CK.df L) L.length 0 = linesL L := by
      rw [lines_lsF, lsF_fnG CK.df L L.length 0 (by omega)]
      rfl
    have hlen : (headN k ++ linesL L).length ≤ 65536 := by rw [← hs]; exact hl
    rw [List.length_append] at hlen
    have hLn : ∀ R : List Pk, R.length ≤ (linesL R).length := by
      intro R
      induction R with
      | nil => exact Nat.zero_le _
      | cons p R ih =>
        show R.length + 1 ≤ (lineK p ++ linesL R).length
        unfold lineK
        simp only [List.length_append, List.length_cons, List.length_nil]
        omega
    have := hLn L
    rw [k14 k L.length (fnG CK.df L) ⟨by simp only [bnd]; omega, by rw [hll]; omega⟩, unK_rowK]
    have hf : fmtK k L.length (fnG CK.df L) = s := by
      unfold fmtK
      rw [fit_of_good hg, decide_eq_true (show (1 : Int) ≤ k by omega), decide_eq_true (show (k : Int) < 6 by omega), hll, hs]
      simp
    rw [hf]
    simp
  · rw [show (((prs s).e : Int) != 0) = true by rw [bne_iff_ne]; omega]
    rfl
theorem tree4 (d : Int) (n : Nat) (f : Nat → Pk) (s : List UInt8) (h1 : n ≤ 1048576) (h2 : ∀ j, j < n → (f j).nm.length ≤ 1048576 ∧ (f j).vr.length ≤ 1048576) : ev4 d n f s = some (.bool true, []) := by
  have hll := lines_le f 1048576 n 0 fun j _ hj => h2 j (by omega)
  have hmul : n * (2 * 1048576 + 2) ≤ 1048576 * (2 * 1048576 + 2) := Nat.mul_le_mul_right _ h1
  rw [t4, k14 d n f ⟨by simp only [bnd]; omega, by omega⟩, unK_rowK, sec4_ok]
  simp only [cond_true]
  by_cases hc : (decide (1 ≤ d) && (decide (d < 6) && fitK f n)) = true
  · simp only [Bool.and_eq_true, decide_eq_true_eq] at hc
    obtain ⟨c1, c2, c3⟩ := hc
    obtain ⟨k, rfl⟩ : ∃ k : Nat, d = k := ⟨d.toNat, by omega⟩
    have hf : fmtK k n f = headN k ++ linesL (lsF f n 0) := by
      unfold fmtK
      rw [c3, decide_eq_true c1, decide_eq_true c2, lines_lsF]
      simp
    rw [hf]
    have hne : (headN k ++ linesL (lsF f n 0) == []) = false := by
      unfold headN
      simp
    rw [hne]
    simp only [Bool.not_false, cond_true]
    by_cases hsz : (headN k ++ linesL (lsF f n 0)).length ≤ 65536
    · have hp := prs_mk (k := k) (L := lsF f n 0) (by omega) (by omega) (good_of_fit c3) hsz
      rw [hp]
      simp only [lsF_len]
      rw [k12 n _ n f (by simp only [bnd]; omega), unK_rowK, eq_all (f := fnG CK.df (lsF f n 0)) (g := f) (n := n) fun i hi => by rw [fnG_lsF f _ n 0 i hi, Nat.zero_add]]
      rw [decide_eq_true (show (((headN k ++ linesL (lsF f n 0)).length : Nat) : Int) ≤ 65536 by omega)]
      simp
    · rw [decide_eq_false (show ¬ (((headN k ++ linesL (lsF f n 0)).length : Nat) : Int) ≤ 65536 by omega)]
      rfl
  · have hf : fmtK d n f = [] := by
      unfold fmtK
      rw [Bool.not_eq_true] at hc
      rw [hc]
      rfl
    rw [hf]
    rfl
end Go.Pln

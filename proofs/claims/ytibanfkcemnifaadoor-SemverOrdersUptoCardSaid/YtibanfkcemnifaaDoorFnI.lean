/- Lemmas for the claims of this seat (a verified symbolic evaluator, and contracts of functions): own work; no condition. -/
import Derived.Test.YtibanfkcemnifaaDoorFnH
namespace Go.Sem

open Go Go.Proofs Go.Ab

set_option maxRecDepth 100000

set_option linter.unusedVariables false

set_option linter.unusedSimpArgs false

/-! ### Next, of both; contracts that take nil rows -/

def shV : Sh := .agg [.any, .any, .any, .rows 1, .rows 1]

noncomputable def c12w : List AV → T AV := fun args => c12 (wkL [shV] args)

theorem s12w : Sound1 Tryd.prog ⟨12, true, pcon c12w⟩ := sound_wk s12 [shV]

noncomputable def c17w : List AV → T AV := fun args => c17 (wkL [shV] args)

theorem s17w : Sound1 Tryd.prog ⟨17, true, pcon c17w⟩ := sound_wk s17 [shV]

noncomputable def c13w : List AV → T AV := fun args => c13 (wkL [shV, shV] args)

theorem s13w : Sound1 Tryd.prog ⟨13, true, pcon c13w⟩ := sound_wk s13 [shV, shV]

noncomputable def c15w : List AV → T AV := fun args => c15 (wkL [shV, shV] args)

theorem s15w : Sound1 Tryd.prog ⟨15, true, pcon c15w⟩ := sound_wk s15 [shV, shV]

noncomputable def tabC1 : Tab := ⟨12, true, pcon c12w⟩ :: ⟨17, true, pcon c17w⟩ :: ⟨13, true, pcon c13w⟩ :: ⟨15, true, pcon c15w⟩ :: ⟨39, true, pcon c39⟩ :: ⟨47, true, pcon c47⟩ :: tabB4

theorem all_tabC1 : ∀ e, e ∈ tabC1 → Sound1 Tryd.prog e := (sound_mem_tab s12w (sound_mem_tab s17w (sound_mem_tab s13w (sound_mem_tab s15w (sound_mem_tab s39 (sound_mem_tab s47 all_tabB4))))))

theorem ok_tabC1 : SoundTab Tryd.prog tabC1 := soundTab_of all_tabC1

/-- The version behind one, by a part, fit or not. -/
def nxW (v : Ver) (n : Int) : Ver := bif n == 0 then ⟨nextD v.mj, [48], [48], [], []⟩ else bif n == 1 then ⟨v.mj, nextD v.mn, [48], [], []⟩ else ⟨v.mj, v.mn, nextD v.pt, [], []⟩

def nxV (v : Ver) (n : Int) : Ver := bif fitV v && decide (0 ≤ n ∧ n ≤ 2) && fitV (nxW v n) then nxW v n else ⟨[], [], [], [], []⟩

theorem vOf_nil (a b c : List UInt8) : vOf a b c 0 (strF []) 0 (strF []) = ⟨a, b, c, [], []⟩ := rfl

theorem dropB_len (c : Int) (l : List UInt8) : (dropB c l).length ≤ l.length := by
  unfold dropB
  exact (List.dropWhile_sublist _).length_le

theorem incL_len : ∀ l : List UInt8, (incL l).2.length = l.length
  | [] => rfl
  | b :: r => by
    have := incL_len r
    unfold incL
    cases (incL r).1 <;> cases ((b.toNat : Int) == 57) <;> simp [this]

theorem trimD_len (l : List UInt8) : (trimD l).length ≤ l.length ∨ (trimD l).length = 1 := by
  have := dropB_len 48 l
  unfold trimD
  split
  · exact .inr rfl
  · exact .inl this

theorem nextD_len (s : List UInt8) : (nextD s).length ≤ s.length + 1 := by
  have h := trimD_len (incL (48 :: s)).2
  rw [incL_len, List.length_cons] at h
  unfold nextD
  split
  · omega
  · simp

theorem fit_len {v : Ver} (h : fitV v = true) : (textV v).length ≤ 64 ∧ v.mj.length + v.mn.length + v.pt.length + 2 ≤ (textV v).length := by
  unfold fitV at h
  simp only [Bool.and_eq_true, decide_eq_true_eq] at h
  refine ⟨by omega, ?_⟩
  simp only [textV, List.length_append, List.length_cons, List.length_nil]
  omega

theorem room_n {a b c : List UInt8} (h1 : a.length ≤ 281474976710656) (h2 : b.length ≤ 281474976710656) (h3 : c.length ≤ 281474976710656) : roomV ⟨a, b, c, [], []⟩ :=
  ⟨⟨h1, h2, h3⟩, ⟨by simp, by simp [joinS, Go.Lib.join_nil]⟩, ⟨by simp, by simp [joinS, Go.Lib.join_nil]⟩⟩

theorem chk_n {a b c : List UInt8} (h : roomV ⟨a, b, c, [], []⟩) {i : Decidable (IsStrs (strF []) 0 ∧ IsStrs (strF []) 0 ∧ roomV ⟨a, b, c, [], []⟩)} : @decide _ i = true := decide_eq_true ⟨isStrs_strF [], isStrs_strF [], h⟩

theorem k17n {a b c : List UInt8} (h : roomV ⟨a, b, c, [], []⟩) : isEn en17 p17 [.agg [.str a, .str b, .str c, .sl 1 0 (strF []), .sl 1 0 (strF [])]] = true := k17 ⟨a, b, c, [], []⟩ h

theorem one_len : ([48] : List UInt8).length ≤ 281474976710656 := by decide

theorem t14 (v : Ver) (n : Int) : (evn tabC1 h14 noLoops 14 [.agg [.str v.mj, .str v.mn, .str v.pt, .sl 1 v.pre.length (strF v.pre), .sl 1 v.bu.length (strF v.bu)], .int .i64 n] []).run =
  bif decide (IsStrs (strF v.pre) v.pre.length ∧ IsStrs (strF v.bu) v.bu.length ∧ roomV (vOf v.mj v.mn v.pt v.pre.length (strF v.pre) v.bu.length (strF v.bu))) then
   bif !fitV (vOf v.mj v.mn v.pt v.pre.length (strF v.pre) v.bu.length (strF v.bu)) then
    some ((AV.agg [AV.str [], AV.str [], AV.str [], AV.nilsl, AV.nilsl], []))
   else
    bif n == (0 : Int) then
     bif decide (v.mj.length ≤ 1073741824) then
      bif decide (IsStrs (strF []) 0 ∧ IsStrs (strF []) 0 ∧ roomV (vOf (nextD v.mj) [(48 : UInt8)] [(48 : UInt8)] 0 (strF []) 0 (strF []))) then
       bif !fitV (vOf (nextD v.mj) [(48 : UInt8)] [(48 : UInt8)] 0 (strF []) 0 (strF [])) then
        some ((AV.agg [AV.str [], AV.str [], AV.str [], AV.nilsl, AV.nilsl], []))
       else
        some ((AV.agg [AV.str (nextD v.mj), AV.str [(48 : UInt8)], AV.str [(48 : UInt8)], AV.nilsl, AV.nilsl], []))
      else
       none
     else
      none
    else
     bif n == (1 : Int) then
      bif decide (v.mn.length ≤ 1073741824) then
       bif decide (IsStrs (strF []) 0 ∧ IsStrs (strF []) 0 ∧ roomV (vOf v.mj (nextD v.mn) [(48 : UInt8)] 0 (strF []) 0 (strF []))) then
        bif !fitV (vOf v.mj (nextD v.mn) [(48 : UInt8)] 0 (strF []) 0 (strF [])) then
         some ((AV.agg [AV.str [], AV.str [], AV.str [], AV.nilsl, AV.nilsl], []))
        else
         some ((AV.agg [AV.str v.mj, AV.str (nextD v.mn), AV.str [(48 : UInt8)], AV.nilsl, AV.nilsl], []))
       else
        none
      else
       none
     else
      bif n == (2 : Int) then
       bif decide (v.pt.length ≤ 1073741824) then
        bif decide (IsStrs (strF []) 0 ∧ IsStrs (strF []) 0 ∧ roomV (vOf v.mj v.mn (nextD v.pt) 0 (strF []) 0 (strF []))) then
         bif !fitV (vOf v.mj v.mn (nextD v.pt) 0 (strF []) 0 (strF [])) then
          some ((AV.agg [AV.str [], AV.str [], AV.str [], AV.nilsl, AV.nilsl], []))
         else
          some ((AV.agg [AV.str v.mj, AV.str v.mn, AV.str (nextD v.pt), AV.nilsl, AV.nilsl], []))
        else
         none
       else
        none
      else
       some ((AV.agg [AV.str [], AV.str [], AV.str [], AV.nilsl, AV.nilsl], []))
  else
   none := by kernel_rfl

structure X14 where
  v : Ver
  n : Int

def en14 : X14 → List AV := fun ⟨v, n⟩ => [.agg [.str v.mj, .str v.mn, .str v.pt, .sl 1 v.pre.length (strF v.pre), .sl 1 v.bu.length (strF v.bu)], .int .i64 n]

def de14 : List AV → X14
  | [.agg [.str v_a, .str v_b, .str v_c, .sl 1 v_n v_f, .sl 1 v_m v_g], .int .i64 n] => ⟨vOf v_a v_b v_c v_n v_f v_m v_g, n⟩
  | _ => ⟨default, default⟩

def p14 : X14 → Prop := fun ⟨v, n⟩ => roomV v

def rs14 : X14 → T AV := fun ⟨v, n⟩ => .leaf (.agg [.str (nxV v n).mj, .str (nxV v n).mn, .str (nxV v n).pt, .nilsl, .nilsl])

noncomputable def c14 : List AV → T AV := ccon en14 de14 p14 rs14

theorem in14 : ∀ x, de14 (en14 x) = x := by
  rintro ⟨v, n⟩
  simp only [en14, de14, vOf_strF]

theorem k14 (v : Ver) (n : Int) (h : roomV v) : isEn en14 p14 [.agg [.str v.mj, .str v.mn, .str v.pt, .sl 1 v.pre.length (strF v.pre), .sl 1 v.bu.length (strF v.bu)], .int .i64 n] = true := isEn_true (enc := en14) (p := p14) ⟨v, n⟩ h

theorem e14 (v : Ver) (n : Int) (hF : FitsL [.agg [.str v.mj, .str v.mn, .str v.pt, .sl 1 v.pre.length (strF v.pre), .sl 1 v.bu.length (strF v.bu)], .int .i64 n]) (hp : roomV v) : (evn tabC1 h14 noLoops 14 [.agg [.str v.mj, .str v.mn, .str v.pt, .sl 1 v.pre.length (strF v.pre), .sl 1 v.bu.length (strF v.bu)], .int .i64 n] []).run = (.leaf (.agg [.str (nxV v n).mj, .str (nxV v n).mn, .str (nxV v n).pt, .nilsl, .nilsl]) : T AV).run.map fun r => (r, []) := by
  refine (t14 v n).trans ?_
  simp only [vOf_ver, vOf_nil]
  rw [chk_v hp]
  unfold nxV nxW
  cases hf : fitV v with
  | false => rfl
  | true =>
    have hl := fit_len hf
    have n1 := nextD_len v.mj
    have n2 := nextD_len v.mn
    have n3 := nextD_len v.pt
    rw [decide_eq_true (show v.mj.length ≤ 1073741824 by omega), decide_eq_true (show v.mn.length ≤ 1073741824 by omega), decide_eq_true (show v.pt.length ≤ 1073741824 by omega)]
    have r1 := room_n (a := nextD v.mj) (b := [48]) (c := [48]) (by omega) one_len one_len
    have r2 := room_n (a := v.mj) (b := nextD v.mn) (c := [48]) (by omega) (by omega) one_len
    have r3 := room_n (a := v.mj) (b := v.mn) (c := nextD v.pt) (by omega) (by omega) (by omega)
    have hn : IsStrs (strF []) 0 := isStrs_strF []
    simp only [hn, r1, r2, r3, and_self, decide_true, cond_true, Bool.not_true, cond_false, Bool.true_and]
    by_cases e0 : n = 0
    · subst e0
      cases hg : fitV ⟨nextD v.mj, [48], [48], [], []⟩ <;> simp [hg] <;> rfl
    · by_cases e1 : n = 1
      · subst e1
        cases hg : fitV ⟨v.mj, nextD v.mn, [48], [], []⟩ <;> simp [hg] <;> rfl
      · by_cases e2 : n = 2
        · subst e2
          cases hg : fitV ⟨v.mj, v.mn, nextD v.pt, [], []⟩ <;> simp [hg] <;> rfl
        · have e3 : decide (0 ≤ n ∧ n ≤ 2) = false := by simp; omega
          rw [show (n == 0) = false by simpa using e0, show (n == 1) = false by simpa using e1, show (n == 2) = false by simpa using e2, e3]
          rfl

theorem s14 : Sound1 Tryd.prog ⟨14, true, pcon c14⟩ := by
  refine sound_c (soundTab_of all_tabC1) H0 in14 (hn := h14) (m := 20) (k := 9) (Λ := noLoops) (fun i hi => anyLoops) ?_
  rintro ⟨v, n⟩ hp hF
  exact e14 v n hF hp

theorem t19 (v : Ver) (n : Int) : (evn tabC1 h19 noLoops 19 [.agg [.str v.mj, .str v.mn, .str v.pt, .sl 1 v.pre.length (strF v.pre), .sl 1 v.bu.length (strF v.bu)], .int .i64 n] []).run =
  bif isEn en17 p17 [AV.agg [AV.str v.mj, AV.str v.mn, AV.str v.pt, AV.sl 1 v.pre.length (strF v.pre), AV.sl 1 v.bu.length (strF v.bu)]] then
   bif !fitV (vOf v.mj v.mn v.pt v.pre.length (strF v.pre) v.bu.length (strF v.bu)) then
    some ((AV.agg [AV.str [], AV.str [], AV.str [], AV.nilsl, AV.nilsl], []))
   else
    bif decide (n < (0 : Int)) then
     some ((AV.agg [AV.str [], AV.str [], AV.str [], AV.nilsl, AV.nilsl], []))
    else
     bif decide (n > (2 : Int)) then
      some ((AV.agg [AV.str [], AV.str [], AV.str [], AV.nilsl, AV.nilsl], []))
     else
      bif n == (0 : Int) then
       bif decide (v.mj.length ≤ 1073741824) then
        bif isEn en17 p17 [AV.agg [AV.str (nextD v.mj), AV.str [(48 : UInt8)], AV.str [(48 : UInt8)], AV.sl 1 0 (strF []), AV.sl 1 0 (strF [])]] then
         bif !fitV (vOf (nextD v.mj) [(48 : UInt8)] [(48 : UInt8)] 0 (strF []) 0 (strF [])) then
          some ((AV.agg [AV.str [], AV.str [], AV.str [], AV.nilsl, AV.nilsl], []))
         else
          some ((AV.agg [AV.str (nextD v.mj), AV.str [(48 : UInt8)], AV.str [(48 : UInt8)], AV.nilsl, AV.nilsl], []))
        else
         none
       else
        none
      else
       bif n == (1 : Int) then
        bif decide (v.mn.length ≤ 1073741824) then
         bif isEn en17 p17 [AV.agg [AV.str v.mj, AV.str (nextD v.mn), AV.str [(48 : UInt8)], AV.sl 1 0 (strF []), AV.sl 1 0 (strF [])]] then
          bif !fitV (vOf v.mj (nextD v.mn) [(48 : UInt8)] 0 (strF []) 0 (strF [])) then
           some ((AV.agg [AV.str [], AV.str [], AV.str [], AV.nilsl, AV.nilsl], []))
          else
           some ((AV.agg [AV.str v.mj, AV.str (nextD v.mn), AV.str [(48 : UInt8)], AV.nilsl, AV.nilsl], []))
         else
          none
        else
         none
       else
        bif decide (v.pt.length ≤ 1073741824) then
         bif isEn en17 p17 [AV.agg [AV.str v.mj, AV.str v.mn, AV.str (nextD v.pt), AV.sl 1 0 (strF []), AV.sl 1 0 (strF [])]] then
          bif !fitV (vOf v.mj v.mn (nextD v.pt) 0 (strF []) 0 (strF [])) then
           some ((AV.agg [AV.str [], AV.str [], AV.str [], AV.nilsl, AV.nilsl], []))
          else
           some ((AV.agg [AV.str v.mj, AV.str v.mn, AV.str (nextD v.pt), AV.nilsl, AV.nilsl], []))
         else
          none
        else
         none
  else
   none := by kernel_rfl

structure X19 where
  v : Ver
  n : Int

def en19 : X19 → List AV := fun ⟨v, n⟩ => [.agg [.str v.mj, .str v.mn, .str v.pt, .sl 1 v.pre.length (strF v.pre), .sl 1 v.bu.length (strF v.bu)], .int .i64 n]

def de19 : List AV → X19
  | [.agg [.str v_a, .str v_b, .str v_c, .sl 1 v_n v_f, .sl 1 v_m v_g], .int .i64 n] => ⟨vOf v_a v_b v_c v_n v_f v_m v_g, n⟩
  | _ => ⟨default, default⟩

def p19 : X19 → Prop := fun ⟨v, n⟩ => roomV v

def rs19 : X19 → T AV := fun ⟨v, n⟩ => .leaf (.agg [.str (nxV v n).mj, .str (nxV v n).mn, .str (nxV v n).pt, .nilsl, .nilsl])

noncomputable def c19 : List AV → T AV := ccon en19 de19 p19 rs19

theorem in19 : ∀ x, de19 (en19 x) = x := by
  rintro ⟨v, n⟩
  simp only [en19, de19, vOf_strF]

theorem k19 (v : Ver) (n : Int) (h : roomV v) : isEn en19 p19 [.agg [.str v.mj, .str v.mn, .str v.pt, .sl 1 v.pre.length (strF v.pre), .sl 1 v.bu.length (strF v.bu)], .int .i64 n] = true := isEn_true (enc := en19) (p := p19) ⟨v, n⟩ h

theorem e19 (v : Ver) (n : Int) (hF : FitsL [.agg [.str v.mj, .str v.mn, .str v.pt, .sl 1 v.pre.length (strF v.pre), .sl 1 v.bu.length (strF v.bu)], .int .i64 n]) (hp : roomV v) : (evn tabC1 h19 noLoops 19 [.agg [.str v.mj, .str v.mn, .str v.pt, .sl 1 v.pre.length (strF v.pre), .sl 1 v.bu.length (strF v.bu)], .int .i64 n] []).run = (.leaf (.agg [.str (nxV v n).mj, .str (nxV v n).mn, .str (nxV v n).pt, .nilsl, .nilsl]) : T AV).run.map fun r => (r, []) := by
  refine (t19 v n).trans ?_
  simp only [vOf_ver, vOf_nil]
  rw [k17 _ hp]
  unfold nxV nxW
  cases hf : fitV v with
  | false => rfl
  | true =>
    have hl := fit_len hf
    have n1 := nextD_len v.mj
    have n2 := nextD_len v.mn
    have n3 := nextD_len v.pt
    rw [decide_eq_true (show v.mj.length ≤ 1073741824 by omega), decide_eq_true (show v.mn.length ≤ 1073741824 by omega), decide_eq_true (show v.pt.length ≤ 1073741824 by omega),
      k17n (a := nextD v.mj) (room_n (by omega) one_len one_len), k17n (a := v.mj) (b := nextD v.mn) (room_n (by omega) (by omega) one_len), k17n (a := v.mj) (b := v.mn) (c := nextD v.pt) (room_n (by omega) (by omega) (by omega))]
    by_cases e0 : n = 0
    · subst e0
      cases hg : fitV ⟨nextD v.mj, [48], [48], [], []⟩ <;> simp [hg] <;> rfl
    · by_cases e1 : n = 1
      · subst e1
        cases hg : fitV ⟨v.mj, nextD v.mn, [48], [], []⟩ <;> simp [hg] <;> rfl
      · by_cases e2 : n = 2
        · subst e2
          cases hg : fitV ⟨v.mj, v.mn, nextD v.pt, [], []⟩ <;> simp [hg] <;> rfl
        · by_cases e4 : n < 0
          · have e3 : decide (0 ≤ n ∧ n ≤ 2) = false := by simp; omega
            rw [e3, decide_eq_true e4]; rfl
          · have e3 : decide (0 ≤ n ∧ n ≤ 2) = false := by simp; omega
            rw [e3, decide_eq_false e4, decide_eq_true (show n > 2 by omega)]; rfl

theorem s19 : Sound1 Tryd.prog ⟨19, true, pcon c19⟩ := by
  refine sound_c (soundTab_of all_tabC1) H0 in19 (hn := h19) (m := 20) (k := 9) (Λ := noLoops) (fun i hi => anyLoops) ?_
  rintro ⟨v, n⟩ hp hF
  exact e19 v n hF hp

noncomputable def tabC2 : Tab := ⟨14, true, pcon c14⟩ :: ⟨19, true, pcon c19⟩ :: tabC1

theorem all_tabC2 : ∀ e, e ∈ tabC2 → Sound1 Tryd.prog e := (sound_mem_tab s14 (sound_mem_tab s19 all_tabC1))

theorem ok_tabC2 : SoundTab Tryd.prog tabC2 := soundTab_of all_tabC2

theorem t5 (v : Ver) (n : Int) : (evn tabC2 h5 noLoops 5 [.agg [.str v.mj, .str v.mn, .str v.pt, .sl 1 v.pre.length (strF v.pre), .sl 1 v.bu.length (strF v.bu)], .int .i64 n] []).run =
  bif decide (IsStrs (strF v.pre) v.pre.length ∧ IsStrs (strF v.bu) v.bu.length ∧ roomV (vOf v.mj v.mn v.pt v.pre.length (strF v.pre) v.bu.length (strF v.bu))) then
   bif !fitV (vOf v.mj v.mn v.pt v.pre.length (strF v.pre) v.bu.length (strF v.bu)) then
    some ((AV.bool true, []))
   else
    bif isEn en14 p14 [AV.agg [AV.str v.mj, AV.str v.mn, AV.str v.pt, AV.sl 1 v.pre.length (strF v.pre), AV.sl 1 v.bu.length (strF v.bu)], AV.int IntKind.i64 (IntKind.i64.wrap ((IntKind.u64.wrap n).tmod (3 : Int)))] then
     bif (nxV (vOf v.mj v.mn v.pt v.pre.length (strF v.pre) v.bu.length (strF v.bu)) (IntKind.i64.wrap ((IntKind.u64.wrap n).tmod (3 : Int)))).mj == [] then
      bif decide (IntKind.i64.wrap (IntKind.i64.wrap ((↑v.mj.length : Int) + (↑v.mn.length : Int)) + (↑v.pt.length : Int)) > (50 : Int)) then
       some ((AV.bool true, []))
      else
       some ((AV.bool false, []))
     else
      bif decide (IsStrs (strF v.pre) v.pre.length ∧ IsStrs (strF v.bu) v.bu.length ∧ IsStrs (strF []) 0 ∧ IsStrs (strF []) 0 ∧ roomV (vOf v.mj v.mn v.pt v.pre.length (strF v.pre) v.bu.length (strF v.bu)) ∧ roomV (vOf (nxV (vOf v.mj v.mn v.pt v.pre.length (strF v.pre) v.bu.length (strF v.bu)) (IntKind.i64.wrap ((IntKind.u64.wrap n).tmod (3 : Int)))).mj (nxV (vOf v.mj v.mn v.pt v.pre.length (strF v.pre) v.bu.length (strF v.bu)) (IntKind.i64.wrap ((IntKind.u64.wrap n).tmod (3 : Int)))).mn (nxV (vOf v.mj v.mn v.pt v.pre.length (strF v.pre) v.bu.length (strF v.bu)) (IntKind.i64.wrap ((IntKind.u64.wrap n).tmod (3 : Int)))).pt 0 (strF []) 0 (strF []))) then
       bif ordV (vOf v.mj v.mn v.pt v.pre.length (strF v.pre) v.bu.length (strF v.bu)) (vOf (nxV (vOf v.mj v.mn v.pt v.pre.length (strF v.pre) v.bu.length (strF v.bu)) (IntKind.i64.wrap ((IntKind.u64.wrap n).tmod (3 : Int)))).mj (nxV (vOf v.mj v.mn v.pt v.pre.length (strF v.pre) v.bu.length (strF v.bu)) (IntKind.i64.wrap ((IntKind.u64.wrap n).tmod (3 : Int)))).mn (nxV (vOf v.mj v.mn v.pt v.pre.length (strF v.pre) v.bu.length (strF v.bu)) (IntKind.i64.wrap ((IntKind.u64.wrap n).tmod (3 : Int)))).pt 0 (strF []) 0 (strF [])) != (-1 : Int) then
        some ((AV.bool false, []))
       else
        bif (↑v.pre.length : Int) == (0 : Int) then
         bif decide (cmpD (nxV (vOf v.mj v.mn v.pt v.pre.length (strF v.pre) v.bu.length (strF v.bu)) (IntKind.i64.wrap ((IntKind.u64.wrap n).tmod (3 : Int)))).mj v.mj ≥ (0 : Int)) then
          some ((AV.bool true, []))
         else
          some ((AV.bool false, []))
        else
         bif decide (IsStrs (strF v.pre) v.pre.length ∧ IsStrs (strF v.bu) v.bu.length ∧ IsStrs (strF []) 0 ∧ IsStrs (strF []) 0 ∧ roomV (vOf v.mj v.mn v.pt v.pre.length (strF v.pre) v.bu.length (strF v.bu)) ∧ roomV (vOf v.mj v.mn v.pt 0 (strF []) 0 (strF []))) then
          bif ordV (vOf v.mj v.mn v.pt v.pre.length (strF v.pre) v.bu.length (strF v.bu)) (vOf v.mj v.mn v.pt 0 (strF []) 0 (strF [])) == (-1 : Int) then
           bif decide (cmpD (nxV (vOf v.mj v.mn v.pt v.pre.length (strF v.pre) v.bu.length (strF v.bu)) (IntKind.i64.wrap ((IntKind.u64.wrap n).tmod (3 : Int)))).mj v.mj ≥ (0 : Int)) then
            some ((AV.bool true, []))
           else
            some ((AV.bool false, []))
          else
           some ((AV.bool false, []))
         else
          none
      else
       none
    else
     none
  else
   none := by kernel_rfl
theorem t6 (v : Ver) (n : Int) : (evn tabC2 h6 noLoops 6 [.agg [.str v.mj, .str v.mn, .str v.pt, .sl 1 v.pre.length (strF v.pre), .sl 1 v.bu.length (strF v.bu)], .int .i64 n] []).run =
  bif decide (IsStrs (strF v.pre) v.pre.length ∧ IsStrs (strF v.bu) v.bu.length ∧ roomV (vOf v.mj v.mn v.pt v.pre.length (strF v.pre) v.bu.length (strF v.bu))) then
   bif isEn en17 p17 [AV.agg [AV.str v.mj, AV.str v.mn, AV.str v.pt, AV.sl 1 v.pre.length (strF v.pre), AV.sl 1 v.bu.length (strF v.bu)]] then
    bif fitV (vOf v.mj v.mn v.pt v.pre.length (strF v.pre) v.bu.length (strF v.bu)) == fitV (vOf v.mj v.mn v.pt v.pre.length (strF v.pre) v.bu.length (strF v.bu)) then
     bif decide (IsStrs (strF v.pre) v.pre.length ∧ IsStrs (strF v.bu) v.bu.length ∧ roomV (vOf v.mj v.mn v.pt v.pre.length (strF v.pre) v.bu.length (strF v.bu))) then
      bif isEn en18 p18 [AV.agg [AV.str v.mj, AV.str v.mn, AV.str v.pt, AV.sl 1 v.pre.length (strF v.pre), AV.sl 1 v.bu.length (strF v.bu)]] then
       bif (bif fitV (vOf v.mj v.mn v.pt v.pre.length (strF v.pre) v.bu.length (strF v.bu)) then textV (vOf v.mj v.mn v.pt v.pre.length (strF v.pre) v.bu.length (strF v.bu)) else []) == bif fitV (vOf v.mj v.mn v.pt v.pre.length (strF v.pre) v.bu.length (strF v.bu)) then textV (vOf v.mj v.mn v.pt v.pre.length (strF v.pre) v.bu.length (strF v.bu)) else [] then
        bif isEn en14 p14 [AV.agg [AV.str v.mj, AV.str v.mn, AV.str v.pt, AV.sl 1 v.pre.length (strF v.pre), AV.sl 1 v.bu.length (strF v.bu)], AV.int IntKind.i64 n] then
         bif isEn en19 p19 [AV.agg [AV.str v.mj, AV.str v.mn, AV.str v.pt, AV.sl 1 v.pre.length (strF v.pre), AV.sl 1 v.bu.length (strF v.bu)], AV.int IntKind.i64 n] then
          bif isEn en13 p13 [AV.agg [AV.str (nxV (vOf v.mj v.mn v.pt v.pre.length (strF v.pre) v.bu.length (strF v.bu)) n).mj, AV.str (nxV (vOf v.mj v.mn v.pt v.pre.length (strF v.pre) v.bu.length (strF v.bu)) n).mn, AV.str (nxV (vOf v.mj v.mn v.pt v.pre.length (strF v.pre) v.bu.length (strF v.bu)) n).pt, AV.sl 1 0 (strF []), AV.sl 1 0 (strF [])], AV.agg [AV.str (nxV (vOf v.mj v.mn v.pt v.pre.length (strF v.pre) v.bu.length (strF v.bu)) n).mj, AV.str (nxV (vOf v.mj v.mn v.pt v.pre.length (strF v.pre) v.bu.length (strF v.bu)) n).mn, AV.str (nxV (vOf v.mj v.mn v.pt v.pre.length (strF v.pre) v.bu.length (strF v.bu)) n).pt, AV.sl 1 0 (strF []), AV.sl 1 0 (strF [])]] then
           bif verEq (vOf (nxV (vOf v.mj v.mn v.pt v.pre.length (strF v.pre) v.bu.length (strF v.bu)) n).mj (nxV (vOf v.mj v.mn v.pt v.pre.length (strF v.pre) v.bu.length (strF v.bu)) n).mn (nxV (vOf v.mj v.mn v.pt v.pre.length (strF v.pre) v.bu.length (strF v.bu)) n).pt 0 (strF []) 0 (strF [])) (vOf (nxV (vOf v.mj v.mn v.pt v.pre.length (strF v.pre) v.bu.length (strF v.bu)) n).mj (nxV (vOf v.mj v.mn v.pt v.pre.length (strF v.pre) v.bu.length (strF v.bu)) n).mn (nxV (vOf v.mj v.mn v.pt v.pre.length (strF v.pre) v.bu.length (strF v.bu)) n).pt 0 (strF []) 0 (strF [])) then
            some ((AV.bool true, []))
           else
            some ((AV.bool false, []))
          else
           none
         else
          none
        else
         none
       else
        some ((AV.bool false, []))
      else
       none
     else
      none
    else
     some ((AV.bool false, []))
   else
    none
  else
   none := by kernel_rfl

end Go.Sem
namespace Go.Sem
open Go Go.Proofs Go.Ab
set_option linter.unusedVariables false
set_option linter.unusedSimpArgs false

/-! ### Digits as numbers -/
def valD : List UInt8 → Nat
  | [] => 0
  | b :: r => (b.toNat - 48) * 10 ^ r.length + valD r
theorem digB_iff {b : UInt8} : digB b = true ↔ 48 ≤ b.toNat ∧ b.toNat ≤ 57 := by
  unfold digB dig
  simp only [Bool.and_eq_true, decide_eq_true_eq]
  omega
theorem pow_pos10 (n : Nat) : 0 < 10 ^ n := Nat.pow_pos (by omega)
theorem valD_lt : ∀ {l : List UInt8}, l.all digB = true → valD l < 10 ^ l.length
  | [], _ => by simp [valD]
  | b :: r, h => by
    simp only [List.all_cons, Bool.and_eq_true] at h
    have ih := valD_lt h.2
    have hb := digB_iff.1 h.1
    simp only [valD, List.length_cons, Nat.pow_succ]
    have : (b.toNat - 48) * 10 ^ r.length ≤ 9 * 10 ^ r.length := Nat.mul_le_mul_right _ (by omega)
    omega
theorem bump_toNat {b : UInt8} (h : digB b = true) : (bump b).toNat = b.toNat + 1 := by
  have hb := digB_iff.1 h
  unfold bump
  rw [show IntKind.u8.wrap ((b.toNat : Int) + 1) = (b.toNat : Int) + 1 by
    unfold IntKind.wrap
    simp [IntKind.signed, IntKind.bits]
    omega]
  rw [UInt8.toNat_ofNat']
  omega
theorem incL_val : ∀ {l : List UInt8}, l.all digB = true → (incL l).2.all digB = true ∧ valD (incL l).2 + (bif (incL l).1 then 10 ^ l.length else 0) = valD l + 1
  | [], _ => by simp [incL, valD]
  | b :: r, h => by
    simp only [List.all_cons, Bool.and_eq_true] at h
    obtain ⟨ih1, ih2⟩ := incL_val h.2
    have hb := digB_iff.1 h.1
    have hl := incL_len r
    unfold incL
    cases hc : (incL r).1 with
    | false =>
      rw [hc] at ih2
      simp only [cond_false, List.all_cons, h.1, ih1, Bool.true_and, true_and, valD, hl] at ih2 ⊢
      omega
    | true =>
      rw [hc] at ih2
      simp only [cond_true] at ih2
      cases h7 : ((b.toNat : Int) == 57) with
      | true =>
        have e : b.toNat = 57 := by have := eq_of_beq h7; omega
        simp only [cond_true, List.all_cons, ih1, Bool.and_true, valD, hl, e, List.length_cons, Nat.pow_succ]
        refine ⟨by decide, ?_⟩
        have : (UInt8.toNat 48 - 48) = 0 := by decide
        rw [this]; omega
      | false =>
        have e : b.toNat ≠ 57 := by
          intro e; rw [e] at h7; cases h7
        have hu := bump_toNat h.1
        simp only [cond_true, cond_false, List.all_cons, ih1, Bool.and_true, valD, hl, hu]
        refine ⟨digB_iff.2 (by omega), ?_⟩
        have : b.toNat + 1 - 48 = (b.toNat - 48) + 1 := by omega
        rw [this, Nat.add_mul]; omega
theorem all_drop48 : ∀ {l : List UInt8}, l.all digB = true → (l.dropWhile q48).all digB = true ∧ valD (l.dropWhile q48) = valD l ∧ ∀ b r, l.dropWhile q48 = b :: r → b.toNat ≠ 48
  | [], _ => ⟨rfl, rfl, fun b r h => by cases h⟩
  | b :: r, h => by
    have h0 := h
    simp only [List.all_cons, Bool.and_eq_true] at h
    obtain ⟨i1, i2, i3⟩ := all_drop48 h.2
    rw [List.dropWhile_cons]
    cases hq : q48 b with
    | true =>
      have e : b.toNat = 48 := by have := eq_of_beq hq; omega
      simp only [if_true]
      refine ⟨i1, ?_, i3⟩
      rw [i2]; simp [valD, e]
    | false =>
      simp only [Bool.false_eq_true, if_false]
      refine ⟨h0, trivial, fun c s hc => ?_⟩
      injection hc with hc _; subst hc
      intro e
      unfold q48 at hq
      rw [e] at hq; cases hq
/-- What trimmed digits are. -/
structure Trimmed (x : List UInt8) : Prop where
  ne : x ≠ []
  dg : x.all digB = true
  hd : ∀ b r, x = b :: r → b.toNat ≠ 48 ∨ r = []
theorem trimD_ok {l : List UInt8} (h : l.all digB = true) : Trimmed (trimD l) ∧ valD (trimD l) = valD l := by
  obtain ⟨i1, i2, i3⟩ := all_drop48 h
  unfold trimD
  rw [show dropB 48 l = l.dropWhile q48 from rfl]
  by_cases hz : l.dropWhile q48 = []
  · rw [if_pos hz]
    rw [hz] at i2
    refine ⟨⟨by simp, by decide, fun b r hb => ?_⟩, by rw [← i2]; decide⟩
    injection hb with _ hb
    exact .inr hb.symm
  · rw [if_neg hz]
    exact ⟨⟨hz, i1, fun b r hb => .inl (i3 b r hb)⟩, i2⟩
theorem Trimmed.num {x : List UInt8} (h : Trimmed x) : numB x = true := by
  obtain ⟨h1, h2, h3⟩ := h
  cases x with
  | nil => exact absurd rfl h1
  | cons b r =>
    unfold numB dgs
    rw [h2]
    rcases h3 b r rfl with h | h
    · have : ((((b :: r).getD 0 0).toNat : Int) != 48) = true := by
        show ((b.toNat : Int) != 48) = true
        simp; omega
      rw [this]; rfl
    · subst h; simp
theorem Trimmed.le {x : List UInt8} (h : Trimmed x) (h2 : 2 ≤ x.length) : 10 ^ (x.length - 1) ≤ valD x := by
  cases x with
  | nil => simp at h2
  | cons b r =>
    have hb := digB_iff.1 (by have := h.dg; simp only [List.all_cons, Bool.and_eq_true] at this; exact this.1)
    rcases h.hd b r rfl with h' | h'
    · simp only [List.length_cons, Nat.add_sub_cancel, valD]
      have : 1 * 10 ^ r.length ≤ (b.toNat - 48) * 10 ^ r.length := Nat.mul_le_mul_right _ (by omega)
      omega
    · subst h'; simp at h2
theorem len_val {x y : List UInt8} (hx : Trimmed x) (hy : Trimmed y) (h : x.length < y.length) : valD x < valD y := by
  have h1 := valD_lt hx.dg
  have hl : 1 ≤ x.length := by
    cases x with
    | nil => exact absurd rfl hx.ne
    | cons _ _ => simp
  have h2 := hy.le (by omega)
  have : 10 ^ x.length ≤ 10 ^ (y.length - 1) := Nat.pow_le_pow_right (by omega) (by omega)
  omega
theorem bytes_val : ∀ {x y : List UInt8}, x.all digB = true → y.all digB = true → x.length = y.length → Lib.compareBytes x y = cmpI (valD x) (valD y)
  | [], [], _, _, _ => by simp [Lib.compareBytes, valD, cmpI]
  | [], _ :: _, _, _, h => by simp at h
  | _ :: _, [], _, _, h => by simp at h
  | a :: x, b :: y, h1, h2, h => by
    simp only [List.all_cons, Bool.and_eq_true, List.length_cons] at h1 h2 h
    have hl : x.length = y.length := by omega
    have ih := bytes_val h1.2 h2.2 hl
    have v1 := valD_lt h1.2
    have v2 := valD_lt h2.2
    have da := digB_iff.1 h1.1
    have db := digB_iff.1 h2.1
    rw [hl] at v1
    unfold Lib.compareBytes
    simp only [UInt8.lt_iff_toNat_lt, valD, hl]
    by_cases c1 : a.toNat < b.toNat
    · rw [if_pos c1]
      have : (a.toNat - 48 + 1) * 10 ^ y.length ≤ (b.toNat - 48) * 10 ^ y.length := Nat.mul_le_mul_right _ (by omega)
      rw [Nat.add_mul] at this
      unfold cmpI
      rw [if_pos (by omega)]
    · by_cases c2 : b.toNat < a.toNat
      · rw [if_neg c1, if_pos c2]
        have : (b.toNat - 48 + 1) * 10 ^ y.length ≤ (a.toNat - 48) * 10 ^ y.length := Nat.mul_le_mul_right _ (by omega)
        rw [Nat.add_mul] at this
        unfold cmpI
        rw [if_neg (by omega), if_pos (by omega)]
      · rw [if_neg c1, if_neg c2, ih]
        have : a.toNat = b.toNat := by omega
        rw [this]
        unfold cmpI
        (repeat' split) <;> omega
theorem cmpD_val {a b : List UInt8} (ha : a.all digB = true) (hb : b.all digB = true) : cmpD a b = cmpI (valD a) (valD b) := by
  obtain ⟨t1, e1⟩ := trimD_ok ha
  obtain ⟨t2, e2⟩ := trimD_ok hb
  rw [← e1, ← e2]
  unfold cmpD
  by_cases h1 : (trimD a).length < (trimD b).length
  · have := len_val t1 t2 h1
    have c1 : cmpI ((trimD a).length : Int) (trimD b).length = -1 := by unfold cmpI; rw [if_pos (by omega)]
    have c2 : cmpI (valD (trimD a) : Int) (valD (trimD b)) = -1 := by unfold cmpI; rw [if_pos (by omega)]
    rw [c1, c2]; rfl
  · by_cases h2 : (trimD b).length < (trimD a).length
    · have := len_val t2 t1 h2
      have c1 : cmpI ((trimD a).length : Int) (trimD b).length = 1 := by unfold cmpI; rw [if_neg (by omega), if_pos (by omega)]
      have c2 : cmpI (valD (trimD a) : Int) (valD (trimD b)) = 1 := by unfold cmpI; rw [if_neg (by omega), if_pos (by omega)]
      rw [c1, c2]; rfl
    · have c1 : cmpI ((trimD a).length : Int) (trimD b).length = 0 := by unfold cmpI; rw [if_neg (by omega), if_neg (by omega)]
      rw [c1]
      exact bytes_val t1.dg t2.dg (by omega)
theorem nextD_ok {d : List UInt8} (h : dgs d = true) : Trimmed (nextD d) ∧ valD (nextD d) = valD d + 1 := by
  obtain ⟨_, ha⟩ := dgs_all h
  have hr : runD d 0 = d.length := by have := runD_all d; rw [ha] at this; exact eq_of_beq this
  unfold nextD
  rw [if_pos hr]
  have h48 : (48 :: d : List UInt8).all digB = true := by simp only [List.all_cons, ha, Bool.and_true]; decide
  obtain ⟨i1, i2⟩ := incL_val h48
  have hc : (incL (48 :: d)).1 = false := by
    unfold incL
    cases (incL d).1 <;> rfl
  rw [hc] at i2
  obtain ⟨t1, t2⟩ := trimD_ok i1
  refine ⟨t1, ?_⟩
  rw [t2]
  simp only [cond_false, Nat.add_zero] at i2
  rw [i2]; simp [valD]
theorem cmpD_next {d : List UInt8} (h : dgs d = true) : cmpD d (nextD d) = -1 := by
  obtain ⟨t, e⟩ := nextD_ok h
  rw [cmpD_val (dgs_all h).2 t.dg, e]
  unfold cmpI
  rw [if_pos (by omega)]
end Go.Sem
namespace Go.Sem
open Go Go.Proofs Go.Ab
set_option maxRecDepth 100000
set_option linter.unusedVariables false
set_option linter.unusedSimpArgs false

theorem treeWrites (v : Ver) (n : Int) (hv : bulkV v ≤ 1048576) (hn : (Lit.int .i64 n).wf = true) : (evn tabC2 h6 noLoops 6 [.agg [.str v.mj, .str v.mn, .str v.pt, .sl 1 v.pre.length (strF v.pre), .sl 1 v.bu.length (strF v.bu)], .int .i64 n] []).run = some (.bool true, []) := by
  refine (t6 v n).trans ?_
  have hr := room_of hv
  simp only [vOf_ver, vOf_nil]
  rw [chk_v hr, k17 _ hr, k18 _ hr, k14 _ _ hr, k19 _ _ hr]
  simp only [beq_self_eq_true, cond_true]
  refine (cond_chk (k13 ⟨(nxV v n).mj, (nxV v n).mn, (nxV v n).pt, [], []⟩ ⟨(nxV v n).mj, (nxV v n).mn, (nxV v n).pt, [], []⟩ trivial)).trans ?_
  rw [verEq_iff.2 rfl]; rfl

def k3 (n : Int) : Int := IntKind.i64.wrap ((IntKind.u64.wrap n).tmod 3)
theorem k3_le (n : Int) : 0 ≤ k3 n ∧ k3 n ≤ 2 := by
  have h : IntKind.u64.wrap n = n % 18446744073709551616 := by simp [IntKind.wrap, IntKind.bits, IntKind.signed]
  have h0 : 0 ≤ IntKind.u64.wrap n := by rw [h]; omega
  unfold k3
  rw [Int.tmod_eq_emod_of_nonneg h0, w64 (by omega) (by omega)]
  omega
theorem fitV_nil {a b c : List UInt8} (h1 : numB a = true) (h2 : numB b = true) (h3 : numB c = true) : fitV ⟨a, b, c, [], []⟩ = decide (a.length + b.length + c.length + 2 ≤ 64) := by
  unfold fitV
  simp only [h1, h2, h3, Bool.true_and, show fitL true [] = true from rfl, show fitL false [] = true from rfl]
  have : ((textV ⟨a, b, c, [], []⟩).length : Int) = (a.length + b.length + c.length + 2 : Nat) := by
    simp only [textV, sufP, if_true, List.length_append, List.length_cons, List.length_nil]; omega
  rw [this, decide_eq_decide]; omega
theorem fit_nums {v : Ver} (h : fitV v = true) : numB v.mj = true ∧ numB v.mn = true ∧ numB v.pt = true := by
  unfold fitV at h
  simp only [Bool.and_eq_true] at h
  exact ⟨h.1.1.1.1.1, h.1.1.1.1.2, h.1.1.1.2⟩
theorem num_ne {d : List UInt8} (h : numB d = true) : d ≠ [] := (dgs_all (numB_dgs h)).1
theorem cmpD_self (d : List UInt8) : cmpD d d = 0 := cmpD_cmp.self d
theorem num48 : numB [48] = true := by decide
theorem nxW_fit {v : Ver} (h : fitV v = true) {k : Int} (hk : 0 ≤ k ∧ k ≤ 2) : numB (nxW v k).mj = true ∧ numB (nxW v k).mn = true ∧ numB (nxW v k).pt = true ∧ (nxW v k).pre = [] ∧ (nxW v k).bu = [] ∧
    (nxW v k).mj.length + (nxW v k).mn.length + (nxW v k).pt.length ≤ v.mj.length + v.mn.length + v.pt.length + 3 ∧ ordP v (nxW v k) = -1 ∧ cmpD (nxW v k).mj v.mj ≥ 0 := by
  obtain ⟨h1, h2, h3⟩ := fit_nums h
  have a1 := cmpD_next (numB_dgs h1)
  have a2 := cmpD_next (numB_dgs h2)
  have a3 := cmpD_next (numB_dgs h3)
  have b1 := (nextD_ok (numB_dgs h1)).1.num
  have b2 := (nextD_ok (numB_dgs h2)).1.num
  have b3 := (nextD_ok (numB_dgs h3)).1.num
  have l1 := nextD_len v.mj
  have l2 := nextD_len v.mn
  have l3 := nextD_len v.pt
  have c1 := cmpD_cmp.anti v.mj (nextD v.mj)
  have s1 := cmpD_self v.mj
  have s2 := cmpD_self v.mn
  have p1 : 1 ≤ v.mj.length := List.length_pos_iff.2 (num_ne h1)
  have p2 : 1 ≤ v.mn.length := List.length_pos_iff.2 (num_ne h2)
  have p3 : 1 ≤ v.pt.length := List.length_pos_iff.2 (num_ne h3)
  rcases (by omega : k = 0 ∨ k = 1 ∨ k = 2) with rfl | rfl | rfl
  · refine ⟨b1, num48, num48, rfl, rfl, ?_, ?_, ?_⟩
    · show (nextD v.mj).length + 1 + 1 ≤ _; omega
    · show orZ (cmpD v.mj (nextD v.mj)) _ = -1
      rw [a1]; rfl
    · show cmpD (nextD v.mj) v.mj ≥ 0
      omega
  · refine ⟨h1, b2, num48, rfl, rfl, ?_, ?_, ?_⟩
    · show v.mj.length + (nextD v.mn).length + 1 ≤ _; omega
    · show orZ (cmpD v.mj v.mj) (orZ (cmpD v.mn (nextD v.mn)) _) = -1
      rw [s1, a2]; rfl
    · show cmpD v.mj v.mj ≥ 0
      omega
  · refine ⟨h1, h2, b3, rfl, rfl, ?_, ?_, ?_⟩
    · show v.mj.length + v.mn.length + (nextD v.pt).length ≤ _; omega
    · show orZ (cmpD v.mj v.mj) (orZ (cmpD v.mn v.mn) (orZ (cmpD v.pt (nextD v.pt)) _)) = -1
      rw [s1, s2, a3]; rfl
    · show cmpD v.mj v.mj ≥ 0
      omega
theorem ver_eta {w : Ver} (h1 : w.pre = []) (h2 : w.bu = []) : (⟨w.mj, w.mn, w.pt, [], []⟩ : Ver) = w := by
  obtain ⟨a, b, c, l, r⟩ := w
  subst h1 h2; rfl
theorem treeNexts (v : Ver) (n : Int) (hv : bulkV v ≤ 1048576) (hn : (Lit.int .i64 n).wf = true) : (evn tabC2 h5 noLoops 5 [.agg [.str v.mj, .str v.mn, .str v.pt, .sl 1 v.pre.length (strF v.pre), .sl 1 v.bu.length (strF v.bu)], .int .i64 n] []).run = some (.bool true, []) := by
  refine (t5 v n).trans ?_
  have hr := room_of hv
  have hnil : IsStrs (strF []) 0 := isStrs_strF []
  have hs1 := isStrs_strF v.pre
  have hs2 := isStrs_strF v.bu
  simp only [vOf_ver, vOf_nil]
  rw [chk_v hr, k14 _ _ hr]
  rw [show IntKind.i64.wrap ((IntKind.u64.wrap n).tmod 3) = k3 n from rfl]
  have hk := k3_le n
  cases hf : fitV v with
  | false => rfl
  | true =>
    obtain ⟨g1, g2, g3, g4, g5, g6, g7, g8⟩ := nxW_fit hf hk
    obtain ⟨f1, f2, f3⟩ := fit_nums hf
    have hfl := fit_len hf
    have hfw := fitV_nil g1 g2 g3
    rw [ver_eta g4 g5] at hfw
    have hnx : nxV v (k3 n) = bif fitV (nxW v (k3 n)) then nxW v (k3 n) else ⟨[], [], [], [], []⟩ := by
      unfold nxV
      rw [hf, decide_eq_true hk]; rfl
    simp only [cond_true, Bool.not_true, cond_false]
    rw [hnx]
    cases hw : fitV (nxW v (k3 n)) with
    | false =>
      rw [hw] at hfw
      have hgt := of_decide_eq_false hfw.symm
      simp only [cond_false]
      rw [cond_chk (show (([] : List UInt8) == []) = true from rfl), w64 (n := (v.mj.length : Int) + v.mn.length) (by omega) (by omega), w64 (by omega) (by omega), decide_eq_true (by omega)]
      rfl
    | true =>
      simp only [cond_true]
      rw [cond_no (by simpa using num_ne g1)]
      simp only [ver_eta g4 g5]
      have hrw : roomV (nxW v (k3 n)) := fit_room hw
      have hro : roomV ⟨v.mj, v.mn, v.pt, [], []⟩ := room_n (by omega) (by omega) (by omega)
      simp only [hnil, hs1, hs2, hr, hrw, hro, and_self, decide_true, cond_true]
      have o1 : ordV v (nxW v (k3 n)) = -1 := by unfold ordV; rw [hf, hw]; exact g7
      rw [o1, decide_eq_true g8]
      cases hp : v.pre with
      | nil => rfl
      | cons x l =>
        have hfo : fitV ⟨v.mj, v.mn, v.pt, [], []⟩ = true := by rw [fitV_nil f1 f2 f3]; exact decide_eq_true (by omega)
        have o2 : ordV v ⟨v.mj, v.mn, v.pt, [], []⟩ = -1 := by
          unfold ordV
          rw [hf, hfo]
          unfold ordP
          simp only [cmpD_self, hp]
          rfl
        rw [o2]
        rw [show ((((x :: l).length : Nat) : Int) == 0) = false by simp; omega]
        rfl
end Go.Sem

/- Lemmas for the claims of this seat (a verified symbolic evaluator, and contracts of functions): own work; no condition. -/
import Derived.Test.YtibanfkcemnifaaDoorFnK
namespace Go.Sem

open Go Go.Proofs Go.Ab

set_option maxRecDepth 100000

set_option linter.unusedVariables false

set_option linter.unusedSimpArgs false

/-! ### The reference's Reader: Idents, its rounds -/

def en72 (y : X32) : List AV × Hp := ([.ref 0 0, .bool y.p, lsA 1 y.L], rr y.s y.a 0 :: lsH y.L)

def oF72 (y : X32) (err : Int) : AX × St := (.ret, { tm := tmOf 93 [(4, .nilsl)], ms := [], hp := rr y.s (firstX idB y.s y.a) err :: lsH y.L })

def oL72 (y : X32) : AX × St := match y.L with
  | [] => (.ret, { tm := tmOf 93 [(4, .row 2 1 0 1)], ms := [], hp := [rr y.s (firstX idB y.s y.a) 0, some (.row 1 1 (rowF 1 [.str (tokD y.s y.a)])), some (.row 1 1 (fun i => rowF 1 [.str (tokD y.s y.a)] (0 + i)))] })
  | x :: l => (.ret, { tm := tmOf 93 [(4, .row 3 1 0 ((x :: l).length + 1))], ms := [], hp := [rr y.s (firstX idB y.s y.a) 0, none, some (.row 1 1 (rowF 1 [.str (tokD y.s y.a)])), some (.row 1 ((x :: l).length + 1) (appF (x :: l).length (strF (x :: l)) fun i => rowF 1 [.str (tokD y.s y.a)] (0 + i)))] })

def nx72 (y : X32) : AX × St := match y.L with
  | [] => (.normal, { tm := encGo (mbits 35 93) [.ref 0 0, .bool y.p, .row 1 1 0 1], ms := [], hp := [rr y.s (IntKind.i64.wrap (firstX idB y.s y.a + 1)) 0, some (.row 1 1 (fun i => rowF 1 [.str (tokD y.s y.a)] (0 + i)))] })
  | x :: l => (.normal, { tm := encGo (mbits 35 93) [.ref 0 0, .bool y.p, .row 1 1 0 ((x :: l).length + 1)], ms := [], hp := [rr y.s (IntKind.i64.wrap (firstX idB y.s y.a + 1)) 0, some (.row 1 ((x :: l).length + 1) (appF (x :: l).length (strF (x :: l)) fun i => rowF 1 [.str (tokD y.s y.a)] (0 + i)))] })

theorem r72a (s : List UInt8) (p : Bool) (a : Int) : (rdn tabE4 h72 LI72 72 1 0 { tm := encGo (mbits 35 93) (en72 ⟨s, p, 0, 0, a, []⟩).1, ms := [], hp := (en72 ⟨s, p, 0, 0, a, []⟩).2 }).run =
    bif isEn eL72_1 pL72_1 ([AV.ref 0 0, AV.bool p, AV.nilsl, AV.int IntKind.i64 a], [rr s a 0]) then
     bif firstX idB s a == a then
      bif decide (firstX idB s a ≥ (s.length : Int)) then some (oF72 ⟨s, p, 0, 0, a, []⟩ 11) else some (oF72 ⟨s, p, 0, 0, a, []⟩ 10)
     else
      bif p then
       bif decide (0 ≤ a ∧ a ≤ firstX idB s a ∧ firstX idB s a ≤ (s.length : Int)) then
        bif dgs (tokD s a) && !numB (tokD s a) then
         bif decide (0 ≤ firstX idB s a) then
          bif isAt s (firstX idB s a) 46 then some (oF72 ⟨s, p, 0, 0, a, []⟩ 14) else
          bif decide (0 ≤ firstX idB s a) then
           bif isAt s (firstX idB s a) 43 then some (oF72 ⟨s, p, 0, 0, a, []⟩ 14) else
           bif decide (firstX idB s a ≥ (s.length : Int)) then some (oF72 ⟨s, p, 0, 0, a, []⟩ 11) else some (oF72 ⟨s, p, 0, 0, a, []⟩ 10)
          else none
         else none
        else
         bif decide (0 ≤ a ∧ a ≤ firstX idB s a ∧ firstX idB s a ≤ (s.length : Int)) then
          bif decide (0 ≤ firstX idB s a) then bif !isAt s (firstX idB s a) 46 then some (oL72 ⟨s, p, 0, 0, a, []⟩) else some (nx72 ⟨s, p, 0, 0, a, []⟩) else none
         else none
       else none
      else
       bif decide (0 ≤ a ∧ a ≤ firstX idB s a ∧ firstX idB s a ≤ (s.length : Int)) then
        bif decide (0 ≤ firstX idB s a) then bif !isAt s (firstX idB s a) 46 then some (oL72 ⟨s, p, 0, 0, a, []⟩) else some (nx72 ⟨s, p, 0, 0, a, []⟩) else none
       else none
    else none := by kernel_rfl

theorem r72b (s : List UInt8) (p : Bool) (a : Int) (x : List UInt8) (l : List (List UInt8)) : (rdn tabE4 h72 LI72 72 1 0 { tm := encGo (mbits 35 93) (en72 ⟨s, p, 0, 0, a, x :: l⟩).1, ms := [], hp := (en72 ⟨s, p, 0, 0, a, x :: l⟩).2 }).run =
    bif isEn eL72_1 pL72_1 ([AV.ref 0 0, AV.bool p, AV.row 1 1 0 (x :: l).length, AV.int IntKind.i64 a], [rr s a 0, some (.row 1 (x :: l).length (strF (x :: l)))]) then
     bif firstX idB s a == a then
      bif decide (firstX idB s a ≥ (s.length : Int)) then some (oF72 ⟨s, p, 0, 0, a, x :: l⟩ 11) else some (oF72 ⟨s, p, 0, 0, a, x :: l⟩ 10)
     else
      bif p then
       bif decide (0 ≤ a ∧ a ≤ firstX idB s a ∧ firstX idB s a ≤ (s.length : Int)) then
        bif dgs (tokD s a) && !numB (tokD s a) then
         bif decide (0 ≤ firstX idB s a) then
          bif isAt s (firstX idB s a) 46 then some (oF72 ⟨s, p, 0, 0, a, x :: l⟩ 14) else
          bif decide (0 ≤ firstX idB s a) then
           bif isAt s (firstX idB s a) 43 then some (oF72 ⟨s, p, 0, 0, a, x :: l⟩ 14) else
           bif decide (firstX idB s a ≥ (s.length : Int)) then some (oF72 ⟨s, p, 0, 0, a, x :: l⟩ 11) else some (oF72 ⟨s, p, 0, 0, a, x :: l⟩ 10)
          else none
         else none
        else
         bif decide (0 ≤ a ∧ a ≤ firstX idB s a ∧ firstX idB s a ≤ (s.length : Int)) then
          bif decide ((x :: l).length = (x :: l).length) then bif decide (((x :: l).length + 1) * 16 ≤ 140737488355328 ∧ (x :: l).length + 1 ≤ 4611686018427387903) then
           bif decide (0 ≤ firstX idB s a) then bif !isAt s (firstX idB s a) 46 then some (oL72 ⟨s, p, 0, 0, a, x :: l⟩) else some (nx72 ⟨s, p, 0, 0, a, x :: l⟩) else none
          else none else none
         else none
       else none
      else
       bif decide (0 ≤ a ∧ a ≤ firstX idB s a ∧ firstX idB s a ≤ (s.length : Int)) then
        bif decide ((x :: l).length = (x :: l).length) then bif decide (((x :: l).length + 1) * 16 ≤ 140737488355328 ∧ (x :: l).length + 1 ≤ 4611686018427387903) then
         bif decide (0 ≤ firstX idB s a) then bif !isAt s (firstX idB s a) 46 then some (oL72 ⟨s, p, 0, 0, a, x :: l⟩) else some (nx72 ⟨s, p, 0, 0, a, x :: l⟩) else none
        else none else none
       else none
    else none := by kernel_rfl

theorem tok_nil {s : List UInt8} {a : Int} (h0 : 0 ≤ a) (h1 : a ≤ s.length) : (firstX idB s a == a) = (tokD s a == []) := by
  have hf := firstX_le (q := idB) (s := s) h0 h1
  rw [Bool.eq_iff_iff, beq_iff_eq, beq_iff_eq]
  unfold tokD
  constructor
  · intro h
    rw [h, Nat.sub_self]; rfl
  · intro h
    have := congrArg List.length h
    simp only [List.length_take, List.length_drop, List.length_nil] at this
    omega

theorem errAt_isAt {s : List UInt8} {a c x : Int} (h : isAt s a c = true) : errAt s a x = x := by
  have := isAt_lt h
  unfold errAt
  rw [if_neg (by omega)]

theorem errAt_br {s : List UInt8} {a : Int} {f : Int → AX × St} : (bif decide (a ≥ (s.length : Int)) then some (f 11) else some (f 10)) = some (f (errAt s a 10)) := by
  unfold errAt
  by_cases h : a ≥ (s.length : Int)
  · rw [decide_eq_true h, if_pos h]; rfl
  · rw [decide_eq_false h, if_neg h]; rfl

theorem round72 (y : X32) (h : inv32 y) (he : y.e = 0) (hfa : y.fa = 0) : (rdn tabE4 h72 LI72 72 1 0 { tm := encGo (mbits 35 93) (en72 y).1, ms := [], hp := (en72 y).2 }).run =
    match badT y.s y.p y.a with
    | some er => some (oF72 y er)
    | none => bif isAt y.s (firstX idB y.s y.a) 46 then some (nx72 y) else some (oL72 y) := by
  obtain ⟨s, p, e, fa, a, L⟩ := y
  obtain ⟨h1, h2, h3, h4⟩ := h
  simp only at h1 h2 h3 h4 he hfa
  subst he hfa
  have h3' := h3
  simp only [bnd2] at h3
  have hf := firstX_le (q := idB) (s := s) h1 h2
  have g2 : decide (0 ≤ a ∧ a ≤ firstX idB s a ∧ firstX idB s a ≤ (s.length : Int)) = true := decide_eq_true ⟨h1, by omega, by omega⟩
  have g3 : decide (0 ≤ firstX idB s a) = true := decide_eq_true (by omega)
  have fin : ∀ (Z : Option (AX × St)), Z = (bif isAt s (firstX idB s a) 46 then some (nx72 ⟨s, p, 0, 0, a, L⟩) else some (oL72 ⟨s, p, 0, 0, a, L⟩)) →
      (bif tokD s a == [] then some (oF72 ⟨s, p, 0, 0, a, L⟩ (errAt s (firstX idB s a) 10))
       else bif p then (bif dgs (tokD s a) && !numB (tokD s a) then (bif isAt s (firstX idB s a) 46 then some (oF72 ⟨s, p, 0, 0, a, L⟩ 14) else bif isAt s (firstX idB s a) 43 then some (oF72 ⟨s, p, 0, 0, a, L⟩ 14) else some (oF72 ⟨s, p, 0, 0, a, L⟩ (errAt s (firstX idB s a) 10))) else Z) else Z) =
      match badT s p a with
      | some er => some (oF72 ⟨s, p, 0, 0, a, L⟩ er)
      | none => bif isAt s (firstX idB s a) 46 then some (nx72 ⟨s, p, 0, 0, a, L⟩) else some (oL72 ⟨s, p, 0, 0, a, L⟩) := by
    rintro Z rfl
    unfold badT
    cases (tokD s a == [])
    · cases p
      · rfl
      · simp only [Bool.true_and, cond_false, cond_true]
        cases hd : dgs (tokD s a) && !numB (tokD s a)
        · rfl
        · simp only [cond_true]
          cases h46 : isAt s (firstX idB s a) 46
          · cases h43 : isAt s (firstX idB s a) 43
            · rfl
            · simp only [Bool.false_or, cond_true, cond_false, errAt_isAt h43]
          · simp only [Bool.true_or, cond_true, errAt_isAt h46]
    · rfl
  cases L with
  | nil =>
    refine (r72a s p a).trans ?_
    have hen : isEn eL72_1 pL72_1 ([AV.ref 0 0, AV.bool p, AV.nilsl, AV.int IntKind.i64 a], [rr s a 0]) = true := kL72_1 s p .nilsl [] a a ⟨h1, h2, h3', [], rfl, rfl⟩
    rw [hen, g2, g3, errAt_br (f := oF72 ⟨s, p, 0, 0, a, []⟩), tok_nil h1 h2]
    refine Eq.trans ?_ (fin _ rfl)
    cases isAt s (firstX idB s a) 46 <;> rfl
  | cons x l =>
    refine (r72b s p a x l).trans ?_
    have hen : isEn eL72_1 pL72_1 ([AV.ref 0 0, AV.bool p, AV.row 1 1 0 (x :: l).length, AV.int IntKind.i64 a], [rr s a 0, some (.row 1 (x :: l).length (strF (x :: l)))]) = true := kL72_1 s p (.row 1 1 0 (x :: l).length) [some (.row 1 (x :: l).length (strF (x :: l)))] a a ⟨h1, h2, h3', x :: l, rfl, rfl⟩
    have g5 : decide (((x :: l).length + 1) * 16 ≤ 140737488355328 ∧ (x :: l).length + 1 ≤ 4611686018427387903) = true := by
      apply decide_eq_true
      constructor <;> omega
    have g6 : decide ((x :: l).length = (x :: l).length) = true := decide_eq_true rfl
    rw [hen, g2, g3, g5, g6, errAt_br (f := oF72 ⟨s, p, 0, 0, a, x :: l⟩), tok_nil h1 h2]
    refine Eq.trans ?_ (fin _ rfl)
    cases isAt s (firstX idB s a) 46 <;> rfl

theorem nx72_eq (y : X32) (h : inv32 y) (hd : isAt y.s (firstX idB y.s y.a) 46 = true) : nx72 y = (.normal, { tm := encGo (mbits 35 93) (en72 (nxt y)).1, ms := [], hp := (en72 (nxt y)).2 }) := by
  obtain ⟨s, p, e, fa, a, L⟩ := y
  obtain ⟨h1, h2, h3, h4⟩ := h
  simp only at h1 h2 h3 h4 hd
  simp only [bnd2] at h3
  have hf := firstX_le (q := idB) (s := s) h1 h2
  have hw : IntKind.i64.wrap (firstX idB s a + 1) = firstX idB s a + 1 := w64 (by omega) (by omega)
  cases L with
  | nil =>
    unfold nx72 nxt en72
    simp only [hw, strF_one, List.nil_append]
    rfl
  | cons x l =>
    unfold nx72 nxt en72
    simp only [hw, strF_app]
    have e1 : (x :: l) ++ [tokD s a] = x :: (l ++ [tokD s a]) := rfl
    have e2 : (x :: (l ++ [tokD s a])).length = (x :: l).length + 1 := by simp
    rw [e1]
    simp only [lsA, lsH, e2]

def out72 (r : X32 × Option Int) : AX × St := match r.2 with
  | some er => oF72 r.1 er
  | none => oL72 r.1

def tree72 (z : X32) (o : Option Int) : T (AX × St) :=
  .br o.isSome
    (.br z.L.isEmpty (.leaf (.ret, { tm := tmOf 93 [(4, .nilsl)], ms := [], hp := [rr z.s (firstX idB z.s z.a) (o.getD 0)] }))
      (.leaf (.ret, { tm := tmOf 93 [(4, .nilsl)], ms := [], hp := [rr z.s (firstX idB z.s z.a) (o.getD 0), some (.row 1 z.L.length (strF z.L))] })))
    (.br z.L.isEmpty (.leaf (.ret, { tm := tmOf 93 [(4, .row 2 1 0 1)], ms := [], hp := [rr z.s (firstX idB z.s z.a) 0, some (.row 1 1 (rowF 1 [.str (tokD z.s z.a)])), some (.row 1 1 (fun i => rowF 1 [.str (tokD z.s z.a)] (0 + i)))] }))
      (.leaf (.ret, { tm := tmOf 93 [(4, .row 3 1 0 (z.L.length + 1))], ms := [], hp := [rr z.s (firstX idB z.s z.a) 0, none, some (.row 1 1 (rowF 1 [.str (tokD z.s z.a)])), some (.row 1 (z.L.length + 1) (appF z.L.length (strF z.L) fun i => rowF 1 [.str (tokD z.s z.a)] (0 + i)))] })))

theorem tree72_run (r : X32 × Option Int) : (tree72 r.1 r.2).run = some (out72 r) := by
  obtain ⟨⟨s, p, e, fa, a, L⟩, o⟩ := r
  cases o <;> cases L <;> rfl

def D72 : List AV → Hp → T (AX × St)
  | [.ref 0 0, .bool p, .nilsl], [some (.cells [.str s, .int .i64 a, .int .i64 e])] =>
    .chk (decide (e = 0 ∧ 0 ≤ a ∧ a ≤ s.length ∧ s.length ≤ bnd2)) (tree72 (idsE ⟨s, p, 0, 0, a, []⟩).1 (idsE ⟨s, p, 0, 0, a, []⟩).2)
  | _, _ => .fail

noncomputable def L72 : LoopT := fun k => match Nat.beq k 200148 with
  | true => some (lcon (mbits 35 93) D72)
  | false => LI72 k

theorem rL72 (y : X32) : (rdn tabE4 h72 L72 72 1 0 { tm := encGo (mbits 35 93) (en72 y).1, ms := [], hp := (en72 y).2 }).run = (rdn tabE4 h72 LI72 72 1 0 { tm := encGo (mbits 35 93) (en72 y).1, ms := [], hp := (en72 y).2 }).run := by
  obtain ⟨s, p, e, fa, a, L⟩ := y
  cases L with
  | nil => exact (show (rdn tabE4 h72 L72 72 1 0 { tm := encGo (mbits 35 93) (en72 ⟨s, p, e, fa, a, []⟩).1, ms := [], hp := (en72 ⟨s, p, e, fa, a, []⟩).2 }).run = (rdn tabE4 h72 LI72 72 1 0 { tm := encGo (mbits 35 93) (en72 ⟨s, p, e, fa, a, []⟩).1, ms := [], hp := (en72 ⟨s, p, e, fa, a, []⟩).2 }).run by kernel_rfl)
  | cons x l => exact (show (rdn tabE4 h72 L72 72 1 0 { tm := encGo (mbits 35 93) (en72 ⟨s, p, e, fa, a, x :: l⟩).1, ms := [], hp := (en72 ⟨s, p, e, fa, a, x :: l⟩).2 }).run = (rdn tabE4 h72 LI72 72 1 0 { tm := encGo (mbits 35 93) (en72 ⟨s, p, e, fa, a, x :: l⟩).1, ms := [], hp := (en72 ⟨s, p, e, fa, a, x :: l⟩).2 }).run by kernel_rfl)

theorem l72 : LoopOk Tryd.prog tabE4.pf (fun n => hd Tryd.prog tabE4.pf tabE4.con.run (fun f => (H0 f).to) n 9) h72.to 72 1 none L72 (loopAt Tryd.prog 72 0) := by
  rw [show loopAt Tryd.prog 72 0 = .loop (lbody Tryd.prog 72 0) by kernel_rfl]
  refine loop_con (hdT_le (m := 20) 9) (m := 20) (within_of _ (by
      rw [show loopsOf (lbody Tryd.prog 72 0) = [loopAt Tryd.prog 72 1] by kernel_rfl]
      intro d hd
      simp only [List.mem_cons, List.not_mem_nil, or_false] at hd
      subst hd
      exact l72_1)) (D := D72) (lv := mbits 35 93) (by kernel_rfl)
    en72 (fun y => out72 (idsE y)) (fun y => inv32 y ∧ y.e = 0 ∧ y.fa = 0) (fun y => ((y.s.length : Int) - y.a).toNat) ?_ ?_
  · intro vs hp r h
    unfold D72 at h
    split at h
    · rename_i p s a e
      rw [T.run_chk] at h
      split at h
      · rename_i hc
        obtain ⟨rfl, h1, h2, h3⟩ := of_decide_eq_true hc
        rw [tree72_run] at h
        exact ⟨⟨s, p, 0, 0, a, []⟩, rfl, ⟨⟨h1, h2, h3, by simpa using h1⟩, rfl, rfl⟩, (Option.some.inj h).symm⟩
      · cases h
    · cases h
  · rintro y ⟨hi, he, hfa⟩
    have hr := (rL72 y).trans (round72 y hi he hfa)
    have hs := idsE_step y hi
    have oF : ∀ z er, (oF72 z er).1 ≠ .normal := fun z er => by simp [oF72]
    have oL : ∀ z, (oL72 z).1 ≠ .normal := fun z => by
      obtain ⟨s, p, e, fa, a, L⟩ := z
      cases L <;> simp [oL72]
    cases hb : badT y.s y.p y.a with
    | some er =>
      rw [hb] at hr hs
      right
      rw [hs]
      exact ⟨hr, oF _ _⟩
    | none =>
      rw [hb] at hr hs
      cases hd : isAt y.s (firstX idB y.s y.a) 46 with
      | false =>
        rw [hd] at hr hs
        right
        simp only [cond_false] at hr hs
        rw [hs]
        exact ⟨hr, oL _⟩
      | true =>
        rw [hd] at hr hs
        simp only [cond_true] at hr hs
        obtain ⟨hi2, hlt⟩ := nxt_inv y hi hd
        left
        refine ⟨nxt y, ⟨hi2, he, hfa⟩, ?_, by rw [hs], ?_⟩
        · have e : (nxt y).s = y.s := rfl
          have := hi2.2.1
          rw [e] at *
          omega
        · rw [nx72_eq y hi hd] at hr
          exact hr
end Go.Sem
namespace Go.Sem

open Go Go.Proofs Go.Ab

set_option maxRecDepth 100000

set_option linter.unusedVariables false

set_option linter.unusedSimpArgs false

/-! ### The reference's Reader: Idents -/

theorem t72 (s : List UInt8) (a : Int) (p : Bool) : (evn tabE4 h72 L72 72 [.ref 0 0, .bool p] [rr s a 0]).run =
  bif decide ((0 : Int) = (0 : Int) ∧ (0 : Int) ≤ a ∧ a ≤ (↑s.length : Int) ∧ s.length ≤ 1073741824) then
   bif (idsE { s := s, p := p, e := (0 : Int), fa := (0 : Int), a := a, L := [] }).snd.isSome then
    bif (idsE { s := s, p := p, e := (0 : Int), fa := (0 : Int), a := a, L := [] }).fst.L.isEmpty then
     some ((AV.nilsl, [some (AObj.cells [AV.str (idsE { s := s, p := p, e := (0 : Int), fa := (0 : Int), a := a, L := [] }).fst.s, AV.int IntKind.i64 (firstX idB (idsE { s := s, p := p, e := (0 : Int), fa := (0 : Int), a := a, L := [] }).fst.s (idsE { s := s, p := p, e := (0 : Int), fa := (0 : Int), a := a, L := [] }).fst.a), AV.int IntKind.i64 ((idsE { s := s, p := p, e := (0 : Int), fa := (0 : Int), a := a, L := [] }).snd.getD (0 : Int))])]))
    else
     some ((AV.nilsl, [some (AObj.cells [AV.str (idsE { s := s, p := p, e := (0 : Int), fa := (0 : Int), a := a, L := [] }).fst.s, AV.int IntKind.i64 (firstX idB (idsE { s := s, p := p, e := (0 : Int), fa := (0 : Int), a := a, L := [] }).fst.s (idsE { s := s, p := p, e := (0 : Int), fa := (0 : Int), a := a, L := [] }).fst.a), AV.int IntKind.i64 ((idsE { s := s, p := p, e := (0 : Int), fa := (0 : Int), a := a, L := [] }).snd.getD (0 : Int))])]))
   else
    bif (idsE { s := s, p := p, e := (0 : Int), fa := (0 : Int), a := a, L := [] }).fst.L.isEmpty then
     some ((AV.row 1 1 0 1, [some (AObj.cells [AV.str (idsE { s := s, p := p, e := (0 : Int), fa := (0 : Int), a := a, L := [] }).fst.s, AV.int IntKind.i64 (firstX idB (idsE { s := s, p := p, e := (0 : Int), fa := (0 : Int), a := a, L := [] }).fst.s (idsE { s := s, p := p, e := (0 : Int), fa := (0 : Int), a := a, L := [] }).fst.a), AV.int IntKind.i64 (0 : Int)]), some (AObj.row 1 1 fun i => rowF 1 [AV.str (tokD (idsE { s := s, p := p, e := (0 : Int), fa := (0 : Int), a := a, L := [] }).fst.s (idsE { s := s, p := p, e := (0 : Int), fa := (0 : Int), a := a, L := [] }).fst.a)] (0 + i))]))
    else
     some ((AV.row 1 1 0 ((idsE { s := s, p := p, e := (0 : Int), fa := (0 : Int), a := a, L := [] }).fst.L.length + 1), [some (AObj.cells [AV.str (idsE { s := s, p := p, e := (0 : Int), fa := (0 : Int), a := a, L := [] }).fst.s, AV.int IntKind.i64 (firstX idB (idsE { s := s, p := p, e := (0 : Int), fa := (0 : Int), a := a, L := [] }).fst.s (idsE { s := s, p := p, e := (0 : Int), fa := (0 : Int), a := a, L := [] }).fst.a), AV.int IntKind.i64 (0 : Int)]), some (AObj.row 1 ((idsE { s := s, p := p, e := (0 : Int), fa := (0 : Int), a := a, L := [] }).fst.L.length + 1) (appF (idsE { s := s, p := p, e := (0 : Int), fa := (0 : Int), a := a, L := [] }).fst.L.length (strF (idsE { s := s, p := p, e := (0 : Int), fa := (0 : Int), a := a, L := [] }).fst.L) fun i => rowF 1 [AV.str (tokD (idsE { s := s, p := p, e := (0 : Int), fa := (0 : Int), a := a, L := [] }).fst.s (idsE { s := s, p := p, e := (0 : Int), fa := (0 : Int), a := a, L := [] }).fst.a)] (0 + i)))]))
  else
   none := by kernel_rfl

def c72 : List AV → Hp → T (AV × Hp)
  | [.ref 0 0, .bool p], [some (.cells [.str s, .int .i64 a, .int .i64 e])] =>
    .chk (decide (e = 0 ∧ 0 ≤ a ∧ a ≤ s.length ∧ s.length ≤ bnd2))
      (.br (idR s p a).2.isSome
        (.br (decide ((idR s p a).2 = some 10)) (.leaf (.nilsl, [rr s (idF s p a) 10]))
          (.br (decide ((idR s p a).2 = some 11)) (.leaf (.nilsl, [rr s (idF s p a) 11]))
            (.chk (decide ((idR s p a).2 = some 14)) (.leaf (.nilsl, [rr s (idF s p a) 14])))))
        (.leaf (.row 1 1 0 (idL s p a).length, [rr s (idF s p a) 0, some (.row 1 (idL s p a).length (strF (idL s p a)))])))
  | _, _ => .fail

theorem c72_hs {args : List AV} {hs : Hp} {r : AV} {hs' : Hp} (h : (c72 args hs).run = some (r, hs')) : hs.length = 1 := by
  unfold c72 at h
  split at h
  · rfl
  · cases h

theorem s72 : Sound1 Tryd.prog ⟨72, false, gcon c72⟩ := by
  refine sound_mem (soundTab_of all_tabE4) (hn := h72) (m := 20) (k := 9) (Λ := L72) (fun args hs r hs' h => by
    rw [c72_hs h]
    exact twoLoops (by kernel_rfl) l72 l72_1) fun args hs r hs' hF hH h => ?_
  unfold c72 at h
  split at h
  · rename_i p s a e
    rw [T.run_chk] at h
    split at h
    · rename_i hc
      obtain ⟨rfl, h1, h2, h3⟩ := of_decide_eq_true hc
      refine (t72 s a p).trans ?_
      rw [decide_eq_true (show (0 : Int) = 0 ∧ 0 ≤ a ∧ a ≤ (s.length : Int) ∧ s.length ≤ 1073741824 from ⟨rfl, h1, h2, h3⟩)]
      simp only [cond_true]
      have hy : (idsE ⟨s, p, 0, 0, a, []⟩) = idR s p a := rfl
      rw [hy]
      obtain ⟨k1, k2, k3, k4⟩ := idsR_keep ((s.length - a).toNat + 1) ⟨s, p, 0, 0, a, []⟩
      have k1 : (idR s p a).1.s = s := k1
      rw [k1]
      rw [T.run_br] at h
      cases ho : (idR s p a).2 with
      | some er =>
        have hv := idsR_val ((s.length - a).toNat + 1) ⟨s, p, 0, 0, a, []⟩ er ⟨h1, h2, h3, by simpa using h1⟩ (by simp only; omega) ho
        rw [ho] at h
        simp only [Option.isSome_some, if_true] at h
        simp only [Option.isSome_some, cond_true]
        rcases hv with rfl | rfl | rfl
        · simp only [T.run_br, decide_true, if_true, T.run_leaf, Option.some.injEq, Prod.mk.injEq] at h
          obtain ⟨rfl, rfl⟩ := h
          cases (idR s p a).1.L.isEmpty <;> rfl
        · simp only [T.run_br, decide_true, if_true, T.run_leaf, Option.some.injEq, Prod.mk.injEq, show (11 : Int) ≠ 10 by decide, decide_false, Bool.false_eq_true, if_false] at h
          obtain ⟨rfl, rfl⟩ := h
          cases (idR s p a).1.L.isEmpty <;> rfl
        · simp only [T.run_br, T.run_chk, decide_true, if_true, T.run_leaf, Option.some.injEq, Prod.mk.injEq, show (14 : Int) ≠ 10 by decide, show (14 : Int) ≠ 11 by decide, decide_false, Bool.false_eq_true, if_false] at h
          obtain ⟨rfl, rfl⟩ := h
          cases (idR s p a).1.L.isEmpty <;> rfl
      | none =>
        rw [ho] at h
        simp only [Option.isSome_none, Bool.false_eq_true, if_false, T.run_leaf, Option.some.injEq, Prod.mk.injEq] at h
        obtain ⟨rfl, rfl⟩ := h
        simp only [Option.isSome_none, cond_false]
        unfold idL idF
        generalize (idR s p a).1.a = b
        cases hL : (idR s p a).1.L with
        | nil =>
          simp only [List.isEmpty_nil, cond_true, List.nil_append, strF_one]
          try rfl
        | cons x l =>
          simp only [List.isEmpty_cons, cond_false, strF_app]
          have e2 : ((x :: l) ++ [tokD s b]).length = (x :: l).length + 1 := by simp
          rw [e2]
          try rfl
    · cases h
  · cases h

noncomputable def tabE5 : Tab := ⟨72, false, gcon c72⟩ :: tabE4

theorem all_tabE5 : ∀ e, e ∈ tabE5 → Sound1 Tryd.prog e := (sound_mem_tab s72 all_tabE4)

theorem ok_tabE5 : SoundTab Tryd.prog tabE5 := soundTab_of all_tabE5

theorem t48 (b : Bool) : (evn tabE5 h48 noLoops 48 [.bool b] []).run =
  bif b then
   some ((AV.int IntKind.i64 (1 : Int), []))
  else
   some ((AV.int IntKind.i64 (0 : Int), [])) := by kernel_rfl

def c48 : List AV → T AV
  | [.bool b] => .leaf (.int .i64 (truthZ b))
  | _ => .fail

theorem e48 (b : Bool) (hF : FitsL [.bool b]) : (evn tabE5 h48 noLoops 48 [.bool b] []).run = (.leaf (.int .i64 (truthZ b)) : T AV).run.map fun r => (r, []) := by
  refine (t48 b).trans ?_
  cases b <;> rfl

theorem s48 : Sound1 Tryd.prog ⟨48, true, pcon c48⟩ := by
  refine sound_pureH (m := 20) (k := 9) (hn := h48) (Λ := noLoops) (soundTab_of all_tabE5) H0 (fun i hi => anyLoops) fun args r hF h => ?_
  unfold c48 at h
  split at h
  · rename_i b
    have he := e48 b hF
    rw [he, h]; rfl
  · cases h

theorem t49 (a : List UInt8) (b : List UInt8) : (evn tabE5 h49 noLoops 49 [.str a, .str b] []).run =
  bif dgs a then
   bif dgs b then
    some ((AV.int IntKind.i64 (cmpD a b), []))
   else
    bif dgs a then
     some ((AV.int IntKind.i64 (-1 : Int), []))
    else
     bif dgs b then
      some ((AV.int IntKind.i64 (1 : Int), []))
     else
      bif abytesLess a b then
       some ((AV.int IntKind.i64 (-1 : Int), []))
      else
       bif !(abytesLess a b || a == b) then
        some ((AV.int IntKind.i64 (1 : Int), []))
       else
        some ((AV.int IntKind.i64 (0 : Int), []))
  else
   bif dgs a then
    some ((AV.int IntKind.i64 (-1 : Int), []))
   else
    bif dgs b then
     some ((AV.int IntKind.i64 (1 : Int), []))
    else
     bif abytesLess a b then
      some ((AV.int IntKind.i64 (-1 : Int), []))
     else
      bif !(abytesLess a b || a == b) then
       some ((AV.int IntKind.i64 (1 : Int), []))
      else
       some ((AV.int IntKind.i64 (0 : Int), [])) := by kernel_rfl

def c49 : List AV → T AV
  | [.str a, .str b] => .leaf (.int .i64 (idO a b))
  | _ => .fail

theorem e49 (a : List UInt8) (b : List UInt8) (hF : FitsL [.str a, .str b]) : (evn tabE5 h49 noLoops 49 [.str a, .str b] []).run = (.leaf (.int .i64 (idO a b)) : T AV).run.map fun r => (r, []) := by
  refine (t49 a b).trans ?_
  have hu := bytes_unit a b
  unfold unit3 at hu
  unfold idO
  rw [abytesLess_iff, bytes_eqz]
  cases dgs a <;> cases dgs b
  · rcases (by omega : Lib.compareBytes a b = -1 ∨ Lib.compareBytes a b = 0 ∨ Lib.compareBytes a b = 1) with e | e | e <;> rw [e] <;> rfl
  · rfl
  · rfl
  · rfl

theorem s49 : Sound1 Tryd.prog ⟨49, true, pcon c49⟩ := by
  refine sound_pureH (m := 20) (k := 9) (hn := h49) (Λ := noLoops) (soundTab_of all_tabE5) H0 (fun i hi => anyLoops) fun args r hF h => ?_
  unfold c49 at h
  split at h
  · rename_i a b
    have he := e49 a b hF
    rw [he, h]; rfl
  · cases h

noncomputable def tabE6 : Tab := ⟨48, true, pcon c48⟩ :: ⟨49, true, pcon c49⟩ :: tabE5

theorem all_tabE6 : ∀ e, e ∈ tabE6 → Sound1 Tryd.prog e := (sound_mem_tab s48 (sound_mem_tab s49 all_tabE5))

theorem ok_tabE6 : SoundTab Tryd.prog tabE6 := soundTab_of all_tabE6
end Go.Sem
namespace Go.Sem

open Go Go.Proofs Go.Ab

set_option maxRecDepth 100000

set_option linter.unusedVariables false

set_option linter.unusedSimpArgs false

/-! ### The reference's parse -/

theorem t50 (s : List UInt8) : (evn tabE6 h50 noLoops 50 [.str s] []).run =
  bif decide ((↑s.length : Int) > (64 : Int)) then
   some ((AV.tup [AV.agg [AV.str [], AV.str [], AV.str [], AV.nilsl, AV.nilsl], AV.int IntKind.i64 (12 : Int), AV.int IntKind.i64 (64 : Int)], []))
  else
   bif decide ((0 : Int) ≤ (0 : Int) ∧ (0 : Int) ≤ (↑s.length : Int) ∧ s.length ≤ 1073741824) then
    bif numT s (0 : Int) == [] then
     bif decide ((0 : Int) ≥ (↑s.length : Int)) then
      bif decide ((0 : Int) ≤ (0 : Int) ∧ (0 : Int) ≤ (↑s.length : Int) ∧ s.length ≤ 1073741824) then
       bif decide ((0 : Int) ≤ (0 : Int) ∧ (0 : Int) ≤ (↑s.length : Int) ∧ s.length ≤ 1073741824) then
        bif decide ((0 : Int) ≤ (0 : Int) ∧ (0 : Int) ≤ (↑s.length : Int) ∧ s.length ≤ 1073741824) then
         bif decide ((0 : Int) ≤ (0 : Int) ∧ (0 : Int) ≤ (↑s.length : Int) ∧ s.length ≤ 1073741824) then
          some ((AV.tup [AV.agg [AV.str [], AV.str [], AV.str [], AV.nilsl, AV.nilsl], AV.int IntKind.i64 (11 : Int), AV.int IntKind.i64 (0 : Int)], []))
         else
          none
        else
         none
       else
        none
      else
       none
     else
      bif decide ((0 : Int) ≤ (0 : Int) ∧ (0 : Int) ≤ (↑s.length : Int) ∧ s.length ≤ 1073741824) then
       bif decide ((0 : Int) ≤ (0 : Int) ∧ (0 : Int) ≤ (↑s.length : Int) ∧ s.length ≤ 1073741824) then
        bif decide ((0 : Int) ≤ (0 : Int) ∧ (0 : Int) ≤ (↑s.length : Int) ∧ s.length ≤ 1073741824) then
         bif decide ((0 : Int) ≤ (0 : Int) ∧ (0 : Int) ≤ (↑s.length : Int) ∧ s.length ≤ 1073741824) then
          some ((AV.tup [AV.agg [AV.str [], AV.str [], AV.str [], AV.nilsl, AV.nilsl], AV.int IntKind.i64 (10 : Int), AV.int IntKind.i64 (0 : Int)], []))
         else
          none
        else
         none
       else
        none
      else
       none
    else
     bif numB (numT s (0 : Int)) then
      bif decide ((0 : Int) ≤ runD s (0 : Int) ∧ runD s (0 : Int) ≤ (↑s.length : Int) ∧ s.length ≤ 1073741824) then
       bif isAt s (runD s (0 : Int)) (46 : Int) then
        bif decide ((0 : Int) ≤ runD s (0 : Int) + (1 : Int) ∧ runD s (0 : Int) + (1 : Int) ≤ (↑s.length : Int) ∧ s.length ≤ 1073741824) then
         bif numT s (runD s (0 : Int) + (1 : Int)) == [] then
          bif decide (runD s (0 : Int) + (1 : Int) ≥ (↑s.length : Int)) then
           bif decide ((0 : Int) ≤ runD s (0 : Int) + (1 : Int) ∧ runD s (0 : Int) + (1 : Int) ≤ (↑s.length : Int) ∧ s.length ≤ 1073741824) then
            bif decide ((0 : Int) ≤ runD s (0 : Int) + (1 : Int) ∧ runD s (0 : Int) + (1 : Int) ≤ (↑s.length : Int) ∧ s.length ≤ 1073741824) then
             some ((AV.tup [AV.agg [AV.str [], AV.str [], AV.str [], AV.nilsl, AV.nilsl], AV.int IntKind.i64 (11 : Int), AV.int IntKind.i64 (runD s (0 : Int) + (1 : Int))], []))
            else
             none
           else
            none
          else
           bif decide ((0 : Int) ≤ runD s (0 : Int) + (1 : Int) ∧ runD s (0 : Int) + (1 : Int) ≤ (↑s.length : Int) ∧ s.length ≤ 1073741824) then
            bif decide ((0 : Int) ≤ runD s (0 : Int) + (1 : Int) ∧ runD s (0 : Int) + (1 : Int) ≤ (↑s.length : Int) ∧ s.length ≤ 1073741824) then
             some ((AV.tup [AV.agg [AV.str [], AV.str [], AV.str [], AV.nilsl, AV.nilsl], AV.int IntKind.i64 (10 : Int), AV.int IntKind.i64 (runD s (0 : Int) + (1 : Int))], []))
            else
             none
           else
            none
         else
          bif numB (numT s (runD s (0 : Int) + (1 : Int))) then
           bif decide ((0 : Int) ≤ runD s (runD s (0 : Int) + (1 : Int)) ∧ runD s (runD s (0 : Int) + (1 : Int)) ≤ (↑s.length : Int) ∧ s.length ≤ 1073741824) then
            bif isAt s (runD s (runD s (0 : Int) + (1 : Int))) (46 : Int) then
             bif decide ((0 : Int) ≤ runD s (runD s (0 : Int) + (1 : Int)) + (1 : Int) ∧ runD s (runD s (0 : Int) + (1 : Int)) + (1 : Int) ≤ (↑s.length : Int) ∧ s.length ≤ 1073741824) then
              bif numT s (runD s (runD s (0 : Int) + (1 : Int)) + (1 : Int)) == [] then
               bif decide (runD s (runD s (0 : Int) + (1 : Int)) + (1 : Int) ≥ (↑s.length : Int)) then
                bif decide ((0 : Int) ≤ runD s (runD s (0 : Int) + (1 : Int)) + (1 : Int)) then
                 bif decide ((0 : Int) ≤ runD s (runD s (0 : Int) + (1 : Int)) + (1 : Int)) then
                  some ((AV.tup [AV.agg [AV.str [], AV.str [], AV.str [], AV.nilsl, AV.nilsl], AV.int IntKind.i64 (11 : Int), AV.int IntKind.i64 (runD s (runD s (0 : Int) + (1 : Int)) + (1 : Int))], []))
                 else
                  none
                else
                 none
               else
                bif decide ((0 : Int) ≤ runD s (runD s (0 : Int) + (1 : Int)) + (1 : Int)) then
                 bif decide ((0 : Int) ≤ runD s (runD s (0 : Int) + (1 : Int)) + (1 : Int)) then
                  some ((AV.tup [AV.agg [AV.str [], AV.str [], AV.str [], AV.nilsl, AV.nilsl], AV.int IntKind.i64 (10 : Int), AV.int IntKind.i64 (runD s (runD s (0 : Int) + (1 : Int)) + (1 : Int))], []))
                 else
                  none
                else
                 none
              else
               bif numB (numT s (runD s (runD s (0 : Int) + (1 : Int)) + (1 : Int))) then
                bif decide ((0 : Int) ≤ runD s (runD s (runD s (0 : Int) + (1 : Int)) + (1 : Int))) then
                 bif isAt s (runD s (runD s (runD s (0 : Int) + (1 : Int)) + (1 : Int))) (45 : Int) then
                  bif decide ((0 : Int) = (0 : Int) ∧ (0 : Int) ≤ IntKind.i64.wrap (runD s (runD s (runD s (0 : Int) + (1 : Int)) + (1 : Int)) + (1 : Int)) ∧ IntKind.i64.wrap (runD s (runD s (runD s (0 : Int) + (1 : Int)) + (1 : Int)) + (1 : Int)) ≤ (↑s.length : Int) ∧ s.length ≤ 1073741824) then
                   bif (idR s true (IntKind.i64.wrap (runD s (runD s (runD s (0 : Int) + (1 : Int)) + (1 : Int)) + (1 : Int)))).snd.isSome then
                    bif decide ((idR s true (IntKind.i64.wrap (runD s (runD s (runD s (0 : Int) + (1 : Int)) + (1 : Int)) + (1 : Int)))).snd = some (10 : Int)) then
                     bif decide ((0 : Int) ≤ idF s true (IntKind.i64.wrap (runD s (runD s (runD s (0 : Int) + (1 : Int)) + (1 : Int)) + (1 : Int)))) then
                      some ((AV.tup [AV.agg [AV.str [], AV.str [], AV.str [], AV.nilsl, AV.nilsl], AV.int IntKind.i64 (10 : Int), AV.int IntKind.i64 (idF s true (IntKind.i64.wrap (runD s (runD s (runD s (0 : Int) + (1 : Int)) + (1 : Int)) + (1 : Int))))], []))
                     else
                      none
                    else
                     bif decide ((idR s true (IntKind.i64.wrap (runD s (runD s (runD s (0 : Int) + (1 : Int)) + (1 : Int)) + (1 : Int)))).snd = some (11 : Int)) then
                      bif decide ((0 : Int) ≤ idF s true (IntKind.i64.wrap (runD s (runD s (runD s (0 : Int) + (1 : Int)) + (1 : Int)) + (1 : Int)))) then
                       some ((AV.tup [AV.agg [AV.str [], AV.str [], AV.str [], AV.nilsl, AV.nilsl], AV.int IntKind.i64 (11 : Int), AV.int IntKind.i64 (idF s true (IntKind.i64.wrap (runD s (runD s (runD s (0 : Int) + (1 : Int)) + (1 : Int)) + (1 : Int))))], []))
                      else
                       none
                     else
                      bif decide ((idR s true (IntKind.i64.wrap (runD s (runD s (runD s (0 : Int) + (1 : Int)) + (1 : Int)) + (1 : Int)))).snd = some (14 : Int)) then
                       bif decide ((0 : Int) ≤ idF s true (IntKind.i64.wrap (runD s (runD s (runD s (0 : Int) + (1 : Int)) + (1 : Int)) + (1 : Int)))) then
                        some ((AV.tup [AV.agg [AV.str [], AV.str [], AV.str [], AV.nilsl, AV.nilsl], AV.int IntKind.i64 (14 : Int), AV.int IntKind.i64 (idF s true (IntKind.i64.wrap (runD s (runD s (runD s (0 : Int) + (1 : Int)) + (1 : Int)) + (1 : Int))))], []))
                       else
                        none
                      else
                       none
                   else
                    bif decide ((0 : Int) ≤ idF s true (IntKind.i64.wrap (runD s (runD s (runD s (0 : Int) + (1 : Int)) + (1 : Int)) + (1 : Int)))) then
                     bif isAt s (idF s true (IntKind.i64.wrap (runD s (runD s (runD s (0 : Int) + (1 : Int)) + (1 : Int)) + (1 : Int)))) (43 : Int) then
                      bif decide ((0 : Int) = (0 : Int) ∧ (0 : Int) ≤ IntKind.i64.wrap (idF s true (IntKind.i64.wrap (runD s (runD s (runD s (0 : Int) + (1 : Int)) + (1 : Int)) + (1 : Int))) + (1 : Int)) ∧ IntKind.i64.wrap (idF s true (IntKind.i64.wrap (runD s (runD s (runD s (0 : Int) + (1 : Int)) + (1 : Int)) + (1 : Int))) + (1 : Int)) ≤ (↑s.length : Int) ∧ s.length ≤ 1073741824) then
                       bif (idR s false (IntKind.i64.wrap (idF s true (IntKind.i64.wrap (runD s (runD s (runD s (0 : Int) + (1 : Int)) + (1 : Int)) + (1 : Int))) + (1 : Int)))).snd.isSome then
                        bif decide ((idR s false (IntKind.i64.wrap (idF s true (IntKind.i64.wrap (runD s (runD s (runD s (0 : Int) + (1 : Int)) + (1 : Int)) + (1 : Int))) + (1 : Int)))).snd = some (10 : Int)) then
                         some ((AV.tup [AV.agg [AV.str [], AV.str [], AV.str [], AV.nilsl, AV.nilsl], AV.int IntKind.i64 (10 : Int), AV.int IntKind.i64 (idF s false (IntKind.i64.wrap (idF s true (IntKind.i64.wrap (runD s (runD s (runD s (0 : Int) + (1 : Int)) + (1 : Int)) + (1 : Int))) + (1 : Int))))], []))
                        else
                         bif decide ((idR s false (IntKind.i64.wrap (idF s true (IntKind.i64.wrap (runD s (runD s (runD s (0 : Int) + (1 : Int)) + (1 : Int)) + (1 : Int))) + (1 : Int)))).snd = some (11 : Int)) then
                          some ((AV.tup [AV.agg [AV.str [], AV.str [], AV.str [], AV.nilsl, AV.nilsl], AV.int IntKind.i64 (11 : Int), AV.int IntKind.i64 (idF s false (IntKind.i64.wrap (idF s true (IntKind.i64.wrap (runD s (runD s (runD s (0 : Int) + (1 : Int)) + (1 : Int)) + (1 : Int))) + (1 : Int))))], []))
                         else
                          bif decide ((idR s false (IntKind.i64.wrap (idF s true (IntKind.i64.wrap (runD s (runD s (runD s (0 : Int) + (1 : Int)) + (1 : Int)) + (1 : Int))) + (1 : Int)))).snd = some (14 : Int)) then
                           some ((AV.tup [AV.agg [AV.str [], AV.str [], AV.str [], AV.nilsl, AV.nilsl], AV.int IntKind.i64 (14 : Int), AV.int IntKind.i64 (idF s false (IntKind.i64.wrap (idF s true (IntKind.i64.wrap (runD s (runD s (runD s (0 : Int) + (1 : Int)) + (1 : Int)) + (1 : Int))) + (1 : Int))))], []))
                          else
                           none
                       else
                        bif decide (idF s false (IntKind.i64.wrap (idF s true (IntKind.i64.wrap (runD s (runD s (runD s (0 : Int) + (1 : Int)) + (1 : Int)) + (1 : Int))) + (1 : Int))) < (↑s.length : Int)) then
                         some ((AV.tup [AV.agg [AV.str [], AV.str [], AV.str [], AV.nilsl, AV.nilsl], AV.int IntKind.i64 (10 : Int), AV.int IntKind.i64 (idF s false (IntKind.i64.wrap (idF s true (IntKind.i64.wrap (runD s (runD s (runD s (0 : Int) + (1 : Int)) + (1 : Int)) + (1 : Int))) + (1 : Int))))], []))
                        else
                         some ((AV.tup [AV.agg [AV.str (numT s (0 : Int)), AV.str (numT s (runD s (0 : Int) + (1 : Int))), AV.str (numT s (runD s (runD s (0 : Int) + (1 : Int)) + (1 : Int))), AV.row 0 1 0 (idL s true (IntKind.i64.wrap (runD s (runD s (runD s (0 : Int) + (1 : Int)) + (1 : Int)) + (1 : Int)))).length, AV.row 1 1 0 (idL s false (IntKind.i64.wrap (idF s true (IntKind.i64.wrap (runD s (runD s (runD s (0 : Int) + (1 : Int)) + (1 : Int)) + (1 : Int))) + (1 : Int)))).length], AV.int IntKind.i64 (0 : Int), AV.int IntKind.i64 (0 : Int)], [some (AObj.row 1 (idL s true (IntKind.i64.wrap (runD s (runD s (runD s (0 : Int) + (1 : Int)) + (1 : Int)) + (1 : Int)))).length (strF (idL s true (IntKind.i64.wrap (runD s (runD s (runD s (0 : Int) + (1 : Int)) + (1 : Int)) + (1 : Int)))))), some (AObj.row 1 (idL s false (IntKind.i64.wrap (idF s true (IntKind.i64.wrap (runD s (runD s (runD s (0 : Int) + (1 : Int)) + (1 : Int)) + (1 : Int))) + (1 : Int)))).length (strF (idL s false (IntKind.i64.wrap (idF s true (IntKind.i64.wrap (runD s (runD s (runD s (0 : Int) + (1 : Int)) + (1 : Int)) + (1 : Int))) + (1 : Int))))))]))
                      else
                       none
                     else
                      bif decide (idF s true (IntKind.i64.wrap (runD s (runD s (runD s (0 : Int) + (1 : Int)) + (1 : Int)) + (1 : Int))) < (↑s.length : Int)) then
                       some ((AV.tup [AV.agg [AV.str [], AV.str [], AV.str [], AV.nilsl, AV.nilsl], AV.int IntKind.i64 (10 : Int), AV.int IntKind.i64 (idF s true (IntKind.i64.wrap (runD s (runD s (runD s (0 : Int) + (1 : Int)) + (1 : Int)) + (1 : Int))))], []))
                      else
                       some ((AV.tup [AV.agg [AV.str (numT s (0 : Int)), AV.str (numT s (runD s (0 : Int) + (1 : Int))), AV.str (numT s (runD s (runD s (0 : Int) + (1 : Int)) + (1 : Int))), AV.row 0 1 0 (idL s true (IntKind.i64.wrap (runD s (runD s (runD s (0 : Int) + (1 : Int)) + (1 : Int)) + (1 : Int)))).length, AV.nilsl], AV.int IntKind.i64 (0 : Int), AV.int IntKind.i64 (0 : Int)], [some (AObj.row 1 (idL s true (IntKind.i64.wrap (runD s (runD s (runD s (0 : Int) + (1 : Int)) + (1 : Int)) + (1 : Int)))).length (strF (idL s true (IntKind.i64.wrap (runD s (runD s (runD s (0 : Int) + (1 : Int)) + (1 : Int)) + (1 : Int))))))]))
                    else
                     none
                  else
                   none
                 else
                  bif decide ((0 : Int) ≤ runD s (runD s (runD s (0 : Int) + (1 : Int)) + (1 : Int))) then
                   bif isAt s (runD s (runD s (runD s (0 : Int) + (1 : Int)) + (1 : Int))) (43 : Int) then
                    bif decide ((0 : Int) = (0 : Int) ∧ (0 : Int) ≤ IntKind.i64.wrap (runD s (runD s (runD s (0 : Int) + (1 : Int)) + (1 : Int)) + (1 : Int)) ∧ IntKind.i64.wrap (runD s (runD s (runD s (0 : Int) + (1 : Int)) + (1 : Int)) + (1 : Int)) ≤ (↑s.length : Int) ∧ s.length ≤ 1073741824) then
                     bif (idR s false (IntKind.i64.wrap (runD s (runD s (runD s (0 : Int) + (1 : Int)) + (1 : Int)) + (1 : Int)))).snd.isSome then
                      bif decide ((idR s false (IntKind.i64.wrap (runD s (runD s (runD s (0 : Int) + (1 : Int)) + (1 : Int)) + (1 : Int)))).snd = some (10 : Int)) then
                       some ((AV.tup [AV.agg [AV.str [], AV.str [], AV.str [], AV.nilsl, AV.nilsl], AV.int IntKind.i64 (10 : Int), AV.int IntKind.i64 (idF s false (IntKind.i64.wrap (runD s (runD s (runD s (0 : Int) + (1 : Int)) + (1 : Int)) + (1 : Int))))], []))
                      else
                       bif decide ((idR s false (IntKind.i64.wrap (runD s (runD s (runD s (0 : Int) + (1 : Int)) + (1 : Int)) + (1 : Int)))).snd = some (11 : Int)) then
                        some ((AV.tup [AV.agg [AV.str [], AV.str [], AV.str [], AV.nilsl, AV.nilsl], AV.int IntKind.i64 (11 : Int), AV.int IntKind.i64 (idF s false (IntKind.i64.wrap (runD s (runD s (runD s (0 : Int) + (1 : Int)) + (1 : Int)) + (1 : Int))))], []))
                       else
                        bif decide ((idR s false (IntKind.i64.wrap (runD s (runD s (runD s (0 : Int) + (1 : Int)) + (1 : Int)) + (1 : Int)))).snd = some (14 : Int)) then
                         some ((AV.tup [AV.agg [AV.str [], AV.str [], AV.str [], AV.nilsl, AV.nilsl], AV.int IntKind.i64 (14 : Int), AV.int IntKind.i64 (idF s false (IntKind.i64.wrap (runD s (runD s (runD s (0 : Int) + (1 : Int)) + (1 : Int)) + (1 : Int))))], []))
                        else
                         none
                     else
                      bif decide (idF s false (IntKind.i64.wrap (runD s (runD s (runD s (0 : Int) + (1 : Int)) + (1 : Int)) + (1 : Int))) < (↑s.length : Int)) then
                       some ((AV.tup [AV.agg [AV.str [], AV.str [], AV.str [], AV.nilsl, AV.nilsl], AV.int IntKind.i64 (10 : Int), AV.int IntKind.i64 (idF s false (IntKind.i64.wrap (runD s (runD s (runD s (0 : Int) + (1 : Int)) + (1 : Int)) + (1 : Int))))], []))
                      else
                       some ((AV.tup [AV.agg [AV.str (numT s (0 : Int)), AV.str (numT s (runD s (0 : Int) + (1 : Int))), AV.str (numT s (runD s (runD s (0 : Int) + (1 : Int)) + (1 : Int))), AV.nilsl, AV.row 0 1 0 (idL s false (IntKind.i64.wrap (runD s (runD s (runD s (0 : Int) + (1 : Int)) + (1 : Int)) + (1 : Int)))).length], AV.int IntKind.i64 (0 : Int), AV.int IntKind.i64 (0 : Int)], [some (AObj.row 1 (idL s false (IntKind.i64.wrap (runD s (runD s (runD s (0 : Int) + (1 : Int)) + (1 : Int)) + (1 : Int)))).length (strF (idL s false (IntKind.i64.wrap (runD s (runD s (runD s (0 : Int) + (1 : Int)) + (1 : Int)) + (1 : Int))))))]))
                    else
                     none
                   else
                    bif decide (runD s (runD s (runD s (0 : Int) + (1 : Int)) + (1 : Int)) < (↑s.length : Int)) then
                     some ((AV.tup [AV.agg [AV.str [], AV.str [], AV.str [], AV.nilsl, AV.nilsl], AV.int IntKind.i64 (10 : Int), AV.int IntKind.i64 (runD s (runD s (runD s (0 : Int) + (1 : Int)) + (1 : Int)))], []))
                    else
                     some ((AV.tup [AV.agg [AV.str (numT s (0 : Int)), AV.str (numT s (runD s (0 : Int) + (1 : Int))), AV.str (numT s (runD s (runD s (0 : Int) + (1 : Int)) + (1 : Int))), AV.nilsl, AV.nilsl], AV.int IntKind.i64 (0 : Int), AV.int IntKind.i64 (0 : Int)], []))
                  else
                   none
                else
                 none
               else
                bif decide ((0 : Int) ≤ runD s (runD s (0 : Int) + (1 : Int)) + (1 : Int) + (1 : Int)) then
                 bif decide ((0 : Int) ≤ runD s (runD s (0 : Int) + (1 : Int)) + (1 : Int) + (1 : Int)) then
                  some ((AV.tup [AV.agg [AV.str [], AV.str [], AV.str [], AV.nilsl, AV.nilsl], AV.int IntKind.i64 (14 : Int), AV.int IntKind.i64 (runD s (runD s (0 : Int) + (1 : Int)) + (1 : Int) + (1 : Int))], []))
                 else
                  none
                else
                 none
             else
              none
            else
             bif decide (runD s (runD s (0 : Int) + (1 : Int)) ≥ (↑s.length : Int)) then
              bif decide ((0 : Int) ≤ runD s (runD s (0 : Int) + (1 : Int)) ∧ runD s (runD s (0 : Int) + (1 : Int)) ≤ (↑s.length : Int) ∧ s.length ≤ 1073741824) then
               bif decide ((0 : Int) ≤ runD s (runD s (0 : Int) + (1 : Int))) then
                bif decide ((0 : Int) ≤ runD s (runD s (0 : Int) + (1 : Int))) then
                 some ((AV.tup [AV.agg [AV.str [], AV.str [], AV.str [], AV.nilsl, AV.nilsl], AV.int IntKind.i64 (11 : Int), AV.int IntKind.i64 (runD s (runD s (0 : Int) + (1 : Int)))], []))
                else
                 none
               else
                none
              else
               none
             else
              bif decide ((0 : Int) ≤ runD s (runD s (0 : Int) + (1 : Int)) ∧ runD s (runD s (0 : Int) + (1 : Int)) ≤ (↑s.length : Int) ∧ s.length ≤ 1073741824) then
               bif decide ((0 : Int) ≤ runD s (runD s (0 : Int) + (1 : Int))) then
                bif decide ((0 : Int) ≤ runD s (runD s (0 : Int) + (1 : Int))) then
                 some ((AV.tup [AV.agg [AV.str [], AV.str [], AV.str [], AV.nilsl, AV.nilsl], AV.int IntKind.i64 (10 : Int), AV.int IntKind.i64 (runD s (runD s (0 : Int) + (1 : Int)))], []))
                else
                 none
               else
                none
              else
               none
           else
            none
          else
           bif decide ((0 : Int) ≤ runD s (0 : Int) + (1 : Int) + (1 : Int) ∧ runD s (0 : Int) + (1 : Int) + (1 : Int) ≤ (↑s.length : Int) ∧ s.length ≤ 1073741824) then
            bif decide ((0 : Int) ≤ runD s (0 : Int) + (1 : Int) + (1 : Int) ∧ runD s (0 : Int) + (1 : Int) + (1 : Int) ≤ (↑s.length : Int) ∧ s.length ≤ 1073741824) then
             some ((AV.tup [AV.agg [AV.str [], AV.str [], AV.str [], AV.nilsl, AV.nilsl], AV.int IntKind.i64 (14 : Int), AV.int IntKind.i64 (runD s (0 : Int) + (1 : Int) + (1 : Int))], []))
            else
             none
           else
            none
        else
         none
       else
        bif decide (runD s (0 : Int) ≥ (↑s.length : Int)) then
         bif decide ((0 : Int) ≤ runD s (0 : Int) ∧ runD s (0 : Int) ≤ (↑s.length : Int) ∧ s.length ≤ 1073741824) then
          bif decide ((0 : Int) ≤ runD s (0 : Int) ∧ runD s (0 : Int) ≤ (↑s.length : Int) ∧ s.length ≤ 1073741824) then
           bif decide ((0 : Int) ≤ runD s (0 : Int) ∧ runD s (0 : Int) ≤ (↑s.length : Int) ∧ s.length ≤ 1073741824) then
            some ((AV.tup [AV.agg [AV.str [], AV.str [], AV.str [], AV.nilsl, AV.nilsl], AV.int IntKind.i64 (11 : Int), AV.int IntKind.i64 (runD s (0 : Int))], []))
           else
            none
          else
           none
         else
          none
        else
         bif decide ((0 : Int) ≤ runD s (0 : Int) ∧ runD s (0 : Int) ≤ (↑s.length : Int) ∧ s.length ≤ 1073741824) then
          bif decide ((0 : Int) ≤ runD s (0 : Int) ∧ runD s (0 : Int) ≤ (↑s.length : Int) ∧ s.length ≤ 1073741824) then
           bif decide ((0 : Int) ≤ runD s (0 : Int) ∧ runD s (0 : Int) ≤ (↑s.length : Int) ∧ s.length ≤ 1073741824) then
            some ((AV.tup [AV.agg [AV.str [], AV.str [], AV.str [], AV.nilsl, AV.nilsl], AV.int IntKind.i64 (10 : Int), AV.int IntKind.i64 (runD s (0 : Int))], []))
           else
            none
          else
           none
         else
          none
      else
       none
     else
      bif decide ((0 : Int) ≤ (1 : Int) ∧ (1 : Int) ≤ (↑s.length : Int) ∧ s.length ≤ 1073741824) then
       bif decide ((0 : Int) ≤ (1 : Int) ∧ (1 : Int) ≤ (↑s.length : Int) ∧ s.length ≤ 1073741824) then
        bif decide ((0 : Int) ≤ (1 : Int) ∧ (1 : Int) ≤ (↑s.length : Int) ∧ s.length ≤ 1073741824) then
         bif decide ((0 : Int) ≤ (1 : Int) ∧ (1 : Int) ≤ (↑s.length : Int) ∧ s.length ≤ 1073741824) then
          some ((AV.tup [AV.agg [AV.str [], AV.str [], AV.str [], AV.nilsl, AV.nilsl], AV.int IntKind.i64 (14 : Int), AV.int IntKind.i64 (1 : Int)], []))
         else
          none
        else
         none
       else
        none
      else
       none
   else
    none := by kernel_rfl

def resR (r : PR) : Option (AV × Hp) := match r with
  | .inl v => (verT v fun p b h => .leaf (.tup [verAV v p b, .int .i64 0, .int .i64 0], h)).run
  | .inr x => some (.tup [noVer, .int .i64 x.1, .int .i64 x.2], [])

theorem errL {s : List UInt8} {a : Int} {E : Int → Option (AV × Hp)} : (bif decide (a ≥ (s.length : Int)) then E 11 else E 10) = E (errAt s a 10) := by
  unfold errAt
  by_cases h : a ≥ (s.length : Int)
  · rw [decide_eq_true h, if_pos h]; rfl
  · rw [decide_eq_false h, if_neg h]; rfl

theorem num_stay {s : List UInt8} {a : Int} (h0 : 0 ≤ a) (h1 : a ≤ s.length) (h : (numT s a == []) = true) : runD s a = a := by
  obtain ⟨n, rfl⟩ := Int.eq_ofNat_of_zero_le h0
  have h1 : n ≤ s.length := by omega
  rw [runD_fx h1]
  have := fxN_le (q := digB) h1
  by_cases he : fxN digB s n = n
  · rw [he]
  · have := (numB_zN h1 (by omega)).1
    rw [this] at h; cases h

theorem num_go {s : List UInt8} {a : Int} (h0 : 0 ≤ a) (h1 : a ≤ s.length) (h : (numT s a == []) = false) : a + 1 ≤ s.length := by
  by_cases q : a + 1 ≤ s.length
  · exact q
  · have := runD_ge h0 h1
    have e : numT s a = [] := by
      unfold numT
      rw [show (runD s a).toNat - a.toNat = 0 by omega]; rfl
    rw [e] at h; cases h

theorem bu50 {s : List UInt8} {b : Int} {k : List (List UInt8) → Ver} {Z1 Z2 : Option (AV × Hp)} (h0 : 0 ≤ b) (h1 : b ≤ s.length) (h2 : s.length ≤ 64) (hz1 : Z1 = resR (.inl (k (idL s false (b + 1))))) (hz2 : Z2 = resR (.inl (k []))) :
    (bif isAt s b 43 then
      bif decide (True ∧ 0 ≤ b + 1 ∧ b + 1 ≤ (s.length : Int) ∧ s.length ≤ 1073741824) then
       bif (idR s false (b + 1)).snd.isSome then
        bif decide ((idR s false (b + 1)).snd = some 10) then some (.tup [noVer, .int .i64 10, .int .i64 (idF s false (b + 1))], [])
        else bif decide ((idR s false (b + 1)).snd = some 11) then some (.tup [noVer, .int .i64 11, .int .i64 (idF s false (b + 1))], [])
         else bif decide ((idR s false (b + 1)).snd = some 14) then some (.tup [noVer, .int .i64 14, .int .i64 (idF s false (b + 1))], []) else none
       else bif decide (idF s false (b + 1) < (s.length : Int)) then some (.tup [noVer, .int .i64 10, .int .i64 (idF s false (b + 1))], []) else Z1
      else none
     else bif decide (b < (s.length : Int)) then some (.tup [noVer, .int .i64 10, .int .i64 b], []) else Z2) = resR (buP s b k) := by
  unfold buP
  cases hi : isAt s b 43 with
  | true =>
    have hlt := isAt_lt hi
    rw [decide_eq_true (show True ∧ 0 ≤ b + 1 ∧ b + 1 ≤ (s.length : Int) ∧ s.length ≤ 1073741824 from ⟨trivial, by omega, by omega, by omega⟩)]
    simp only [cond_true]
    unfold idsP
    cases ho : (idR s false (b + 1)).2 with
    | some er =>
      have hv := idsR_val ((s.length - (b + 1)).toNat + 1) ⟨s, false, 0, 0, b + 1, []⟩ er ⟨by simp only; omega, by simp only; omega, by simp only [bnd2]; omega, by simp only [List.length_nil]; omega⟩ (by simp only; omega) ho
      rcases hv with rfl | rfl | rfl <;> rfl
    | none =>
      simp only [Option.isSome_none, cond_false]
      unfold endP
      cases decide (idF s false (b + 1) < (s.length : Int))
      · exact hz1
      · rfl
  | false =>
    simp only [cond_false]
    unfold endP
    cases decide (b < (s.length : Int))
    · exact hz2
    · rfl

theorem tree50 (s : List UInt8) : (evn tabE6 h50 noLoops 50 [.str s] []).run = resR (parseS s) := by
  refine (t50 s).trans ?_
  unfold parseS
  by_cases hl : s.length > 64
  · rw [decide_eq_true hl, decide_eq_true (show (s.length : Int) > 64 by omega)]; rfl
  rw [decide_eq_false hl, decide_eq_false (show ¬ (s.length : Int) > 64 by omega)]
  simp only [cond_false, numR, dotR]
  obtain ⟨a1, a2⟩ := runD_ge (s := s) (a := 0) (by omega) (by omega)
  have z0 := num_stay (s := s) (a := 0) (by omega) (by omega)
  simp (disch := omega) only [decT, cond_true]
  cases h0 : (numT s 0 == []) with
  | true =>
    rw [z0 h0]
    exact errL (E := fun e => some (.tup [noVer, .int .i64 e, .int .i64 0], []))
  | false =>
    have o0 := num_go (by omega) (by omega) h0
    cases n0 : numB (numT s 0) with
    | false =>
      simp (disch := omega) only [decT, cond_true, cond_false]
      rfl
    | true =>
      simp only [cond_false, cond_true]
      cases i0 : isAt s (runD s 0) 46 with
      | false =>
        simp (disch := omega) only [decT, cond_true, cond_false]
        exact errL (E := fun e => some (.tup [noVer, .int .i64 e, .int .i64 (runD s 0)], []))
      | true =>
        have l0 := isAt_lt i0
        obtain ⟨b1, b2⟩ := runD_ge (s := s) (a := runD s 0 + 1) (by omega) (by omega)
        have z1 := num_stay (s := s) (a := runD s 0 + 1) (by omega) (by omega)
        generalize numT s 0 = d0
        generalize runD s 0 = A at *
        simp (disch := omega) only [decT, cond_true]
        cases h1 : (numT s (A + 1) == []) with
        | true =>
          rw [z1 h1]
          simp only [cond_true]
          exact errL (E := fun e => some (.tup [noVer, .int .i64 e, .int .i64 (A + 1)], []))
        | false =>
          have o1 := num_go (by omega) (by omega) h1
          cases n1 : numB (numT s (A + 1)) with
          | false =>
            simp (disch := omega) only [decT, cond_true, cond_false]
            rfl
          | true =>
            simp only [cond_false, cond_true]
            cases i1 : isAt s (runD s (A + 1)) 46 with
            | false =>
              simp (disch := omega) only [decT, cond_true, cond_false]
              exact errL (E := fun e => some (.tup [noVer, .int .i64 e, .int .i64 (runD s (A + 1))], []))
            | true =>
              have l1 := isAt_lt i1
              obtain ⟨c1, c2⟩ := runD_ge (s := s) (a := runD s (A + 1) + 1) (by omega) (by omega)
              have z2 := num_stay (s := s) (a := runD s (A + 1) + 1) (by omega) (by omega)
              generalize numT s (A + 1) = d1
              generalize runD s (A + 1) = B at *
              simp (disch := omega) only [decT, cond_true]
              cases h2 : (numT s (B + 1) == []) with
              | true =>
                rw [z2 h2]
                simp only [cond_true]
                exact errL (E := fun e => some (.tup [noVer, .int .i64 e, .int .i64 (B + 1)], []))
              | false =>
                have o2 := num_go (by omega) (by omega) h2
                cases n2 : numB (numT s (B + 1)) with
                | false =>
                  simp (disch := omega) only [decT, cond_true, cond_false]
                  rfl
                | true =>
                  generalize numT s (B + 1) = d2
                  generalize runD s (B + 1) = C at *
                  simp (disch := omega) only [w64, decT, cond_true, cond_false]
                  have g0 : (0 : Int) ≤ C := by omega
                  cases i2 : isAt s C 45 with
                  | false =>
                    simp only [cond_false]
                    refine bu50 (k := fun l2 => ⟨d0, d1, d2, [], l2⟩) g0 c2 (by omega) ?_ rfl
                    have := idL_ne s false (C + 1)
                    simp only [resR, verT, T.run, this, List.isEmpty_nil, cond_true, cond_false]
                    rfl
                  | true =>
                    have l2 := isAt_lt i2
                    obtain ⟨e1, e2⟩ := idF_ge (s := s) (p := true) (a := C + 1) (by omega) (by omega) (by omega)
                    rw [decide_eq_true (show True ∧ 0 ≤ C + 1 ∧ C + 1 ≤ (s.length : Int) ∧ s.length ≤ 1073741824 from ⟨trivial, by omega, by omega, by omega⟩)]
                    simp (disch := omega) only [w64, decT, cond_true]
                    unfold idsP
                    cases ho : (idR s true (C + 1)).2 with
                    | some er =>
                      have hv := idsR_val ((s.length - (C + 1)).toNat + 1) ⟨s, true, 0, 0, C + 1, []⟩ er ⟨by simp only; omega, by simp only; omega, by simp only [bnd2]; omega, by simp only [List.length_nil]; omega⟩ (by simp only; omega) ho
                      rcases hv with rfl | rfl | rfl <;> rfl
                    | none =>
                      simp only [Option.isSome_none, cond_false]
                      have q1 := idL_ne s true (C + 1)
                      have q2 := idL_ne s false (idF s true (C + 1) + 1)
                      have := bu50 (s := s) (b := idF s true (C + 1)) (k := fun l2 => ⟨d0, d1, d2, idL s true (C + 1), l2⟩) (by omega) e2 (by omega) rfl rfl
                      simp only [resR, verT, T.run, q1, q2, List.isEmpty_nil, cond_true, cond_false] at this
                      exact this
end Go.Sem
namespace Go.Sem

open Go Go.Proofs Go.Ab

set_option maxRecDepth 100000

set_option linter.unusedVariables false

set_option linter.unusedSimpArgs false

def c50 : List AV → T AV
  | [.str s] => .leaf (.tup [verS (prVer (parseS s)), .int .i64 (prErr (parseS s)), .int .i64 (prAt (parseS s))])
  | _ => .fail

def fz50 : Fz := .tup [.agg [.any, .any, .any, .rows 1, .rows 1], .any, .any]

theorem frz_ver50 (v : Ver) (e a : Int) : (verT v fun p b h => .leaf (.tup [verAV v p b, .int .i64 e, .int .i64 a], h)).run.bind (fun r => frz fz50 r.2 r.1) = some (.tup [verS v, .int .i64 e, .int .i64 a]) := by
  obtain ⟨a1, a2, a3, l, r⟩ := v
  cases l with
  | nil =>
    cases r with
    | nil => rfl
    | cons y r => simp [verT, T.run, verAV, frz, frzL, fz50, norefA, noref, verS, fromF]
  | cons x l =>
    cases r with
    | nil => simp [verT, T.run, verAV, frz, frzL, fz50, norefA, noref, verS, fromF]
    | cons y r => simp [verT, T.run, verAV, frz, frzL, fz50, norefA, noref, verS, fromF]

theorem s50 : Sound1 Tryd.prog ⟨50, true, pcon c50⟩ := by
  refine sound_frz (soundTab_of all_tabE6) (hs := H0) (hn := h50) (m := 20) (k := 9) (Λ := noLoops) fz50 (fun i hi => anyLoops) fun args r hF h => ?_
  unfold c50 at h
  split at h
  · rename_i s
    simp only [T.run_leaf, Option.some.injEq] at h; subst h
    have ht := tree50 s
    cases hp : parseS s with
    | inl v =>
      rw [hp] at ht
      have := frz_ver50 v 0 0
      obtain ⟨x, h1, h2⟩ := Option.bind_eq_some_iff.1 this
      exact ⟨x.1, x.2, ht.trans h1, h2⟩
    | inr x =>
      rw [hp] at ht
      exact ⟨_, _, ht, rfl⟩
  · cases h

noncomputable def tabE7 : Tab := ⟨50, true, pcon c50⟩ :: tabE6

theorem all_tabE7 : ∀ e, e ∈ tabE7 → Sound1 Tryd.prog e := (sound_mem_tab s50 all_tabE6)

theorem ok_tabE7 : SoundTab Tryd.prog tabE7 := soundTab_of all_tabE7

/-! ### The reference's Order -/

abbrev vC (v : Ver) : List AV := [.str v.mj, .str v.mn, .str v.pt, .sl 1 v.pre.length (strF v.pre), .sl 1 v.bu.length (strF v.bu)]

theorem dropS {l : List (List UInt8)} {i : Nat} (h : i < l.length) : l.drop i = l.getD i [] :: l.drop (i + 1) := by
  rw [List.drop_eq_getElem_cons h]
  congr 1
  rw [List.getD_eq_getElem?_getD, List.getElem?_eq_getElem h]; rfl

structure Y20 where
  v : Ver
  w : Ver
  i : Nat

def eL20 : Y20 → List AV × Hp := fun ⟨v, w, i⟩ => ([.ref 0 0, .ref 1 0, .int .i64 i], [some (.cells (vC v)), some (.cells (vC w))])

def dL20 : List AV × Hp → Y20
  | ([.ref _ _, .ref _ _, .int .i64 i], [some (.cells [.str v_a, .str v_b, .str v_c, .sl _ v_n v_f, .sl _ v_m v_g]), some (.cells [.str w_a, .str w_b, .str w_c, .sl _ w_n w_f, .sl _ w_m w_g])]) => ⟨vOf v_a v_b v_c v_n v_f v_m v_g, vOf w_a w_b w_c w_n w_f w_m w_g, i.toNat⟩
  | _ => ⟨default, default, default⟩

def pL20 : Y20 → Prop := fun ⟨v, w, i⟩ => i ≤ v.pre.length ∧ i ≤ w.pre.length ∧ v.pre.length ≤ bnd

def rL20 : Y20 → T (AX × St) := fun ⟨v, w, i⟩ => .br (difI (v.pre.drop i) (w.pre.drop i)).isSome (.leaf (.ret, { tm := tmOf 108 [(4, .int .i64 ((difI (v.pre.drop i) (w.pre.drop i)).getD (0, 0)).2)], ms := [], hp := [some (.cells (vC v)), some (.cells (vC w))] })) (.leaf (.exit 0, { tm := tmOf 108 [(2, .ref 0 0), (3, .ref 1 0), (8, .int .i64 (min v.pre.length w.pre.length : Nat)), (74, .bool false)], ms := [], hp := [some (.cells (vC v)), some (.cells (vC w))] }))

noncomputable def L20 : LoopT := fun k => match Nat.beq k 1500049 with
  | true => some (lccon (mbits 268 108) eL20 dL20 pL20 rL20)
  | false => none

theorem iL20 : ∀ x, dL20 (eL20 x) = x := by
  rintro ⟨v, w, i⟩
  simp only [eL20, dL20, vOf_strF, Int.toNat_natCast]

theorem kL20 (v : Ver) (w : Ver) (i : Nat) (h : i ≤ v.pre.length ∧ i ≤ w.pre.length ∧ v.pre.length ≤ bnd) : isEn eL20 pL20 ([.ref 0 0, .ref 1 0, .int .i64 i], [some (.cells (vC v)), some (.cells (vC w))]) = true := isEn_true (enc := eL20) (p := pL20) ⟨v, w, i⟩ h

theorem zL20 (v : Ver) (w : Ver) (h : pL20 ⟨v, w, 0⟩) : isEn eL20 pL20 ([.ref 0 0, .ref 1 0, .int .i64 (0 : Int)], [some (.cells (vC v)), some (.cells (vC w))]) = true := isEn_true (enc := eL20) (p := pL20) ⟨v, w, 0⟩ h

theorem q20 (v : Ver) (w : Ver) (i : Nat) : (rdn tabE7 h20 L20 20 0 0 { tm := encGo (mbits 268 108) [.ref 0 0, .ref 1 0, .int .i64 i], ms := [], hp := [some (.cells (vC v)), some (.cells (vC w))] }).run =
  bif decide ((↑i : Int) < (↑v.pre.length : Int)) then
   bif decide ((↑i : Int) < (↑w.pre.length : Int)) then
    bif decide ((0 : Int) ≤ (↑i : Int) ∧ (↑i : Int) < (↑v.pre.length : Int)) then
     bif decide ((0 : Int) ≤ (↑i : Int) ∧ (↑i : Int) < (↑w.pre.length : Int)) then
      bif idO (v.pre.getD (↑i : Int).toNat []) (w.pre.getD (↑i : Int).toNat []) != (0 : Int) then
       some ((AX.ret, { tm := tmOf 108 [(4, AV.int IntKind.i64 (idO (v.pre.getD (↑i : Int).toNat []) (w.pre.getD (↑i : Int).toNat [])))], ms := [], hp := [some (AObj.cells [AV.str v.mj, AV.str v.mn, AV.str v.pt, AV.sl 1 v.pre.length (strF v.pre), AV.sl 1 v.bu.length (strF v.bu)]), some (AObj.cells [AV.str w.mj, AV.str w.mn, AV.str w.pt, AV.sl 1 w.pre.length (strF w.pre), AV.sl 1 w.bu.length (strF w.bu)])] }))
      else
       some ((AX.normal, { tm := tmOf 108 [(2, AV.ref 0 0), (3, AV.ref 1 0), (8, AV.int IntKind.i64 (IntKind.i64.wrap ((↑i : Int) + (1 : Int))))], ms := [], hp := [some (AObj.cells [AV.str v.mj, AV.str v.mn, AV.str v.pt, AV.sl 1 v.pre.length (strF v.pre), AV.sl 1 v.bu.length (strF v.bu)]), some (AObj.cells [AV.str w.mj, AV.str w.mn, AV.str w.pt, AV.sl 1 w.pre.length (strF w.pre), AV.sl 1 w.bu.length (strF w.bu)])] }))
     else
      none
    else
     none
   else
    some ((AX.exit 0, { tm := tmOf 108 [(2, AV.ref 0 0), (3, AV.ref 1 0), (8, AV.int IntKind.i64 (↑i : Int)), (74, AV.bool false)], ms := [], hp := [some (AObj.cells [AV.str v.mj, AV.str v.mn, AV.str v.pt, AV.sl 1 v.pre.length (strF v.pre), AV.sl 1 v.bu.length (strF v.bu)]), some (AObj.cells [AV.str w.mj, AV.str w.mn, AV.str w.pt, AV.sl 1 w.pre.length (strF w.pre), AV.sl 1 w.bu.length (strF w.bu)])] }))
  else
   some ((AX.exit 0, { tm := tmOf 108 [(2, AV.ref 0 0), (3, AV.ref 1 0), (8, AV.int IntKind.i64 (↑i : Int)), (74, AV.bool false)], ms := [], hp := [some (AObj.cells [AV.str v.mj, AV.str v.mn, AV.str v.pt, AV.sl 1 v.pre.length (strF v.pre), AV.sl 1 v.bu.length (strF v.bu)]), some (AObj.cells [AV.str w.mj, AV.str w.mn, AV.str w.pt, AV.sl 1 w.pre.length (strF w.pre), AV.sl 1 w.bu.length (strF w.bu)])] })) := by kernel_rfl

theorem l20 : LoopOk Tryd.prog tabE7.pf (fun n => hd Tryd.prog tabE7.pf tabE7.con.run (fun f => (H0 f).to) n 9) h20.to 20 0 none L20 (loopAt Tryd.prog 20 0) := by
  rw [show loopAt Tryd.prog 20 0 = .loop (lbody Tryd.prog 20 0) by kernel_rfl]
  refine loop_c (hdT_le (m := 20) 9) (m := 20) (lv := mbits 268 108) (p := pL20) (res := rL20) iL20 (within_of _ (by rw [show loopsOf (lbody Tryd.prog 20 0) = [] by kernel_rfl]; simp)) (by kernel_rfl) (fun ⟨v, w, i⟩ => v.pre.length - i) ?_
  rintro ⟨v, w, i⟩ hp
  have ht := q20 v w i
  obtain ⟨h1, h2, h3⟩ := hp
  simp only [bnd] at h3
  by_cases hl : i < v.pre.length
  · by_cases hm : i < w.pre.length
    · rw [decide_eq_true (show (i : Int) < v.pre.length by omega), decide_eq_true (show (i : Int) < w.pre.length by omega), in_row hl, in_row hm, Int.toNat_natCast, w64n (by omega)] at ht
      simp only [cond_true] at ht
      have hd : difI (v.pre.drop i) (w.pre.drop i) = bif idO (v.pre.getD i []) (w.pre.getD i []) != 0 then some (0, idO (v.pre.getD i []) (w.pre.getD i [])) else (difI (v.pre.drop (i + 1)) (w.pre.drop (i + 1))).map fun x => (x.1 + 1, x.2) := by
        rw [dropS hl, dropS hm]; rfl
      cases hq : idO (v.pre.getD i []) (w.pre.getD i []) != 0 with
      | true =>
        rw [hq] at ht hd
        right
        refine ⟨_, ?_, ?_, ht⟩
        · simp
        · simp only [rL20, hd]; rfl
      | false =>
        rw [hq] at ht hd
        left
        refine ⟨⟨v, w, i + 1⟩, ⟨by omega, by omega, by simp only [bnd]; omega⟩, by simp only; omega, ?_, ht⟩
        simp only [rL20, hd, cond_false]
        cases difI (v.pre.drop (i + 1)) (w.pre.drop (i + 1)) <;> rfl
    · obtain rfl : i = w.pre.length := by omega
      rw [decide_eq_true (show (w.pre.length : Int) < v.pre.length by omega), decide_eq_false (show ¬ (w.pre.length : Int) < w.pre.length by omega)] at ht
      right
      refine ⟨_, ?_, ?_, ht⟩
      · simp
      · have hd : difI (v.pre.drop w.pre.length) (w.pre.drop w.pre.length) = none := by
          rw [List.drop_length, dropS hl]; rfl
        simp only [rL20, hd, show min v.pre.length w.pre.length = w.pre.length by omega]; rfl
  · obtain rfl : i = v.pre.length := by omega
    rw [decide_eq_false (show ¬ (v.pre.length : Int) < v.pre.length by omega)] at ht
    right
    refine ⟨_, ?_, ?_, ht⟩
    · simp
    · have hd : difI (v.pre.drop v.pre.length) (w.pre.drop v.pre.length) = none := by
        rw [List.drop_length]; unfold difI; rfl
      simp only [rL20, hd, show min v.pre.length w.pre.length = v.pre.length by omega]; rfl

theorem t20 (v : Ver) (w : Ver) : (evn tabE7 h20 L20 20 [.agg [.str v.mj, .str v.mn, .str v.pt, .sl 1 v.pre.length (strF v.pre), .sl 1 v.bu.length (strF v.bu)], .agg [.str w.mj, .str w.mn, .str w.pt, .sl 1 w.pre.length (strF w.pre), .sl 1 w.bu.length (strF w.bu)]] []).run =
  bif isEn en17 p17 [AV.agg [AV.str v.mj, AV.str v.mn, AV.str v.pt, AV.sl 1 v.pre.length (strF v.pre), AV.sl 1 v.bu.length (strF v.bu)]] then
   bif !fitV (vOf v.mj v.mn v.pt v.pre.length (strF v.pre) v.bu.length (strF v.bu)) then
    some ((AV.int IntKind.i64 (0 : Int), []))
   else
    bif isEn en17 p17 [AV.agg [AV.str w.mj, AV.str w.mn, AV.str w.pt, AV.sl 1 w.pre.length (strF w.pre), AV.sl 1 w.bu.length (strF w.bu)]] then
     bif !fitV (vOf w.mj w.mn w.pt w.pre.length (strF w.pre) w.bu.length (strF w.bu)) then
      some ((AV.int IntKind.i64 (0 : Int), []))
     else
      bif cmpD v.mj w.mj != (0 : Int) then
       some ((AV.int IntKind.i64 (cmpD v.mj w.mj), []))
      else
       bif cmpD v.mn w.mn != (0 : Int) then
        some ((AV.int IntKind.i64 (cmpD v.mn w.mn), []))
       else
        bif cmpD v.pt w.pt != (0 : Int) then
         some ((AV.int IntKind.i64 (cmpD v.pt w.pt), []))
        else
         bif (↑v.pre.length : Int) == (0 : Int) then
          some ((AV.int IntKind.i64 (IntKind.i64.wrap (truthZ ((↑v.pre.length : Int) == (0 : Int)) - truthZ ((↑w.pre.length : Int) == (0 : Int)))), []))
         else
          bif (↑w.pre.length : Int) == (0 : Int) then
           some ((AV.int IntKind.i64 (IntKind.i64.wrap (truthZ ((↑v.pre.length : Int) == (0 : Int)) - truthZ ((↑w.pre.length : Int) == (0 : Int)))), []))
          else
           bif isEn eL20 pL20 ([AV.ref 0 0, AV.ref 1 0, AV.int IntKind.i64 (0 : Int)], [some (AObj.cells [AV.str v.mj, AV.str v.mn, AV.str v.pt, AV.sl 1 v.pre.length (strF v.pre), AV.sl 1 v.bu.length (strF v.bu)]), some (AObj.cells [AV.str w.mj, AV.str w.mn, AV.str w.pt, AV.sl 1 w.pre.length (strF w.pre), AV.sl 1 w.bu.length (strF w.bu)])]) then
            bif (difI (List.drop 0 (vOf v.mj v.mn v.pt v.pre.length (strF v.pre) v.bu.length (strF v.bu)).pre) (List.drop 0 (vOf w.mj w.mn w.pt w.pre.length (strF w.pre) w.bu.length (strF w.bu)).pre)).isSome then
             some ((AV.int IntKind.i64 ((difI (List.drop 0 (vOf v.mj v.mn v.pt v.pre.length (strF v.pre) v.bu.length (strF v.bu)).pre) (List.drop 0 (vOf w.mj w.mn w.pt w.pre.length (strF w.pre) w.bu.length (strF w.bu)).pre)).getD (0, (0 : Int))).snd, []))
            else
             some ((AV.int IntKind.i64 (IntKind.i64.wrap (truthZ (decide ((↑(vOf v.mj v.mn v.pt v.pre.length (strF v.pre) v.bu.length (strF v.bu)).pre.length : Int) > (↑(vOf w.mj w.mn w.pt w.pre.length (strF w.pre) w.bu.length (strF w.bu)).pre.length : Int))) - truthZ (decide ((↑(vOf v.mj v.mn v.pt v.pre.length (strF v.pre) v.bu.length (strF v.bu)).pre.length : Int) < (↑(vOf w.mj w.mn w.pt w.pre.length (strF w.pre) w.bu.length (strF w.bu)).pre.length : Int))))), []))
           else
            none
    else
     none
  else
   none := by kernel_rfl

structure X20 where
  v : Ver
  w : Ver

def en20 : X20 → List AV := fun ⟨v, w⟩ => [.agg [.str v.mj, .str v.mn, .str v.pt, .sl 1 v.pre.length (strF v.pre), .sl 1 v.bu.length (strF v.bu)], .agg [.str w.mj, .str w.mn, .str w.pt, .sl 1 w.pre.length (strF w.pre), .sl 1 w.bu.length (strF w.bu)]]

def de20 : List AV → X20
  | [.agg [.str v_a, .str v_b, .str v_c, .sl _ v_n v_f, .sl _ v_m v_g], .agg [.str w_a, .str w_b, .str w_c, .sl _ w_n w_f, .sl _ w_m w_g]] => ⟨vOf v_a v_b v_c v_n v_f v_m v_g, vOf w_a w_b w_c w_n w_f w_m w_g⟩
  | _ => ⟨default, default⟩

def p20 : X20 → Prop := fun ⟨v, w⟩ => roomV v ∧ roomV w

def rs20 : X20 → T AV := fun ⟨v, w⟩ => .leaf (.int .i64 (ordV v w))

noncomputable def c20 : List AV → T AV := ccon en20 de20 p20 rs20

theorem in20 : ∀ x, de20 (en20 x) = x := by
  rintro ⟨v, w⟩
  simp only [en20, de20, vOf_strF]

theorem k20 (v : Ver) (w : Ver) (h : roomV v ∧ roomV w) : isEn en20 p20 [.agg [.str v.mj, .str v.mn, .str v.pt, .sl 1 v.pre.length (strF v.pre), .sl 1 v.bu.length (strF v.bu)], .agg [.str w.mj, .str w.mn, .str w.pt, .sl 1 w.pre.length (strF w.pre), .sl 1 w.bu.length (strF w.bu)]] = true := isEn_true (enc := en20) (p := p20) ⟨v, w⟩ h

theorem e20 (v : Ver) (w : Ver) (hF : FitsL [.agg [.str v.mj, .str v.mn, .str v.pt, .sl 1 v.pre.length (strF v.pre), .sl 1 v.bu.length (strF v.bu)], .agg [.str w.mj, .str w.mn, .str w.pt, .sl 1 w.pre.length (strF w.pre), .sl 1 w.bu.length (strF w.bu)]]) (hp : roomV v ∧ roomV w) : (evn tabE7 h20 L20 20 [.agg [.str v.mj, .str v.mn, .str v.pt, .sl 1 v.pre.length (strF v.pre), .sl 1 v.bu.length (strF v.bu)], .agg [.str w.mj, .str w.mn, .str w.pt, .sl 1 w.pre.length (strF w.pre), .sl 1 w.bu.length (strF w.bu)]] []).run = (.leaf (.int .i64 (ordV v w)) : T AV).run.map fun r => (r, []) := by
  refine (t20 v w).trans ?_
  have e : ∀ v : Ver, (⟨v.mj, v.mn, v.pt, v.pre, v.bu⟩ : Ver) = v := fun v => rfl
  have hlen : v.pre.length ≤ bnd := by
    have := hp.1.2.1.1
    simp only [bnd]; omega
  rw [k17 v hp.1, k17 w hp.2, zL20 v w ⟨Nat.zero_le _, Nat.zero_le _, hlen⟩]
  simp only [vOf_strF, e, List.drop_zero, truthZ_wrap]
  unfold ordV ordP preO orZ
  cases fitV v
  · rfl
  · cases fitV w
    · rfl
    · simp only [Bool.not_true, Bool.and_true, cond_true, cond_false]
      cases cmpD v.mj w.mj != 0
      · cases cmpD v.mn w.mn != 0
        · cases cmpD v.pt w.pt != 0
          · simp only [cond_false]
            cases h1 : ((v.pre.length : Int) == 0)
            · cases h2 : ((w.pre.length : Int) == 0)
              · simp only [Bool.or_self, cond_false]
                cases hd : difI v.pre w.pre with
                | none => simp only [Option.isSome_none, cond_false]; cases decide ((v.pre.length : Int) > w.pre.length) <;> cases decide ((v.pre.length : Int) < w.pre.length) <;> rfl
                | some x =>
                  simp only [Option.isSome_some, cond_true, Option.getD_some]
                  by_cases hz : x.2 = 0
                  · rw [hz]; rfl
                  · rw [show (x.2 != 0) = true by simpa using hz]; rfl
              · rfl
            · cases ((w.pre.length : Int) == 0) <;> rfl
          · rfl
        · rfl
      · rfl

theorem s20 : Sound1 Tryd.prog ⟨20, true, pcon c20⟩ := by
  refine sound_c (soundTab_of all_tabE7) H0 in20 (hn := h20) (m := 20) (k := 9) (Λ := L20) (oneLoop (by kernel_rfl) l20) ?_
  rintro ⟨v, w⟩ hp hF
  exact e20 v w hF hp

noncomputable def tabE8 : Tab := ⟨20, true, pcon c20⟩ :: tabE7

theorem all_tabE8 : ∀ e, e ∈ tabE8 → Sound1 Tryd.prog e := (sound_mem_tab s20 all_tabE7)

theorem ok_tabE8 : SoundTab Tryd.prog tabE8 := soundTab_of all_tabE8

theorem t21 (a : List UInt8) (b : List UInt8) : (evn tabE8 h21 noLoops 21 [.str a, .str b] []).run =
  bif prErr (parseS a) != (0 : Int) then
   bif prErr (parseS a) != (0 : Int) then
    bif prErr (parseS b) != (0 : Int) then
     some ((AV.int IntKind.i64 (IntKind.i64.wrap ((truthZ !(abytesLess a b || a == b)) - truthZ (abytesLess a b))), []))
    else
     some ((AV.int IntKind.i64 (IntKind.i64.wrap (truthZ (prErr (parseS a) == (0 : Int)) - truthZ (prErr (parseS b) == (0 : Int)))), []))
   else
    some ((AV.int IntKind.i64 (IntKind.i64.wrap (truthZ (prErr (parseS a) == (0 : Int)) - truthZ (prErr (parseS b) == (0 : Int)))), []))
  else
   bif prErr (parseS b) != (0 : Int) then
    bif prErr (parseS a) != (0 : Int) then
     bif prErr (parseS b) != (0 : Int) then
      some ((AV.int IntKind.i64 (IntKind.i64.wrap ((truthZ !(abytesLess a b || a == b)) - truthZ (abytesLess a b))), []))
     else
      some ((AV.int IntKind.i64 (IntKind.i64.wrap (truthZ (prErr (parseS a) == (0 : Int)) - truthZ (prErr (parseS b) == (0 : Int)))), []))
    else
     some ((AV.int IntKind.i64 (IntKind.i64.wrap (truthZ (prErr (parseS a) == (0 : Int)) - truthZ (prErr (parseS b) == (0 : Int)))), []))
   else
    bif isEn en20 p20 [AV.agg [AV.str (prVer (parseS a)).mj, AV.str (prVer (parseS a)).mn, AV.str (prVer (parseS a)).pt, AV.sl 1 (prVer (parseS a)).pre.length (strF (prVer (parseS a)).pre), AV.sl 1 (prVer (parseS a)).bu.length (strF (prVer (parseS a)).bu)], AV.agg [AV.str (prVer (parseS b)).mj, AV.str (prVer (parseS b)).mn, AV.str (prVer (parseS b)).pt, AV.sl 1 (prVer (parseS b)).pre.length (strF (prVer (parseS b)).pre), AV.sl 1 (prVer (parseS b)).bu.length (strF (prVer (parseS b)).bu)]] then
     some ((AV.int IntKind.i64 (ordV (vOf (prVer (parseS a)).mj (prVer (parseS a)).mn (prVer (parseS a)).pt (prVer (parseS a)).pre.length (strF (prVer (parseS a)).pre) (prVer (parseS a)).bu.length (strF (prVer (parseS a)).bu)) (vOf (prVer (parseS b)).mj (prVer (parseS b)).mn (prVer (parseS b)).pt (prVer (parseS b)).pre.length (strF (prVer (parseS b)).pre) (prVer (parseS b)).bu.length (strF (prVer (parseS b)).bu))), []))
    else
     none := by kernel_rfl

def c21 : List AV → T AV
  | [.str a, .str b] => .leaf (.int .i64 (cmpV a b))
  | _ => .fail

theorem e21 (a : List UInt8) (b : List UInt8) (hF : FitsL [.str a, .str b]) : (evn tabE8 h21 noLoops 21 [.str a, .str b] []).run = (.leaf (.int .i64 (cmpV a b)) : T AV).run.map fun r => (r, []) := by
  refine (t21 a b).trans ?_
  have hu := bytes_unit a b
  unfold unit3 at hu
  have hw : IntKind.i64.wrap ((truthZ !(abytesLess a b || a == b)) - truthZ (abytesLess a b)) = Lib.compareBytes a b := by
    rw [abytesLess_iff, bytes_eqz]
    rcases (by omega : Lib.compareBytes a b = -1 ∨ Lib.compareBytes a b = 0 ∨ Lib.compareBytes a b = 1) with e | e | e <;> rw [e] <;> rfl
  rw [hw, truthZ_wrap]
  unfold cmpV
  rw [show (prErr (parseS a) == (0 : Int)) = okP a from rfl, show (prErr (parseS b) == (0 : Int)) = okP b from rfl, show (prErr (parseS a) != (0 : Int)) = !okP a from rfl, show (prErr (parseS b) != (0 : Int)) = !okP b from rfl]
  cases ha : okP a
  · cases hb : okP b <;> rfl
  · cases hb : okP b
    · rfl
    · have fa := okP_fit ha
      have fb := okP_fit hb
      have e : ∀ v : Ver, (⟨v.mj, v.mn, v.pt, v.pre, v.bu⟩ : Ver) = v := fun v => rfl
      rw [k20 _ _ ⟨fit_room fa, fit_room fb⟩, vOf_strF, vOf_strF, e, e]
      unfold ordV
      rw [fa, fb]
      rfl

theorem s21 : Sound1 Tryd.prog ⟨21, true, pcon c21⟩ := by
  refine sound_pureH (m := 20) (k := 9) (hn := h21) (Λ := noLoops) (soundTab_of all_tabE8) H0 (fun i hi => anyLoops) fun args r hF h => ?_
  unfold c21 at h
  split at h
  · rename_i a b
    have he := e21 a b hF
    rw [he, h]; rfl
  · cases h

noncomputable def tabE9 : Tab := ⟨21, true, pcon c21⟩ :: tabE8

theorem all_tabE9 : ∀ e, e ∈ tabE9 → Sound1 Tryd.prog e := (sound_mem_tab s21 all_tabE8)

theorem ok_tabE9 : SoundTab Tryd.prog tabE9 := soundTab_of all_tabE9
end Go.Sem

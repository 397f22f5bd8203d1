/- Lemmas for the claims of this seat (a verified symbolic evaluator, and contracts of functions): own work; no condition. -/
import Derived.Test.YtibanfkcemnifaaDoorFnA
import Derived.Test.YtibanfkcemnifaaDoorEvE
namespace Go.Sem

open Go Go.Proofs Go.Ab

set_option maxRecDepth 100000

set_option linter.unusedVariables false

set_option linter.unusedSimpArgs false

/-! ### (*reader).is, wrong, ok -/

theorem anyLoopsB {t : Tab} {H : Nat → Hd} {hn : HintsT} {f : FuncId} {i b : Nat} : LoopOk Tryd.prog t.pf H hn.to f b none noLoops (loopAt Tryd.prog f i) := by
  generalize loopAt Tryd.prog f i = c
  cases c with
  | loop c => exact fun l hl => by cases hl
  | rangeFunc _ _ _ _ => exact fun l hl => by cases hl
  | _ => trivial

def rd (s : List UInt8) (at_ e fa : Int) : Option AObj := some (.cells [.str s, .int .i64 at_, .int .i64 e, .int .i64 fa])

def byt (s : List UInt8) (i : Int) : Int := ((s.getD i.toNat 0).toNat : Int)

def isAt (s : List UInt8) (a c : Int) : Bool := decide (a < (s.length : Int)) && byt s a == c

theorem t28 (s : List UInt8) (a e fa c : Int) : (evn tabH h28 noLoops 28 [.ref 0 0, .int .u8 c] [rd s a e fa]).run =
  bif decide (a < (↑s.length : Int)) then
   bif decide ((0 : Int) ≤ a ∧ a < (↑s.length : Int)) then
    some ((AV.bool ((↑(s.getD a.toNat (0 : UInt8)).toNat : Int) == c), [some (AObj.cells [AV.str s, AV.int IntKind.i64 a, AV.int IntKind.i64 e, AV.int IntKind.i64 fa])]))
   else
    none
  else
   some ((AV.bool false, [some (AObj.cells [AV.str s, AV.int IntKind.i64 a, AV.int IntKind.i64 e, AV.int IntKind.i64 fa])])) := by kernel_rfl
theorem t29 (s : List UInt8) (a e fa x : Int) : (evn tabH h29 noLoops 29 [.ref 0 0, .int .i64 x] [rd s a e fa]).run =
  bif decide (a ≥ (↑s.length : Int)) then
   some ((AV.tup [], [some (AObj.cells [AV.str s, AV.int IntKind.i64 a, AV.int IntKind.i64 (11 : Int), AV.int IntKind.i64 a])]))
  else
   some ((AV.tup [], [some (AObj.cells [AV.str s, AV.int IntKind.i64 a, AV.int IntKind.i64 x, AV.int IntKind.i64 a])])) := by kernel_rfl
theorem t31 (s : List UInt8) (a e fa : Int) : (evn tabH h31 noLoops 31 [.ref 0 0] [rd s a e fa]).run =
  some ((AV.bool (e == (0 : Int)), [some (AObj.cells [AV.str s, AV.int IntKind.i64 a, AV.int IntKind.i64 e, AV.int IntKind.i64 fa])])) := by kernel_rfl

def c28 : List AV → Hp → T (AV × Hp)
  | [.ref 0 0, .int .u8 c], [some (.cells [.str s, .int .i64 a, .int .i64 e, .int .i64 fa])] => .chk (decide (0 ≤ a)) (.leaf (.bool (isAt s a c), [rd s a e fa]))
  | _, _ => .fail

def errAt (s : List UInt8) (a x : Int) : Int := if a ≥ (s.length : Int) then 11 else x

def c29 : List AV → Hp → T (AV × Hp)
  | [.ref 0 0, .int .i64 x], [some (.cells [.str s, .int .i64 a, .int .i64 e, .int .i64 fa])] => .leaf (.tup [], [rd s a (errAt s a x) a])
  | _, _ => .fail

def c31 : List AV → Hp → T (AV × Hp)
  | [.ref 0 0], [some (.cells [.str s, .int .i64 a, .int .i64 e, .int .i64 fa])] => .leaf (.bool (e == 0), [rd s a e fa])
  | _, _ => .fail

theorem s28 : Sound1 Tryd.prog ⟨28, false, gcon c28⟩ := by
  refine sound_mem okH (hn := h28) (m := 20) (k := 9) (Λ := noLoops) (fun _ _ _ _ _ i hi => anyLoopsB) fun args hs r hs' hF hH h => ?_
  unfold c28 at h
  split at h
  · rename_i c s a e fa
    rw [T.run_chk] at h
    split at h
    · rename_i hc
      have hc := of_decide_eq_true hc
      simp only [T.run_leaf, Option.some.injEq, Prod.mk.injEq] at h
      obtain ⟨rfl, rfl⟩ := h
      refine (t28 s a e fa c).trans ?_
      unfold isAt byt
      by_cases h1 : a < (s.length : Int)
      · have g : decide ((0 : Int) ≤ a ∧ a < (s.length : Int)) = true := by simp; omega
        rw [decide_eq_true h1, g]
        rfl
      · rw [decide_eq_false h1]
        rfl
    · cases h
  · cases h

theorem s29 : Sound1 Tryd.prog ⟨29, false, gcon c29⟩ := by
  refine sound_mem okH (hn := h29) (m := 20) (k := 9) (Λ := noLoops) (fun _ _ _ _ _ i hi => anyLoopsB) fun args hs r hs' hF hH h => ?_
  unfold c29 at h
  split at h
  · rename_i x s a e fa
    simp only [T.run_leaf, Option.some.injEq, Prod.mk.injEq] at h
    obtain ⟨rfl, rfl⟩ := h
    refine (t29 s a e fa x).trans ?_
    unfold errAt
    by_cases h1 : a ≥ (s.length : Int)
    · rw [decide_eq_true h1, if_pos h1]; rfl
    · rw [decide_eq_false h1, if_neg h1]; rfl
  · cases h

theorem s31 : Sound1 Tryd.prog ⟨31, false, gcon c31⟩ := by
  refine sound_mem okH (hn := h31) (m := 20) (k := 9) (Λ := noLoops) (fun _ _ _ _ _ i hi => anyLoopsB) fun args hs r hs' hF hH h => ?_
  unfold c31 at h
  split at h
  · rename_i s a e fa
    simp only [T.run_leaf, Option.some.injEq, Prod.mk.injEq] at h
    obtain ⟨rfl, rfl⟩ := h
    exact t31 s a e fa
  · cases h

def tabI : Tab := ⟨28, false, gcon c28⟩ :: ⟨29, false, gcon c29⟩ :: ⟨31, false, gcon c31⟩ :: tabH

theorem allI : ∀ e, e ∈ tabI → Sound1 Tryd.prog e := sound_mem_tab s28 (sound_mem_tab s29 (sound_mem_tab s31 allH))

theorem okI : SoundTab Tryd.prog tabI := soundTab_of allI

/-! ### (*reader).number -/

theorem t30 (s : List UInt8) (a e fa : Int) : (evn tabI h30 noLoops 30 [.ref 0 0] [rd s a e fa]).run =
  bif decide ((0 : Int) ≤ a ∧ a ≤ runD s a ∧ runD s a ≤ (↑s.length : Int)) then
   bif List.take ((runD s a).toNat - a.toNat) (List.drop a.toNat s) == [] then
    some ((AV.str (List.take ((runD s a).toNat - a.toNat) (List.drop a.toNat s)), [some (AObj.cells [AV.str s, AV.int IntKind.i64 (runD s a), AV.int IntKind.i64 (errAt s (runD s a) (10 : Int)), AV.int IntKind.i64 (runD s a)])]))
   else
    bif !numB (List.take ((runD s a).toNat - a.toNat) (List.drop a.toNat s)) then
     some ((AV.str (List.take ((runD s a).toNat - a.toNat) (List.drop a.toNat s)), [some (AObj.cells [AV.str s, AV.int IntKind.i64 (IntKind.i64.wrap (a + (1 : Int))), AV.int IntKind.i64 (14 : Int), AV.int IntKind.i64 (IntKind.i64.wrap (a + (1 : Int)))])]))
    else
     some ((AV.str (List.take ((runD s a).toNat - a.toNat) (List.drop a.toNat s)), [some (AObj.cells [AV.str s, AV.int IntKind.i64 (runD s a), AV.int IntKind.i64 e, AV.int IntKind.i64 fa])]))
  else
   none := by kernel_rfl

/-! ### (*reader).idents -/

/-- A list of texts, as it lies: nil, or a row. -/
def lsA (b : Nat) : List (List UInt8) → AV
  | [] => .nilsl
  | x :: l => .row b 1 0 (x :: l).length

def lsH : List (List UInt8) → Hp
  | [] => []
  | x :: l => [some (.row 1 (x :: l).length (strF (x :: l)))]

structure Y32 where
  s : List UInt8
  p : Bool
  e : Int
  fa : Int
  fr : Int
  L : List (List UInt8)

def enI32 (y : Y32) (i : Int) : List AV × Hp := ([.ref 0 0, .bool y.p, lsA 1 y.L, .int .i64 y.fr], rd y.s i y.e y.fa :: lsH y.L)

def oI32 (y : Y32) (i : Int) : AX × St := (.exit 2, { tm := tmOf 99 [(0, .ref 0 0), (1, .bool y.p), (5, lsA 1 y.L), (6, .int .i64 y.fr), (41, .bool false)], ms := [], hp := rd y.s i y.e y.fa :: lsH y.L })

open Classical in
noncomputable def DI32 : List AV → Hp → T (AX × St)
  | [.ref 0 0, .bool p, .nilsl, .int .i64 fr], [some (.cells [.str s, .int .i64 a, .int .i64 e, .int .i64 fa])] =>
    .chk (decide (0 ≤ a ∧ a ≤ s.length ∧ s.length ≤ bnd)) (.leaf (oI32 ⟨s, p, e, fa, fr, []⟩ (firstX idB s a)))
  | [.ref 0 0, .bool p, .row 1 1 0 n, .int .i64 fr], [some (.cells [.str s, .int .i64 a, .int .i64 e, .int .i64 fa]), some (.row 1 m f)] =>
    .chk (decide (0 ≤ a ∧ a ≤ s.length ∧ s.length ≤ bnd ∧ 0 < n ∧ m = n ∧ IsStrs f n)) (.leaf (.exit 2, { tm := tmOf 99 [(0, .ref 0 0), (1, .bool p), (5, .row 1 1 0 n), (6, .int .i64 fr), (41, .bool false)], ms := [], hp := [rd s (firstX idB s a) e fa, some (.row 1 m f)] }))
  | _, _ => .fail

theorem rI32a (s : List UInt8) (p : Bool) (e fa fr i : Int) (Λ : LoopT) : (rdn tabI h32 Λ 32 1 1 { tm := encGo (mbits 99 99) (enI32 ⟨s, p, e, fa, fr, []⟩ i).1, ms := [], hp := (enI32 ⟨s, p, e, fa, fr, []⟩ i).2 }).run =
    bif decide (i < (s.length : Int)) then
      bif decide (0 ≤ i ∧ i < (s.length : Int)) then
        bif idB ((s.getD i.toNat 0).toNat : Int) then some (.normal, { tm := encGo (mbits 99 99) (enI32 ⟨s, p, e, fa, fr, []⟩ (IntKind.i64.wrap (i + 1))).1, ms := [], hp := (enI32 ⟨s, p, e, fa, fr, []⟩ (IntKind.i64.wrap (i + 1))).2 })
        else some (oI32 ⟨s, p, e, fa, fr, []⟩ i)
      else none
    else some (oI32 ⟨s, p, e, fa, fr, []⟩ i) := by kernel_rfl

theorem rI32b (s : List UInt8) (p : Bool) (e fa fr i : Int) (x : List UInt8) (l : List (List UInt8)) (Λ : LoopT) : (rdn tabI h32 Λ 32 1 1 { tm := encGo (mbits 99 99) (enI32 ⟨s, p, e, fa, fr, x :: l⟩ i).1, ms := [], hp := (enI32 ⟨s, p, e, fa, fr, x :: l⟩ i).2 }).run =
    bif decide (i < (s.length : Int)) then
      bif decide (0 ≤ i ∧ i < (s.length : Int)) then
        bif idB ((s.getD i.toNat 0).toNat : Int) then some (.normal, { tm := encGo (mbits 99 99) (enI32 ⟨s, p, e, fa, fr, x :: l⟩ (IntKind.i64.wrap (i + 1))).1, ms := [], hp := (enI32 ⟨s, p, e, fa, fr, x :: l⟩ (IntKind.i64.wrap (i + 1))).2 })
        else some (oI32 ⟨s, p, e, fa, fr, x :: l⟩ i)
      else none
    else some (oI32 ⟨s, p, e, fa, fr, x :: l⟩ i) := by kernel_rfl

theorem rI32 (y : Y32) (i : Int) (Λ : LoopT) : (rdn tabI h32 Λ 32 1 1 { tm := encGo (mbits 99 99) (enI32 y i).1, ms := [], hp := (enI32 y i).2 }).run =
    bif decide (i < (y.s.length : Int)) then
      bif decide (0 ≤ i ∧ i < (y.s.length : Int)) then
        bif idB ((y.s.getD i.toNat 0).toNat : Int) then some (.normal, { tm := encGo (mbits 99 99) (enI32 y (IntKind.i64.wrap (i + 1))).1, ms := [], hp := (enI32 y (IntKind.i64.wrap (i + 1))).2 })
        else some (oI32 y i)
      else none
    else some (oI32 y i) := by
  obtain ⟨s, p, e, fa, fr, L⟩ := y
  cases L with
  | nil => exact rI32a s p e fa fr i Λ
  | cons x l => exact rI32b s p e fa fr i x l Λ

open Classical in
theorem lI32 (Λ : LoopT) (hΛ : Λ (lkey (lbody Tryd.prog 32 1)) = some (lcon (mbits 99 99) DI32)) : LoopOk Tryd.prog tabI.pf (fun n => hd Tryd.prog tabI.pf tabI.con.run (fun f => (H0 f).to) n 9) h32.to 32 1 none Λ (loopAt Tryd.prog 32 1) := by
  rw [show loopAt Tryd.prog 32 1 = .loop (lbody Tryd.prog 32 1) by kernel_rfl]
  refine find_con (hdT_le (m := 20) 9) (m := 20) (within_of _ (by rw [show loopsOf (lbody Tryd.prog 32 1) = [] by kernel_rfl]; simp)) (D := DI32) (lv := mbits 99 99) hΛ
    enI32 (fun y => y.s) (fun _ => idB) (fun y => oI32 y y.s.length) oI32 (fun _ => True) ?_ ?_ ?_ (fun y i => ⟨by simp [oI32], by simp [oI32]⟩)
  · intro vs hp r h
    unfold DI32 at h
    split at h
    · rename_i p fr s a e fa
      rw [T.run_chk] at h
      split at h
      · rename_i hc
        have hc := of_decide_eq_true hc
        refine ⟨⟨s, p, e, fa, fr, []⟩, a, rfl, trivial, hc.1, hc.2.1, hc.2.2, ?_⟩
        have h := (Option.some.inj h).symm
        split
        · rename_i hq; simp only at hq; rw [h, hq]
        · exact h
      · cases h
    · rename_i p n fr s a e fa m f
      rw [T.run_chk] at h
      split at h
      · rename_i hc
        obtain ⟨h1, h2, h3, h4, rfl, h6⟩ := of_decide_eq_true hc
        obtain ⟨l, rfl, rfl⟩ := h6
        have h := (Option.some.inj h).symm
        cases l with
        | nil => simp at h4
        | cons x l =>
          refine ⟨⟨s, p, e, fa, fr, x :: l⟩, a, rfl, trivial, h1, h2, h3, ?_⟩
          split
          · rename_i hq; simp only at hq; rw [h, hq]; rfl
          · exact h
      · cases h
    · cases h
  · rintro y i _ h0 hl hw
    refine (rI32 y i Λ).trans ?_
    have g1 : decide (i < (y.s.length : Int)) = true := by simpa using hl
    have g2 : decide ((0 : Int) ≤ i ∧ i < (y.s.length : Int)) = true := by simp; omega
    rw [g1, g2, hw, ← Bool.cond_eq_ite]
    rfl
  · rintro y _
    refine (rI32 y _ Λ).trans ?_
    simp only [Int.lt_irrefl, decide_false, cond_false]

noncomputable def LI32 : LoopT := fun k => match Nat.beq k 400038 with
  | true => some (lcon (mbits 99 99) DI32)
  | false => none

theorem q32a (s : List UInt8) (at_ e fa : Int) (p : Bool) : (rdn tabI h32 LI32 32 1 0 { tm := encGo (mbits 35 99) [.ref 0 0, .bool p, .nilsl], ms := [], hp := [rd s at_ e fa] }).run =
  bif decide ((0 : Int) ≤ at_ ∧ at_ ≤ (↑s.length : Int) ∧ s.length ≤ 4611686018427387903) then
   bif decide ((0 : Int) ≤ at_ ∧ at_ ≤ firstX idB s at_ ∧ firstX idB s at_ ≤ (↑s.length : Int)) then
    bif List.take ((firstX idB s at_).toNat - at_.toNat) (List.drop at_.toNat s) == [] then
     some ((AX.ret, { tm := tmOf 99 [(4, AV.nilsl)], ms := [], hp := [some (AObj.cells [AV.str s, AV.int IntKind.i64 (firstX idB s at_), AV.int IntKind.i64 (errAt s (firstX idB s at_) (10 : Int)), AV.int IntKind.i64 (firstX idB s at_)])] }))
    else
     bif p then
      bif dgs (List.take ((firstX idB s at_).toNat - at_.toNat) (List.drop at_.toNat s)) then
       bif !numB (List.take ((firstX idB s at_).toNat - at_.toNat) (List.drop at_.toNat s)) then
        bif decide ((0 : Int) ≤ firstX idB s at_) then
         bif isAt s (firstX idB s at_) (46 : Int) then
          some ((AX.ret, { tm := tmOf 99 [(4, AV.nilsl)], ms := [], hp := [some (AObj.cells [AV.str s, AV.int IntKind.i64 (firstX idB s at_), AV.int IntKind.i64 (errAt s (firstX idB s at_) (14 : Int)), AV.int IntKind.i64 (firstX idB s at_)])] }))
         else
          bif decide ((0 : Int) ≤ firstX idB s at_) then
           bif isAt s (firstX idB s at_) (43 : Int) then
            some ((AX.ret, { tm := tmOf 99 [(4, AV.nilsl)], ms := [], hp := [some (AObj.cells [AV.str s, AV.int IntKind.i64 (firstX idB s at_), AV.int IntKind.i64 (errAt s (firstX idB s at_) (14 : Int)), AV.int IntKind.i64 (firstX idB s at_)])] }))
           else
            some ((AX.ret, { tm := tmOf 99 [(4, AV.nilsl)], ms := [], hp := [some (AObj.cells [AV.str s, AV.int IntKind.i64 (firstX idB s at_), AV.int IntKind.i64 (errAt s (firstX idB s at_) (10 : Int)), AV.int IntKind.i64 (firstX idB s at_)])] }))
          else
           none
        else
         none
       else
        bif decide ((0 : Int) ≤ firstX idB s at_) then
         bif !isAt s (firstX idB s at_) (46 : Int) then
          some ((AX.ret,
  { tm := tmOf 99 [(4, AV.row 2 1 0 1)], ms := [],
    hp :=
      [some (AObj.cells [AV.str s, AV.int IntKind.i64 (firstX idB s at_), AV.int IntKind.i64 e, AV.int IntKind.i64 fa]), some (AObj.row 1 1 (rowF 1 (over (List.map (fun i => (List.map aconst1 (Value.string { data := #[] }).cells.toList).getD (i % 1) AV.junk) (List.range 1)) 0 (acells (evS (putS (List.length (oI32 { s := s, p := p, e := e, fa := fa, fr := at_, L := [] } (firstX idB s at_)).snd.tm) (some 85) (AV.str (List.take ((firstX idB s at_).toNat - at_.toNat) (List.drop at_.toNat s))) (putS (List.length (oI32 { s := s, p := p, e := e, fa := fa, fr := at_, L := [] } (firstX idB s at_)).snd.tm) (some 84) AV.nilsl (setS (List.length (oI32 { s := s, p := p, e := e, fa := fa, fr := at_, L := [] } (firstX idB s at_)).snd.tm) [(64, AV.bool !numB (List.take ((firstX idB s at_).toNat - at_.toNat) (List.drop at_.toNat s))), (7, AV.str (List.take ((firstX idB s at_).toNat - at_.toNat) (List.drop at_.toNat s))), (0, (fun i => lookT i [(0, AV.ref 0 0), (1, AV.bool p), (5, lsA 1 []), (6, AV.int IntKind.i64 at_), (41, AV.bool false)]) (nat_lit 0)), (1, (fun i => lookT i [(0, AV.ref 0 0), (1, AV.bool p), (5, lsA 1 []), (6, AV.int IntKind.i64 at_), (41, AV.bool false)]) (nat_lit 1)), (5, (fun i => lookT i [(0, AV.ref 0 0), (1, AV.bool p), (5, lsA 1 []), (6, AV.int IntKind.i64 at_), (41, AV.bool false)]) (nat_lit 5))] (Operand.tmp 64) false))) (Operand.tmp 85)))))),
        some (AObj.row 1 1 fun i => rowF 1 (over (List.map (fun i => (List.map aconst1 (Value.string { data := #[] }).cells.toList).getD (i % 1) AV.junk) (List.range 1)) 0 (acells (evS (putS (List.length (oI32 { s := s, p := p, e := e, fa := fa, fr := at_, L := [] } (firstX idB s at_)).snd.tm) (some 85) (AV.str (List.take ((firstX idB s at_).toNat - at_.toNat) (List.drop at_.toNat s))) (putS (List.length (oI32 { s := s, p := p, e := e, fa := fa, fr := at_, L := [] } (firstX idB s at_)).snd.tm) (some 84) AV.nilsl (setS (List.length (oI32 { s := s, p := p, e := e, fa := fa, fr := at_, L := [] } (firstX idB s at_)).snd.tm) [(64, AV.bool !numB (List.take ((firstX idB s at_).toNat - at_.toNat) (List.drop at_.toNat s))), (7, AV.str (List.take ((firstX idB s at_).toNat - at_.toNat) (List.drop at_.toNat s))), (0, (fun i => lookT i [(0, AV.ref 0 0), (1, AV.bool p), (5, lsA 1 []), (6, AV.int IntKind.i64 at_), (41, AV.bool false)]) (nat_lit 0)), (1, (fun i => lookT i [(0, AV.ref 0 0), (1, AV.bool p), (5, lsA 1 []), (6, AV.int IntKind.i64 at_), (41, AV.bool false)]) (nat_lit 1)), (5, (fun i => lookT i [(0, AV.ref 0 0), (1, AV.bool p), (5, lsA 1 []), (6, AV.int IntKind.i64 at_), (41, AV.bool false)]) (nat_lit 5))] (Operand.tmp 64) false))) (Operand.tmp 85)))) (0 + i))] }))
         else
          some ((AX.normal, { tm := tmOf 99 [(0, AV.ref 0 0), (1, AV.bool p), (5, AV.row 1 1 0 1)], ms := [], hp := [some (AObj.cells [AV.str s, AV.int IntKind.i64 (IntKind.i64.wrap (firstX idB s at_ + (1 : Int))), AV.int IntKind.i64 e, AV.int IntKind.i64 fa]), some (AObj.row 1 1 fun i => rowF 1 (over (List.map (fun i => (List.map aconst1 (Value.string { data := #[] }).cells.toList).getD (i % 1) AV.junk) (List.range 1)) 0 (acells (evS (putS (List.length (oI32 { s := s, p := p, e := e, fa := fa, fr := at_, L := [] } (firstX idB s at_)).snd.tm) (some 85) (AV.str (List.take ((firstX idB s at_).toNat - at_.toNat) (List.drop at_.toNat s))) (putS (List.length (oI32 { s := s, p := p, e := e, fa := fa, fr := at_, L := [] } (firstX idB s at_)).snd.tm) (some 84) AV.nilsl (setS (List.length (oI32 { s := s, p := p, e := e, fa := fa, fr := at_, L := [] } (firstX idB s at_)).snd.tm) [(64, AV.bool !numB (List.take ((firstX idB s at_).toNat - at_.toNat) (List.drop at_.toNat s))), (7, AV.str (List.take ((firstX idB s at_).toNat - at_.toNat) (List.drop at_.toNat s))), (0, (fun i => lookT i [(0, AV.ref 0 0), (1, AV.bool p), (5, lsA 1 []), (6, AV.int IntKind.i64 at_), (41, AV.bool false)]) (nat_lit 0)), (1, (fun i => lookT i [(0, AV.ref 0 0), (1, AV.bool p), (5, lsA 1 []), (6, AV.int IntKind.i64 at_), (41, AV.bool false)]) (nat_lit 1)), (5, (fun i => lookT i [(0, AV.ref 0 0), (1, AV.bool p), (5, lsA 1 []), (6, AV.int IntKind.i64 at_), (41, AV.bool false)]) (nat_lit 5))] (Operand.tmp 64) false))) (Operand.tmp 85)))) (0 + i))] }))
        else
         none
      else
       bif decide ((0 : Int) ≤ firstX idB s at_) then
        bif !isAt s (firstX idB s at_) (46 : Int) then
         some ((AX.ret,
  { tm := tmOf 99 [(4, AV.row 2 1 0 1)], ms := [],
    hp :=
      [some (AObj.cells [AV.str s, AV.int IntKind.i64 (firstX idB s at_), AV.int IntKind.i64 e, AV.int IntKind.i64 fa]), some (AObj.row 1 1 (rowF 1 (over (List.map (fun i => (List.map aconst1 (Value.string { data := #[] }).cells.toList).getD (i % 1) AV.junk) (List.range 1)) 0 (acells (evS (putS (List.length (oI32 { s := s, p := p, e := e, fa := fa, fr := at_, L := [] } (firstX idB s at_)).snd.tm) (some 85) (AV.str (List.take ((firstX idB s at_).toNat - at_.toNat) (List.drop at_.toNat s))) (putS (List.length (oI32 { s := s, p := p, e := e, fa := fa, fr := at_, L := [] } (firstX idB s at_)).snd.tm) (some 84) AV.nilsl (setS (List.length (oI32 { s := s, p := p, e := e, fa := fa, fr := at_, L := [] } (firstX idB s at_)).snd.tm) [(64, AV.bool false), (7, AV.str (List.take ((firstX idB s at_).toNat - at_.toNat) (List.drop at_.toNat s))), (0, (fun i => lookT i [(0, AV.ref 0 0), (1, AV.bool p), (5, lsA 1 []), (6, AV.int IntKind.i64 at_), (41, AV.bool false)]) (nat_lit 0)), (1, (fun i => lookT i [(0, AV.ref 0 0), (1, AV.bool p), (5, lsA 1 []), (6, AV.int IntKind.i64 at_), (41, AV.bool false)]) (nat_lit 1)), (5, (fun i => lookT i [(0, AV.ref 0 0), (1, AV.bool p), (5, lsA 1 []), (6, AV.int IntKind.i64 at_), (41, AV.bool false)]) (nat_lit 5))] (Operand.tmp 64) false))) (Operand.tmp 85)))))),
        some (AObj.row 1 1 fun i => rowF 1 (over (List.map (fun i => (List.map aconst1 (Value.string { data := #[] }).cells.toList).getD (i % 1) AV.junk) (List.range 1)) 0 (acells (evS (putS (List.length (oI32 { s := s, p := p, e := e, fa := fa, fr := at_, L := [] } (firstX idB s at_)).snd.tm) (some 85) (AV.str (List.take ((firstX idB s at_).toNat - at_.toNat) (List.drop at_.toNat s))) (putS (List.length (oI32 { s := s, p := p, e := e, fa := fa, fr := at_, L := [] } (firstX idB s at_)).snd.tm) (some 84) AV.nilsl (setS (List.length (oI32 { s := s, p := p, e := e, fa := fa, fr := at_, L := [] } (firstX idB s at_)).snd.tm) [(64, AV.bool false), (7, AV.str (List.take ((firstX idB s at_).toNat - at_.toNat) (List.drop at_.toNat s))), (0, (fun i => lookT i [(0, AV.ref 0 0), (1, AV.bool p), (5, lsA 1 []), (6, AV.int IntKind.i64 at_), (41, AV.bool false)]) (nat_lit 0)), (1, (fun i => lookT i [(0, AV.ref 0 0), (1, AV.bool p), (5, lsA 1 []), (6, AV.int IntKind.i64 at_), (41, AV.bool false)]) (nat_lit 1)), (5, (fun i => lookT i [(0, AV.ref 0 0), (1, AV.bool p), (5, lsA 1 []), (6, AV.int IntKind.i64 at_), (41, AV.bool false)]) (nat_lit 5))] (Operand.tmp 64) false))) (Operand.tmp 85)))) (0 + i))] }))
        else
         some ((AX.normal, { tm := tmOf 99 [(0, AV.ref 0 0), (1, AV.bool p), (5, AV.row 1 1 0 1)], ms := [], hp := [some (AObj.cells [AV.str s, AV.int IntKind.i64 (IntKind.i64.wrap (firstX idB s at_ + (1 : Int))), AV.int IntKind.i64 e, AV.int IntKind.i64 fa]), some (AObj.row 1 1 fun i => rowF 1 (over (List.map (fun i => (List.map aconst1 (Value.string { data := #[] }).cells.toList).getD (i % 1) AV.junk) (List.range 1)) 0 (acells (evS (putS (List.length (oI32 { s := s, p := p, e := e, fa := fa, fr := at_, L := [] } (firstX idB s at_)).snd.tm) (some 85) (AV.str (List.take ((firstX idB s at_).toNat - at_.toNat) (List.drop at_.toNat s))) (putS (List.length (oI32 { s := s, p := p, e := e, fa := fa, fr := at_, L := [] } (firstX idB s at_)).snd.tm) (some 84) AV.nilsl (setS (List.length (oI32 { s := s, p := p, e := e, fa := fa, fr := at_, L := [] } (firstX idB s at_)).snd.tm) [(64, AV.bool false), (7, AV.str (List.take ((firstX idB s at_).toNat - at_.toNat) (List.drop at_.toNat s))), (0, (fun i => lookT i [(0, AV.ref 0 0), (1, AV.bool p), (5, lsA 1 []), (6, AV.int IntKind.i64 at_), (41, AV.bool false)]) (nat_lit 0)), (1, (fun i => lookT i [(0, AV.ref 0 0), (1, AV.bool p), (5, lsA 1 []), (6, AV.int IntKind.i64 at_), (41, AV.bool false)]) (nat_lit 1)), (5, (fun i => lookT i [(0, AV.ref 0 0), (1, AV.bool p), (5, lsA 1 []), (6, AV.int IntKind.i64 at_), (41, AV.bool false)]) (nat_lit 5))] (Operand.tmp 64) false))) (Operand.tmp 85)))) (0 + i))] }))
       else
        none
     else
      bif decide ((0 : Int) ≤ firstX idB s at_) then
       bif !isAt s (firstX idB s at_) (46 : Int) then
        some ((AX.ret,
  { tm := tmOf 99 [(4, AV.row 2 1 0 1)], ms := [],
    hp :=
      [some (AObj.cells [AV.str s, AV.int IntKind.i64 (firstX idB s at_), AV.int IntKind.i64 e, AV.int IntKind.i64 fa]), some (AObj.row 1 1 (rowF 1 (over (List.map (fun i => (List.map aconst1 (Value.string { data := #[] }).cells.toList).getD (i % 1) AV.junk) (List.range 1)) 0 (acells (evS (putS (List.length (oI32 { s := s, p := p, e := e, fa := fa, fr := at_, L := [] } (firstX idB s at_)).snd.tm) (some 85) (AV.str (List.take ((firstX idB s at_).toNat - at_.toNat) (List.drop at_.toNat s))) (putS (List.length (oI32 { s := s, p := p, e := e, fa := fa, fr := at_, L := [] } (firstX idB s at_)).snd.tm) (some 84) AV.nilsl (setS (List.length (oI32 { s := s, p := p, e := e, fa := fa, fr := at_, L := [] } (firstX idB s at_)).snd.tm) [(64, AV.bool false), (7, AV.str (List.take ((firstX idB s at_).toNat - at_.toNat) (List.drop at_.toNat s))), (0, (fun i => lookT i [(0, AV.ref 0 0), (1, AV.bool p), (5, lsA 1 []), (6, AV.int IntKind.i64 at_), (41, AV.bool false)]) (nat_lit 0)), (1, (fun i => lookT i [(0, AV.ref 0 0), (1, AV.bool p), (5, lsA 1 []), (6, AV.int IntKind.i64 at_), (41, AV.bool false)]) (nat_lit 1)), (5, (fun i => lookT i [(0, AV.ref 0 0), (1, AV.bool p), (5, lsA 1 []), (6, AV.int IntKind.i64 at_), (41, AV.bool false)]) (nat_lit 5))] (Operand.tmp 64) false))) (Operand.tmp 85)))))),
        some (AObj.row 1 1 fun i => rowF 1 (over (List.map (fun i => (List.map aconst1 (Value.string { data := #[] }).cells.toList).getD (i % 1) AV.junk) (List.range 1)) 0 (acells (evS (putS (List.length (oI32 { s := s, p := p, e := e, fa := fa, fr := at_, L := [] } (firstX idB s at_)).snd.tm) (some 85) (AV.str (List.take ((firstX idB s at_).toNat - at_.toNat) (List.drop at_.toNat s))) (putS (List.length (oI32 { s := s, p := p, e := e, fa := fa, fr := at_, L := [] } (firstX idB s at_)).snd.tm) (some 84) AV.nilsl (setS (List.length (oI32 { s := s, p := p, e := e, fa := fa, fr := at_, L := [] } (firstX idB s at_)).snd.tm) [(64, AV.bool false), (7, AV.str (List.take ((firstX idB s at_).toNat - at_.toNat) (List.drop at_.toNat s))), (0, (fun i => lookT i [(0, AV.ref 0 0), (1, AV.bool p), (5, lsA 1 []), (6, AV.int IntKind.i64 at_), (41, AV.bool false)]) (nat_lit 0)), (1, (fun i => lookT i [(0, AV.ref 0 0), (1, AV.bool p), (5, lsA 1 []), (6, AV.int IntKind.i64 at_), (41, AV.bool false)]) (nat_lit 1)), (5, (fun i => lookT i [(0, AV.ref 0 0), (1, AV.bool p), (5, lsA 1 []), (6, AV.int IntKind.i64 at_), (41, AV.bool false)]) (nat_lit 5))] (Operand.tmp 64) false))) (Operand.tmp 85)))) (0 + i))] }))
       else
        some ((AX.normal, { tm := tmOf 99 [(0, AV.ref 0 0), (1, AV.bool p), (5, AV.row 1 1 0 1)], ms := [], hp := [some (AObj.cells [AV.str s, AV.int IntKind.i64 (IntKind.i64.wrap (firstX idB s at_ + (1 : Int))), AV.int IntKind.i64 e, AV.int IntKind.i64 fa]), some (AObj.row 1 1 fun i => rowF 1 (over (List.map (fun i => (List.map aconst1 (Value.string { data := #[] }).cells.toList).getD (i % 1) AV.junk) (List.range 1)) 0 (acells (evS (putS (List.length (oI32 { s := s, p := p, e := e, fa := fa, fr := at_, L := [] } (firstX idB s at_)).snd.tm) (some 85) (AV.str (List.take ((firstX idB s at_).toNat - at_.toNat) (List.drop at_.toNat s))) (putS (List.length (oI32 { s := s, p := p, e := e, fa := fa, fr := at_, L := [] } (firstX idB s at_)).snd.tm) (some 84) AV.nilsl (setS (List.length (oI32 { s := s, p := p, e := e, fa := fa, fr := at_, L := [] } (firstX idB s at_)).snd.tm) [(64, AV.bool false), (7, AV.str (List.take ((firstX idB s at_).toNat - at_.toNat) (List.drop at_.toNat s))), (0, (fun i => lookT i [(0, AV.ref 0 0), (1, AV.bool p), (5, lsA 1 []), (6, AV.int IntKind.i64 at_), (41, AV.bool false)]) (nat_lit 0)), (1, (fun i => lookT i [(0, AV.ref 0 0), (1, AV.bool p), (5, lsA 1 []), (6, AV.int IntKind.i64 at_), (41, AV.bool false)]) (nat_lit 1)), (5, (fun i => lookT i [(0, AV.ref 0 0), (1, AV.bool p), (5, lsA 1 []), (6, AV.int IntKind.i64 at_), (41, AV.bool false)]) (nat_lit 5))] (Operand.tmp 64) false))) (Operand.tmp 85)))) (0 + i))] }))
      else
       none
   else
    none
  else
   none := by kernel_rfl

end Go.Sem
namespace Go.Sem

open Go Go.Proofs Go.Ab

set_option maxRecDepth 100000

set_option linter.unusedVariables false

set_option linter.unusedSimpArgs false

def tokD (s : List UInt8) (a : Int) : List UInt8 := (s.drop a.toNat).take ((firstX idB s a).toNat - a.toNat)

structure X32 where
  s : List UInt8
  p : Bool
  e : Int
  fa : Int
  a : Int
  L : List (List UInt8)

def en32 (y : X32) : List AV × Hp := ([.ref 0 0, .bool y.p, lsA 1 y.L], rd y.s y.a y.e y.fa :: lsH y.L)

/-- What a round comes to: a fault, or one text more and the place behind it. -/
def badT (s : List UInt8) (p : Bool) (a : Int) : Option Int :=
  bif tokD s a == [] then some (errAt s (firstX idB s a) 10)
  else bif p && dgs (tokD s a) && !numB (tokD s a) then (bif isAt s (firstX idB s a) 46 || isAt s (firstX idB s a) 43 then some (errAt s (firstX idB s a) 14) else some (errAt s (firstX idB s a) 10))
  else none

def oF32 (y : X32) (err : Int) : AX × St := (.ret, { tm := tmOf 99 [(4, .nilsl)], ms := [], hp := rd y.s (firstX idB y.s y.a) err (firstX idB y.s y.a) :: lsH y.L })

def oL32 (y : X32) : AX × St := match y.L with
  | [] => (.ret, { tm := tmOf 99 [(4, .row 2 1 0 1)], ms := [], hp := [rd y.s (firstX idB y.s y.a) y.e y.fa, some (.row 1 1 (rowF 1 [.str (tokD y.s y.a)])), some (.row 1 1 (fun i => rowF 1 [.str (tokD y.s y.a)] (0 + i)))] })
  | x :: l => (.ret, { tm := tmOf 99 [(4, .row 3 1 0 ((x :: l).length + 1))], ms := [], hp := [rd y.s (firstX idB y.s y.a) y.e y.fa, none, some (.row 1 1 (rowF 1 [.str (tokD y.s y.a)])), some (.row 1 ((x :: l).length + 1) (appF (x :: l).length (strF (x :: l)) fun i => rowF 1 [.str (tokD y.s y.a)] (0 + i)))] })

def nx32 (y : X32) : AX × St := match y.L with
  | [] => (.normal, { tm := encGo (mbits 35 99) [.ref 0 0, .bool y.p, .row 1 1 0 1], ms := [], hp := [rd y.s (IntKind.i64.wrap (firstX idB y.s y.a + 1)) y.e y.fa, some (.row 1 1 (fun i => rowF 1 [.str (tokD y.s y.a)] (0 + i)))] })
  | x :: l => (.normal, { tm := encGo (mbits 35 99) [.ref 0 0, .bool y.p, .row 1 1 0 ((x :: l).length + 1)], ms := [], hp := [rd y.s (IntKind.i64.wrap (firstX idB y.s y.a + 1)) y.e y.fa, some (.row 1 ((x :: l).length + 1) (appF (x :: l).length (strF (x :: l)) fun i => rowF 1 [.str (tokD y.s y.a)] (0 + i)))] })

theorem r32a (s : List UInt8) (p : Bool) (e fa a : Int) : (rdn tabI h32 LI32 32 1 0 { tm := encGo (mbits 35 99) (en32 ⟨s, p, e, fa, a, []⟩).1, ms := [], hp := (en32 ⟨s, p, e, fa, a, []⟩).2 }).run =
    bif decide (0 ≤ a ∧ a ≤ (s.length : Int) ∧ s.length ≤ bnd) then
     bif decide (0 ≤ a ∧ a ≤ firstX idB s a ∧ firstX idB s a ≤ (s.length : Int)) then
      bif tokD s a == [] then some (oF32 ⟨s, p, e, fa, a, []⟩ (errAt s (firstX idB s a) 10))
      else bif p then
       bif dgs (tokD s a) then
        bif !numB (tokD s a) then
         bif decide (0 ≤ firstX idB s a) then
          bif isAt s (firstX idB s a) 46 then some (oF32 ⟨s, p, e, fa, a, []⟩ (errAt s (firstX idB s a) 14))
          else bif decide (0 ≤ firstX idB s a) then
           bif isAt s (firstX idB s a) 43 then some (oF32 ⟨s, p, e, fa, a, []⟩ (errAt s (firstX idB s a) 14)) else some (oF32 ⟨s, p, e, fa, a, []⟩ (errAt s (firstX idB s a) 10))
          else none
         else none
        else bif decide (0 ≤ firstX idB s a) then bif !isAt s (firstX idB s a) 46 then some (oL32 ⟨s, p, e, fa, a, []⟩) else some (nx32 ⟨s, p, e, fa, a, []⟩) else none
       else bif decide (0 ≤ firstX idB s a) then bif !isAt s (firstX idB s a) 46 then some (oL32 ⟨s, p, e, fa, a, []⟩) else some (nx32 ⟨s, p, e, fa, a, []⟩) else none
      else bif decide (0 ≤ firstX idB s a) then bif !isAt s (firstX idB s a) 46 then some (oL32 ⟨s, p, e, fa, a, []⟩) else some (nx32 ⟨s, p, e, fa, a, []⟩) else none
     else none
    else none := by kernel_rfl

open Classical in
theorem r32b (s : List UInt8) (p : Bool) (e fa a : Int) (x : List UInt8) (l : List (List UInt8)) : (rdn tabI h32 LI32 32 1 0 { tm := encGo (mbits 35 99) (en32 ⟨s, p, e, fa, a, x :: l⟩).1, ms := [], hp := (en32 ⟨s, p, e, fa, a, x :: l⟩).2 }).run =
    bif decide (0 ≤ a ∧ a ≤ (s.length : Int) ∧ s.length ≤ bnd ∧ 0 < (x :: l).length ∧ (x :: l).length = (x :: l).length ∧ IsStrs (strF (x :: l)) (x :: l).length) then
     bif decide (0 ≤ a ∧ a ≤ firstX idB s a ∧ firstX idB s a ≤ (s.length : Int)) then
      bif tokD s a == [] then some (oF32 ⟨s, p, e, fa, a, x :: l⟩ (errAt s (firstX idB s a) 10))
      else bif p then
       bif dgs (tokD s a) then
        bif !numB (tokD s a) then
         bif decide (0 ≤ firstX idB s a) then
          bif isAt s (firstX idB s a) 46 then some (oF32 ⟨s, p, e, fa, a, x :: l⟩ (errAt s (firstX idB s a) 14))
          else bif decide (0 ≤ firstX idB s a) then
           bif isAt s (firstX idB s a) 43 then some (oF32 ⟨s, p, e, fa, a, x :: l⟩ (errAt s (firstX idB s a) 14)) else some (oF32 ⟨s, p, e, fa, a, x :: l⟩ (errAt s (firstX idB s a) 10))
          else none
         else none
        else bif decide ((x :: l).length = (x :: l).length) then bif decide (((x :: l).length + 1) * 16 ≤ 140737488355328 ∧ (x :: l).length + 1 ≤ bnd) then bif decide (0 ≤ firstX idB s a) then bif !isAt s (firstX idB s a) 46 then some (oL32 ⟨s, p, e, fa, a, x :: l⟩) else some (nx32 ⟨s, p, e, fa, a, x :: l⟩) else none else none else none
       else bif decide ((x :: l).length = (x :: l).length) then bif decide (((x :: l).length + 1) * 16 ≤ 140737488355328 ∧ (x :: l).length + 1 ≤ bnd) then bif decide (0 ≤ firstX idB s a) then bif !isAt s (firstX idB s a) 46 then some (oL32 ⟨s, p, e, fa, a, x :: l⟩) else some (nx32 ⟨s, p, e, fa, a, x :: l⟩) else none else none else none
      else bif decide ((x :: l).length = (x :: l).length) then bif decide (((x :: l).length + 1) * 16 ≤ 140737488355328 ∧ (x :: l).length + 1 ≤ bnd) then bif decide (0 ≤ firstX idB s a) then bif !isAt s (firstX idB s a) 46 then some (oL32 ⟨s, p, e, fa, a, x :: l⟩) else some (nx32 ⟨s, p, e, fa, a, x :: l⟩) else none else none else none
     else none
    else none := by kernel_rfl

def bnd2 : Nat := 1073741824

def inv32 (y : X32) : Prop := 0 ≤ y.a ∧ y.a ≤ y.s.length ∧ y.s.length ≤ bnd2 ∧ (y.L.length : Int) ≤ y.a

theorem round32 (y : X32) (h : inv32 y) : (rdn tabI h32 LI32 32 1 0 { tm := encGo (mbits 35 99) (en32 y).1, ms := [], hp := (en32 y).2 }).run =
    match badT y.s y.p y.a with
    | some er => some (oF32 y er)
    | none => bif isAt y.s (firstX idB y.s y.a) 46 then some (nx32 y) else some (oL32 y) := by
  obtain ⟨s, p, e, fa, a, L⟩ := y
  obtain ⟨h1, h2, h3, h4⟩ := h
  simp only at h1 h2 h3 h4
  simp only [bnd2] at h3
  have hf := firstX_le (q := idB) (s := s) h1 h2
  have g1 : decide (0 ≤ a ∧ a ≤ (s.length : Int) ∧ s.length ≤ bnd) = true := decide_eq_true ⟨h1, h2, by simp only [bnd]; omega⟩
  have g2 : decide (0 ≤ a ∧ a ≤ firstX idB s a ∧ firstX idB s a ≤ (s.length : Int)) = true := decide_eq_true ⟨h1, by omega, by omega⟩
  have g3 : decide (0 ≤ firstX idB s a) = true := decide_eq_true (by omega)
  cases L with
  | nil =>
    refine (r32a s p e fa a).trans ?_
    rw [g1, g2, g3]
    unfold badT
    cases (tokD s a == []) <;> cases p <;> cases dgs (tokD s a) <;> cases numB (tokD s a) <;> cases isAt s (firstX idB s a) 46 <;> cases isAt s (firstX idB s a) 43 <;> rfl
  | cons x l =>
    refine (r32b s p e fa a x l).trans ?_
    have g4 : (0 ≤ a ∧ a ≤ (s.length : Int) ∧ s.length ≤ bnd ∧ 0 < (x :: l).length ∧ (x :: l).length = (x :: l).length ∧ IsStrs (strF (x :: l)) (x :: l).length) := ⟨h1, h2, by simp only [bnd]; omega, by simp, rfl, isStrs_strF _⟩
    have g5 : decide (((x :: l).length + 1) * 16 ≤ 140737488355328 ∧ (x :: l).length + 1 ≤ bnd) = true := by
      apply decide_eq_true
      simp only [bnd]
      constructor <;> omega
    have g6 : decide ((x :: l).length = (x :: l).length) = true := decide_eq_true rfl
    rw [Bool.cond_eq_ite, if_pos (by simpa only [decide_eq_true_eq] using g4), g2, g3, g5, g6]
    unfold badT
    cases (tokD s a == []) <;> cases p <;> cases dgs (tokD s a) <;> cases numB (tokD s a) <;> cases isAt s (firstX idB s a) 46 <;> cases isAt s (firstX idB s a) 43 <;> rfl

def nxt (y : X32) : X32 := { y with a := firstX idB y.s y.a + 1, L := y.L ++ [tokD y.s y.a] }

theorem isAt_lt {s : List UInt8} {a c : Int} (h : isAt s a c = true) : a < s.length := by
  unfold isAt at h
  simp only [Bool.and_eq_true, decide_eq_true_eq] at h
  exact h.1

theorem nx32_eq (y : X32) (h : inv32 y) (hd : isAt y.s (firstX idB y.s y.a) 46 = true) : nx32 y = (.normal, { tm := encGo (mbits 35 99) (en32 (nxt y)).1, ms := [], hp := (en32 (nxt y)).2 }) := by
  obtain ⟨s, p, e, fa, a, L⟩ := y
  obtain ⟨h1, h2, h3, h4⟩ := h
  simp only at h1 h2 h3 h4 hd
  simp only [bnd2] at h3
  have hf := firstX_le (q := idB) (s := s) h1 h2
  have hw : IntKind.i64.wrap (firstX idB s a + 1) = firstX idB s a + 1 := w64 (by omega) (by omega)
  cases L with
  | nil =>
    unfold nx32 nxt en32
    simp only [hw, strF_one, List.nil_append]
    rfl
  | cons x l =>
    unfold nx32 nxt en32
    simp only [hw, strF_app]
    have e1 : (x :: l) ++ [tokD s a] = x :: (l ++ [tokD s a]) := rfl
    have e2 : (x :: (l ++ [tokD s a])).length = (x :: l).length + 1 := by simp
    rw [e1]
    simp only [lsA, lsH, e2]

theorem nxt_inv (y : X32) (h : inv32 y) (hd : isAt y.s (firstX idB y.s y.a) 46 = true) : inv32 (nxt y) ∧ y.a < (nxt y).a := by
  obtain ⟨h1, h2, h3, h4⟩ := h
  have hf := firstX_le (q := idB) (s := y.s) h1 h2
  have := isAt_lt hd
  unfold inv32 nxt
  simp only [List.length_append, List.length_cons, List.length_nil]
  refine ⟨⟨by omega, by omega, h3, by omega⟩, by omega⟩

def idsR : Nat → X32 → X32 × Option Int
  | 0, y => (y, some 0)
  | n + 1, y => match badT y.s y.p y.a with
    | some er => (y, some er)
    | none => bif isAt y.s (firstX idB y.s y.a) 46 then idsR n (nxt y) else (y, none)

def idsE (y : X32) : X32 × Option Int := idsR ((y.s.length - y.a).toNat + 1) y

theorem idsR_ge : ∀ (n m : Nat) (y : X32), inv32 y → (y.s.length - y.a).toNat < n → (y.s.length - y.a).toNat < m → idsR n y = idsR m y
  | 0, m, y, hi, h1, h2 => by omega
  | n + 1, 0, y, hi, h1, h2 => by omega
  | n + 1, m + 1, y, hi, h1, h2 => by
    unfold idsR
    cases badT y.s y.p y.a with
    | some er => rfl
    | none =>
      cases hd : isAt y.s (firstX idB y.s y.a) 46 with
      | false => rfl
      | true =>
        obtain ⟨hi2, hlt⟩ := nxt_inv y hi hd
        have e : (nxt y).s = y.s := rfl
        have := hi2.2.1
        exact idsR_ge n m (nxt y) hi2 (by rw [e] at *; omega) (by rw [e] at *; omega)

theorem idsE_step (y : X32) (hi : inv32 y) : idsE y = match badT y.s y.p y.a with
    | some er => (y, some er)
    | none => bif isAt y.s (firstX idB y.s y.a) 46 then idsE (nxt y) else (y, none) := by
  unfold idsE
  conv => lhs; unfold idsR
  cases badT y.s y.p y.a with
  | some er => rfl
  | none =>
    cases hd : isAt y.s (firstX idB y.s y.a) 46 with
    | false => rfl
    | true =>
      obtain ⟨hi2, hlt⟩ := nxt_inv y hi hd
      have e : (nxt y).s = y.s := rfl
      have := hi2.2.1
      exact idsR_ge _ _ (nxt y) hi2 (by rw [e] at *; omega) (by omega)

def out32 (r : X32 × Option Int) : AX × St := match r.2 with
  | some er => oF32 r.1 er
  | none => oL32 r.1

/-- The same as a tree, each leaf's form laid bare. -/
def tree32 (z : X32) (o : Option Int) : T (AX × St) :=
  .br o.isSome
    (.br z.L.isEmpty (.leaf (.ret, { tm := tmOf 99 [(4, .nilsl)], ms := [], hp := [rd z.s (firstX idB z.s z.a) (o.getD 0) (firstX idB z.s z.a)] }))
      (.leaf (.ret, { tm := tmOf 99 [(4, .nilsl)], ms := [], hp := [rd z.s (firstX idB z.s z.a) (o.getD 0) (firstX idB z.s z.a), some (.row 1 z.L.length (strF z.L))] })))
    (.br z.L.isEmpty (.leaf (.ret, { tm := tmOf 99 [(4, .row 2 1 0 1)], ms := [], hp := [rd z.s (firstX idB z.s z.a) z.e z.fa, some (.row 1 1 (rowF 1 [.str (tokD z.s z.a)])), some (.row 1 1 (fun i => rowF 1 [.str (tokD z.s z.a)] (0 + i)))] }))
      (.leaf (.ret, { tm := tmOf 99 [(4, .row 3 1 0 (z.L.length + 1))], ms := [], hp := [rd z.s (firstX idB z.s z.a) z.e z.fa, none, some (.row 1 1 (rowF 1 [.str (tokD z.s z.a)])), some (.row 1 (z.L.length + 1) (appF z.L.length (strF z.L) fun i => rowF 1 [.str (tokD z.s z.a)] (0 + i)))] })))

theorem tree32_run (r : X32 × Option Int) : (tree32 r.1 r.2).run = some (out32 r) := by
  obtain ⟨⟨s, p, e, fa, a, L⟩, o⟩ := r
  cases o <;> cases L <;> rfl

def D32 : List AV → Hp → T (AX × St)
  | [.ref 0 0, .bool p, .nilsl], [some (.cells [.str s, .int .i64 a, .int .i64 e, .int .i64 fa])] =>
    .chk (decide (0 ≤ a ∧ a ≤ s.length ∧ s.length ≤ bnd2)) (tree32 (idsE ⟨s, p, e, fa, a, []⟩).1 (idsE ⟨s, p, e, fa, a, []⟩).2)
  | _, _ => .fail

noncomputable def L32 : LoopT := fun k => match Nat.beq k 300147 with
  | true => some (lcon (mbits 35 99) D32)
  | false => LI32 k

theorem rL32 (y : X32) : (rdn tabI h32 L32 32 1 0 { tm := encGo (mbits 35 99) (en32 y).1, ms := [], hp := (en32 y).2 }).run = (rdn tabI h32 LI32 32 1 0 { tm := encGo (mbits 35 99) (en32 y).1, ms := [], hp := (en32 y).2 }).run := by
  obtain ⟨s, p, e, fa, a, L⟩ := y
  cases L with
  | nil => exact (show (rdn tabI h32 L32 32 1 0 { tm := encGo (mbits 35 99) (en32 ⟨s, p, e, fa, a, []⟩).1, ms := [], hp := (en32 ⟨s, p, e, fa, a, []⟩).2 }).run = (rdn tabI h32 LI32 32 1 0 { tm := encGo (mbits 35 99) (en32 ⟨s, p, e, fa, a, []⟩).1, ms := [], hp := (en32 ⟨s, p, e, fa, a, []⟩).2 }).run by kernel_rfl)
  | cons x l => exact (show (rdn tabI h32 L32 32 1 0 { tm := encGo (mbits 35 99) (en32 ⟨s, p, e, fa, a, x :: l⟩).1, ms := [], hp := (en32 ⟨s, p, e, fa, a, x :: l⟩).2 }).run = (rdn tabI h32 LI32 32 1 0 { tm := encGo (mbits 35 99) (en32 ⟨s, p, e, fa, a, x :: l⟩).1, ms := [], hp := (en32 ⟨s, p, e, fa, a, x :: l⟩).2 }).run by kernel_rfl)

theorem l32 : LoopOk Tryd.prog tabI.pf (fun n => hd Tryd.prog tabI.pf tabI.con.run (fun f => (H0 f).to) n 9) h32.to 32 1 none L32 (loopAt Tryd.prog 32 0) := by
  rw [show loopAt Tryd.prog 32 0 = .loop (lbody Tryd.prog 32 0) by kernel_rfl]
  refine loop_con (hdT_le (m := 20) 9) (m := 20) (within_of _ (by
      rw [show loopsOf (lbody Tryd.prog 32 0) = [loopAt Tryd.prog 32 1] by kernel_rfl]
      intro d hd
      simp only [List.mem_cons, List.not_mem_nil, or_false] at hd
      subst hd
      exact lI32 L32 (by kernel_rfl))) (D := D32) (lv := mbits 35 99) (by kernel_rfl)
    en32 (fun y => out32 (idsE y)) inv32 (fun y => ((y.s.length : Int) - y.a).toNat) ?_ ?_
  · intro vs hp r h
    unfold D32 at h
    split at h
    · rename_i p s a e fa
      rw [T.run_chk] at h
      split at h
      · rename_i hc
        obtain ⟨h1, h2, h3⟩ := of_decide_eq_true hc
        rw [tree32_run] at h
        exact ⟨⟨s, p, e, fa, a, []⟩, rfl, ⟨h1, h2, h3, by simpa using h1⟩, (Option.some.inj h).symm⟩
      · cases h
    · cases h
  · intro y hi
    have hr := (rL32 y).trans (round32 y hi)
    have hs := idsE_step y hi
    have oF : ∀ z er, (oF32 z er).1 ≠ .normal := fun z er => by simp [oF32]
    have oL : ∀ z, (oL32 z).1 ≠ .normal := fun z => by
      obtain ⟨s, p, e, fa, a, L⟩ := z
      cases L <;> simp [oL32]
    cases hb : badT y.s y.p y.a with
    | some er =>
      rw [hb] at hr hs
      right
      rw [hs]
      exact ⟨hr, oF _ _⟩
    | none =>
      rw [hb] at hr hs
      cases hd : isAt y.s (firstX idB y.s y.a) 46 with
      | false =>
        rw [hd] at hr hs
        right
        simp only [cond_false] at hr hs
        rw [hs]
        exact ⟨hr, oL _⟩
      | true =>
        rw [hd] at hr hs
        simp only [cond_true] at hr hs
        obtain ⟨hi2, hlt⟩ := nxt_inv y hi hd
        left
        refine ⟨nxt y, hi2, ?_, by rw [hs], ?_⟩
        · have e : (nxt y).s = y.s := rfl
          have := hi2.2.1
          rw [e] at *
          omega
        · rw [nx32_eq y hi hd] at hr
          exact hr

theorem idsR_keep : ∀ (n : Nat) (y : X32), (idsR n y).1.s = y.s ∧ (idsR n y).1.p = y.p ∧ (idsR n y).1.e = y.e ∧ (idsR n y).1.fa = y.fa
  | 0, y => ⟨rfl, rfl, rfl, rfl⟩
  | n + 1, y => by
    unfold idsR
    cases badT y.s y.p y.a with
    | some er => exact ⟨rfl, rfl, rfl, rfl⟩
    | none =>
      cases isAt y.s (firstX idB y.s y.a) 46 with
      | false => exact ⟨rfl, rfl, rfl, rfl⟩
      | true => exact idsR_keep n (nxt y)

theorem t32 (s : List UInt8) (a e fa : Int) (p : Bool) : (evn tabI h32 L32 32 [.ref 0 0, .bool p] [rd s a e fa]).run =
  bif decide ((0 : Int) ≤ IntKind.i64.wrap (a + (1 : Int)) ∧ IntKind.i64.wrap (a + (1 : Int)) ≤ (↑s.length : Int) ∧ s.length ≤ 1073741824) then
   bif (idsE { s := s, p := p, e := e, fa := fa, a := IntKind.i64.wrap (a + (1 : Int)), L := [] }).snd.isSome then
    bif (idsE { s := s, p := p, e := e, fa := fa, a := IntKind.i64.wrap (a + (1 : Int)), L := [] }).fst.L.isEmpty then
     some ((AV.nilsl, [some (AObj.cells [AV.str (idsE { s := s, p := p, e := e, fa := fa, a := IntKind.i64.wrap (a + (1 : Int)), L := [] }).fst.s, AV.int IntKind.i64 (firstX idB (idsE { s := s, p := p, e := e, fa := fa, a := IntKind.i64.wrap (a + (1 : Int)), L := [] }).fst.s (idsE { s := s, p := p, e := e, fa := fa, a := IntKind.i64.wrap (a + (1 : Int)), L := [] }).fst.a), AV.int IntKind.i64 ((idsE { s := s, p := p, e := e, fa := fa, a := IntKind.i64.wrap (a + (1 : Int)), L := [] }).snd.getD (0 : Int)), AV.int IntKind.i64 (firstX idB (idsE { s := s, p := p, e := e, fa := fa, a := IntKind.i64.wrap (a + (1 : Int)), L := [] }).fst.s (idsE { s := s, p := p, e := e, fa := fa, a := IntKind.i64.wrap (a + (1 : Int)), L := [] }).fst.a)])]))
    else
     some ((AV.nilsl, [some (AObj.cells [AV.str (idsE { s := s, p := p, e := e, fa := fa, a := IntKind.i64.wrap (a + (1 : Int)), L := [] }).fst.s, AV.int IntKind.i64 (firstX idB (idsE { s := s, p := p, e := e, fa := fa, a := IntKind.i64.wrap (a + (1 : Int)), L := [] }).fst.s (idsE { s := s, p := p, e := e, fa := fa, a := IntKind.i64.wrap (a + (1 : Int)), L := [] }).fst.a), AV.int IntKind.i64 ((idsE { s := s, p := p, e := e, fa := fa, a := IntKind.i64.wrap (a + (1 : Int)), L := [] }).snd.getD (0 : Int)), AV.int IntKind.i64 (firstX idB (idsE { s := s, p := p, e := e, fa := fa, a := IntKind.i64.wrap (a + (1 : Int)), L := [] }).fst.s (idsE { s := s, p := p, e := e, fa := fa, a := IntKind.i64.wrap (a + (1 : Int)), L := [] }).fst.a)])]))
   else
    bif (idsE { s := s, p := p, e := e, fa := fa, a := IntKind.i64.wrap (a + (1 : Int)), L := [] }).fst.L.isEmpty then
     some ((AV.row 1 1 0 1, [some (AObj.cells [AV.str (idsE { s := s, p := p, e := e, fa := fa, a := IntKind.i64.wrap (a + (1 : Int)), L := [] }).fst.s, AV.int IntKind.i64 (firstX idB (idsE { s := s, p := p, e := e, fa := fa, a := IntKind.i64.wrap (a + (1 : Int)), L := [] }).fst.s (idsE { s := s, p := p, e := e, fa := fa, a := IntKind.i64.wrap (a + (1 : Int)), L := [] }).fst.a), AV.int IntKind.i64 (idsE { s := s, p := p, e := e, fa := fa, a := IntKind.i64.wrap (a + (1 : Int)), L := [] }).fst.e, AV.int IntKind.i64 (idsE { s := s, p := p, e := e, fa := fa, a := IntKind.i64.wrap (a + (1 : Int)), L := [] }).fst.fa]), some (AObj.row 1 1 fun i => rowF 1 [AV.str (tokD (idsE { s := s, p := p, e := e, fa := fa, a := IntKind.i64.wrap (a + (1 : Int)), L := [] }).fst.s (idsE { s := s, p := p, e := e, fa := fa, a := IntKind.i64.wrap (a + (1 : Int)), L := [] }).fst.a)] (0 + i))]))
    else
     some ((AV.row 1 1 0 ((idsE { s := s, p := p, e := e, fa := fa, a := IntKind.i64.wrap (a + (1 : Int)), L := [] }).fst.L.length + 1), [some (AObj.cells [AV.str (idsE { s := s, p := p, e := e, fa := fa, a := IntKind.i64.wrap (a + (1 : Int)), L := [] }).fst.s, AV.int IntKind.i64 (firstX idB (idsE { s := s, p := p, e := e, fa := fa, a := IntKind.i64.wrap (a + (1 : Int)), L := [] }).fst.s (idsE { s := s, p := p, e := e, fa := fa, a := IntKind.i64.wrap (a + (1 : Int)), L := [] }).fst.a), AV.int IntKind.i64 (idsE { s := s, p := p, e := e, fa := fa, a := IntKind.i64.wrap (a + (1 : Int)), L := [] }).fst.e, AV.int IntKind.i64 (idsE { s := s, p := p, e := e, fa := fa, a := IntKind.i64.wrap (a + (1 : Int)), L := [] }).fst.fa]), some (AObj.row 1 ((idsE { s := s, p := p, e := e, fa := fa, a := IntKind.i64.wrap (a + (1 : Int)), L := [] }).fst.L.length + 1) (appF (idsE { s := s, p := p, e := e, fa := fa, a := IntKind.i64.wrap (a + (1 : Int)), L := [] }).fst.L.length (strF (idsE { s := s, p := p, e := e, fa := fa, a := IntKind.i64.wrap (a + (1 : Int)), L := [] }).fst.L) fun i => rowF 1 [AV.str (tokD (idsE { s := s, p := p, e := e, fa := fa, a := IntKind.i64.wrap (a + (1 : Int)), L := [] }).fst.s (idsE { s := s, p := p, e := e, fa := fa, a := IntKind.i64.wrap (a + (1 : Int)), L := [] }).fst.a)] (0 + i)))]))
  else
   none := by kernel_rfl

end Go.Sem
namespace Go.Sem

open Go Go.Proofs Go.Ab

set_option maxRecDepth 100000

set_option linter.unusedVariables false

set_option linter.unusedSimpArgs false

def idR (s : List UInt8) (p : Bool) (a : Int) : X32 × Option Int := idsE ⟨s, p, 0, 0, a, []⟩

def idL (s : List UInt8) (p : Bool) (a : Int) : List (List UInt8) := (idR s p a).1.L ++ [tokD s (idR s p a).1.a]

def idF (s : List UInt8) (p : Bool) (a : Int) : Int := firstX idB s (idR s p a).1.a

def c32 : List AV → Hp → T (AV × Hp)
  | [.ref 0 0, .bool p], [some (.cells [.str s, .int .i64 a, .int .i64 e, .int .i64 fa])] =>
    .chk (decide (e = 0 ∧ fa = 0 ∧ 0 ≤ a ∧ a + 1 ≤ s.length ∧ s.length ≤ bnd2))
      (.br (idR s p (a + 1)).2.isSome (.leaf (.nilsl, [rd s (idF s p (a + 1)) ((idR s p (a + 1)).2.getD 0) (idF s p (a + 1))]))
        (.leaf (.row 1 1 0 (idL s p (a + 1)).length, [rd s (idF s p (a + 1)) 0 0, some (.row 1 (idL s p (a + 1)).length (strF (idL s p (a + 1))))])))
  | _, _ => .fail

theorem twoLoops {f : FuncId} {Φ : Nat → Prop} (h : (loopsOf (bodyOf Tryd.prog f)).length = 2) (h0 : Φ 0) (h1 : Φ 1) : ∀ i, i < (loopsOf (bodyOf Tryd.prog f)).length → Φ i := fun i hi => by
  rcases (by omega : i = 0 ∨ i = 1) with rfl | rfl
  · exact h0
  · exact h1

theorem c32_hs {args : List AV} {hs : Hp} {r : AV} {hs' : Hp} (h : (c32 args hs).run = some (r, hs')) : hs.length = 1 := by
  unfold c32 at h
  split at h
  · rfl
  · cases h

theorem s32 : Sound1 Tryd.prog ⟨32, false, gcon c32⟩ := by
  refine sound_mem okI (hn := h32) (m := 20) (k := 9) (Λ := L32) (fun args hs r hs' h => by
    rw [c32_hs h]
    exact twoLoops (by kernel_rfl) l32 (lI32 L32 (by kernel_rfl))) fun args hs r hs' hF hH h => ?_
  unfold c32 at h
  split at h
  · rename_i p s a e fa
    rw [T.run_chk] at h
    split at h
    · rename_i hc
      obtain ⟨rfl, rfl, h1, h2, h3⟩ := of_decide_eq_true hc
      refine (t32 s a 0 0 p).trans ?_
      simp only [bnd2] at h3
      rw [w64 (n := a + 1) (by omega) (by omega)]
      have g : decide (0 ≤ a + 1 ∧ a + 1 ≤ (s.length : Int) ∧ s.length ≤ 1073741824) = true := decide_eq_true ⟨by omega, h2, h3⟩
      rw [g]
      simp only [cond_true]
      have hy : (idsE ⟨s, p, 0, 0, a + 1, []⟩) = idR s p (a + 1) := rfl
      rw [hy]
      obtain ⟨k1, k2, k3, k4⟩ := idsR_keep ((s.length - (a + 1)).toNat + 1) ⟨s, p, 0, 0, a + 1, []⟩
      have k1 : (idR s p (a + 1)).1.s = s := k1
      have k3 : (idR s p (a + 1)).1.e = 0 := k3
      have k4 : (idR s p (a + 1)).1.fa = 0 := k4
      rw [k1, k3, k4]
      rw [T.run_br] at h
      cases ho : (idR s p (a + 1)).2 with
      | some er =>
        rw [ho] at h
        simp only [Option.isSome_some, if_true, T.run_leaf, Option.some.injEq, Prod.mk.injEq] at h
        obtain ⟨rfl, rfl⟩ := h
        simp only [Option.isSome_some, cond_true]
        cases (idR s p (a + 1)).1.L.isEmpty <;> rfl
      | none =>
        rw [ho] at h
        simp only [Option.isSome_none, Bool.false_eq_true, if_false, T.run_leaf, Option.some.injEq, Prod.mk.injEq] at h
        obtain ⟨rfl, rfl⟩ := h
        simp only [Option.isSome_none, cond_false]
        unfold idL idF
        generalize (idR s p (a + 1)).1.a = b
        cases hL : (idR s p (a + 1)).1.L with
        | nil =>
          simp only [List.isEmpty_nil, cond_true, List.nil_append, strF_one]
          rfl
        | cons x l =>
          simp only [List.isEmpty_cons, cond_false, strF_app]
          have e2 : ((x :: l) ++ [tokD s b]).length = (x :: l).length + 1 := by simp
          rw [e2]
          rfl
    · cases h
  · cases h

/-! ### (*reader).number -/

def numT (s : List UInt8) (a : Int) : List UInt8 := (s.drop a.toNat).take ((runD s a).toNat - a.toNat)

def c30 : List AV → Hp → T (AV × Hp)
  | [.ref 0 0], [some (.cells [.str s, .int .i64 a, .int .i64 e, .int .i64 fa])] =>
    .chk (decide (0 ≤ a ∧ a ≤ s.length ∧ s.length ≤ bnd2))
      (.br (numT s a == []) (.leaf (.str (numT s a), [rd s (runD s a) (errAt s (runD s a) 10) (runD s a)]))
        (.br (numB (numT s a)) (.leaf (.str (numT s a), [rd s (runD s a) e fa])) (.leaf (.str (numT s a), [rd s (a + 1) 14 (a + 1)]))))
  | _, _ => .fail

theorem runD_ge {s : List UInt8} {a : Int} (h0 : 0 ≤ a) (h1 : a ≤ s.length) : a ≤ runD s a ∧ runD s a ≤ s.length := by
  have h := runL_le (s.drop a.toNat)
  simp only [List.length_drop] at h
  unfold runD
  rw [if_neg (by omega)]
  omega

theorem s30 : Sound1 Tryd.prog ⟨30, false, gcon c30⟩ := by
  refine sound_mem okI (hn := h30) (m := 20) (k := 9) (Λ := noLoops) (fun _ _ _ _ _ i hi => anyLoopsB) fun args hs r hs' hF hH h => ?_
  unfold c30 at h
  split at h
  · rename_i s a e fa
    rw [T.run_chk] at h
    split at h
    · rename_i hc
      obtain ⟨h1, h2, h3⟩ := of_decide_eq_true hc
      simp only [bnd2] at h3
      refine (t30 s a e fa).trans ?_
      obtain ⟨f1, f2⟩ := runD_ge h1 h2
      have g : decide (0 ≤ a ∧ a ≤ runD s a ∧ runD s a ≤ (s.length : Int)) = true := decide_eq_true ⟨h1, f1, f2⟩
      rw [g, w64 (n := a + 1) (by omega) (by omega)]
      simp only [cond_true]
      rw [← h]
      rw [show (s.drop a.toNat).take ((runD s a).toNat - a.toNat) = numT s a from rfl]
      simp only [T.run]
      cases (numT s a == []) <;> cases numB (numT s a) <;> rfl
    · cases h
  · cases h

def tabK : Tab := ⟨30, false, gcon c30⟩ :: ⟨32, false, gcon c32⟩ :: tabI

theorem allK : ∀ e, e ∈ tabK → Sound1 Tryd.prog e := sound_mem_tab s30 (sound_mem_tab s32 allI)

theorem okK : SoundTab Tryd.prog tabK := soundTab_of allK

end Go.Sem
namespace Go.Sem

open Go Go.Proofs Go.Ab

set_option maxRecDepth 100000

set_option linter.unusedVariables false

set_option linter.unusedSimpArgs false

/-! ### The reader's contracts, faults laid bare -/

def c29' : List AV → Hp → T (AV × Hp)
  | [.ref 0 0, .int .i64 x], [some (.cells [.str s, .int .i64 a, .int .i64 e, .int .i64 fa])] => .br (decide (a ≥ (s.length : Int))) (.leaf (.tup [], [rd s a 11 a])) (.leaf (.tup [], [rd s a x a]))
  | _, _ => .fail

theorem s29' : Sound1 Tryd.prog ⟨29, false, gcon c29'⟩ := by
  refine sound_le s29 fun args hs r h => ?_
  unfold c29' at h
  split at h
  · rename_i x s a e fa
    simp only [c29, T.run_leaf]
    rw [run_brd] at h
    unfold errAt
    split at h <;> rename_i hq
    · rw [if_pos hq]; exact h
    · rw [if_neg hq]; exact h
  · cases h

def c30' : List AV → Hp → T (AV × Hp)
  | [.ref 0 0], [some (.cells [.str s, .int .i64 a, .int .i64 e, .int .i64 fa])] =>
    .chk (decide (0 ≤ a ∧ a ≤ s.length ∧ s.length ≤ bnd2))
      (.br (numT s a == []) (.br (decide (runD s a ≥ (s.length : Int))) (.leaf (.str (numT s a), [rd s (runD s a) 11 (runD s a)])) (.leaf (.str (numT s a), [rd s (runD s a) 10 (runD s a)])))
        (.br (numB (numT s a)) (.leaf (.str (numT s a), [rd s (runD s a) e fa])) (.leaf (.str (numT s a), [rd s (a + 1) 14 (a + 1)]))))
  | _, _ => .fail

theorem s30' : Sound1 Tryd.prog ⟨30, false, gcon c30'⟩ := by
  refine sound_le s30 fun args hs r h => ?_
  unfold c30' at h
  split at h
  · rename_i s a e fa
    simp only [c30]
    rw [T.run_chk] at h ⊢
    split at h
    · rename_i hc
      rw [if_pos hc]
      rw [T.run_br] at h ⊢
      split at h <;> rename_i hq
      · rw [if_pos hq]
        rw [run_brd] at h
        unfold errAt
        split at h <;> rename_i hq2
        · rw [if_pos hq2]; exact h
        · rw [if_neg hq2]; exact h
      · rw [if_neg hq]; exact h
    · cases h
  · cases h

def c32' : List AV → Hp → T (AV × Hp)
  | [.ref 0 0, .bool p], [some (.cells [.str s, .int .i64 a, .int .i64 e, .int .i64 fa])] =>
    .chk (decide (e = 0 ∧ fa = 0 ∧ 0 ≤ a ∧ a + 1 ≤ s.length ∧ s.length ≤ bnd2))
      (.br (idR s p (a + 1)).2.isSome
        (.br (decide ((idR s p (a + 1)).2 = some 10)) (.leaf (.nilsl, [rd s (idF s p (a + 1)) 10 (idF s p (a + 1))]))
          (.br (decide ((idR s p (a + 1)).2 = some 11)) (.leaf (.nilsl, [rd s (idF s p (a + 1)) 11 (idF s p (a + 1))]))
            (.chk (decide ((idR s p (a + 1)).2 = some 14)) (.leaf (.nilsl, [rd s (idF s p (a + 1)) 14 (idF s p (a + 1))])))))
        (.leaf (.row 1 1 0 (idL s p (a + 1)).length, [rd s (idF s p (a + 1)) 0 0, some (.row 1 (idL s p (a + 1)).length (strF (idL s p (a + 1))))])))
  | _, _ => .fail

theorem s32' : Sound1 Tryd.prog ⟨32, false, gcon c32'⟩ := by
  refine sound_le s32 fun args hs r h => ?_
  unfold c32' at h
  split at h
  · rename_i p s a e fa
    simp only [c32]
    rw [T.run_chk] at h ⊢
    split at h
    · rename_i hc
      rw [if_pos hc]
      rw [T.run_br] at h ⊢
      split at h <;> rename_i hq
      · rw [if_pos hq]
        rw [run_brd] at h
        split at h
        · rename_i q; rw [q]; exact h
        · rw [run_brd] at h
          split at h
          · rename_i q; rw [q]; exact h
          · rw [T.run_chk] at h
            split at h
            · rename_i q
              rw [of_decide_eq_true q]; exact h
            · cases h
      · rw [if_neg hq]; exact h
    · cases h
  · cases h

def tabL : Tab := ⟨29, false, gcon c29'⟩ :: ⟨30, false, gcon c30'⟩ :: ⟨32, false, gcon c32'⟩ :: tabI

theorem allL : ∀ e, e ∈ tabL → Sound1 Tryd.prog e := sound_mem_tab s29' (sound_mem_tab s30' (sound_mem_tab s32' allI))

theorem okL : SoundTab Tryd.prog tabL := soundTab_of allL

/-! ### semver.Parse: the three numbers -/

def hp10 (s : List UInt8) (a e fa : Int) (p0 p1 p2 : List UInt8) : Hp := [some (.cells [.str [], .str [], .str [], .nilsl, .nilsl]), some (.cells [.int .i64 0, .int .i64 0]), rd s a e fa, some (.cells [.str p0, .str p1, .str p2])]

def tm10 (s : List UInt8) (more : List (Nat × AV)) : Tm := tmOf 89 ([(0, .str s), (2, .ref 0 0), (3, .ref 1 0), (4, .ref 2 0), (5, .ref 3 0)] ++ more)

def oA10 (s : List UInt8) (a err : Int) (p0 p1 p2 : List UInt8) : AX × St := (.exit 0, { tm := tm10 s [], ms := [], hp := hp10 s a err a p0 p1 p2 })

def oB10 (s : List UInt8) (a err i : Int) (p0 p1 p2 : List UInt8) : AX × St := (.exit 0, { tm := tm10 s [(16, .int .i64 i), (39, .bool true)], ms := [], hp := hp10 s a err a p0 p1 p2 })

def oC10 (s : List UInt8) (a : Int) (p0 p1 p2 : List UInt8) : AX × St := (.exit 0, { tm := tm10 s [(16, .int .i64 3), (17, .bool false)], ms := [], hp := hp10 s a 0 0 p0 p1 p2 })

/-- A number, and what follows it. -/
def numTr (s : List UInt8) (a i : Int) (f : List UInt8 → Int → Int → AX × St) (k : List UInt8 → Int → T (AX × St)) : T (AX × St) :=
  .br (numT s a == []) (.br (decide (runD s a ≥ (s.length : Int))) (.leaf (f (numT s a) (runD s a) 11)) (.leaf (f (numT s a) (runD s a) 10)))
    (.br (numB (numT s a)) (k (numT s a) (runD s a)) (.leaf (f (numT s a) (a + 1) 14)))

def dotTr (s : List UInt8) (a : Int) (p0 p1 p2 : List UInt8) (k : T (AX × St)) : T (AX × St) :=
  .br (isAt s a 46) k (.br (decide (a ≥ (s.length : Int))) (.leaf (oA10 s a 11 p0 p1 p2)) (.leaf (oA10 s a 10 p0 p1 p2)))

inductive Z10 where
  | z0
  | z1 (a : Int) (p0 : List UInt8)
  | z2 (a : Int) (p0 p1 : List UInt8)
  | z3 (a : Int) (p0 p1 p2 : List UInt8)

def tr10 (s : List UInt8) : Z10 → T (AX × St)
  | .z3 a p0 p1 p2 => .leaf (oC10 s a p0 p1 p2)
  | .z2 a p0 p1 => dotTr s a p0 p1 [] (numTr s (a + 1) 2 (fun d at_ e => oB10 s at_ e 2 p0 p1 d) fun d at_ => .leaf (oC10 s at_ p0 p1 d))
  | .z1 a p0 => dotTr s a p0 [] [] (numTr s (a + 1) 1 (fun d at_ e => oB10 s at_ e 1 p0 d []) fun d at_ => dotTr s at_ p0 d [] (numTr s (at_ + 1) 2 (fun d2 at_ e => oB10 s at_ e 2 p0 d d2) fun d2 at_ => .leaf (oC10 s at_ p0 d d2)))
  | .z0 => numTr s 0 0 (fun d at_ e => oB10 s at_ e 0 d [] []) fun d0 a0 => dotTr s a0 d0 [] [] (numTr s (a0 + 1) 1 (fun d at_ e => oB10 s at_ e 1 d0 d []) fun d at_ => dotTr s at_ d0 d [] (numTr s (at_ + 1) 2 (fun d2 at_ e => oB10 s at_ e 2 d0 d d2) fun d2 at_ => .leaf (oC10 s at_ d0 d d2)))

def en10 (x : List UInt8 × Z10) : List AV × Hp := match x.2 with
  | .z0 => ([.str x.1, .ref 0 0, .ref 1 0, .ref 2 0, .ref 3 0, .int .i64 0], hp10 x.1 0 0 0 [] [] [])
  | .z1 a p0 => ([.str x.1, .ref 0 0, .ref 1 0, .ref 2 0, .ref 3 0, .int .i64 1], hp10 x.1 a 0 0 p0 [] [])
  | .z2 a p0 p1 => ([.str x.1, .ref 0 0, .ref 1 0, .ref 2 0, .ref 3 0, .int .i64 2], hp10 x.1 a 0 0 p0 p1 [])
  | .z3 a p0 p1 p2 => ([.str x.1, .ref 0 0, .ref 1 0, .ref 2 0, .ref 3 0, .int .i64 3], hp10 x.1 a 0 0 p0 p1 p2)

def p10 (x : List UInt8 × Z10) : Prop := x.1.length ≤ 64 ∧ match x.2 with
  | .z0 => True
  | .z1 a _ => 0 ≤ a ∧ a ≤ x.1.length
  | .z2 a _ _ => 0 ≤ a ∧ a ≤ x.1.length
  | .z3 a _ _ _ => 0 ≤ a ∧ a ≤ x.1.length

def out10 (x : List UInt8 × Z10) : AX × St := ((tr10 x.1 x.2).run).getD (oC10 x.1 0 [] [] [])

def mu10 : Z10 → Nat
  | .z0 => 3
  | .z1 _ _ => 2
  | .z2 _ _ _ => 1
  | .z3 _ _ _ _ => 0

def D10 : List AV → Hp → T (AX × St)
  | [.str s, .ref 0 0, .ref 1 0, .ref 2 0, .ref 3 0, .int .i64 i], [some (.cells [.str [], .str [], .str [], .nilsl, .nilsl]), some (.cells [.int .i64 f0, .int .i64 f1]), some (.cells [.str s', .int .i64 a, .int .i64 e, .int .i64 fa]), some (.cells [.str [], .str [], .str []])] =>
    .chk (decide (i = 0 ∧ f0 = 0 ∧ f1 = 0 ∧ s' = s ∧ a = 0 ∧ e = 0 ∧ fa = 0 ∧ s.length ≤ 64)) (tr10 s .z0)
  | _, _ => .fail

def L10 : LoopT := fun k => match Nat.beq k 600060 with
  | true => some (lcon (mbits 65597 89) D10)
  | false => none

theorem run_numTr {s : List UInt8} {a i : Int} {f : List UInt8 → Int → Int → AX × St} {k : List UInt8 → Int → T (AX × St)} : (numTr s a i f k).run = bif numT s a == [] then (bif decide (runD s a ≥ (s.length : Int)) then some (f (numT s a) (runD s a) 11) else some (f (numT s a) (runD s a) 10)) else bif numB (numT s a) then (k (numT s a) (runD s a)).run else some (f (numT s a) (a + 1) 14) := rfl

theorem run_dotTr {s : List UInt8} {a : Int} {p0 p1 p2 : List UInt8} {k : T (AX × St)} : (dotTr s a p0 p1 p2 k).run = bif isAt s a 46 then k.run else bif decide (a ≥ (s.length : Int)) then some (oA10 s a 11 p0 p1 p2) else some (oA10 s a 10 p0 p1 p2) := rfl

theorem tr10_some (s : List UInt8) (z : Z10) : ∃ r, (tr10 s z).run = some r ∧ r.1 ≠ .normal := by
  have num : ∀ a i f k, (∀ d at_ e, (f d at_ e).1 ≠ AX.normal) → (∀ d at_, ∃ r, (k d at_ : T (AX × St)).run = some r ∧ r.1 ≠ .normal) → ∃ r, (numTr s a i f k).run = some r ∧ r.1 ≠ .normal := by
    intro a i f k h1 h2
    rw [run_numTr]
    cases (numT s a == [])
    · cases numB (numT s a)
      · exact ⟨_, rfl, h1 _ _ _⟩
      · exact h2 _ _
    · cases decide (runD s a ≥ (s.length : Int))
      · exact ⟨_, rfl, h1 _ _ _⟩
      · exact ⟨_, rfl, h1 _ _ _⟩
  have dot : ∀ a p0 p1 p2 k, (∃ r, (k : T (AX × St)).run = some r ∧ r.1 ≠ .normal) → ∃ r, (dotTr s a p0 p1 p2 k).run = some r ∧ r.1 ≠ .normal := by
    intro a p0 p1 p2 k h
    rw [run_dotTr]
    cases isAt s a 46
    · cases decide (a ≥ (s.length : Int))
      · exact ⟨_, rfl, by simp [oA10]⟩
      · exact ⟨_, rfl, by simp [oA10]⟩
    · exact h
  have leafC : ∀ a p0 p1 p2, ∃ r, (T.leaf (oC10 s a p0 p1 p2)).run = some r ∧ r.1 ≠ .normal := fun a p0 p1 p2 => ⟨_, rfl, by simp [oC10]⟩
  cases z <;> simp only [tr10]
  case z3 a p0 p1 p2 => exact leafC _ _ _ _
  case z2 a p0 p1 => exact dot _ _ _ _ _ (num _ _ _ _ (fun _ _ _ => by simp [oB10]) fun _ _ => leafC _ _ _ _)
  case z1 a p0 => exact dot _ _ _ _ _ (num _ _ _ _ (fun _ _ _ => by simp [oB10]) fun _ _ => dot _ _ _ _ _ (num _ _ _ _ (fun _ _ _ => by simp [oB10]) fun _ _ => leafC _ _ _ _))
  case z0 => exact num _ _ _ _ (fun _ _ _ => by simp [oB10]) fun _ _ => dot _ _ _ _ _ (num _ _ _ _ (fun _ _ _ => by simp [oB10]) fun _ _ => dot _ _ _ _ _ (num _ _ _ _ (fun _ _ _ => by simp [oB10]) fun _ _ => leafC _ _ _ _))

theorem out10_run (x : List UInt8 × Z10) : (tr10 x.1 x.2).run = some (out10 x) := by
  obtain ⟨r, h, _⟩ := tr10_some x.1 x.2
  unfold out10
  rw [h]; rfl

theorem q10a (s p0 p1 p2 : List UInt8) (a : Int) : (rdn tabL h10 L10 10 0 0 { tm := encGo (mbits 65597 89) [.str s, .ref 0 0, .ref 1 0, .ref 2 0, .ref 3 0, .int .i64 0], ms := [], hp := hp10 s a 0 0 p0 p1 p2 }).run =
  bif decide ((0 : Int) ≤ a ∧ a ≤ (↑s.length : Int) ∧ s.length ≤ 1073741824) then
   bif numT s a == [] then
    bif decide (runD s a ≥ (↑s.length : Int)) then
     some ((AX.exit 0, { tm := tmOf 89 [(0, AV.str s), (2, AV.ref 0 0), (3, AV.ref 1 0), (4, AV.ref 2 0), (5, AV.ref 3 0), (16, AV.int IntKind.i64 (0 : Int)), (39, AV.bool true)], ms := [], hp := [some (AObj.cells [AV.str [], AV.str [], AV.str [], AV.nilsl, AV.nilsl]), some (AObj.cells [AV.int IntKind.i64 (0 : Int), AV.int IntKind.i64 (0 : Int)]), some (AObj.cells [AV.str s, AV.int IntKind.i64 (runD s a), AV.int IntKind.i64 (11 : Int), AV.int IntKind.i64 (runD s a)]), some (AObj.cells [AV.str (numT s a), AV.str p1, AV.str p2])] }))
    else
     some ((AX.exit 0, { tm := tmOf 89 [(0, AV.str s), (2, AV.ref 0 0), (3, AV.ref 1 0), (4, AV.ref 2 0), (5, AV.ref 3 0), (16, AV.int IntKind.i64 (0 : Int)), (39, AV.bool true)], ms := [], hp := [some (AObj.cells [AV.str [], AV.str [], AV.str [], AV.nilsl, AV.nilsl]), some (AObj.cells [AV.int IntKind.i64 (0 : Int), AV.int IntKind.i64 (0 : Int)]), some (AObj.cells [AV.str s, AV.int IntKind.i64 (runD s a), AV.int IntKind.i64 (10 : Int), AV.int IntKind.i64 (runD s a)]), some (AObj.cells [AV.str (numT s a), AV.str p1, AV.str p2])] }))
   else
    bif numB (numT s a) then
     some ((AX.normal, { tm := tmOf 89 [(0, AV.str s), (2, AV.ref 0 0), (3, AV.ref 1 0), (4, AV.ref 2 0), (5, AV.ref 3 0), (16, AV.int IntKind.i64 (1 : Int))], ms := [], hp := [some (AObj.cells [AV.str [], AV.str [], AV.str [], AV.nilsl, AV.nilsl]), some (AObj.cells [AV.int IntKind.i64 (0 : Int), AV.int IntKind.i64 (0 : Int)]), some (AObj.cells [AV.str s, AV.int IntKind.i64 (runD s a), AV.int IntKind.i64 (0 : Int), AV.int IntKind.i64 (0 : Int)]), some (AObj.cells [AV.str (numT s a), AV.str p1, AV.str p2])] }))
    else
     some ((AX.exit 0, { tm := tmOf 89 [(0, AV.str s), (2, AV.ref 0 0), (3, AV.ref 1 0), (4, AV.ref 2 0), (5, AV.ref 3 0), (16, AV.int IntKind.i64 (0 : Int)), (39, AV.bool true)], ms := [], hp := [some (AObj.cells [AV.str [], AV.str [], AV.str [], AV.nilsl, AV.nilsl]), some (AObj.cells [AV.int IntKind.i64 (0 : Int), AV.int IntKind.i64 (0 : Int)]), some (AObj.cells [AV.str s, AV.int IntKind.i64 (a + (1 : Int)), AV.int IntKind.i64 (14 : Int), AV.int IntKind.i64 (a + (1 : Int))]), some (AObj.cells [AV.str (numT s a), AV.str p1, AV.str p2])] }))
  else
   none := by kernel_rfl
theorem q10b (s p0 p1 p2 : List UInt8) (a : Int) : (rdn tabL h10 L10 10 0 0 { tm := encGo (mbits 65597 89) [.str s, .ref 0 0, .ref 1 0, .ref 2 0, .ref 3 0, .int .i64 1], ms := [], hp := hp10 s a 0 0 p0 p1 p2 }).run =
  bif decide ((0 : Int) ≤ a) then
   bif !isAt s a (46 : Int) then
    bif decide (a ≥ (↑s.length : Int)) then
     some ((AX.exit 0, { tm := tmOf 89 [(0, AV.str s), (2, AV.ref 0 0), (3, AV.ref 1 0), (4, AV.ref 2 0), (5, AV.ref 3 0)], ms := [], hp := [some (AObj.cells [AV.str [], AV.str [], AV.str [], AV.nilsl, AV.nilsl]), some (AObj.cells [AV.int IntKind.i64 (0 : Int), AV.int IntKind.i64 (0 : Int)]), some (AObj.cells [AV.str s, AV.int IntKind.i64 a, AV.int IntKind.i64 (11 : Int), AV.int IntKind.i64 a]), some (AObj.cells [AV.str p0, AV.str p1, AV.str p2])] }))
    else
     some ((AX.exit 0, { tm := tmOf 89 [(0, AV.str s), (2, AV.ref 0 0), (3, AV.ref 1 0), (4, AV.ref 2 0), (5, AV.ref 3 0)], ms := [], hp := [some (AObj.cells [AV.str [], AV.str [], AV.str [], AV.nilsl, AV.nilsl]), some (AObj.cells [AV.int IntKind.i64 (0 : Int), AV.int IntKind.i64 (0 : Int)]), some (AObj.cells [AV.str s, AV.int IntKind.i64 a, AV.int IntKind.i64 (10 : Int), AV.int IntKind.i64 a]), some (AObj.cells [AV.str p0, AV.str p1, AV.str p2])] }))
   else
    bif decide ((0 : Int) ≤ IntKind.i64.wrap (a + (1 : Int)) ∧ IntKind.i64.wrap (a + (1 : Int)) ≤ (↑s.length : Int) ∧ s.length ≤ 1073741824) then
     bif numT s (IntKind.i64.wrap (a + (1 : Int))) == [] then
      bif decide (runD s (IntKind.i64.wrap (a + (1 : Int))) ≥ (↑s.length : Int)) then
       some ((AX.exit 0, { tm := tmOf 89 [(0, AV.str s), (2, AV.ref 0 0), (3, AV.ref 1 0), (4, AV.ref 2 0), (5, AV.ref 3 0), (16, AV.int IntKind.i64 (1 : Int)), (39, AV.bool true)], ms := [], hp := [some (AObj.cells [AV.str [], AV.str [], AV.str [], AV.nilsl, AV.nilsl]), some (AObj.cells [AV.int IntKind.i64 (0 : Int), AV.int IntKind.i64 (0 : Int)]), some (AObj.cells [AV.str s, AV.int IntKind.i64 (runD s (IntKind.i64.wrap (a + (1 : Int)))), AV.int IntKind.i64 (11 : Int), AV.int IntKind.i64 (runD s (IntKind.i64.wrap (a + (1 : Int))))]), some (AObj.cells [AV.str p0, AV.str (numT s (IntKind.i64.wrap (a + (1 : Int)))), AV.str p2])] }))
      else
       some ((AX.exit 0, { tm := tmOf 89 [(0, AV.str s), (2, AV.ref 0 0), (3, AV.ref 1 0), (4, AV.ref 2 0), (5, AV.ref 3 0), (16, AV.int IntKind.i64 (1 : Int)), (39, AV.bool true)], ms := [], hp := [some (AObj.cells [AV.str [], AV.str [], AV.str [], AV.nilsl, AV.nilsl]), some (AObj.cells [AV.int IntKind.i64 (0 : Int), AV.int IntKind.i64 (0 : Int)]), some (AObj.cells [AV.str s, AV.int IntKind.i64 (runD s (IntKind.i64.wrap (a + (1 : Int)))), AV.int IntKind.i64 (10 : Int), AV.int IntKind.i64 (runD s (IntKind.i64.wrap (a + (1 : Int))))]), some (AObj.cells [AV.str p0, AV.str (numT s (IntKind.i64.wrap (a + (1 : Int)))), AV.str p2])] }))
     else
      bif numB (numT s (IntKind.i64.wrap (a + (1 : Int)))) then
       some ((AX.normal, { tm := tmOf 89 [(0, AV.str s), (2, AV.ref 0 0), (3, AV.ref 1 0), (4, AV.ref 2 0), (5, AV.ref 3 0), (16, AV.int IntKind.i64 (2 : Int))], ms := [], hp := [some (AObj.cells [AV.str [], AV.str [], AV.str [], AV.nilsl, AV.nilsl]), some (AObj.cells [AV.int IntKind.i64 (0 : Int), AV.int IntKind.i64 (0 : Int)]), some (AObj.cells [AV.str s, AV.int IntKind.i64 (runD s (IntKind.i64.wrap (a + (1 : Int)))), AV.int IntKind.i64 (0 : Int), AV.int IntKind.i64 (0 : Int)]), some (AObj.cells [AV.str p0, AV.str (numT s (IntKind.i64.wrap (a + (1 : Int)))), AV.str p2])] }))
      else
       some ((AX.exit 0, { tm := tmOf 89 [(0, AV.str s), (2, AV.ref 0 0), (3, AV.ref 1 0), (4, AV.ref 2 0), (5, AV.ref 3 0), (16, AV.int IntKind.i64 (1 : Int)), (39, AV.bool true)], ms := [], hp := [some (AObj.cells [AV.str [], AV.str [], AV.str [], AV.nilsl, AV.nilsl]), some (AObj.cells [AV.int IntKind.i64 (0 : Int), AV.int IntKind.i64 (0 : Int)]), some (AObj.cells [AV.str s, AV.int IntKind.i64 (IntKind.i64.wrap (a + (1 : Int)) + (1 : Int)), AV.int IntKind.i64 (14 : Int), AV.int IntKind.i64 (IntKind.i64.wrap (a + (1 : Int)) + (1 : Int))]), some (AObj.cells [AV.str p0, AV.str (numT s (IntKind.i64.wrap (a + (1 : Int)))), AV.str p2])] }))
    else
     none
  else
   none := by kernel_rfl
theorem q10c (s p0 p1 p2 : List UInt8) (a : Int) : (rdn tabL h10 L10 10 0 0 { tm := encGo (mbits 65597 89) [.str s, .ref 0 0, .ref 1 0, .ref 2 0, .ref 3 0, .int .i64 2], ms := [], hp := hp10 s a 0 0 p0 p1 p2 }).run =
  bif decide ((0 : Int) ≤ a) then
   bif !isAt s a (46 : Int) then
    bif decide (a ≥ (↑s.length : Int)) then
     some ((AX.exit 0, { tm := tmOf 89 [(0, AV.str s), (2, AV.ref 0 0), (3, AV.ref 1 0), (4, AV.ref 2 0), (5, AV.ref 3 0)], ms := [], hp := [some (AObj.cells [AV.str [], AV.str [], AV.str [], AV.nilsl, AV.nilsl]), some (AObj.cells [AV.int IntKind.i64 (0 : Int), AV.int IntKind.i64 (0 : Int)]), some (AObj.cells [AV.str s, AV.int IntKind.i64 a, AV.int IntKind.i64 (11 : Int), AV.int IntKind.i64 a]), some (AObj.cells [AV.str p0, AV.str p1, AV.str p2])] }))
    else
     some ((AX.exit 0, { tm := tmOf 89 [(0, AV.str s), (2, AV.ref 0 0), (3, AV.ref 1 0), (4, AV.ref 2 0), (5, AV.ref 3 0)], ms := [], hp := [some (AObj.cells [AV.str [], AV.str [], AV.str [], AV.nilsl, AV.nilsl]), some (AObj.cells [AV.int IntKind.i64 (0 : Int), AV.int IntKind.i64 (0 : Int)]), some (AObj.cells [AV.str s, AV.int IntKind.i64 a, AV.int IntKind.i64 (10 : Int), AV.int IntKind.i64 a]), some (AObj.cells [AV.str p0, AV.str p1, AV.str p2])] }))
   else
    bif decide ((0 : Int) ≤ IntKind.i64.wrap (a + (1 : Int)) ∧ IntKind.i64.wrap (a + (1 : Int)) ≤ (↑s.length : Int) ∧ s.length ≤ 1073741824) then
     bif numT s (IntKind.i64.wrap (a + (1 : Int))) == [] then
      bif decide (runD s (IntKind.i64.wrap (a + (1 : Int))) ≥ (↑s.length : Int)) then
       some ((AX.exit 0, { tm := tmOf 89 [(0, AV.str s), (2, AV.ref 0 0), (3, AV.ref 1 0), (4, AV.ref 2 0), (5, AV.ref 3 0), (16, AV.int IntKind.i64 (2 : Int)), (39, AV.bool true)], ms := [], hp := [some (AObj.cells [AV.str [], AV.str [], AV.str [], AV.nilsl, AV.nilsl]), some (AObj.cells [AV.int IntKind.i64 (0 : Int), AV.int IntKind.i64 (0 : Int)]), some (AObj.cells [AV.str s, AV.int IntKind.i64 (runD s (IntKind.i64.wrap (a + (1 : Int)))), AV.int IntKind.i64 (11 : Int), AV.int IntKind.i64 (runD s (IntKind.i64.wrap (a + (1 : Int))))]), some (AObj.cells [AV.str p0, AV.str p1, AV.str (numT s (IntKind.i64.wrap (a + (1 : Int))))])] }))
      else
       some ((AX.exit 0, { tm := tmOf 89 [(0, AV.str s), (2, AV.ref 0 0), (3, AV.ref 1 0), (4, AV.ref 2 0), (5, AV.ref 3 0), (16, AV.int IntKind.i64 (2 : Int)), (39, AV.bool true)], ms := [], hp := [some (AObj.cells [AV.str [], AV.str [], AV.str [], AV.nilsl, AV.nilsl]), some (AObj.cells [AV.int IntKind.i64 (0 : Int), AV.int IntKind.i64 (0 : Int)]), some (AObj.cells [AV.str s, AV.int IntKind.i64 (runD s (IntKind.i64.wrap (a + (1 : Int)))), AV.int IntKind.i64 (10 : Int), AV.int IntKind.i64 (runD s (IntKind.i64.wrap (a + (1 : Int))))]), some (AObj.cells [AV.str p0, AV.str p1, AV.str (numT s (IntKind.i64.wrap (a + (1 : Int))))])] }))
     else
      bif numB (numT s (IntKind.i64.wrap (a + (1 : Int)))) then
       some ((AX.normal, { tm := tmOf 89 [(0, AV.str s), (2, AV.ref 0 0), (3, AV.ref 1 0), (4, AV.ref 2 0), (5, AV.ref 3 0), (16, AV.int IntKind.i64 (3 : Int))], ms := [], hp := [some (AObj.cells [AV.str [], AV.str [], AV.str [], AV.nilsl, AV.nilsl]), some (AObj.cells [AV.int IntKind.i64 (0 : Int), AV.int IntKind.i64 (0 : Int)]), some (AObj.cells [AV.str s, AV.int IntKind.i64 (runD s (IntKind.i64.wrap (a + (1 : Int)))), AV.int IntKind.i64 (0 : Int), AV.int IntKind.i64 (0 : Int)]), some (AObj.cells [AV.str p0, AV.str p1, AV.str (numT s (IntKind.i64.wrap (a + (1 : Int))))])] }))
      else
       some ((AX.exit 0, { tm := tmOf 89 [(0, AV.str s), (2, AV.ref 0 0), (3, AV.ref 1 0), (4, AV.ref 2 0), (5, AV.ref 3 0), (16, AV.int IntKind.i64 (2 : Int)), (39, AV.bool true)], ms := [], hp := [some (AObj.cells [AV.str [], AV.str [], AV.str [], AV.nilsl, AV.nilsl]), some (AObj.cells [AV.int IntKind.i64 (0 : Int), AV.int IntKind.i64 (0 : Int)]), some (AObj.cells [AV.str s, AV.int IntKind.i64 (IntKind.i64.wrap (a + (1 : Int)) + (1 : Int)), AV.int IntKind.i64 (14 : Int), AV.int IntKind.i64 (IntKind.i64.wrap (a + (1 : Int)) + (1 : Int))]), some (AObj.cells [AV.str p0, AV.str p1, AV.str (numT s (IntKind.i64.wrap (a + (1 : Int))))])] }))
    else
     none
  else
   none := by kernel_rfl
theorem q10d (s p0 p1 p2 : List UInt8) (a : Int) : (rdn tabL h10 L10 10 0 0 { tm := encGo (mbits 65597 89) [.str s, .ref 0 0, .ref 1 0, .ref 2 0, .ref 3 0, .int .i64 3], ms := [], hp := hp10 s a 0 0 p0 p1 p2 }).run =
  some ((AX.exit 0, { tm := tmOf 89 [(0, AV.str s), (2, AV.ref 0 0), (3, AV.ref 1 0), (4, AV.ref 2 0), (5, AV.ref 3 0), (16, AV.int IntKind.i64 (3 : Int)), (17, AV.bool false)], ms := [], hp := [some (AObj.cells [AV.str [], AV.str [], AV.str [], AV.nilsl, AV.nilsl]), some (AObj.cells [AV.int IntKind.i64 (0 : Int), AV.int IntKind.i64 (0 : Int)]), some (AObj.cells [AV.str s, AV.int IntKind.i64 a, AV.int IntKind.i64 (0 : Int), AV.int IntKind.i64 (0 : Int)]), some (AObj.cells [AV.str p0, AV.str p1, AV.str p2])] })) := by kernel_rfl

theorem l10 : LoopOk Tryd.prog tabL.pf (fun n => hd Tryd.prog tabL.pf tabL.con.run (fun f => (H0 f).to) n 9) h10.to 10 0 none L10 (loopAt Tryd.prog 10 0) := by
  rw [show loopAt Tryd.prog 10 0 = .loop (lbody Tryd.prog 10 0) by kernel_rfl]
  refine loop_con (hdT_le (m := 20) 9) (m := 20) (within_of _ (by rw [show loopsOf (lbody Tryd.prog 10 0) = [] by kernel_rfl]; simp)) (D := D10) (lv := mbits 65597 89) (by kernel_rfl)
    en10 out10 p10 (fun x => mu10 x.2) ?_ ?_
  · intro vs hp r h
    unfold D10 at h
    split at h
    · rename_i s i f0 f1 s' a e fa
      rw [T.run_chk] at h
      split at h
      · rename_i hc
        obtain ⟨rfl, rfl, rfl, rfl, rfl, rfl, rfl, h1⟩ := of_decide_eq_true hc
        refine ⟨(s', .z0), rfl, ⟨h1, trivial⟩, ?_⟩
        have := out10_run (s', .z0)
        simp only at this
        rw [this] at h
        exact (Option.some.inj h).symm
      · cases h
    · cases h
  · rintro ⟨s, z⟩ ⟨hl, hp⟩
    simp only at hl hp
    have nn : (out10 (s, z)).1 ≠ .normal := by
      obtain ⟨r, h1, h2⟩ := tr10_some s z
      have := out10_run (s, z)
      simp only at this
      rw [h1] at this
      rw [← Option.some.inj this]; exact h2
    have step : ∀ (z' : Z10) (ru : Option (AX × St)), p10 (s, z') → mu10 z' < mu10 z → (tr10 s z').run = (tr10 s z).run → ru = some (.normal, { tm := encGo (mbits 65597 89) (en10 (s, z')).1, ms := [], hp := (en10 (s, z')).2 }) →
        (∃ y, p10 y ∧ mu10 y.2 < mu10 z ∧ out10 y = out10 (s, z) ∧ ru = some (.normal, { tm := encGo (mbits 65597 89) (en10 y).1, ms := [], hp := (en10 y).2 })) := by
      intro z' ru h1 h2 h3 h4
      exact ⟨(s, z'), h1, h2, by unfold out10; simp only; rw [h3], h4⟩
    have stop : ∀ (o : AX × St) (ru : Option (AX × St)), (tr10 s z).run = some o → ru = some o → ru = some (out10 (s, z)) ∧ (out10 (s, z)).1 ≠ .normal := by
      intro o ru h1 h2
      refine ⟨?_, nn⟩
      have := out10_run (s, z)
      simp only at this
      rw [h1] at this
      rw [h2, Option.some.inj this]
    cases z with
    | z3 a p0 p1 p2 =>
      right
      exact stop _ _ rfl (q10d s p0 p1 p2 a)
    | z0 =>
      have g : decide ((0 : Int) ≤ 0 ∧ (0 : Int) ≤ (s.length : Int) ∧ s.length ≤ 1073741824) = true := decide_eq_true ⟨by omega, by omega, by omega⟩
      have ht := q10a s [] [] [] 0
      rw [g] at ht
      simp only [cond_true] at ht
      have hru := runD_ge (s := s) (a := 0) (by omega) (by omega)
      cases h1 : (numT s 0 == []) with
      | true =>
        rw [h1] at ht
        simp only [cond_true] at ht
        right
        cases h2 : decide (runD s 0 ≥ (s.length : Int)) with
        | true =>
          rw [h2] at ht
          refine stop _ _ ?_ ht
          simp only [tr10, run_numTr, h1, h2, cond_true]; rfl
        | false =>
          rw [h2] at ht
          refine stop _ _ ?_ ht
          simp only [tr10, run_numTr, h1, h2, cond_true, cond_false]; rfl
      | false =>
        rw [h1] at ht
        simp only [cond_false] at ht
        cases h2 : numB (numT s 0) with
        | true =>
          rw [h2] at ht
          left
          refine step (.z1 (runD s 0) (numT s 0)) _ ⟨hl, hru⟩ (by simp [mu10]) ?_ ht
          simp only [tr10, run_numTr, h1, h2, cond_true, cond_false]
        | false =>
          rw [h2] at ht
          right
          refine stop _ _ ?_ ht
          simp only [tr10, run_numTr, h1, h2, cond_true, cond_false]; rfl
    | z1 a p0 =>
      obtain ⟨ha, ha2⟩ := hp
      have ht := q10b s p0 [] [] a
      rw [decide_eq_true ha, w64 (n := a + 1) (by omega) (by omega)] at ht
      simp only [cond_true] at ht
      cases h0 : isAt s a 46 with
      | false =>
        rw [h0] at ht
        simp only [Bool.not_false, cond_true] at ht
        right
        cases h2 : decide (a ≥ (s.length : Int)) with
        | true =>
          rw [h2] at ht
          refine stop _ _ ?_ ht
          simp only [tr10, run_dotTr, h0, h2, cond_true, cond_false]; rfl
        | false =>
          rw [h2] at ht
          refine stop _ _ ?_ ht
          simp only [tr10, run_dotTr, h0, h2, cond_true, cond_false]; rfl
      | true =>
        have hlt := isAt_lt h0
        have g : decide ((0 : Int) ≤ a + 1 ∧ a + 1 ≤ (s.length : Int) ∧ s.length ≤ 1073741824) = true := decide_eq_true ⟨by omega, by omega, by omega⟩
        have hru := runD_ge (s := s) (a := a + 1) (by omega) (by omega)
        rw [h0, g] at ht
        simp only [Bool.not_true, cond_false, cond_true] at ht
        cases h1 : (numT s (a + 1) == []) with
        | true =>
          rw [h1] at ht
          simp only [cond_true] at ht
          right
          cases h2 : decide (runD s (a + 1) ≥ (s.length : Int)) with
          | true =>
            rw [h2] at ht
            refine stop _ _ ?_ ht
            simp only [tr10, run_dotTr, run_numTr, h0, h1, h2, cond_true]; rfl
          | false =>
            rw [h2] at ht
            refine stop _ _ ?_ ht
            simp only [tr10, run_dotTr, run_numTr, h0, h1, h2, cond_true, cond_false]; rfl
        | false =>
          rw [h1] at ht
          simp only [cond_false] at ht
          cases h2 : numB (numT s (a + 1)) with
          | true =>
            rw [h2] at ht
            left
            refine step (.z2 (runD s (a + 1)) p0 (numT s (a + 1))) _ ⟨hl, by omega, hru.2⟩ (by simp [mu10]) ?_ ht
            simp only [tr10, run_dotTr, run_numTr, h0, h1, h2, cond_true, cond_false]
          | false =>
            rw [h2] at ht
            right
            refine stop _ _ ?_ ht
            simp only [tr10, run_dotTr, run_numTr, h0, h1, h2, cond_true, cond_false]; rfl
    | z2 a p0 p1 =>
      obtain ⟨ha, ha2⟩ := hp
      have ht := q10c s p0 p1 [] a
      rw [decide_eq_true ha, w64 (n := a + 1) (by omega) (by omega)] at ht
      simp only [cond_true] at ht
      cases h0 : isAt s a 46 with
      | false =>
        rw [h0] at ht
        simp only [Bool.not_false, cond_true] at ht
        right
        cases h2 : decide (a ≥ (s.length : Int)) with
        | true =>
          rw [h2] at ht
          refine stop _ _ ?_ ht
          simp only [tr10, run_dotTr, h0, h2, cond_true, cond_false]; rfl
        | false =>
          rw [h2] at ht
          refine stop _ _ ?_ ht
          simp only [tr10, run_dotTr, h0, h2, cond_true, cond_false]; rfl
      | true =>
        have hlt := isAt_lt h0
        have g : decide ((0 : Int) ≤ a + 1 ∧ a + 1 ≤ (s.length : Int) ∧ s.length ≤ 1073741824) = true := decide_eq_true ⟨by omega, by omega, by omega⟩
        have hru := runD_ge (s := s) (a := a + 1) (by omega) (by omega)
        rw [h0, g] at ht
        simp only [Bool.not_true, cond_false, cond_true] at ht
        cases h1 : (numT s (a + 1) == []) with
        | true =>
          rw [h1] at ht
          simp only [cond_true] at ht
          right
          cases h2 : decide (runD s (a + 1) ≥ (s.length : Int)) with
          | true =>
            rw [h2] at ht
            refine stop _ _ ?_ ht
            simp only [tr10, run_dotTr, run_numTr, h0, h1, h2, cond_true]; rfl
          | false =>
            rw [h2] at ht
            refine stop _ _ ?_ ht
            simp only [tr10, run_dotTr, run_numTr, h0, h1, h2, cond_true, cond_false]; rfl
        | false =>
          rw [h1] at ht
          simp only [cond_false] at ht
          cases h2 : numB (numT s (a + 1)) with
          | true =>
            rw [h2] at ht
            left
            refine step (.z3 (runD s (a + 1)) p0 p1 (numT s (a + 1))) _ ⟨hl, by omega, hru.2⟩ (by simp [mu10]) ?_ ht
            simp only [tr10, run_dotTr, run_numTr, h0, h1, h2, cond_true, cond_false]
          | false =>
            rw [h2] at ht
            right
            refine stop _ _ ?_ ht
            simp only [tr10, run_dotTr, run_numTr, h0, h1, h2, cond_true, cond_false]; rfl

end Go.Sem

/- Lemmas for the claims of this seat (a verified symbolic evaluator, and contracts of functions): own work; no condition. -/
import Derived.Test.YtepbfkhalkfhcaaDoorFnA
import Derived.Test.YtepbfkhalkfhcaaDoorEvF
namespace Go.Mvs

open Go Go.Proofs Go.Ab

set_option maxRecDepth 100000

set_option linter.unusedVariables false

set_option linter.unusedSimpArgs false

/-! ### Bytes of a version, classes of tokens, ranks -/

structure Tok where
  dash : Bool
  num : Bool
  text : List UInt8

def vB (c : Int) : Bool := alnum c || c == 46 || c == 45 || c == 95 || c == 43

def partB (c : Int) : Bool := c == 46 || c == 45

def nullT (n : Bool) (s : List UInt8) : Bool := bif n then s == [48] else s == []

def clsT (d n f : Bool) : Int := bif !n then 0 else bif d && !f then 1 else 2

def sgn (n : Int) : Int := if 0 < n then 1 else if n < 0 then -1 else 0

def rankN (s : List UInt8) : Int := bif s == [97, 108, 112, 104, 97] then 1 else bif s == [98, 101, 116, 97] then 2 else bif s == [109, 105, 108, 101, 115, 116, 111, 110, 101] then 3 else bif s == [114, 99] then 4 else
  bif s == [115, 110, 97, 112, 115, 104, 111, 116] then 5 else bif s == [] then 6 else bif s == [115, 112] then 7 else 8

theorem t38 (c : Int) : (evn tabE h38 noLoops 38 [.int .u8 c] []).run =
  bif isC (5 : Int) c then
   some ((AV.bool true, []))
  else
   bif c == (46 : Int) then
    some ((AV.bool true, []))
   else
    bif c == (45 : Int) then
     some ((AV.bool true, []))
    else
     bif c == (95 : Int) then
      some ((AV.bool true, []))
     else
      some ((AV.bool (c == (43 : Int)), [])) := by kernel_rfl

def c38 : List AV → T AV
  | [.int .u8 c] => .leaf (.bool (vB c))
  | _ => .fail

theorem e38 (c : Int) (hF : FitsL [.int .u8 c]) : (evn tabE h38 noLoops 38 [.int .u8 c] []).run = (.leaf (.bool (vB c)) : T AV).run.map fun r => (r, []) := by
  refine (t38 c).trans ?_
  unfold vB
  rw [show isC 5 c = alnum c from rfl]
  cases alnum c <;> cases (c == 46) <;> cases (c == 45) <;> cases (c == 95) <;> rfl

theorem s38 : Sound1 Tryd.prog ⟨38, true, pcon c38⟩ := by
  refine sound_pureH (m := 20) (k := 9) (hn := h38) (Λ := noLoops) (soundTab_of all_tabE) H0 (fun i hi => anyLoops) fun args r hF h => ?_
  unfold c38 at h
  split at h
  · rename_i c
    have he := e38 c hF
    rw [he, h]; rfl
  · cases h

theorem t50 (c : Int) : (evn tabE h50 noLoops 50 [.int .u8 c] []).run =
  bif c == (46 : Int) then
   some ((AV.bool true, []))
  else
   some ((AV.bool (c == (45 : Int)), [])) := by kernel_rfl

def c50 : List AV → T AV
  | [.int .u8 c] => .leaf (.bool (partB c))
  | _ => .fail

theorem e50 (c : Int) (hF : FitsL [.int .u8 c]) : (evn tabE h50 noLoops 50 [.int .u8 c] []).run = (.leaf (.bool (partB c)) : T AV).run.map fun r => (r, []) := by
  refine (t50 c).trans ?_
  unfold partB
  cases (c == 46) <;> rfl

theorem s50 : Sound1 Tryd.prog ⟨50, true, pcon c50⟩ := by
  refine sound_pureH (m := 20) (k := 9) (hn := h50) (Λ := noLoops) (soundTab_of all_tabE) H0 (fun i hi => anyLoops) fun args r hF h => ?_
  unfold c50 at h
  split at h
  · rename_i c
    have he := e50 c hF
    rw [he, h]; rfl
  · cases h

theorem t68 (d : Bool) (n : Bool) (s : List UInt8) : (evn tabE h68 noLoops 68 [.agg [.bool d, .bool n, .str s]] []).run =
  bif n then
   bif s == [(48 : UInt8)] then
    some ((AV.bool true, []))
   else
    bif !n then
     some ((AV.bool (s == []), []))
    else
     some ((AV.bool false, []))
  else
   bif !n then
    some ((AV.bool (s == []), []))
   else
    some ((AV.bool false, [])) := by kernel_rfl

def c68 : List AV → T AV
  | [.agg [.bool d, .bool n, .str s]] => .leaf (.bool (nullT n s))
  | _ => .fail

theorem e68 (d : Bool) (n : Bool) (s : List UInt8) (hF : FitsL [.agg [.bool d, .bool n, .str s]]) : (evn tabE h68 noLoops 68 [.agg [.bool d, .bool n, .str s]] []).run = (.leaf (.bool (nullT n s)) : T AV).run.map fun r => (r, []) := by
  refine (t68 d n s).trans ?_
  unfold nullT
  cases n <;> cases (s == [48]) <;> rfl

theorem s68 : Sound1 Tryd.prog ⟨68, true, pcon c68⟩ := by
  refine sound_pureH (m := 20) (k := 9) (hn := h68) (Λ := noLoops) (soundTab_of all_tabE) H0 (fun i hi => anyLoops) fun args r hF h => ?_
  unfold c68 at h
  split at h
  · rename_i d n s
    have he := e68 d n s hF
    rw [he, h]; rfl
  · cases h

theorem t56 (d : Bool) (n : Bool) (s : List UInt8) (f : Bool) : (evn tabE h56 noLoops 56 [.agg [.bool d, .bool n, .str s], .bool f] []).run =
  bif !n then
   some ((AV.int IntKind.i64 (0 : Int), []))
  else
   bif d then
    bif !f then
     some ((AV.int IntKind.i64 (1 : Int), []))
    else
     some ((AV.int IntKind.i64 (2 : Int), []))
   else
    some ((AV.int IntKind.i64 (2 : Int), [])) := by kernel_rfl

def c56 : List AV → T AV
  | [.agg [.bool d, .bool n, .str s], .bool f] => .leaf (.int .i64 (clsT d n f))
  | _ => .fail

theorem e56 (d : Bool) (n : Bool) (s : List UInt8) (f : Bool) (hF : FitsL [.agg [.bool d, .bool n, .str s], .bool f]) : (evn tabE h56 noLoops 56 [.agg [.bool d, .bool n, .str s], .bool f] []).run = (.leaf (.int .i64 (clsT d n f)) : T AV).run.map fun r => (r, []) := by
  refine (t56 d n s f).trans ?_
  cases d <;> cases n <;> cases f <;> rfl

theorem s56 : Sound1 Tryd.prog ⟨56, true, pcon c56⟩ := by
  refine sound_pureH (m := 20) (k := 9) (hn := h56) (Λ := noLoops) (soundTab_of all_tabE) H0 (fun i hi => anyLoops) fun args r hF h => ?_
  unfold c56 at h
  split at h
  · rename_i d n s f
    have he := e56 d n s f hF
    rw [he, h]; rfl
  · cases h

theorem t57 (n : Int) : (evn tabE h57 noLoops 57 [.int .i64 n] []).run =
  some ((AV.int IntKind.i64 (if true = true then if (-1 : Int) > if false = true then if (1 : Int) > n then (1 : Int) else n else if (1 : Int) < n then (1 : Int) else n then (-1 : Int) else if false = true then if (1 : Int) > n then (1 : Int) else n else if (1 : Int) < n then (1 : Int) else n else if (-1 : Int) < if false = true then if (1 : Int) > n then (1 : Int) else n else if (1 : Int) < n then (1 : Int) else n then (-1 : Int) else if false = true then if (1 : Int) > n then (1 : Int) else n else if (1 : Int) < n then (1 : Int) else n), [])) := by kernel_rfl

def c57 : List AV → T AV
  | [.int .i64 n] => .leaf (.int .i64 (sgn n))
  | _ => .fail

theorem e57 (n : Int) (hF : FitsL [.int .i64 n]) : (evn tabE h57 noLoops 57 [.int .i64 n] []).run = (.leaf (.int .i64 (sgn n)) : T AV).run.map fun r => (r, []) := by
  refine (t57 n).trans ?_
  have e : (if true = true then if -1 > if false = true then if 1 > n then 1 else n else if 1 < n then 1 else n then -1 else if false = true then if 1 > n then 1 else n else if 1 < n then 1 else n else if -1 < (if false = true then if 1 > n then 1 else n else if 1 < n then 1 else n) then -1 else (if false = true then if 1 > n then 1 else n else if 1 < n then 1 else n) : Int) = sgn n := by
    unfold sgn
    simp only [if_true, Bool.false_eq_true, if_false]
    (repeat' split) <;> omega
  rw [e]
  rfl

theorem s57 : Sound1 Tryd.prog ⟨57, true, pcon c57⟩ := by
  refine sound_pureH (m := 20) (k := 9) (hn := h57) (Λ := noLoops) (soundTab_of all_tabE) H0 (fun i hi => anyLoops) fun args r hF h => ?_
  unfold c57 at h
  split at h
  · rename_i n
    have he := e57 n hF
    rw [he, h]; rfl
  · cases h

theorem t28 (b : Bool) : (evn tabE h28 noLoops 28 [.bool b] []).run =
  bif b then
   some ((AV.int IntKind.i64 (1 : Int), []))
  else
   some ((AV.int IntKind.i64 (0 : Int), [])) := by kernel_rfl

def c28 : List AV → T AV
  | [.bool b] => .leaf (.int .i64 (cond b 1 0))
  | _ => .fail

theorem e28 (b : Bool) (hF : FitsL [.bool b]) : (evn tabE h28 noLoops 28 [.bool b] []).run = (.leaf (.int .i64 (cond b 1 0)) : T AV).run.map fun r => (r, []) := by
  refine (t28 b).trans ?_
  cases b <;> rfl

theorem s28 : Sound1 Tryd.prog ⟨28, true, pcon c28⟩ := by
  refine sound_pureH (m := 20) (k := 9) (hn := h28) (Λ := noLoops) (soundTab_of all_tabE) H0 (fun i hi => anyLoops) fun args r hF h => ?_
  unfold c28 at h
  split at h
  · rename_i b
    have he := e28 b hF
    rw [he, h]; rfl
  · cases h

theorem t29 (a : List UInt8) (b : List UInt8) : (evn tabE h29 noLoops 29 [.str a, .str b] []).run =
  some ((AV.int IntKind.i64 (Lib.compareBytes a b), [])) := by kernel_rfl

def c29 : List AV → T AV
  | [.str a, .str b] => .leaf (.int .i64 (Lib.compareBytes a b))
  | _ => .fail

theorem e29 (a : List UInt8) (b : List UInt8) (hF : FitsL [.str a, .str b]) : (evn tabE h29 noLoops 29 [.str a, .str b] []).run = (.leaf (.int .i64 (Lib.compareBytes a b)) : T AV).run.map fun r => (r, []) := by
  refine (t29 a b).trans ?_
  rfl

theorem s29 : Sound1 Tryd.prog ⟨29, true, pcon c29⟩ := by
  refine sound_pureH (m := 20) (k := 9) (hn := h29) (Λ := noLoops) (soundTab_of all_tabE) H0 (fun i hi => anyLoops) fun args r hF h => ?_
  unfold c29 at h
  split at h
  · rename_i a b
    have he := e29 a b hF
    rw [he, h]; rfl
  · cases h

theorem t59 (s : List UInt8) : (evn tabE h59 noLoops 59 [.str s] []).run =
  bif s == [(97 : UInt8), (108 : UInt8), (112 : UInt8), (104 : UInt8), (97 : UInt8)] then
   some ((AV.int IntKind.i64 (1 : Int), []))
  else
   bif s == [(98 : UInt8), (101 : UInt8), (116 : UInt8), (97 : UInt8)] then
    some ((AV.int IntKind.i64 (2 : Int), []))
   else
    bif s == [(109 : UInt8), (105 : UInt8), (108 : UInt8), (101 : UInt8), (115 : UInt8), (116 : UInt8), (111 : UInt8), (110 : UInt8), (101 : UInt8)] then
     some ((AV.int IntKind.i64 (3 : Int), []))
    else
     bif s == [(114 : UInt8), (99 : UInt8)] then
      some ((AV.int IntKind.i64 (4 : Int), []))
     else
      bif s == [(115 : UInt8), (110 : UInt8), (97 : UInt8), (112 : UInt8), (115 : UInt8), (104 : UInt8), (111 : UInt8), (116 : UInt8)] then
       some ((AV.int IntKind.i64 (5 : Int), []))
      else
       bif s == [] then
        some ((AV.int IntKind.i64 (6 : Int), []))
       else
        bif s == [(115 : UInt8), (112 : UInt8)] then
         some ((AV.int IntKind.i64 (7 : Int), []))
        else
         some ((AV.int IntKind.i64 (8 : Int), [])) := by kernel_rfl

def c59 : List AV → T AV
  | [.str s] => .leaf (.int .i64 (rankN s))
  | _ => .fail

theorem e59 (s : List UInt8) (hF : FitsL [.str s]) : (evn tabE h59 noLoops 59 [.str s] []).run = (.leaf (.int .i64 (rankN s)) : T AV).run.map fun r => (r, []) := by
  refine (t59 s).trans ?_
  unfold rankN
  cases (s == [97, 108, 112, 104, 97]) <;> cases (s == [98, 101, 116, 97]) <;> cases (s == [109, 105, 108, 101, 115, 116, 111, 110, 101]) <;> cases (s == [114, 99]) <;> cases (s == [115, 110, 97, 112, 115, 104, 111, 116]) <;> cases (s == []) <;> cases (s == [115, 112]) <;> rfl

theorem s59 : Sound1 Tryd.prog ⟨59, true, pcon c59⟩ := by
  refine sound_pureH (m := 20) (k := 9) (hn := h59) (Λ := noLoops) (soundTab_of all_tabE) H0 (fun i hi => anyLoops) fun args r hF h => ?_
  unfold c59 at h
  split at h
  · rename_i s
    have he := e59 s hF
    rw [he, h]; rfl
  · cases h

noncomputable def tabG : Tab := ⟨38, true, pcon c38⟩ :: ⟨50, true, pcon c50⟩ :: ⟨68, true, pcon c68⟩ :: ⟨56, true, pcon c56⟩ :: ⟨57, true, pcon c57⟩ :: ⟨28, true, pcon c28⟩ :: ⟨29, true, pcon c29⟩ :: ⟨59, true, pcon c59⟩ :: tabE

theorem all_tabG : ∀ e, e ∈ tabG → Sound1 Tryd.prog e := (sound_mem_tab s38 (sound_mem_tab s50 (sound_mem_tab s68 (sound_mem_tab s56 (sound_mem_tab s57 (sound_mem_tab s28 (sound_mem_tab s29 (sound_mem_tab s59 all_tabE))))))))

theorem ok_tabG : SoundTab Tryd.prog tabG := soundTab_of all_tabG

/-! ### The order of tokens -/

def ordT (d1 n1 : Bool) (s1 : List UInt8) (d2 n2 : Bool) (s2 : List UInt8) (f : Bool) : Int :=
  bif clsT d1 n1 f != clsT d2 n2 f then sgn (clsT d1 n1 f - clsT d2 n2 f) else bif n1 then cmpD s1 s2 else
    bif rankN s1 != rankN s2 then sgn (rankN s1 - rankN s2) else bif decide (rankN s1 < 8) then 0 else Lib.compareBytes s1 s2

theorem clsT_le (d n f : Bool) : 0 ≤ clsT d n f ∧ clsT d n f ≤ 2 := by cases d <;> cases n <;> cases f <;> decide

theorem clsT_pos (d n f : Bool) : decide (clsT d n f > 0) = n := by cases d <;> cases n <;> cases f <;> rfl

theorem rankN_le (s : List UInt8) : 0 ≤ rankN s ∧ rankN s ≤ 8 := by
  unfold rankN
  cases (s == [97, 108, 112, 104, 97]) <;> cases (s == [98, 101, 116, 97]) <;> cases (s == [109, 105, 108, 101, 115, 116, 111, 110, 101]) <;> cases (s == [114, 99]) <;> cases (s == [115, 110, 97, 112, 115, 104, 111, 116]) <;> cases (s == []) <;> cases (s == [115, 112]) <;> decide

theorem t43 (d1 : Bool) (n1 : Bool) (s1 : List UInt8) (d2 : Bool) (n2 : Bool) (s2 : List UInt8) (f : Bool) : (evn tabG h43 noLoops 43 [.agg [.bool d1, .bool n1, .str s1], .agg [.bool d2, .bool n2, .str s2], .bool f] []).run =
  bif clsT d1 n1 f != clsT d2 n2 f then
   some ((AV.int IntKind.i64 (sgn (IntKind.i64.wrap (clsT d1 n1 f - clsT d2 n2 f))), []))
  else
   bif decide (clsT d1 n1 f > (0 : Int)) then
    some ((AV.int IntKind.i64 (cmpD s1 s2), []))
   else
    bif rankN s1 != rankN s2 then
     some ((AV.int IntKind.i64 (sgn (IntKind.i64.wrap (rankN s1 - rankN s2))), []))
    else
     bif decide (rankN s1 < (8 : Int)) then
      some ((AV.int IntKind.i64 (sgn (IntKind.i64.wrap (rankN s1 - rankN s2))), []))
     else
      some ((AV.int IntKind.i64 (Lib.compareBytes s1 s2), [])) := by kernel_rfl

def c43 : List AV → T AV
  | [.agg [.bool d1, .bool n1, .str s1], .agg [.bool d2, .bool n2, .str s2], .bool f] => .leaf (.int .i64 (ordT d1 n1 s1 d2 n2 s2 f))
  | _ => .fail

theorem e43 (d1 : Bool) (n1 : Bool) (s1 : List UInt8) (d2 : Bool) (n2 : Bool) (s2 : List UInt8) (f : Bool) (hF : FitsL [.agg [.bool d1, .bool n1, .str s1], .agg [.bool d2, .bool n2, .str s2], .bool f]) : (evn tabG h43 noLoops 43 [.agg [.bool d1, .bool n1, .str s1], .agg [.bool d2, .bool n2, .str s2], .bool f] []).run = (.leaf (.int .i64 (ordT d1 n1 s1 d2 n2 s2 f)) : T AV).run.map fun r => (r, []) := by
  refine (t43 d1 n1 s1 d2 n2 s2 f).trans ?_
  have h1 := clsT_le d1 n1 f
  have h2 := clsT_le d2 n2 f
  have h3 := rankN_le s1
  have h4 := rankN_le s2
  rw [w64 (by omega) (by omega), w64 (by omega) (by omega), clsT_pos]
  unfold ordT
  have h5 : (rankN s1 != rankN s2) = false → sgn (rankN s1 - rankN s2) = 0 := by
    intro h
    have : rankN s1 = rankN s2 := by simpa using h
    rw [this, Int.sub_self]; rfl
  cases (clsT d1 n1 f != clsT d2 n2 f) <;> cases n1 <;> try rfl
  cases hr : (rankN s1 != rankN s2) <;> try rfl
  rw [h5 hr]
  cases decide (rankN s1 < 8) <;> rfl

theorem s43 : Sound1 Tryd.prog ⟨43, true, pcon c43⟩ := by
  refine sound_pureH (m := 20) (k := 9) (hn := h43) (Λ := noLoops) (soundTab_of all_tabG) H0 (fun i hi => anyLoops) fun args r hF h => ?_
  unfold c43 at h
  split at h
  · rename_i d1 n1 s1 d2 n2 s2 f
    have he := e43 d1 n1 s1 d2 n2 s2 f hF
    rw [he, h]; rfl
  · cases h

/-! ### scan.Lower -/

def lowB (b : UInt8) : UInt8 := bif upp (b.toNat : Int) then UInt8.ofNat (IntKind.u8.wrap ((b.toNat : Int) + 32)).toNat else b

def lowF (s : List UInt8) (i : Nat) : List UInt8 := s.take i ++ (s.drop i).map lowB

theorem lowF_end {s : List UInt8} : lowF s s.length = s := by simp [lowF]

theorem lowF_len {s : List UInt8} {i : Nat} (h : i ≤ s.length) : (lowF s i).length = s.length := by simp [lowF]; omega

theorem lowF_set {s : List UInt8} {i : Nat} (h : i < s.length) : lowF (s.set i (lowB (s.getD i 0))) (i + 1) = lowF s i := by
  unfold lowF
  rw [List.drop_set_of_lt (by omega), dropD (0 : UInt8) h, List.map_cons, List.take_succ_eq_append_getElem (by simpa using h), List.take_set_of_le (Nat.le_refl _)]
  simp

theorem lowF_same {s : List UInt8} {i : Nat} (h : i < s.length) (hu : upp ((s.getD i 0).toNat : Int) = false) : lowF s (i + 1) = lowF s i := by
  have e : lowB (s.getD i 0) = s.getD i 0 := by unfold lowB; rw [hu]; rfl
  have := lowF_set h
  rw [e] at this
  rw [← this]
  congr 1
  rw [List.getD_eq_getElem?_getD, List.getElem?_eq_getElem h]
  simp

structure Y52 where
  s : List UInt8
  i : Nat

def eL52 : Y52 → List AV × Hp := fun ⟨s, i⟩ => ([.row 0 1 0 s.length, .row 0 1 0 s.length, .int .i64 s.length, .int .i64 i], [some (.bytes s)])

def dL52 : List AV × Hp → Y52
  | ([.row _ _ _ _, .row _ _ _ _, .int .i64 _, .int .i64 i], [some (.bytes s)]) => ⟨s, i.toNat⟩
  | _ => ⟨default, default⟩

def pL52 : Y52 → Prop := fun ⟨s, i⟩ => i ≤ s.length ∧ s.length ≤ bnd

def rL52 : Y52 → T (AX × St) := fun ⟨s, i⟩ => .leaf (.exit 0, { tm := tmOf 25 [(3, .row 0 1 0 s.length), (8, .row 0 1 0 s.length), (9, .int .i64 s.length), (10, .int .i64 s.length), (11, .bool false)], ms := [], hp := [some (.bytes (lowF s i))] })

noncomputable def L52 : LoopT := fun k => match Nat.beq k 300032 with
  | true => some (lccon (mbits 1800 25) eL52 dL52 pL52 rL52)
  | false => none

theorem iL52 : ∀ x, dL52 (eL52 x) = x := by
  rintro ⟨s, i⟩
  simp only [eL52, dL52, Int.toNat_natCast]

theorem kL52 (s : List UInt8) (i : Nat) (h : i ≤ s.length ∧ s.length ≤ bnd) : isEn eL52 pL52 ([.row 0 1 0 s.length, .row 0 1 0 s.length, .int .i64 s.length, .int .i64 i], [some (.bytes s)]) = true := isEn_true (enc := eL52) (p := pL52) ⟨s, i⟩ h

theorem zL52 (s : List UInt8) (h : pL52 ⟨s, 0⟩) : isEn eL52 pL52 ([.row 0 1 0 s.length, .row 0 1 0 s.length, .int .i64 s.length, .int .i64 (0 : Int)], [some (.bytes s)]) = true := isEn_true (enc := eL52) (p := pL52) ⟨s, 0⟩ h

theorem q52 (s : List UInt8) (i : Nat) : (rdn tabG h52 L52 52 0 0 { tm := encGo (mbits 1800 25) [.row 0 1 0 s.length, .row 0 1 0 s.length, .int .i64 s.length, .int .i64 i], ms := [], hp := [some (.bytes s)] }).run =
  bif decide ((↑i : Int) < (↑s.length : Int)) then
   bif decide ((0 : Int) ≤ (↑i : Int) ∧ (↑i : Int) < (↑s.length : Int)) then
    bif decide (0 + (↑i : Int).toNat < s.length) then
     bif isC (3 : Int) (↑(s.getD (0 + (↑i : Int).toNat) (0 : UInt8)).toNat : Int) then
      bif decide ((0 : Int) ≤ (↑i : Int) ∧ (↑i : Int) < (↑s.length : Int)) then
       bif decide (0 + (↑i : Int).toNat < s.length) then
        some ((AX.normal, { tm := tmOf 25 [(3, AV.row 0 1 0 s.length), (8, AV.row 0 1 0 s.length), (9, AV.int IntKind.i64 (↑s.length : Int)), (10, AV.int IntKind.i64 (IntKind.i64.wrap ((↑i : Int) + (1 : Int))))], ms := [], hp := [some (AObj.bytes (s.set (0 + (↑i : Int).toNat) (UInt8.ofNat (IntKind.u8.wrap ((↑(s.getD (0 + (↑i : Int).toNat) (0 : UInt8)).toNat : Int) + (32 : Int))).toNat)))] }))
       else
        none
      else
       none
     else
      some ((AX.normal, { tm := tmOf 25 [(3, AV.row 0 1 0 s.length), (8, AV.row 0 1 0 s.length), (9, AV.int IntKind.i64 (↑s.length : Int)), (10, AV.int IntKind.i64 (IntKind.i64.wrap ((↑i : Int) + (1 : Int))))], ms := [], hp := [some (AObj.bytes s)] }))
    else
     none
   else
    none
  else
   some ((AX.exit 0, { tm := tmOf 25 [(3, AV.row 0 1 0 s.length), (8, AV.row 0 1 0 s.length), (9, AV.int IntKind.i64 (↑s.length : Int)), (10, AV.int IntKind.i64 (↑i : Int)), (11, AV.bool false)], ms := [], hp := [some (AObj.bytes s)] })) := by kernel_rfl

theorem l52 : LoopOk Tryd.prog tabG.pf (fun n => hd Tryd.prog tabG.pf tabG.con.run (fun f => (H0 f).to) n 9) h52.to 52 0 none L52 (loopAt Tryd.prog 52 0) := by
  rw [show loopAt Tryd.prog 52 0 = .loop (lbody Tryd.prog 52 0) by kernel_rfl]
  refine loop_c (hdT_le (m := 20) 9) (m := 20) (lv := mbits 1800 25) (p := pL52) (res := rL52) iL52 (within_of _ (by rw [show loopsOf (lbody Tryd.prog 52 0) = [] by kernel_rfl]; simp)) (by kernel_rfl) (fun ⟨s, i⟩ => s.length - i) ?_
  rintro ⟨s, i⟩ hp
  have ht := q52 s i
  obtain ⟨h1, h2⟩ := hp
  simp only [bnd] at h2
  by_cases hl : i < s.length
  · rw [decide_eq_true (show (i : Int) < s.length by omega), in_row hl, w64n (by omega)] at ht
    simp only [Int.toNat_natCast, Nat.zero_add, cond_true, decide_eq_true hl] at ht
    left
    cases hu : upp ((s.getD i 0).toNat : Int) with
    | true =>
      rw [show isC 3 ((s.getD i 0).toNat : Int) = upp ((s.getD i 0).toNat : Int) from rfl, hu] at ht
      have e : UInt8.ofNat (IntKind.u8.wrap (((s.getD i 0).toNat : Int) + 32)).toNat = lowB (s.getD i 0) := by unfold lowB; rw [hu]; rfl
      rw [e] at ht
      refine ⟨⟨s.set i (lowB (s.getD i 0)), i + 1⟩, ⟨by simp; omega, by simpa only [List.length_set, bnd] using h2⟩, by simp only [List.length_set]; omega, ?_, ?_⟩
      · simp only [rL52, T.run_leaf, lowF_set hl, List.length_set]
      · simp only [eL52, List.length_set]; exact ht
    | false =>
      rw [show isC 3 ((s.getD i 0).toNat : Int) = upp ((s.getD i 0).toNat : Int) from rfl, hu] at ht
      refine ⟨⟨s, i + 1⟩, ⟨by omega, by simpa only [bnd] using h2⟩, by simp only; omega, ?_, ht⟩
      simp only [rL52, T.run_leaf, lowF_same hl hu]
  · right
    rw [decide_eq_false (show ¬ (i : Int) < s.length by omega)] at ht
    obtain rfl : i = s.length := by omega
    refine ⟨_, ?_, ?_, ht⟩
    · simp
    · simp only [rL52, T.run_leaf, lowF_end]

theorem t52 (s : List UInt8) : (evn tabG h52 L52 52 [.str s] []).run =
  bif isEn eL52 pL52 ([AV.row 0 1 0 s.length, AV.row 0 1 0 s.length, AV.int IntKind.i64 (↑s.length : Int), AV.int IntKind.i64 (0 : Int)], [some (AObj.bytes s)]) then
   bif decide (0 + s.length ≤ (lowF s 0).length) then
    some ((AV.str (List.take s.length (List.drop 0 (lowF s 0))), []))
   else
    none
  else
   none := by kernel_rfl

def c52 : List AV → T AV
  | [.str s] => .leaf (.str (lowF s 0))
  | _ => .fail

theorem e52 (s : List UInt8) (hF : FitsL [.str s]) : (evn tabG h52 L52 52 [.str s] []).run = (.leaf (.str (lowF s 0)) : T AV).run.map fun r => (r, []) := by
  refine (t52 s).trans ?_
  have hb : s.length ≤ bnd := hF.1
  refine (cond_chk (kL52 s 0 ⟨Nat.zero_le _, hb⟩)).trans ?_
  have hl := lowF_len (s := s) (i := 0) (Nat.zero_le _)
  rw [cond_chk (by simp [hl])]
  rw [List.drop_zero, List.take_of_length_le (by omega)]
  rfl

theorem s52 : Sound1 Tryd.prog ⟨52, true, pcon c52⟩ := by
  refine sound_pureH (m := 20) (k := 9) (hn := h52) (Λ := L52) (soundTab_of all_tabG) H0 (oneLoop (by kernel_rfl) l52) fun args r hF h => ?_
  unfold c52 at h
  split at h
  · rename_i s
    have he := e52 s hF
    rw [he, h]; rfl
  · cases h

noncomputable def tabH : Tab := ⟨43, true, pcon c43⟩ :: ⟨52, true, pcon c52⟩ :: tabG

theorem all_tabH : ∀ e, e ∈ tabH → Sound1 Tryd.prog e := (sound_mem_tab s43 (sound_mem_tab s52 all_tabG))

theorem ok_tabH : SoundTab Tryd.prog tabH := soundTab_of all_tabH

/-! ### maven.token -/

def tokN (s : List UInt8) : Bool := bif s == [] then true else dig ((s.getD 0 0).toNat : Int)

def quaT (q : List UInt8) (n : Bool) : List UInt8 :=
  bif n && q == [97] then [97, 108, 112, 104, 97] else bif n && q == [98] then [98, 101, 116, 97] else bif n && q == [109] then [109, 105, 108, 101, 115, 116, 111, 110, 101] else
  bif q == [99, 114] then [114, 99] else bif q == [102, 105, 110, 97, 108] || (q == [103, 97] || q == [114, 101, 108, 101, 97, 115, 101]) then [] else q

def tokS (s : List UInt8) (n : Bool) : List UInt8 := bif tokN s then trimD s else quaT (lowF s 0) n

theorem t40 (d : Bool) (s : List UInt8) (n : Bool) : (evn tabH h40 noLoops 40 [.agg [.bool d, .str s, .bool n]] []).run =
  bif s == [] then
   some ((AV.agg [AV.bool d, AV.bool true, AV.str (trimD s)], []))
  else
   bif decide ((0 : Int) ≤ (0 : Int) ∧ (0 : Int) < (↑s.length : Int)) then
    bif isC (1 : Int) (↑(s.getD 0 (0 : UInt8)).toNat : Int) then
     some ((AV.agg [AV.bool d, AV.bool true, AV.str (trimD s)], []))
    else
     bif n then
      bif lowF s 0 == [(97 : UInt8)] then
       some ((AV.agg [AV.bool d, AV.bool false, AV.str [(97 : UInt8), (108 : UInt8), (112 : UInt8), (104 : UInt8), (97 : UInt8)]], []))
      else
       bif lowF s 0 == [(98 : UInt8)] then
        some ((AV.agg [AV.bool d, AV.bool false, AV.str [(98 : UInt8), (101 : UInt8), (116 : UInt8), (97 : UInt8)]], []))
       else
        bif lowF s 0 == [(109 : UInt8)] then
         some ((AV.agg [AV.bool d, AV.bool false, AV.str [(109 : UInt8), (105 : UInt8), (108 : UInt8), (101 : UInt8), (115 : UInt8), (116 : UInt8), (111 : UInt8), (110 : UInt8), (101 : UInt8)]], []))
        else
         bif lowF s 0 == [(99 : UInt8), (114 : UInt8)] then
          some ((AV.agg [AV.bool d, AV.bool false, AV.str [(114 : UInt8), (99 : UInt8)]], []))
         else
          bif lowF s 0 == [(102 : UInt8), (105 : UInt8), (110 : UInt8), (97 : UInt8), (108 : UInt8)] then
           some ((AV.agg [AV.bool d, AV.bool false, AV.str []], []))
          else
           bif lowF s 0 == [(103 : UInt8), (97 : UInt8)] then
            some ((AV.agg [AV.bool d, AV.bool false, AV.str []], []))
           else
            bif lowF s 0 == [(114 : UInt8), (101 : UInt8), (108 : UInt8), (101 : UInt8), (97 : UInt8), (115 : UInt8), (101 : UInt8)] then
             some ((AV.agg [AV.bool d, AV.bool false, AV.str []], []))
            else
             some ((AV.agg [AV.bool d, AV.bool false, AV.str (lowF s 0)], []))
     else
      bif lowF s 0 == [(99 : UInt8), (114 : UInt8)] then
       some ((AV.agg [AV.bool d, AV.bool false, AV.str [(114 : UInt8), (99 : UInt8)]], []))
      else
       bif lowF s 0 == [(102 : UInt8), (105 : UInt8), (110 : UInt8), (97 : UInt8), (108 : UInt8)] then
        some ((AV.agg [AV.bool d, AV.bool false, AV.str []], []))
       else
        bif lowF s 0 == [(103 : UInt8), (97 : UInt8)] then
         some ((AV.agg [AV.bool d, AV.bool false, AV.str []], []))
        else
         bif lowF s 0 == [(114 : UInt8), (101 : UInt8), (108 : UInt8), (101 : UInt8), (97 : UInt8), (115 : UInt8), (101 : UInt8)] then
          some ((AV.agg [AV.bool d, AV.bool false, AV.str []], []))
         else
          some ((AV.agg [AV.bool d, AV.bool false, AV.str (lowF s 0)], []))
   else
    none := by kernel_rfl

def c40 : List AV → T AV
  | [.agg [.bool d, .str s, .bool n]] => .leaf (.agg [.bool d, .bool (tokN s), .str (tokS s n)])
  | _ => .fail

theorem e40 (d : Bool) (s : List UInt8) (n : Bool) (hF : FitsL [.agg [.bool d, .str s, .bool n]]) : (evn tabH h40 noLoops 40 [.agg [.bool d, .str s, .bool n]] []).run = (.leaf (.agg [.bool d, .bool (tokN s), .str (tokS s n)]) : T AV).run.map fun r => (r, []) := by
  refine (t40 d s n).trans ?_
  unfold tokS tokN
  cases hs : (s == []) with
  | true => rfl
  | false =>
    have hpos : 0 < s.length := by
      rcases s with _ | ⟨a, s⟩
      · simp at hs
      · simp
    rw [cond_no (by simp), cond_chk (by simp; omega), show isC 1 ((s.getD 0 0).toNat : Int) = dig ((s.getD 0 0).toNat : Int) from rfl]
    unfold quaT
    cases dig ((s.getD 0 0).toNat : Int) <;> cases n <;> cases (lowF s 0 == [97]) <;> cases (lowF s 0 == [98]) <;> cases (lowF s 0 == [109]) <;> cases (lowF s 0 == [99, 114]) <;> cases (lowF s 0 == [102, 105, 110, 97, 108]) <;> cases (lowF s 0 == [103, 97]) <;> cases (lowF s 0 == [114, 101, 108, 101, 97, 115, 101]) <;> rfl

theorem s40 : Sound1 Tryd.prog ⟨40, true, pcon c40⟩ := by
  refine sound_pureH (m := 20) (k := 9) (hn := h40) (Λ := noLoops) (soundTab_of all_tabH) H0 (fun i hi => anyLoops) fun args r hF h => ?_
  unfold c40 at h
  split at h
  · rename_i d s n
    have he := e40 d s n hF
    rw [he, h]; rfl
  · cases h

noncomputable def tabI : Tab := ⟨40, true, pcon c40⟩ :: tabH

theorem all_tabI : ∀ e, e ∈ tabI → Sound1 Tryd.prog e := (sound_mem_tab s40 all_tabH)

theorem ok_tabI : SoundTab Tryd.prog tabI := soundTab_of all_tabI
end Go.Mvs
namespace Go.Mvs

open Go Go.Proofs Go.Ab

set_option maxRecDepth 100000

set_option linter.unusedVariables false

set_option linter.unusedSimpArgs false

/-! ### Rows of tokens -/

instance : Inhabited Tok := ⟨⟨false, false, []⟩⟩

def zeroT : Tok := ⟨false, false, []⟩

def rowT (f : Nat → Tok) : Nat → Nat → AV := fun i c => match c with
  | 0 => .bool (f i).dash
  | 1 => .bool (f i).num
  | 2 => .str (f i).text
  | _ => .junk

def boolOf : AV → Bool
  | .bool b => b
  | _ => false

def unT (g : Nat → Nat → AV) : Nat → Tok := fun i => ⟨boolOf (g i 0), boolOf (g i 1), strOf (g i 2)⟩

theorem unT_rowT (f : Nat → Tok) : unT (rowT f) = f := rfl

theorem anyLoopsB {t : Tab} {H : Nat → Hd} {hn : HintsT} {f : FuncId} {i b : Nat} : LoopOk Tryd.prog t.pf H hn.to f b none noLoops (loopAt Tryd.prog f i) := by
  generalize loopAt Tryd.prog f i = c
  cases c with
  | loop c => exact fun l hl => by cases hl
  | rangeFunc _ _ _ _ => exact fun l hl => by cases hl
  | _ => trivial

/-! ### slices.Delete, of one token -/

def delF (f : Nat → Tok) (i n : Nat) : Nat → Tok := fun k => if n - 1 ≤ k ∧ k < n then zeroT else if i ≤ k ∧ k < n - 1 then f (k + 1) else f k

theorem delF_row (f : Nat → Tok) {i n : Nat} (h : i < n) {z : List AV} (hz : z = [.bool false, .bool false, .str []]) :
    inF (n - 1) 1 (inF i (n - (i + 1)) (rowT f) (fun k => rowT f (i + 1 + k))) (fun _ c => z.getD c .junk) = rowT (delF f i n) := by
  funext k c
  rw [inF_eq, inF_eq]
  unfold delF
  by_cases h1 : n - 1 ≤ k ∧ k < n
  · rw [if_pos (by omega)]
    simp only [rowT, if_pos h1, hz]
    match c with
    | 0 => rfl
    | 1 => rfl
    | 2 => rfl
    | c + 3 => rfl
  · rw [if_neg (by omega)]
    by_cases h2 : i ≤ k ∧ k < n - 1
    · rw [if_pos (by omega)]
      simp only [rowT, if_neg h1, if_pos h2]
      rw [show i + 1 + (k - i) = k + 1 by omega]
    · rw [if_neg (by omega)]
      simp only [rowT, if_neg h1, if_neg h2]

theorem t54 (N : Nat) (n : Nat) (i : Nat) (f : Nat → Tok) : (evn tabI h54 noLoops 54 [.row 0 3 0 n, .int .i64 i, .int .i64 ((i + 1 : Nat) : Int)] [some (.row 3 N (rowT f))]).run =
  bif decide ((0 : Int) ≤ (↑i : Int) ∧ (↑i : Int) ≤ (↑(i + 1) : Int) ∧ (↑(i + 1) : Int) ≤ (↑n : Int) ∧ (↑n : Int) ≤ (↑n : Int)) then
   bif (↑i : Int) == (↑(i + 1) : Int) then
    some ((AV.row 0 3 0 n, [some (AObj.row 3 N (rowT f))]))
   else
    bif decide ((0 : Int) ≤ (↑i : Int) ∧ (↑i : Int) ≤ (↑n : Int)) then
     bif decide ((0 : Int) ≤ (↑(i + 1) : Int) ∧ (↑(i + 1) : Int) ≤ (↑n : Int)) then
      bif decide (0 + (↑(i + 1) : Int).toNat + (n - (↑(i + 1) : Int).toNat) ≤ N) then
       bif decide ((↑i : Int).toNat + (n - (↑(i + 1) : Int).toNat) ≤ N) then
        bif decide ((0 : Int) ≤ (↑((↑i : Int).toNat + (n - (↑(i + 1) : Int).toNat)) : Int) ∧ (↑((↑i : Int).toNat + (n - (↑(i + 1) : Int).toNat)) : Int) ≤ (↑n : Int) ∧ (↑n : Int) ≤ (↑N : Int)) then
         bif decide ((↑n : Int).toNat - (↑((↑i : Int).toNat + (n - (↑(i + 1) : Int).toNat)) : Int).toNat ≤ 4611686018427387903) then
          bif decide ((↑((↑i : Int).toNat + (n - (↑(i + 1) : Int).toNat)) : Int).toNat + ((↑n : Int).toNat - (↑((↑i : Int).toNat + (n - (↑(i + 1) : Int).toNat)) : Int).toNat) ≤ N) then
           some ((AV.rowc 0 3 ((↑i : Int).toNat + (n - (↑(i + 1) : Int).toNat)) N, [some (AObj.row 3 N (inF (↑((↑i : Int).toNat + (n - (↑(i + 1) : Int).toNat)) : Int).toNat ((↑n : Int).toNat - (↑((↑i : Int).toNat + (n - (↑(i + 1) : Int).toNat)) : Int).toNat) (inF (↑i : Int).toNat (n - (↑(i + 1) : Int).toNat) (rowT f) fun i_1 => rowT f (0 + (↑(i + 1) : Int).toNat + i_1)) fun x c => (List.map aconst1 (Value.agg #[Value.bool false, Value.bool false, Value.string { data := #[] }]).cells.toList).getD c AV.junk))]))
          else
           none
         else
          none
        else
         none
       else
        none
      else
       none
     else
      none
    else
     none
  else
   none := by kernel_rfl

structure X54 where
  N : Nat
  n : Nat
  i : Nat
  f : Nat → Tok

def en54 : X54 → List AV × Hp := fun ⟨N, n, i, f⟩ => ([.row 0 3 0 n, .int .i64 i, .int .i64 ((i + 1 : Nat) : Int)], [some (.row 3 N (rowT f))])

def de54 : List AV × Hp → X54
  | ([.row _ _ _ n, .int .i64 i, .int .i64 _], [some (.row _ N f_g)]) => ⟨N, n, i.toNat, unT f_g⟩
  | _ => ⟨default, default, default, default⟩

def p54 : X54 → Prop := fun ⟨N, n, i, f⟩ => i < n ∧ n ≤ N ∧ N ≤ bnd

def rs54 : X54 → T (AV × Hp) := fun ⟨N, n, i, f⟩ => .leaf (.row 0 3 0 (n - 1), [some (.row 3 N (rowT (delF f i n)))])

noncomputable def c54 : List AV → Hp → T (AV × Hp) := mcon en54 de54 p54 rs54

theorem in54 : ∀ x, de54 (en54 x) = x := by
  rintro ⟨N, n, i, f⟩
  simp only [en54, de54, Int.toNat_natCast, unT_rowT]

theorem k54 (N : Nat) (n : Nat) (i : Nat) (f : Nat → Tok) (h : i < n ∧ n ≤ N ∧ N ≤ bnd) : isEn en54 p54 ([.row 0 3 0 n, .int .i64 i, .int .i64 ((i + 1 : Nat) : Int)], [some (.row 3 N (rowT f))]) = true := isEn_true (enc := en54) (p := p54) ⟨N, n, i, f⟩ h

theorem e54 (N : Nat) (n : Nat) (i : Nat) (f : Nat → Tok) (hF : FitsL [.row 0 3 0 n, .int .i64 i, .int .i64 ((i + 1 : Nat) : Int)]) (hH : FitsH [some (.row 3 N (rowT f))]) (hp : i < n ∧ n ≤ N ∧ N ≤ bnd) : (evn tabI h54 noLoops 54 [.row 0 3 0 n, .int .i64 i, .int .i64 ((i + 1 : Nat) : Int)] [some (.row 3 N (rowT f))]).run.map (fun q => (unc q.1, q.2)) = (.leaf (.row 0 3 0 (n - 1), [some (.row 3 N (rowT (delF f i n)))]) : T (AV × Hp)).run := by
  rw [t54 N n i f]
  obtain ⟨h1, h2, h3⟩ := hp
  simp only [bnd] at h3
  have e1 : i + (n - (i + 1)) = n - 1 := by omega
  have e2 : n - (n - 1) = 1 := by omega
  rw [cond_chk (decide_eq_true (by omega)), cond_no (by simp; omega)]
  simp only [Int.toNat_natCast, Nat.zero_add, e1, e2]
  rw [cond_chk (decide_eq_true (by omega)), cond_chk (decide_eq_true (by omega)), cond_chk (decide_eq_true (by omega)), cond_chk (decide_eq_true (by omega)), cond_chk (decide_eq_true (by omega)), cond_chk (decide_eq_true (by omega)), cond_chk (decide_eq_true (by omega))]
  rw [delF_row f h1 (z := List.map aconst1 (Value.agg #[Value.bool false, Value.bool false, Value.string { data := #[] }]).cells.toList) rfl]
  rfl

theorem s54 : Sound1 Tryd.prog ⟨54, false, gcon c54⟩ := by
  refine sound_cmw (soundTab_of all_tabI) in54 (hn := h54) (m := 20) (k := 9) (Λ := noLoops) (fun _ _ i hi => anyLoopsB) ?_
  rintro ⟨N, n, i, f⟩ hp hF hH
  exact e54 N n i f hF hH hp

noncomputable def tabJ : Tab := ⟨54, false, gcon c54⟩ :: tabI

theorem all_tabJ : ∀ e, e ∈ tabJ → Sound1 Tryd.prog e := (sound_mem_tab s54 all_tabI)

theorem ok_tabJ : SoundTab Tryd.prog tabJ := soundTab_of all_tabJ

/-! ### goes -/

def goesF (f : Nat → Tok) (n i : Nat) : Bool := nullT (f i).num (f i).text && (i + 1 == n || ((f (i + 1)).dash || !(f (i + 1)).num))

theorem nat_beqI (a b : Nat) : ((a : Int) == (b : Int)) = (a == b) := by
  rw [Bool.eq_iff_iff, beq_iff_eq, beq_iff_eq]; omega

theorem t53 (N : Nat) (n : Nat) (i : Nat) (f : Nat → Tok) : (evn tabJ h53 noLoops 53 [.row 0 3 0 n, .int .i64 i] [some (.row 3 N (rowT f))]).run =
  bif decide ((0 : Int) ≤ (↑i : Int) ∧ (↑i : Int) < (↑n : Int)) then
   bif decide (0 + (↑i : Int).toNat < N) then
    bif nullT (f (0 + (↑i : Int).toNat)).num (f (0 + (↑i : Int).toNat)).text then
     bif IntKind.i64.wrap ((↑i : Int) + (1 : Int)) == (↑n : Int) then
      some ((AV.bool true, [some (AObj.row 3 N (rowT f))]))
     else
      bif decide ((0 : Int) ≤ IntKind.i64.wrap ((↑i : Int) + (1 : Int)) ∧ IntKind.i64.wrap ((↑i : Int) + (1 : Int)) < (↑n : Int)) then
       bif decide (0 + (IntKind.i64.wrap ((↑i : Int) + (1 : Int))).toNat < N) then
        bif (f (0 + (IntKind.i64.wrap ((↑i : Int) + (1 : Int))).toNat)).dash then
         some ((AV.bool true, [some (AObj.row 3 N (rowT f))]))
        else
         bif decide ((0 : Int) ≤ IntKind.i64.wrap ((↑i : Int) + (1 : Int)) ∧ IntKind.i64.wrap ((↑i : Int) + (1 : Int)) < (↑n : Int)) then
          bif decide (0 + (IntKind.i64.wrap ((↑i : Int) + (1 : Int))).toNat < N) then
           some ((AV.bool !(f (0 + (IntKind.i64.wrap ((↑i : Int) + (1 : Int))).toNat)).num, [some (AObj.row 3 N (rowT f))]))
          else
           none
         else
          none
       else
        none
      else
       none
    else
     some ((AV.bool false, [some (AObj.row 3 N (rowT f))]))
   else
    none
  else
   none := by kernel_rfl

structure X53 where
  N : Nat
  n : Nat
  i : Nat
  f : Nat → Tok

def en53 : X53 → List AV × Hp := fun ⟨N, n, i, f⟩ => ([.row 0 3 0 n, .int .i64 i], [some (.row 3 N (rowT f))])

def de53 : List AV × Hp → X53
  | ([.row _ _ _ n, .int .i64 i], [some (.row _ N f_g)]) => ⟨N, n, i.toNat, unT f_g⟩
  | _ => ⟨default, default, default, default⟩

def p53 : X53 → Prop := fun ⟨N, n, i, f⟩ => i < n ∧ n ≤ N ∧ N ≤ bnd

def rs53 : X53 → T (AV × Hp) := fun ⟨N, n, i, f⟩ => .leaf (.bool (goesF f n i), [some (.row 3 N (rowT f))])

noncomputable def c53 : List AV → Hp → T (AV × Hp) := mcon en53 de53 p53 rs53

theorem in53 : ∀ x, de53 (en53 x) = x := by
  rintro ⟨N, n, i, f⟩
  simp only [en53, de53, Int.toNat_natCast, unT_rowT]

theorem k53 (N : Nat) (n : Nat) (i : Nat) (f : Nat → Tok) (h : i < n ∧ n ≤ N ∧ N ≤ bnd) : isEn en53 p53 ([.row 0 3 0 n, .int .i64 i], [some (.row 3 N (rowT f))]) = true := isEn_true (enc := en53) (p := p53) ⟨N, n, i, f⟩ h

theorem e53 (N : Nat) (n : Nat) (i : Nat) (f : Nat → Tok) (hF : FitsL [.row 0 3 0 n, .int .i64 i]) (hH : FitsH [some (.row 3 N (rowT f))]) (hp : i < n ∧ n ≤ N ∧ N ≤ bnd) : (evn tabJ h53 noLoops 53 [.row 0 3 0 n, .int .i64 i] [some (.row 3 N (rowT f))]).run = (.leaf (.bool (goesF f n i), [some (.row 3 N (rowT f))]) : T (AV × Hp)).run := by
  refine (t53 N n i f).trans ?_
  obtain ⟨h1, h2, h3⟩ := hp
  simp only [bnd] at h3
  rw [w64n (by omega), in_row h1, nat_beqI]
  simp only [Int.toNat_natCast, Nat.zero_add, cond_true, decide_eq_true (show i < N by omega)]
  unfold goesF
  cases nullT (f i).num (f i).text with
  | false => rfl
  | true =>
    cases he : (i + 1 == n) with
    | true => rfl
    | false =>
      have : i + 1 ≠ n := by simpa using he
      rw [in_row (show i + 1 < n by omega), decide_eq_true (show i + 1 < N by omega)]
      cases (f (i + 1)).dash <;> rfl

theorem s53 : Sound1 Tryd.prog ⟨53, false, gcon c53⟩ := by
  refine sound_cm (soundTab_of all_tabJ) in53 (hn := h53) (m := 20) (k := 9) (Λ := noLoops) (fun _ _ i hi => anyLoopsB) ?_
  rintro ⟨N, n, i, f⟩ hp hF hH
  exact e53 N n i f hF hH hp

noncomputable def tabK : Tab := ⟨53, false, gcon c53⟩ :: tabJ

theorem all_tabK : ∀ e, e ∈ tabK → Sound1 Tryd.prog e := (sound_mem_tab s53 all_tabJ)

theorem ok_tabK : SoundTab Tryd.prog tabK := soundTab_of all_tabK
end Go.Mvs
namespace Go.Mvs

open Go Go.Proofs Go.Ab

set_option maxRecDepth 100000

set_option linter.unusedVariables false

set_option linter.unusedSimpArgs false

/-! ### trimmed -/

/-- What the backward loop leaves. -/
def trimP : Nat → (Nat → Tok) → Nat → (Nat → Tok) × Nat
  | 0, f, n => (f, n)
  | k + 1, f, n => if goesF f n k = true then trimP k (delF f k n) (n - 1) else trimP k f n

/-- Does a token go, of the first k? -/
def anyG (f : Nat → Tok) (n : Nat) : Nat → Bool
  | 0 => false
  | k + 1 => goesF f n k || anyG f n k

theorem trimP_le : ∀ (k : Nat) (f : Nat → Tok) (n : Nat), (trimP k f n).2 ≤ n
  | 0, f, n => Nat.le_refl _
  | k + 1, f, n => by
    unfold trimP
    split
    · exact Nat.le_trans (trimP_le k _ _) (Nat.sub_le _ _)
    · exact trimP_le k f n

theorem trimP_same : ∀ (k : Nat) (f : Nat → Tok) (n : Nat), k ≤ n → (trimP k f n).2 = n → (trimP k f n).1 = f ∧ anyG f n k = false
  | 0, f, n, _, _ => ⟨rfl, rfl⟩
  | k + 1, f, n, h, he => by
    unfold trimP at he ⊢
    unfold anyG
    split at he
    · have := trimP_le k (delF f k n) (n - 1)
      omega
    · rename_i hg
      rw [if_neg hg]
      have := trimP_same k f n (by omega) he
      exact ⟨this.1, by simp only [this.2, Bool.or_false]; simpa using hg⟩

theorem trimP_lt {f : Nat → Tok} {n : Nat} (h : anyG (trimP n f n).1 (trimP n f n).2 (trimP n f n).2 = true) : (trimP n f n).2 < n := by
  have h1 := trimP_le n f n
  rcases Nat.lt_or_ge (trimP n f n).2 n with hl | hg
  · exact hl
  · have he : (trimP n f n).2 = n := by omega
    have := trimP_same n f n (Nat.le_refl _) he
    rw [he, this.1, this.2] at h
    cases h

/-- What trimmed leaves, by fuel. -/
def trimR : Nat → (Nat → Tok) → Nat → (Nat → Tok) × Nat
  | 0, f, n => (f, n)
  | K + 1, f, n => if anyG (trimP n f n).1 (trimP n f n).2 (trimP n f n).2 = true then trimR K (trimP n f n).1 (trimP n f n).2 else trimP n f n

def undash (f : Nat → Tok) : Nat → Tok := fun i => if i = 0 then ⟨false, (f 0).num, (f 0).text⟩ else f i

def oneZ : Nat → Tok := fun i => if i = 0 then ⟨false, true, [48]⟩ else default

structure X41 where
  N : Nat
  n : Nat
  f : Nat → Tok

def en41 : X41 → List AV × Hp := fun ⟨N, n, f⟩ => ([.row 0 3 0 n], [some (.row 3 N (rowT f))])

def de41 : List AV × Hp → X41
  | ([.row _ _ _ n], [some (.row _ N g)]) => ⟨N, n, unT g⟩
  | _ => ⟨0, 0, fun _ => default⟩

def p41 (K : Nat) : X41 → Prop := fun ⟨N, n, f⟩ => n < K ∧ n ≤ N ∧ N ≤ bnd

noncomputable def rs41 (K : Nat) : X41 → T (AV × Hp) := fun ⟨N, n, f⟩ => .br (Nat.beq (trimR K f n).2 0) (.leaf (.row 1 3 0 1, [some (.row 3 N (rowT (trimR K f n).1)), some (.row 3 1 (rowT oneZ))]))
  (.leaf (.row 0 3 0 (trimR K f n).2, [some (.row 3 N (rowT (undash (trimR K f n).1)))]))

noncomputable def c41 (K : Nat) : List AV → Hp → T (AV × Hp) := mcon en41 de41 (p41 K) (rs41 K)

theorem in41 : ∀ x, de41 (en41 x) = x := by
  rintro ⟨N, n, f⟩
  simp only [en41, de41, unT_rowT]

theorem k41 (K : Nat) (N n : Nat) (f : Nat → Tok) (h : n < K ∧ n ≤ N ∧ N ≤ bnd) : isEn en41 (p41 K) ([.row 0 3 0 n], [some (.row 3 N (rowT f))]) = true := isEn_true (enc := en41) (p := p41 K) ⟨N, n, f⟩ h

noncomputable def tabL (K : Nat) : Tab := ⟨41, false, gcon (c41 K)⟩ :: tabK

structure Y41 where
  N : Nat
  n : Nat
  f : Nat → Tok
  k : Nat

def eL41 : Y41 → List AV × Hp := fun ⟨N, n, f, k⟩ => ([.row 0 3 0 n, .int .i64 ((k : Int) - 1)], [some (.row 3 N (rowT f))])

def dL41 : List AV × Hp → Y41
  | ([.row _ _ _ n, .int .i64 k], [some (.row _ N f_g)]) => ⟨N, n, unT f_g, (k + 1).toNat⟩
  | _ => ⟨default, default, default, default⟩

def pL41 : Y41 → Prop := fun ⟨N, n, f, k⟩ => k ≤ n ∧ n ≤ N ∧ N ≤ bnd

def rL41 : Y41 → T (AX × St) := fun ⟨N, n, f, k⟩ => .leaf (.exit 0, { tm := tmOf 41 [(0, .row 0 3 0 (trimP k f n).2), (3, .int .i64 (-1)), (9, .bool false)], ms := [], hp := [some (.row 3 N (rowT (trimP k f n).1))] })

noncomputable def LA41 : LoopT := fun k => match Nat.beq k 200030 with
  | true => some (lccon (mbits 9 41) eL41 dL41 pL41 rL41)
  | false => none

theorem iL41 : ∀ x, dL41 (eL41 x) = x := by
  rintro ⟨N, n, f, k⟩
  simp only [eL41, dL41, Int.toNat_natCast, unT_rowT, Int.sub_add_cancel]

theorem kL41 (N : Nat) (n : Nat) (f : Nat → Tok) (k : Nat) (h : k ≤ n ∧ n ≤ N ∧ N ≤ bnd) : isEn eL41 pL41 ([.row 0 3 0 n, .int .i64 ((k : Int) - 1)], [some (.row 3 N (rowT f))]) = true := isEn_true (enc := eL41) (p := pL41) ⟨N, n, f, k⟩ h

theorem q41 (K : Nat) (N : Nat) (n : Nat) (f : Nat → Tok) (k : Nat) : (rdn (tabL K) h41 LA41 41 1 0 { tm := encGo (mbits 9 41) [.row 0 3 0 n, .int .i64 ((k : Int) - 1)], ms := [], hp := [some (.row 3 N (rowT f))] }).run =
  bif decide ((↑k : Int) - (1 : Int) ≥ (0 : Int)) then
   bif isEn en53 p53 ([AV.row 0 3 0 n, AV.int IntKind.i64 ((↑k : Int) - (1 : Int))], [some (AObj.row 3 N (rowT f))]) then
    bif goesF (unT (rowT f)) n ((↑k : Int) - (1 : Int)).toNat then
     bif isEn en54 p54 ([AV.row 0 3 0 n, AV.int IntKind.i64 ((↑k : Int) - (1 : Int)), AV.int IntKind.i64 (IntKind.i64.wrap ((↑k : Int) - (1 : Int) + (1 : Int)))], [some (AObj.row 3 N (rowT (unT (rowT f))))]) then
      some ((AX.normal, { tm := tmOf 41 [(0, AV.row 0 3 0 (n - 1)), (3, AV.int IntKind.i64 (IntKind.i64.wrap ((↑k : Int) - (1 : Int) - (1 : Int))))], ms := [], hp := [some (AObj.row 3 N (rowT (delF (unT (rowT (unT (rowT f)))) ((↑k : Int) - (1 : Int)).toNat n)))] }))
     else
      none
    else
     some ((AX.normal, { tm := tmOf 41 [(0, AV.row 0 3 0 n), (3, AV.int IntKind.i64 (IntKind.i64.wrap ((↑k : Int) - (1 : Int) - (1 : Int))))], ms := [], hp := [some (AObj.row 3 N (rowT (unT (rowT f))))] }))
   else
    none
  else
   some ((AX.exit 0, { tm := tmOf 41 [(0, AV.row 0 3 0 n), (3, AV.int IntKind.i64 ((↑k : Int) - (1 : Int))), (9, AV.bool false)], ms := [], hp := [some (AObj.row 3 N (rowT f))] })) := by kernel_rfl

theorem l41 (K : Nat) : LoopOk Tryd.prog (tabL K).pf (fun n => hd Tryd.prog (tabL K).pf (tabL K).con.run (fun f => (H0 f).to) n 9) h41.to 41 1 none LA41 (loopAt Tryd.prog 41 0) := by
  rw [show loopAt Tryd.prog 41 0 = .loop (lbody Tryd.prog 41 0) by kernel_rfl]
  refine loop_c (hdT_le (m := 20) 9) (m := 20) (lv := mbits 9 41) (p := pL41) (res := rL41) iL41 (within_of _ (by rw [show loopsOf (lbody Tryd.prog 41 0) = [] by kernel_rfl]; simp)) (by kernel_rfl) (fun ⟨N, n, f, k⟩ => k) ?_
  rintro ⟨N, n, f, k⟩ hp
  have ht := q41 K N n f k
  obtain ⟨h1, h2, h3⟩ := hp
  have hb := h3
  simp only [bnd] at hb
  rcases k with _ | k
  · right
    rw [decide_eq_false (by omega)] at ht
    refine ⟨_, ?_, ?_, ht⟩
    · simp
    · rfl
  · left
    have e1 : (((k + 1 : Nat) : Int) - 1) = (k : Int) := by omega
    rw [decide_eq_true (by omega), e1, k53 N n k f ⟨by omega, h2, h3⟩, w64n (by omega), unT_rowT, k54 N n k f ⟨by omega, h2, h3⟩, show IntKind.i64.wrap ((k : Int) - 1) = (k : Int) - 1 from w64 (by omega) (by omega)] at ht
    simp only [Int.toNat_natCast, cond_true, unT_rowT] at ht
    have he : eL41 ⟨N, n, f, k + 1⟩ = ([.row 0 3 0 n, .int .i64 (k : Int)], [some (.row 3 N (rowT f))]) := by simp only [eL41, e1]
    rw [he]
    cases hg : goesF f n k with
    | true =>
      rw [hg, cond_true] at ht
      refine ⟨⟨N, n - 1, delF f k n, k⟩, ⟨by omega, by omega, h3⟩, by simp only; omega, ?_, ht⟩
      simp only [rL41, T.run_leaf, trimP, if_pos hg]
    | false =>
      rw [hg, cond_false] at ht
      refine ⟨⟨N, n, f, k⟩, ⟨by omega, h2, h3⟩, by simp only; omega, ?_, ht⟩
      simp only [rL41, T.run_leaf, trimP, if_neg (show ¬ goesF f n k = true by rw [hg]; simp)]

noncomputable def retR (K N n : Nat) (f : Nat → Tok) : T (AX × St) := .br (Nat.beq (trimR K f n).2 0) (.leaf (.ret, { tm := tmOf 41 [(2, .row 1 3 0 1)], ms := [], hp := [some (.row 3 N (rowT (trimR K f n).1)), some (.row 3 1 (rowT oneZ))] }))
  (.leaf (.ret, { tm := tmOf 41 [(2, .row 0 3 0 (trimR K f n).2)], ms := [], hp := [some (.row 3 N (rowT (undash (trimR K f n).1)))] }))

theorem anyG_of {f : Nat → Tok} {n j : Nat} (h : goesF f n j = true) : ∀ {m : Nat}, j < m → anyG f n m = true
  | 0, hj => absurd hj (Nat.not_lt_zero _)
  | m + 1, hj => by
    unfold anyG
    rcases Nat.lt_or_ge j m with hl | hg
    · rw [anyG_of h hl, Bool.or_true]
    · obtain rfl : j = m := by omega
      rw [h, Bool.true_or]

def pLB (K : Nat) : Y41 → Prop := fun ⟨N, n, f, k⟩ => k ≤ n ∧ (anyG f n n = true → n < K) ∧ n ≤ N ∧ N ≤ bnd

noncomputable def rLB (K : Nat) : Y41 → T (AX × St) := fun ⟨N, n, f, k⟩ => .br (anyG f n k) (retR K N n f) (.leaf (.exit 2, { tm := tmOf 41 [(0, .row 0 3 0 n), (4, .int .i64 (-1)), (24, .bool false)], ms := [], hp := [some (.row 3 N (rowT f))] }))

noncomputable def LB41 (K : Nat) : LoopT := fun k => match Nat.beq k 700027 with
  | true => some (lccon (mbits 17 41) eL41 dL41 (pLB K) (rLB K))
  | false => LA41 k

theorem kLB (K N n : Nat) (f : Nat → Tok) (k : Nat) (h : k ≤ n ∧ (anyG f n n = true → n < K) ∧ n ≤ N ∧ N ≤ bnd) : isEn eL41 (pLB K) ([.row 0 3 0 n, .int .i64 ((k : Int) - 1)], [some (.row 3 N (rowT f))]) = true := isEn_true (enc := eL41) (p := pLB K) ⟨N, n, f, k⟩ h

theorem q41_1 (K N n k : Nat) (f : Nat → Tok) : (rdn (tabL K) h41 (LB41 K) 41 1 1 { tm := encGo (mbits 17 41) [.row 0 3 0 n, .int .i64 ((k : Int) - 1)], ms := [], hp := [some (.row 3 N (rowT f))] }).run =
  bif decide ((↑k : Int) - (1 : Int) ≥ (0 : Int)) then
   bif isEn en53 p53 ([AV.row 0 3 0 n, AV.int IntKind.i64 ((↑k : Int) - (1 : Int))], [some (AObj.row 3 N (rowT f))]) then
    bif goesF (unT (rowT f)) n ((↑k : Int) - (1 : Int)).toNat then
     bif isEn en41 (p41 K) ([AV.row 0 3 0 n], [some (AObj.row 3 N (rowT (unT (rowT f))))]) then
      bif (trimR K (unT (rowT (unT (rowT f)))) n).snd.beq 0 then
       some ((AX.ret, { tm := tmOf 41 [(2, AV.row 1 3 0 1)], ms := [], hp := [some (AObj.row 3 N (rowT (trimR K (unT (rowT (unT (rowT f)))) n).fst)), some (AObj.row 3 1 (rowT oneZ))] }))
      else
       some ((AX.ret, { tm := tmOf 41 [(2, AV.row 0 3 0 (trimR K (unT (rowT (unT (rowT f)))) n).snd)], ms := [], hp := [some (AObj.row 3 N (rowT (undash (trimR K (unT (rowT (unT (rowT f)))) n).fst)))] }))
     else
      none
    else
     some ((AX.normal, { tm := tmOf 41 [(0, AV.row 0 3 0 n), (4, AV.int IntKind.i64 (IntKind.i64.wrap ((↑k : Int) - (1 : Int) - (1 : Int))))], ms := [], hp := [some (AObj.row 3 N (rowT (unT (rowT f))))] }))
   else
    none
  else
   some ((AX.exit 2, { tm := tmOf 41 [(0, AV.row 0 3 0 n), (4, AV.int IntKind.i64 ((↑k : Int) - (1 : Int))), (24, AV.bool false)], ms := [], hp := [some (AObj.row 3 N (rowT f))] })) := by kernel_rfl

theorem l41_1 (K : Nat) : LoopOk Tryd.prog (tabL K).pf (fun n => hd Tryd.prog (tabL K).pf (tabL K).con.run (fun f => (H0 f).to) n 9) h41.to 41 1 none (LB41 K) (loopAt Tryd.prog 41 1) := by
  rw [show loopAt Tryd.prog 41 1 = .loop (lbody Tryd.prog 41 1) by kernel_rfl]
  refine loop_c (hdT_le (m := 20) 9) (m := 20) (lv := mbits 17 41) (p := pLB K) (res := rLB K) iL41 (within_of _ (by rw [show loopsOf (lbody Tryd.prog 41 1) = [] by kernel_rfl]; simp)) (by kernel_rfl) (fun ⟨N, n, f, k⟩ => k) ?_
  rintro ⟨N, n, f, k⟩ hp
  have ht := q41_1 K N n k f
  obtain ⟨h1, h0, h2, h3⟩ := hp
  have hb := h3
  simp only [bnd] at hb
  rcases k with _ | k
  · right
    rw [decide_eq_false (by omega)] at ht
    refine ⟨_, ?_, ?_, ht⟩
    · simp
    · rfl
  · have e1 : (((k + 1 : Nat) : Int) - 1) = (k : Int) := by omega
    have he : eL41 ⟨N, n, f, k + 1⟩ = ([.row 0 3 0 n, .int .i64 (k : Int)], [some (.row 3 N (rowT f))]) := by simp only [eL41, e1]
    rw [he]
    rw [decide_eq_true (by omega), e1, k53 N n k f ⟨by omega, h2, h3⟩, unT_rowT, show IntKind.i64.wrap ((k : Int) - 1) = (k : Int) - 1 from w64 (by omega) (by omega)] at ht
    simp only [Int.toNat_natCast, cond_true, unT_rowT] at ht
    cases hg : goesF f n k with
    | true =>
      rw [hg, cond_true, k41 K N n f ⟨h0 (anyG_of hg (by omega)), h2, h3⟩, cond_true] at ht
      right
      have hr : (rLB K ⟨N, n, f, k + 1⟩).run = (retR K N n f).run := by
        simp only [rLB, T.run_br, anyG, hg, Bool.true_or, if_true]
      rw [hr]
      cases hz : (trimR K f n).2.beq 0 with
      | true =>
        rw [hz, cond_true] at ht
        refine ⟨_, ?_, ?_, ht⟩
        · simp
        · simp only [retR, T.run_br, hz, if_true, T.run_leaf]
      | false =>
        rw [hz, cond_false] at ht
        refine ⟨_, ?_, ?_, ht⟩
        · simp
        · simp only [retR, T.run_br, hz, T.run_leaf] <;> rfl
    | false =>
      rw [hg, cond_false] at ht
      left
      refine ⟨⟨N, n, f, k⟩, ⟨by omega, h0, h2, h3⟩, by simp only; omega, ?_, ht⟩
      simp only [rLB, T.run_br, anyG, hg, Bool.false_or]

theorem t41 (K N n : Nat) (f : Nat → Tok) : (evn (tabL K) h41 (LB41 K) 41 [.row 0 3 0 n] [some (.row 3 N (rowT f))]).run =
  bif isEn eL41 pL41 ([AV.row 0 3 0 n, AV.int IntKind.i64 (IntKind.i64.wrap ((↑n : Int) - (1 : Int)))], [some (AObj.row 3 N (rowT f))]) then
   bif isEn eL41 (pLB K) ([AV.row 0 3 0 (trimP (IntKind.i64.wrap ((↑n : Int) - (1 : Int)) + (1 : Int)).toNat (unT (rowT f)) n).snd, AV.int IntKind.i64 (IntKind.i64.wrap ((↑(trimP (IntKind.i64.wrap ((↑n : Int) - (1 : Int)) + (1 : Int)).toNat (unT (rowT f)) n).snd : Int) - (1 : Int)))], [some (AObj.row 3 N (rowT (trimP (IntKind.i64.wrap ((↑n : Int) - (1 : Int)) + (1 : Int)).toNat (unT (rowT f)) n).fst))]) then
    bif anyG (unT (rowT (trimP (IntKind.i64.wrap ((↑n : Int) - (1 : Int)) + (1 : Int)).toNat (unT (rowT f)) n).fst)) (trimP (IntKind.i64.wrap ((↑n : Int) - (1 : Int)) + (1 : Int)).toNat (unT (rowT f)) n).snd (IntKind.i64.wrap ((↑(trimP (IntKind.i64.wrap ((↑n : Int) - (1 : Int)) + (1 : Int)).toNat (unT (rowT f)) n).snd : Int) - (1 : Int)) + (1 : Int)).toNat then
     bif (trimR K (unT (rowT (trimP (IntKind.i64.wrap ((↑n : Int) - (1 : Int)) + (1 : Int)).toNat (unT (rowT f)) n).fst)) (trimP (IntKind.i64.wrap ((↑n : Int) - (1 : Int)) + (1 : Int)).toNat (unT (rowT f)) n).snd).snd.beq 0 then
      some ((AV.row 1 3 0 1, [some (AObj.row 3 N (rowT (trimR K (unT (rowT (trimP (IntKind.i64.wrap ((↑n : Int) - (1 : Int)) + (1 : Int)).toNat (unT (rowT f)) n).fst)) (trimP (IntKind.i64.wrap ((↑n : Int) - (1 : Int)) + (1 : Int)).toNat (unT (rowT f)) n).snd).fst)), some (AObj.row 3 1 (rowT oneZ))]))
     else
      some ((AV.row 0 3 0 (trimR K (unT (rowT (trimP (IntKind.i64.wrap ((↑n : Int) - (1 : Int)) + (1 : Int)).toNat (unT (rowT f)) n).fst)) (trimP (IntKind.i64.wrap ((↑n : Int) - (1 : Int)) + (1 : Int)).toNat (unT (rowT f)) n).snd).snd, [some (AObj.row 3 N (rowT (undash (trimR K (unT (rowT (trimP (IntKind.i64.wrap ((↑n : Int) - (1 : Int)) + (1 : Int)).toNat (unT (rowT f)) n).fst)) (trimP (IntKind.i64.wrap ((↑n : Int) - (1 : Int)) + (1 : Int)).toNat (unT (rowT f)) n).snd).fst)))]))
    else
     bif (↑(trimP (IntKind.i64.wrap ((↑n : Int) - (1 : Int)) + (1 : Int)).toNat (unT (rowT f)) n).snd : Int) == (0 : Int) then
      some ((AV.row 1 3 0 1, [some (AObj.row 3 N (rowT (unT (rowT (trimP (IntKind.i64.wrap ((↑n : Int) - (1 : Int)) + (1 : Int)).toNat (unT (rowT f)) n).fst)))), some (AObj.row 3 1 (rowF 3 (over (List.map (fun i => (List.map aconst1 (Value.agg #[Value.bool false, Value.bool false, Value.string { data := #[] }]).cells.toList).getD (i % 3) AV.junk) (List.range 3)) 0 [AV.bool false, AV.bool true, AV.str [(48 : UInt8)]])))]))
     else
      bif decide ((0 : Int) ≤ (0 : Int) ∧ (0 : Int) < (↑(trimP (IntKind.i64.wrap ((↑n : Int) - (1 : Int)) + (1 : Int)).toNat (unT (rowT f)) n).snd : Int)) then
       bif decide (0 < N) then
        some ((AV.row 0 3 0 (trimP (IntKind.i64.wrap ((↑n : Int) - (1 : Int)) + (1 : Int)).toNat (unT (rowT f)) n).snd, [some (AObj.row 3 N (updf 3 (rowT (unT (rowT (trimP (IntKind.i64.wrap ((↑n : Int) - (1 : Int)) + (1 : Int)).toNat (unT (rowT f)) n).fst))) 0 0 [AV.bool false]))]))
       else
        none
      else
       none
   else
    none
  else
   none := by kernel_rfl

theorem undash_row (g : Nat → Tok) : ∀ i c, c < 3 → updf 3 (rowT g) 0 0 [.bool false] i c = rowT (undash g) i c := by
  intro i c hc
  unfold updf undash
  rcases i with _ | i
  · match c, hc with
    | 0, _ => rfl
    | 1, _ => rfl
    | 2, _ => rfl
  · match c, hc with
    | 0, _ => rfl
    | 1, _ => rfl
    | 2, _ => rfl

theorem oneZ_row {l : List AV} (hl : l = [.bool false, .bool true, .str [48]]) : ∀ i c, i < 1 → c < 3 → rowF 3 l i c = rowT oneZ i c := by
  intro i c hi hc
  obtain rfl : i = 0 := by omega
  subst hl
  match c, hc with
  | 0, _ => rfl
  | 1, _ => rfl
  | 2, _ => rfl

theorem e41 (K N n : Nat) (f : Nat → Tok) (hp : n < K + 1 ∧ n ≤ N ∧ N ≤ bnd) :
    ∃ q r, (evn (tabL K) h41 (LB41 K) 41 [.row 0 3 0 n] [some (.row 3 N (rowT f))]).run = some q ∧ (rs41 (K + 1) ⟨N, n, f⟩).run = some r ∧ ResW q r := by
  obtain ⟨h1, h2, h3⟩ := hp
  have hb := h3
  simp only [bnd] at hb
  have ht := t41 K N n f
  have hlt := trimP_lt (f := f) (n := n)
  have hle := trimP_le n f n
  have hr : trimR (K + 1) f n = if anyG (trimP n f n).1 (trimP n f n).2 (trimP n f n).2 = true then trimR K (trimP n f n).1 (trimP n f n).2 else trimP n f n := rfl
  rw [show IntKind.i64.wrap ((n : Int) - 1) = (n : Int) - 1 from w64 (by omega) (by omega), unT_rowT, show ((n : Int) - 1 + 1).toNat = n by omega, kL41 N n f n ⟨Nat.le_refl _, h2, h3⟩, cond_true] at ht
  have e0 : trimP n f n = ((trimP n f n).1, (trimP n f n).2) := rfl
  revert ht hlt hle hr
  rw [e0]
  generalize (trimP n f n).1 = g
  generalize (trimP n f n).2 = m
  intro ht hlt hle hr
  rw [show IntKind.i64.wrap ((m : Int) - 1) = (m : Int) - 1 from w64 (by omega) (by omega), unT_rowT, show ((m : Int) - 1 + 1).toNat = m by omega, kLB K N m g m ⟨Nat.le_refl _, fun h => by have := hlt h; omega, by omega, h3⟩, cond_true] at ht
  show ∃ q r, _ ∧ (T.br (Nat.beq (trimR (K + 1) f n).2 0) _ _).run = some r ∧ _
  rw [hr]
  cases ha : anyG g m m with
  | true =>
    rw [ha, cond_true] at ht
    rw [if_pos rfl]
    cases hz : (trimR K g m).2.beq 0 with
    | true =>
      rw [hz, cond_true] at ht
      exact ⟨_, _, ht, rfl, ResW.refl _ rfl⟩
    | false =>
      rw [hz, cond_false] at ht
      exact ⟨_, _, ht, rfl, ResW.refl _ rfl⟩
  | false =>
    rw [ha, cond_false] at ht
    rw [if_neg (by simp)]
    rcases m with _ | m
    · rw [show (((0 : Nat) : Int) == 0) = true from rfl, cond_true] at ht
      exact ⟨_, _, ht, rfl, rfl, HpW.cons (OW.refl _) (HpW.cons (OW.row (oneZ_row rfl)) (HpW.refl _))⟩
    · rw [show (((m + 1 : Nat) : Int) == 0) = false by rw [Bool.eq_false_iff]; simp; omega, cond_false, decide_eq_true (by omega), cond_true, decide_eq_true (by omega), cond_true] at ht
      exact ⟨_, _, ht, rfl, rfl, HpW.cons (OW.row fun i c _ hc => undash_row g i c hc) (HpW.refl _)⟩

theorem twoLoops {f : FuncId} {Φ : Nat → Prop} (h : (loopsOf (bodyOf Tryd.prog f)).length = 2) (h0 : Φ 0) (h1 : Φ 1) : ∀ i, i < (loopsOf (bodyOf Tryd.prog f)).length → Φ i := fun i hi => by
  rcases (by omega : i = 0 ∨ i = 1) with rfl | rfl
  · exact h0
  · exact h1

theorem s41n : ∀ K : Nat, Sound1 Tryd.prog ⟨41, false, gcon (c41 K)⟩
  | 0 => by
    refine sound_mem ok_tabK (hn := h41) (m := 20) (k := 9) (Λ := noLoops) (fun _ _ _ _ _ i hi => anyLoopsB) fun args hs r hs' hF hH hr => ?_
    obtain ⟨⟨N, n, f⟩, _, hp, _⟩ := ccon_run in41 hr
    obtain ⟨h1, h2, _⟩ := hp
    omega
  | K + 1 => by
    refine sound_cmW (soundTab_of (sound_mem_tab (s41n K) all_tabK)) in41 (hn := h41) (m := 20) (k := 9) (Λ := LB41 K) (fun x _ => twoLoops (by kernel_rfl) (l41 K) (l41_1 K)) ?_
    rintro ⟨N, n, f⟩ hp hF hH
    exact e41 K N n f hp

def pS41 : X41 → Prop := fun ⟨N, n, f⟩ => n ≤ N ∧ N ≤ bnd

/-- What trimmed leaves. -/
def trimA (f : Nat → Tok) (n : Nat) : (Nat → Tok) × Nat := trimR (n + 1) f n

noncomputable def rsS41 : X41 → T (AV × Hp) := fun ⟨N, n, f⟩ => .br (Nat.beq (trimA f n).2 0) (.leaf (.row 1 3 0 1, [some (.row 3 N (rowT (trimA f n).1)), some (.row 3 1 (rowT oneZ))]))
  (.leaf (.row 0 3 0 (trimA f n).2, [some (.row 3 N (rowT (undash (trimA f n).1)))]))

noncomputable def cS41 : List AV → Hp → T (AV × Hp) := mcon en41 de41 pS41 rsS41

theorem kS41 (N n : Nat) (f : Nat → Tok) (h : n ≤ N ∧ N ≤ bnd) : isEn en41 pS41 ([.row 0 3 0 n], [some (.row 3 N (rowT f))]) = true := isEn_true (enc := en41) (p := pS41) ⟨N, n, f⟩ h

theorem sS41 : Sound1 Tryd.prog ⟨41, false, gcon cS41⟩ := by
  refine sound_all s41n fun args hs r hr => ?_
  obtain ⟨⟨N, n, f⟩, he, ⟨h1, h2⟩, hr2⟩ := ccon_run in41 hr
  refine ⟨n + 1, ?_⟩
  show (ccon en41 de41 (p41 (n + 1)) (rs41 (n + 1)) (args, hs)).run = some r
  rw [he]
  unfold ccon
  have hi : isEn en41 (p41 (n + 1)) (en41 ⟨N, n, f⟩) = true := isEn_true _ ⟨Nat.lt_succ_self _, h1, h2⟩
  rw [T.run_chk, if_pos hi, in41]
  exact hr2

/-! ### trimmed, of any row -/
open Classical in
noncomputable def wkT (c : List AV → Hp → T (AV × Hp)) : List AV → Hp → T (AV × Hp) := fun args hs => match hs with
  | [some (.row sz N g)] => .chk (decide (sz = 3 ∧ ∀ i c, i < N → c < 3 → g i c = rowT (unT g) i c)) (c args [some (.row 3 N (rowT (unT g)))])
  | _ => .fail

theorem wkT_run {c : List AV → Hp → T (AV × Hp)} {args : List AV} {hs : Hp} {r : AV × Hp} (h : (wkT c args hs).run = some r) :
    ∃ N g, hs = [some (.row 3 N g)] ∧ (∀ i c, i < N → c < 3 → g i c = rowT (unT g) i c) ∧ (c args [some (.row 3 N (rowT (unT g)))]).run = some r := by
  unfold wkT at h
  split at h
  · rw [T.run_chk] at h
    split at h
    · rename_i hc
      simp only [decide_eq_true_eq] at hc
      obtain ⟨rfl, hc⟩ := hc
      exact ⟨_, _, rfl, hc, h⟩
    · cases h
  · cases h

theorem s41v (K : Nat) : Sound1 Tryd.prog ⟨41, false, gcon (wkT (c41 (K + 1)))⟩ := by
  refine sound_memV (soundTab_of (sound_mem_tab (s41n K) all_tabK)) (hn := h41) (m := 20) (k := 9) (Λ := LB41 K) (fun args hs r hs' hr => ?_) fun args hs r hs' hF hr => ?_
  · obtain ⟨N, g, rfl, _, _⟩ := wkT_run hr
    exact twoLoops (by kernel_rfl) (l41 K) (l41_1 K)
  · obtain ⟨N, g, rfl, hg, hr⟩ := wkT_run hr
    obtain ⟨⟨N', n, f⟩, he, hp, h2⟩ := ccon_run in41 hr
    simp only [en41, Prod.mk.injEq, List.cons.injEq, Option.some.injEq, AObj.row.injEq, true_and, and_true] at he
    obtain ⟨rfl, rfl, hf⟩ := he
    obtain ⟨q, r0, h3, h4, h5⟩ := e41 K N n f hp
    rw [h4] at h2
    injection h2 with h2
    subst h2
    refine ⟨[some (.row 3 N (rowT f))], q, HpW.cons (OW.row fun i c hi hc => ?_) (HpW.refl _), h3, h5⟩
    rw [hg i c hi hc, hf]

theorem s41w : Sound1 Tryd.prog ⟨41, false, gcon (wkT cS41)⟩ := by
  refine sound_all (fun n => s41v n) fun args hs r hr => ?_
  obtain ⟨N, g, rfl, hg, hr⟩ := wkT_run hr
  obtain ⟨⟨N', n, f⟩, he, ⟨h1, h2⟩, hr2⟩ := ccon_run in41 hr
  refine ⟨n, ?_⟩
  unfold wkT
  simp only
  rw [T.run_chk, if_pos (by simp only [decide_eq_true_eq]; exact ⟨trivial, hg⟩)]
  show (ccon en41 de41 (p41 (n + 1)) (rs41 (n + 1)) (args, _)).run = some r
  rw [he]
  unfold ccon
  have hi : isEn en41 (p41 (n + 1)) (en41 ⟨N', n, f⟩) = true := isEn_true _ ⟨Nat.lt_succ_self _, h1, h2⟩
  rw [T.run_chk, if_pos hi, in41]
  exact hr2

noncomputable def tabM : Tab := ⟨41, false, gcon (wkT cS41)⟩ :: tabI

theorem all_tabM : ∀ e, e ∈ tabM → Sound1 Tryd.prog e := sound_mem_tab s41w all_tabI
end Go.Mvs

/- Lemmas for the claims of this seat (a verified symbolic evaluator, and contracts of functions): own work; no condition. -/
import Derived.Test.YtbpfgbdibjlgjaaDoorFnA
import Derived.Test.YtbpfgbdibjlgjaaDoorEvD
namespace Go.Deb

open Go Go.Proofs Go.Ab

set_option linter.unusedVariables false

set_option linter.unusedSimpArgs false

def tabG : Tab := ⟨40, true, pcon c40⟩ :: tabF

theorem sound_mem_tab {P : Program} {e : Con} {t : Tab} (he : Sound1 P e) (ht : ∀ x, x ∈ t → Sound1 P x) : ∀ x, x ∈ e :: t → Sound1 P x := by
  intro x hx
  rcases List.mem_cons.1 hx with rfl | hx
  · exact he
  · exact ht x hx

theorem allF : ∀ e, e ∈ tabF → Sound1 Tryd.prog e := by
  simp only [tabF, List.mem_cons, List.not_mem_nil, or_false]
  rintro e (rfl | rfl | rfl | rfl | rfl | rfl | rfl | rfl | rfl | rfl | rfl | rfl | rfl | rfl)
  · exact s59
  · exact s60
  · exact s36
  · exact s29
  · exact s42
  · exact s33
  · exact s28
  · exact s41
  · exact s30
  · exact s62
  · exact s72
  · exact s71
  · exact s67
  · exact s31

theorem allG : ∀ e, e ∈ tabG → Sound1 Tryd.prog e := sound_mem_tab s40 allF

theorem okG : SoundTab Tryd.prog tabG := soundTab_of allG

/-! ### deb.next -/

def nonL (l : List UInt8) : Nat := (l.takeWhile fun b => !digB b).length

def kN (s : List UInt8) (k : Int) : Int := k + nonL (s.drop k.toNat)

def o39 (s : List UInt8) (a k : Int) : AX × St := (.exit 0, { tm := tmOf 34 [(0, AV.str s), (1, .int .i64 a), (7, .int .i64 (kN s k)), (19, .bool false)], ms := [], hp := [] })

def p39 (x : List UInt8 × Int × Int) : Prop := 0 ≤ x.2.2 ∧ x.2.2 ≤ x.1.length ∧ x.1.length ≤ bnd

def e39 (x : List UInt8 × Int × Int) : List AV × Hp := ([.str x.1, .int .i64 x.2.1, .int .i64 x.2.2], [])

def D39 : List AV → Hp → T (AX × St)
  | [.str s, .int .i64 a, .int .i64 k], [] => .chk (decide (0 ≤ k ∧ k ≤ s.length ∧ s.length ≤ bnd)) (.leaf (o39 s a k))
  | _, _ => .fail

def L39 : LoopT := fun k => match Nat.beq k 200022 with
  | true => some (lcon (mbits 131 34) D39)
  | false => none

theorem r39 (s : List UInt8) (a k : Int) : (rdn tabG h39 L39 39 0 0 { tm := encGo (mbits 131 34) [.str s, .int .i64 a, .int .i64 k], ms := [], hp := [] }).run =
  bif decide (k < (↑s.length : Int)) then
   bif decide ((0 : Int) ≤ k ∧ k < (↑s.length : Int)) then
    bif !isC (1 : Int) (↑(s.getD k.toNat (0 : UInt8)).toNat : Int) then
     some ((AX.normal, { tm := tmOf 34 [(0, AV.str s), (1, AV.int IntKind.i64 a), (7, AV.int IntKind.i64 (IntKind.i64.wrap (k + (1 : Int))))], ms := [], hp := [] }))
    else
     some ((AX.exit 0, { tm := tmOf 34 [(0, AV.str s), (1, AV.int IntKind.i64 a), (7, AV.int IntKind.i64 k), (19, AV.bool false)], ms := [], hp := [] }))
   else
    none
  else
   some ((AX.exit 0, { tm := tmOf 34 [(0, AV.str s), (1, AV.int IntKind.i64 a), (7, AV.int IntKind.i64 k), (19, AV.bool false)], ms := [], hp := [] })) := by kernel_rfl

theorem nonL_step {s : List UInt8} {k : Int} (h0 : 0 ≤ k) (h : k < s.length) : nonL (s.drop k.toNat) = if dig ((s.getD k.toNat 0).toNat : Int) = true then 0 else nonL (s.drop (k + 1).toNat) + 1 := by
  unfold nonL
  have e : (k + 1).toNat = k.toNat + 1 := by omega
  rw [drop_cons (k := k.toNat) (by omega), e, List.takeWhile_cons]
  have hd : digB (s.getD k.toNat 0) = dig ((s.getD k.toNat 0).toNat : Int) := rfl
  rw [hd]
  cases dig ((s.getD k.toNat 0).toNat : Int) <;> rfl

theorem l39 : LoopOk Tryd.prog tabG.pf (fun n => hd Tryd.prog tabG.pf tabG.con.run (fun f => (H0 f).to) n 9) h39.to 39 0 none L39 (loopAt Tryd.prog 39 0) := by
  rw [show loopAt Tryd.prog 39 0 = .loop (lbody Tryd.prog 39 0) by kernel_rfl]
  refine loop_con (hdT_le (m := 20) 9) (m := 20) (within_of _ (by rw [show loopsOf (lbody Tryd.prog 39 0) = [] by kernel_rfl]; simp)) (D := D39) (lv := mbits 131 34) (by kernel_rfl)
    e39 (fun x => o39 x.1 x.2.1 x.2.2) p39 (fun x => ((x.1.length : Int) - x.2.2).toNat) ?_ ?_
  · intro vs hp r h
    unfold D39 at h
    split at h
    · rename_i s a k
      rw [T.run_chk] at h
      split at h
      · rename_i hc
        simp only [decide_eq_true_eq] at hc
        simp only [T.run_leaf, Option.some.injEq] at h
        exact ⟨(s, a, k), rfl, hc, h.symm⟩
      · cases h
    · cases h
  · rintro ⟨s, a, k⟩ ⟨h1, h2, h3⟩
    simp only at h1 h2 h3
    simp only [bnd] at h3
    have ht := r39 s a k
    have hw2 : IntKind.i64.wrap (k + 1) = k + 1 := w64 (by omega) (by omega)
    rw [hw2] at ht
    have e : isC 1 ((s.getD k.toNat 0).toNat : Int) = dig ((s.getD k.toNat 0).toNat : Int) := by simp [isC]
    rw [e] at ht
    by_cases hlt : k < s.length
    · have hs := nonL_step h1 hlt
      simp only [hlt, h1, and_self, decide_true, cond_true] at ht
      cases hd : dig ((s.getD k.toNat 0).toNat : Int) with
      | true =>
        rw [hd] at ht hs
        rw [if_pos rfl] at hs
        right
        simp only [o39, kN, hs, Int.natCast_zero, Int.add_zero]
        exact ⟨ht.trans rfl, by simp⟩
      | false =>
        rw [hd] at ht hs
        rw [if_neg (by simp)] at hs
        left
        refine ⟨(s, a, k + 1), ⟨by simp only; omega, by simp only; omega, by simp only [bnd]; omega⟩, by simp only; omega, ?_, ht.trans rfl⟩
        simp only [o39, kN, hs]
        have e1 : k + 1 + (nonL (s.drop (k + 1).toNat) : Int) = k + ((nonL (s.drop (k + 1).toNat) + 1 : Nat) : Int) := by omega
        rw [e1]
    · right
      have hn : nonL (s.drop k.toNat) = 0 := by rw [List.drop_of_length_le (by omega)]; rfl
      simp only [hlt, decide_false, cond_false] at ht
      simp only [o39, kN, hn, Int.natCast_zero, Int.add_zero]
      exact ⟨ht.trans rfl, by simp⟩

def rowP (l : List UInt8) : List UInt8 := l.takeWhile fun b => !digB b

def rowQ (l : List UInt8) : List UInt8 := (l.dropWhile fun b => !digB b).takeWhile digB

theorem take_takeWhile {p : UInt8 → Bool} : ∀ l : List UInt8, l.take (l.takeWhile p).length = l.takeWhile p
  | [] => rfl
  | b :: l => by
    rw [List.takeWhile_cons]
    split
    · simp [take_takeWhile l]
    · rfl

theorem drop_takeWhile {p : UInt8 → Bool} : ∀ l : List UInt8, l.drop (l.takeWhile p).length = l.dropWhile p
  | [] => rfl
  | b :: l => by
    rw [List.takeWhile_cons, List.dropWhile_cons]
    split
    · simp [drop_takeWhile l]
    · rfl

theorem nonL_le : ∀ (l : List UInt8), nonL l ≤ l.length
  | [] => by simp [nonL]
  | b :: l => by
    have := nonL_le l
    simp only [nonL, List.takeWhile_cons] at this ⊢
    split <;> simp <;> omega

theorem t39 (s : List UInt8) (a : Int) : (evn tabG h39 L39 39 [.str s, .int .i64 a] []).run =
  bif decide ((0 : Int) ≤ a ∧ a ≤ (↑s.length : Int) ∧ s.length ≤ 4611686018427387903) then
   bif decide ((0 : Int) ≤ a ∧ a ≤ kN s a ∧ kN s a ≤ (↑s.length : Int)) then
    bif decide ((0 : Int) ≤ kN s a ∧ kN s a ≤ runD s (kN s a) ∧ runD s (kN s a) ≤ (↑s.length : Int)) then
     some ((AV.tup [AV.str (List.take ((kN s a).toNat - a.toNat) (List.drop a.toNat s)), AV.str (List.take ((runD s (kN s a)).toNat - (kN s a).toNat) (List.drop (kN s a).toNat s)), AV.int IntKind.i64 (runD s (kN s a))], []))
    else
     none
   else
    none
  else
   none := by kernel_rfl

def c39 : List AV → T AV
  | [.str s, .int .i64 a] => .chk (decide (0 ≤ a ∧ a ≤ s.length)) (.leaf (.tup [.str (rowP (s.drop a.toNat)), .str (rowQ (s.drop a.toNat)), .int .i64 (a + (rowP (s.drop a.toNat)).length + (rowQ (s.drop a.toNat)).length)]))
  | _ => .fail

theorem s39 : Sound1 Tryd.prog ⟨39, true, pcon c39⟩ := by
  refine sound_pure okG (hn := h39) (m := 20) (k := 9) (Λ := L39) (oneLoop (by kernel_rfl) l39) fun args r hF h => ?_
  unfold c39 at h
  split at h
  · rename_i s a
    rw [T.run_chk] at h
    split at h
    · rename_i hk
      simp only [decide_eq_true_eq] at hk
      simp only [T.run_leaf, Option.some.injEq] at h; subst h
      have hb : s.length ≤ bnd := hF.1
      simp only [bnd] at hb
      refine (t39 s a).trans ?_
      have h1 := nonL_le (s.drop a.toNat)
      simp only [List.length_drop] at h1
      have hk1 : kN s a = a + nonL (s.drop a.toNat) := rfl
      have hk2 : (kN s a).toNat = a.toNat + nonL (s.drop a.toNat) := by omega
      have hd : s.drop (kN s a).toNat = (s.drop a.toNat).dropWhile fun b => !digB b := by
        rw [hk2, ← List.drop_drop]; exact drop_takeWhile _
      have h2 := runL_le (s.drop (kN s a).toNat)
      simp only [List.length_drop] at h2
      have hr : runD s (kN s a) = kN s a + runL (s.drop (kN s a).toNat) := by unfold runD; rw [if_neg (by omega)]
      have hq : runL (s.drop (kN s a).toNat) = (rowQ (s.drop a.toNat)).length := by rw [hd]; rfl
      have hp : nonL (s.drop a.toNat) = (rowP (s.drop a.toNat)).length := rfl
      have e1 : (kN s a).toNat - a.toNat = nonL (s.drop a.toNat) := by omega
      have e2 : (kN s a + (runL (s.drop (kN s a).toNat) : Int)).toNat - (kN s a).toNat = runL (s.drop (kN s a).toNat) := by omega
      have c1 : decide (0 ≤ a ∧ a ≤ (s.length : Int) ∧ s.length ≤ 4611686018427387903) = true := by simp; omega
      have c2 : decide (0 ≤ a ∧ a ≤ kN s a ∧ kN s a ≤ (s.length : Int)) = true := by simp; omega
      have c3 : decide (0 ≤ kN s a ∧ kN s a ≤ runD s (kN s a) ∧ runD s (kN s a) ≤ (s.length : Int)) = true := by rw [hr]; simp; omega
      rw [c1, c2, c3]
      simp only [cond_true]
      rw [hr, e1, e2]
      have t1 : (s.drop a.toNat).take (nonL (s.drop a.toNat)) = rowP (s.drop a.toNat) := take_takeWhile _
      have t2 : (s.drop (kN s a).toNat).take (runL (s.drop (kN s a).toNat)) = rowQ (s.drop a.toNat) := by
        rw [show runL (s.drop (kN s a).toNat) = ((s.drop (kN s a).toNat).takeWhile digB).length from rfl, take_takeWhile, hd]; rfl
      rw [t1, t2, hq, hk1, hp]
    · cases h
  · cases h

end Go.Deb
namespace Go.Deb

open Go Go.Proofs Go.Ab

set_option linter.unusedVariables false

set_option linter.unusedSimpArgs false

def tabI : Tab := ⟨39, true, pcon c39⟩ :: tabG

theorem allI : ∀ e, e ∈ tabI → Sound1 Tryd.prog e := sound_mem_tab s39 allG

theorem okI : SoundTab Tryd.prog tabI := soundTab_of allI

/-! ### deb.text -/

def textD (e u r : List UInt8) : List UInt8 :=
  (if e ≠ [48] ∨ (58 : UInt8) ∈ u then e ++ [58] ++ u else u) ++ (if r ≠ [] then [45] ++ r else [])

theorem t43 (e u r : List UInt8) : (evn tabI h43 noLoops 43 [verAV e u r] []).run =
  bif !e == [(48 : UInt8)] then
   bif decide (e.length + 1 ≤ 4611686018427387903) then
    bif decide ((e ++ [(58 : UInt8)]).length + u.length ≤ 4611686018427387903) then
     bif !r == [] then
      bif decide (1 + r.length ≤ 4611686018427387903) then
       bif decide ((e ++ [(58 : UInt8)] ++ u).length + ([(45 : UInt8)] ++ r).length ≤ 4611686018427387903) then
        some ((AV.str (e ++ [(58 : UInt8)] ++ u ++ ([(45 : UInt8)] ++ r)), []))
       else
        none
      else
       none
     else
      some ((AV.str (e ++ [(58 : UInt8)] ++ u), []))
    else
     none
   else
    none
  else
   bif [(58 : UInt8)] == u then
    bif decide (e.length + 1 ≤ 4611686018427387903) then
     bif decide ((e ++ [(58 : UInt8)]).length + u.length ≤ 4611686018427387903) then
      bif !r == [] then
       bif decide (1 + r.length ≤ 4611686018427387903) then
        bif decide ((e ++ [(58 : UInt8)] ++ u).length + ([(45 : UInt8)] ++ r).length ≤ 4611686018427387903) then
         some ((AV.str (e ++ [(58 : UInt8)] ++ u ++ ([(45 : UInt8)] ++ r)), []))
        else
         none
       else
        none
      else
       some ((AV.str (e ++ [(58 : UInt8)] ++ u), []))
     else
      none
    else
     none
   else
    bif decide (Lib.indexByte u (58 : UInt8) ≥ (0 : Int)) then
     bif decide (e.length + 1 ≤ 4611686018427387903) then
      bif decide ((e ++ [(58 : UInt8)]).length + u.length ≤ 4611686018427387903) then
       bif !r == [] then
        bif decide (1 + r.length ≤ 4611686018427387903) then
         bif decide ((e ++ [(58 : UInt8)] ++ u).length + ([(45 : UInt8)] ++ r).length ≤ 4611686018427387903) then
          some ((AV.str (e ++ [(58 : UInt8)] ++ u ++ ([(45 : UInt8)] ++ r)), []))
         else
          none
        else
         none
       else
        some ((AV.str (e ++ [(58 : UInt8)] ++ u), []))
      else
       none
     else
      none
    else
     bif !r == [] then
      bif decide (1 + r.length ≤ 4611686018427387903) then
       bif decide (u.length + ([(45 : UInt8)] ++ r).length ≤ 4611686018427387903) then
        some ((AV.str (u ++ ([(45 : UInt8)] ++ r)), []))
       else
        none
      else
       none
     else
      some ((AV.str u, [])) := by kernel_rfl

def c43 : List AV → T AV
  | [.agg [.str e, .str u, .str r]] => .chk (decide (e.length + u.length + r.length + 2 ≤ bnd)) (.leaf (.str (textD e u r)))
  | _ => .fail

theorem indexByte_mem (c : UInt8) : ∀ l : List UInt8, (Lib.indexByte l c ≥ 0) ↔ c ∈ l
  | [] => by simp [Lib.indexByte]
  | b :: l => by
    have ih := indexByte_mem c l
    have hg := Lib.indexByte_ge l c
    unfold Lib.indexByte
    by_cases hb : b == c
    · rw [if_pos hb]
      have : b = c := by simpa using hb
      subst this
      simp
    · rw [if_neg hb]
      have hbc : ¬ c = b := fun e => hb (by simp [e])
      simp only [List.mem_cons, hbc, false_or, ← ih]
      by_cases h1 : Lib.indexByte l c == -1
      · rw [if_pos h1]
        have : Lib.indexByte l c = -1 := by simpa using h1
        omega
      · rw [if_neg h1]
        have : Lib.indexByte l c ≠ -1 := by simpa using h1
        omega

theorem s43 : Sound1 Tryd.prog ⟨43, true, pcon c43⟩ := by
  refine sound_pure okI (hn := h43) (m := 20) (k := 9) (Λ := noLoops) (noLoop (by kernel_rfl)) fun args r hF h => ?_
  unfold c43 at h
  split at h
  · rename_i e u r
    rw [T.run_chk] at h
    split at h
    · rename_i hk
      simp only [decide_eq_true_eq, bnd] at hk
      simp only [T.run_leaf, Option.some.injEq] at h; subst h
      refine (t43 e u r).trans ?_
      have hm := indexByte_mem 58 u
      have hl1 : (e ++ [58]).length = e.length + 1 := by simp
      have hl2 : (e ++ [58] ++ u).length = e.length + 1 + u.length := by simp; omega
      have hl3 : ([45] ++ r).length = r.length + 1 := by simp
      have hu : ([58] == u) = true → (58 : UInt8) ∈ u := fun h => by
        have : [58] = u := eq_of_beq h
        rw [← this]; simp
      unfold textD
      simp only [Bool.cond_eq_ite, hl1, hl2, hl3]
      (repeat' split) <;> grind
    · cases h
  · cases h

end Go.Deb
namespace Go.Deb

open Go Go.Proofs Go.Ab

set_option linter.unusedVariables false

set_option linter.unusedSimpArgs false

def tabJ : Tab := ⟨43, true, pcon c43⟩ :: tabI

theorem allJ : ∀ e, e ∈ tabJ → Sound1 Tryd.prog e := sound_mem_tab s43 allI

theorem okJ : SoundTab Tryd.prog tabJ := soundTab_of allJ

/-! ### bytealg.LastIndexByteString -/

/-- The last place of a byte among the first n ones, or -1. -/
def lastN (s : List UInt8) (c : Int) : Nat → Int
  | 0 => -1
  | n + 1 => if ((s.getD n 0).toNat : Int) = c then n else lastN s c n

def lastX (s : List UInt8) (c i : Int) : Int := lastN s c (i + 1).toNat

def oA55 (s : List UInt8) (c i : Int) : AX × St := (.ret, { tm := tmOf 19 [(4, .int .i64 (lastX s c i))], ms := [], hp := [] })

def oB55 (s : List UInt8) (c : Int) : AX × St := (.exit 0, { tm := tmOf 19 [(0, AV.str s), (1, .int .u8 c), (5, .int .i64 (-1)), (10, .bool false)], ms := [], hp := [] })

def p55 (x : List UInt8 × Int × Int) : Prop := -1 ≤ x.2.2 ∧ x.2.2 < x.1.length ∧ x.1.length ≤ bnd

def e55 (x : List UInt8 × Int × Int) : List AV × Hp := ([.str x.1, .int .u8 x.2.1, .int .i64 x.2.2], [])

def o55 (x : List UInt8 × Int × Int) : AX × St := if lastX x.1 x.2.1 x.2.2 = -1 then oB55 x.1 x.2.1 else oA55 x.1 x.2.1 x.2.2

def D55 : List AV → Hp → T (AX × St)
  | [.str s, .int .u8 c, .int .i64 i], [] => .chk (decide (-1 ≤ i ∧ i < s.length ∧ s.length ≤ bnd)) (.br (decide (lastX s c i = -1)) (.leaf (oB55 s c)) (.leaf (oA55 s c i)))
  | _, _ => .fail

def L55 : LoopT := fun k => match Nat.beq k 200028 with
  | true => some (lcon (mbits 35 19) D55)
  | false => none

theorem r55 (s : List UInt8) (c i : Int) : (rdn tabJ h55 L55 55 0 0 { tm := encGo (mbits 35 19) [.str s, .int .u8 c, .int .i64 i], ms := [], hp := [] }).run =
  bif decide (i ≥ (0 : Int)) then
   bif decide ((0 : Int) ≤ i ∧ i < (↑s.length : Int)) then
    bif (↑(s.getD i.toNat (0 : UInt8)).toNat : Int) == c then
     some ((AX.ret, { tm := tmOf 19 [(4, AV.int IntKind.i64 i)], ms := [], hp := [] }))
    else
     some ((AX.normal, { tm := tmOf 19 [(0, AV.str s), (1, AV.int IntKind.u8 c), (5, AV.int IntKind.i64 (IntKind.i64.wrap (i - (1 : Int))))], ms := [], hp := [] }))
   else
    none
  else
   some ((AX.exit 0, { tm := tmOf 19 [(0, AV.str s), (1, AV.int IntKind.u8 c), (5, AV.int IntKind.i64 i), (10, AV.bool false)], ms := [], hp := [] })) := by kernel_rfl

theorem lastX_step {s : List UInt8} {c i : Int} (h : 0 ≤ i) : lastX s c i = if ((s.getD i.toNat 0).toNat : Int) = c then i else lastX s c (i - 1) := by
  unfold lastX
  have e : (i + 1).toNat = i.toNat + 1 := by omega
  have e2 : (i - 1 + 1).toNat = i.toNat := by omega
  rw [e, e2]
  simp only [lastN]
  split <;> omega

theorem l55 : LoopOk Tryd.prog tabJ.pf (fun n => hd Tryd.prog tabJ.pf tabJ.con.run (fun f => (H0 f).to) n 9) h55.to 55 0 none L55 (loopAt Tryd.prog 55 0) := by
  rw [show loopAt Tryd.prog 55 0 = .loop (lbody Tryd.prog 55 0) by kernel_rfl]
  refine loop_con (hdT_le (m := 20) 9) (m := 20) (within_of _ (by rw [show loopsOf (lbody Tryd.prog 55 0) = [] by kernel_rfl]; simp)) (D := D55) (lv := mbits 35 19) (by kernel_rfl)
    e55 o55 p55 (fun x => (x.2.2 + 1).toNat) ?_ ?_
  · intro vs hp r h
    unfold D55 at h
    split at h
    · rename_i s c i
      rw [T.run_chk] at h
      split at h
      · rename_i hc
        simp only [decide_eq_true_eq] at hc
        refine ⟨(s, c, i), rfl, hc, ?_⟩
        rw [run_brd] at h
        simp only [T.run_leaf] at h
        unfold o55
        split at h
        · rename_i hlt; rw [if_pos hlt]; injection h with h; exact h.symm
        · rename_i hlt; rw [if_neg hlt]; injection h with h; exact h.symm
      · cases h
    · cases h
  · rintro ⟨s, c, i⟩ ⟨h1, h2, h3⟩
    simp only at h1 h2 h3
    simp only [bnd] at h3
    have ht := r55 s c i
    have hw2 : IntKind.i64.wrap (i - 1) = i - 1 := w64 (by omega) (by omega)
    rw [hw2] at ht
    by_cases hge : i ≥ 0
    · have hs := lastX_step (s := s) (c := c) hge
      have c2 : decide (0 ≤ i ∧ i < (s.length : Int)) = true := by simp; omega
      rw [show decide (i ≥ 0) = true by simpa using hge, c2] at ht
      simp only [cond_true] at ht
      by_cases hc : ((s.getD i.toNat 0).toNat : Int) = c
      · rw [if_pos hc] at hs
        have hc' : (((s.getD i.toNat 0).toNat : Int) == c) = true := by simpa using hc
        rw [hc'] at ht
        right
        simp only [o55, oA55, hs]
        rw [if_neg (by omega)]
        exact ⟨ht.trans rfl, by simp⟩
      · rw [if_neg hc] at hs
        have hc' : (((s.getD i.toNat 0).toNat : Int) == c) = false := by simpa using hc
        rw [hc'] at ht
        left
        refine ⟨(s, c, i - 1), ⟨by simp only; omega, by simp only; omega, by simp only [bnd]; omega⟩, by simp only; omega, ?_, ht.trans rfl⟩
        simp only [o55, oA55, hs]
    · obtain rfl : i = -1 := by omega
      right
      simp only [hge, decide_false, cond_false] at ht
      have : lastX s c (-1) = -1 := rfl
      simp only [o55, this, if_true, oB55]
      exact ⟨ht.trans rfl, by simp⟩

theorem t32 (s : List UInt8) (c : Int) : (evn tabJ h55 L55 55 [.str s, .int .u8 c] []).run =
  bif decide ((-1 : Int) ≤ IntKind.i64.wrap ((↑s.length : Int) - (1 : Int)) ∧ IntKind.i64.wrap ((↑s.length : Int) - (1 : Int)) < (↑s.length : Int) ∧ s.length ≤ 4611686018427387903) then
   bif decide (lastX s c (IntKind.i64.wrap ((↑s.length : Int) - (1 : Int))) = (-1 : Int)) then
    some ((AV.int IntKind.i64 (-1 : Int), []))
   else
    some ((AV.int IntKind.i64 (lastX s c (IntKind.i64.wrap ((↑s.length : Int) - (1 : Int)))), []))
  else
   none := by kernel_rfl

def c55 : List AV → T AV
  | [.str s, .int .u8 c] => .leaf (.int .i64 (lastN s c s.length))
  | _ => .fail

theorem s55 : Sound1 Tryd.prog ⟨55, true, pcon c55⟩ := by
  refine sound_pure okJ (hn := h55) (m := 20) (k := 9) (Λ := L55) (oneLoop (by kernel_rfl) l55) fun args r hF h => ?_
  unfold c55 at h
  split at h
  · rename_i s c
    simp only [T.run_leaf, Option.some.injEq] at h; subst h
    have hb : s.length ≤ bnd := hF.1
    simp only [bnd] at hb
    refine (t32 s c).trans ?_
    have hw : IntKind.i64.wrap ((s.length : Int) - 1) = (s.length : Int) - 1 := w64 (by omega) (by omega)
    have e : lastX s c ((s.length : Int) - 1) = lastN s c s.length := by unfold lastX; congr 1; omega
    simp only [hw, e, bnd, Bool.cond_eq_ite, decide_eq_true_eq]
    (repeat' split) <;> grind
  · cases h

end Go.Deb
namespace Go.Deb
open Go Go.Proofs Go.Ab
set_option linter.unusedVariables false
set_option linter.unusedSimpArgs false
def tabK : Tab := ⟨55, true, pcon c55⟩ :: tabJ
theorem allK : ∀ e, e ∈ tabK → Sound1 Tryd.prog e := sound_mem_tab s55 allJ
theorem okK : SoundTab Tryd.prog tabK := soundTab_of allK

/-! ### deb.Part -/
def tm13 : Tm := tmOf 53 [(2, AV.ref 0 0), (3, AV.ref 1 0), (4, AV.int .i64 0), (5, AV.ref 2 0), (6, AV.ref 3 0), (7, AV.ref 4 0), (14, AV.fn 58 [AV.ref 5 0])]
noncomputable def lo13 (st : LoopState) (pe : Option Code) : AObj := match loopAt Tryd.prog 13 0 with
  | .rangeFunc _ ps ag bo => .loop 13 st pe tm13 ps ag bo 6
  | _ => .dfr
noncomputable def hp13 (a b : List UInt8) (x y o : Int) (st : LoopState) (pe : Option Code) : Hp :=
  [some (.cells [.str a]), some (.cells [.str b]), some (.cells [.int .i64 x]), some (.cells [.int .i64 y]), some (.cells [.int .i64 o]), some (.cells [.str a]), some .dfr, some (lo13 st pe)]
def hs13 : FuncId → HintsT := fun f => match Nat.beq f 58 with
  | true => h58
  | false => ⟨0, [], []⟩
noncomputable abbrev hd13 (k : Nat) : HdT := hdT Tryd.prog tabK.pf tabK.con hs13 20 k
def gp (a : List UInt8) (x : Int) : List UInt8 := rowP (a.drop x.toNat)
def gq (a : List UInt8) (x : Int) : List UInt8 := rowQ (a.drop x.toNat)
def adv (a : List UInt8) (x : Int) : Int := x + (gp a x).length + (gq a x).length
def wadv (a : List UInt8) (x : Int) : Int := IntKind.i64.wrap (IntKind.i64.wrap (x + (gp a x).length) + (gq a x).length)
noncomputable def oR58 (a b : List UInt8) (g : Int × Int × Int × Int) : AX × St :=
  (.ret, { tm := tmOf 20 [(0, .yield 7), (1, .ref 5 0), (6, .int .i64 g.2.2.2), (18, .bool true)], ms := [], hp := hp13 a b g.1 g.2.1 g.2.2.1 .done (some (.exit 0)) })
noncomputable def hd58 (a b : List UInt8) (x y o at_ : Int) : St := { tm := encGo (mbits 11 20) [.yield 7, .ref 5 0, .int .i64 at_], ms := [], hp := hp13 a b x y o .ready none }
theorem r58 (a b : List UInt8) (x y o : Int) : (roundT Tryd.prog tabK.pf (hd13 8) h58 58 8 none 20 noLoops (lbody Tryd.prog 58 0) (hd58 a b x y o x)).run =
  bif decide (0 ≤ x ∧ x ≤ (a.length : Int)) then
   bif decide (0 ≤ y ∧ y ≤ (b.length : Int)) then
    bif plainD (gp a x) (gp b y) != 0 then some (oR58 a b (x, y, plainD (gp a x) (gp b y), adv a x))
    else bif cmpD (gq a x) (gq b y) != 0 then some (oR58 a b (x, y, cmpD (gq a x) (gq b y), adv a x))
    else bif decide (wadv a x ≥ (a.length : Int)) then
      bif decide (adv b y ≥ (b.length : Int)) then some (oR58 a b (wadv a x, adv b y, cmpD (gq a x) (gq b y), adv a x))
      else some (.normal, hd58 a b (wadv a x) (adv b y) (cmpD (gq a x) (gq b y)) (adv a x))
    else some (.normal, hd58 a b (wadv a x) (adv b y) (cmpD (gq a x) (gq b y)) (adv a x))
   else none
  else none := by kernel_rfl

def partG : Nat → List UInt8 → List UInt8 → Int → Int → Int × Int × Int × Int
  | 0, a, b, x, y => (x, y, 0, x)
  | n + 1, a, b, x, y => if plainD (gp a x) (gp b y) ≠ 0 then (x, y, plainD (gp a x) (gp b y), adv a x) else
    if cmpD (gq a x) (gq b y) ≠ 0 then (x, y, cmpD (gq a x) (gq b y), adv a x) else
    if (a.length : Int) ≤ adv a x ∧ (b.length : Int) ≤ adv b y then (adv a x, adv b y, 0, adv a x) else partG n a b (adv a x) (adv b y)
theorem row_le (l : List UInt8) : (rowP l).length + (rowQ l).length ≤ l.length ∧ (l ≠ [] → 0 < (rowP l).length + (rowQ l).length) := by
  have h1 : rowP l ++ (l.dropWhile fun b => !digB b) = l := List.takeWhile_append_dropWhile
  have h2 : rowQ l ++ (l.dropWhile fun b => !digB b).dropWhile digB = (l.dropWhile fun b => !digB b) := List.takeWhile_append_dropWhile
  have e1 := congrArg List.length h1
  have e2 := congrArg List.length h2
  simp only [List.length_append] at e1 e2
  refine ⟨by omega, fun hl => ?_⟩
  cases l with
  | nil => exact absurd rfl hl
  | cons c l =>
    unfold rowP rowQ
    cases h : digB c <;> simp [h] <;> omega
theorem adv_spec {a : List UInt8} {x : Int} (h0 : 0 ≤ x) (h1 : x ≤ a.length) : x ≤ adv a x ∧ adv a x ≤ a.length ∧ (x < a.length → x < adv a x) := by
  obtain ⟨h2, h3⟩ := row_le (a.drop x.toNat)
  simp only [List.length_drop] at h2
  unfold adv gp gq
  refine ⟨by omega, by omega, fun h => ?_⟩
  have := h3 (by rw [Ne, List.drop_eq_nil_iff]; omega)
  omega
theorem wadv_eq {a : List UInt8} {x : Int} (h0 : 0 ≤ x) (h1 : x ≤ a.length) (hb : a.length ≤ bnd) : wadv a x = adv a x := by
  obtain ⟨h2, h3⟩ := row_le (a.drop x.toNat)
  simp only [List.length_drop] at h2
  simp only [bnd] at hb
  unfold wadv adv gp gq
  rw [w64 (n := x + _) (by omega) (by omega), w64 (by omega) (by omega)]
structure X58 where
  a : List UInt8
  b : List UInt8
  x : Int
  y : Int
  o : Int
  n : Nat
def p58 (X : X58) : Prop := 0 ≤ X.x ∧ X.x ≤ X.a.length ∧ 0 ≤ X.y ∧ X.y ≤ X.b.length ∧ X.a.length ≤ bnd ∧ X.b.length ≤ bnd ∧ (X.a.length - X.x) + (X.b.length - X.y) < X.n
noncomputable def e58 (X : X58) : List AV × Hp := ([.yield 7, .ref 5 0, .int .i64 X.x], hp13 X.a X.b X.x X.y X.o .ready none)
open Classical in
noncomputable def D58 : List AV → Hp → T (AX × St)
  | vs, some (.cells [.str a]) :: some (.cells [.str b]) :: rest => .chk (decide ((vs, some (.cells [.str a]) :: some (.cells [.str b]) :: rest) = e58 ⟨a, b, 0, 0, 0, 0⟩ ∧ a.length ≤ bnd ∧ b.length ≤ bnd)) (.leaf (oR58 a b (partG (a.length + b.length + 1) a b 0 0)))
  | _, _ => .fail
noncomputable def L58 : LoopT := fun k => match Nat.beq k 100027 with
  | true => some (lcon (mbits 11 20) D58)
  | false => none
theorem r58' (a b : List UInt8) (x y o : Int) : (roundT Tryd.prog tabK.pf (hd13 8) h58 58 8 none 20 L58 (lbody Tryd.prog 58 0) (hd58 a b x y o x)).run = (roundT Tryd.prog tabK.pf (hd13 8) h58 58 8 none 20 noLoops (lbody Tryd.prog 58 0) (hd58 a b x y o x)).run := by kernel_rfl
theorem l58 : LoopOk Tryd.prog tabK.pf (fun n => hd Tryd.prog tabK.pf tabK.con.run (fun f => (hs13 f).to) n 8) h58.to 58 8 none L58 (loopAt Tryd.prog 58 0) := by
  rw [show loopAt Tryd.prog 58 0 = .loop (lbody Tryd.prog 58 0) by kernel_rfl]
  refine loop_con (hdT_le (m := 20) 8) (m := 20) (within_of _ (by rw [show loopsOf (lbody Tryd.prog 58 0) = [] by kernel_rfl]; simp)) (D := D58) (lv := mbits 11 20) (by kernel_rfl)
    e58 (fun X => oR58 X.a X.b (partG X.n X.a X.b X.x X.y)) p58 (fun X => X.n) ?_ ?_
  · intro vs hp r h
    unfold D58 at h
    split at h
    · rename_i a b rest
      rw [T.run_chk] at h
      split at h
      · rename_i hc
        simp only [decide_eq_true_eq] at hc
        simp only [T.run_leaf, Option.some.injEq] at h
        exact ⟨⟨a, b, 0, 0, 0, a.length + b.length + 1⟩, hc.1, ⟨by simp, by simp, by simp, by simp, hc.2.1, hc.2.2, by simp only; omega⟩, h.symm⟩
      · cases h
    · cases h
  · rintro ⟨a, b, x, y, o, n⟩ ⟨h1, h2, h3, h4, h5, h6, h7⟩
    simp only at h1 h2 h3 h4 h5 h6 h7
    have ht := (r58' a b x y o).trans (r58 a b x y o)
    obtain ⟨a1, a2, a3⟩ := adv_spec h1 h2
    obtain ⟨b1, b2, b3⟩ := adv_spec h3 h4
    rw [wadv_eq h1 h2 h5, show decide (0 ≤ x ∧ x ≤ (a.length : Int)) = true by simp; omega, show decide (0 ≤ y ∧ y ≤ (b.length : Int)) = true by simp; omega] at ht
    simp only [cond_true] at ht
    obtain ⟨n, rfl⟩ : ∃ i, n = i + 1 := ⟨n - 1, by omega⟩
    by_cases c1 : plainD (gp a x) (gp b y) = 0
    · by_cases c2 : cmpD (gq a x) (gq b y) = 0
      · rw [c1, c2] at ht
        simp only [bne_self_eq_false, cond_false] at ht
        by_cases c3 : (a.length : Int) ≤ adv a x ∧ (b.length : Int) ≤ adv b y
        · right
          rw [show decide (adv a x ≥ (a.length : Int)) = true by simp; omega, show decide (adv b y ≥ (b.length : Int)) = true by simp; omega] at ht
          simp only [cond_true] at ht
          refine ⟨ht.trans ?_, by simp [oR58]⟩
          simp [partG, c1, c2, c3]
        · left
          refine ⟨⟨a, b, adv a x, adv b y, 0, n⟩, ⟨by simp only; omega, a2, by simp only; omega, b2, h5, h6, ?_⟩, by simp only; omega, ?_, ?_⟩
          · show (a.length - adv a x) + (b.length - adv b y) < (n : Int)
            omega
          · simp [partG, c1, c2, c3]
          · refine ht.trans ?_
            rw [Bool.cond_eq_ite, Bool.cond_eq_ite]
            simp only [decide_eq_true_eq, ge_iff_le]
            split
            · rename_i c; rw [if_neg (fun h => c3 ⟨c, h⟩)]; rfl
            · rfl
      · right
        rw [c1, show (cmpD (gq a x) (gq b y) != 0) = true by simpa using c2] at ht
        simp only [bne_self_eq_false, cond_false, cond_true] at ht
        exact ⟨ht.trans (by simp [partG, c1, c2]), by simp [oR58]⟩
    · right
      rw [show (plainD (gp a x) (gp b y) != 0) = true by simpa using c1] at ht
      simp only [cond_true] at ht
      exact ⟨ht.trans (by simp [partG, c1]), by simp [oR58]⟩
noncomputable def f58r (a b : List UInt8) (g : Int × Int × Int × Int) : AV × Hp := (.tup [], hp13 a b g.1 g.2.1 g.2.2.1 .done (some (.exit 0)))
open Classical in
theorem t58 (a b : List UInt8) : (evFnT Tryd.prog tabK.pf (hd13 8) h58 20 L58 58 [.yield 7, .ref 5 0] (hp13 a b 0 0 0 .ready none)).run =
  bif decide (([.yield 7, .ref 5 0, .int .i64 0], hp13 a b 0 0 0 .ready none) = e58 ⟨a, b, 0, 0, 0, 0⟩ ∧ a.length ≤ bnd ∧ b.length ≤ bnd) then some (f58r a b (partG (a.length + b.length + 1) a b 0 0)) else none := by kernel_rfl

def st13 (a b : List UInt8) : St := { tm := tm13, ms := [], hp := [some (.cells [.str a]), some (.cells [.str b]), some (.cells [.int .i64 0]), some (.cells [.int .i64 0]), some (.cells [.int .i64 0]), some (.cells [.str a])] }
def g13 (a b : List UInt8) : Int × Int × Int × Int := partG (a.length + b.length + 1) a b 0 0
def o13 (a b : List UInt8) : AX × St := (.exit 0, { tm := tm13, ms := [6], hp := [some (.cells [.str a]), some (.cells [.str b]), some (.cells [.int .i64 (g13 a b).1]), some (.cells [.int .i64 (g13 a b).2.1]), some (.cells [.int .i64 (g13 a b).2.2.1]), some (.cells [.str a]), some .dfr, none] })
open Classical in
noncomputable def D13 (st : St) : T (AX × St) := match st.hp with
  | some (.cells [.str a]) :: some (.cells [.str b]) :: _ => .chk (decide (st = st13 a b ∧ a.length ≤ bnd ∧ b.length ≤ bnd)) (.leaf (o13 a b))
  | _ => .fail
noncomputable def L13 : LoopT := fun k => match Nat.beq k 550068 with
  | true => some D13
  | false => none
def rfF : Code → Operand
  | .rangeFunc f _ _ _ => f
  | _ => .tmp 0
def rfP : Code → Array Tmp
  | .rangeFunc _ ps _ _ => ps
  | _ => #[]
def rfA : Code → Code
  | .rangeFunc _ _ ag _ => ag
  | _ => .skip
def rfB : Code → Code
  | .rangeFunc _ _ _ bo => bo
  | _ => .skip
theorem rf13 : loopAt Tryd.prog 13 0 = .rangeFunc (rfF (loopAt Tryd.prog 13 0)) (rfP (loopAt Tryd.prog 13 0)) (rfA (loopAt Tryd.prog 13 0)) (rfB (loopAt Tryd.prog 13 0)) := by kernel_rfl
theorem rk13 : rkey (rfB (loopAt Tryd.prog 13 0)) = 550068 := by kernel_rfl
theorem rv13 : aeval tm13 (rfF (loopAt Tryd.prog 13 0)) = .fn 58 [.ref 5 0] := by kernel_rfl
theorem rh13 (a b : List UInt8) : (st13 a b).hp ++ [some .dfr] ++ [some (.loop 13 .ready none tm13 (rfP (loopAt Tryd.prog 13 0)) (rfA (loopAt Tryd.prog 13 0)) (rfB (loopAt Tryd.prog 13 0)) (st13 a b).hp.length)] = hp13 a b 0 0 0 .ready none := by kernel_rfl
theorem re13 (a b : List UInt8) (g : Int × Int × Int × Int) : rangeEnd ((st13 a b).hp.length + 1) ((st13 a b).hp.length :: (st13 a b).ms) tm13 (hp13 a b g.1 g.2.1 g.2.2.1 .done (some (.exit 0))) = some (.exit 0, { tm := tm13, ms := [6], hp := [some (.cells [.str a]), some (.cells [.str b]), some (.cells [.int .i64 g.1]), some (.cells [.int .i64 g.2.1]), some (.cells [.int .i64 g.2.2.1]), some (.cells [.str a]), some .dfr, none] }) := by kernel_rfl
theorem l13 : LoopOk Tryd.prog tabK.pf (fun n => hd Tryd.prog tabK.pf tabK.con.run (fun f => (hs13 f).to) n 9) h13.to 13 0 none L13 (loopAt Tryd.prog 13 0) := by
  rw [rf13]
  intro l hl s r hr
  have hl' : l = D13 := by
    rw [rk13] at hl
    simp only [L13] at hl
    exact (Option.some.inj hl).symm
  subst hl'
  unfold D13 at hr
  split at hr
  · rename_i a b rest hs
    rw [T.run_chk] at hr
    split at hr
    · rename_i hc
      simp only [decide_eq_true_eq] at hc
      obtain ⟨rfl, hb1, hb2⟩ := hc
      simp only [T.run_leaf, Option.some.injEq] at hr
      subst hr
      have ht := t58 a b
      rw [Bool.cond_eq_ite, if_pos (by simp only [decide_eq_true_eq]; exact ⟨rfl, hb1, hb2⟩)] at ht
      obtain ⟨n0, h0⟩ := evFnT_le (H := fun n => hd Tryd.prog tabK.pf tabK.con.run (fun f => (hs13 f).to) n 8) (hdT_le (m := 20) 8) (within_at (oneLoop (by kernel_rfl) l58)) ht
      refine ⟨n0, fun n hn => ?_⟩
      have h0 := h0 n hn
      unfold evRange
      have he : enterable Tryd.prog 58 = true := by kernel_rfl
      have hcon : tabK.con.run 58 = none := by kernel_rfl
      simp only [show (st13 a b).tm = tm13 from rfl, rv13, he, if_true, rh13, hd, hcon]
      have h1 : evFn Tryd.prog tabK.pf (hd Tryd.prog tabK.pf tabK.con.run (fun f => (hs13 f).to) n 8) (hs13 58).to n 58 [AV.yield ((st13 a b).hp.length + 1), AV.ref 5 0] (hp13 a b 0 0 0 .ready none) = some (f58r a b (partG (a.length + b.length + 1) a b 0 0)) := h0
      rw [h1]
      exact re13 a b _
    · cases hr
  · cases hr
def partD (a b : List UInt8) : Int := (g13 a b).2.2.1
def c13 : List AV → T AV
  | [.str a, .str b] => .leaf (.int .i64 (partD a b))
  | _ => .fail
open Classical in
theorem t13 (a b : List UInt8) : (evFnT Tryd.prog tabK.pf (hd13 9) h13 20 L13 13 [.str a, .str b] []).run =
  bif decide (st13 a b = st13 a b ∧ a.length ≤ bnd ∧ b.length ≤ bnd) then some (.int .i64 (partD a b), []) else none := by kernel_rfl
theorem s13 : Sound1 Tryd.prog ⟨13, true, pcon c13⟩ := by
  refine sound_pureH okK hs13 (hn := h13) (m := 20) (k := 9) (Λ := L13) (oneLoop (by kernel_rfl) l13) fun args r hF h => ?_
  unfold c13 at h
  split at h
  · rename_i a b
    simp only [T.run_leaf, Option.some.injEq] at h; subst h
    have hb1 : a.length ≤ bnd := hF.1
    have hb2 : b.length ≤ bnd := hF.2.1
    refine (t13 a b).trans ?_
    rw [Bool.cond_eq_ite, if_pos (by simp only [decide_eq_true_eq]; exact ⟨trivial, hb1, hb2⟩)]
  · cases h
def tabL : Tab := ⟨13, true, pcon c13⟩ :: tabK
theorem allL : ∀ e, e ∈ tabL → Sound1 Tryd.prog e := sound_mem_tab s13 allK
theorem okL : SoundTab Tryd.prog tabL := soundTab_of allL
end Go.Deb
namespace Go.Deb

open Go Go.Proofs Go.Ab

set_option linter.unusedVariables false

set_option linter.unusedSimpArgs false

/-! ### deb.Fit -/

def hp15 (e u r : List UInt8) : Hp := [some (.cells [.str e, .str u, .str r])]

def enA15 (y : List UInt8 × List UInt8 × List UInt8) (i : Int) : List AV × Hp := ([.ref 0 0, .int .i64 y.2.1.length, .int .i64 i], hp15 y.1 y.2.1 y.2.2)

def enB15 (y : List UInt8 × List UInt8 × List UInt8) (i : Int) : List AV × Hp := ([.ref 0 0, .int .i64 y.2.2.length, .int .i64 i], hp15 y.1 y.2.1 y.2.2)

def bad15 (y : List UInt8 × List UInt8 × List UInt8) : AX × St := (.ret, { tm := tmOf 70 [(2, .bool false)], ms := [], hp := hp15 y.1 y.2.1 y.2.2 })

def dnA15 (y : List UInt8 × List UInt8 × List UInt8) : AX × St := (.exit 0, { tm := tmOf 70 [(1, .ref 0 0), (39, .int .i64 y.2.1.length), (40, .int .i64 y.2.1.length), (41, .bool false)], ms := [], hp := hp15 y.1 y.2.1 y.2.2 })

def dnB15 (y : List UInt8 × List UInt8 × List UInt8) : AX × St := (.exit 2, { tm := tmOf 70 [(1, .ref 0 0), (55, .int .i64 y.2.2.length), (56, .int .i64 y.2.2.length), (57, .bool false)], ms := [], hp := hp15 y.1 y.2.1 y.2.2 })

def DA15 : List AV → Hp → T (AX × St)
  | [.ref 0 0, .int .i64 n, .int .i64 i], [some (.cells [.str e, .str u, .str r])] => .chk (decide (n = u.length ∧ 0 ≤ i ∧ i ≤ u.length ∧ u.length ≤ bnd)) (.br (allD (upB true (!r == [])) u i) (.leaf (dnA15 (e, u, r))) (.leaf (bad15 (e, u, r))))
  | _, _ => .fail

def DB15 : List AV → Hp → T (AX × St)
  | [.ref 0 0, .int .i64 n, .int .i64 i], [some (.cells [.str e, .str u, .str r])] => .chk (decide (n = r.length ∧ 0 ≤ i ∧ i ≤ r.length ∧ r.length ≤ bnd)) (.br (allD (upB false false) r i) (.leaf (dnB15 (e, u, r))) (.leaf (bad15 (e, u, r))))
  | _, _ => .fail

def L15 : LoopT := fun k => match Nat.beq k 400033 with
  | true => some (lcon (mbits 1649267441666 70) DA15)
  | false => match Nat.beq k 1000030 with
    | true => some (lcon (mbits 108086391056891906 70) DB15)
    | false => none

theorem rA15 (y : List UInt8 × List UInt8 × List UInt8) (i : Int) : (rdn tabL h15 L15 15 0 0 { tm := encGo (mbits 1649267441666 70) (enA15 y i).1, ms := [], hp := (enA15 y i).2 }).run =
  bif decide (i < (↑y.snd.fst.length : Int)) then
   bif decide ((0 : Int) ≤ i ∧ i < (↑y.snd.fst.length : Int)) then
    bif !upB true (!y.snd.snd == []) (↑(y.snd.fst.getD i.toNat (0 : UInt8)).toNat : Int) then
     some ((AX.ret, { tm := tmOf 70 [(2, AV.bool false)], ms := [], hp := [some (AObj.cells [AV.str y.fst, AV.str y.snd.fst, AV.str y.snd.snd])] }))
    else
     some ((AX.normal, { tm := tmOf 70 [(1, AV.ref 0 0), (39, AV.int IntKind.i64 (↑y.snd.fst.length : Int)), (40, AV.int IntKind.i64 (IntKind.i64.wrap (i + (1 : Int))))], ms := [], hp := [some (AObj.cells [AV.str y.fst, AV.str y.snd.fst, AV.str y.snd.snd])] }))
   else
    none
  else
   some ((AX.exit 0, { tm := tmOf 70 [(1, AV.ref 0 0), (39, AV.int IntKind.i64 (↑y.snd.fst.length : Int)), (40, AV.int IntKind.i64 i), (41, AV.bool false)], ms := [], hp := [some (AObj.cells [AV.str y.fst, AV.str y.snd.fst, AV.str y.snd.snd])] })) := by kernel_rfl
theorem rB15 (y : List UInt8 × List UInt8 × List UInt8) (i : Int) : (rdn tabL h15 L15 15 0 1 { tm := encGo (mbits 108086391056891906 70) (enB15 y i).1, ms := [], hp := (enB15 y i).2 }).run =
  bif decide (i < (↑y.snd.snd.length : Int)) then
   bif decide ((0 : Int) ≤ i ∧ i < (↑y.snd.snd.length : Int)) then
    bif !upB false false (↑(y.snd.snd.getD i.toNat (0 : UInt8)).toNat : Int) then
     some ((AX.ret, { tm := tmOf 70 [(2, AV.bool false)], ms := [], hp := [some (AObj.cells [AV.str y.fst, AV.str y.snd.fst, AV.str y.snd.snd])] }))
    else
     some ((AX.normal, { tm := tmOf 70 [(1, AV.ref 0 0), (55, AV.int IntKind.i64 (↑y.snd.snd.length : Int)), (56, AV.int IntKind.i64 (IntKind.i64.wrap (i + (1 : Int))))], ms := [], hp := [some (AObj.cells [AV.str y.fst, AV.str y.snd.fst, AV.str y.snd.snd])] }))
   else
    none
  else
   some ((AX.exit 2, { tm := tmOf 70 [(1, AV.ref 0 0), (55, AV.int IntKind.i64 (↑y.snd.snd.length : Int)), (56, AV.int IntKind.i64 i), (57, AV.bool false)], ms := [], hp := [some (AObj.cells [AV.str y.fst, AV.str y.snd.fst, AV.str y.snd.snd])] })) := by kernel_rfl

theorem lA15 : LoopOk Tryd.prog tabL.pf (fun n => hd Tryd.prog tabL.pf tabL.con.run (fun f => (H0 f).to) n 9) h15.to 15 0 none L15 (loopAt Tryd.prog 15 0) := by
  rw [show loopAt Tryd.prog 15 0 = .loop (lbody Tryd.prog 15 0) by kernel_rfl]
  refine all_con (hdT_le (m := 20) 9) (m := 20) (within_of _ (by rw [show loopsOf (lbody Tryd.prog 15 0) = [] by kernel_rfl]; simp)) (D := DA15) (lv := mbits 1649267441666 70) (by kernel_rfl)
    enA15 (fun y => y.2.1) (fun y => upB true (!y.2.2 == [])) dnA15 bad15 (fun _ => True) ?_ ?_ ?_ (fun y => ⟨by simp [dnA15], by simp [bad15]⟩)
  · intro vs hp r h
    unfold DA15 at h
    split at h
    · rename_i n i e u r'
      rw [T.run_chk] at h
      split at h
      · rename_i hc
        simp only [decide_eq_true_eq] at hc
        obtain ⟨rfl, h1, h2, h3⟩ := hc
        refine ⟨(e, u, r'), i, rfl, trivial, h1, h2, h3, ?_⟩
        rw [T.run_br] at h
        simp only
        split at h <;> rename_i hq
        · rw [if_pos hq]; exact (Option.some.inj h).symm
        · rw [if_neg hq]; exact (Option.some.inj h).symm
      · cases h
    · cases h
  · rintro ⟨e, u, r⟩ i _ h0 hl hw
    simp only at hl
    refine (rA15 _ _).trans ?_
    simp only [Bool.cond_eq_ite]
    rw [if_pos (by simpa using hl), if_pos (by simp; omega)]
    simp only [hw]
    cases upB true (!r == []) ((u.getD i.toNat 0).toNat : Int) <;> rfl
  · rintro ⟨e, u, r⟩ _
    refine (rA15 _ _).trans ?_
    simp only [Int.lt_irrefl, decide_false, cond_false]
    rfl

theorem lB15 : LoopOk Tryd.prog tabL.pf (fun n => hd Tryd.prog tabL.pf tabL.con.run (fun f => (H0 f).to) n 9) h15.to 15 0 none L15 (loopAt Tryd.prog 15 1) := by
  rw [show loopAt Tryd.prog 15 1 = .loop (lbody Tryd.prog 15 1) by kernel_rfl]
  refine all_con (hdT_le (m := 20) 9) (m := 20) (within_of _ (by rw [show loopsOf (lbody Tryd.prog 15 1) = [] by kernel_rfl]; simp)) (D := DB15) (lv := mbits 108086391056891906 70) (by kernel_rfl)
    enB15 (fun y => y.2.2) (fun y => upB false false) dnB15 bad15 (fun _ => True) ?_ ?_ ?_ (fun y => ⟨by simp [dnB15], by simp [bad15]⟩)
  · intro vs hp r h
    unfold DB15 at h
    split at h
    · rename_i n i e u r'
      rw [T.run_chk] at h
      split at h
      · rename_i hc
        simp only [decide_eq_true_eq] at hc
        obtain ⟨rfl, h1, h2, h3⟩ := hc
        refine ⟨(e, u, r'), i, rfl, trivial, h1, h2, h3, ?_⟩
        rw [T.run_br] at h
        simp only
        split at h <;> rename_i hq
        · rw [if_pos hq]; exact (Option.some.inj h).symm
        · rw [if_neg hq]; exact (Option.some.inj h).symm
      · cases h
    · cases h
  · rintro ⟨e, u, r⟩ i _ h0 hl hw
    simp only at hl
    refine (rB15 _ _).trans ?_
    simp only [Bool.cond_eq_ite]
    rw [if_pos (by simpa using hl), if_pos (by simp; omega)]
    simp only [hw]
    cases upB false false ((r.getD i.toNat 0).toNat : Int) <;> rfl
  · rintro ⟨e, u, r⟩ _
    refine (rB15 _ _).trans ?_
    simp only [Int.lt_irrefl, decide_false, cond_false]
    rfl

theorem t15 (e u r : List UInt8) : (evn tabL h15 L15 15 [verAV e u r] []).run =
  bif e == [] then
   some ((AV.bool false, []))
  else
   bif runD e (0 : Int) != (↑e.length : Int) then
    some ((AV.bool false, []))
   else
    bif !trimD e == e then
     some ((AV.bool false, []))
    else
     bif u == [] then
      some ((AV.bool false, []))
     else
      bif decide ((0 : Int) ≤ (0 : Int) ∧ (0 : Int) < (↑u.length : Int)) then
       bif !isC (1 : Int) (↑(u.getD 0 (0 : UInt8)).toNat : Int) then
        some ((AV.bool false, []))
       else
        bif decide ((↑u.length : Int) = (↑u.length : Int) ∧ (0 : Int) ≤ (0 : Int) ∧ (0 : Int) ≤ (↑u.length : Int) ∧ u.length ≤ 4611686018427387903) then
         bif allD (upB true !r == []) u (0 : Int) then
          bif decide ((↑(e, u, r).snd.snd.length : Int) = (↑(e, u, r).snd.snd.length : Int) ∧ (0 : Int) ≤ (0 : Int) ∧ (0 : Int) ≤ (↑(e, u, r).snd.snd.length : Int) ∧ (e, u, r).snd.snd.length ≤ 4611686018427387903) then
           bif allD (upB false false) (e, u, r).snd.snd (0 : Int) then
            bif decide (((e, u, r).fst, (e, u, r).snd.fst, (e, u, r).snd.snd).fst.length + ((e, u, r).fst, (e, u, r).snd.fst, (e, u, r).snd.snd).snd.fst.length + ((e, u, r).fst, (e, u, r).snd.fst, (e, u, r).snd.snd).snd.snd.length + 2 ≤ 4611686018427387903) then
             some ((AV.bool (decide ((↑(textD ((e, u, r).fst, (e, u, r).snd.fst, (e, u, r).snd.snd).fst ((e, u, r).fst, (e, u, r).snd.fst, (e, u, r).snd.snd).snd.fst ((e, u, r).fst, (e, u, r).snd.fst, (e, u, r).snd.snd).snd.snd).length : Int) ≤ (64 : Int))), []))
            else
             none
           else
            some ((AV.bool false, []))
          else
           none
         else
          some ((AV.bool false, []))
        else
         none
      else
       none := by kernel_rfl

def digAll (e : List UInt8) : Bool := e.all digB

def fitD (e u r : List UInt8) : Bool := !(e == []) && (runD e 0 == (e.length : Int)) && (trimD e == e) && !(u == []) && isC 1 ((u.getD 0 0).toNat : Int) && allD (upB true (!r == [])) u 0 && allD (upB false false) r 0 && decide ((textD e u r).length ≤ 64)

def c15 : List AV → T AV
  | [.agg [.str e, .str u, .str r]] => .chk (decide (e.length + u.length + r.length + 2 ≤ bnd)) (.leaf (.bool (fitD e u r)))
  | _ => .fail

theorem twoLoops {f : FuncId} {Φ : Nat → Prop} (h : (loopsOf (bodyOf Tryd.prog f)).length = 2) (h0 : Φ 0) (h1 : Φ 1) : ∀ i, i < (loopsOf (bodyOf Tryd.prog f)).length → Φ i := fun i hi => by
  rcases (by omega : i = 0 ∨ i = 1) with rfl | rfl
  · exact h0
  · exact h1

theorem s15 : Sound1 Tryd.prog ⟨15, true, pcon c15⟩ := by
  refine sound_pure okL (hn := h15) (m := 20) (k := 9) (Λ := L15) (twoLoops (by kernel_rfl) lA15 lB15) fun args r hF h => ?_
  unfold c15 at h
  split at h
  · rename_i e u r'
    rw [T.run_chk] at h
    split at h
    · rename_i hk
      have hk := of_decide_eq_true hk
      simp only [bnd] at hk
      simp only [T.run_leaf, Option.some.injEq] at h; subst h
      refine (t15 e u r').trans ?_
      have hu : u.length ≤ bnd := by simp only [bnd]; omega
      have hr : r'.length ≤ bnd := by simp only [bnd]; omega
      simp only [bnd] at hu hr
      have hpos : ¬ (u == []) = true → 0 < u.length := by cases u <;> simp
      have c1 : ∀ n : Nat, decide ((0 : Int) ≤ 0 ∧ (0 : Int) ≤ (n : Int)) = true := by intro n; simp
      unfold fitD
      by_cases h1 : (e == []) = true
      · simp [h1]
      by_cases h2 : ¬ runD e 0 = (e.length : Int)
      · have h2a : (runD e 0 == (e.length : Int)) = false := by simpa using h2
        have h2b : (runD e 0 != (e.length : Int)) = true := by simpa using h2
        simp [h1, h2a, h2b]
      have h2 := Classical.not_not.1 h2
      by_cases h3 : ¬ (trimD e == e) = true
      · simp [h1, h2, h3]
      have h3 := Classical.not_not.1 h3
      by_cases h4 : (u == []) = true
      · simp [h1, h2, h3, h4]
      have hp := hpos h4
      have hp' : (0 : Int) < (u.length : Int) := by omega
      cases h5 : isC 1 ((u.getD 0 0).toNat : Int)
      · simp [h1, h2, h3, h4, hp, h5]
      cases h6 : allD (upB true (!r' == [])) u 0
      · simp [h1, h2, h3, h4, hp, h5, h6, hu]
      cases h7 : allD (upB false false) r' 0
      · simp [h1, h2, h3, h4, hp, h5, h6, hu, h7, hr]
      simp [h1, h2, h3, h4, hp, h5, h6, hu, h7, hr, hk]
      omega
    · cases h
  · cases h

def tabM : Tab := ⟨15, true, pcon c15⟩ :: tabL

theorem allM : ∀ e, e ∈ tabM → Sound1 Tryd.prog e := sound_mem_tab s15 allL

theorem okM : SoundTab Tryd.prog tabM := soundTab_of allM

/-! ### deb.Format -/

theorem t17 (e u r : List UInt8) : (evn tabM h17 noLoops 17 [verAV e u r] []).run =
  bif decide (e.length + u.length + r.length + 2 ≤ 4611686018427387903) then
   bif !fitD e u r then
    some ((AV.str [], []))
   else
    bif decide (e.length + u.length + r.length + 2 ≤ 4611686018427387903) then
     some ((AV.str (textD e u r), []))
    else
     none
  else
   none := by kernel_rfl

def fmtD (e u r : List UInt8) : List UInt8 := if fitD e u r = true then textD e u r else []

def c17 : List AV → T AV
  | [.agg [.str e, .str u, .str r]] => .chk (decide (e.length + u.length + r.length + 2 ≤ bnd)) (.leaf (.str (fmtD e u r)))
  | _ => .fail

theorem s17 : Sound1 Tryd.prog ⟨17, true, pcon c17⟩ := by
  refine sound_pure okM (hn := h17) (m := 20) (k := 9) (Λ := noLoops) (noLoop (by kernel_rfl)) fun args r hF h => ?_
  unfold c17 at h
  split at h
  · rename_i e u r'
    rw [T.run_chk] at h
    split at h
    · rename_i hk
      have hk := of_decide_eq_true hk
      simp only [bnd] at hk
      simp only [T.run_leaf, Option.some.injEq] at h; subst h
      refine (t17 e u r').trans ?_
      unfold fmtD
      cases hf : fitD e u r' <;> simp [hk]
    · cases h
  · cases h

/-! ### deb.Order -/

theorem t20 (a b c d e f : List UInt8) : (evn tabM h20 noLoops 20 [verAV a b c, verAV d e f] []).run =
  bif decide (a.length + b.length + c.length + 2 ≤ 4611686018427387903) then
   bif !fitD a b c then
    some ((AV.int IntKind.i64 (0 : Int), []))
   else
    bif decide (d.length + e.length + f.length + 2 ≤ 4611686018427387903) then
     bif !fitD d e f then
      some ((AV.int IntKind.i64 (0 : Int), []))
     else
      bif cmpD a d != (0 : Int) then
       some ((AV.int IntKind.i64 (cmpD a d), []))
      else
       bif partD b e != (0 : Int) then
        some ((AV.int IntKind.i64 (partD b e), []))
       else
        bif partD c f != (0 : Int) then
         some ((AV.int IntKind.i64 (partD c f), []))
        else
         some ((AV.int IntKind.i64 (0 : Int), []))
    else
     none
  else
   none := by kernel_rfl

def orderD (a b c d e f : List UInt8) : Int := if fitD a b c = false ∨ fitD d e f = false then 0 else if cmpD a d ≠ 0 then cmpD a d else if partD b e ≠ 0 then partD b e else partD c f

def c20 : List AV → T AV
  | [.agg [.str a, .str b, .str c], .agg [.str d, .str e, .str f]] => .chk (decide (a.length + b.length + c.length + 2 ≤ bnd ∧ d.length + e.length + f.length + 2 ≤ bnd)) (.leaf (.int .i64 (orderD a b c d e f)))
  | _ => .fail

theorem s20 : Sound1 Tryd.prog ⟨20, true, pcon c20⟩ := by
  refine sound_pure okM (hn := h20) (m := 20) (k := 9) (Λ := noLoops) (fun i hi => ?_) fun args r hF h => ?_
  · rw [show (loopsOf (bodyOf Tryd.prog 20)).length = 1 by kernel_rfl] at hi
    obtain rfl : i = 0 := by omega
    rw [show loopAt Tryd.prog 20 0 = .loop (lbody Tryd.prog 20 0) by kernel_rfl]
    exact fun l hl => by cases hl
  unfold c20 at h
  split at h
  · rename_i a b c d e f
    rw [T.run_chk] at h
    split at h
    · rename_i hk
      have hk := of_decide_eq_true hk
      simp only [bnd] at hk
      simp only [T.run_leaf, Option.some.injEq] at h; subst h
      refine (t20 a b c d e f).trans ?_
      unfold orderD
      simp only [hk.1, hk.2, decide_true, cond_true]
      cases h1 : fitD a b c
      · simp
      cases h2 : fitD d e f
      · simp
      by_cases h3 : cmpD a d = 0
      · by_cases h4 : partD b e = 0
        · by_cases h5 : partD c f = 0
          · simp [h3, h4, h5]
          · have : (partD c f != 0) = true := by simpa using h5
            simp [h3, h4, this]
        · have : (partD b e != 0) = true := by simpa using h4
          simp [h3, h4, this]
      · have : (cmpD a d != 0) = true := by simpa using h3
        simp [h3, this]
    · cases h
  · cases h

def tabN : Tab := ⟨20, true, pcon c20⟩ :: ⟨17, true, pcon c17⟩ :: tabM

theorem allN : ∀ e, e ∈ tabN → Sound1 Tryd.prog e := sound_mem_tab s20 (sound_mem_tab s17 allM)

theorem okN : SoundTab Tryd.prog tabN := soundTab_of allN

end Go.Deb
namespace Go.Deb

open Go Go.Proofs Go.Ab

set_option linter.unusedVariables false

set_option linter.unusedSimpArgs false

/-! ### deb.Parse -/

structure Y9 where
  s : List UInt8
  ep : List UInt8
  fr : Int
  co : Bool
  da : Int

def hp9 (ep : List UInt8) (e a : Int) : Hp := [some (.cells [.str [], .str [], .str []]), some (.cells [.int .i64 e, .int .i64 a]), some (.cells [.str ep, .str [], .str []])]

def en9 (y : Y9) (i : Int) : List AV × Hp := ([.str y.s, .ref 0 0, .ref 1 0, .ref 2 0, .int .i64 y.fr, .bool y.co, .int .i64 y.da, .int .i64 i], hp9 y.ep 0 0)

def bad9 (y : Y9) (i : Int) : AX × St := (.ret, { tm := tmOf 114 [(2, .ref 0 0), (3, .ref 1 0)], ms := [], hp := hp9 y.ep (wrongAt y.s i).1 (wrongAt y.s i).2 })

def dn9 (y : Y9) : AX × St := (.exit 0, { tm := tmOf 114 [(0, .str y.s), (2, .ref 0 0), (3, .ref 1 0), (4, .ref 2 0), (5, .int .i64 y.fr), (7, .bool y.co), (8, .int .i64 y.da), (9, .int .i64 y.s.length), (64, .bool false)], ms := [], hp := hp9 y.ep 0 0 })

def D9 : List AV → Hp → T (AX × St)
  | [.str s, .ref 0 0, .ref 1 0, .ref 2 0, .int .i64 fr, .bool co, .int .i64 da, .int .i64 i], [some (.cells [.str [], .str [], .str []]), some (.cells [.int .i64 0, .int .i64 0]), some (.cells [.str ep, .str [], .str []])] =>
    .chk (decide (0 ≤ i ∧ i ≤ s.length ∧ s.length ≤ bnd)) (.br (decide (firstX (upB co true) s i = s.length)) (.leaf (dn9 ⟨s, ep, fr, co, da⟩)) (.leaf (bad9 ⟨s, ep, fr, co, da⟩ (firstX (upB co true) s i))))
  | _, _ => .fail

def L9 : LoopT := fun k => match Nat.beq k 1600036 with
  | true => some (lcon (mbits 957 114) D9)
  | false => none

theorem r9 (y : Y9) (i : Int) : (rdn tabN h9 L9 9 0 0 { tm := encGo (mbits 957 114) (en9 y i).1, ms := [], hp := (en9 y i).2 }).run =
  bif decide (i < (↑y.s.length : Int)) then
   bif decide ((0 : Int) ≤ i ∧ i < (↑y.s.length : Int)) then
    bif !upB y.co true (↑(y.s.getD i.toNat (0 : UInt8)).toNat : Int) then
     some ((AX.ret, { tm := tmOf 114 [(2, AV.ref 0 0), (3, AV.ref 1 0)], ms := [], hp := [some (AObj.cells [AV.str [], AV.str [], AV.str []]), some (AObj.cells [AV.int IntKind.i64 (wrongAt y.s i).fst, AV.int IntKind.i64 (wrongAt y.s i).snd]), some (AObj.cells [AV.str y.ep, AV.str [], AV.str []])] }))
    else
     some ((AX.normal, { tm := tmOf 114 [(0, AV.str y.s), (2, AV.ref 0 0), (3, AV.ref 1 0), (4, AV.ref 2 0), (5, AV.int IntKind.i64 y.fr), (7, AV.bool y.co), (8, AV.int IntKind.i64 y.da), (9, AV.int IntKind.i64 (IntKind.i64.wrap (i + (1 : Int))))], ms := [], hp := [some (AObj.cells [AV.str [], AV.str [], AV.str []]), some (AObj.cells [AV.int IntKind.i64 (0 : Int), AV.int IntKind.i64 (0 : Int)]), some (AObj.cells [AV.str y.ep, AV.str [], AV.str []])] }))
   else
    none
  else
   some ((AX.exit 0, { tm := tmOf 114 [(0, AV.str y.s), (2, AV.ref 0 0), (3, AV.ref 1 0), (4, AV.ref 2 0), (5, AV.int IntKind.i64 y.fr), (7, AV.bool y.co), (8, AV.int IntKind.i64 y.da), (9, AV.int IntKind.i64 i), (64, AV.bool false)], ms := [], hp := [some (AObj.cells [AV.str [], AV.str [], AV.str []]), some (AObj.cells [AV.int IntKind.i64 (0 : Int), AV.int IntKind.i64 (0 : Int)]), some (AObj.cells [AV.str y.ep, AV.str [], AV.str []])] })) := by kernel_rfl

theorem l9 : LoopOk Tryd.prog tabN.pf (fun n => hd Tryd.prog tabN.pf tabN.con.run (fun f => (H0 f).to) n 9) h9.to 9 0 none L9 (loopAt Tryd.prog 9 0) := by
  rw [show loopAt Tryd.prog 9 0 = .loop (lbody Tryd.prog 9 0) by kernel_rfl]
  refine find_con (hdT_le (m := 20) 9) (m := 20) (within_of _ (by rw [show loopsOf (lbody Tryd.prog 9 0) = [] by kernel_rfl]; simp)) (D := D9) (lv := mbits 957 114) (by kernel_rfl)
    en9 (fun y => y.s) (fun y => upB y.co true) dn9 bad9 (fun _ => True) ?_ ?_ ?_ (fun y i => ⟨by simp [dn9], by simp [bad9]⟩)
  · intro vs hp r h
    unfold D9 at h
    split at h
    · rename_i s fr co da i ep
      rw [T.run_chk] at h
      split at h
      · rename_i hc
        have hc := of_decide_eq_true hc
        refine ⟨⟨s, ep, fr, co, da⟩, i, rfl, trivial, hc.1, hc.2.1, hc.2.2, ?_⟩
        rw [run_brd] at h
        simp only
        split at h <;> rename_i hq
        · rw [if_pos hq]; exact (Option.some.inj h).symm
        · rw [if_neg hq]; exact (Option.some.inj h).symm
      · cases h
    · cases h
  · rintro ⟨s, ep, fr, co, da⟩ i _ h0 hl hw
    simp only at hl
    refine (r9 _ _).trans ?_
    simp only [Bool.cond_eq_ite]
    rw [if_pos (by simpa using hl), if_pos (by simp; omega)]
    simp only [hw]
    cases upB co true ((s.getD i.toNat 0).toNat : Int) <;> rfl
  · rintro ⟨s, ep, fr, co, da⟩ _
    refine (r9 _ _).trans ?_
    simp only [Int.lt_irrefl, decide_false, cond_false]
    rfl

theorem t9 (s : List UInt8) : (evn tabN h9 L9 9 [.str s] []).run =
  bif decide ((↑s.length : Int) > (64 : Int)) then
   some ((AV.tup [AV.agg [AV.str [], AV.str [], AV.str []], AV.agg [AV.int IntKind.i64 (12 : Int), AV.int IntKind.i64 (64 : Int)]], []))
  else
   bif runD s (0 : Int) == (0 : Int) then
    some ((AV.tup [AV.agg [AV.str [], AV.str [], AV.str []], AV.agg [AV.int IntKind.i64 (wrongAt s (0 : Int)).fst, AV.int IntKind.i64 (wrongAt s (0 : Int)).snd]], []))
   else
    bif decide (runD s (0 : Int) < (↑s.length : Int)) then
     bif decide ((0 : Int) ≤ runD s (0 : Int) ∧ runD s (0 : Int) < (↑s.length : Int)) then
      bif (↑(s.getD (runD s (0 : Int)).toNat (0 : UInt8)).toNat : Int) == (58 : Int) then
       bif decide ((0 : Int) ≤ runD s (0 : Int) ∧ runD s (0 : Int) ≤ (↑s.length : Int)) then
        bif decide (IntKind.i64.wrap (runD s (0 : Int) + (1 : Int)) ≥ (↑s.length : Int)) then
         some ((AV.tup [AV.agg [AV.str [], AV.str [], AV.str []], AV.agg [AV.int IntKind.i64 (wrongAt s (IntKind.i64.wrap (runD s (0 : Int) + (1 : Int)))).fst, AV.int IntKind.i64 (wrongAt s (IntKind.i64.wrap (runD s (0 : Int) + (1 : Int)))).snd]], []))
        else
         bif decide ((0 : Int) ≤ IntKind.i64.wrap (runD s (0 : Int) + (1 : Int)) ∧ IntKind.i64.wrap (runD s (0 : Int) + (1 : Int)) < (↑s.length : Int)) then
          bif !isC (1 : Int) (↑(s.getD (IntKind.i64.wrap (runD s (0 : Int) + (1 : Int))).toNat (0 : UInt8)).toNat : Int) then
           some ((AV.tup [AV.agg [AV.str [], AV.str [], AV.str []], AV.agg [AV.int IntKind.i64 (wrongAt s (IntKind.i64.wrap (runD s (0 : Int) + (1 : Int)))).fst, AV.int IntKind.i64 (wrongAt s (IntKind.i64.wrap (runD s (0 : Int) + (1 : Int)))).snd]], []))
          else
           bif decide ((0 : Int) ≤ IntKind.i64.wrap (runD s (0 : Int) + (1 : Int)) ∧ IntKind.i64.wrap (runD s (0 : Int) + (1 : Int)) ≤ (↑s.length : Int) ∧ s.length ≤ 4611686018427387903) then
            bif decide (firstX (upB ((↑(s.getD (runD s (0 : Int)).toNat (0 : UInt8)).toNat : Int) == (58 : Int)) true) s (IntKind.i64.wrap (runD s (0 : Int) + (1 : Int))) = (↑s.length : Int)) then
             bif decide (lastN s (45 : Int) s.length < IntKind.i64.wrap (runD s (0 : Int) + (1 : Int))) then
              bif decide ((0 : Int) ≤ IntKind.i64.wrap (runD s (0 : Int) + (1 : Int)) ∧ IntKind.i64.wrap (runD s (0 : Int) + (1 : Int)) ≤ (↑s.length : Int)) then
               some ((AV.tup [AV.agg [AV.str (trimD (List.take (runD s (0 : Int)).toNat s)), AV.str (List.drop (IntKind.i64.wrap (runD s (0 : Int) + (1 : Int))).toNat s), AV.str []], AV.agg [AV.int IntKind.i64 (0 : Int), AV.int IntKind.i64 (0 : Int)]], []))
              else
               none
             else
              bif decide ((0 : Int) ≤ IntKind.i64.wrap (runD s (0 : Int) + (1 : Int)) ∧ IntKind.i64.wrap (runD s (0 : Int) + (1 : Int)) ≤ lastN s (45 : Int) s.length ∧ lastN s (45 : Int) s.length ≤ (↑s.length : Int)) then
               bif decide ((0 : Int) ≤ IntKind.i64.wrap (lastN s (45 : Int) s.length + (1 : Int)) ∧ IntKind.i64.wrap (lastN s (45 : Int) s.length + (1 : Int)) ≤ (↑s.length : Int)) then
                bif List.drop (IntKind.i64.wrap (lastN s (45 : Int) s.length + (1 : Int))).toNat s == [] then
                 some ((AV.tup [AV.agg [AV.str [], AV.str [], AV.str []], AV.agg [AV.int IntKind.i64 (wrongAt s (↑s.length : Int)).fst, AV.int IntKind.i64 (wrongAt s (↑s.length : Int)).snd]], []))
                else
                 bif decide (Lib.indexByte (List.drop (IntKind.i64.wrap (lastN s (45 : Int) s.length + (1 : Int))).toNat s) (58 : UInt8) ≥ (0 : Int)) then
                  some ((AV.tup [AV.agg [AV.str [], AV.str [], AV.str []], AV.agg [AV.int IntKind.i64 (wrongAt s (↑s.length : Int)).fst, AV.int IntKind.i64 (wrongAt s (↑s.length : Int)).snd]], []))
                 else
                  some ((AV.tup [AV.agg [AV.str (trimD (List.take (runD s (0 : Int)).toNat s)), AV.str (List.take ((lastN s (45 : Int) s.length).toNat - (IntKind.i64.wrap (runD s (0 : Int) + (1 : Int))).toNat) (List.drop (IntKind.i64.wrap (runD s (0 : Int) + (1 : Int))).toNat s)), AV.str (List.drop (IntKind.i64.wrap (lastN s (45 : Int) s.length + (1 : Int))).toNat s)], AV.agg [AV.int IntKind.i64 (0 : Int), AV.int IntKind.i64 (0 : Int)]], []))
               else
                none
              else
               none
            else
             some ((AV.tup [AV.agg [AV.str [], AV.str [], AV.str []], AV.agg [AV.int IntKind.i64 (wrongAt s (firstX (upB ((↑(s.getD (runD s (0 : Int)).toNat (0 : UInt8)).toNat : Int) == (58 : Int)) true) s (IntKind.i64.wrap (runD s (0 : Int) + (1 : Int))))).fst, AV.int IntKind.i64 (wrongAt s (firstX (upB ((↑(s.getD (runD s (0 : Int)).toNat (0 : UInt8)).toNat : Int) == (58 : Int)) true) s (IntKind.i64.wrap (runD s (0 : Int) + (1 : Int))))).snd]], []))
           else
            none
         else
          none
       else
        none
      else
       bif decide ((0 : Int) ≤ (0 : Int) ∧ (0 : Int) ≤ (↑s.length : Int) ∧ s.length ≤ 4611686018427387903) then
        bif decide (firstX (upB ((↑(s.getD (runD s (0 : Int)).toNat (0 : UInt8)).toNat : Int) == (58 : Int)) true) s (0 : Int) = (↑s.length : Int)) then
         bif decide (lastN s (45 : Int) s.length < (0 : Int)) then
          some ((AV.tup [AV.agg [AV.str [(48 : UInt8)], AV.str (List.drop 0 s), AV.str []], AV.agg [AV.int IntKind.i64 (0 : Int), AV.int IntKind.i64 (0 : Int)]], []))
         else
          bif decide ((0 : Int) ≤ (0 : Int) ∧ (0 : Int) ≤ lastN s (45 : Int) s.length ∧ lastN s (45 : Int) s.length ≤ (↑s.length : Int)) then
           bif decide ((0 : Int) ≤ IntKind.i64.wrap (lastN s (45 : Int) s.length + (1 : Int)) ∧ IntKind.i64.wrap (lastN s (45 : Int) s.length + (1 : Int)) ≤ (↑s.length : Int)) then
            bif List.drop (IntKind.i64.wrap (lastN s (45 : Int) s.length + (1 : Int))).toNat s == [] then
             some ((AV.tup [AV.agg [AV.str [], AV.str [], AV.str []], AV.agg [AV.int IntKind.i64 (wrongAt s (↑s.length : Int)).fst, AV.int IntKind.i64 (wrongAt s (↑s.length : Int)).snd]], []))
            else
             bif decide (Lib.indexByte (List.drop (IntKind.i64.wrap (lastN s (45 : Int) s.length + (1 : Int))).toNat s) (58 : UInt8) ≥ (0 : Int)) then
              some ((AV.tup [AV.agg [AV.str [], AV.str [], AV.str []], AV.agg [AV.int IntKind.i64 (wrongAt s (↑s.length : Int)).fst, AV.int IntKind.i64 (wrongAt s (↑s.length : Int)).snd]], []))
             else
              some ((AV.tup [AV.agg [AV.str [(48 : UInt8)], AV.str (List.take ((lastN s (45 : Int) s.length).toNat - 0) (List.drop 0 s)), AV.str (List.drop (IntKind.i64.wrap (lastN s (45 : Int) s.length + (1 : Int))).toNat s)], AV.agg [AV.int IntKind.i64 (0 : Int), AV.int IntKind.i64 (0 : Int)]], []))
           else
            none
          else
           none
        else
         some ((AV.tup [AV.agg [AV.str [], AV.str [], AV.str []], AV.agg [AV.int IntKind.i64 (wrongAt s (firstX (upB ((↑(s.getD (runD s (0 : Int)).toNat (0 : UInt8)).toNat : Int) == (58 : Int)) true) s (0 : Int))).fst, AV.int IntKind.i64 (wrongAt s (firstX (upB ((↑(s.getD (runD s (0 : Int)).toNat (0 : UInt8)).toNat : Int) == (58 : Int)) true) s (0 : Int))).snd]], []))
       else
        none
     else
      none
    else
     bif decide ((0 : Int) ≤ (0 : Int) ∧ (0 : Int) ≤ (↑s.length : Int) ∧ s.length ≤ 4611686018427387903) then
      bif decide (firstX (upB false true) s (0 : Int) = (↑s.length : Int)) then
       bif decide (lastN s (45 : Int) s.length < (0 : Int)) then
        some ((AV.tup [AV.agg [AV.str [(48 : UInt8)], AV.str (List.drop 0 s), AV.str []], AV.agg [AV.int IntKind.i64 (0 : Int), AV.int IntKind.i64 (0 : Int)]], []))
       else
        bif decide ((0 : Int) ≤ (0 : Int) ∧ (0 : Int) ≤ lastN s (45 : Int) s.length ∧ lastN s (45 : Int) s.length ≤ (↑s.length : Int)) then
         bif decide ((0 : Int) ≤ IntKind.i64.wrap (lastN s (45 : Int) s.length + (1 : Int)) ∧ IntKind.i64.wrap (lastN s (45 : Int) s.length + (1 : Int)) ≤ (↑s.length : Int)) then
          bif List.drop (IntKind.i64.wrap (lastN s (45 : Int) s.length + (1 : Int))).toNat s == [] then
           some ((AV.tup [AV.agg [AV.str [], AV.str [], AV.str []], AV.agg [AV.int IntKind.i64 (wrongAt s (↑s.length : Int)).fst, AV.int IntKind.i64 (wrongAt s (↑s.length : Int)).snd]], []))
          else
           bif decide (Lib.indexByte (List.drop (IntKind.i64.wrap (lastN s (45 : Int) s.length + (1 : Int))).toNat s) (58 : UInt8) ≥ (0 : Int)) then
            some ((AV.tup [AV.agg [AV.str [], AV.str [], AV.str []], AV.agg [AV.int IntKind.i64 (wrongAt s (↑s.length : Int)).fst, AV.int IntKind.i64 (wrongAt s (↑s.length : Int)).snd]], []))
           else
            some ((AV.tup [AV.agg [AV.str [(48 : UInt8)], AV.str (List.take ((lastN s (45 : Int) s.length).toNat - 0) (List.drop 0 s)), AV.str (List.drop (IntKind.i64.wrap (lastN s (45 : Int) s.length + (1 : Int))).toNat s)], AV.agg [AV.int IntKind.i64 (0 : Int), AV.int IntKind.i64 (0 : Int)]], []))
         else
          none
        else
         none
      else
       some ((AV.tup [AV.agg [AV.str [], AV.str [], AV.str []], AV.agg [AV.int IntKind.i64 (wrongAt s (firstX (upB false true) s (0 : Int))).fst, AV.int IntKind.i64 (wrongAt s (firstX (upB false true) s (0 : Int))).snd]], []))
     else
      none := by kernel_rfl

abbrev VF := (List UInt8 × List UInt8 × List UInt8) × (Int × Int)

def bodyD (s ep : List UInt8) (fr : Int) (co : Bool) : VF :=
  if firstX (upB co true) s fr = s.length then
    if lastN s 45 s.length < fr then ((ep, s.drop fr.toNat, []), (0, 0))
    else if s.drop (lastN s 45 s.length + 1).toNat = [] ∨ Lib.indexByte (s.drop (lastN s 45 s.length + 1).toNat) 58 ≥ 0 then (([], [], []), wrongAt s s.length)
    else ((ep, (s.drop fr.toNat).take ((lastN s 45 s.length).toNat - fr.toNat), s.drop (lastN s 45 s.length + 1).toNat), (0, 0))
  else (([], [], []), wrongAt s (firstX (upB co true) s fr))

def parseD (s : List UInt8) : VF :=
  if s.length > 64 then (([], [], []), (12, 64))
  else if runD s 0 = 0 then (([], [], []), wrongAt s 0)
  else if runD s 0 < s.length ∧ ((s.getD (runD s 0).toNat 0).toNat : Int) = 58 then
    (if runD s 0 + 1 ≥ s.length ∨ isC 1 ((s.getD (runD s 0 + 1).toNat 0).toNat : Int) = false then (([], [], []), wrongAt s (runD s 0 + 1))
     else bodyD s (trimD (s.take (runD s 0).toNat)) (runD s 0 + 1) true)
  else bodyD s [48] 0 false

def vfAV (x : VF) : AV := .tup [verAV x.1.1 x.1.2.1 x.1.2.2, fltAV x.2.1 x.2.2]

def c9 : List AV → T AV
  | [.str s] => .leaf (vfAV (parseD s))
  | _ => .fail

theorem lastN_ge (s : List UInt8) (c : Int) : ∀ n, -1 ≤ lastN s c n ∧ lastN s c n < (n : Int)
  | 0 => by simp [lastN]
  | n + 1 => by
    have := lastN_ge s c n
    unfold lastN
    split <;> omega

theorem runD_zero (s : List UInt8) : 0 ≤ runD s 0 ∧ runD s 0 ≤ s.length := by
  have h := runL_le (s.drop 0)
  unfold runD
  split
  · omega
  · simp at h ⊢; omega

theorem tail9 (s ep : List UInt8) (fr : Int) (co : Bool) (hl : ¬ s.length > 64) (h0 : 0 ≤ fr) (h1 : fr ≤ s.length) : (
            bif decide (firstX (upB co true) s fr = (↑s.length : Int)) then
             bif decide (lastN s (45 : Int) s.length < fr) then
              bif decide ((0 : Int) ≤ fr ∧ fr ≤ (↑s.length : Int)) then
               some ((AV.tup [AV.agg [AV.str ep, AV.str (List.drop fr.toNat s), AV.str []], AV.agg [AV.int IntKind.i64 (0 : Int), AV.int IntKind.i64 (0 : Int)]], []))
              else
               none
             else
              bif decide ((0 : Int) ≤ fr ∧ fr ≤ lastN s (45 : Int) s.length ∧ lastN s (45 : Int) s.length ≤ (↑s.length : Int)) then
               bif true then
                bif List.drop (lastN s 45 s.length + 1).toNat s == [] then
                 some ((AV.tup [AV.agg [AV.str [], AV.str [], AV.str []], AV.agg [AV.int IntKind.i64 (wrongAt s (↑s.length : Int)).fst, AV.int IntKind.i64 (wrongAt s (↑s.length : Int)).snd]], []))
                else
                 bif decide (Lib.indexByte (List.drop (lastN s 45 s.length + 1).toNat s) (58 : UInt8) ≥ (0 : Int)) then
                  some ((AV.tup [AV.agg [AV.str [], AV.str [], AV.str []], AV.agg [AV.int IntKind.i64 (wrongAt s (↑s.length : Int)).fst, AV.int IntKind.i64 (wrongAt s (↑s.length : Int)).snd]], []))
                 else
                  some ((AV.tup [AV.agg [AV.str ep, AV.str (List.take ((lastN s (45 : Int) s.length).toNat - fr.toNat) (List.drop fr.toNat s)), AV.str (List.drop (lastN s 45 s.length + 1).toNat s)], AV.agg [AV.int IntKind.i64 (0 : Int), AV.int IntKind.i64 (0 : Int)]], []))
               else
                none
              else
               none
            else
             some ((AV.tup [AV.agg [AV.str [], AV.str [], AV.str []], AV.agg [AV.int IntKind.i64 (wrongAt s (firstX (upB co true) s fr)).fst, AV.int IntKind.i64 (wrongAt s (firstX (upB co true) s fr)).snd]], []))) = some (vfAV (bodyD s ep fr co), ([] : Hp)) := by
  obtain ⟨b1, b2⟩ := lastN_ge s 45 s.length
  unfold bodyD
  by_cases c1 : firstX (upB co true) s fr = s.length
  · by_cases c2 : lastN s 45 s.length < fr
    · have g : (0 : Int) ≤ fr ∧ fr ≤ (s.length : Int) := ⟨h0, h1⟩
      simp [c1, c2, g, vfAV, verAV, fltAV]
    · have g : (0 : Int) ≤ fr ∧ fr ≤ lastN s 45 s.length ∧ lastN s 45 s.length ≤ (s.length : Int) := by omega
      rw [if_pos c1, if_neg c2]
      simp only [c1, c2, g, decide_true, decide_false, cond_true, cond_false, and_self]
      cases c3 : (List.drop (lastN s 45 s.length + 1).toNat s == [])
      · have c3' : ¬ List.drop (lastN s 45 s.length + 1).toNat s = [] := by intro h; rw [h] at c3; simp at c3
        by_cases c4 : Lib.indexByte (List.drop (lastN s 45 s.length + 1).toNat s) 58 ≥ 0
        · simp only [c3', c4, false_or, if_true, decide_true, cond_true, cond_false]; rfl
        · simp only [c3', c4, false_or, if_false, decide_false, cond_false, or_self]; rfl
      · have c3' : List.drop (lastN s 45 s.length + 1).toNat s = [] := by simpa using c3
        simp only [c3', true_or, if_true, cond_true]; rfl
  · simp [c1, vfAV, verAV, fltAV]

theorem s9 : Sound1 Tryd.prog ⟨9, true, pcon c9⟩ := by
  refine sound_pure okN (hn := h9) (m := 20) (k := 9) (Λ := L9) (oneLoop (by kernel_rfl) l9) fun args r hF h => ?_
  unfold c9 at h
  split at h
  · rename_i s
    simp only [T.run_leaf, Option.some.injEq] at h; subst h
    refine (t9 s).trans ?_
    obtain ⟨a1, a2⟩ := runD_zero s
    obtain ⟨b1, b2⟩ := lastN_ge s 45 s.length
    by_cases hl : s.length > 64
    · have : (s.length : Int) > 64 := by omega
      simp [parseD, vfAV, hl, this, verAV, fltAV]
    have hl' : ¬ (s.length : Int) > 64 := by omega
    rw [w64 (n := runD s 0 + 1) (by omega) (by omega), w64 (n := lastN s 45 s.length + 1) (by omega) (by omega)]
    have hb : s.length ≤ 4611686018427387903 := by omega
    have g0 : decide ((0 : Int) ≤ 0 ∧ (0 : Int) ≤ (s.length : Int) ∧ s.length ≤ 4611686018427387903) = true := by simp; omega
    have g1 : decide ((0 : Int) ≤ 0 ∧ (0 : Int) ≤ (s.length : Int)) = true := by simp
    have g2 : decide ((0 : Int) ≤ runD s 0 ∧ runD s 0 ≤ (s.length : Int)) = true := by simp; omega
    have g3 : decide ((0 : Int) ≤ lastN s 45 s.length + 1 ∧ lastN s 45 s.length + 1 ≤ (s.length : Int)) = true := by simp; omega
    unfold parseD
    rw [if_neg hl, show decide ((s.length : Int) > 64) = false by simpa using hl']
    simp only [cond_false, g0, g1, g2, g3, cond_true]
    by_cases h0 : runD s 0 = 0
    · simp [h0, vfAV, verAV, fltAV]
    rw [if_neg h0, show (runD s 0 == 0) = false by simpa using h0]
    simp only [cond_false]
    by_cases h1 : runD s 0 < s.length
    · have g4 : decide ((0 : Int) ≤ runD s 0 ∧ runD s 0 < (s.length : Int)) = true := by simp; omega
      simp only [g4, decide_true, h1, cond_true, true_and]
      cases h2 : (((s.getD (runD s 0).toNat 0).toNat : Int) == 58)
      · have h2' : ¬ ((s.getD (runD s 0).toNat 0).toNat : Int) = 58 := by intro h; rw [h] at h2; simp at h2
        rw [if_neg h2']
        simp only [cond_false]
        exact tail9 s [48] 0 false hl (by omega) (by omega)
      · have h2' : ((s.getD (runD s 0).toNat 0).toNat : Int) = 58 := by simpa using h2
        rw [if_pos h2']
        simp only [cond_true]
        by_cases h3 : runD s 0 + 1 ≥ s.length
        · simp only [h3, decide_true, cond_true, true_or, if_true]; rfl
        · have g5 : decide ((0 : Int) ≤ runD s 0 + 1 ∧ runD s 0 + 1 < (s.length : Int)) = true := by simp; omega
          have g6 : decide ((0 : Int) ≤ runD s 0 + 1 ∧ runD s 0 + 1 ≤ (s.length : Int) ∧ s.length ≤ 4611686018427387903) = true := by simp; omega
          simp only [h3, decide_false, cond_false, false_or, g5, g6, cond_true]
          cases h4 : isC 1 ((s.getD (runD s 0 + 1).toNat 0).toNat : Int)
          · simp only [Bool.not_false, cond_true, if_true]; rfl
          · simp only [Bool.not_true, cond_false, Bool.true_eq_false, if_false]
            exact tail9 s _ _ true hl (by omega) (by omega)
    · simp only [h1, decide_false, cond_false, false_and, if_false]
      exact tail9 s [48] 0 false hl (by omega) (by omega)
  · cases h

end Go.Deb
namespace Go.Deb

open Go Go.Proofs Go.Ab

set_option linter.unusedVariables false

set_option linter.unusedSimpArgs false

def tabO : Tab := ⟨9, true, pcon c9⟩ :: tabN

theorem allO : ∀ e, e ∈ tabO → Sound1 Tryd.prog e := sound_mem_tab s9 allN

theorem okO : SoundTab Tryd.prog tabO := soundTab_of allO

/-! ### deb.Compare -/

theorem t12 (a b : List UInt8) : (evn tabO h12 noLoops 12 [.str a, .str b] []).run =
  bif (parseD a).snd.fst == (0 : Int) then
   bif (parseD b).snd.fst == (0 : Int) then
    bif decide ((parseD a).fst.fst.length + (parseD a).fst.snd.fst.length + (parseD a).fst.snd.snd.length + 2 ≤ 4611686018427387903 ∧ (parseD b).fst.fst.length + (parseD b).fst.snd.fst.length + (parseD b).fst.snd.snd.length + 2 ≤ 4611686018427387903) then
     some ((AV.int IntKind.i64 (orderD (parseD a).fst.fst (parseD a).fst.snd.fst (parseD a).fst.snd.snd (parseD b).fst.fst (parseD b).fst.snd.fst (parseD b).fst.snd.snd), []))
    else
     none
   else
    bif !((parseD a).snd.fst == (0 : Int)) == ((parseD b).snd.fst == (0 : Int)) then
     some ((AV.int IntKind.i64 (IntKind.i64.wrap (truthZ ((parseD a).snd.fst == (0 : Int)) - truthZ ((parseD b).snd.fst == (0 : Int)))), []))
    else
     some ((AV.int IntKind.i64 (Lib.compareBytes a b), []))
  else
   bif !((parseD a).snd.fst == (0 : Int)) == ((parseD b).snd.fst == (0 : Int)) then
    some ((AV.int IntKind.i64 (IntKind.i64.wrap (truthZ ((parseD a).snd.fst == (0 : Int)) - truthZ ((parseD b).snd.fst == (0 : Int)))), []))
   else
    some ((AV.int IntKind.i64 (Lib.compareBytes a b), [])) := by kernel_rfl

theorem dropB_le (c : Int) (l : List UInt8) : (dropB c l).length ≤ l.length := by
  have h : l.takeWhile (fun b => (b.toNat : Int) == c) ++ l.dropWhile (fun b => (b.toNat : Int) == c) = l := List.takeWhile_append_dropWhile
  have e := congrArg List.length h
  simp only [List.length_append] at e
  unfold dropB; omega

theorem trimD_le (l : List UInt8) : (trimD l).length ≤ l.length + 1 := by
  have := dropB_le 48 l
  unfold trimD
  (repeat' split) <;> simp <;> omega

theorem parse_len (s : List UInt8) : (parseD s).1.1.length + (parseD s).1.2.1.length + (parseD s).1.2.2.length + 2 ≤ 200 := by
  have body : ∀ ep fr co, ¬ s.length > 64 → ep.length ≤ 65 → (bodyD s ep fr co).1.1.length + (bodyD s ep fr co).1.2.1.length + (bodyD s ep fr co).1.2.2.length + 2 ≤ 200 := by
    intro ep fr co h1 h2
    unfold bodyD
    (repeat' split) <;> simp <;> omega
  have ht := trimD_le (s.take (runD s 0).toNat)
  simp only [List.length_take] at ht
  unfold parseD
  split
  · simp
  · rename_i hl
    split
    · simp
    · split
      · split
        · simp
        · exact body _ _ _ hl (by omega)
      · exact body _ _ _ hl (by simp)

def okP (s : List UInt8) : Bool := (parseD s).2.1 == 0

def ordP (a b : List UInt8) : Int := orderD (parseD a).1.1 (parseD a).1.2.1 (parseD a).1.2.2 (parseD b).1.1 (parseD b).1.2.1 (parseD b).1.2.2

def compareD (a b : List UInt8) : Int := if okP a = true ∧ okP b = true then ordP a b else if okP a = okP b then Lib.compareBytes a b else truthZ (okP a) - truthZ (okP b)

def c12 : List AV → T AV
  | [.str a, .str b] => .leaf (.int .i64 (compareD a b))
  | _ => .fail

theorem s12 : Sound1 Tryd.prog ⟨12, true, pcon c12⟩ := by
  refine sound_pure okO (hn := h12) (m := 20) (k := 9) (Λ := noLoops) (noLoop (by kernel_rfl)) fun args r hF h => ?_
  unfold c12 at h
  split at h
  · rename_i a b
    simp only [T.run_leaf, Option.some.injEq] at h; subst h
    refine (t12 a b).trans ?_
    have ha := parse_len a
    have hb := parse_len b
    have g : decide ((parseD a).fst.fst.length + (parseD a).fst.snd.fst.length + (parseD a).fst.snd.snd.length + 2 ≤ 4611686018427387903 ∧ (parseD b).fst.fst.length + (parseD b).fst.snd.fst.length + (parseD b).fst.snd.snd.length + 2 ≤ 4611686018427387903) = true := by simp; omega
    rw [g, show ((parseD a).2.1 == 0) = okP a from rfl, show ((parseD b).2.1 == 0) = okP b from rfl]
    unfold compareD
    rw [show orderD (parseD a).fst.fst (parseD a).fst.snd.fst (parseD a).fst.snd.snd (parseD b).fst.fst (parseD b).fst.snd.fst (parseD b).fst.snd.snd = ordP a b from rfl]
    cases okP a <;> cases okP b <;> rfl
  · cases h

def tabP : Tab := ⟨12, true, pcon c12⟩ :: tabO

theorem allP : ∀ e, e ∈ tabP → Sound1 Tryd.prog e := sound_mem_tab s12 allO

theorem okP' : SoundTab Tryd.prog tabP := soundTab_of allP

/-! ### deb.Holds -/

theorem t23 (a o b : List UInt8) : (evn tabP h23 noLoops 23 [.str a, .str o, .str b] []).run =
  bif (parseD a).snd.fst != (0 : Int) then
   some ((AV.bool false, []))
  else
   bif (parseD b).snd.fst != (0 : Int) then
    some ((AV.bool false, []))
   else
    bif o == [(60 : UInt8), (60 : UInt8)] then
     some ((AV.bool (decide (compareD a b < (0 : Int))), []))
    else
     bif o == [(60 : UInt8), (61 : UInt8)] then
      some ((AV.bool (decide (compareD a b ≤ (0 : Int))), []))
     else
      bif o == [(61 : UInt8)] then
       some ((AV.bool (compareD a b == (0 : Int)), []))
      else
       bif o == [(62 : UInt8), (61 : UInt8)] then
        some ((AV.bool (decide (compareD a b ≥ (0 : Int))), []))
       else
        bif o == [(62 : UInt8), (62 : UInt8)] then
         some ((AV.bool (decide (compareD a b > (0 : Int))), []))
        else
         some ((AV.bool false, [])) := by kernel_rfl

theorem t11  : (evn tabP h11 noLoops 11 [] []).run =
  some ((AV.bool true, [])) := by kernel_rfl

def c11 : List AV → T AV
  | [] => .leaf (.bool true)
  | _ => .fail

theorem anyLoops {t : Tab} {H : Nat → Hd} {hn : HintsT} {f : FuncId} {i : Nat} : LoopOk Tryd.prog t.pf H hn.to f 0 none noLoops (loopAt Tryd.prog f i) := by
  generalize loopAt Tryd.prog f i = c
  cases c with
  | loop c => exact fun l hl => by cases hl
  | rangeFunc _ _ _ _ => exact fun l hl => by cases hl
  | _ => trivial

theorem s11 : Sound1 Tryd.prog ⟨11, true, pcon c11⟩ := by
  refine sound_pure okP' (hn := h11) (m := 20) (k := 9) (Λ := noLoops) (fun i hi => anyLoops) fun args r hF h => ?_
  unfold c11 at h
  split at h
  · simp only [T.run_leaf, Option.some.injEq] at h; subst h
    exact t11
  · cases h

def tabQ : Tab := ⟨11, true, pcon c11⟩ :: tabP

theorem allQ : ∀ e, e ∈ tabQ → Sound1 Tryd.prog e := sound_mem_tab s11 allP

theorem okQ : SoundTab Tryd.prog tabQ := soundTab_of allQ

end Go.Deb

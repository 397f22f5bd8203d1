/- Lemmas for the claims of this seat (a verified symbolic evaluator, and contracts of functions): own work; no condition. -/
import Derived.Test.YtnhoihimdkpmnaaFnH
namespace Go.Pln
open Go Go.Proofs Go.Ab
set_option maxRecDepth 100000
set_option linter.unusedVariables false
set_option linter.unusedSimpArgs false

/-! ### set's contract -/
structure P29 where
  O : List Pk
  d : Bool
def seO (s t : List UInt8) (x : Nat → Pk) : Nat → Nat → List Pk → Bool → P29
  | 0, i, O, d => ⟨O, d⟩
  | k + 1, i, O, d => bif (x i).nm == s then seO s t x k (i + 1) O d else seO s t x k (i + 1) (spO s t (x i) O d) (spD s (x i) d)
theorem seO_step (s t : List UInt8) (x : Nat → Pk) {n i : Nat} (h : i < n) (O : List Pk) (d : Bool) : seO s t x (n - i) i O d =
    bif (x i).nm == s then seO s t x (n - (i + 1)) (i + 1) O d else seO s t x (n - (i + 1)) (i + 1) (spO s t (x i) O d) (spD s (x i) d) := by
  obtain ⟨k, hk⟩ : ∃ k, n - i = k + 1 := ⟨n - i - 1, by omega⟩
  rw [hk, show n - (i + 1) = k by omega]
  rfl
theorem spO_len (s t : List UInt8) (x : Pk) (O : List Pk) (d : Bool) : (spO s t x O d).length ≤ O.length + 2 := by
  unfold spO
  cases (!d && gtr x.nm s)
  · simp only [cond_false, List.length_append, List.length_cons, List.length_nil]; omega
  · simp only [cond_true, List.length_append, List.length_cons, List.length_nil]; omega
structure Y29 where
  l : AV
  s : List UInt8
  t : List UInt8
  o : AV
  d : Bool
  i : Nat
  hp : Hp
def e29 : Y29 → List AV × Hp := fun ⟨l, s, t, o, d, i, hp⟩ => ([l, .str s, .str t, o, .bool d, .int .i64 i], hp)
def d29 : List AV × Hp → Y29
  | ([l, .str s, .str t, o, .bool d, .int _ i], hp) => ⟨l, s, t, o, d, i.toNat, hp⟩
  | _ => ⟨.junk, [], [], .junk, false, 0, []⟩
theorem i29 : ∀ x, d29 (e29 x) = x := by
  rintro ⟨l, s, t, o, d, i, hp⟩
  rfl
def p29 : Y29 → Prop := fun ⟨l, s, t, o, d, i, hp⟩ => (l = .nilsl ∧ o = .nilsl ∧ i = 0 ∧ hp = []) ∨
  ∃ n x O, l = .row 0 2 0 n ∧ o = rAG CK 1 O ∧ hp = rwQ n x :: rHG CK O ∧ i ≤ n ∧ n ≤ bnd ∧ O.length + 2 * (n - i) ≤ 4398046511103
noncomputable def zx29 (s t : List UInt8) (d : Bool) : AX × St := (.exit 0, { tm := tmOf 58 [(0, .nilsl), (1, .str s), (2, .str t), (7, .nilsl), (8, .bool d), (9, .int .i64 0), (15, .bool false)], ms := [], hp := [] })
noncomputable def fin29 (n : Nat) (x : Nat → Pk) (s t : List UInt8) (r : P29) : T (AX × St) :=
  .br r.O.isEmpty (.leaf (ex29 n x s t .nilsl r.d n [])) (.leaf (ex29 n x s t (.row 1 2 0 r.O.length) r.d n [some (.row 2 r.O.length (rowG CK (fnR CK.df r.O)))]))
theorem fin29_ex (n : Nat) (x : Nat → Pk) (s t : List UInt8) (O : List Pk) (d : Bool) : (fin29 n x s t ⟨O, d⟩).run = some (ex29 n x s t (rAG CK 1 O) d n (rHG CK O)) := by cases O <;> rfl
def unN29 : Hp → Nat
  | some (.row _ n _) :: _ => n
  | _ => 0
def unX29 : Hp → Nat → Pk
  | some (.row _ _ g) :: _ => unG CK g
  | _ => fun _ => default
noncomputable def r29 : Y29 → T (AX × St) := fun ⟨l, s, t, o, d, i, hp⟩ => match l with
  | .nilsl => .leaf (zx29 s t d)
  | _ => fin29 (unN29 hp) (unX29 hp) s t (seO s t (unX29 hp) (unN29 hp - i) i (unHG CK (hp.drop 1)) d)
noncomputable def L29 : LoopT := fun k => match Nat.beq k 400065 with
  | true => some (lccon (mbits 903 58) e29 d29 p29 r29)
  | false => none
theorem tz29 (b : Nat) (hb : b = 0 ∨ b = 1) (Λ0 : LoopT) (s t : List UInt8) (d : Bool) : (rdn tabZa h29 Λ0 29 b 0 { tm := encGo (mbits 903 58) [.nilsl, .str s, .str t, .nilsl, .bool d, .int .i64 0], ms := [], hp := [] }).run = some (zx29 s t d) := by rcases hb with rfl | rfl <;> kernel_rfl
theorem unX_eq (n : Nat) (x : Nat → Pk) (r : Hp) : unX29 (rwQ n x :: r) = x := unG_rowG okCK _
theorem l29 (b : Nat) (hb : b = 0 ∨ b = 1) : LoopOk Try.prog tabZa.pf (fun n => hd Try.prog tabZa.pf tabZa.con.run (fun f => (H0 f).to) n 9) h29.to 29 b none L29 (loopAt Try.prog 29 0) := by
  rw [show loopAt Try.prog 29 0 = .loop (lbody Try.prog 29 0) by kernel_rfl]
  refine loop_c (hdT_le (m := 20) 9) (m := 20) (lv := mbits 903 58) (p := p29) (res := r29) i29 (within_of _ (by rw [show loopsOf (lbody Try.prog 29 0) = [] by kernel_rfl]; simp)) (by kernel_rfl) (fun ⟨l, s, t, o, d, i, hp⟩ => unN29 hp - i) ?_
  rintro ⟨l, s, t, o, d, i, hp⟩ (⟨rfl, rfl, rfl, rfl⟩ | ⟨n, x, O, rfl, rfl, rfl, h1, h2, h3⟩)
  · right
    exact ⟨zx29 s t d, by simp [zx29], rfl, tz29 b hb L29 s t d⟩
  have ht := t29 b hb L29 n x s t O d i h1 h2 (by omega)
  by_cases hi : i < n
  · rw [decide_eq_true hi, cond_true] at ht
    have ha := seO_step s t x hi O d
    cases hq : ((x i).nm == s) with
    | true =>
      rw [hq, cond_true] at ht ha
      left
      refine ⟨⟨.row 0 2 0 n, s, t, rAG CK 1 O, d, i + 1, rwQ n x :: rHG CK O⟩, .inr ⟨n, x, O, rfl, rfl, rfl, by omega, h2, by omega⟩, ?_, ?_, ht⟩
      · simp only [unN29]; omega
      · simp only [r29, List.drop_succ_cons, List.drop_zero, unX_eq, unHG_rHG okCK, unN29, ha]
    | false =>
      rw [hq, cond_false] at ht ha
      left
      have hl := spO_len s t (x i) O d
      refine ⟨⟨.row 0 2 0 n, s, t, rAG CK 1 (spO s t (x i) O d), spD s (x i) d, i + 1, rwQ n x :: rHG CK (spO s t (x i) O d)⟩, .inr ⟨n, x, _, rfl, rfl, rfl, by omega, h2, by omega⟩, ?_, ?_, ht⟩
      · simp only [unN29]; omega
      · simp only [r29, List.drop_succ_cons, List.drop_zero, unX_eq, unHG_rHG okCK, unN29, ha]
  · obtain rfl : n = i := by omega
    rw [decide_eq_false hi, cond_false] at ht
    right
    refine ⟨_, ?_, ?_, ht⟩
    · simp [ex29]
    · simp only [r29, List.drop_succ_cons, List.drop_zero, unX_eq, unHG_rHG okCK, unN29, Nat.sub_self]
      exact fin29_ex n x s t O d
theorem u29n (s t : List UInt8) : (evn tabZa h29 L29 29 [.nilsl, .str s, .str t] []).run =
  bif isEn e29 p29 ([.nilsl, .str s, .str t, .nilsl, .bool (t == []), .int .i64 0], []) then
   bif !t == [] then some (.row 0 2 0 1, [some (.row 2 1 (two s t))]) else some (.nilsl, [])
  else none := by kernel_rfl
noncomputable def aft29 (n : Nat) (x : Nat → Pk) (s t : List UInt8) (r : P29) : Option (AV × Hp) :=
  bif r.O.isEmpty then
   bif !r.d then some (.row 1 2 0 1, [rwQ n x, some (.row 2 1 (two s t))]) else some (.nilsl, [rwQ n x])
  else bif !r.d then
   bif decide (r.O.length = r.O.length) then
    bif fitsB r.O.length then some (.row 1 2 0 (r.O.length + 1), [rwQ n x, some (.row 2 (r.O.length + 1) (appF r.O.length (rowG CK (fnR CK.df r.O)) (two s t)))]) else none
   else none
  else some (.row 1 2 0 r.O.length, [rwQ n x, some (.row 2 r.O.length (rowG CK (fnR CK.df r.O)))])
theorem u29r (n : Nat) (x : Nat → Pk) (s t : List UInt8) : (evn tabZa h29 L29 29 [.row 0 2 0 n, .str s, .str t] [rwQ n x]).run =
  bif isEn e29 p29 ([.row 0 2 0 n, .str s, .str t, .nilsl, .bool (t == []), .int .i64 0], [rwQ n x]) then
   aft29 n (unX29 [rwQ n x]) s t (seO s t (unX29 [rwQ n x]) (n - 0) 0 (unHG CK []) (t == []))
  else none := by kernel_rfl
/-- What set tells. -/
def se (s t : List UInt8) (n : Nat) (x : Nat → Pk) : P29 := seO s t x n 0 [] (t == [])
def seE (s t : List UInt8) (r : P29) : List Pk := bif r.d then r.O else r.O ++ [⟨s, t⟩]
theorem seO_len (s t : List UInt8) (x : Nat → Pk) : ∀ k i O d, (seO s t x k i O d).O.length ≤ O.length + 2 * k
  | 0, i, O, d => by show O.length ≤ _; omega
  | k + 1, i, O, d => by
    unfold seO
    have hs := spO_len s t (x i) O d
    have h1 := seO_len s t x k (i + 1) O d
    have h2 := seO_len s t x k (i + 1) (spO s t (x i) O d) (spD s (x i) d)
    cases ((x i).nm == s)
    · simp only [cond_false]; omega
    · simp only [cond_true]; omega
structure X29 where
  l : AV
  s : List UInt8
  t : List UInt8
  hp : Hp
noncomputable def en29 : X29 → List AV × Hp := fun ⟨l, s, t, hp⟩ => ([l, .str s, .str t], hp)
def de29 : List AV × Hp → X29
  | ([l, .str s, .str t], hp) => ⟨l, s, t, hp⟩
  | _ => ⟨.junk, [], [], []⟩
def pr29 : X29 → Prop := fun ⟨l, s, t, hp⟩ => (l = .nilsl ∧ hp = []) ∨ ∃ n x, l = .row 0 2 0 n ∧ hp = [rwQ n x] ∧ n ≤ 1099511627776
noncomputable def rs29 : X29 → T (AV × Hp) := fun ⟨l, s, t, hp⟩ => match l with
  | .nilsl => .br (t == []) (.leaf (.nilsl, [])) (.leaf (.row 0 2 0 1, [rwP [⟨s, t⟩]]))
  | _ => .br (seE s t (se s t (unN29 hp) (unX29 hp))).isEmpty (.leaf (.nilsl, [rwQ (unN29 hp) (unX29 hp)]))
    (.leaf (.row 1 2 0 (seE s t (se s t (unN29 hp) (unX29 hp))).length, [rwQ (unN29 hp) (unX29 hp), rwP (seE s t (se s t (unN29 hp) (unX29 hp)))]))
theorem s29 : Sound1 Try.prog ⟨29, false, gcon (mcon en29 de29 pr29 rs29)⟩ := by
  refine sound_cm (m := 20) (k := 9) (hn := h29) (Λ := L29) (soundTab_of all_tabZa) (enc := en29) (dec := de29) (p := pr29) (res := rs29) (fun ⟨l, s, t, hp⟩ => rfl) (fun ⟨l, s, t, hp⟩ hp1 => oneLoop (by kernel_rfl) (l29 _ (by
    rcases hp1 with ⟨_, rfl⟩ | ⟨n, x, _, rfl, _⟩
    · exact .inl rfl
    · exact .inr rfl))) ?_
  rintro ⟨l, s, t, hp⟩ (⟨rfl, rfl⟩ | ⟨n, x, rfl, rfl, hp⟩) hF hH
  · refine (u29n s t).trans ?_
    rw [show isEn e29 p29 ([.nilsl, .str s, .str t, .nilsl, .bool (t == []), .int .i64 0], []) = true from isEn_true (enc := e29) (p := p29) ⟨.nilsl, s, t, .nilsl, t == [], 0, []⟩ (.inl ⟨rfl, rfl, rfl, rfl⟩), show two s t = rowG CK (fnR CK.df [⟨s, t⟩]) from two_first ⟨s, t⟩]
    simp only [rs29, T.run_br, T.run_leaf]
    cases (t == []) <;> rfl
  · refine (u29r n x s t).trans ?_
    rw [show isEn e29 p29 ([.row 0 2 0 n, .str s, .str t, .nilsl, .bool (t == []), .int .i64 0], [rwQ n x]) = true from isEn_true (enc := e29) (p := p29) ⟨.row 0 2 0 n, s, t, .nilsl, t == [], 0, [rwQ n x]⟩ (.inr ⟨n, x, [], rfl, rfl, rfl, Nat.zero_le _, by simp only [bnd]; omega, by simp only [List.length_nil]; omega⟩), unX_eq, Nat.sub_zero, cond_true]
    have h1 := seO_len s t x n 0 [] (t == [])
    simp only [List.length_nil, Nat.zero_add] at h1
    show aft29 n x s t (se s t n x) = (rs29 ⟨.row 0 2 0 n, s, t, [rwQ n x]⟩).run
    replace h1 : (se s t n x).O.length ≤ 2 * n := h1
    simp only [rs29, T.run_br, T.run_leaf, unX_eq, unN29]
    revert h1
    generalize se s t n x = r
    rintro h1
    obtain ⟨O, d⟩ := r
    simp only at h1
    cases O with
    | nil =>
      cases d with
      | true => rfl
      | false =>
        unfold aft29
        rw [show two s t = rowG CK (fnR CK.df [⟨s, t⟩]) from two_first ⟨s, t⟩]
        rfl
    | cons o O =>
      cases d with
      | true => rfl
      | false =>
        unfold aft29
        simp only [List.isEmpty_cons, Bool.not_false, cond_true, cond_false]
        rw [decide_eq_true trivial, show fitsB (o :: O).length = true from decide_eq_true (by omega), show appF (o :: O).length (rowG CK (fnR CK.df (o :: O))) (two s t) = rowG CK (fnR CK.df (o :: O ++ [⟨s, t⟩])) from two_push (o :: O) ⟨s, t⟩]
        simp only [seE, cond_true, cond_false, rwP, rwQ, List.length_append, List.length_cons, List.length_nil, Nat.zero_add]
        rfl
noncomputable def tabZb : Tab := ⟨30, false, gcon (mcon en30 de30 pr30 rs30)⟩ :: ⟨29, false, gcon (mcon en29 de29 pr29 rs29)⟩ :: tabZa
theorem all_tabZb : ∀ e, e ∈ tabZb → Sound1 Try.prog e := sound_mem_tab s30 (sound_mem_tab s29 all_tabZa)
end Go.Pln
namespace Go.Pln
open Go Go.Proofs Go.Ab
set_option maxRecDepth 100000
set_option linter.unusedVariables false
set_option linter.unusedSimpArgs false

/-! ### set, plainly -/
def sel (s t : List UInt8) : List Pk → Bool → List Pk
  | [], d => bif d then [] else [⟨s, t⟩]
  | x :: R, d => bif x.nm == s then sel s t R d else bif !d && gtr x.nm s then ⟨s, t⟩ :: x :: sel s t R true else x :: sel s t R d
theorem seO_spec (s t : List UInt8) (x : Nat → Pk) : ∀ k i O d, seE s t (seO s t x k i O d) = O ++ sel s t (lsF x k i) d
  | 0, i, O, d => by
    unfold seO seE sel lsF
    cases d <;> simp
  | k + 1, i, O, d => by
    rw [show lsF x (k + 1) i = x i :: lsF x k (i + 1) from rfl]
    unfold seO sel
    cases hq : ((x i).nm == s)
    · simp only [cond_false]
      rw [seO_spec s t x k (i + 1) _ _]
      unfold spO spD
      cases (!d && gtr (x i).nm s) <;> simp
    · simp only [cond_true]
      exact seO_spec s t x k (i + 1) _ _
theorem sel_true (s t : List UInt8) : ∀ L, sel s t L true = L.filter fun p => !p.nm == s
  | [] => rfl
  | x :: R => by
    unfold sel
    rw [sel_true s t R, List.filter_cons]
    cases (x.nm == s) <;> rfl
theorem sel_false (s t : List UInt8) : ∀ L : List Pk, Ris (L.map (·.nm)) → Ris ((sel s t L false).map (·.nm)) ∧ ∀ p, p ∈ sel s t L false ↔ p = ⟨s, t⟩ ∨ (p ∈ L ∧ p.nm ≠ s)
  | [], _ => ⟨by unfold sel; simp, fun p => by unfold sel; simp⟩
  | x :: R, hr => by
    rw [List.map_cons] at hr
    obtain ⟨h1, h2⟩ := List.pairwise_cons.1 hr
    obtain ⟨i1, i2⟩ := sel_false s t R h2
    have hm : ∀ p, p ∈ R → abytesLess x.nm p.nm = true := fun p hp => h1 p.nm (List.mem_map_of_mem hp)
    unfold sel
    cases hq : (x.nm == s) with
    | true =>
      have e : x.nm = s := by simpa using hq
      refine ⟨i1, fun p => ?_⟩
      simp only [cond_true]
      rw [i2, List.mem_cons]
      constructor
      · rintro (h | ⟨h, h3⟩)
        · exact .inl h
        · exact .inr ⟨.inr h, h3⟩
      · rintro (h | ⟨rfl | h, h3⟩)
        · exact .inl h
        · exact absurd e h3
        · exact .inr ⟨h, h3⟩
    | false =>
      have e : x.nm ≠ s := by simpa using hq
      cases hg : gtr x.nm s with
      | true =>
        have hl := (gtr_iff x.nm s).1 hg
        have hfl : R.filter (fun p => !p.nm == s) = R := by
          rw [List.filter_eq_self]
          intro p hp
          have := less_trans hl (hm p hp)
          simp only [Bool.not_eq_true', beq_eq_false_iff_ne]
          exact (less_asym this).2
        simp only [Bool.not_false, Bool.true_and, cond_true, cond_false]
        rw [sel_true, hfl]
        refine ⟨?_, fun p => ?_⟩
        · rw [List.map_cons, List.map_cons]
          refine List.pairwise_cons.2 ⟨fun b hb => ?_, hr⟩
          rcases List.mem_cons.1 hb with rfl | hb
          · exact hl
          · exact less_trans hl (h1 b hb)
        · rw [List.mem_cons, List.mem_cons]
          constructor
          · rintro (h | rfl | h)
            · exact .inl h
            · exact .inr ⟨.inl rfl, e⟩
            · exact .inr ⟨.inr h, (less_asym (less_trans hl (hm p h))).2⟩
          · rintro (h | ⟨h, h3⟩)
            · exact .inl h
            · exact .inr h
      | false =>
        have hl : abytesLess x.nm s = true := by
          have : abytesLess s x.nm = false := by
            cases h : abytesLess s x.nm with
            | false => rfl
            | true => rw [(gtr_iff x.nm s).2 h] at hg; cases hg
          exact less_or this (Ne.symm e)
        simp only [Bool.not_false, Bool.true_and, cond_false]
        refine ⟨?_, fun p => ?_⟩
        · rw [List.map_cons]
          refine List.pairwise_cons.2 ⟨fun b hb => ?_, i1⟩
          obtain ⟨p, hp, rfl⟩ := List.mem_map.1 hb
          rcases (i2 p).1 hp with rfl | ⟨hp, _⟩
          · exact hl
          · exact hm p hp
        · rw [List.mem_cons, i2, List.mem_cons]
          constructor
          · rintro (rfl | h | ⟨h, h3⟩)
            · exact .inr ⟨.inl rfl, e⟩
            · exact .inl h
            · exact .inr ⟨.inr h, h3⟩
          · rintro (h | ⟨rfl | h, h3⟩)
            · exact .inr (.inl h)
            · exact .inl rfl
            · exact .inr (.inr ⟨h, h3⟩)
/-- set keeps a plan, and turns what is there of the one name alone. -/
theorem sel_says {L : List Pk} (h : Says L) {s t : List UInt8} (hs : word s = true) (ht : t = [] ∨ word t = true) :
    Says (sel s t L (t == [])) ∧ ∀ w, gtL w (sel s t L (t == [])) = if w = s then t else gtL w L := by
  have key : Says (sel s t L (t == [])) ∧ ∀ p, p ∈ sel s t L (t == []) ↔ (p = ⟨s, t⟩ ∧ t ≠ []) ∨ (p ∈ L ∧ p.nm ≠ s) := by
    rcases ht with rfl | ht
    · rw [show (([] : List UInt8) == []) = true from rfl, sel_true]
      have hm : ∀ p, p ∈ L.filter (fun p => !p.nm == s) ↔ p ∈ L ∧ p.nm ≠ s := fun p => by
        rw [List.mem_filter]
        simp
      refine ⟨⟨(h.ris.sublist (List.Sublist.map _ (List.filter_sublist))), fun p hp => h.wn p ((hm p).1 hp).1⟩, fun p => ?_⟩
      rw [hm]
      simp
    · have hne := word_ne ht
      rw [show (t == []) = false by simpa using hne]
      obtain ⟨k1, k2⟩ := sel_false s t L h.ris
      refine ⟨⟨k1, fun p hp => ?_⟩, fun p => ?_⟩
      · rcases (k2 p).1 hp with rfl | ⟨hp, _⟩
        · exact ⟨hs, ht⟩
        · exact h.wn p hp
      · rw [k2]
        simp [hne]
  obtain ⟨k1, k2⟩ := key
  refine ⟨k1, fun w => ?_⟩
  by_cases hw : w = s
  · subst hw
    rw [if_pos rfl]
    by_cases he : t = []
    · subst he
      refine gtL_none fun q => ?_
      obtain ⟨p, hp, hq⟩ := List.mem_map.1 q
      rcases (k2 p).1 hp with ⟨_, h3⟩ | ⟨_, h3⟩
      · exact h3 rfl
      · exact h3 hq
    · exact gtL_some k1 ((k2 ⟨w, t⟩).2 (.inl ⟨rfl, he⟩))
  · rw [if_neg hw]
    by_cases hm : w ∈ L.map (·.nm)
    · obtain ⟨p, hp, rfl⟩ := List.mem_map.1 hm
      rw [gtL_some k1 ((k2 p).2 (.inr ⟨hp, hw⟩)), gtL_some h hp]
    · rw [gtL_none hm]
      refine gtL_none fun q => ?_
      obtain ⟨p, hp, hq⟩ := List.mem_map.1 q
      rcases (k2 p).1 hp with ⟨rfl, h3⟩ | ⟨h3, _⟩
      · exact hw hq.symm
      · exact hm (by rw [← hq]; exact List.mem_map_of_mem h3)
theorem sel_len (s t : List UInt8) : ∀ L d, (sel s t L d).length ≤ L.length + 1
  | [], d => by unfold sel; cases d <;> simp
  | x :: R, d => by
    unfold sel
    have h1 := sel_len s t R d
    cases (x.nm == s)
    · cases hg : (!d && gtr x.nm s)
      · simp only [cond_false, List.length_cons]; omega
      · simp only [cond_false, cond_true, List.length_cons, sel_true]
        have := List.length_filter_le (fun p : Pk => !p.nm == s) R
        omega
    · simp only [cond_true, List.length_cons]; omega
theorem sel_mem (s t : List UInt8) : ∀ L d p, p ∈ sel s t L d → p.nm = s ∨ p ∈ L
  | [], d, p, h => by unfold sel at h; cases d <;> simp at h; exact .inl (by rw [h])
  | x :: R, d, p, h => by
    unfold sel at h
    cases hq : (x.nm == s)
    · rw [hq, cond_false] at h
      cases hg : (!d && gtr x.nm s)
      · rw [hg, cond_false] at h
        rcases List.mem_cons.1 h with rfl | h
        · exact .inr (by simp)
        · rcases sel_mem s t R d p h with h | h
          · exact .inl h
          · exact .inr (by simp [h])
      · rw [hg, cond_true] at h
        rcases List.mem_cons.1 h with rfl | h
        · exact .inl rfl
        · rcases List.mem_cons.1 h with rfl | h
          · exact .inr (by simp)
          · rcases sel_mem s t R true p h with h | h
            · exact .inl h
            · exact .inr (by simp [h])
    · rw [hq, cond_true] at h
      rcases sel_mem s t R d p h with h | h
      · exact .inl h
      · exact .inr (by simp [h])
end Go.Pln
namespace Go.Pln
open Go Go.Proofs Go.Ab
set_option maxRecDepth 100000
set_option linter.unusedVariables false
set_option linter.unusedSimpArgs false

/-! ### The reference's Apply -/
theorem sound_or {P : Program} {f : FuncId} {c1 c2 : List AV → Hp → T (AV × Hp)} (h1 : Sound1 P ⟨f, false, c1⟩) (h2 : Sound1 P ⟨f, false, c2⟩) (q : List AV → Bool) : Sound1 P ⟨f, false, fun args hp => bif q args then c1 args hp else c2 args hp⟩ where
  ok args hp r hp' hr := by
    cases hq : q args with
    | true => exact h1.ok args hp r hp' (by simpa only [hq, cond_true] using hr)
    | false => exact h2.ok args hp r hp' (by simpa only [hq, cond_false] using hr)
  len args hp r hp' hr := by
    cases hq : q args with
    | true => exact h1.len args hp r hp' (by simpa only [hq, cond_true] using hr)
    | false => exact h2.len args hp r hp' (by simpa only [hq, cond_false] using hr)
  pure hp := by cases hp
def c27z : List AV → T AV
  | [.nilsl, .str s] => .leaf (.tup [.str [], .bool false])
  | _ => .fail
theorem t27z (s : List UInt8) : (evn tabY h27 noLoops 27 [.nilsl, .str s] []).run = some (.tup [.str [], .bool false], []) := by kernel_rfl
theorem s27z : Sound1 Try.prog ⟨27, true, pcon c27z⟩ := by
  refine sound_pureH (m := 20) (k := 9) (hn := h27) (Λ := noLoops) (soundTab_of all_tabY) H0 (fun i hi => anyLoops) fun args r hF h => ?_
  unfold c27z at h
  split at h
  · rename_i s
    simp only [T.run_leaf, Option.some.injEq] at h
    subst h
    exact t27z s
  · cases h
def qnil : List AV → Bool
  | .nilsl :: _ => true
  | _ => false
noncomputable def c27o : List AV → Hp → T (AV × Hp) := fun args hp => bif qnil args then scon [.any, .any] c27z args hp else scon [.rows 2, .any] c27 args hp
theorem s27or : Sound1 Try.prog ⟨27, false, c27o⟩ := sound_or (sound_scon s27z [.any, .any]) s27o qnil
noncomputable def tabZc : Tab := ⟨27, false, c27o⟩ :: tabZb
theorem all_tabZc : ∀ e, e ∈ tabZc → Sound1 Try.prog e := sound_mem_tab s27or all_tabZb
noncomputable def z8 (m : Nat) (c : Nat → Ch) (o : AV) (i : Int) (hp : Hp) : St := { tm := encGo (mbits 194 76) [.sl 3 m (rowG CH c), o, .int .i64 i], ms := [], hp := hp }
noncomputable def ret8 (e : Nat) (hp : Hp) : AX × St := (.ret, { tm := tmOf 76 [(4, .nilsl), (5, .int .i64 (e : Int))], ms := [], hp := hp })
noncomputable def ex8 (m : Nat) (c : Nat → Ch) (o : AV) (i : Int) (hp : Hp) : AX × St :=
  (.exit 0, { tm := tmOf 76 [(1, .sl 3 m (rowG CH c)), (6, o), (7, .int .i64 i), (19, .bool false)], ms := [], hp := hp })
noncomputable abbrev inM (i m : Nat) : Bool := decide (0 ≤ (i : Int) ∧ (i : Int) < (m : Int))
noncomputable def nx8a (m i : Nat) (c : Nat → Ch) (ch : Ch) : Option (AX × St) :=
  bif inM i m then
   bif inM i m then
    bif isEn en29 pr29 ([.nilsl, .str ch.nm, .str ch.tt], []) then
     bif ch.tt == [] then some (.normal, z8 m c .nilsl (IntKind.i64.wrap ((i : Int) + 1)) [])
     else some (.normal, z8 m c (.row 0 2 0 1) (IntKind.i64.wrap ((i : Int) + 1)) [rwP [⟨ch.nm, ch.tt⟩]])
    else none
   else none
  else none
theorem q8a (Λ0 : LoopT) (m i : Nat) (c : Nat → Ch) : (rdn tabZc h8 Λ0 8 0 0 (z8 m c .nilsl i [])).run =
  bif decide ((i : Int) < (m : Int)) then
   bif inM i m then
    bif inM i m then
      bif !([] : List UInt8) == (c (i : Int).toNat).fr then some (ret8 35 [])
      else bif inM i m then
        bif !word (c (i : Int).toNat).nm then some (ret8 20 [])
        else bif inM i m then
          bif !(c (i : Int).toNat).tt == [] then
           bif inM i m then
            bif !word (c (i : Int).toNat).tt then some (ret8 20 [])
            else nx8a m i c (c (i : Int).toNat)
           else none
          else nx8a m i c (c (i : Int).toNat)
         else none
       else none
    else none
   else none
  else some (ex8 m c .nilsl i []) := by kernel_rfl
noncomputable def nx8b (m i n : Nat) (x y : Nat → Pk) (c : Nat → Ch) (ch : Ch) : Option (AX × St) :=
  bif inM i m then
   bif inM i m then
    bif isEn en29 pr29 ([.row 0 2 0 n, .str ch.nm, .str ch.tt], [rwQ n x]) then
     bif (seE ch.nm ch.tt (se ch.nm ch.tt n y)).isEmpty then some (.normal, z8 m c .nilsl (IntKind.i64.wrap ((i : Int) + 1)) [])
     else some (.normal, z8 m c (.row 0 2 0 (seE ch.nm ch.tt (se ch.nm ch.tt n y)).length) (IntKind.i64.wrap ((i : Int) + 1)) [rwP (seE ch.nm ch.tt (se ch.nm ch.tt n y))])
    else none
   else none
  else none
theorem q8b (Λ0 : LoopT) (m i n : Nat) (x : Nat → Pk) (c : Nat → Ch) : (rdn tabZc h8 Λ0 8 0 0 (z8 m c (.row 0 2 0 n) i [rwQ n x])).run =
  bif decide ((i : Int) < (m : Int)) then
   bif inM i m then
    bif decide (0 + n ≤ n) then
     bif isEn en27 p27 [.sl 2 n (fromF 0 (rowG CK x)), .str (c (i : Int).toNat).nm] then
      bif inM i m then
       bif !gtL (c (i : Int).toNat).nm (lsF (unK (fromF 0 (rowG CK x))) n 0) == (c (i : Int).toNat).fr then some (ret8 35 [rwQ n x])
       else bif inM i m then
        bif !word (c (i : Int).toNat).nm then some (ret8 20 [rwQ n x])
        else bif inM i m then
          bif !(c (i : Int).toNat).tt == [] then
           bif inM i m then
            bif !word (c (i : Int).toNat).tt then some (ret8 20 [rwQ n x])
            else nx8b m i n x (unX29 [rwQ n x]) c (c (i : Int).toNat)
           else none
          else nx8b m i n x (unX29 [rwQ n x]) c (c (i : Int).toNat)
         else none
        else none
      else none
     else none
    else none
   else none
  else some (ex8 m c (.row 0 2 0 n) i [rwQ n x]) := by kernel_rfl
def o8 : Nat → AV
  | 0 => .nilsl
  | k + 1 => .row 0 2 0 (k + 1)
noncomputable def hp8 (x : Nat → Pk) : Nat → Hp
  | 0 => []
  | k + 1 => [rwQ (k + 1) x]
structure R8 where
  e : Nat
  n : Nat
  x : Nat → Pk
def nxt (ch : Ch) (L : List Pk) : List Pk := sel ch.nm ch.tt L (ch.tt == [])
def apR (c : Nat → Ch) : Nat → Nat → Nat → (Nat → Pk) → R8
  | 0, i, n, x => ⟨0, n, x⟩
  | k + 1, i, n, x => bif !gtL (c i).nm (lsF x n 0) == (c i).fr then ⟨35, n, x⟩ else bif badC (c i) then ⟨20, n, x⟩
    else apR c k (i + 1) (nxt (c i) (lsF x n 0)).length (fnR CK.df (nxt (c i) (lsF x n 0)))
theorem unK_from (x : Nat → Pk) : fromF 0 (rowG CK x) = rowK x := by
  rw [rowK_rowG]
  rfl
theorem t8 (Λ0 : LoopT) (m i n : Nat) (x : Nat → Pk) (c : Nat → Ch) (h1 : i ≤ m) (h2 : m ≤ bnd) (h3 : n ≤ 1099511627776) :
    (rdn tabZc h8 Λ0 8 0 0 (z8 m c (o8 n) i (hp8 x n))).run = bif decide (i < m) then
      bif !gtL (c i).nm (lsF x n 0) == (c i).fr then some (ret8 35 (hp8 x n))
      else bif badC (c i) then some (ret8 20 (hp8 x n))
      else some (.normal, z8 m c (o8 (nxt (c i) (lsF x n 0)).length) ((i + 1 : Nat) : Int) (hp8 (fnR CK.df (nxt (c i) (lsF x n 0))) (nxt (c i) (lsF x n 0)).length))
    else some (ex8 m c (o8 n) m (hp8 x n)) := by
  simp only [bnd] at h2
  by_cases hi : i < m
  · rw [decide_eq_true hi, cond_true]
    have a1 : decide ((i : Int) < (m : Int)) = true := decide_eq_true (by omega)
    have a2 : inM i m = true := decide_eq_true (by omega)
    have hw : IntKind.i64.wrap ((i : Int) + 1) = ((i + 1 : Nat) : Int) := w64n (by omega)
    unfold badC
    cases n with
    | zero =>
      refine (q8a Λ0 m i c).trans ?_
      unfold nx8a
      simp only [Int.toNat_natCast]
      rw [a1, a2, hw]
      generalize c i = ch
      rw [show isEn en29 pr29 ([.nilsl, .str ch.nm, .str ch.tt], []) = true from isEn_true (enc := en29) (p := pr29) ⟨.nilsl, ch.nm, ch.tt, []⟩ (.inl ⟨rfl, rfl⟩)]
      rw [show gtL ch.nm (lsF x 0 0) = [] from rfl]
      have hs : nxt ch (lsF x 0 0) = bif ch.tt == [] then [] else [⟨ch.nm, ch.tt⟩] := rfl
      rw [hs]
      simp only [cond_true]
      cases (!([] : List UInt8) == ch.fr)
      · cases word ch.nm
        · rfl
        · cases ch.tt == []
          · cases word ch.tt <;> rfl
          · rfl
      · rfl
    | succ n =>
      refine (q8b Λ0 m i (n + 1) x c).trans ?_
      unfold nx8b
      simp only [Int.toNat_natCast]
      rw [a1, a2, hw, unK_from, unK_rowK, unX_eq]
      generalize c i = ch
      rw [k27 (n + 1) x ch.nm (by simp only [bnd]; omega), decide_eq_true (show 0 + (n + 1) ≤ n + 1 by omega), show isEn en29 pr29 ([.row 0 2 0 (n + 1), .str ch.nm, .str ch.tt], [rwQ (n + 1) x]) = true from isEn_true (enc := en29) (p := pr29) ⟨.row 0 2 0 (n + 1), ch.nm, ch.tt, [rwQ (n + 1) x]⟩ (.inr ⟨n + 1, x, rfl, rfl, h3⟩)]
      have hs : seE ch.nm ch.tt (se ch.nm ch.tt (n + 1) x) = nxt ch (lsF x (n + 1) 0) := by
        unfold se nxt
        rw [seO_spec, List.nil_append]
      rw [hs]
      simp only [cond_true]
      cases (!gtL ch.nm (lsF x (n + 1) 0) == ch.fr)
      · cases word ch.nm
        · rfl
        · generalize nxt ch (lsF x (n + 1) 0) = E
          cases ch.tt == []
          · cases word ch.tt
            · rfl
            · cases E <;> rfl
          · cases E <;> rfl
      · rfl
  · obtain rfl : i = m := by omega
    rw [decide_eq_false hi, cond_false]
    cases n with
    | zero =>
      refine (q8a Λ0 i i c).trans ?_
      rw [decide_eq_false (show ¬ (i : Int) < i by omega)]
      rfl
    | succ n =>
      refine (q8b Λ0 i i (n + 1) x c).trans ?_
      rw [decide_eq_false (show ¬ (i : Int) < i by omega)]
      rfl
noncomputable def fin8 (m : Nat) (c : Nat → Ch) (r : R8) : T (AX × St) :=
  .br (Nat.beq r.e 0) (.br (Nat.beq r.n 0) (.leaf (ex8 m c .nilsl m [])) (.leaf (ex8 m c (.row 0 2 0 r.n) m [rwQ r.n r.x])))
    (.br (Nat.beq r.n 0) (.leaf (ret8 r.e [])) (.leaf (ret8 r.e [rwQ r.n r.x])))
theorem fin8_ex (m : Nat) (c : Nat → Ch) (n : Nat) (x : Nat → Pk) : (fin8 m c ⟨0, n, x⟩).run = some (ex8 m c (o8 n) m (hp8 x n)) := by cases n <;> rfl
theorem fin8_ret (m : Nat) (c : Nat → Ch) (e n : Nat) (x : Nat → Pk) : (fin8 m c ⟨e + 1, n, x⟩).run = some (ret8 (e + 1) (hp8 x n)) := by cases n <;> rfl
structure Y8 where
  m : Nat
  c : Nat → Ch
  o : AV
  i : Nat
  hp : Hp
def e8 : Y8 → List AV × Hp := fun ⟨m, c, o, i, hp⟩ => ([.sl 3 m (rowG CH c), o, .int .i64 i], hp)
def d8 : List AV × Hp → Y8
  | ([.sl _ m g, o, .int _ i], hp) => ⟨m, unG CH g, o, i.toNat, hp⟩
  | _ => ⟨0, fun _ => default, .junk, 0, []⟩
theorem i8 : ∀ x, d8 (e8 x) = x := by
  rintro ⟨m, c, o, i, hp⟩
  show (⟨m, unG CH (rowG CH c), o, i, hp⟩ : Y8) = _
  rw [unG_rowG okCH]
def p8 : Y8 → Prop := fun ⟨m, c, o, i, hp⟩ => i ≤ m ∧ m ≤ bnd ∧ ∃ n x, o = o8 n ∧ hp = hp8 x n ∧ (n = 0 → x = fun _ => default) ∧ n + (m - i) ≤ 1099511627776
noncomputable def r8 : Y8 → T (AX × St) := fun ⟨m, c, o, i, hp⟩ => fin8 m c (apR c (m - i) i (unN29 hp) (unX29 hp))
noncomputable def L8 : LoopT := fun k => match Nat.beq k 600095 with
  | true => some (lccon (mbits 194 76) e8 d8 p8 r8)
  | false => none
theorem apR_step (c : Nat → Ch) {m i : Nat} (h : i < m) (n : Nat) (x : Nat → Pk) : apR c (m - i) i n x =
    bif !gtL (c i).nm (lsF x n 0) == (c i).fr then ⟨35, n, x⟩ else bif badC (c i) then ⟨20, n, x⟩
    else apR c (m - (i + 1)) (i + 1) (nxt (c i) (lsF x n 0)).length (fnR CK.df (nxt (c i) (lsF x n 0))) := by
  obtain ⟨k, hk⟩ : ∃ k, m - i = k + 1 := ⟨m - i - 1, by omega⟩
  rw [hk, show m - (i + 1) = k by omega]
  rfl
theorem un8 (n : Nat) (x : Nat → Pk) (h : n = 0 → x = fun _ => default) : unN29 (hp8 x n) = n ∧ unX29 (hp8 x n) = x := by
  cases n with
  | zero => exact ⟨rfl, (h rfl).symm⟩
  | succ n => exact ⟨rfl, unX_eq _ _ _⟩
theorem nxt_len (ch : Ch) (L : List Pk) : (nxt ch L).length ≤ L.length + 1 := sel_len _ _ _ _
theorem l8 : LoopOk Try.prog tabZc.pf (fun n => hd Try.prog tabZc.pf tabZc.con.run (fun f => (H0 f).to) n 9) h8.to 8 0 none L8 (loopAt Try.prog 8 0) := by
  rw [show loopAt Try.prog 8 0 = .loop (lbody Try.prog 8 0) by kernel_rfl]
  refine loop_c (hdT_le (m := 20) 9) (m := 20) (lv := mbits 194 76) (p := p8) (res := r8) i8 (within_of _ (by rw [show loopsOf (lbody Try.prog 8 0) = [] by kernel_rfl]; simp)) (by kernel_rfl) (fun ⟨m, c, o, i, hp⟩ => m - i) ?_
  rintro ⟨m, c, o, i, hp⟩ ⟨h1, h2, n, x, rfl, rfl, h3, h4⟩
  have ht := t8 L8 m i n x c h1 h2 (by omega)
  obtain ⟨u1, u2⟩ := un8 n x h3
  by_cases hi : i < m
  · rw [decide_eq_true hi, cond_true] at ht
    have ha := apR_step c hi n x
    cases q1 : (!gtL (c i).nm (lsF x n 0) == (c i).fr) with
    | true =>
      rw [q1] at ht ha
      right
      refine ⟨_, ?_, ?_, ht⟩
      · simp [ret8]
      · simp only [r8, u1, u2, ha]
        exact fin8_ret m c 34 n x
    | false =>
      rw [q1, cond_false] at ht ha
      cases q2 : badC (c i) with
      | true =>
        rw [q2] at ht ha
        right
        refine ⟨_, ?_, ?_, ht⟩
        · simp [ret8]
        · simp only [r8, u1, u2, ha]
          exact fin8_ret m c 19 n x
      | false =>
        rw [q2, cond_false] at ht ha
        left
        have hl := nxt_len (c i) (lsF x n 0)
        rw [lsF_len] at hl
        have h5 : (nxt (c i) (lsF x n 0)).length = 0 → fnR CK.df (nxt (c i) (lsF x n 0)) = fun _ => default := fun q => by
          rw [List.length_eq_zero_iff] at q
          rw [q]
          rfl
        obtain ⟨v1, v2⟩ := un8 _ _ h5
        refine ⟨⟨m, c, o8 (nxt (c i) (lsF x n 0)).length, i + 1, hp8 (fnR CK.df (nxt (c i) (lsF x n 0))) (nxt (c i) (lsF x n 0)).length⟩, ⟨by omega, h2, _, _, rfl, rfl, h5, by omega⟩, by simp only; omega, ?_, ht⟩
        simp only [r8, u1, u2, v1, v2]
        rw [ha]
  · obtain rfl : i = m := by omega
    rw [decide_eq_false hi, cond_false] at ht
    right
    refine ⟨_, ?_, ?_, ht⟩
    · simp [ex8]
    · simp only [r8, u1, u2, Nat.sub_self]
      exact fin8_ex i c n x
noncomputable def af8 (r : R8) : Option (AV × Hp) :=
  bif Nat.beq r.e 0 then
   bif Nat.beq r.n 0 then some (.tup [.nilsl, .int .i64 0], []) else some (.tup [.row 0 2 0 r.n, .int .i64 0], [rwQ r.n r.x])
  else bif Nat.beq r.n 0 then some (.tup [.nilsl, .int .i64 (r.e : Int)], []) else some (.tup [.nilsl, .int .i64 (r.e : Int)], [])
noncomputable def k8 (m : Nat) (c : Nat → Ch) (o : AV) (hp : Hp) : Option (AV × Hp) :=
  bif isEn e8 p8 ([.sl 3 m (rowG CH c), o, .int .i64 0], hp) then af8 (apR (unG CH (rowG CH c)) (m - 0) 0 (unN29 hp) (unX29 hp)) else none
theorem u8 (n m : Nat) (f : Nat → Pk) (c : Nat → Ch) : (evn tabZc h8 L8 8 [.sl 2 n (rowK f), .sl 3 m (rowG CH c)] []).run =
  bif isEn en17 p17 [.sl 2 n (rowK f)] then
   bif !fitK (unK (rowK f)) n then some (.tup [.nilsl, .int .i64 32], [])
   else bif decide (n = 0) then k8 m c .nilsl []
   else bif decide (n * 32 ≤ 140737488355328 ∧ n ≤ 4611686018427387903) then k8 m c (.row 0 2 0 n) [some (.row 2 n (rowK f))]
   else none
  else none := by kernel_rfl
def rfP8 (n m : Nat) (f : Nat → Pk) (c : Nat → Ch) : R7 :=
  bif fitK f n then bif Nat.beq (apR c m 0 n f).e 0 then ⟨0, lsF (apR c m 0 n f).x (apR c m 0 n f).n 0⟩ else ⟨(apR c m 0 n f).e, []⟩
  else ⟨32, []⟩
theorem lsF_listG (x : Nat → Pk) (n : Nat) : listG x n = lsF x n 0 := by
  have := listG_of (f := x) (l := lsF x n 0) fun i t h => by
    have hi : i < n := by
      rcases Nat.lt_or_ge i n with h2 | h2
      · exact h2
      · rw [List.getElem?_eq_none (by rw [lsF_len]; exact h2)] at h; cases h
    have h2 := fnG_lsF x ⟨[], []⟩ n 0 i hi
    unfold fnG at h2
    rw [List.getD_eq_getElem?_getD, h, Option.getD_some, Nat.zero_add] at h2
    exact h2.symm
  rwa [lsF_len] at this
theorem af8_ok {x : Option (AV × Hp)} (r : R8) (h : x = af8 r) : ∃ r1 r2, (x.bind fun r => frz (.tup [.rows 2, .any]) r.2 r.1) = some r1 ∧ (T.leaf (av7 (bif Nat.beq r.e 0 then ⟨0, lsF r.x r.n 0⟩ else ⟨r.e, []⟩)) : T AV).run = some r2 ∧ AW r1 r2 := by
  subst h
  obtain ⟨e, n, x⟩ := r
  unfold af8
  simp only
  cases he : Nat.beq e 0 with
  | true =>
    simp only [cond_true]
    cases n with
    | zero => exact er7 0 rfl
    | succ n =>
      refine ⟨_, _, frz7 (n + 1) _, rfl, AW.tup2 ?_ (AW.rfl' _)⟩
      rw [← rowK_rowG]
      exact row_awG (C := CK) (lsF_listG x (n + 1))
  | false =>
    simp only [cond_false]
    refine er7 e ?_
    cases Nat.beq n 0 <;> rfl
theorem af8_nil (c : Nat → Ch) (k i : Nat) (x y : Nat → Pk) : af8 (apR c k i 0 x) = af8 (apR c k i 0 y) := by
  cases k with
  | zero => rfl
  | succ k =>
    unfold apR
    rw [show lsF x 0 0 = [] from rfl, show lsF y 0 0 = [] from rfl]
    cases (!gtL (c i).nm [] == (c i).fr)
    · cases badC (c i) <;> rfl
    · rfl
noncomputable def c8 : List AV → T AV := ccon (fun x : X7 => [.sl 2 x.n (rowK x.f), .sl 3 x.m (rowG CH x.c)]) (fun l => match l with
    | [.sl _ n f, .sl _ m g] => ⟨n, m, unK f, unG CH g⟩
    | _ => ⟨0, 0, fun _ => default, fun _ => ⟨[], [], []⟩⟩) (fun x => x.n ≤ 1048576 ∧ x.m ≤ 1048576) (fun x => .leaf (av7 (rfP8 x.n x.m x.f x.c)))
theorem s8d : Sound1 Try.prog ⟨8, true, pcon c8⟩ := by
  refine sound_cfW (m := 20) (k := 9) (hn := h8) (Λ := L8) (soundTab_of all_tabZc) H0 (fun ⟨n, m, f, c⟩ => by show (⟨n, m, unK (rowK f), unG CH (rowG CH c)⟩ : X7) = _; rw [unG_rowG okCH, unK_rowK]) (.tup [.rows 2, .any]) (oneLoop (by kernel_rfl) l8) ?_
  rintro ⟨n, m, f, c⟩ ⟨h1, h2⟩ hF
  simp only at h1 h2
  have ht := u8 n m f c
  rw [k17 n f (by simp only [bnd]; omega), unK_rowK] at ht
  simp only [cond_true] at ht
  show ∃ r1 r, ((evn tabZc h8 L8 8 [.sl 2 n (rowK f), .sl 3 m (rowG CH c)] []).run.bind fun r => frz (.tup [.rows 2, .any]) r.2 r.1) = some r1 ∧ (T.leaf (av7 (rfP8 n m f c)) : T AV).run = some r ∧ AW r1 r
  unfold rfP8
  cases hf : fitK f n with
  | false =>
    rw [hf, Bool.not_false, cond_true] at ht
    rw [cond_false]
    exact er7 32 ht
  | true =>
    rw [hf, Bool.not_true, cond_false] at ht
    rw [cond_true]
    refine af8_ok _ (ht.trans ?_)
    cases n with
    | zero =>
      rw [decide_eq_true rfl, cond_true]
      unfold k8
      rw [show isEn e8 p8 ([.sl 3 m (rowG CH c), .nilsl, .int .i64 0], []) = true from isEn_true (enc := e8) (p := p8) ⟨m, c, .nilsl, 0, []⟩ ⟨Nat.zero_le _, by simp only [bnd]; omega, 0, fun _ => default, rfl, rfl, fun _ => rfl, by omega⟩, unG_rowG okCH, Nat.sub_zero, cond_true]
      exact af8_nil c m 0 _ _
    | succ n =>
      rw [decide_eq_false (by omega), decide_eq_true (show (n + 1) * 32 ≤ 140737488355328 ∧ n + 1 ≤ 4611686018427387903 by omega), cond_false, cond_true, ← rowK_rowG]
      unfold k8
      rw [show isEn e8 p8 ([.sl 3 m (rowG CH c), .row 0 2 0 (n + 1), .int .i64 0], [rwQ (n + 1) f]) = true from isEn_true (enc := e8) (p := p8) ⟨m, c, .row 0 2 0 (n + 1), 0, [rwQ (n + 1) f]⟩ ⟨Nat.zero_le _, by simp only [bnd]; omega, n + 1, f, rfl, rfl, fun q => by omega, by omega⟩, unG_rowG okCH, Nat.sub_zero, cond_true, unX_eq]
      rfl
end Go.Pln
namespace Go.Pln
open Go Go.Proofs Go.Ab
set_option maxRecDepth 100000
set_option linter.unusedVariables false
set_option linter.unusedSimpArgs false

/-! ### The reference's Diff: its first loops -/
theorem rAs_ne (b : Nat) {L : List (List UInt8)} (h : L ≠ []) : rAs b L = .row b 1 0 L.length ∧ rHs L = [rwS L] := by
  cases L with
  | nil => exact absurd rfl h
  | cons a L => exact ⟨rfl, rfl⟩
theorem puE_ne (s : List UInt8) {L : List (List UInt8)} (h : L ≠ []) (hf : (pu s L).fd = false) : puE s (pu s L) ≠ [] := by
  have := (puO_len s L L.length 0 [] false).2 hf
  have hl := List.length_pos_iff.2 h
  intro q
  have h2 := congrArg List.length q
  unfold puE at h2
  replace this : 0 + L.length ≤ (pu s L).O.length := this
  revert h2
  cases (pu s L).d
  · simp only [cond_false, List.length_append, List.length_cons, List.length_nil]; omega
  · simp only [cond_true, List.length_nil]; omega
noncomputable def z11 (n m : Nat) (f g : Nat → Pk) (o : AV) (i : Int) (hp : Hp) : St := { tm := encGo (mbits 99 78) [.sl 2 n (rowK f), .sl 2 m (rowK g), o, .int .i64 i], ms := [], hp := hp }
noncomputable def x11 (n m : Nat) (f g : Nat → Pk) (o : AV) (i : Int) (hp : Hp) : AX × St :=
  (.exit 0, { tm := tmOf 78 [(0, .sl 2 n (rowK f)), (1, .sl 2 m (rowK g)), (5, o), (6, .int .i64 i), (17, .bool false)], ms := [], hp := hp })
noncomputable def w11 (n m : Nat) (f g : Nat → Pk) (o : AV) (i : Int) (hp : Hp) : St := { tm := encGo (mbits 163 78) [.sl 2 n (rowK f), .sl 2 m (rowK g), o, .int .i64 i], ms := [], hp := hp }
noncomputable def y11 (n m : Nat) (f g : Nat → Pk) (o : AV) (i : Int) (hp : Hp) : AX × St :=
  (.exit 2, { tm := tmOf 78 [(0, .sl 2 n (rowK f)), (1, .sl 2 m (rowK g)), (5, o), (7, .int .i64 i), (30, .bool false)], ms := [], hp := hp })
noncomputable def putT (L : List (List UInt8)) (s : List UInt8) (nx : AV → Hp → AX × St) : Option (AX × St) :=
  bif isEn en30 pr30 ([.row 0 1 0 L.length, .str s], [rwS L]) then
   bif (unHs [rwS L]).isEmpty then some (nx (.row 0 1 0 1) [some (.row 1 1 (strF [s]))])
   else bif (pu s (unHs [rwS L])).fd then some (nx (.row 0 1 0 (unHs [rwS L]).length) [rwS (unHs [rwS L])])
   else some (nx (.row 0 1 0 (puE s (pu s (unHs [rwS L]))).length) [rwS (puE s (pu s (unHs [rwS L])))])
  else none
theorem putT_ok {L : List (List UInt8)} (hL : L ≠ []) (h : L.length ≤ 1099511627776) (s : List UInt8) (nx : AV → Hp → AX × St) : putT L s nx = some (nx (rAs 0 (pt s L)) (rHs (pt s L))) := by
  unfold putT
  obtain ⟨k1, k2⟩ := rAs_ne 0 hL
  rw [unHs_one, show isEn en30 pr30 ([.row 0 1 0 L.length, .str s], [rwS L]) = true by
    rw [← k1, ← k2]
    exact isEn_true (enc := en30) (p := pr30) ⟨L, s⟩ h]
  unfold pt
  have he : L.isEmpty = false := by
    cases L with
    | nil => exact absurd rfl hL
    | cons a L => rfl
  rw [he]
  simp only [cond_true, cond_false]
  cases hf : (pu s L).fd with
  | true =>
    simp only [cond_true]
    rw [k1, k2]
  | false =>
    simp only [cond_false]
    obtain ⟨j1, j2⟩ := rAs_ne 0 (puE_ne s hL hf)
    rw [j1, j2]
theorem q11a (Λ0 : LoopT) (n m i : Nat) (f g : Nat → Pk) : (rdn tabZc h11 Λ0 11 0 0 (z11 n m f g .nilsl i [])).run =
  bif decide ((i : Int) < (n : Int)) then
   bif decide (0 ≤ (i : Int) ∧ (i : Int) < (n : Int)) then
    bif isEn en30 pr30 ([.nilsl, .str (f (i : Int).toNat).nm], []) then some (.normal, z11 n m f g (.row 0 1 0 1) (IntKind.i64.wrap ((i : Int) + 1)) [some (.row 1 1 (strF [(f (i : Int).toNat).nm]))])
    else none
   else none
  else some (x11 n m f g .nilsl i []) := by kernel_rfl
theorem q11b (Λ0 : LoopT) (n m i : Nat) (f g : Nat → Pk) (L : List (List UInt8)) : (rdn tabZc h11 Λ0 11 0 0 (z11 n m f g (.row 0 1 0 L.length) i [rwS L])).run =
  bif decide ((i : Int) < (n : Int)) then
   bif decide (0 ≤ (i : Int) ∧ (i : Int) < (n : Int)) then
    putT L (f (i : Int).toNat).nm fun o hp => (.normal, z11 n m f g o (IntKind.i64.wrap ((i : Int) + 1)) hp)
   else none
  else some (x11 n m f g (.row 0 1 0 L.length) i [rwS L]) := by kernel_rfl
theorem q11c (Λ0 : LoopT) (n m i : Nat) (f g : Nat → Pk) : (rdn tabZc h11 Λ0 11 0 1 (w11 n m f g .nilsl i [])).run =
  bif decide ((i : Int) < (m : Int)) then
   bif decide (0 ≤ (i : Int) ∧ (i : Int) < (m : Int)) then
    bif isEn en30 pr30 ([.nilsl, .str (g (i : Int).toNat).nm], []) then some (.normal, w11 n m f g (.row 0 1 0 1) (IntKind.i64.wrap ((i : Int) + 1)) [some (.row 1 1 (strF [(g (i : Int).toNat).nm]))])
    else none
   else none
  else some (y11 n m f g .nilsl i []) := by kernel_rfl
theorem q11d (Λ0 : LoopT) (n m i : Nat) (f g : Nat → Pk) (L : List (List UInt8)) : (rdn tabZc h11 Λ0 11 0 1 (w11 n m f g (.row 0 1 0 L.length) i [rwS L])).run =
  bif decide ((i : Int) < (m : Int)) then
   bif decide (0 ≤ (i : Int) ∧ (i : Int) < (m : Int)) then
    putT L (g (i : Int).toNat).nm fun o hp => (.normal, w11 n m f g o (IntKind.i64.wrap ((i : Int) + 1)) hp)
   else none
  else some (y11 n m f g (.row 0 1 0 L.length) i [rwS L]) := by kernel_rfl
theorem pt_ne (s : List UInt8) (L : List (List UInt8)) : pt s L ≠ [] := by
  unfold pt
  cases L with
  | nil => simp
  | cons a L =>
    simp only [List.isEmpty_cons, cond_false]
    cases hf : (pu s (a :: L)).fd with
    | true => simp
    | false =>
      simp only [cond_false]
      exact puE_ne s (by simp) hf
theorem t11a (Λ0 : LoopT) (n m i : Nat) (f g : Nat → Pk) (L : List (List UInt8)) (h1 : i ≤ n) (h2 : n ≤ bnd) (h3 : L.length ≤ 1099511627776) :
    (rdn tabZc h11 Λ0 11 0 0 (z11 n m f g (rAs 0 L) i (rHs L))).run = bif decide (i < n) then some (.normal, z11 n m f g (rAs 0 (pt (f i).nm L)) ((i + 1 : Nat) : Int) (rHs (pt (f i).nm L)))
      else some (x11 n m f g (rAs 0 L) n (rHs L)) := by
  simp only [bnd] at h2
  by_cases hi : i < n
  · rw [decide_eq_true hi, cond_true]
    cases L with
    | nil =>
      refine (q11a Λ0 n m i f g).trans ?_
      rw [decide_eq_true (show (i : Int) < n by omega), in_row hi, Int.toNat_natCast, w64n (by omega), show isEn en30 pr30 ([.nilsl, .str (f i).nm], []) = true from isEn_true (enc := en30) (p := pr30) ⟨[], (f i).nm⟩ h3]
      rfl
    | cons a L =>
      refine (q11b Λ0 n m i f g (a :: L)).trans ?_
      rw [decide_eq_true (show (i : Int) < n by omega), in_row hi, Int.toNat_natCast, w64n (by omega), putT_ok (by simp) h3]
      rfl
  · obtain rfl : i = n := by omega
    rw [decide_eq_false hi, cond_false]
    cases L with
    | nil =>
      refine (q11a Λ0 i m i f g).trans ?_
      rw [decide_eq_false (show ¬ (i : Int) < i by omega)]
      rfl
    | cons a L =>
      refine (q11b Λ0 i m i f g (a :: L)).trans ?_
      rw [decide_eq_false (show ¬ (i : Int) < i by omega)]
      rfl
theorem t11c (Λ0 : LoopT) (n m i : Nat) (f g : Nat → Pk) (L : List (List UInt8)) (h1 : i ≤ m) (h2 : m ≤ bnd) (h3 : L.length ≤ 1099511627776) :
    (rdn tabZc h11 Λ0 11 0 1 (w11 n m f g (rAs 0 L) i (rHs L))).run = bif decide (i < m) then some (.normal, w11 n m f g (rAs 0 (pt (g i).nm L)) ((i + 1 : Nat) : Int) (rHs (pt (g i).nm L)))
      else some (y11 n m f g (rAs 0 L) m (rHs L)) := by
  simp only [bnd] at h2
  by_cases hi : i < m
  · rw [decide_eq_true hi, cond_true]
    cases L with
    | nil =>
      refine (q11c Λ0 n m i f g).trans ?_
      rw [decide_eq_true (show (i : Int) < m by omega), in_row hi, Int.toNat_natCast, w64n (by omega), show isEn en30 pr30 ([.nilsl, .str (g i).nm], []) = true from isEn_true (enc := en30) (p := pr30) ⟨[], (g i).nm⟩ h3]
      rfl
    | cons a L =>
      refine (q11d Λ0 n m i f g (a :: L)).trans ?_
      rw [decide_eq_true (show (i : Int) < m by omega), in_row hi, Int.toNat_natCast, w64n (by omega), putT_ok (by simp) h3]
      rfl
  · obtain rfl : i = m := by omega
    rw [decide_eq_false hi, cond_false]
    cases L with
    | nil =>
      refine (q11c Λ0 n i i f g).trans ?_
      rw [decide_eq_false (show ¬ (i : Int) < i by omega)]
      rfl
    | cons a L =>
      refine (q11d Λ0 n i i f g (a :: L)).trans ?_
      rw [decide_eq_false (show ¬ (i : Int) < i by omega)]
      rfl
def nmP (f : Nat → Pk) : Nat → Nat → List (List UInt8) → List (List UInt8)
  | 0, _, L => L
  | k + 1, i, L => nmP f k (i + 1) (pt (f i).nm L)
theorem nmP_step (f : Nat → Pk) {n i : Nat} (h : i < n) (L : List (List UInt8)) : nmP f (n - i) i L = nmP f (n - (i + 1)) (i + 1) (pt (f i).nm L) := by
  obtain ⟨k, hk⟩ : ∃ k, n - i = k + 1 := ⟨n - i - 1, by omega⟩
  rw [hk, show n - (i + 1) = k by omega]
  rfl
structure Y11 where
  n : Nat
  m : Nat
  f : Nat → Pk
  g : Nat → Pk
  o : AV
  i : Nat
  hp : Hp
def e11 : Y11 → List AV × Hp := fun ⟨n, m, f, g, o, i, hp⟩ => ([.sl 2 n (rowK f), .sl 2 m (rowK g), o, .int .i64 i], hp)
def d11 : List AV × Hp → Y11
  | ([.sl _ n f, .sl _ m g, o, .int _ i], hp) => ⟨n, m, unK f, unK g, o, i.toNat, hp⟩
  | _ => ⟨0, 0, fun _ => default, fun _ => default, .junk, 0, []⟩
theorem i11 : ∀ x, d11 (e11 x) = x := by
  rintro ⟨n, m, f, g, o, i, hp⟩
  rfl
def p11a : Y11 → Prop := fun ⟨n, m, f, g, o, i, hp⟩ => i ≤ n ∧ n ≤ bnd ∧ ∃ L, o = rAs 0 L ∧ hp = rHs L ∧ L.length + (n - i) ≤ 1099511627776
def p11c : Y11 → Prop := fun ⟨n, m, f, g, o, i, hp⟩ => i ≤ m ∧ m ≤ bnd ∧ ∃ L, o = rAs 0 L ∧ hp = rHs L ∧ L.length + (m - i) ≤ 1099511627776
noncomputable def fin11 (x : AV → Hp → AX × St) (L : List (List UInt8)) : T (AX × St) := .br L.isEmpty (.leaf (x .nilsl [])) (.leaf (x (.row 0 1 0 L.length) [rwS L]))
theorem fin11_run (x : AV → Hp → AX × St) (L : List (List UInt8)) : (fin11 x L).run = some (x (rAs 0 L) (rHs L)) := by cases L <;> rfl
noncomputable def r11a : Y11 → T (AX × St) := fun ⟨n, m, f, g, o, i, hp⟩ => fin11 (fun o hp => x11 n m f g o n hp) (nmP f (n - i) i (unHs hp))
noncomputable def r11c : Y11 → T (AX × St) := fun ⟨n, m, f, g, o, i, hp⟩ => fin11 (fun o hp => y11 n m f g o m hp) (nmP g (m - i) i (unHs hp))
theorem l11a (Λ0 : LoopT) (hk : Λ0 300025 = some (lccon (mbits 99 78) e11 d11 p11a r11a)) : LoopOk Try.prog tabZc.pf (fun n => hd Try.prog tabZc.pf tabZc.con.run (fun f => (H0 f).to) n 9) h11.to 11 0 none Λ0 (loopAt Try.prog 11 0) := by
  rw [show loopAt Try.prog 11 0 = .loop (lbody Try.prog 11 0) by kernel_rfl]
  refine loop_c (hdT_le (m := 20) 9) (m := 20) (lv := mbits 99 78) (p := p11a) (res := r11a) i11 (within_of _ (by rw [show loopsOf (lbody Try.prog 11 0) = [] by kernel_rfl]; simp)) (by rw [show lkey (lbody Try.prog 11 0) = 300025 by kernel_rfl]; exact hk) (fun ⟨n, m, f, g, o, i, hp⟩ => n - i) ?_
  rintro ⟨n, m, f, g, o, i, hp⟩ ⟨h1, h2, L, rfl, rfl, h3⟩
  have ht := t11a Λ0 n m i f g L h1 h2 (by omega)
  by_cases hi : i < n
  · rw [decide_eq_true hi, cond_true] at ht
    left
    have hl := pt_len (f i).nm L
    refine ⟨⟨n, m, f, g, rAs 0 (pt (f i).nm L), i + 1, rHs (pt (f i).nm L)⟩, ⟨by omega, h2, _, rfl, rfl, by omega⟩, by simp only; omega, ?_, ht⟩
    simp only [r11a, unHs_rHs]
    rw [nmP_step f hi]
  · obtain rfl : i = n := by omega
    rw [decide_eq_false hi, cond_false] at ht
    right
    refine ⟨_, by simp [x11], ?_, ht⟩
    simp only [r11a, unHs_rHs, Nat.sub_self]
    exact fin11_run _ L
theorem l11c (Λ0 : LoopT) (hk : Λ0 700025 = some (lccon (mbits 163 78) e11 d11 p11c r11c)) : LoopOk Try.prog tabZc.pf (fun n => hd Try.prog tabZc.pf tabZc.con.run (fun f => (H0 f).to) n 9) h11.to 11 0 none Λ0 (loopAt Try.prog 11 1) := by
  rw [show loopAt Try.prog 11 1 = .loop (lbody Try.prog 11 1) by kernel_rfl]
  refine loop_c (hdT_le (m := 20) 9) (m := 20) (lv := mbits 163 78) (p := p11c) (res := r11c) i11 (within_of _ (by rw [show loopsOf (lbody Try.prog 11 1) = [] by kernel_rfl]; simp)) (by rw [show lkey (lbody Try.prog 11 1) = 700025 by kernel_rfl]; exact hk) (fun ⟨n, m, f, g, o, i, hp⟩ => m - i) ?_
  rintro ⟨n, m, f, g, o, i, hp⟩ ⟨h1, h2, L, rfl, rfl, h3⟩
  have ht := t11c Λ0 n m i f g L h1 h2 (by omega)
  by_cases hi : i < m
  · rw [decide_eq_true hi, cond_true] at ht
    left
    have hl := pt_len (g i).nm L
    refine ⟨⟨n, m, f, g, rAs 0 (pt (g i).nm L), i + 1, rHs (pt (g i).nm L)⟩, ⟨by omega, h2, _, rfl, rfl, by omega⟩, by simp only; omega, ?_, ht⟩
    simp only [r11c, unHs_rHs]
    rw [nmP_step g hi]
  · obtain rfl : i = m := by omega
    rw [decide_eq_false hi, cond_false] at ht
    right
    refine ⟨_, by simp [y11], ?_, ht⟩
    simp only [r11c, unHs_rHs, Nat.sub_self]
    exact fin11_run _ L
end Go.Pln

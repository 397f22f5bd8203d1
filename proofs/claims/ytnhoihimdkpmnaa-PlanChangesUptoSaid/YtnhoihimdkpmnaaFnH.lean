/- Lemmas for the claims of this seat (a verified symbolic evaluator, and contracts of functions): own work; no condition. -/
import Derived.Test.YtnhoihimdkpmnaaFnG
namespace Go.Pln
open Go Go.Proofs Go.Ab
set_option maxRecDepth 100000
set_option linter.unusedVariables false
set_option linter.unusedSimpArgs false

/-! ### The reference's put -/
noncomputable def z30 (L : List (List UInt8)) (s : List UInt8) (o : AV) (d : Bool) (i : Int) (rows : Hp) : St :=
  { tm := encGo (mbits 227 49) [.row 0 1 0 L.length, .str s, o, .bool d, .int .i64 i], ms := [], hp := some (.row 1 L.length (strF L)) :: rows }
noncomputable def ret30 (L : List (List UInt8)) (rows : Hp) : AX × St := (.ret, { tm := tmOf 49 [(4, .row 0 1 0 L.length)], ms := [], hp := some (.row 1 L.length (strF L)) :: rows })
noncomputable def ex30 (L : List (List UInt8)) (s : List UInt8) (o : AV) (d : Bool) (rows : Hp) : AX × St :=
  (.exit 0, { tm := tmOf 49 [(0, .row 0 1 0 L.length), (1, .str s), (5, o), (6, .bool d), (7, .int .i64 L.length), (11, .bool false)], ms := [], hp := some (.row 1 L.length (strF L)) :: rows })
noncomputable abbrev one (t : List UInt8) : Nat → Nat → AV := fun j => rowF 1 [.str t] (0 + j)
theorem q30a (b : Nat) (hb : b = 0 ∨ b = 1) (Λ0 : LoopT) (L : List (List UInt8)) (i : Nat) (s : List UInt8) (d : Bool) : (rdn tabY h30 Λ0 30 b 0 (z30 L s .nilsl d i [])).run =
  bif decide ((i : Int) < (L.length : Int)) then
   bif decide (0 ≤ (i : Int) ∧ (i : Int) < (L.length : Int)) then
    bif decide (0 + (i : Int).toNat < L.length) then
     bif L.getD (0 + (i : Int).toNat) [] == s then some (ret30 L [])
     else bif !d then
       bif decide (0 ≤ (i : Int) ∧ (i : Int) < (L.length : Int)) then
        bif decide (0 + (i : Int).toNat < L.length) then
         bif !(abytesLess (L.getD (0 + (i : Int).toNat) []) s || L.getD (0 + (i : Int).toNat) [] == s) then
          bif decide (0 ≤ (i : Int) ∧ (i : Int) < (L.length : Int)) then
           bif decide (0 + (i : Int).toNat < L.length) then
            some (.normal, z30 L s (.row 1 1 0 2) true (IntKind.i64.wrap ((i : Int) + 1)) [some (.row 1 2 (appF 1 (one s) (one (L.getD (0 + (i : Int).toNat) []))))])
           else none
          else none
         else
          bif decide (0 ≤ (i : Int) ∧ (i : Int) < (L.length : Int)) then
           bif decide (0 + (i : Int).toNat < L.length) then
            some (.normal, z30 L s (.row 1 1 0 1) d (IntKind.i64.wrap ((i : Int) + 1)) [some (.row 1 1 (one (L.getD (0 + (i : Int).toNat) [])))])
           else none
          else none
        else none
       else none
      else
       bif decide (0 ≤ (i : Int) ∧ (i : Int) < (L.length : Int)) then
        bif decide (0 + (i : Int).toNat < L.length) then
         some (.normal, z30 L s (.row 1 1 0 1) d (IntKind.i64.wrap ((i : Int) + 1)) [some (.row 1 1 (one (L.getD (0 + (i : Int).toNat) [])))])
        else none
       else none
    else none
   else none
  else some (.exit 0, { tm := tmOf 49 [(0, .row 0 1 0 L.length), (1, .str s), (5, .nilsl), (6, .bool d), (7, .int .i64 i), (11, .bool false)], ms := [], hp := [some (.row 1 L.length (strF L))] }) := by rcases hb with rfl | rfl <;> kernel_rfl
noncomputable abbrev fitsA (k : Nat) : Bool := decide ((k + 1) * 16 ≤ 140737488355328 ∧ k + 1 ≤ 4611686018427387903)
theorem q30b (b : Nat) (hb : b = 0 ∨ b = 1) (Λ0 : LoopT) (L : List (List UInt8)) (i k : Nat) (s : List UInt8) (d : Bool) (h : Nat → Nat → AV) : (rdn tabY h30 Λ0 30 b 0 (z30 L s (.row 1 1 0 k) d i [some (.row 1 k h)])).run =
  bif decide ((i : Int) < (L.length : Int)) then
   bif decide (0 ≤ (i : Int) ∧ (i : Int) < (L.length : Int)) then
    bif decide (0 + (i : Int).toNat < L.length) then
     bif L.getD (0 + (i : Int).toNat) [] == s then some (ret30 L [some (.row 1 k h)])
     else bif !d then
       bif decide (0 ≤ (i : Int) ∧ (i : Int) < (L.length : Int)) then
        bif decide (0 + (i : Int).toNat < L.length) then
         bif !(abytesLess (L.getD (0 + (i : Int).toNat) []) s || L.getD (0 + (i : Int).toNat) [] == s) then
          bif decide (k = k) then
           bif fitsA k then
            bif decide (0 ≤ (i : Int) ∧ (i : Int) < (L.length : Int)) then
             bif decide (0 + (i : Int).toNat < L.length) then
              bif decide (k + 1 = k + 1) then
               bif fitsA (k + 1) then
                some (.normal, z30 L s (.row 1 1 0 (k + 1 + 1)) true (IntKind.i64.wrap ((i : Int) + 1)) [some (.row 1 (k + 1 + 1) (appF (k + 1) (appF k h (one s)) (one (L.getD (0 + (i : Int).toNat) []))))])
               else none
              else none
             else none
            else none
           else none
          else none
         else
          bif decide (0 ≤ (i : Int) ∧ (i : Int) < (L.length : Int)) then
           bif decide (0 + (i : Int).toNat < L.length) then
            bif decide (k = k) then
             bif fitsA k then
              some (.normal, z30 L s (.row 1 1 0 (k + 1)) d (IntKind.i64.wrap ((i : Int) + 1)) [some (.row 1 (k + 1) (appF k h (one (L.getD (0 + (i : Int).toNat) []))))])
             else none
            else none
           else none
          else none
        else none
       else none
      else
       bif decide (0 ≤ (i : Int) ∧ (i : Int) < (L.length : Int)) then
        bif decide (0 + (i : Int).toNat < L.length) then
         bif decide (k = k) then
          bif fitsA k then
           some (.normal, z30 L s (.row 1 1 0 (k + 1)) d (IntKind.i64.wrap ((i : Int) + 1)) [some (.row 1 (k + 1) (appF k h (one (L.getD (0 + (i : Int).toNat) []))))])
          else none
         else none
        else none
       else none
    else none
   else none
  else some (.exit 0, { tm := tmOf 49 [(0, .row 0 1 0 L.length), (1, .str s), (5, .row 1 1 0 k), (6, .bool d), (7, .int .i64 i), (11, .bool false)], ms := [], hp := [some (.row 1 L.length (strF L)), some (.row 1 k h)] }) := by rcases hb with rfl | rfl <;> kernel_rfl
def gtr (x s : List UInt8) : Bool := !(abytesLess x s || x == s)
def stO (s x : List UInt8) (O : List (List UInt8)) (d : Bool) : List (List UInt8) := bif !d && gtr x s then O ++ [s] ++ [x] else O ++ [x]
def stD (s x : List UInt8) (d : Bool) : Bool := bif !d && gtr x s then true else d
theorem one_first (t : List UInt8) : one t = strF ([] ++ [t]) := by
  rw [← strF_app]
  exact (appF_zero _ _).symm
theorem t30 (b : Nat) (hb : b = 0 ∨ b = 1) (Λ0 : LoopT) (L : List (List UInt8)) (s : List UInt8) (O : List (List UInt8)) (d : Bool) (i : Nat) (h1 : i ≤ L.length) (h2 : L.length ≤ bnd) (h3 : O.length + 2 * (L.length - i) ≤ 8796093022208) :
    (rdn tabY h30 Λ0 30 b 0 (z30 L s (rAs 1 O) d i (rHs O))).run = bif decide (i < L.length) then
      bif L.getD i [] == s then some (ret30 L (rHs O))
      else some (.normal, z30 L s (rAs 1 (stO s (L.getD i []) O d)) (stD s (L.getD i []) d) ((i + 1 : Nat) : Int) (rHs (stO s (L.getD i []) O d)))
    else some (ex30 L s (rAs 1 O) d (rHs O)) := by
  simp only [bnd] at h2
  by_cases hi : i < L.length
  · rw [decide_eq_true hi, cond_true]
    unfold stO stD gtr
    have a1 : decide ((i : Int) < (L.length : Int)) = true := decide_eq_true (by omega)
    have a2 : decide (0 + i < L.length) = true := decide_eq_true (by omega)
    cases O with
    | nil =>
      refine (q30a b hb Λ0 L i s d).trans ?_
      simp only [Int.toNat_natCast]
      rw [a1, in_row hi, a2, w64n (by omega), Nat.zero_add]
      generalize L.getD i [] = x
      have e1 := one_first x
      have e2 := one_first s
      have e3 : appF 1 (strF [s]) (one x) = strF ([s] ++ [x]) := strF_app [s] x
      rw [e1, e2, ← e1]
      cases (x == s)
      · cases d
        · cases abytesLess x s
          · simp only [Bool.not_false, cond_true, Bool.false_or, Bool.true_and, List.nil_append, cond_false]
            rw [e3]
            rfl
          · simp only [cond_true, cond_false, Bool.not_false, Bool.true_or, Bool.not_true, Bool.and_false]
            rw [e1]
            rfl
        · simp only [cond_true, cond_false, Bool.not_true, Bool.false_and]
          rw [e1]
          rfl
      · rfl
    | cons o O =>
      refine (q30b b hb Λ0 L i (O.length + 1) s d (strF (o :: O))).trans ?_
      simp only [List.length_cons] at h3
      simp only [Int.toNat_natCast]
      rw [a1, in_row hi, a2, w64n (by omega), Nat.zero_add, decide_eq_true trivial, show fitsA (O.length + 1) = true from decide_eq_true (by omega), show fitsA (O.length + 1 + 1) = true from decide_eq_true (by omega)]
      generalize L.getD i [] = x
      have e1 : appF (O.length + 1) (strF (o :: O)) (one x) = strF (o :: O ++ [x]) := strF_app (o :: O) x
      have e2 : appF (O.length + 1) (strF (o :: O)) (one s) = strF (o :: O ++ [s]) := strF_app (o :: O) s
      have e3 : appF (O.length + 1 + 1) (strF (o :: O ++ [s])) (one x) = strF (o :: O ++ [s] ++ [x]) := by
        have := strF_app (o :: O ++ [s]) x
        rw [List.length_append] at this
        exact this
      have r1 := rAs_push 1 (o :: O) x
      have r2 := rHs_push (o :: O) x
      have r3 := rAs_push 1 (o :: O ++ [s]) x
      have r4 := rHs_push (o :: O ++ [s]) x
      rw [List.length_append] at r3 r4
      rw [e2, e3, e1]
      cases (x == s)
      · cases d
        · cases abytesLess x s
          · simp only [Bool.not_false, cond_true, Bool.false_or, Bool.true_and, cond_false]
            rw [r3, r4]
            rfl
          · simp only [cond_true, cond_false, Bool.not_false, Bool.true_or, Bool.not_true, Bool.and_false]
            rw [r1, r2]
            rfl
        · simp only [cond_true, cond_false, Bool.not_true, Bool.false_and]
          rw [r1, r2]
          rfl
      · rfl
  · obtain rfl : i = L.length := by omega
    rw [decide_eq_false hi, cond_false]
    cases O with
    | nil =>
      refine (q30a b hb Λ0 L L.length s d).trans ?_
      rw [decide_eq_false (show ¬ (L.length : Int) < L.length by omega)]
      rfl
    | cons o O =>
      refine (q30b b hb Λ0 L L.length (O.length + 1) s d (strF (o :: O))).trans ?_
      rw [decide_eq_false (show ¬ (L.length : Int) < L.length by omega)]
      rfl
end Go.Pln
namespace Go.Pln
open Go Go.Proofs Go.Ab
set_option maxRecDepth 100000
set_option linter.unusedVariables false
set_option linter.unusedSimpArgs false

/-! ### put's contract -/
structure P30 where
  fd : Bool
  O : List (List UInt8)
  d : Bool
def puO (s : List UInt8) (L : List (List UInt8)) : Nat → Nat → List (List UInt8) → Bool → P30
  | 0, i, O, d => ⟨false, O, d⟩
  | k + 1, i, O, d => bif L.getD i [] == s then ⟨true, O, d⟩ else puO s L k (i + 1) (stO s (L.getD i []) O d) (stD s (L.getD i []) d)
theorem puO_step (s : List UInt8) (L : List (List UInt8)) {n i : Nat} (h : i < n) (O : List (List UInt8)) (d : Bool) : puO s L (n - i) i O d =
    bif L.getD i [] == s then ⟨true, O, d⟩ else puO s L (n - (i + 1)) (i + 1) (stO s (L.getD i []) O d) (stD s (L.getD i []) d) := by
  obtain ⟨k, hk⟩ : ∃ k, n - i = k + 1 := ⟨n - i - 1, by omega⟩
  rw [hk, show n - (i + 1) = k by omega]
  rfl
structure Y30 where
  l : AV
  s : List UInt8
  o : AV
  d : Bool
  i : Nat
  hp : Hp
def e30 : Y30 → List AV × Hp := fun ⟨l, s, o, d, i, hp⟩ => ([l, .str s, o, .bool d, .int .i64 i], hp)
def d30 : List AV × Hp → Y30
  | ([l, .str s, o, .bool d, .int _ i], hp) => ⟨l, s, o, d, i.toNat, hp⟩
  | _ => ⟨.junk, [], .junk, false, 0, []⟩
theorem i30 : ∀ x, d30 (e30 x) = x := by
  rintro ⟨l, s, o, d, i, hp⟩
  rfl
def p30 : Y30 → Prop := fun ⟨l, s, o, d, i, hp⟩ => (l = .nilsl ∧ o = .nilsl ∧ d = false ∧ i = 0 ∧ hp = []) ∨
  ∃ L O, l = .row 0 1 0 L.length ∧ o = rAs 1 O ∧ hp = some (.row 1 L.length (strF L)) :: rHs O ∧ i ≤ L.length ∧ L.length ≤ bnd ∧ O.length + 2 * (L.length - i) ≤ 8796093022208
noncomputable def zx30 (s : List UInt8) : AX × St := (.exit 0, { tm := tmOf 49 [(0, .nilsl), (1, .str s), (5, .nilsl), (6, .bool false), (7, .int .i64 0), (11, .bool false)], ms := [], hp := [] })
noncomputable def fin30 (L : List (List UInt8)) (s : List UInt8) (r : P30) : T (AX × St) :=
  .br r.fd (.br r.O.isEmpty (.leaf (ret30 L [])) (.leaf (ret30 L [some (.row 1 r.O.length (strF r.O))])))
    (.br r.O.isEmpty (.leaf (ex30 L s .nilsl r.d [])) (.leaf (ex30 L s (.row 1 1 0 r.O.length) r.d [some (.row 1 r.O.length (strF r.O))])))
theorem fin30_ret (L : List (List UInt8)) (s : List UInt8) (O : List (List UInt8)) (d : Bool) : (fin30 L s ⟨true, O, d⟩).run = some (ret30 L (rHs O)) := by cases O <;> rfl
theorem fin30_ex (L : List (List UInt8)) (s : List UInt8) (O : List (List UInt8)) (d : Bool) : (fin30 L s ⟨false, O, d⟩).run = some (ex30 L s (rAs 1 O) d (rHs O)) := by cases O <;> rfl
noncomputable def r30 : Y30 → T (AX × St) := fun ⟨l, s, o, d, i, hp⟩ => match l with
  | .nilsl => .leaf (zx30 s)
  | _ => fin30 (unHs (hp.take 1)) s (puO s (unHs (hp.take 1)) ((unHs (hp.take 1)).length - i) i (unHs (hp.drop 1)) d)
noncomputable def L30 : LoopT := fun k => match Nat.beq k 400065 with
  | true => some (lccon (mbits 227 49) e30 d30 p30 r30)
  | false => none
theorem unHs_one (L : List (List UInt8)) : unHs [some (.row 1 L.length (strF L))] = L := lstF_strF L
theorem tz30 (b : Nat) (hb : b = 0 ∨ b = 1) (Λ0 : LoopT) (s : List UInt8) : (rdn tabY h30 Λ0 30 b 0 { tm := encGo (mbits 227 49) [.nilsl, .str s, .nilsl, .bool false, .int .i64 0], ms := [], hp := [] }).run = some (zx30 s) := by rcases hb with rfl | rfl <;> kernel_rfl
theorem l30 (b : Nat) (hb : b = 0 ∨ b = 1) : LoopOk Try.prog tabY.pf (fun n => hd Try.prog tabY.pf tabY.con.run (fun f => (H0 f).to) n 9) h30.to 30 b none L30 (loopAt Try.prog 30 0) := by
  rw [show loopAt Try.prog 30 0 = .loop (lbody Try.prog 30 0) by kernel_rfl]
  refine loop_c (hdT_le (m := 20) 9) (m := 20) (lv := mbits 227 49) (p := p30) (res := r30) i30 (within_of _ (by rw [show loopsOf (lbody Try.prog 30 0) = [] by kernel_rfl]; simp)) (by kernel_rfl) (fun ⟨l, s, o, d, i, hp⟩ => (unHs (hp.take 1)).length - i) ?_
  rintro ⟨l, s, o, d, i, hp⟩ (⟨rfl, rfl, rfl, rfl, rfl⟩ | ⟨L, O, rfl, rfl, rfl, h1, h2, h3⟩)
  · right
    exact ⟨zx30 s, by simp [zx30], rfl, tz30 b hb L30 s⟩
  have ht := t30 b hb L30 L s O d i h1 h2 h3
  by_cases hi : i < L.length
  · rw [decide_eq_true hi, cond_true] at ht
    have ha := puO_step s L hi O d
    cases hq : (L.getD i [] == s) with
    | true =>
      rw [hq] at ht ha
      right
      refine ⟨_, ?_, ?_, ht⟩
      · simp [ret30]
      · simp only [r30, List.take_succ_cons, List.take_zero, List.drop_succ_cons, List.drop_zero, unHs_one, unHs_rHs, ha]
        exact fin30_ret L s O d
    | false =>
      rw [hq, cond_false] at ht ha
      left
      refine ⟨⟨.row 0 1 0 L.length, s, rAs 1 (stO s (L.getD i []) O d), stD s (L.getD i []) d, i + 1, some (.row 1 L.length (strF L)) :: rHs (stO s (L.getD i []) O d)⟩, .inr ⟨L, _, rfl, rfl, rfl, by omega, h2, ?_⟩, ?_, ?_, ht⟩
      · unfold stO
        cases (!d && gtr (L.getD i []) s)
        · simp only [cond_false, List.length_append, List.length_cons, List.length_nil]; omega
        · simp only [cond_true, List.length_append, List.length_cons, List.length_nil]; omega
      · simp only [List.take_succ_cons, List.take_zero, unHs_one]; omega
      · simp only [r30, List.take_succ_cons, List.take_zero, List.drop_succ_cons, List.drop_zero, unHs_one, unHs_rHs, ha]
  · obtain rfl : i = L.length := by omega
    rw [decide_eq_false hi, cond_false] at ht
    right
    refine ⟨_, ?_, ?_, ht⟩
    · simp [ex30]
    · simp only [r30, List.take_succ_cons, List.take_zero, List.drop_succ_cons, List.drop_zero, unHs_one, unHs_rHs, Nat.sub_self]
      exact fin30_ex L s O d
noncomputable abbrev rwS (L : List (List UInt8)) : Option AObj := some (.row 1 L.length (strF L))
theorem u30n (s : List UInt8) : (evn tabY h30 L30 30 [.nilsl, .str s] []).run =
  bif isEn e30 p30 ([.nilsl, .str s, .nilsl, .bool false, .int .i64 0], []) then some (.row 0 1 0 1, [some (.row 1 1 (one s))]) else none := by kernel_rfl
noncomputable def aft30 (L : List (List UInt8)) (s : List UInt8) (r : P30) : Option (AV × Hp) :=
  bif r.fd then bif r.O.isEmpty then some (.row 0 1 0 L.length, [rwS L]) else some (.row 0 1 0 L.length, [rwS L])
  else bif r.O.isEmpty then
   bif !r.d then some (.row 1 1 0 1, [rwS L, some (.row 1 1 (one s))]) else some (.nilsl, [rwS L])
  else bif !r.d then
   bif decide (r.O.length = r.O.length) then
    bif fitsA r.O.length then some (.row 1 1 0 (r.O.length + 1), [rwS L, some (.row 1 (r.O.length + 1) (appF r.O.length (strF r.O) (one s)))]) else none
   else none
  else some (.row 1 1 0 r.O.length, [rwS L, some (.row 1 r.O.length (strF r.O))])
theorem u30r (L : List (List UInt8)) (s : List UInt8) : (evn tabY h30 L30 30 [.row 0 1 0 L.length, .str s] [rwS L]).run =
  bif isEn e30 p30 ([.row 0 1 0 L.length, .str s, .nilsl, .bool false, .int .i64 0], [rwS L]) then
   aft30 (unHs [rwS L]) s (puO s (unHs [rwS L]) ((unHs [rwS L]).length - 0) 0 (unHs []) false)
  else none := by kernel_rfl
end Go.Pln
namespace Go.Pln
open Go Go.Proofs Go.Ab
set_option maxRecDepth 100000
set_option linter.unusedVariables false
set_option linter.unusedSimpArgs false

/-! ### put told -/
def pu (s : List UInt8) (L : List (List UInt8)) : P30 := puO s L L.length 0 [] false
def puE (s : List UInt8) (r : P30) : List (List UInt8) := bif r.d then r.O else r.O ++ [s]
theorem puO_len (s : List UInt8) (L : List (List UInt8)) : ∀ k i O d, (puO s L k i O d).O.length ≤ O.length + 2 * k ∧ ((puO s L k i O d).fd = false → O.length + k ≤ (puO s L k i O d).O.length)
  | 0, i, O, d => ⟨by show O.length ≤ _; omega, fun _ => by show _ ≤ O.length; omega⟩
  | k + 1, i, O, d => by
    unfold puO
    have hs : (stO s (L.getD i []) O d).length ≤ O.length + 2 ∧ O.length + 1 ≤ (stO s (L.getD i []) O d).length := by
      unfold stO
      cases (!d && gtr (L.getD i []) s)
      · simp only [cond_false, List.length_append, List.length_cons, List.length_nil]; omega
      · simp only [cond_true, List.length_append, List.length_cons, List.length_nil]; omega
    cases (L.getD i [] == s)
    · obtain ⟨h1, h2⟩ := puO_len s L k (i + 1) (stO s (L.getD i []) O d) (stD s (L.getD i []) d)
      exact ⟨by simp only [cond_false]; omega, fun q => by simp only [cond_false] at q ⊢; have := h2 q; omega⟩
    · exact ⟨by show O.length ≤ _; omega, fun q => by cases q⟩
structure X30 where
  L : List (List UInt8)
  s : List UInt8
noncomputable def en30 : X30 → List AV × Hp := fun ⟨L, s⟩ => ([rAs 0 L, .str s], rHs L)
def de30 : List AV × Hp → X30
  | ([_, .str s], hp) => ⟨unHs hp, s⟩
  | _ => ⟨[], []⟩
def pr30 : X30 → Prop := fun ⟨L, s⟩ => L.length ≤ 1099511627776
noncomputable def rs30 : X30 → T (AV × Hp) := fun ⟨L, s⟩ =>
  .br L.isEmpty (.leaf (.row 0 1 0 1, [some (.row 1 1 (strF [s]))]))
    (.br (pu s L).fd (.leaf (.row 0 1 0 L.length, [rwS L])) (.leaf (.row 1 1 0 (puE s (pu s L)).length, [rwS L, rwS (puE s (pu s L))])))
theorem s30 : Sound1 Try.prog ⟨30, false, gcon (mcon en30 de30 pr30 rs30)⟩ := by
  refine sound_cm (m := 20) (k := 9) (hn := h30) (Λ := L30) (soundTab_of all_tabY) (enc := en30) (dec := de30) (p := pr30) (res := rs30) (fun ⟨L, s⟩ => by show (⟨unHs (rHs L), s⟩ : X30) = _; rw [unHs_rHs]) (fun ⟨L, s⟩ hp => oneLoop (by kernel_rfl) (l30 _ (by cases L <;> simp [en30, rHs]))) ?_
  rintro ⟨L, s⟩ hp hF hH
  simp only [pr30] at hp
  cases L with
  | nil =>
    refine (u30n s).trans ?_
    rw [show isEn e30 p30 ([.nilsl, .str s, .nilsl, .bool false, .int .i64 0], []) = true from isEn_true (enc := e30) (p := p30) ⟨.nilsl, s, .nilsl, false, 0, []⟩ (.inl ⟨rfl, rfl, rfl, rfl, rfl⟩), one_first s]
    rfl
  | cons a L =>
    refine (u30r (a :: L) s).trans ?_
    rw [unHs_one, show isEn e30 p30 ([.row 0 1 0 (a :: L).length, .str s, .nilsl, .bool false, .int .i64 0], [rwS (a :: L)]) = true from isEn_true (enc := e30) (p := p30) ⟨.row 0 1 0 (a :: L).length, s, .nilsl, false, 0, [rwS (a :: L)]⟩ (.inr ⟨a :: L, [], rfl, rfl, rfl, Nat.zero_le _, by simp only [bnd]; omega, by simp only [List.length_nil]; omega⟩), Nat.sub_zero, cond_true]
    obtain ⟨h1, h2⟩ := puO_len s (a :: L) (a :: L).length 0 [] false
    simp only [List.length_nil, Nat.zero_add] at h1 h2
    show aft30 (a :: L) s (pu s (a :: L)) = (rs30 ⟨a :: L, s⟩).run
    replace h1 : (pu s (a :: L)).O.length ≤ 2 * (a :: L).length := h1
    replace h2 : (pu s (a :: L)).fd = false → (a :: L).length ≤ (pu s (a :: L)).O.length := h2
    simp only [rs30, T.run_br, T.run_leaf]
    revert h1 h2
    generalize pu s (a :: L) = r
    rintro h1 h2
    obtain ⟨fd, O, d⟩ := r
    simp only at h1 h2
    cases fd with
    | true => cases O <;> rfl
    | false =>
      have h3 := h2 rfl
      cases O with
      | nil => simp at h3
      | cons o O =>
        cases d with
        | true => rfl
        | false =>
          unfold aft30
          simp only [List.isEmpty_cons, Bool.not_false, cond_true, cond_false]
          rw [decide_eq_true trivial, show fitsA (o :: O).length = true from decide_eq_true (by omega), show appF (o :: O).length (strF (o :: O)) (one s) = strF (o :: O ++ [s]) from strF_app (o :: O) s]
          simp only [puE, cond_true, cond_false, rwS, List.length_append, List.length_cons, List.length_nil, Nat.zero_add]
          rfl
/-! ### put, plainly -/
def pt (s : List UInt8) (L : List (List UInt8)) : List (List UInt8) := bif L.isEmpty then [s] else bif (pu s L).fd then L else puE s (pu s L)
def pls (s : List UInt8) : List (List UInt8) → Bool → List (List UInt8)
  | [], d => bif d then [] else [s]
  | x :: R, d => bif !d && gtr x s then s :: x :: pls s R true else x :: pls s R d
theorem puO_spec (s : List UInt8) (L : List (List UInt8)) : ∀ k i O d, i + k = L.length → (puO s L k i O d).fd = (L.drop i).contains s ∧ ((puO s L k i O d).fd = false → puE s (puO s L k i O d) = O ++ pls s (L.drop i) d)
  | 0, i, O, d, h => by
    rw [List.drop_eq_nil_of_le (by omega)]
    refine ⟨rfl, fun _ => ?_⟩
    unfold puO puE pls
    cases d <;> simp
  | k + 1, i, O, d, h => by
    rw [dropD [] (show i < L.length by omega)]
    unfold puO pls
    rw [List.contains_cons]
    cases hq : (L.getD i [] == s) with
    | true =>
      have e : L.getD i [] = s := by simpa using hq
      refine ⟨?_, fun q => by cases q⟩
      rw [e]
      simp
    | false =>
      have e : (s == L.getD i []) = false := by
        rw [beq_eq_false_iff_ne] at hq ⊢
        exact Ne.symm hq
      obtain ⟨h1, h2⟩ := puO_spec s L k (i + 1) (stO s (L.getD i []) O d) (stD s (L.getD i []) d) (by omega)
      rw [e, Bool.false_or, cond_false]
      refine ⟨h1, fun q => ?_⟩
      rw [h2 q]
      unfold stO stD
      cases (!d && gtr (L.getD i []) s) <;> simp
theorem gtr_iff (x s : List UInt8) : gtr x s = true ↔ abytesLess s x = true := by
  unfold gtr
  constructor
  · intro h
    simp only [Bool.not_eq_true', Bool.or_eq_false_iff, beq_eq_false_iff_ne] at h
    exact less_or h.1 h.2
  · intro h
    have := less_asym h
    simp only [Bool.not_eq_true', Bool.or_eq_false_iff, beq_eq_false_iff_ne]
    exact ⟨this.1, this.2⟩
theorem pls_true (s : List UInt8) : ∀ L, pls s L true = L
  | [] => rfl
  | x :: R => by
    unfold pls
    rw [pls_true s R]
    rfl
theorem pls_ris (s : List UInt8) : ∀ L, Ris L → ¬ s ∈ L → Ris (pls s L false) ∧ ∀ x, x ∈ pls s L false ↔ x = s ∨ x ∈ L
  | [], _, _ => ⟨by unfold pls; simp, fun x => by unfold pls; simp⟩
  | x :: R, hr, hn => by
    obtain ⟨h1, h2⟩ := List.pairwise_cons.1 hr
    have hx : s ≠ x := fun e => hn (by simp [e])
    unfold pls
    cases hg : gtr x s with
    | true =>
      have hl := (gtr_iff x s).1 hg
      simp only [Bool.not_false, Bool.true_and, cond_true]
      rw [pls_true]
      refine ⟨List.pairwise_cons.2 ⟨fun b hb => ?_, hr⟩, fun y => by simp⟩
      rcases List.mem_cons.1 hb with rfl | hb
      · exact hl
      · exact less_trans hl (h1 b hb)
    | false =>
      obtain ⟨i1, i2⟩ := pls_ris s R h2 (fun q => hn (by simp [q]))
      have hl : abytesLess x s = true := by
        have : abytesLess s x = false := by
          cases h : abytesLess s x with
          | false => rfl
          | true => rw [(gtr_iff x s).2 h] at hg; cases hg
        exact less_or this hx
      simp only [Bool.not_false, Bool.true_and, cond_false]
      refine ⟨List.pairwise_cons.2 ⟨fun b hb => ?_, i1⟩, fun y => ?_⟩
      · rcases (i2 b).1 hb with rfl | hb
        · exact hl
        · exact h1 b hb
      · rw [List.mem_cons, i2, List.mem_cons]
        constructor
        · rintro (h | h | h)
          · exact .inr (.inl h)
          · exact .inl h
          · exact .inr (.inr h)
        · rintro (h | h | h)
          · exact .inr (.inl h)
          · exact .inl h
          · exact .inr (.inr h)
theorem pt_ris {L : List (List UInt8)} (h : Ris L) (s : List UInt8) : Ris (pt s L) ∧ ∀ x, x ∈ pt s L ↔ x = s ∨ x ∈ L := by
  obtain ⟨h1, h2⟩ := puO_spec s L L.length 0 [] false (by omega)
  rw [List.drop_zero] at h1 h2
  unfold pt
  cases L with
  | nil => exact ⟨by simp, fun x => by simp⟩
  | cons a L =>
    simp only [List.isEmpty_cons, cond_false]
    unfold pu
    cases hf : (puO s (a :: L) (a :: L).length 0 [] false).fd with
    | true =>
      rw [hf] at h1
      have hm : s ∈ a :: L := by
        have := h1.symm
        simpa using this
      simp only [cond_true]
      refine ⟨h, fun x => ⟨fun q => .inr q, fun q => ?_⟩⟩
      rcases q with rfl | q
      · exact hm
      · exact q
    | false =>
      simp only [cond_false]
      rw [h2 hf, List.nil_append]
      refine pls_ris s (a :: L) h fun q => ?_
      rw [hf] at h1
      have : (a :: L).contains s = true := by simpa using q
      rw [this] at h1; cases h1
theorem pls_len (s : List UInt8) : ∀ L, (pls s L false).length = L.length + 1
  | [] => rfl
  | x :: R => by
    unfold pls
    cases gtr x s
    · simp only [Bool.and_false, cond_false, List.length_cons, pls_len s R]
    · simp only [Bool.not_false, Bool.true_and, cond_true, List.length_cons, pls_true]
theorem pt_len (s : List UInt8) (L : List (List UInt8)) : (pt s L).length ≤ L.length + 1 := by
  obtain ⟨h1, h2⟩ := puO_spec s L L.length 0 [] false (by omega)
  rw [List.drop_zero] at h1 h2
  unfold pt
  cases L with
  | nil => simp
  | cons a L =>
    simp only [List.isEmpty_cons, cond_false]
    unfold pu
    cases hf : (puO s (a :: L) (a :: L).length 0 [] false).fd with
    | true => simp only [cond_true]; omega
    | false =>
      simp only [cond_false]
      rw [h2 hf, List.nil_append, pls_len]
      exact Nat.le_refl _
end Go.Pln
namespace Go.Pln

open Go Go.Proofs Go.Ab

set_option maxRecDepth 100000

set_option linter.unusedVariables false

set_option linter.unusedSimpArgs false

/-! ### The reference's Find and Changes -/

instance : Inhabited Ch := ⟨⟨[], [], []⟩⟩

def nqK (f : Nat → Pk) (s : List UInt8) (i : Nat) : Bool := !(f i).nm == s

structure Y27 where
  n : Nat
  f : Nat → Pk
  s : List UInt8
  i : Nat

def eL27 : Y27 → List AV × Hp := fun ⟨n, f, s, i⟩ => ([.sl 2 n (rowK f), .str s, .int .i64 i], [])

def dL27 : List AV × Hp → Y27
  | ([.sl _ n f_g, .str s, .int .i64 i], []) => ⟨n, unK f_g, s, i.toNat⟩
  | _ => ⟨default, default, default, default⟩

def pL27 : Y27 → Prop := fun ⟨n, f, s, i⟩ => i ≤ n ∧ n ≤ bnd

def rL27 : Y27 → T (AX × St) := fun ⟨n, f, s, i⟩ => .br (decide (fbad (nqK f s) (n - i) i < n)) (.leaf (.ret, { tm := tmOf 25 [(4, .str (f (fbad (nqK f s) (n - i) i)).vr), (5, .bool true)], ms := [], hp := [] })) (.leaf (.exit 0, { tm := tmOf 25 [(0, .sl 2 n (rowK f)), (1, .str s), (6, .int .i64 n), (10, .bool false)], ms := [], hp := [] }))

noncomputable def L27 : LoopT := fun k => match Nat.beq k 200037 with
  | true => some (lccon (mbits 67 25) eL27 dL27 pL27 rL27)
  | false => none

theorem iL27 : ∀ x, dL27 (eL27 x) = x := by
  rintro ⟨n, f, s, i⟩
  simp only [eL27, dL27, Int.toNat_natCast, unK_rowK]

theorem kL27 (n : Nat) (f : Nat → Pk) (s : List UInt8) (i : Nat) (h : i ≤ n ∧ n ≤ bnd) : isEn eL27 pL27 ([.sl 2 n (rowK f), .str s, .int .i64 i], []) = true := isEn_true (enc := eL27) (p := pL27) ⟨n, f, s, i⟩ h

theorem zL27 (n : Nat) (f : Nat → Pk) (s : List UInt8) (h : pL27 ⟨n, f, s, 0⟩) : isEn eL27 pL27 ([.sl 2 n (rowK f), .str s, .int .i64 (0 : Int)], []) = true := isEn_true (enc := eL27) (p := pL27) ⟨n, f, s, 0⟩ h

theorem q27 (n : Nat) (f : Nat → Pk) (s : List UInt8) (i : Nat) : (rdn tabY h27 L27 27 0 0 { tm := encGo (mbits 67 25) [.sl 2 n (rowK f), .str s, .int .i64 i], ms := [], hp := [] }).run =
  bif decide ((↑i : Int) < (↑n : Int)) then
   bif decide ((0 : Int) ≤ (↑i : Int) ∧ (↑i : Int) < (↑n : Int)) then
    bif (f (↑i : Int).toNat).nm == s then
     bif decide ((0 : Int) ≤ (↑i : Int) ∧ (↑i : Int) < (↑n : Int)) then
      some ((AX.ret, { tm := tmOf 25 [(4, AV.str (f (↑i : Int).toNat).vr), (5, AV.bool true)], ms := [], hp := [] }))
     else
      none
    else
     some ((AX.normal, { tm := tmOf 25 [(0, AV.sl 2 n (rowK f)), (1, AV.str s), (6, AV.int IntKind.i64 (IntKind.i64.wrap ((↑i : Int) + (1 : Int))))], ms := [], hp := [] }))
   else
    none
  else
   some ((AX.exit 0, { tm := tmOf 25 [(0, AV.sl 2 n (rowK f)), (1, AV.str s), (6, AV.int IntKind.i64 (↑i : Int)), (10, AV.bool false)], ms := [], hp := [] })) := by kernel_rfl

theorem l27 : LoopOk Try.prog tabY.pf (fun n => hd Try.prog tabY.pf tabY.con.run (fun f => (H0 f).to) n 9) h27.to 27 0 none L27 (loopAt Try.prog 27 0) := by
  rw [show loopAt Try.prog 27 0 = .loop (lbody Try.prog 27 0) by kernel_rfl]
  refine loop_c (hdT_le (m := 20) 9) (m := 20) (lv := mbits 67 25) (p := pL27) (res := rL27) iL27 (within_of _ (by rw [show loopsOf (lbody Try.prog 27 0) = [] by kernel_rfl]; simp)) (by kernel_rfl) (fun ⟨n, f, s, i⟩ => n - i) ?_
  rintro ⟨n, f, s, i⟩ hp
  have ht := q27 n f s i
  obtain ⟨h1, h2⟩ := hp
  have hb := h2
  simp only [bnd] at hb
  by_cases hl : i < n
  · have hd := fbad_step (q := nqK f s) hl
    rw [decide_eq_true (show (i : Int) < n by omega), in_row hl, Int.toNat_natCast, w64n (by omega)] at ht
    cases hq : ((f i).nm == s) with
    | false =>
      rw [show nqK f s i = true by unfold nqK; rw [hq]; rfl] at hd
      rw [hq] at ht
      rw [cond_true] at hd
      left
      refine ⟨⟨n, f, s, i + 1⟩, ⟨by omega, h2⟩, by simp only; omega, ?_, ht⟩
      simp only [rL27, T.run_br, hd]
    | true =>
      rw [show nqK f s i = false by unfold nqK; rw [hq]; rfl] at hd
      rw [hq] at ht
      rw [cond_false] at hd
      right
      refine ⟨_, ?_, ?_, ht⟩
      · simp
      · simp only [rL27, T.run_br, hd, decide_eq_true hl] <;> rfl
  · have he : i = n := by omega
    right
    subst he
    rw [decide_eq_false (show ¬ (i : Int) < i by omega)] at ht
    refine ⟨_, ?_, ?_, ht⟩
    · simp
    · simp only [rL27, T.run_br, Nat.sub_self, fbad, decide_eq_false (Nat.lt_irrefl i)] <;> rfl

theorem fbad_find (f : Nat → Pk) (s : List UInt8) : ∀ k i, gtL s (lsF f k i) = if fbad (nqK f s) k i < i + k then (f (fbad (nqK f s) k i)).vr else []
  | 0, i => by simp [fbad, gtL, lsF]
  | k + 1, i => by
    have ih := fbad_find f s k (i + 1)
    unfold gtL at ih ⊢
    unfold lsF fbad
    rw [List.find?_cons]
    unfold nqK
    cases hq : ((f i).nm == s) with
    | true =>
      have e : (f i).nm = s := by simpa using hq
      rw [show (s == (f i).nm) = true by rw [e]; simp]
      simp only [Bool.not_true, cond_false]
      rw [if_pos (by omega)]
    | false =>
      have e : (s == (f i).nm) = false := by
        rw [beq_eq_false_iff_ne] at hq ⊢
        exact Ne.symm hq
      rw [e]
      simp only [Bool.not_false, cond_true]
      unfold nqK at ih
      rw [ih]
      simp only [show i + 1 + k = i + (k + 1) by omega]

def fdK (f : Nat → Pk) (n : Nat) (s : List UInt8) : Bool := decide (fbad (nqK f s) n 0 < n)

theorem t27 (n : Nat) (f : Nat → Pk) (s : List UInt8) : (evn tabY h27 L27 27 [.sl 2 n (rowK f), .str s] []).run =
  bif isEn eL27 pL27 ([AV.sl 2 n (rowK f), AV.str s, AV.int IntKind.i64 (0 : Int)], []) then
   bif decide (fbad (nqK (unK (rowK f)) s) (n - 0) 0 < n) then
    some ((AV.tup [AV.str (unK (rowK f) (fbad (nqK (unK (rowK f)) s) (n - 0) 0)).vr, AV.bool true], []))
   else
    some ((AV.tup [AV.str [], AV.bool false], []))
  else
   none := by kernel_rfl

structure X27 where
  n : Nat
  f : Nat → Pk
  s : List UInt8

def en27 : X27 → List AV := fun ⟨n, f, s⟩ => [.sl 2 n (rowK f), .str s]

def de27 : List AV → X27
  | [.sl _ n f_g, .str s] => ⟨n, unK f_g, s⟩
  | _ => ⟨default, default, default⟩

def p27 : X27 → Prop := fun ⟨n, f, s⟩ => n ≤ bnd

def rs27 : X27 → T AV := fun ⟨n, f, s⟩ => .leaf (.tup [.str (gtL s (lsF f n 0)), .bool (fdK f n s)])

noncomputable def c27 : List AV → T AV := ccon en27 de27 p27 rs27

theorem in27 : ∀ x, de27 (en27 x) = x := by
  rintro ⟨n, f, s⟩
  simp only [en27, de27, Int.toNat_natCast, unK_rowK]

theorem k27 (n : Nat) (f : Nat → Pk) (s : List UInt8) (h : n ≤ bnd) : isEn en27 p27 [.sl 2 n (rowK f), .str s] = true := isEn_true (enc := en27) (p := p27) ⟨n, f, s⟩ h

theorem e27 (n : Nat) (f : Nat → Pk) (s : List UInt8) (hF : FitsL [.sl 2 n (rowK f), .str s]) (hp : n ≤ bnd) : (evn tabY h27 L27 27 [.sl 2 n (rowK f), .str s] []).run = (.leaf (.tup [.str (gtL s (lsF f n 0)), .bool (fdK f n s)]) : T AV).run.map fun r => (r, []) := by
  refine (t27 n f s).trans ?_
  rw [cond_chk (zL27 n f s ⟨Nat.zero_le _, hp⟩)]
  rw [unK_rowK, Nat.sub_zero]
  unfold fdK
  rw [fbad_find, Nat.zero_add]
  by_cases hb : fbad (nqK f s) n 0 < n
  · rw [decide_eq_true hb, if_pos hb]; rfl
  · rw [decide_eq_false hb, if_neg hb]; rfl

theorem s27 : Sound1 Try.prog ⟨27, true, pcon c27⟩ := by
  refine sound_c (soundTab_of all_tabY) H0 in27 (hn := h27) (m := 20) (k := 9) (Λ := L27) (oneLoop (by kernel_rfl) l27) ?_
  rintro ⟨n, f, s⟩ hp hF
  exact e27 n f s hF hp

def samC (f g : Nat → Ch) (i : Nat) : Bool := (f i).nm == (g i).nm && ((f i).fr == (g i).fr && ((f i).tt == (g i).tt && true))

structure Y9 where
  n : Nat
  f : Nat → Ch
  g : Nat → Ch
  i : Nat

def eL9 : Y9 → List AV × Hp := fun ⟨n, f, g, i⟩ => ([.sl 3 n (rowG CH f), .sl 3 n (rowG CH g), .int .i64 i], [])

def dL9 : List AV × Hp → Y9
  | ([.sl _ n f_g, .sl _ _ g_g, .int .i64 i], []) => ⟨n, unG CH f_g, unG CH g_g, i.toNat⟩
  | _ => ⟨default, default, default, default⟩

def pL9 : Y9 → Prop := fun ⟨n, f, g, i⟩ => i ≤ n ∧ n ≤ bnd ∧ ∀ j, j < n → samC f g j = true

def rL9 : Y9 → T (AX × St) := fun ⟨n, f, g, i⟩ => .leaf (.exit 0, { tm := tmOf 26 [(0, .sl 3 n (rowG CH f)), (1, .sl 3 n (rowG CH g)), (5, .int .i64 n), (14, .bool false)], ms := [], hp := [] })

noncomputable def L9 : LoopT := fun k => match Nat.beq k 400033 with
  | true => some (lccon (mbits 35 26) eL9 dL9 pL9 rL9)
  | false => none

theorem iL9 : ∀ x, dL9 (eL9 x) = x := by
  rintro ⟨n, f, g, i⟩
  simp only [eL9, dL9, Int.toNat_natCast, unG_rowG okCH]

theorem kL9 (n : Nat) (f : Nat → Ch) (g : Nat → Ch) (i : Nat) (h : i ≤ n ∧ n ≤ bnd ∧ ∀ j, j < n → samC f g j = true) : isEn eL9 pL9 ([.sl 3 n (rowG CH f), .sl 3 n (rowG CH g), .int .i64 i], []) = true := isEn_true (enc := eL9) (p := pL9) ⟨n, f, g, i⟩ h

theorem zL9 (n : Nat) (f : Nat → Ch) (g : Nat → Ch) (h : pL9 ⟨n, f, g, 0⟩) : isEn eL9 pL9 ([.sl 3 n (rowG CH f), .sl 3 n (rowG CH g), .int .i64 (0 : Int)], []) = true := isEn_true (enc := eL9) (p := pL9) ⟨n, f, g, 0⟩ h

theorem q9 (n : Nat) (f : Nat → Ch) (g : Nat → Ch) (i : Nat) : (rdn tabY h9 L9 9 0 0 { tm := encGo (mbits 35 26) [.sl 3 n (rowG CH f), .sl 3 n (rowG CH g), .int .i64 i], ms := [], hp := [] }).run =
  bif decide ((↑i : Int) < (↑n : Int)) then
   bif decide ((0 : Int) ≤ (↑i : Int) ∧ (↑i : Int) < (↑n : Int)) then
    bif decide ((0 : Int) ≤ (↑i : Int) ∧ (↑i : Int) < (↑n : Int)) then
     bif !((f (↑i : Int).toNat).nm == (g (↑i : Int).toNat).nm && ((f (↑i : Int).toNat).fr == (g (↑i : Int).toNat).fr && ((f (↑i : Int).toNat).tt == (g (↑i : Int).toNat).tt && true))) then
      some ((AX.ret, { tm := tmOf 26 [(4, AV.bool false)], ms := [], hp := [] }))
     else
      some ((AX.normal, { tm := tmOf 26 [(0, AV.sl 3 n (rowG CH f)), (1, AV.sl 3 n (rowG CH g)), (5, AV.int IntKind.i64 (IntKind.i64.wrap ((↑i : Int) + (1 : Int))))], ms := [], hp := [] }))
    else
     none
   else
    none
  else
   some ((AX.exit 0, { tm := tmOf 26 [(0, AV.sl 3 n (rowG CH f)), (1, AV.sl 3 n (rowG CH g)), (5, AV.int IntKind.i64 (↑i : Int)), (14, AV.bool false)], ms := [], hp := [] })) := by kernel_rfl

theorem l9 : LoopOk Try.prog tabY.pf (fun n => hd Try.prog tabY.pf tabY.con.run (fun f => (H0 f).to) n 9) h9.to 9 0 none L9 (loopAt Try.prog 9 0) := by
  rw [show loopAt Try.prog 9 0 = .loop (lbody Try.prog 9 0) by kernel_rfl]
  refine loop_c (hdT_le (m := 20) 9) (m := 20) (lv := mbits 35 26) (p := pL9) (res := rL9) iL9 (within_of _ (by rw [show loopsOf (lbody Try.prog 9 0) = [] by kernel_rfl]; simp)) (by kernel_rfl) (fun ⟨n, f, g, i⟩ => n - i) ?_
  rintro ⟨n, f, g, i⟩ hp
  have ht := q9 n f g i
  obtain ⟨h1, h2, h3⟩ := hp
  have hb := h2
  simp only [bnd] at hb
  by_cases hl : i < n
  · rw [decide_eq_true (show (i : Int) < n by omega), in_row hl, Int.toNat_natCast, w64n (by omega)] at ht
    have hq := h3 i hl
    unfold samC at hq
    rw [hq] at ht
    left
    exact ⟨⟨n, f, g, i + 1⟩, ⟨by omega, h2, h3⟩, by simp only; omega, rfl, ht⟩
  · have he : i = n := by omega
    right
    subst he
    rw [decide_eq_false (show ¬ (i : Int) < i by omega)] at ht
    exact ⟨_, by simp, rfl, ht⟩

theorem t9 (n : Nat) (f : Nat → Ch) (g : Nat → Ch) : (evn tabY h9 L9 9 [.sl 3 n (rowG CH f), .sl 3 n (rowG CH g)] []).run =
  bif (↑n : Int) != (↑n : Int) then
   some ((AV.bool false, []))
  else
   bif isEn eL9 pL9 ([AV.sl 3 n (rowG CH f), AV.sl 3 n (rowG CH g), AV.int IntKind.i64 (0 : Int)], []) then
    some ((AV.bool true, []))
   else
    none := by kernel_rfl

structure X9 where
  n : Nat
  f : Nat → Ch
  g : Nat → Ch

def en9 : X9 → List AV := fun ⟨n, f, g⟩ => [.sl 3 n (rowG CH f), .sl 3 n (rowG CH g)]

def de9 : List AV → X9
  | [.sl _ n f_g, .sl _ _ g_g] => ⟨n, unG CH f_g, unG CH g_g⟩
  | _ => ⟨default, default, default⟩

def p9 : X9 → Prop := fun ⟨n, f, g⟩ => n ≤ bnd ∧ ∀ j, j < n → samC f g j = true

def rs9 : X9 → T AV := fun ⟨n, f, g⟩ => .leaf (.bool true)

noncomputable def c9 : List AV → T AV := ccon en9 de9 p9 rs9

theorem in9 : ∀ x, de9 (en9 x) = x := by
  rintro ⟨n, f, g⟩
  simp only [en9, de9, Int.toNat_natCast, unG_rowG okCH]

theorem k9 (n : Nat) (f : Nat → Ch) (g : Nat → Ch) (h : n ≤ bnd ∧ ∀ j, j < n → samC f g j = true) : isEn en9 p9 [.sl 3 n (rowG CH f), .sl 3 n (rowG CH g)] = true := isEn_true (enc := en9) (p := p9) ⟨n, f, g⟩ h

theorem e9 (n : Nat) (f : Nat → Ch) (g : Nat → Ch) (hF : FitsL [.sl 3 n (rowG CH f), .sl 3 n (rowG CH g)]) (hp : n ≤ bnd ∧ ∀ j, j < n → samC f g j = true) : (evn tabY h9 L9 9 [.sl 3 n (rowG CH f), .sl 3 n (rowG CH g)] []).run = (.leaf (.bool true) : T AV).run.map fun r => (r, []) := by
  refine (t9 n f g).trans ?_
  rw [show ((n : Int) != n) = false by simp, cond_false]
  refine (cond_chk (zL9 n f g ⟨Nat.zero_le _, hp⟩)).trans ?_
  rfl

theorem s9 : Sound1 Try.prog ⟨9, true, pcon c9⟩ := by
  refine sound_c (soundTab_of all_tabY) H0 in9 (hn := h9) (m := 20) (k := 9) (Λ := L9) (oneLoop (by kernel_rfl) l9) ?_
  rintro ⟨n, f, g⟩ hp hF
  exact e9 n f g hF hp

theorem s27o : Sound1 Try.prog ⟨27, false, scon [.rows 2, .any] c27⟩ := sound_scon s27 [.rows 2, .any]

noncomputable def tabZa : Tab := ⟨27, false, scon [.rows 2, .any] c27⟩ :: ⟨9, true, pcon c9⟩ :: tabY

theorem all_tabZa : ∀ e, e ∈ tabZa → Sound1 Try.prog e := sound_mem_tab s27o (sound_mem_tab s9 all_tabY)
end Go.Pln
namespace Go.Pln
open Go Go.Proofs Go.Ab
set_option maxRecDepth 100000
set_option linter.unusedVariables false
set_option linter.unusedSimpArgs false

/-! ### The reference's set -/
noncomputable abbrev rwP (L : List Pk) : Option AObj := some (.row 2 L.length (rowG CK (fnR CK.df L)))
noncomputable abbrev rwQ (n : Nat) (x : Nat → Pk) : Option AObj := some (.row 2 n (rowG CK x))
noncomputable def z29 (n : Nat) (x : Nat → Pk) (s t : List UInt8) (o : AV) (d : Bool) (i : Int) (rows : Hp) : St :=
  { tm := encGo (mbits 903 58) [.row 0 2 0 n, .str s, .str t, o, .bool d, .int .i64 i], ms := [], hp := rwQ n x :: rows }
noncomputable def ex29 (n : Nat) (x : Nat → Pk) (s t : List UInt8) (o : AV) (d : Bool) (i : Int) (rows : Hp) : AX × St :=
  (.exit 0, { tm := tmOf 58 [(0, .row 0 2 0 n), (1, .str s), (2, .str t), (7, o), (8, .bool d), (9, .int .i64 i), (15, .bool false)], ms := [], hp := rwQ n x :: rows })
noncomputable abbrev two (a b : List UInt8) : Nat → Nat → AV := fun j => rowF 2 [.str a, .str b] (0 + j)
noncomputable abbrev fitsB (k : Nat) : Bool := decide ((k + 1) * 32 ≤ 140737488355328 ∧ k + 1 ≤ 4611686018427387903)
theorem q29a (b : Nat) (hb : b = 0 ∨ b = 1) (Λ0 : LoopT) (n : Nat) (x : Nat → Pk) (i : Nat) (s t : List UInt8) (d : Bool) : (rdn tabZa h29 Λ0 29 b 0 (z29 n x s t .nilsl d i [])).run =
  bif decide ((i : Int) < (n : Int)) then
   bif decide (0 ≤ (i : Int) ∧ (i : Int) < (n : Int)) then
    bif decide (0 + (i : Int).toNat < n) then
     bif (x (0 + (i : Int).toNat)).nm == s then some (.normal, z29 n x s t .nilsl d (IntKind.i64.wrap ((i : Int) + 1)) [])
     else bif !d then
       bif decide (0 ≤ (i : Int) ∧ (i : Int) < (n : Int)) then
        bif decide (0 + (i : Int).toNat < n) then
         bif !(abytesLess (x (0 + (i : Int).toNat)).nm s || (x (0 + (i : Int).toNat)).nm == s) then
          bif decide (0 ≤ (i : Int) ∧ (i : Int) < (n : Int)) then
           bif decide (0 + (i : Int).toNat < n) then
            some (.normal, z29 n x s t (.row 1 2 0 2) true (IntKind.i64.wrap ((i : Int) + 1)) [some (.row 2 2 (appF 1 (two s t) (two (x (0 + (i : Int).toNat)).nm (x (0 + (i : Int).toNat)).vr)))])
           else none
          else none
         else
          bif decide (0 ≤ (i : Int) ∧ (i : Int) < (n : Int)) then
           bif decide (0 + (i : Int).toNat < n) then
            some (.normal, z29 n x s t (.row 1 2 0 1) d (IntKind.i64.wrap ((i : Int) + 1)) [some (.row 2 1 (two (x (0 + (i : Int).toNat)).nm (x (0 + (i : Int).toNat)).vr))])
           else none
          else none
        else none
       else none
      else
       bif decide (0 ≤ (i : Int) ∧ (i : Int) < (n : Int)) then
        bif decide (0 + (i : Int).toNat < n) then
         some (.normal, z29 n x s t (.row 1 2 0 1) d (IntKind.i64.wrap ((i : Int) + 1)) [some (.row 2 1 (two (x (0 + (i : Int).toNat)).nm (x (0 + (i : Int).toNat)).vr))])
        else none
       else none
    else none
   else none
  else some (ex29 n x s t .nilsl d i []) := by rcases hb with rfl | rfl <;> kernel_rfl
theorem q29b (b : Nat) (hb : b = 0 ∨ b = 1) (Λ0 : LoopT) (n : Nat) (x : Nat → Pk) (i k : Nat) (s t : List UInt8) (d : Bool) (h : Nat → Nat → AV) : (rdn tabZa h29 Λ0 29 b 0 (z29 n x s t (.row 1 2 0 k) d i [some (.row 2 k h)])).run =
  bif decide ((i : Int) < (n : Int)) then
   bif decide (0 ≤ (i : Int) ∧ (i : Int) < (n : Int)) then
    bif decide (0 + (i : Int).toNat < n) then
     bif (x (0 + (i : Int).toNat)).nm == s then some (.normal, z29 n x s t (.row 1 2 0 k) d (IntKind.i64.wrap ((i : Int) + 1)) [some (.row 2 k h)])
     else bif !d then
       bif decide (0 ≤ (i : Int) ∧ (i : Int) < (n : Int)) then
        bif decide (0 + (i : Int).toNat < n) then
         bif !(abytesLess (x (0 + (i : Int).toNat)).nm s || (x (0 + (i : Int).toNat)).nm == s) then
          bif decide (k = k) then
           bif fitsB k then
            bif decide (0 ≤ (i : Int) ∧ (i : Int) < (n : Int)) then
             bif decide (0 + (i : Int).toNat < n) then
              bif decide (k + 1 = k + 1) then
               bif fitsB (k + 1) then
                some (.normal, z29 n x s t (.row 1 2 0 (k + 1 + 1)) true (IntKind.i64.wrap ((i : Int) + 1)) [some (.row 2 (k + 1 + 1) (appF (k + 1) (appF k h (two s t)) (two (x (0 + (i : Int).toNat)).nm (x (0 + (i : Int).toNat)).vr)))])
               else none
              else none
             else none
            else none
           else none
          else none
         else
          bif decide (0 ≤ (i : Int) ∧ (i : Int) < (n : Int)) then
           bif decide (0 + (i : Int).toNat < n) then
            bif decide (k = k) then
             bif fitsB k then
              some (.normal, z29 n x s t (.row 1 2 0 (k + 1)) d (IntKind.i64.wrap ((i : Int) + 1)) [some (.row 2 (k + 1) (appF k h (two (x (0 + (i : Int).toNat)).nm (x (0 + (i : Int).toNat)).vr)))])
             else none
            else none
           else none
          else none
        else none
       else none
      else
       bif decide (0 ≤ (i : Int) ∧ (i : Int) < (n : Int)) then
        bif decide (0 + (i : Int).toNat < n) then
         bif decide (k = k) then
          bif fitsB k then
           some (.normal, z29 n x s t (.row 1 2 0 (k + 1)) d (IntKind.i64.wrap ((i : Int) + 1)) [some (.row 2 (k + 1) (appF k h (two (x (0 + (i : Int).toNat)).nm (x (0 + (i : Int).toNat)).vr)))])
          else none
         else none
        else none
       else none
    else none
   else none
  else some (ex29 n x s t (.row 1 2 0 k) d i [some (.row 2 k h)]) := by rcases hb with rfl | rfl <;> kernel_rfl
def spO (s t : List UInt8) (x : Pk) (O : List Pk) (d : Bool) : List Pk := bif !d && gtr x.nm s then O ++ [⟨s, t⟩] ++ [x] else O ++ [x]
def spD (s : List UInt8) (x : Pk) (d : Bool) : Bool := bif !d && gtr x.nm s then true else d
theorem two_first (x : Pk) : two x.nm x.vr = rowG CK (fnR CK.df [x]) := rowF_first okCK CK.df rfl
theorem two_push (L : List Pk) (x : Pk) : appF L.length (rowG CK (fnR CK.df L)) (two x.nm x.vr) = rowG CK (fnR CK.df (L ++ [x])) := appG_push okCK CK.df L rfl
theorem t29 (b : Nat) (hb : b = 0 ∨ b = 1) (Λ0 : LoopT) (n : Nat) (x : Nat → Pk) (s t : List UInt8) (O : List Pk) (d : Bool) (i : Nat) (h1 : i ≤ n) (h2 : n ≤ bnd) (h3 : O.length + 2 * (n - i) ≤ 4398046511104) :
    (rdn tabZa h29 Λ0 29 b 0 (z29 n x s t (rAG CK 1 O) d i (rHG CK O))).run = bif decide (i < n) then
      bif (x i).nm == s then some (.normal, z29 n x s t (rAG CK 1 O) d ((i + 1 : Nat) : Int) (rHG CK O))
      else some (.normal, z29 n x s t (rAG CK 1 (spO s t (x i) O d)) (spD s (x i) d) ((i + 1 : Nat) : Int) (rHG CK (spO s t (x i) O d)))
    else some (ex29 n x s t (rAG CK 1 O) d n (rHG CK O)) := by
  simp only [bnd] at h2
  by_cases hi : i < n
  · rw [decide_eq_true hi, cond_true]
    unfold spO spD gtr
    have a1 : decide ((i : Int) < (n : Int)) = true := decide_eq_true (by omega)
    have a2 : decide (0 + i < n) = true := decide_eq_true (by omega)
    cases O with
    | nil =>
      refine (q29a b hb Λ0 n x i s t d).trans ?_
      simp only [Int.toNat_natCast]
      rw [a1, in_row hi, a2, w64n (by omega), Nat.zero_add]
      generalize x i = y
      have e3 : appF 1 (rowG CK (fnR CK.df [⟨s, t⟩])) (two y.nm y.vr) = rowG CK (fnR CK.df ([⟨s, t⟩] ++ [y])) := two_push [⟨s, t⟩] y
      rw [show two s t = rowG CK (fnR CK.df [⟨s, t⟩]) from two_first ⟨s, t⟩, e3, two_first y]
      cases (y.nm == s)
      · cases d
        · cases abytesLess y.nm s <;> rfl
        · rfl
      · rfl
    | cons o O =>
      refine (q29b b hb Λ0 n x i (O.length + 1) s t d (rowG CK (fnR CK.df (o :: O)))).trans ?_
      simp only [List.length_cons] at h3
      simp only [Int.toNat_natCast]
      rw [a1, in_row hi, a2, w64n (by omega), Nat.zero_add, decide_eq_true trivial, show fitsB (O.length + 1) = true from decide_eq_true (by omega), show fitsB (O.length + 1 + 1) = true from decide_eq_true (by omega)]
      generalize x i = y
      have e1 : appF (O.length + 1) (rowG CK (fnR CK.df (o :: O))) (two y.nm y.vr) = rowG CK (fnR CK.df (o :: O ++ [y])) := two_push (o :: O) y
      have e2 : appF (O.length + 1) (rowG CK (fnR CK.df (o :: O))) (two s t) = rowG CK (fnR CK.df (o :: O ++ [⟨s, t⟩])) := two_push (o :: O) ⟨s, t⟩
      have e3 : appF (O.length + 1 + 1) (rowG CK (fnR CK.df (o :: O ++ [⟨s, t⟩]))) (two y.nm y.vr) = rowG CK (fnR CK.df (o :: O ++ [⟨s, t⟩] ++ [y])) := by
        have := two_push (o :: O ++ [⟨s, t⟩]) y
        rw [List.length_append] at this
        exact this
      have r1 := rAG_push CK 1 (o :: O) y
      have r2 := rHG_push CK (o :: O) y
      have r3 := rAG_push CK 1 (o :: O ++ [⟨s, t⟩]) y
      have r4 := rHG_push CK (o :: O ++ [⟨s, t⟩]) y
      rw [List.length_append] at r3 r4
      rw [e2, e3, e1]
      cases (y.nm == s)
      · cases d
        · cases abytesLess y.nm s
          · cases (y.nm == s)
            · simp only [Bool.not_false, cond_true, Bool.false_or, Bool.true_and, cond_false]
              rw [r3, r4]
              rfl
            · simp only [Bool.not_false, cond_true, Bool.false_or, Bool.true_and, cond_false, Bool.not_true]
              rw [r3, r4]
              rfl
          · simp only [cond_true, cond_false, Bool.not_false, Bool.true_or, Bool.not_true, Bool.and_false]
            rw [r1, r2]
            rfl
        · simp only [cond_true, cond_false, Bool.not_true, Bool.false_and]
          rw [r1, r2]
          rfl
      · rfl
  · obtain rfl : i = n := by omega
    rw [decide_eq_false hi, cond_false]
    cases O with
    | nil =>
      refine (q29a b hb Λ0 i x i s t d).trans ?_
      rw [decide_eq_false (show ¬ (i : Int) < i by omega)]
      rfl
    | cons o O =>
      refine (q29b b hb Λ0 i x i (O.length + 1) s t d (rowG CK (fnR CK.df (o :: O)))).trans ?_
      rw [decide_eq_false (show ¬ (i : Int) < i by omega)]
      rfl
end Go.Pln

/- Lemmas for the claims of this seat (a verified symbolic evaluator, and contracts of functions): own work; no condition. -/
import Derived.Test.YtnhoihimdkpmnaaFnI
import Derived.Test.YtnhoihimdkpmnaaFnE
namespace Go.Pln
open Go Go.Proofs Go.Ab
set_option maxRecDepth 100000
set_option linter.unusedVariables false
set_option linter.unusedSimpArgs false

/-! ### The reference's Diff: its last loop -/
noncomputable def v11 (n m : Nat) (f g : Nat → Pk) (W : List (List UInt8)) (l : AV) (i : Int) (rows : Hp) : St :=
  { tm := encGo (mbits 803 78) [.sl 2 n (rowK f), .sl 2 m (rowK g), .row 0 1 0 W.length, l, .int .i64 i], ms := [], hp := rwS W :: rows }
noncomputable def w11x (n m : Nat) (f g : Nat → Pk) (W : List (List UInt8)) (l : AV) (i : Int) (rows : Hp) : AX × St :=
  (.exit 4, { tm := tmOf 78 [(0, .sl 2 n (rowK f)), (1, .sl 2 m (rowK g)), (5, .row 0 1 0 W.length), (8, l), (9, .int .i64 i), (43, .bool false)], ms := [], hp := rwS W :: rows })
noncomputable abbrev thr (a b c : List UInt8) : Nat → Nat → AV := fun j => rowF 3 [.str a, .str b, .str c] (0 + j)
noncomputable abbrev fitsC (k : Nat) : Bool := decide ((k + 1) * 48 ≤ 140737488355328 ∧ k + 1 ≤ 4611686018427387903)
theorem q11e (Λ0 : LoopT) (n m i : Nat) (f g : Nat → Pk) (W : List (List UInt8)) : (rdn tabZc h11 Λ0 11 0 2 (v11 n m f g W .nilsl i [])).run =
  bif decide ((i : Int) < (W.length : Int)) then
   bif decide (0 ≤ (i : Int) ∧ (i : Int) < (W.length : Int)) then
    bif decide (0 + (i : Int).toNat < W.length) then
     bif isEn en27 p27 [.sl 2 n (rowK f), .str (W.getD (0 + (i : Int).toNat) [])] then
      bif decide (0 ≤ (i : Int) ∧ (i : Int) < (W.length : Int)) then
       bif decide (0 + (i : Int).toNat < W.length) then
        bif isEn en27 p27 [.sl 2 m (rowK g), .str (W.getD (0 + (i : Int).toNat) [])] then
         bif !gtL (W.getD (0 + (i : Int).toNat) []) (lsF (unK (rowK f)) n 0) == gtL (W.getD (0 + (i : Int).toNat) []) (lsF (unK (rowK g)) m 0) then
          bif decide (0 ≤ (i : Int) ∧ (i : Int) < (W.length : Int)) then
           bif decide (0 + (i : Int).toNat < W.length) then
            some (.normal, v11 n m f g W (.row 1 3 0 1) (IntKind.i64.wrap ((i : Int) + 1)) [some (.row 3 1 (thr (W.getD (0 + (i : Int).toNat) []) (gtL (W.getD (0 + (i : Int).toNat) []) (lsF (unK (rowK f)) n 0)) (gtL (W.getD (0 + (i : Int).toNat) []) (lsF (unK (rowK g)) m 0))))])
           else none
          else none
         else some (.normal, v11 n m f g W .nilsl (IntKind.i64.wrap ((i : Int) + 1)) [])
        else none
       else none
      else none
     else none
    else none
   else none
  else some (w11x n m f g W .nilsl i []) := by kernel_rfl
theorem q11f (Λ0 : LoopT) (n m i j : Nat) (f g : Nat → Pk) (W : List (List UInt8)) (h : Nat → Nat → AV) : (rdn tabZc h11 Λ0 11 0 2 (v11 n m f g W (.row 1 3 0 j) i [some (.row 3 j h)])).run =
  bif decide ((i : Int) < (W.length : Int)) then
   bif decide (0 ≤ (i : Int) ∧ (i : Int) < (W.length : Int)) then
    bif decide (0 + (i : Int).toNat < W.length) then
     bif isEn en27 p27 [.sl 2 n (rowK f), .str (W.getD (0 + (i : Int).toNat) [])] then
      bif decide (0 ≤ (i : Int) ∧ (i : Int) < (W.length : Int)) then
       bif decide (0 + (i : Int).toNat < W.length) then
        bif isEn en27 p27 [.sl 2 m (rowK g), .str (W.getD (0 + (i : Int).toNat) [])] then
         bif !gtL (W.getD (0 + (i : Int).toNat) []) (lsF (unK (rowK f)) n 0) == gtL (W.getD (0 + (i : Int).toNat) []) (lsF (unK (rowK g)) m 0) then
          bif decide (0 ≤ (i : Int) ∧ (i : Int) < (W.length : Int)) then
           bif decide (0 + (i : Int).toNat < W.length) then
            bif decide (j = j) then
             bif fitsC j then
              some (.normal, v11 n m f g W (.row 1 3 0 (j + 1)) (IntKind.i64.wrap ((i : Int) + 1)) [some (.row 3 (j + 1) (appF j h (thr (W.getD (0 + (i : Int).toNat) []) (gtL (W.getD (0 + (i : Int).toNat) []) (lsF (unK (rowK f)) n 0)) (gtL (W.getD (0 + (i : Int).toNat) []) (lsF (unK (rowK g)) m 0)))))])
             else none
            else none
           else none
          else none
         else some (.normal, v11 n m f g W (.row 1 3 0 j) (IntKind.i64.wrap ((i : Int) + 1)) [some (.row 3 j h)])
        else none
       else none
      else none
     else none
    else none
   else none
  else some (w11x n m f g W (.row 1 3 0 j) i [some (.row 3 j h)]) := by kernel_rfl
noncomputable def zx11 (n m : Nat) (f g : Nat → Pk) : AX × St := (.exit 4, { tm := tmOf 78 [(0, .sl 2 n (rowK f)), (1, .sl 2 m (rowK g)), (5, .nilsl), (8, .nilsl), (9, .int .i64 0), (43, .bool false)], ms := [], hp := [] })
theorem q11g (Λ0 : LoopT) (n m : Nat) (f g : Nat → Pk) : (rdn tabZc h11 Λ0 11 0 2 { tm := encGo (mbits 803 78) [.sl 2 n (rowK f), .sl 2 m (rowK g), .nilsl, .nilsl, .int .i64 0], ms := [], hp := [] }).run = some (zx11 n m f g) := by kernel_rfl
def chW (A B : List Pk) (w : List UInt8) : Ch := ⟨w, gtL w A, gtL w B⟩
def chR (A B : List Pk) (W : List (List UInt8)) : Nat → Nat → List Ch
  | 0, _ => []
  | k + 1, i => bif !gtL (W.getD i []) A == gtL (W.getD i []) B then chW A B (W.getD i []) :: chR A B W k (i + 1) else chR A B W k (i + 1)
theorem chR_step (A B : List Pk) (W : List (List UInt8)) {n i : Nat} (h : i < n) : chR A B W (n - i) i = bif !gtL (W.getD i []) A == gtL (W.getD i []) B then chW A B (W.getD i []) :: chR A B W (n - (i + 1)) (i + 1) else chR A B W (n - (i + 1)) (i + 1) := by
  obtain ⟨k, hk⟩ : ∃ k, n - i = k + 1 := ⟨n - i - 1, by omega⟩
  rw [hk, show n - (i + 1) = k by omega]
  rfl
theorem t11e (Λ0 : LoopT) (n m i : Nat) (f g : Nat → Pk) (W : List (List UInt8)) (L : List Ch) (h1 : i ≤ W.length) (h2 : W.length ≤ bnd) (h3 : L.length + (W.length - i) ≤ 2932031007402) (h4 : n ≤ bnd) (h5 : m ≤ bnd) :
    (rdn tabZc h11 Λ0 11 0 2 (v11 n m f g W (rAG CH 1 L) i (rHG CH L))).run = bif decide (i < W.length) then
      some (.normal, v11 n m f g W (rAG CH 1 (bif !gtL (W.getD i []) (lsF f n 0) == gtL (W.getD i []) (lsF g m 0) then L ++ [chW (lsF f n 0) (lsF g m 0) (W.getD i [])] else L)) ((i + 1 : Nat) : Int)
        (rHG CH (bif !gtL (W.getD i []) (lsF f n 0) == gtL (W.getD i []) (lsF g m 0) then L ++ [chW (lsF f n 0) (lsF g m 0) (W.getD i [])] else L)))
    else some (w11x n m f g W (rAG CH 1 L) W.length (rHG CH L)) := by
  simp only [bnd] at h2
  by_cases hi : i < W.length
  · rw [decide_eq_true hi, cond_true]
    have a1 : decide ((i : Int) < (W.length : Int)) = true := decide_eq_true (by omega)
    have a2 : decide (0 + i < W.length) = true := decide_eq_true (by omega)
    cases L with
    | nil =>
      refine (q11e Λ0 n m i f g W).trans ?_
      simp only [Int.toNat_natCast]
      rw [a1, in_row hi, a2, w64n (by omega), Nat.zero_add, k27 n f _ h4, k27 m g _ h5, unK_rowK, unK_rowK]
      simp only [cond_true]
      cases (!gtL (W.getD i []) (lsF f n 0) == gtL (W.getD i []) (lsF g m 0)) with
      | false => rfl
      | true =>
        have e : thr (W.getD i []) (gtL (W.getD i []) (lsF f n 0)) (gtL (W.getD i []) (lsF g m 0)) = rowG CH (fnR CH.df ([] ++ [chW (lsF f n 0) (lsF g m 0) (W.getD i [])])) := rowF_first okCH CH.df rfl
        rw [e]
        rfl
    | cons a L =>
      refine (q11f Λ0 n m i (L.length + 1) f g W (rowG CH (fnR CH.df (a :: L)))).trans ?_
      simp only [List.length_cons] at h3
      simp only [Int.toNat_natCast]
      rw [a1, in_row hi, a2, w64n (by omega), Nat.zero_add, k27 n f _ h4, k27 m g _ h5, unK_rowK, unK_rowK, decide_eq_true trivial, show fitsC (L.length + 1) = true from decide_eq_true (by omega)]
      simp only [cond_true]
      cases (!gtL (W.getD i []) (lsF f n 0) == gtL (W.getD i []) (lsF g m 0)) with
      | false => rfl
      | true =>
        have e : appF (L.length + 1) (rowG CH (fnR CH.df (a :: L))) (thr (W.getD i []) (gtL (W.getD i []) (lsF f n 0)) (gtL (W.getD i []) (lsF g m 0))) = rowG CH (fnR CH.df (a :: L ++ [chW (lsF f n 0) (lsF g m 0) (W.getD i [])])) := appG_push okCH CH.df (a :: L) rfl
        rw [e]
        simp only [cond_true]
        rw [rAG_push, rHG_push]
        rfl
  · obtain rfl : i = W.length := by omega
    rw [decide_eq_false hi, cond_false]
    cases L with
    | nil =>
      refine (q11e Λ0 n m W.length f g W).trans ?_
      rw [decide_eq_false (show ¬ (W.length : Int) < W.length by omega)]
      rfl
    | cons a L =>
      refine (q11f Λ0 n m W.length (L.length + 1) f g W (rowG CH (fnR CH.df (a :: L)))).trans ?_
      rw [decide_eq_false (show ¬ (W.length : Int) < W.length by omega)]
      rfl
structure V11 where
  n : Nat
  m : Nat
  f : Nat → Pk
  g : Nat → Pk
  o : AV
  l : AV
  i : Nat
  hp : Hp
def ev11 : V11 → List AV × Hp := fun ⟨n, m, f, g, o, l, i, hp⟩ => ([.sl 2 n (rowK f), .sl 2 m (rowK g), o, l, .int .i64 i], hp)
def dv11 : List AV × Hp → V11
  | ([.sl _ n f, .sl _ m g, o, l, .int _ i], hp) => ⟨n, m, unK f, unK g, o, l, i.toNat, hp⟩
  | _ => ⟨0, 0, fun _ => default, fun _ => default, .junk, .junk, 0, []⟩
theorem iv11 : ∀ x, dv11 (ev11 x) = x := by
  rintro ⟨n, m, f, g, o, l, i, hp⟩
  rfl
def pv11 : V11 → Prop := fun ⟨n, m, f, g, o, l, i, hp⟩ => n ≤ bnd ∧ m ≤ bnd ∧ ((o = .nilsl ∧ l = .nilsl ∧ i = 0 ∧ hp = []) ∨
  ∃ W L, o = .row 0 1 0 W.length ∧ l = rAG CH 1 L ∧ hp = rwS W :: rHG CH L ∧ i ≤ W.length ∧ W.length ≤ bnd ∧ L.length + (W.length - i) ≤ 2932031007402)
noncomputable def finv (n m : Nat) (f g : Nat → Pk) (W : List (List UInt8)) (L : List Ch) : T (AX × St) :=
  .br L.isEmpty (.leaf (w11x n m f g W .nilsl W.length [])) (.leaf (w11x n m f g W (.row 1 3 0 L.length) W.length [some (.row 3 L.length (rowG CH (fnR CH.df L)))]))
theorem finv_run (n m : Nat) (f g : Nat → Pk) (W : List (List UInt8)) (L : List Ch) : (finv n m f g W L).run = some (w11x n m f g W (rAG CH 1 L) W.length (rHG CH L)) := by cases L <;> rfl
noncomputable def rv11 : V11 → T (AX × St) := fun ⟨n, m, f, g, o, l, i, hp⟩ => match o with
  | .nilsl => .leaf (zx11 n m f g)
  | _ => finv n m f g (unHs (hp.take 1)) (unHG CH (hp.drop 1) ++ chR (lsF f n 0) (lsF g m 0) (unHs (hp.take 1)) ((unHs (hp.take 1)).length - i) i)
noncomputable def L11 : LoopT := fun k => match Nat.beq k 300025 with
  | true => some (lccon (mbits 99 78) e11 d11 p11a r11a)
  | false => match Nat.beq k 700025 with
    | true => some (lccon (mbits 163 78) e11 d11 p11c r11c)
    | false => match Nat.beq k 1200061 with
      | true => some (lccon (mbits 803 78) ev11 dv11 pv11 rv11)
      | false => none
theorem l11e : LoopOk Try.prog tabZc.pf (fun n => hd Try.prog tabZc.pf tabZc.con.run (fun f => (H0 f).to) n 9) h11.to 11 0 none L11 (loopAt Try.prog 11 2) := by
  rw [show loopAt Try.prog 11 2 = .loop (lbody Try.prog 11 2) by kernel_rfl]
  refine loop_c (hdT_le (m := 20) 9) (m := 20) (lv := mbits 803 78) (p := pv11) (res := rv11) iv11 (within_of _ (by rw [show loopsOf (lbody Try.prog 11 2) = [] by kernel_rfl]; simp)) (by kernel_rfl) (fun ⟨n, m, f, g, o, l, i, hp⟩ => (unHs (hp.take 1)).length - i) ?_
  rintro ⟨n, m, f, g, o, l, i, hp⟩ ⟨h4, h5, (⟨rfl, rfl, rfl, rfl⟩ | ⟨W, L, rfl, rfl, rfl, h1, h2, h3⟩)⟩
  · right
    exact ⟨zx11 n m f g, by simp [zx11], rfl, q11g L11 n m f g⟩
  have ht := t11e L11 n m i f g W L h1 h2 h3 h4 h5
  by_cases hi : i < W.length
  · rw [decide_eq_true hi, cond_true] at ht
    left
    refine ⟨⟨n, m, f, g, .row 0 1 0 W.length, rAG CH 1 (bif !gtL (W.getD i []) (lsF f n 0) == gtL (W.getD i []) (lsF g m 0) then L ++ [chW (lsF f n 0) (lsF g m 0) (W.getD i [])] else L), i + 1, rwS W :: rHG CH (bif !gtL (W.getD i []) (lsF f n 0) == gtL (W.getD i []) (lsF g m 0) then L ++ [chW (lsF f n 0) (lsF g m 0) (W.getD i [])] else L)⟩,
      ⟨h4, h5, .inr ⟨W, _, rfl, rfl, rfl, by omega, h2, ?_⟩⟩, ?_, ?_, ht⟩
    · cases (!gtL (W.getD i []) (lsF f n 0) == gtL (W.getD i []) (lsF g m 0))
      · simp only [cond_false]; omega
      · simp only [cond_true, List.length_append, List.length_cons, List.length_nil]; omega
    · simp only [List.take_succ_cons, List.take_zero, unHs_one]; omega
    · simp only [rv11, List.take_succ_cons, List.take_zero, List.drop_succ_cons, List.drop_zero, unHs_one, unHG_rHG okCH]
      rw [chR_step _ _ W hi]
      cases (!gtL (W.getD i []) (lsF f n 0) == gtL (W.getD i []) (lsF g m 0))
      · rfl
      · simp only [cond_true, List.append_assoc, List.singleton_append]
  · obtain rfl : i = W.length := by omega
    rw [decide_eq_false hi, cond_false] at ht
    right
    refine ⟨_, by simp [w11x], ?_, ht⟩
    simp only [rv11, List.take_succ_cons, List.take_zero, List.drop_succ_cons, List.drop_zero, unHs_one, unHG_rHG okCH, Nat.sub_self]
    rw [show chR (lsF f n 0) (lsF g m 0) W 0 W.length = [] from rfl, List.append_nil]
    exact finv_run n m f g W L
end Go.Pln
namespace Go.Pln
open Go Go.Proofs Go.Ab
set_option maxRecDepth 100000
set_option linter.unusedVariables false
set_option linter.unusedSimpArgs false

/-! ### The reference's Diff -/
noncomputable def finC (L : List Ch) : Option (AV × Hp) :=
  bif L.isEmpty then some (.nilsl, []) else some (.row 0 3 0 L.length, [some (.row 3 L.length (rowG CH (fnR CH.df L)))])
noncomputable def lp3n (n m : Nat) (f g : Nat → Pk) : Option (AV × Hp) :=
  bif isEn ev11 pv11 ([.sl 2 n (rowK f), .sl 2 m (rowK g), .nilsl, .nilsl, .int .i64 0], []) then some (.nilsl, []) else none
noncomputable def lp3r (n m : Nat) (f g : Nat → Pk) (W : List (List UInt8)) : Option (AV × Hp) :=
  bif isEn ev11 pv11 ([.sl 2 n (rowK f), .sl 2 m (rowK g), .row 0 1 0 W.length, .nilsl, .int .i64 0], [rwS W]) then
   finC (unHG CH [] ++ chR (lsF (unK (rowK f)) n 0) (lsF (unK (rowK g)) m 0) (unHs [rwS W]) ((unHs [rwS W]).length - 0) 0)
  else none
noncomputable def lp3 (n m : Nat) (f g : Nat → Pk) (W : List (List UInt8)) : Option (AV × Hp) := bif W.isEmpty then lp3n n m f g else lp3r n m f g W
noncomputable def lp2n (n m : Nat) (f g : Nat → Pk) : Option (AV × Hp) :=
  bif isEn e11 p11c ([.sl 2 n (rowK f), .sl 2 m (rowK g), .nilsl, .int .i64 0], []) then lp3 n m f g (nmP (unK (rowK g)) (m - 0) 0 (unHs [])) else none
noncomputable def lp2r (n m : Nat) (f g : Nat → Pk) (W : List (List UInt8)) : Option (AV × Hp) :=
  bif isEn e11 p11c ([.sl 2 n (rowK f), .sl 2 m (rowK g), .row 0 1 0 W.length, .int .i64 0], [rwS W]) then lp3 n m f g (nmP (unK (rowK g)) (m - 0) 0 (unHs [rwS W])) else none
noncomputable def lp2 (n m : Nat) (f g : Nat → Pk) (W : List (List UInt8)) : Option (AV × Hp) := bif W.isEmpty then lp2n n m f g else lp2r n m f g W
theorem u11 (n m : Nat) (f g : Nat → Pk) : (evn tabZc h11 L11 11 [.sl 2 n (rowK f), .sl 2 m (rowK g)] []).run =
  bif isEn e11 p11a ([.sl 2 n (rowK f), .sl 2 m (rowK g), .nilsl, .int .i64 0], []) then lp2 n m f g (nmP (unK (rowK f)) (n - 0) 0 (unHs [])) else none := by kernel_rfl
theorem nmP_len (f : Nat → Pk) : ∀ k i L, (nmP f k i L).length ≤ L.length + k
  | 0, i, L => Nat.le_refl _
  | k + 1, i, L => by
    unfold nmP
    have h1 := nmP_len f k (i + 1) (pt (f i).nm L)
    have h2 := pt_len (f i).nm L
    omega
theorem lp3_ok {n m : Nat} {f g : Nat → Pk} (h1 : n ≤ bnd) (h2 : m ≤ bnd) (W : List (List UInt8)) (h3 : W.length ≤ 2932031007402) : lp3 n m f g W = finC (chR (lsF f n 0) (lsF g m 0) W W.length 0) := by
  unfold lp3
  cases W with
  | nil =>
    unfold lp3n
    rw [show isEn ev11 pv11 ([.sl 2 n (rowK f), .sl 2 m (rowK g), .nilsl, .nilsl, .int .i64 0], []) = true from isEn_true (enc := ev11) (p := pv11) ⟨n, m, f, g, .nilsl, .nilsl, 0, []⟩ ⟨h1, h2, .inl ⟨rfl, rfl, rfl, rfl⟩⟩]
    rfl
  | cons a W =>
    unfold lp3r
    rw [show isEn ev11 pv11 ([.sl 2 n (rowK f), .sl 2 m (rowK g), .row 0 1 0 (a :: W).length, .nilsl, .int .i64 0], [rwS (a :: W)]) = true from isEn_true (enc := ev11) (p := pv11) ⟨n, m, f, g, .row 0 1 0 (a :: W).length, .nilsl, 0, [rwS (a :: W)]⟩ ⟨h1, h2, .inr ⟨a :: W, [], rfl, rfl, rfl, Nat.zero_le _, by simp only [bnd]; omega, by simp only [List.length_nil]; omega⟩⟩, unHs_one, Nat.sub_zero, unK_rowK, unK_rowK]
    rfl
theorem lp2_ok {n m : Nat} {f g : Nat → Pk} (h1 : n ≤ bnd) (h2 : m ≤ bnd) (W : List (List UInt8)) (h3 : W.length + m ≤ 1099511627776) : lp2 n m f g W = finC (chR (lsF f n 0) (lsF g m 0) (nmP g m 0 W) (nmP g m 0 W).length 0) := by
  have hl := nmP_len g m 0 W
  rw [← lp3_ok h1 h2 (nmP g m 0 W) (by omega)]
  unfold lp2
  cases W with
  | nil =>
    unfold lp2n
    rw [show isEn e11 p11c ([.sl 2 n (rowK f), .sl 2 m (rowK g), .nilsl, .int .i64 0], []) = true from isEn_true (enc := e11) (p := p11c) ⟨n, m, f, g, .nilsl, 0, []⟩ ⟨Nat.zero_le _, h2, [], rfl, rfl, by simpa using h3⟩, Nat.sub_zero, unK_rowK]
    rfl
  | cons a W =>
    unfold lp2r
    rw [show isEn e11 p11c ([.sl 2 n (rowK f), .sl 2 m (rowK g), .row 0 1 0 (a :: W).length, .int .i64 0], [rwS (a :: W)]) = true from isEn_true (enc := e11) (p := p11c) ⟨n, m, f, g, .row 0 1 0 (a :: W).length, 0, [rwS (a :: W)]⟩ ⟨Nat.zero_le _, h2, a :: W, rfl, rfl, by simpa using h3⟩, Nat.sub_zero, unK_rowK, unHs_one]
    rfl
/-- What the reference's Diff tells. -/
def rdN (n m : Nat) (f g : Nat → Pk) : List (List UInt8) := nmP g m 0 (nmP f n 0 [])
def rdL (n m : Nat) (f g : Nat → Pk) : List Ch := chR (lsF f n 0) (lsF g m 0) (rdN n m f g) (rdN n m f g).length 0
noncomputable def c11 : List AV → T AV := ccon (fun x : X23 => [.sl 2 x.n (rowK x.f), .sl 2 x.m (rowK x.g)]) (fun l => match l with
    | [.sl _ n f, .sl _ m g] => ⟨n, m, unK f, unK g⟩
    | _ => ⟨0, 0, fun _ => default, fun _ => default⟩) (fun x => x.n ≤ 1048576 ∧ x.m ≤ 1048576) (fun x => .leaf (.sl 3 (rdL x.n x.m x.f x.g).length (rowG CH (fnG CH.df (rdL x.n x.m x.f x.g)))))
theorem threeLoops {f : FuncId} {Φ : Nat → Prop} (h : (loopsOf (bodyOf Try.prog f)).length = 3) (h0 : Φ 0) (h1 : Φ 1) (h2 : Φ 2) : ∀ i, i < (loopsOf (bodyOf Try.prog f)).length → Φ i := fun i hi => by
  rcases (by omega : i = 0 ∨ i = 1 ∨ i = 2) with rfl | rfl | rfl
  · exact h0
  · exact h1
  · exact h2
theorem s11d : Sound1 Try.prog ⟨11, true, pcon c11⟩ := by
  refine sound_cfW (m := 20) (k := 9) (hn := h11) (Λ := L11) (soundTab_of all_tabZc) H0 (fun ⟨n, m, f, g⟩ => rfl) (.rows 3) (threeLoops (by kernel_rfl) (l11a L11 rfl) (l11c L11 rfl) l11e) ?_
  rintro ⟨n, m, f, g⟩ ⟨h1, h2⟩ hF
  simp only at h1 h2
  have ht := u11 n m f g
  have hl := nmP_len f n 0 []
  simp only [List.length_nil, Nat.zero_add] at hl
  rw [show isEn e11 p11a ([.sl 2 n (rowK f), .sl 2 m (rowK g), .nilsl, .int .i64 0], []) = true from isEn_true (enc := e11) (p := p11a) ⟨n, m, f, g, .nilsl, 0, []⟩ ⟨Nat.zero_le _, by simp only [bnd]; omega, [], rfl, rfl, by simp only [List.length_nil]; omega⟩, Nat.sub_zero, unK_rowK, cond_true, show unHs [] = [] from rfl,
    lp2_ok (by simp only [bnd]; omega) (by simp only [bnd]; omega) _ (by omega)] at ht
  replace ht : (evn tabZc h11 L11 11 [.sl 2 n (rowK f), .sl 2 m (rowK g)] []).run = finC (rdL n m f g) := ht
  rw [ht]
  generalize hL : rdL n m f g = L
  cases L with
  | nil =>
    refine ⟨.sl 3 0 (strF []), .sl 3 ([] : List Ch).length (rowG CH (fnG CH.df [])), rfl, ?_, AW.slice fun i c hi hc => by omega⟩
    rfl
  | cons a L =>
    refine ⟨.sl 3 (L.length + 1) (rowG CH (fnR CH.df (a :: L))), .sl 3 (a :: L).length (rowG CH (fnG CH.df (a :: L))), ?_, ?_, row_awG (C := CH) (listG_fnR CH.df (a :: L))⟩
    · show frz (.rows 3) [some (.row 3 (L.length + 1) (rowG CH (fnR CH.df (a :: L))))] (.row 0 3 0 (L.length + 1)) = _
      show (if 3 = 3 ∧ 3 = 3 ∧ 0 + (L.length + 1) ≤ L.length + 1 then _ else none) = _
      rw [if_pos ⟨rfl, rfl, by omega⟩]
      rfl
    · rfl
noncomputable def tabZd : Tab := ⟨8, true, pcon c8⟩ :: ⟨11, true, pcon c11⟩ :: tabZc
theorem all_tabZd : ∀ e, e ∈ tabZd → Sound1 Try.prog e := sound_mem_tab s8d (sound_mem_tab s11d all_tabZc)
/-! ### Plainly -/
theorem nmP_ris (f : Nat → Pk) : ∀ k i L, Ris L → Ris (nmP f k i L) ∧ ∀ x, x ∈ nmP f k i L ↔ x ∈ L ∨ x ∈ nmL f k i
  | 0, i, L, h => ⟨h, fun x => by unfold nmP nmL lsF; simp⟩
  | k + 1, i, L, h => by
    obtain ⟨h1, h2⟩ := pt_ris h (f i).nm
    obtain ⟨h3, h4⟩ := nmP_ris f k (i + 1) (pt (f i).nm L) h1
    refine ⟨h3, fun x => ?_⟩
    unfold nmP
    rw [h4, h2]
    unfold nmL
    rw [show lsF f (k + 1) i = f i :: lsF f k (i + 1) from rfl, List.map_cons, List.mem_cons]
    constructor
    · rintro ((h | h) | h)
      · exact .inr (.inl h)
      · exact .inl h
      · exact .inr (.inr h)
    · rintro (h | h | h)
      · exact .inl (.inr h)
      · exact .inl (.inl h)
      · exact .inr h
theorem chR_fm (A B : List Pk) (W : List (List UInt8)) : ∀ k i, i + k = W.length → chR A B W k i = (W.drop i).filterMap (cF (fun w => gtL w A) (fun w => gtL w B))
  | 0, i, h => by rw [List.drop_eq_nil_of_le (by omega)]; rfl
  | k + 1, i, h => by
    have hi : i < W.length := by omega
    rw [dropD [] hi, List.filterMap_cons]
    unfold chR cF chW
    rw [chR_fm A B W k (i + 1) (by omega)]
    cases (!gtL (W.getD i []) A == gtL (W.getD i []) B) <;> rfl
/-- The two Diffs tell the same. -/
theorem diff_same (n m : Nat) (f g : Nat → Pk) : dfL n m f g = rdL n m f g := by
  rw [dfL_eq]
  unfold rdL
  rw [chR_fm _ _ _ _ _ (by omega), List.drop_zero]
  have h1 := nmP_ris f n 0 [] List.Pairwise.nil
  have h2 := nmP_ris g m 0 _ h1.1
  have hU : unq (nm2 n m f g) = rdN n m f g := ris_ext (unq_ris _) h2.1 fun x => by
    rw [unq_mem]
    unfold nm2 rdN
    rw [List.mem_append, h2.2, h1.2]
    simp
  rw [hU]
  congr 1
  funext w
  unfold chF cF chN
  rw [gt_put, gt_put]
/-- The two Applys tell the same of a plan. -/
theorem ap_same (c : Nat → Ch) : ∀ k i M L n x, Says (lsF x n 0) → (∀ w, gt w M = gtL w (lsF x n 0)) → (∀ w, w ∈ (lsF x n 0).map (·.nm) → w ∈ L) →
    (apO c k i M L).e = (apR c k i n x).e ∧ ((apO c k i M L).e = 0 → apL (apO c k i M L) = lsF (apR c k i n x).x (apR c k i n x).n 0)
  | 0, i, M, L, n, x, hs, hM, hL => by
    refine ⟨rfl, fun _ => ?_⟩
    show apL ⟨0, M, L, _⟩ = lsF x n 0
    rw [apL_eq]
    have hpf : pkF M = fun w => bif !gtL w (lsF x n 0) == [] then some (⟨w, gtL w (lsF x n 0)⟩ : Pk) else none := by
      funext w
      unfold pkF pkN
      rw [hM]
    simp only
    rw [hpf, fm_split]
    have hfl : (unq L).filter (fun w => !gtL w (lsF x n 0) == []) = (lsF x n 0).map (·.nm) := by
      refine ris_ext ((unq_ris _).filter _) hs.ris fun y => ?_
      rw [List.mem_filter, unq_mem]
      constructor
      · rintro ⟨h1, h2⟩
        rcases gtL_word hs y with q | q
        · rw [q.1] at h2; simp at h2
        · exact q.2.2
      · intro hy
        refine ⟨hL y hy, ?_⟩
        rcases gtL_word hs y with q | q
        · exact absurd hy q.2
        · simpa using word_ne q.1
    rw [hfl, List.map_map]
    have : ∀ p, p ∈ lsF x n 0 → ((fun w => (⟨w, gtL w (lsF x n 0)⟩ : Pk)) ∘ (·.nm)) p = p := fun p hp => by
      show (⟨p.nm, gtL p.nm (lsF x n 0)⟩ : Pk) = p
      rw [gtL_some hs hp]
    calc _ = (lsF x n 0).map id := List.map_congr_left this
      _ = _ := List.map_id _
  | k + 1, i, M, L, n, x, hs, hM, hL => by
    unfold apO apR
    rw [hM]
    cases (!gtL (c i).nm (lsF x n 0) == (c i).fr) with
    | true => exact ⟨rfl, fun q => by simp at q⟩
    | false =>
      cases hb : badC (c i) with
      | true => exact ⟨rfl, fun q => by simp at q⟩
      | false =>
        simp only [cond_false]
        unfold badC at hb
        simp only [Bool.or_eq_false_iff, Bool.not_eq_false', Bool.and_eq_false_iff, Bool.not_eq_false'] at hb
        have hw : word (c i).nm = true := hb.1
        have ht : (c i).tt = [] ∨ word (c i).tt = true := by
          rcases hb.2 with h | h
          · exact .inl (by simpa using h)
          · exact .inr h
        obtain ⟨s1, s2⟩ := sel_says hs hw ht
        have he : lsF (fnR CK.df (nxt (c i) (lsF x n 0))) (nxt (c i) (lsF x n 0)).length 0 = nxt (c i) (lsF x n 0) := by
          rw [← lsF_listG]
          exact listG_fnR _ _
        refine ap_same c k (i + 1) _ _ _ _ (by rw [he]; exact s1) (fun w => ?_) (fun w hw2 => ?_)
        · rw [he, gt_putM, hM]
          unfold nxt
          rw [s2]
          by_cases e : w = (c i).nm
          · rw [if_pos e, show (w == (c i).nm) = true by simpa using e]; rfl
          · rw [if_neg e, show (w == (c i).nm) = false by simpa using e]; rfl
        · rw [he] at hw2
          obtain ⟨p, hp, rfl⟩ := List.mem_map.1 hw2
          rcases sel_mem _ _ _ _ p hp with h | h
          · rw [h]; simp
          · exact List.mem_append_left _ (hL p.nm (List.mem_map_of_mem h))
theorem apply_same (n m : Nat) (f : Nat → Pk) (c : Nat → Ch) : apP n m f c = rfP8 n m f c := by
  unfold apP rfP8
  cases hf : fitK f n with
  | false => rfl
  | true =>
    simp only [cond_true]
    have sf := says_of_fit hf
    obtain ⟨h1, h2⟩ := ap_same c m 0 (putB f n []) (nmL f n 0) n f sf (fun w => gt_put f n w) (fun w h => h)
    rw [← h1]
    cases he : Nat.beq (apO c m 0 (putB f n []) (nmL f n 0)).e 0 with
    | true =>
      simp only [cond_true]
      rw [h2 (Nat.eq_of_beq_eq_true he)]
    | false => rfl
end Go.Pln
namespace Go.Pln
open Go Go.Proofs Go.ChangeShapes Go.WideShapes Go.Ab Go.Deep
set_option maxRecDepth 100000
set_option linter.unusedVariables false
set_option linter.unusedSimpArgs false
/-! ### Arguments that hold rows of changes; the law PlanChanges -/
def smallC (L : List Ch) : Prop := L.length ≤ bnd ∧ ∀ t ∈ L, t.nm.length ≤ bnd ∧ t.fr.length ≤ bnd ∧ t.tt.length ≤ bnd
def RowC {H : Type} (L : List Ch) (d : DataW H) : Prop := (L = [] ∧ d = .nil) ∨ ∃ sp, d = .slice (L.map fun t => .agg [.lit (.string t.nm), .lit (.string t.fr), .lit (.string t.tt)]) sp
section
variable {P : Program} {H : Type} {enc : TypeId × Value → H} {W : World}
theorem open_chs {r : Reach} {b0 base : Nat} {sp : Nat → Bool} {held : Bool} {t e : TypeId} {f0 f1 f2 : Field} {n : Nat} {a : Value} {x : DataW H × List MemPlace} (ht : P.underlying t = some (.slice e)) (he : P.underlying e = some (.struct #[f0, f1, f2]))
    (h0 : P.underlying f0.type = some .string) (h1 : P.underlying f1.type = some .string) (h2 : P.underlying f2.type = some .string) (o0 : f0.offset = 0) (o1 : f1.offset = 1) (o2 : f2.offset = 2)
    (ce : P.cellsOf e = 3) (c0 : P.cellsOf f0.type = 1) (c1 : P.cellsOf f1.type = 1) (c2 : P.cellsOf f2.type = 1)
    (hval : Cell.okWide P W r b0 t a) (h : DataW.trod enc P W base sp held n t [a] = some x) :
    ∃ L : List Ch, RowC L x.1 ∧ (smallC L → V (fun _ => False) W (fun _ => none) (.sl 3 L.length (rowG CH (fnG CH.df L))) a) := by
  unfold Cell.okWide at hval
  rw [ht] at hval
  rcases open_slice ht h with ⟨h1, rfl⟩ | ⟨ad, len, cap, m, n', D, Pl, h1', hb, hl, hm, hmm, rfl, hx⟩
  · obtain rfl : a = .slice none 0 0 := by simpa using h1
    refine ⟨[], .inl ⟨rfl, rfl⟩, fun hsm => ?_⟩
    simp only [V]
    exact ⟨by simp [bnd], .inl ⟨by first | trivial | rfl, rfl⟩⟩
  · obtain rfl : a = .slice (some ad) len cap := by simpa using h1'
    simp only [Cell.ok, ht] at hval
    obtain ⟨_, hcap, _, hspot, row, cells, hsh, _⟩ := hval
    have hlm : len ≤ m := by rw [hmm]; split <;> omega
    have hblk : ad.block < W.heap.size := by
      unfold World.shape? at hsh
      rcases Nat.lt_or_ge ad.block W.heap.size with h2 | h2
      · exact h2
      · rw [Array.getElem?_eq_none h2] at hsh; cases hsh
    have each : ∀ i, i < m → ∃ k : Ch × ByteArray × ByteArray × ByteArray, k.1.nm = k.2.1.data.toList ∧ k.1.fr = k.2.2.1.data.toList ∧ k.1.tt = k.2.2.2.data.toList ∧ W.cell? (ad.add (i * 3)) = some (.string k.2.1) ∧ W.cell? (ad.add (i * 3 + 1)) = some (.string k.2.2.1) ∧ W.cell? (ad.add (i * 3 + 2)) = some (.string k.2.2.2) ∧
        D i = .agg [.lit (.string k.1.nm), .lit (.string k.1.fr), .lit (.string k.1.tt)] := by
      intro i hi
      obtain ⟨cs', q1, q2⟩ := hx i hi
      rw [ce] at q1
      obtain ⟨_, hlen, hcell⟩ := World.cells?_some q1
      obtain ⟨y0, y1, y2, k, hxy, _, g0, g1, g2⟩ := trod_struct3 he q2
      match cs', hlen with
      | [v0, v1, v2], _ =>
        simp [o0, o1, o2, c0, c1, c2] at g0 g1 g2
        have e0 := hcell 0 (by omega)
        have e1 := hcell 1 (by omega)
        have e2 := hcell 2 (by omega)
        rw [add_add] at e0 e1 e2
        obtain ⟨nx, rfl, w0⟩ := trod_str_p h0 g0
        obtain ⟨vx, rfl, w1⟩ := trod_str_p h1 g1
        obtain ⟨tx, rfl, w2⟩ := trod_str_p h2 g2
        refine ⟨(⟨nx.data.toList, vx.data.toList, tx.data.toList⟩, nx, vx, tx), rfl, rfl, rfl, by simpa using e0, by simpa using e1, by simpa using e2, ?_⟩
        simp only [Prod.mk.injEq] at hxy
        rw [hxy.1, w0, w1, w2]
    obtain ⟨q, hq⟩ := choose_lt each
    obtain ⟨bk, of, sp'⟩ := ad
    simp only at hspot hblk
    subst hspot
    refine ⟨(List.range len).map fun i => (q i).1, .inr ⟨(List.range (m - len)).map fun j => D (len + j), ?_⟩, fun hsm => ?_⟩
    · simp only [List.map_map]
      congr 1
      exact List.map_congr_left fun i hi => (hq i (by have := List.mem_range.1 hi; omega)).2.2.2.2.2.2
    · have hbl : len ≤ bnd := by simpa using hsm.1
      simp only [V, List.length_map, List.length_range]
      refine ⟨hbl, .inr ⟨bk, of, cap, rfl, hl, hblk, id, fun i c hi hc => ?_⟩⟩
      obtain ⟨k0, k1, k2, k3, k4, k5, _⟩ := hq i (by omega)
      have ef : fnG CH.df ((List.range len).map fun i => (q i).1) i = (q i).1 := by
        unfold fnG
        rw [List.getD_eq_getElem?_getD, List.getElem?_map, List.getElem?_range hi]; rfl
      have ea : ∀ j, (⟨bk, of, none⟩ : Addr).add j = ⟨bk, of + j, none⟩ := fun j => by
        by_cases hj : j = 0
        · subst hj; simp [Addr.add]
        · simp [Addr.add, hj]
      rw [ea] at k3 k4 k5
      have hb2 := hsm.2 (q i).1 (List.mem_map.2 ⟨i, List.mem_range.2 hi, rfl⟩)
      rcases (by omega : c = 0 ∨ c = 1 ∨ c = 2) with rfl | rfl | rfl
      · refine ⟨_, k3, rfl, ?_⟩
        show V _ W _ (.str (fnG CH.df ((List.range len).map fun i => (q i).1) i).nm) _
        rw [ef]
        simp only [V, k0]
        refine ⟨by first | trivial | rfl, ?_⟩
        have := hb2.1
        rwa [k0] at this
      · refine ⟨_, k4, rfl, ?_⟩
        show V _ W _ (.str (fnG CH.df ((List.range len).map fun i => (q i).1) i).fr) _
        rw [ef]
        simp only [V, k1]
        refine ⟨by first | trivial | rfl, ?_⟩
        have := hb2.2.1
        rwa [k1] at this
      · refine ⟨_, k5, rfl, ?_⟩
        show V _ W _ (.str (fnG CH.df ((List.range len).map fun i => (q i).1) i).tt) _
        rw [ef]
        simp only [V, k2]
        refine ⟨by first | trivial | rfl, ?_⟩
        have := hb2.2.2
        rwa [k2] at this
theorem open_chsV {r : Reach} {b0 base : Nat} {sp : Nat → Bool} {held : Bool} {t e : TypeId} {f0 f1 f2 : Field} {v : Value} {d : DataW H} {ps : List MemPlace} (ht : P.underlying t = some (.slice e)) (he : P.underlying e = some (.struct #[f0, f1, f2]))
    (h0 : P.underlying f0.type = some .string) (h1 : P.underlying f1.type = some .string) (h2 : P.underlying f2.type = some .string) (o0 : f0.offset = 0) (o1 : f1.offset = 1) (o2 : f2.offset = 2)
    (ce : P.cellsOf e = 3) (c0 : P.cellsOf f0.type = 1) (c1 : P.cellsOf f1.type = 1) (c2 : P.cellsOf f2.type = 1)
    (hval : Value.okWide P W r b0 t v) (hd : DataW.Trod enc P W base sp held t v d ps) :
    ∃ L : List Ch, RowC L d ∧ (smallC L → V (fun _ => False) W (fun _ => none) (.sl 3 L.length (rowG CH (fnG CH.df L))) v) := by
  obtain ⟨n, hn⟩ := hd
  obtain ⟨q1, q2⟩ := cells_of_slice_p ht hval
  rw [q1] at hn
  exact open_chs ht he h0 h1 h2 o0 o1 o2 ce c0 c1 c2 q2 hn
end
noncomputable def in8 (n m : Nat) (f : Nat → Pk) (c : Nat → Ch) : Bool := isEn (fun x : X7 => [AV.sl 2 x.n (rowK x.f), AV.sl 3 x.m (rowG CH x.c)]) (fun x => x.n ≤ 1048576 ∧ x.m ≤ 1048576) [.sl 2 n (rowK f), .sl 3 m (rowG CH c)]
noncomputable def in11 (n m : Nat) (f g : Nat → Pk) : Bool := isEn (fun x : X23 => [AV.sl 2 x.n (rowK x.f), AV.sl 2 x.m (rowK x.g)]) (fun x => x.n ≤ 1048576 ∧ x.m ≤ 1048576) [.sl 2 n (rowK f), .sl 2 m (rowK g)]
noncomputable def end3 (P Q : R7) (D R : List Ch) : Option (AV × Hp) :=
  bif isEn en9 p9 [.sl 3 D.length (rowG CH (fnG CH.df D)), .sl 3 R.length (rowG CH (fnG CH.df R))] then
   bif isEn en12 p12 [.sl 2 P.L.length (rowK (fnG CK.df P.L)), .sl 2 Q.L.length (rowK (fnG CK.df Q.L))] then
    bif eqK (fnG CK.df P.L) (fnG CK.df Q.L) P.L.length Q.L.length then
     bif (P.e : Int) == (Q.e : Int) then some (.bool true, []) else some (.bool false, [])
    else some (.bool false, [])
   else none
  else none
theorem u3 (n m k : Nat) (f g : Nat → Pk) (c : Nat → Ch) : (evn tabZd h3 noLoops 3 [.sl 2 n (rowK f), .sl 2 m (rowK g), .sl 3 k (rowG CH c)] []).run =
  bif in7 n k f c then
   bif in8 n k f c then
    bif in10 n m f g then
     bif in11 n m f g then end3 (apP n k f (unG CH (rowG CH c))) (rfP8 n k f (unG CH (rowG CH c))) (dfL n m f g) (rdL n m f g)
     else none
    else none
   else none
  else none := by kernel_rfl
theorem tree3 (n m k : Nat) (f g : Nat → Pk) (c : Nat → Ch) (hn1 : n ≤ 1048576) (hn2 : m ≤ 1048576) (hn3 : k ≤ 1048576) : (evn tabZd h3 noLoops 3 [.sl 2 n (rowK f), .sl 2 m (rowK g), .sl 3 k (rowG CH c)] []).run = some (.bool true, []) := by
  refine (u3 n m k f g c).trans ?_
  have e1 : in7 n k f c = true := isEn_true (enc := fun x : X7 => [AV.sl 2 x.n (rowK x.f), AV.sl 3 x.m (rowG CH x.c)]) (p := fun x => x.n ≤ 1099511627776 ∧ x.m ≤ 1099511627776) ⟨n, k, f, c⟩ ⟨by simp only; omega, by simp only; omega⟩
  have e2 : in8 n k f c = true := isEn_true (enc := fun x : X7 => [AV.sl 2 x.n (rowK x.f), AV.sl 3 x.m (rowG CH x.c)]) (p := fun x => x.n ≤ 1048576 ∧ x.m ≤ 1048576) ⟨n, k, f, c⟩ ⟨by simp only; omega, by simp only; omega⟩
  have e3 : in10 n m f g = true := isEn_true (enc := fun x : X23 => [AV.sl 2 x.n (rowK x.f), AV.sl 2 x.m (rowK x.g)]) (p := fun x => x.n ≤ 1099511627776 ∧ x.m ≤ 1099511627776) ⟨n, m, f, g⟩ ⟨by simp only; omega, by simp only; omega⟩
  have e4 : in11 n m f g = true := isEn_true (enc := fun x : X23 => [AV.sl 2 x.n (rowK x.f), AV.sl 2 x.m (rowK x.g)]) (p := fun x => x.n ≤ 1048576 ∧ x.m ≤ 1048576) ⟨n, m, f, g⟩ ⟨by simp only; omega, by simp only; omega⟩
  rw [e1, e2, e3, e4, unG_rowG okCH, apply_same, ← diff_same]
  simp only [cond_true]
  have hl := dfL_len n m f g
  unfold end3
  rw [k9 (dfL n m f g).length (fnG CH.df (dfL n m f g)) (fnG CH.df (dfL n m f g)) ⟨by simp only [bnd]; omega, fun j _ => by unfold samC; simp⟩]
  have hb : (rfP8 n k f c).L.length ≤ 4611686018427387903 := by
    rw [← apply_same]
    unfold apP
    cases fitK f n with
    | false => simp
    | true =>
      simp only [cond_true]
      have ha := apO_len c k 0 (putB f n []) (nmL f n 0)
      rw [nmL_len] at ha
      cases Nat.beq (apO c k 0 (putB f n []) (nmL f n 0)).e 0 with
      | false => simp
      | true =>
        simp only [cond_true]
        rw [apL_eq]
        refine Nat.le_trans (List.length_filterMap_le _ _) (Nat.le_trans (unq_len_le _) ?_)
        omega
  rw [k12 _ _ _ _ hb, eq_all fun i _ => rfl]
  simp
end Go.Pln

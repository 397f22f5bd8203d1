/- Lemmas for the claims of this seat (a verified symbolic evaluator, and contracts of functions): own work; no condition. -/
import Derived.Test.YtnhoihimdkpmnaaFnF
namespace Go.Pln
open Go Go.Proofs Go.Ab
set_option maxRecDepth 100000
set_option linter.unusedVariables false
set_option linter.unusedSimpArgs false

/-! ### Apply: the loop of the changes -/
def badC (ch : Ch) : Bool := !word ch.nm || (!(ch.tt == []) && !word ch.tt)
noncomputable def s7 (l : AV) (m : Nat) (c : Nat → Ch) (i : Int) (M : SM) (rows : Hp) : St :=
  { tm := encGo (mbits 14680256 85) [.map 0, l, .sl 3 m (rowG CH c), .int .i64 m, .int .i64 i], ms := [], hp := some (.smap M) :: rows }
noncomputable def ret7 (e : Nat) (M : SM) (ch : Ch) (rows : Hp) : AX × St :=
  (.ret, { tm := tmOf 85 [(4, .nilsl), (5, .int .i64 (e : Int))], ms := [], hp := some (.smap M) :: (rows ++ [some (.cells [.str ch.nm, .str ch.fr, .str ch.tt])]) })
noncomputable def ex7 (l : AV) (m : Nat) (c : Nat → Ch) (M : SM) (rows : Hp) : AX × St :=
  (.exit 0, { tm := tmOf 85 [(6, .map 0), (7, l), (21, .sl 3 m (rowG CH c)), (22, .int .i64 m), (23, .int .i64 m), (24, .bool false)], ms := [], hp := some (.smap M) :: rows })
noncomputable abbrev rd7 (Λ0 : LoopT) (st : St) : T (AX × St) := rdn tabS h7 Λ0 7 0 0 st
theorem t7a (Λ0 : LoopT) (m i : Nat) (c : Nat → Ch) (M : SM) : (rd7 Λ0 (s7 .nilsl m c i M [])).run =
  bif decide ((i : Int) < (m : Int)) then
   bif decide (0 ≤ (i : Int) ∧ (i : Int) < (m : Int)) then
    bif !gt (c (i : Int).toNat).nm M == (c (i : Int).toNat).fr then some (ret7 35 M (c (i : Int).toNat) [])
    else bif !word (c (i : Int).toNat).nm then some (ret7 20 M (c (i : Int).toNat) [])
    else bif !(c (i : Int).toNat).tt == [] then
     bif !word (c (i : Int).toNat).tt then some (ret7 20 M (c (i : Int).toNat) [])
     else some (.normal, s7 (.row 1 1 0 1) m c (IntKind.i64.wrap ((i : Int) + 1)) (putM (c (i : Int).toNat).nm (c (i : Int).toNat).tt M) [some (.row 1 1 fun j => rowF 1 [.str (c (i : Int).toNat).nm] (0 + j))])
    else some (.normal, s7 (.row 1 1 0 1) m c (IntKind.i64.wrap ((i : Int) + 1)) (putM (c (i : Int).toNat).nm (c (i : Int).toNat).tt M) [some (.row 1 1 fun j => rowF 1 [.str (c (i : Int).toNat).nm] (0 + j))])
   else none
  else some (.exit 0, { tm := tmOf 85 [(6, .map 0), (7, .nilsl), (21, .sl 3 m (rowG CH c)), (22, .int .i64 m), (23, .int .i64 i), (24, .bool false)], ms := [], hp := [some (.smap M)] }) := by kernel_rfl
theorem t7b (Λ0 : LoopT) (m i k : Nat) (c : Nat → Ch) (M : SM) (h : Nat → Nat → AV) : (rd7 Λ0 (s7 (.row 1 1 0 k) m c i M [some (.row 1 k h)])).run =
  bif decide ((i : Int) < (m : Int)) then
   bif decide (0 ≤ (i : Int) ∧ (i : Int) < (m : Int)) then
    bif !gt (c (i : Int).toNat).nm M == (c (i : Int).toNat).fr then some (ret7 35 M (c (i : Int).toNat) [some (.row 1 k h)])
    else bif !word (c (i : Int).toNat).nm then some (ret7 20 M (c (i : Int).toNat) [some (.row 1 k h)])
    else bif !(c (i : Int).toNat).tt == [] then
     bif !word (c (i : Int).toNat).tt then some (ret7 20 M (c (i : Int).toNat) [some (.row 1 k h)])
     else bif decide (k = k) then
      bif decide ((k + 1) * 16 ≤ 140737488355328 ∧ k + 1 ≤ 4611686018427387903) then
       some (.normal, s7 (.row 1 1 0 (k + 1)) m c (IntKind.i64.wrap ((i : Int) + 1)) (putM (c (i : Int).toNat).nm (c (i : Int).toNat).tt M) [some (.row 1 (k + 1) (appF k h fun j => rowF 1 [.str (c (i : Int).toNat).nm] (0 + j)))])
      else none
     else none
    else bif decide (k = k) then
      bif decide ((k + 1) * 16 ≤ 140737488355328 ∧ k + 1 ≤ 4611686018427387903) then
       some (.normal, s7 (.row 1 1 0 (k + 1)) m c (IntKind.i64.wrap ((i : Int) + 1)) (putM (c (i : Int).toNat).nm (c (i : Int).toNat).tt M) [some (.row 1 (k + 1) (appF k h fun j => rowF 1 [.str (c (i : Int).toNat).nm] (0 + j)))])
      else none
     else none
   else none
  else some (.exit 0, { tm := tmOf 85 [(6, .map 0), (7, .row 1 1 0 k), (21, .sl 3 m (rowG CH c)), (22, .int .i64 m), (23, .int .i64 i), (24, .bool false)], ms := [], hp := [some (.smap M), some (.row 1 k h)] }) := by kernel_rfl
theorem t7 (Λ0 : LoopT) (m i : Nat) (c : Nat → Ch) (M : SM) (L : List (List UInt8)) (h1 : i ≤ m) (h2 : m ≤ bnd) (h3 : L.length + (m - i) ≤ 8796093022208) :
    (rd7 Λ0 (s7 (rAs 1 L) m c i M (rHs L))).run = bif decide (i < m) then
      bif !gt (c i).nm M == (c i).fr then some (ret7 35 M (c i) (rHs L))
      else bif badC (c i) then some (ret7 20 M (c i) (rHs L))
      else some (.normal, s7 (rAs 1 (L ++ [(c i).nm])) m c ((i + 1 : Nat) : Int) (putM (c i).nm (c i).tt M) (rHs (L ++ [(c i).nm])))
    else some (ex7 (rAs 1 L) m c M (rHs L)) := by
  simp only [bnd] at h2
  by_cases hi : i < m
  · rw [decide_eq_true hi, cond_true]
    unfold badC
    rw [rAs_push, rHs_push]
    cases L with
    | nil =>
      refine (t7a Λ0 m i c M).trans ?_
      rw [decide_eq_true (show (i : Int) < m by omega), in_row hi, Int.toNat_natCast, w64n (by omega)]
      have e : (fun j => rowF 1 [AV.str (c i).nm] (0 + j)) = strF ([] ++ [(c i).nm]) := by
        rw [← strF_app]
        exact (appF_zero _ _).symm
      rw [e]
      cases (!gt (c i).nm M == (c i).fr)
      · cases word (c i).nm
        · rfl
        · cases (c i).tt == []
          · cases word (c i).tt <;> rfl
          · rfl
      · rfl
    | cons x L =>
      refine (t7b Λ0 m i (L.length + 1) c M (strF (x :: L))).trans ?_
      simp only [List.length_cons] at h3
      rw [decide_eq_true (show (i : Int) < m by omega), in_row hi, Int.toNat_natCast, w64n (by omega), decide_eq_true rfl, decide_eq_true (show (L.length + 1 + 1) * 16 ≤ 140737488355328 ∧ L.length + 1 + 1 ≤ 4611686018427387903 by omega)]
      have e : appF (L.length + 1) (strF (x :: L)) (fun j => rowF 1 [AV.str (c i).nm] (0 + j)) = strF (x :: L ++ [(c i).nm]) := strF_app (x :: L) _
      rw [e]
      cases (!gt (c i).nm M == (c i).fr)
      · cases word (c i).nm
        · rfl
        · cases (c i).tt == []
          · cases word (c i).tt <;> rfl
          · rfl
      · rfl
  · obtain rfl : i = m := by omega
    rw [decide_eq_false hi, cond_false]
    cases L with
    | nil =>
      refine (t7a Λ0 i i c M).trans ?_
      rw [decide_eq_false (show ¬ (i : Int) < i by omega)]
      rfl
    | cons x L =>
      refine (t7b Λ0 i i (L.length + 1) c M (strF (x :: L))).trans ?_
      rw [decide_eq_false (show ¬ (i : Int) < i by omega)]
      rfl
/-- Where the changes end. -/
structure O7 where
  e : Nat
  M : SM
  L : List (List UInt8)
  ch : Ch
def apO (c : Nat → Ch) : Nat → Nat → SM → List (List UInt8) → O7
  | 0, i, M, L => ⟨0, M, L, ⟨[], [], []⟩⟩
  | k + 1, i, M, L => bif !gt (c i).nm M == (c i).fr then ⟨35, M, L, c i⟩ else bif badC (c i) then ⟨20, M, L, c i⟩
    else apO c k (i + 1) (putM (c i).nm (c i).tt M) (L ++ [(c i).nm])
noncomputable def fin7 (m : Nat) (c : Nat → Ch) (o : O7) : T (AX × St) :=
  .br (Nat.beq o.e 0) (.br o.L.isEmpty (.leaf (ex7 .nilsl m c o.M [])) (.leaf (ex7 (.row 1 1 0 o.L.length) m c o.M [some (.row 1 o.L.length (strF o.L))])))
    (.br o.L.isEmpty (.leaf (ret7 o.e o.M o.ch [])) (.leaf (ret7 o.e o.M o.ch [some (.row 1 o.L.length (strF o.L))])))
theorem fin7_ex (m : Nat) (c : Nat → Ch) (M : SM) (L : List (List UInt8)) (ch : Ch) : (fin7 m c ⟨0, M, L, ch⟩).run = some (ex7 (rAs 1 L) m c M (rHs L)) := by
  cases L <;> rfl
theorem fin7_ret (m : Nat) (c : Nat → Ch) (e : Nat) (M : SM) (L : List (List UInt8)) (ch : Ch) : (fin7 m c ⟨e + 1, M, L, ch⟩).run = some (ret7 (e + 1) M ch (rHs L)) := by
  cases L <;> rfl
structure Y7 where
  l : AV
  m : Nat
  c : Nat → Ch
  i : Nat
  M : SM
  rows : Hp
def e7 : Y7 → List AV × Hp := fun ⟨l, m, c, i, M, rows⟩ => ([.map 0, l, .sl 3 m (rowG CH c), .int .i64 m, .int .i64 i], some (.smap M) :: rows)
def d7 : List AV × Hp → Y7
  | ([_, l, .sl _ m g, _, .int _ i], some (.smap M) :: rows) => ⟨l, m, unG CH g, i.toNat, M, rows⟩
  | _ => ⟨.junk, 0, fun _ => ⟨[], [], []⟩, 0, [], []⟩
theorem i7 : ∀ x, d7 (e7 x) = x := by
  rintro ⟨l, m, c, i, M, rows⟩
  show (⟨l, m, unG CH (rowG CH c), i, M, rows⟩ : Y7) = _
  rw [unG_rowG okCH]
def p7 : Y7 → Prop := fun ⟨l, m, c, i, M, rows⟩ => i ≤ m ∧ m ≤ bnd ∧ ∃ L, l = rAs 1 L ∧ rows = rHs L ∧ L.length + (m - i) ≤ 8796093022208
noncomputable def r7 : Y7 → T (AX × St) := fun ⟨l, m, c, i, M, rows⟩ => fin7 m c (apO c (m - i) i M (unHs rows))
noncomputable def L7a : LoopT := fun k => match Nat.beq k 600076 with
  | true => some (lccon (mbits 14680256 85) e7 d7 p7 r7)
  | false => none
theorem apO_step (c : Nat → Ch) {m i : Nat} (h : i < m) (M : SM) (L : List (List UInt8)) : apO c (m - i) i M L =
    bif !gt (c i).nm M == (c i).fr then ⟨35, M, L, c i⟩ else bif badC (c i) then ⟨20, M, L, c i⟩ else apO c (m - (i + 1)) (i + 1) (putM (c i).nm (c i).tt M) (L ++ [(c i).nm]) := by
  obtain ⟨k, hk⟩ : ∃ k, m - i = k + 1 := ⟨m - i - 1, by omega⟩
  rw [hk, show m - (i + 1) = k by omega]
  rfl
theorem l7 (Λ0 : LoopT) (hk : Λ0 600076 = some (lccon (mbits 14680256 85) e7 d7 p7 r7)) : LoopOk Try.prog tabS.pf (fun n => hd Try.prog tabS.pf tabS.con.run (fun f => (H0 f).to) n 9) h7.to 7 0 none Λ0 (loopAt Try.prog 7 0) := by
  rw [show loopAt Try.prog 7 0 = .loop (lbody Try.prog 7 0) by kernel_rfl]
  refine loop_c (hdT_le (m := 20) 9) (m := 20) (lv := mbits 14680256 85) (p := p7) (res := r7) i7 (within_of _ (by rw [show loopsOf (lbody Try.prog 7 0) = [] by kernel_rfl]; simp)) (by rw [show lkey (lbody Try.prog 7 0) = 600076 by kernel_rfl]; exact hk) (fun ⟨l, m, c, i, M, rows⟩ => m - i) ?_
  rintro ⟨l, m, c, i, M, rows⟩ ⟨h1, h2, L, rfl, rfl, h3⟩
  have ht := t7 Λ0 m i c M L h1 h2 h3
  by_cases hi : i < m
  · rw [decide_eq_true hi, cond_true] at ht
    have ha := apO_step c hi M L
    cases q1 : (!gt (c i).nm M == (c i).fr) with
    | true =>
      rw [q1] at ht ha
      right
      refine ⟨_, ?_, ?_, ht⟩
      · simp [ret7]
      · simp only [r7, unHs_rHs, ha]
        exact fin7_ret m c 34 M L (c i)
    | false =>
      rw [q1, cond_false] at ht ha
      cases q2 : badC (c i) with
      | true =>
        rw [q2] at ht ha
        right
        refine ⟨_, ?_, ?_, ht⟩
        · simp [ret7]
        · simp only [r7, unHs_rHs, ha]
          exact fin7_ret m c 19 M L (c i)
      | false =>
        rw [q2, cond_false] at ht ha
        left
        refine ⟨⟨rAs 1 (L ++ [(c i).nm]), m, c, i + 1, putM (c i).nm (c i).tt M, rHs (L ++ [(c i).nm])⟩, ⟨by omega, h2, L ++ [(c i).nm], rfl, rfl, by rw [List.length_append]; simp only [List.length_cons, List.length_nil]; omega⟩, by simp only; omega, ?_, ht⟩
        simp only [r7, unHs_rHs]
        rw [ha]
  · obtain rfl : i = m := by omega
    rw [decide_eq_false hi, cond_false] at ht
    right
    refine ⟨_, ?_, ?_, ht⟩
    · simp [ex7]
    · simp only [r7, unHs_rHs, Nat.sub_self]
      exact fin7_ex i c M L _
end Go.Pln
namespace Go.Pln
open Go Go.Proofs Go.Ab
set_option maxRecDepth 100000
set_option linter.unusedVariables false
set_option linter.unusedSimpArgs false

/-! ### Apply: the loop of the names -/
noncomputable def z7 (l : AV) (nb : Nat) (k : Nat) (i : Int) (x : SM) (rows : Hp) (N : Nat) (W : List (List UInt8)) : St :=
  { tm := encGo (mbits 258254417031933723712 85) [.map 0, l, .row nb 1 0 k, .int .i64 k, .int .i64 i], ms := [], hp := some (.smap x) :: (rows ++ [some (.row 1 N (strF W))]) }
theorem y7a (Λ0 : LoopT) (x : SM) (W : List (List UInt8)) (k N i : Nat) : (rdn tabS h7 Λ0 7 0 1 (z7 .nilsl 1 k i x [] N W)).run =
  bif decide ((i : Int) < (k : Int)) then
   bif decide (0 ≤ (i : Int) ∧ (i : Int) < (k : Int)) then
    bif decide (0 + (i : Int).toNat < N) then
     bif !gt (W.getD (0 + (i : Int).toNat) []) x == [] then
      some (.normal, z7 (.row 1 2 0 1) 2 k (IntKind.i64.wrap ((i : Int) + 1)) x [some (.row 2 1 fun j => rowF 2 [.str (W.getD (0 + (i : Int).toNat) []), .str (gt (W.getD (0 + (i : Int).toNat) []) x)] (0 + j))] N W)
     else some (.normal, z7 .nilsl 1 k (IntKind.i64.wrap ((i : Int) + 1)) x [] N W)
    else none
   else none
  else some (.exit 3, { tm := tmOf 85 [(6, .map 0), (10, .nilsl), (65, .row 1 1 0 k), (66, .int .i64 k), (67, .int .i64 i), (68, .bool false)], ms := [], hp := [some (.smap x), some (.row 1 N (strF W))] }) := by kernel_rfl
theorem y7b (Λ0 : LoopT) (x : SM) (W : List (List UInt8)) (k N i c : Nat) (h : Nat → Nat → AV) : (rdn tabS h7 Λ0 7 0 1 (z7 (.row 1 2 0 c) 2 k i x [some (.row 2 c h)] N W)).run =
  bif decide ((i : Int) < (k : Int)) then
   bif decide (0 ≤ (i : Int) ∧ (i : Int) < (k : Int)) then
    bif decide (0 + (i : Int).toNat < N) then
     bif !gt (W.getD (0 + (i : Int).toNat) []) x == [] then
      bif decide (c = c) then
       bif decide ((c + 1) * 32 ≤ 140737488355328 ∧ c + 1 ≤ 4611686018427387903) then
        some (.normal, z7 (.row 1 2 0 (c + 1)) 2 k (IntKind.i64.wrap ((i : Int) + 1)) x [some (.row 2 (c + 1) (appF c h fun j => rowF 2 [.str (W.getD (0 + (i : Int).toNat) []), .str (gt (W.getD (0 + (i : Int).toNat) []) x)] (0 + j)))] N W)
       else none
      else none
     else some (.normal, z7 (.row 1 2 0 c) 2 k (IntKind.i64.wrap ((i : Int) + 1)) x [some (.row 2 c h)] N W)
    else none
   else none
  else some (.exit 3, { tm := tmOf 85 [(6, .map 0), (10, .row 1 2 0 c), (65, .row 2 1 0 k), (66, .int .i64 k), (67, .int .i64 i), (68, .bool false)], ms := [], hp := [some (.smap x), some (.row 2 c h), some (.row 1 N (strF W))] }) := by kernel_rfl
def pkN (w : List UInt8) (x : SM) : Pk := ⟨w, gt w x⟩
def plL (x : SM) (W : List (List UInt8)) : Nat → Nat → List Pk
  | 0, _ => []
  | m + 1, i => bif !gt (W.getD i []) x == [] then pkN (W.getD i []) x :: plL x W m (i + 1) else plL x W m (i + 1)
def nbP : List Pk → Nat
  | [] => 1
  | _ :: _ => 2
noncomputable def zL (L : List Pk) (k : Nat) (i : Int) (x : SM) (N : Nat) (W : List (List UInt8)) : St := z7 (rAG CK 1 L) (nbP L) k i x (rHG CK L) N W
noncomputable def ox7 (L : List Pk) (k : Nat) (x : SM) (N : Nat) (h : Nat → Nat → AV) : AX × St :=
  (.exit 3, { tm := tmOf 85 [(6, .map 0), (10, rAG CK 1 L), (65, .row (nbP L) 1 0 k), (66, .int .i64 k), (67, .int .i64 k), (68, .bool false)], ms := [], hp := some (.smap x) :: (rHG CK L ++ [some (.row 1 N h)]) })
theorem y7 (Λ0 : LoopT) (L : List Pk) (k i : Nat) (x : SM) (N : Nat) (W : List (List UInt8)) (h1 : i ≤ k) (h2 : k ≤ N) (h3 : N ≤ bnd) (h4 : L.length + (k - i) ≤ 4398046511103) :
    (rdn tabS h7 Λ0 7 0 1 (zL L k i x N W)).run = bif decide (i < k) then
      some (.normal, zL (bif !gt (W.getD i []) x == [] then L ++ [pkN (W.getD i []) x] else L) k ((i + 1 : Nat) : Int) x N W)
    else some (ox7 L k x N (strF W)) := by
  simp only [bnd] at h3
  by_cases hi : i < k
  · rw [decide_eq_true hi, cond_true]
    cases L with
    | nil =>
      refine (y7a Λ0 x W k N i).trans ?_
      rw [decide_eq_true (show (i : Int) < k by omega), in_row hi, Int.toNat_natCast, w64n (by omega), Nat.zero_add, decide_eq_true (show i < N by omega)]
      cases (!gt (W.getD i []) x == []) with
      | false => rfl
      | true =>
        have e : (fun j => rowF 2 [AV.str (W.getD i []), AV.str (gt (W.getD i []) x)] (0 + j)) = rowG CK (fnR CK.df ([] ++ [pkN (W.getD i []) x])) := rowF_first okCK CK.df rfl
        rw [e]
        rfl
    | cons a L =>
      refine (y7b Λ0 x W k N i (L.length + 1) (rowG CK (fnR CK.df (a :: L)))).trans ?_
      simp only [List.length_cons] at h4
      rw [decide_eq_true (show (i : Int) < k by omega), in_row hi, Int.toNat_natCast, w64n (by omega), Nat.zero_add, decide_eq_true (show i < N by omega)]
      cases (!gt (W.getD i []) x == []) with
      | false => rfl
      | true =>
        rw [decide_eq_true rfl, decide_eq_true (show (L.length + 1 + 1) * 32 ≤ 140737488355328 ∧ L.length + 1 + 1 ≤ 4611686018427387903 by omega)]
        have e : appF (L.length + 1) (rowG CK (fnR CK.df (a :: L))) (fun j => rowF 2 [AV.str (W.getD i []), AV.str (gt (W.getD i []) x)] (0 + j)) = rowG CK (fnR CK.df (a :: L ++ [pkN (W.getD i []) x])) := appG_push okCK CK.df (a :: L) rfl
        rw [e]
        simp only [cond_true, zL]
        rw [rAG_push, rHG_push]
        rfl
  · obtain rfl : i = k := by omega
    rw [decide_eq_false hi, cond_false]
    cases L with
    | nil =>
      refine (y7a Λ0 x W i N i).trans ?_
      rw [decide_eq_false (show ¬ (i : Int) < i by omega)]
      rfl
    | cons a L =>
      refine (y7b Λ0 x W i N i (L.length + 1) (rowG CK (fnR CK.df (a :: L)))).trans ?_
      rw [decide_eq_false (show ¬ (i : Int) < i by omega)]
      rfl
structure Z7 where
  l : AV
  nv : AV
  k : Nat
  i : Nat
  x : SM
  rest : Hp
def ez7 : Z7 → List AV × Hp := fun ⟨l, nv, k, i, x, rest⟩ => ([.map 0, l, nv, .int .i64 k, .int .i64 i], some (.smap x) :: rest)
def dz7 : List AV × Hp → Z7
  | ([_, l, nv, .int _ k, .int _ i], some (.smap x) :: rest) => ⟨l, nv, k.toNat, i.toNat, x, rest⟩
  | _ => ⟨.junk, .junk, 0, 0, [], []⟩
theorem iz7 : ∀ x, dz7 (ez7 x) = x := by
  rintro ⟨l, nv, k, i, x, rest⟩
  rfl
def pz7 : Z7 → Prop := fun ⟨l, nv, k, i, x, rest⟩ => (nv = .nilsl ∧ l = .nilsl ∧ k = 0 ∧ i = 0 ∧ rest = []) ∨ (i ≤ k ∧ ∃ L W, l = rAG CK 1 L ∧ nv = .row (nbP L) 1 0 k ∧ rest = rHG CK L ++ [some (.row 1 W.length (strF W))] ∧ k ≤ W.length ∧ W.length ≤ bnd ∧ L.length + (k - i) ≤ 4398046511103)
def unL7 : Hp → List Pk
  | [_] => []
  | r :: _ => unHG CK [r]
  | [] => []
theorem unL7_eq (L : List Pk) (N : Nat) (h : Nat → Nat → AV) : unL7 (rHG CK L ++ [some (.row 1 N h)]) = L := by
  cases L with
  | nil => rfl
  | cons a L => exact unHG_rHG okCK (a :: L)
theorem unW7_eq (L : List Pk) (N : Nat) (h : Nat → Nat → AV) : unW10 (rHG CK L ++ [some (.row 1 N h)]) = (N, h) := by
  cases L <;> rfl
noncomputable def finz (k : Nat) (x : SM) (N : Nat) (h : Nat → Nat → AV) (L : List Pk) : T (AX × St) :=
  .br L.isEmpty (.leaf (.exit 3, { tm := tmOf 85 [(6, .map 0), (10, .nilsl), (65, .row 1 1 0 k), (66, .int .i64 k), (67, .int .i64 k), (68, .bool false)], ms := [], hp := [some (.smap x), some (.row 1 N h)] }))
    (.leaf (.exit 3, { tm := tmOf 85 [(6, .map 0), (10, .row 1 2 0 L.length), (65, .row 2 1 0 k), (66, .int .i64 k), (67, .int .i64 k), (68, .bool false)], ms := [], hp := [some (.smap x), some (.row 2 L.length (rowG CK (fnR CK.df L))), some (.row 1 N h)] }))
theorem finz_run (k : Nat) (x : SM) (N : Nat) (h : Nat → Nat → AV) (L : List Pk) : (finz k x N h L).run = some (ox7 L k x N h) := by
  cases L <;> rfl
noncomputable def zz7 (x : SM) : AX × St := (.exit 3, { tm := tmOf 85 [(6, .map 0), (10, .nilsl), (65, .nilsl), (66, .int .i64 0), (67, .int .i64 0), (68, .bool false)], ms := [], hp := [some (.smap x)] })
theorem tzz7 (Λ0 : LoopT) (x : SM) : (rdn tabS h7 Λ0 7 0 1 { tm := encGo (mbits 258254417031933723712 85) [.map 0, .nilsl, .nilsl, .int .i64 0, .int .i64 0], ms := [], hp := [some (.smap x)] }).run = some (zz7 x) := by kernel_rfl
noncomputable def rz7 : Z7 → T (AX × St) := fun ⟨l, nv, k, i, x, rest⟩ =>
  match nv with
  | .nilsl => .leaf (zz7 x)
  | _ => finz k x (unW10 rest).1 (unW10 rest).2 (unL7 rest ++ plL x (lstF (unW10 rest).2 (unW10 rest).1) (k - i) i)
noncomputable def L7 : LoopT := fun k => match Nat.beq k 600076 with
  | true => some (lccon (mbits 14680256 85) e7 d7 p7 r7)
  | false => match Nat.beq k 1800035 with
    | true => some (lccon (mbits 258254417031933723712 85) ez7 dz7 pz7 rz7)
    | false => none
theorem plL_step (x : SM) (W : List (List UInt8)) {k i : Nat} (h : i < k) : plL x W (k - i) i = bif !gt (W.getD i []) x == [] then pkN (W.getD i []) x :: plL x W (k - (i + 1)) (i + 1) else plL x W (k - (i + 1)) (i + 1) := by
  obtain ⟨m, hm⟩ : ∃ m, k - i = m + 1 := ⟨k - i - 1, by omega⟩
  rw [hm, show k - (i + 1) = m by omega]
  rfl
theorem lz7 : LoopOk Try.prog tabS.pf (fun n => hd Try.prog tabS.pf tabS.con.run (fun f => (H0 f).to) n 9) h7.to 7 0 none L7 (loopAt Try.prog 7 1) := by
  rw [show loopAt Try.prog 7 1 = .loop (lbody Try.prog 7 1) by kernel_rfl]
  refine loop_c (hdT_le (m := 20) 9) (m := 20) (lv := mbits 258254417031933723712 85) (p := pz7) (res := rz7) iz7 (within_of _ (by rw [show loopsOf (lbody Try.prog 7 1) = [] by kernel_rfl]; simp)) (by kernel_rfl) (fun ⟨l, nv, k, i, x, rest⟩ => k - i) ?_
  rintro ⟨l, nv, k, i, x, rest⟩ (⟨rfl, rfl, rfl, rfl, rfl⟩ | ⟨h1, L, W, rfl, rfl, rfl, h2, h3, h4⟩)
  · right
    exact ⟨zz7 x, by simp [zz7], rfl, tzz7 L7 x⟩
  have ht : (rdn tabS h7 L7 7 0 1 (zL L k i x W.length W)).run = _   := y7 L7 L k i x W.length W h1 h2 h3 h4
  have hW := lstF_strF W
  by_cases hi : i < k
  · rw [decide_eq_true hi, cond_true] at ht
    left
    refine ⟨⟨rAG CK 1 (bif !gt (W.getD i []) x == [] then L ++ [pkN (W.getD i []) x] else L), AV.row (nbP (bif !gt (W.getD i []) x == [] then L ++ [pkN (W.getD i []) x] else L)) 1 0 k, k, i + 1, x, rHG CK (bif !gt (W.getD i []) x == [] then L ++ [pkN (W.getD i []) x] else L) ++ [some (AObj.row 1 W.length (strF W))]⟩,
      .inr ⟨by omega, _, W, rfl, rfl, rfl, h2, h3, ?_⟩, by simp only; omega, ?_, ht⟩
    · cases (!gt (W.getD i []) x == [])
      · simp only [cond_false]; omega
      · simp only [cond_true, List.length_append, List.length_cons, List.length_nil]; omega
    · simp only [rz7, unL7_eq, unW7_eq, hW]
      rw [plL_step x W hi]
      cases (!gt (W.getD i []) x == [])
      · rfl
      · simp only [cond_true, List.append_assoc, List.singleton_append]
  · obtain rfl : i = k := by omega
    rw [decide_eq_false hi, cond_false] at ht
    right
    refine ⟨_, ?_, ?_, ht⟩
    · simp [ox7]
    · simp only [rz7, unL7_eq, unW7_eq, Nat.sub_self]
      rw [show plL x (lstF (strF W) W.length) 0 i = [] from rfl, List.append_nil]
      exact finz_run i x W.length (strF W) L
end Go.Pln
namespace Go.Pln
open Go Go.Proofs Go.Ab
set_option maxRecDepth 100000
set_option linter.unusedVariables false
set_option linter.unusedSimpArgs false

/-! ### Apply -/
noncomputable def finA (L : List Pk) : Option (AV × Hp) :=
  bif L.isEmpty then some (.tup [.nilsl, .int .i64 0], []) else some (.tup [.row 0 2 0 L.length, .int .i64 0], [some (.row 2 L.length (rowG CK (fnR CK.df L)))])
def usl (L : List (List UInt8)) : List (List UInt8) := lstF (strF (srtL (lstF (strF L) L.length))) L.length
noncomputable def lp7 (M : SM) (L : List (List UInt8)) : Option (AV × Hp) :=
  bif L.isEmpty then
   bif isEn ez7 pz7 ([.map 0, .nilsl, .nilsl, .int .i64 0, .int .i64 0], [some (.smap M)]) then some (.tup [.nilsl, .int .i64 0], []) else none
  else bif rowOk L.length L.length (strF L) then
   bif rowOk L.length L.length (strF (srtL (lstF (strF L) L.length))) then
    bif isEn ez7 pz7 ([.map 0, .nilsl, .row 1 1 0 (Lib.compact (usl L)).length, .int .i64 (Lib.compact (usl L)).length, .int .i64 0], [some (.smap M), some (.row 1 L.length (strF (cmpL (usl L))))]) then
     finA (plL M (lstF (strF (cmpL (usl L))) L.length) ((Lib.compact (usl L)).length - 0) 0)
    else none
   else none
  else none
noncomputable def af7 (o : O7) : Option (AV × Hp) :=
  bif Nat.beq o.e 0 then lp7 o.M o.L
  else bif o.L.isEmpty then some (.tup [.nilsl, .int .i64 (o.e : Int)], []) else some (.tup [.nilsl, .int .i64 (o.e : Int)], [])
noncomputable def k7 (n m : Nat) (f : Nat → Pk) (c : Nat → Ch) (l : AV) (rows : Hp) : Option (AV × Hp) :=
  bif isEn e7 p7 ([.map 0, l, .sl 3 m (rowG CH c), .int .i64 m, .int .i64 0], some (.smap (putB (unK (rowK f)) n [])) :: rows) then
   af7 (apO (unG CH (rowG CH c)) (m - 0) 0 (putB (unK (rowK f)) n []) (unHs rows))
  else none
theorem u7 (n m : Nat) (f : Nat → Pk) (c : Nat → Ch) : (evn tabS h7 L7 7 [.sl 2 n (rowK f), .sl 3 m (rowG CH c)] []).run =
  bif isEn en16 p16 [.sl 2 n (rowK f)] then
   bif !fitK (unK (rowK f)) n then some (.tup [.nilsl, .int .i64 32], [])
   else bif isEn en22 p22 ([.sl 2 n (rowK f)], []) then
    bif isEn en23o pr23o ([.row 0 1 0 1], [rw1 n f]) then
     bif (nmL (unK (rowK f)) n 0).isEmpty then k7 n m f c .nilsl []
     else k7 n m f c (.row 1 1 0 (nmL (unK (rowK f)) n 0).length) [some (.row 1 (nmL (unK (rowK f)) n 0).length (strF (nmL (unK (rowK f)) n 0)))]
    else none
   else none
  else none := by kernel_rfl
theorem apO_len (c : Nat → Ch) : ∀ k i M L, (apO c k i M L).L.length ≤ L.length + k
  | 0, i, M, L => Nat.le_refl _
  | k + 1, i, M, L => by
    unfold apO
    cases (!gt (c i).nm M == (c i).fr)
    · cases badC (c i)
      · refine Nat.le_trans (apO_len c k (i + 1) _ _) ?_
        rw [List.length_append]
        simp only [List.length_cons, List.length_nil]
        omega
      · show L.length ≤ _
        omega
    · show L.length ≤ _
      omega
/-- What Apply tells. -/
def apL (o : O7) : List Pk := plL o.M (cmpL (srtL o.L)) (Lib.compact (srtL o.L)).length 0
structure R7 where
  e : Nat
  L : List Pk
def apP (n m : Nat) (f : Nat → Pk) (c : Nat → Ch) : R7 :=
  bif fitK f n then bif Nat.beq (apO c m 0 (putB f n []) (nmL f n 0)).e 0 then ⟨0, apL (apO c m 0 (putB f n []) (nmL f n 0))⟩ else ⟨(apO c m 0 (putB f n []) (nmL f n 0)).e, []⟩
  else ⟨32, []⟩
theorem lp7_ok (M : SM) (L : List (List UInt8)) (h : L.length ≤ 4398046511103) : lp7 M L = finA (plL M (cmpL (srtL L)) (Lib.compact (srtL L)).length 0) := by
  have hl : (cmpL (srtL L)).length = L.length := by rw [cmpL_len, srtL_len]
  have hc := compact_le (srtL L)
  rw [srtL_len] at hc
  have hu : usl L = srtL L := by
    unfold usl
    rw [lstF_strF]
    have := lstF_strF (srtL L)
    rwa [srtL_len] at this
  unfold lp7
  rw [hu]
  cases hU : L.isEmpty with
  | true =>
    obtain rfl : L = [] := by simpa using hU
    rw [show isEn ez7 pz7 ([.map 0, .nilsl, .nilsl, .int .i64 0, .int .i64 0], [some (.smap M)]) = true from isEn_true (enc := ez7) (p := pz7) ⟨.nilsl, .nilsl, 0, 0, M, []⟩ (.inl ⟨rfl, rfl, rfl, rfl, rfl⟩)]
    have h0 : (Lib.compact (srtL [])).length = 0 := by simpa using hc
    rw [h0]
    rfl
  | false =>
    have he : isEn ez7 pz7 ([.map 0, .nilsl, .row 1 1 0 (Lib.compact (srtL L)).length, .int .i64 (Lib.compact (srtL L)).length, .int .i64 0], [some (.smap M), some (.row 1 L.length (strF (cmpL (srtL L))))]) = true := by
      rw [← hl]
      exact isEn_true (enc := ez7) (p := pz7) ⟨.nilsl, .row 1 1 0 (Lib.compact (srtL L)).length, (Lib.compact (srtL L)).length, 0, M, [some (.row 1 (cmpL (srtL L)).length (strF (cmpL (srtL L))))]⟩
        (.inr ⟨Nat.zero_le _, [], cmpL (srtL L), rfl, rfl, rfl, by omega, by simp only [bnd]; omega, by simp only [List.length_nil]; omega⟩)
    rw [rowOk_str, rowOk_str, he, ← hl, lstF_strF, Nat.sub_zero]
    rfl
noncomputable def av7 (r : R7) : AV := .tup [.sl 2 r.L.length (rowK (fnG CK.df r.L)), .int .i64 (r.e : Int)]
theorem er7 {x : Option (AV × Hp)} (e : Nat) (h : x = some (.tup [.nilsl, .int .i64 (e : Int)], [])) : ∃ r1 r, (x.bind fun r => frz (.tup [.rows 2, .any]) r.2 r.1) = some r1 ∧ (T.leaf (av7 ⟨e, []⟩) : T AV).run = some r ∧ AW r1 r := by
  subst h
  exact ⟨_, _, rfl, rfl, AW.tup2 (by rw [← rowK_rowG]; exact nil_awG (C := CK) _) (AW.rfl' _)⟩
theorem frz7 (n : Nat) (g : Nat → Nat → AV) : frz (.tup [.rows 2, .any]) [some (.row 2 n g)] (.tup [.row 0 2 0 n, .int .i64 0]) = some (.tup [.sl 2 n g, .int .i64 0]) := by
  have e1 : frz (.rows 2) [some (.row 2 n g)] (.row 0 2 0 n) = some (.sl 2 n g) := by
    show (if 2 = 2 ∧ 2 = 2 ∧ 0 + n ≤ n then _ else none) = _
    rw [if_pos ⟨rfl, rfl, by omega⟩]
    rfl
  unfold frz frzL
  simp only [frzL, e1, Option.bind_some, Option.map_some, show frz .any [some (.row 2 n g)] (.int .i64 0) = some (.int .i64 0) from rfl]
theorem fin7_ok {x : Option (AV × Hp)} (L : List Pk) (h : x = finA L) : ∃ r1 r, (x.bind fun r => frz (.tup [.rows 2, .any]) r.2 r.1) = some r1 ∧ (T.leaf (av7 ⟨0, L⟩) : T AV).run = some r ∧ AW r1 r := by
  subst h
  cases L with
  | nil => exact er7 0 rfl
  | cons a L =>
    refine ⟨_, _, frz7 (L.length + 1) _, rfl, AW.tup2 ?_ (AW.rfl' _)⟩
    rw [← rowK_rowG]
    exact row_awG (C := CK) (listG_fnR CK.df (a :: L))
structure X7 where
  n : Nat
  m : Nat
  f : Nat → Pk
  c : Nat → Ch
noncomputable def c7 : List AV → T AV := ccon (fun x : X7 => [.sl 2 x.n (rowK x.f), .sl 3 x.m (rowG CH x.c)]) (fun l => match l with
    | [.sl _ n f, .sl _ m g] => ⟨n, m, unK f, unG CH g⟩
    | _ => ⟨0, 0, fun _ => default, fun _ => ⟨[], [], []⟩⟩) (fun x => x.n ≤ 1099511627776 ∧ x.m ≤ 1099511627776) (fun x => .leaf (av7 (apP x.n x.m x.f x.c)))
theorem s7d : Sound1 Try.prog ⟨7, true, pcon c7⟩ := by
  refine sound_cfW (m := 20) (k := 9) (hn := h7) (Λ := L7) (soundTab_of all_tabS) H0 (fun ⟨n, m, f, c⟩ => by show (⟨n, m, unK (rowK f), unG CH (rowG CH c)⟩ : X7) = _; rw [unG_rowG okCH, unK_rowK]) (.tup [.rows 2, .any]) (twoLoops (by kernel_rfl) (l7 L7 rfl) lz7) ?_
  rintro ⟨n, m, f, c⟩ ⟨h1, h2⟩ hF
  simp only at h1 h2
  have ht := u7 n m f c
  rw [k16 n f (by simp only [bnd]; omega), unK_rowK] at ht
  simp only [cond_true] at ht
  show ∃ r1 r, ((evn tabS h7 L7 7 [.sl 2 n (rowK f), .sl 3 m (rowG CH c)] []).run.bind fun r => frz (.tup [.rows 2, .any]) r.2 r.1) = some r1 ∧ (T.leaf (av7 (apP n m f c)) : T AV).run = some r ∧ AW r1 r
  unfold apP
  cases hf : fitK f n with
  | false =>
    rw [hf, Bool.not_false, cond_true] at ht
    rw [cond_false]
    exact er7 32 ht
  | true =>
    rw [hf, Bool.not_true, cond_false, show isEn en22 p22 ([.sl 2 n (rowK f)], []) = true from isEn_true (enc := en22) (p := p22) ⟨n, f⟩ (show n ≤ bnd by simp only [bnd]; omega), show isEn en23o pr23o ([.row 0 1 0 1], [rw1 n f]) = true from isEn_true (enc := en23o) (p := pr23o) ⟨n, f⟩ ⟨by omega, hf⟩, cond_true, cond_true] at ht
    rw [cond_true]
    have hk : ∀ L : List (List UInt8), L.length = n → k7 n m f c (rAs 1 L) (rHs L) = af7 (apO c m 0 (putB f n []) L) := fun L hL => by
      unfold k7
      rw [show isEn e7 p7 ([.map 0, rAs 1 L, .sl 3 m (rowG CH c), .int .i64 m, .int .i64 0], some (.smap (putB (unK (rowK f)) n [])) :: rHs L) = true from
        isEn_true (enc := e7) (p := p7) ⟨rAs 1 L, m, c, 0, putB f n [], rHs L⟩ ⟨Nat.zero_le _, by simp only [bnd]; omega, L, rfl, rfl, by omega⟩, unG_rowG okCH, unHs_rHs, Nat.sub_zero, unK_rowK]
      rfl
    have hL := nmL_len f n 0
    have ha := apO_len c m 0 (putB f n []) (nmL f n 0)
    have ht2 : (evn tabS h7 L7 7 [.sl 2 n (rowK f), .sl 3 m (rowG CH c)] []).run = af7 (apO c m 0 (putB f n []) (nmL f n 0)) := by
      rw [ht, ← hk _ hL]
      generalize nmL f n 0 = L
      cases L <;> rfl
    rw [ht2]
    revert ha
    generalize apO c m 0 (putB f n []) (nmL f n 0) = o
    intro ha
    unfold af7
    cases he : Nat.beq o.e 0 with
    | true =>
      rw [cond_true, cond_true, lp7_ok _ _ (by omega)]
      exact fin7_ok (apL o) rfl
    | false =>
      rw [cond_false, cond_false]
      refine er7 o.e ?_
      cases o.L.isEmpty <;> rfl
noncomputable def tabU : Tab := ⟨7, true, pcon c7⟩ :: tabR
theorem all_tabU : ∀ e, e ∈ tabU → Sound1 Try.prog e := sound_mem_tab s7d all_tabR
end Go.Pln
namespace Go.Pln

open Go Go.Proofs Go.Ab

set_option maxRecDepth 100000

set_option linter.unusedVariables false

set_option linter.unusedSimpArgs false

/-! ### The reference's Word and Fit -/

theorem t48 (c : Int) : (evn tabU h48 noLoops 48 [.int .u8 c] []).run =
  bif decide (c ≥ (33 : Int)) then
   some ((AV.bool (decide (c ≤ (126 : Int))), []))
  else
   some ((AV.bool false, [])) := by kernel_rfl

def c48 : List AV → T AV
  | [.int .u8 c] => .leaf (.bool (wC c))
  | _ => .fail

theorem e48 (c : Int) (hF : FitsL [.int .u8 c]) : (evn tabU h48 noLoops 48 [.int .u8 c] []).run = (.leaf (.bool (wC c)) : T AV).run.map fun r => (r, []) := by
  refine (t48 c).trans ?_
  unfold wC
  cases decide (c ≥ 33) <;> rfl

theorem s48 : Sound1 Try.prog ⟨48, true, pcon c48⟩ := by
  refine sound_pureH (m := 20) (k := 9) (hn := h48) (Λ := noLoops) (soundTab_of all_tabU) H0 (fun i hi => anyLoops) fun args r hF h => ?_
  unfold c48 at h
  split at h
  · rename_i c
    have he := e48 c hF
    rw [he, h]; rfl
  · cases h

noncomputable def tabV : Tab := ⟨48, true, pcon c48⟩ :: tabU

theorem all_tabV : ∀ e, e ∈ tabV → Sound1 Try.prog e := (sound_mem_tab s48 all_tabU)

theorem ok_tabV : SoundTab Try.prog tabV := soundTab_of all_tabV

structure Y28 where
  s : List UInt8
  i : Nat

def eL28 : Y28 → List AV × Hp := fun ⟨s, i⟩ => ([.str s, .int .i64 i], [])

def dL28 : List AV × Hp → Y28
  | ([.str s, .int .i64 i], []) => ⟨s, i.toNat⟩
  | _ => ⟨default, default⟩

def pL28 : Y28 → Prop := fun ⟨s, i⟩ => i ≤ s.length ∧ s.length ≤ bnd

def rL28 : Y28 → T (AX × St) := fun ⟨s, i⟩ => .br (alN wB s i) (.leaf (.exit 0, { tm := tmOf 22 [(0, .str s), (3, .int .i64 s.length), (7, .bool false)], ms := [], hp := [] })) (.leaf (.ret, { tm := tmOf 22 [(2, .bool false)], ms := [], hp := [] }))

noncomputable def L28 : LoopT := fun k => match Nat.beq k 200029 with
  | true => some (lccon (mbits 9 22) eL28 dL28 pL28 rL28)
  | false => none

theorem iL28 : ∀ x, dL28 (eL28 x) = x := by
  rintro ⟨s, i⟩
  simp only [eL28, dL28, Int.toNat_natCast]

theorem kL28 (s : List UInt8) (i : Nat) (h : i ≤ s.length ∧ s.length ≤ bnd) : isEn eL28 pL28 ([.str s, .int .i64 i], []) = true := isEn_true (enc := eL28) (p := pL28) ⟨s, i⟩ h

theorem zL28 (s : List UInt8) (h : pL28 ⟨s, 0⟩) : isEn eL28 pL28 ([.str s, .int .i64 (0 : Int)], []) = true := isEn_true (enc := eL28) (p := pL28) ⟨s, 0⟩ h

theorem q28 (s : List UInt8) (i : Nat) : (rdn tabV h28 L28 28 0 0 { tm := encGo (mbits 9 22) [.str s, .int .i64 i], ms := [], hp := [] }).run =
  bif decide ((↑i : Int) < (↑s.length : Int)) then
   bif decide ((0 : Int) ≤ (↑i : Int) ∧ (↑i : Int) < (↑s.length : Int)) then
    bif !wC (↑(s.getD (↑i : Int).toNat (0 : UInt8)).toNat : Int) then
     some ((AX.ret, { tm := tmOf 22 [(2, AV.bool false)], ms := [], hp := [] }))
    else
     some ((AX.normal, { tm := tmOf 22 [(0, AV.str s), (3, AV.int IntKind.i64 (IntKind.i64.wrap ((↑i : Int) + (1 : Int))))], ms := [], hp := [] }))
   else
    none
  else
   some ((AX.exit 0, { tm := tmOf 22 [(0, AV.str s), (3, AV.int IntKind.i64 (↑i : Int)), (7, AV.bool false)], ms := [], hp := [] })) := by kernel_rfl

theorem l28 : LoopOk Try.prog tabV.pf (fun n => hd Try.prog tabV.pf tabV.con.run (fun f => (H0 f).to) n 9) h28.to 28 0 none L28 (loopAt Try.prog 28 0) := by
  rw [show loopAt Try.prog 28 0 = .loop (lbody Try.prog 28 0) by kernel_rfl]
  refine loop_c (hdT_le (m := 20) 9) (m := 20) (lv := mbits 9 22) (p := pL28) (res := rL28) iL28 (within_of _ (by rw [show loopsOf (lbody Try.prog 28 0) = [] by kernel_rfl]; simp)) (by kernel_rfl) (fun ⟨s, i⟩ => s.length - i) ?_
  rintro ⟨s, i⟩ hp
  have ht := q28 s i
  have hb : s.length ≤ 4611686018427387903 := by have := hp; simp only [pL28, bnd] at this; omega
  have hi : i ≤ s.length := by have := hp; simp only [pL28, bnd] at this; omega
  by_cases hl : i < s.length
  · have hd := alN_step (q := wB) (0) hl
    rw [decide_eq_true (show (i : Int) < s.length by omega), byte_at hl, Int.toNat_natCast, w64n (by omega)] at ht
    rw [show (wC ((s.getD i 0).toNat : Int)) = wB (s.getD i 0) from rfl] at ht
    dsimp only [cond_true] at ht
    cases hq : wB (s.getD i 0) with
    | false =>
      rw [hq] at ht hd
      right
      refine ⟨_, ?_, ?_, ht⟩
      · simp
      · simp only [rL28, T.run_br, hd, Bool.false_and] <;> rfl
    | true =>
      rw [hq] at ht hd
      left
      refine ⟨⟨s, i + 1⟩, ?_, by simp only; omega, ?_, ht⟩
      · have := hp
        simp only [pL28, bnd] at this ⊢
        omega
      · simp only [rL28, T.run_br, hd, Bool.true_and]
  · have he : i = s.length := by omega
    right
    rw [decide_eq_false (show ¬ (i : Int) < s.length by omega)] at ht
    refine ⟨_, ?_, ?_, ht⟩
    · simp
    · simp only [rL28, T.run_br, alN_end (show s.length ≤ i by omega)]
      rw [he] <;> rfl

theorem t28 (s : List UInt8) : (evn tabV h28 L28 28 [.str s] []).run =
  bif isEn eL28 pL28 ([AV.str s, AV.int IntKind.i64 (0 : Int)], []) then
   bif alN wB s 0 then
    bif !s == [] then
     some ((AV.bool (decide ((↑s.length : Int) ≤ (128 : Int))), []))
    else
     some ((AV.bool false, []))
   else
    some ((AV.bool false, []))
  else
   none := by kernel_rfl

def c28 : List AV → T AV
  | [.str s] => .leaf (.bool (word s))
  | _ => .fail

theorem e28 (s : List UInt8) (hF : FitsL [.str s]) : (evn tabV h28 L28 28 [.str s] []).run = (.leaf (.bool (word s)) : T AV).run.map fun r => (r, []) := by
  refine (t28 s).trans ?_
  have hb : s.length ≤ bnd := hF.1
  refine (cond_chk (kL28 s 0 ⟨Nat.zero_le _, hb⟩)).trans ?_
  unfold word alN
  simp only [List.drop_zero]
  cases (s.all wB) with
  | false => rfl
  | true =>
    cases (s == []) with
    | true => rfl
    | false =>
      rw [show decide ((s.length : Int) ≤ 128) = decide (s.length ≤ 128) by rw [decide_eq_decide]; omega]
      rfl

theorem s28 : Sound1 Try.prog ⟨28, true, pcon c28⟩ := by
  refine sound_pureH (m := 20) (k := 9) (hn := h28) (Λ := L28) (soundTab_of all_tabV) H0 (oneLoop (by kernel_rfl) l28) fun args r hF h => ?_
  unfold c28 at h
  split at h
  · rename_i s
    have he := e28 s hF
    rw [he, h]; rfl
  · cases h

noncomputable def tabX : Tab := ⟨28, true, pcon c28⟩ :: tabV

theorem all_tabX : ∀ e, e ∈ tabX → Sound1 Try.prog e := (sound_mem_tab s28 all_tabV)

theorem ok_tabX : SoundTab Try.prog tabX := soundTab_of all_tabX

structure Y17 where
  n : Nat
  f : Nat → Pk
  i : Nat

def eL17 : Y17 → List AV × Hp := fun ⟨n, f, i⟩ => ([.sl 2 n (rowK f), .int .i64 i], [])

def dL17 : List AV × Hp → Y17
  | ([.sl _ n f_g, .int .i64 i], []) => ⟨n, unK f_g, i.toNat⟩
  | _ => ⟨default, default, default⟩

def pL17 : Y17 → Prop := fun ⟨n, f, i⟩ => i ≤ n ∧ n ≤ bnd

def rL17 : Y17 → T (AX × St) := fun ⟨n, f, i⟩ => .br (decide (fbad (okK f) (n - i) i < n)) (.leaf (.ret, { tm := tmOf 44 [(2, .bool false)], ms := [], hp := [] })) (.leaf (.exit 0, { tm := tmOf 44 [(0, .sl 2 n (rowK f)), (3, .int .i64 n), (7, .bool false)], ms := [], hp := [] }))

noncomputable def L17 : LoopT := fun k => match Nat.beq k 200058 with
  | true => some (lccon (mbits 9 44) eL17 dL17 pL17 rL17)
  | false => none

theorem iL17 : ∀ x, dL17 (eL17 x) = x := by
  rintro ⟨n, f, i⟩
  simp only [eL17, dL17, Int.toNat_natCast, unK_rowK]

theorem kL17 (n : Nat) (f : Nat → Pk) (i : Nat) (h : i ≤ n ∧ n ≤ bnd) : isEn eL17 pL17 ([.sl 2 n (rowK f), .int .i64 i], []) = true := isEn_true (enc := eL17) (p := pL17) ⟨n, f, i⟩ h

theorem zL17 (n : Nat) (f : Nat → Pk) (h : pL17 ⟨n, f, 0⟩) : isEn eL17 pL17 ([.sl 2 n (rowK f), .int .i64 (0 : Int)], []) = true := isEn_true (enc := eL17) (p := pL17) ⟨n, f, 0⟩ h

theorem q17 (n : Nat) (f : Nat → Pk) (i : Nat) : (rdn tabX h17 L17 17 0 0 { tm := encGo (mbits 9 44) [.sl 2 n (rowK f), .int .i64 i], ms := [], hp := [] }).run =
  bif decide ((↑i : Int) < (↑n : Int)) then
   bif decide ((0 : Int) ≤ (↑i : Int) ∧ (↑i : Int) < (↑n : Int)) then
    bif !word (f (↑i : Int).toNat).nm then
     some ((AX.ret, { tm := tmOf 44 [(2, AV.bool false)], ms := [], hp := [] }))
    else
     bif decide ((0 : Int) ≤ (↑i : Int) ∧ (↑i : Int) < (↑n : Int)) then
      bif !word (f (↑i : Int).toNat).vr then
       some ((AX.ret, { tm := tmOf 44 [(2, AV.bool false)], ms := [], hp := [] }))
      else
       bif decide ((↑i : Int) > (0 : Int)) then
        bif decide ((0 : Int) ≤ IntKind.i64.wrap ((↑i : Int) - (1 : Int)) ∧ IntKind.i64.wrap ((↑i : Int) - (1 : Int)) < (↑n : Int)) then
         bif decide ((0 : Int) ≤ (↑i : Int) ∧ (↑i : Int) < (↑n : Int)) then
          bif !abytesLess (f (IntKind.i64.wrap ((↑i : Int) - (1 : Int))).toNat).nm (f (↑i : Int).toNat).nm then
           some ((AX.ret, { tm := tmOf 44 [(2, AV.bool false)], ms := [], hp := [] }))
          else
           some ((AX.normal, { tm := tmOf 44 [(0, AV.sl 2 n (rowK f)), (3, AV.int IntKind.i64 (IntKind.i64.wrap ((↑i : Int) + (1 : Int))))], ms := [], hp := [] }))
         else
          none
        else
         none
       else
        some ((AX.normal, { tm := tmOf 44 [(0, AV.sl 2 n (rowK f)), (3, AV.int IntKind.i64 (IntKind.i64.wrap ((↑i : Int) + (1 : Int))))], ms := [], hp := [] }))
     else
      none
   else
    none
  else
   some ((AX.exit 0, { tm := tmOf 44 [(0, AV.sl 2 n (rowK f)), (3, AV.int IntKind.i64 (↑i : Int)), (7, AV.bool false)], ms := [], hp := [] })) := by kernel_rfl

theorem l17 : LoopOk Try.prog tabX.pf (fun n => hd Try.prog tabX.pf tabX.con.run (fun f => (H0 f).to) n 9) h17.to 17 0 none L17 (loopAt Try.prog 17 0) := by
  rw [show loopAt Try.prog 17 0 = .loop (lbody Try.prog 17 0) by kernel_rfl]
  refine loop_c (hdT_le (m := 20) 9) (m := 20) (lv := mbits 9 44) (p := pL17) (res := rL17) iL17 (within_of _ (by rw [show loopsOf (lbody Try.prog 17 0) = [] by kernel_rfl]; simp)) (by kernel_rfl) (fun ⟨n, f, i⟩ => n - i) ?_
  rintro ⟨n, f, i⟩ hp
  have ht := q17 n f i
  obtain ⟨h1, h2⟩ := hp
  have hb := h2
  simp only [bnd] at hb
  by_cases hl : i < n
  · have hd := fbad_step (q := okK f) hl
    have ht2 : (rdn tabX h17 L17 17 0 0 { tm := encGo (mbits 9 44) [.sl 2 n (rowK f), .int .i64 i], ms := [], hp := [] }).run =
        bif okK f i then some (.normal, { tm := tmOf 44 [(0, .sl 2 n (rowK f)), (3, .int .i64 (i + 1 : Nat))], ms := [], hp := [] })
        else some (.ret, { tm := tmOf 44 [(2, .bool false)], ms := [], hp := [] }) := by
      refine ht.trans ?_
      rw [decide_eq_true (show (i : Int) < n by omega), in_row hl, Int.toNat_natCast, w64n (by omega)]
      unfold okK
      cases word (f i).nm
      · rfl
      · cases word (f i).vr
        · rfl
        · cases i with
          | zero => rfl
          | succ k =>
            rw [decide_eq_true (show ((k + 1 : Nat) : Int) > 0 by omega), show ((k + 1 : Nat) : Int) - 1 = (k : Nat) by omega, w64 (n := (k : Nat)) (by omega) (by omega), in_row (show k < n by omega), Int.toNat_natCast]
            simp only [cond_true, Nat.add_sub_cancel, Bool.not_true, cond_false]
            cases abytesLess (f k).nm (f (k + 1)).nm <;> rfl
    cases hq : okK f i with
    | true =>
      rw [hq] at ht2 hd
      rw [cond_true] at hd
      left
      refine ⟨⟨n, f, i + 1⟩, ⟨by omega, h2⟩, by simp only; omega, ?_, ht2⟩
      simp only [rL17, T.run_br, hd]
    | false =>
      rw [hq] at ht2 hd
      rw [cond_false] at hd
      right
      refine ⟨_, ?_, ?_, ht2⟩
      · simp
      · simp only [rL17, T.run_br, hd, decide_eq_true hl] <;> rfl
  · have he : i = n := by omega
    right
    subst he
    rw [decide_eq_false (show ¬ (i : Int) < i by omega)] at ht
    refine ⟨_, ?_, ?_, ht⟩
    · simp
    · simp only [rL17, T.run_br, Nat.sub_self, fbad, decide_eq_false (Nat.lt_irrefl i)] <;> rfl

theorem t17 (n : Nat) (f : Nat → Pk) : (evn tabX h17 L17 17 [.sl 2 n (rowK f)] []).run =
  bif isEn eL17 pL17 ([AV.sl 2 n (rowK f), AV.int IntKind.i64 (0 : Int)], []) then
   bif decide (fbad (okK (unK (rowK f))) (n - 0) 0 < n) then
    some ((AV.bool false, []))
   else
    some ((AV.bool true, []))
  else
   none := by kernel_rfl

structure X17 where
  n : Nat
  f : Nat → Pk

def en17 : X17 → List AV := fun ⟨n, f⟩ => [.sl 2 n (rowK f)]

def de17 : List AV → X17
  | [.sl _ n f_g] => ⟨n, unK f_g⟩
  | _ => ⟨default, default⟩

def p17 : X17 → Prop := fun ⟨n, f⟩ => n ≤ bnd

def rs17 : X17 → T AV := fun ⟨n, f⟩ => .leaf (.bool (fitK f n))

noncomputable def c17 : List AV → T AV := ccon en17 de17 p17 rs17

theorem in17 : ∀ x, de17 (en17 x) = x := by
  rintro ⟨n, f⟩
  simp only [en17, de17, Int.toNat_natCast, unK_rowK]

theorem k17 (n : Nat) (f : Nat → Pk) (h : n ≤ bnd) : isEn en17 p17 [.sl 2 n (rowK f)] = true := isEn_true (enc := en17) (p := p17) ⟨n, f⟩ h

theorem e17 (n : Nat) (f : Nat → Pk) (hF : FitsL [.sl 2 n (rowK f)]) (hp : n ≤ bnd) : (evn tabX h17 L17 17 [.sl 2 n (rowK f)] []).run = (.leaf (.bool (fitK f n)) : T AV).run.map fun r => (r, []) := by
  refine (t17 n f).trans ?_
  rw [cond_chk (zL17 n f ⟨Nat.zero_le _, hp⟩)]
  rw [unK_rowK, Nat.sub_zero]
  unfold fitK
  by_cases hb : fbad (okK f) n 0 < n
  · rw [decide_eq_true hb, decide_eq_false (fun q => q hb)]; rfl
  · rw [decide_eq_false hb, decide_eq_true hb]; rfl

theorem s17 : Sound1 Try.prog ⟨17, true, pcon c17⟩ := by
  refine sound_c (soundTab_of all_tabX) H0 in17 (hn := h17) (m := 20) (k := 9) (Λ := L17) (oneLoop (by kernel_rfl) l17) ?_
  rintro ⟨n, f⟩ hp hF
  exact e17 n f hF hp

noncomputable def tabY : Tab := ⟨17, true, pcon c17⟩ :: tabX

theorem all_tabY : ∀ e, e ∈ tabY → Sound1 Try.prog e := (sound_mem_tab s17 all_tabX)

theorem ok_tabY : SoundTab Try.prog tabY := soundTab_of all_tabY
end Go.Pln
namespace Go.Pln
open Go Go.Proofs Go.Ab
set_option maxRecDepth 100000
set_option linter.unusedVariables false
set_option linter.unusedSimpArgs false

/-! ### Plain: changes done are the other plan -/
def gtL (w : List UInt8) (A : List Pk) : List UInt8 := match A.find? (fun p => w == p.nm) with
  | some p => p.vr
  | none => []
theorem gt_put (f : Nat → Pk) (n : Nat) (w : List UInt8) : gt w (putB f n []) = gtL w (lsF f n 0) := by
  unfold gt gtL
  rw [look_putB]
  cases (lsF f n 0).find? (fun p => w == p.nm) <;> rfl
theorem gt_putM (w u t : List UInt8) (M : SM) : gt w (putM u t M) = bif w == u then t else gt w M := by
  unfold gt
  rw [look_put]
  cases (w == u) <;> rfl
theorem take_cmp (L : List (List UInt8)) : (cmpL (srtL L)).take (unq L).length = unq L := by
  unfold cmpL unq
  exact List.take_left
theorem getD_take {α : Type} (W : List α) (d : α) : ∀ k i, i + k ≤ W.length → ((W.drop i).take (k + 1) = if h : i < W.length then W.getD i d :: (W.drop (i + 1)).take k else []) := fun k i h => by
  split
  · rename_i h2
    rw [dropD d h2, List.take_succ_cons]
  · rw [List.drop_eq_nil_of_le (by omega)]; rfl
def chF (x y : SM) (w : List UInt8) : Option Ch := bif !gt w x == gt w y then some (chN w x y) else none
theorem chL_fm (x y : SM) (W : List (List UInt8)) : ∀ k i, i + k ≤ W.length → chL x y W k i = ((W.drop i).take k).filterMap (chF x y)
  | 0, i, h => by rw [List.take_zero]; rfl
  | k + 1, i, h => by
    have hi : i < W.length := by omega
    rw [dropD [] hi, List.take_succ_cons, List.filterMap_cons]
    unfold chL chF
    rw [chL_fm x y W k (i + 1) (by omega)]
    cases (!gt (W.getD i []) x == gt (W.getD i []) y) <;> rfl
def pkF (x : SM) (w : List UInt8) : Option Pk := bif !gt w x == [] then some (pkN w x) else none
theorem plL_fm (x : SM) (W : List (List UInt8)) : ∀ k i, i + k ≤ W.length → plL x W k i = ((W.drop i).take k).filterMap (pkF x)
  | 0, i, h => by rw [List.take_zero]; rfl
  | k + 1, i, h => by
    have hi : i < W.length := by omega
    rw [dropD [] hi, List.take_succ_cons, List.filterMap_cons]
    unfold plL pkF
    rw [plL_fm x W k (i + 1) (by omega)]
    cases (!gt (W.getD i []) x == []) <;> rfl
theorem dfL_eq (n m : Nat) (f g : Nat → Pk) : dfL n m f g = (unq (nm2 n m f g)).filterMap (chF (putB f n []) (putB g m [])) := by
  unfold dfL
  rw [chL_fm _ _ _ _ _ (by rw [cmpL_len, srtL_len, Nat.zero_add]; exact unq_len_le _), List.drop_zero]
  exact congrArg _ (take_cmp _)
theorem apL_eq (o : O7) : apL o = (unq o.L).filterMap (pkF o.M) := by
  unfold apL
  rw [plL_fm _ _ _ _ (by rw [cmpL_len, srtL_len, Nat.zero_add]; exact unq_len_le _), List.drop_zero]
  exact congrArg _ (take_cmp _)
theorem dfL_len (n m : Nat) (f g : Nat → Pk) : (dfL n m f g).length ≤ n + m := by
  rw [dfL_eq]
  refine Nat.le_trans (List.length_filterMap_le _ _) (Nat.le_trans (unq_len_le _) ?_)
  unfold nm2
  rw [List.length_append, nmL_len, nmL_len]
  exact Nat.le_refl _
def apOL : List Ch → SM → List (List UInt8) → O7
  | [], M, L => ⟨0, M, L, ⟨[], [], []⟩⟩
  | ch :: C, M, L => bif !gt ch.nm M == ch.fr then ⟨35, M, L, ch⟩ else bif badC ch then ⟨20, M, L, ch⟩ else apOL C (putM ch.nm ch.tt M) (L ++ [ch.nm])
theorem apO_fnG (d : Ch) (C : List Ch) : ∀ k i M L, i + k = C.length → apO (fnG d C) k i M L = apOL (C.drop i) M L
  | 0, i, M, L, h => by rw [List.drop_eq_nil_of_le (by omega)]; rfl
  | k + 1, i, M, L, h => by
    rw [drop_fnG (d := d) (show i < C.length by omega)]
    unfold apO apOL
    rw [apO_fnG d C k (i + 1) _ _ (by omega)]
/-- What a fit row says of a name. -/
structure Says (A : List Pk) : Prop where
  ris : Ris (A.map (·.nm))
  wn : ∀ p, p ∈ A → word p.nm = true ∧ word p.vr = true
theorem word_ne {w : List UInt8} (h : word w = true) : w ≠ [] := ((word_iff w).1 h).2.1
theorem nmL_map (f : Nat → Pk) (n : Nat) : nmL f n 0 = (lsF f n 0).map (·.nm) := rfl
theorem mem_lsF (f : Nat → Pk) : ∀ k i p, p ∈ lsF f k i → ∃ j, i ≤ j ∧ j < i + k ∧ p = f j
  | 0, i, p, h => by simp [lsF] at h
  | k + 1, i, p, h => by
    rcases List.mem_cons.1 h with rfl | h
    · exact ⟨i, Nat.le_refl _, by omega, rfl⟩
    · obtain ⟨j, h1, h2, h3⟩ := mem_lsF f k (i + 1) p h
      exact ⟨j, by omega, by omega, h3⟩
theorem says_of_fit {f : Nat → Pk} {n : Nat} (h : fitK f n = true) : Says (lsF f n 0) := by
  refine ⟨ris_of_fit h, fun p hp => ?_⟩
  obtain ⟨j, h1, h2, rfl⟩ := mem_lsF f n 0 p hp
  have := (fit_iff f n).1 h j (by omega)
  unfold okK at this
  simp only [Bool.and_eq_true] at this
  exact ⟨this.1, this.2.1⟩
theorem gtL_some {A : List Pk} (h : Says A) {p : Pk} (hp : p ∈ A) : gtL p.nm A = p.vr := by
  obtain ⟨hr, hw⟩ := h
  unfold gtL
  clear hw
  induction A with
  | nil => simp at hp
  | cons a A ih =>
    rw [List.map_cons] at hr
    obtain ⟨h1, h2⟩ := List.pairwise_cons.1 hr
    rw [List.find?_cons]
    rcases List.mem_cons.1 hp with rfl | hp
    · rw [show (p.nm == p.nm) = true by simp]
    · have h3 := h1 p.nm (List.mem_map_of_mem hp)
      have : (p.nm == a.nm) = false := by
        rw [beq_eq_false_iff_ne]
        exact (less_asym h3).2
      rw [this]
      exact ih hp h2
theorem gtL_none {A : List Pk} {w : List UInt8} (hw : ¬ w ∈ A.map (·.nm)) : gtL w A = [] := by
  unfold gtL
  have : A.find? (fun p => w == p.nm) = none := by
    rw [List.find?_eq_none]
    intro p hp q
    have : w = p.nm := by simpa using q
    exact hw (by rw [this]; exact List.mem_map_of_mem hp)
  rw [this]
theorem gtL_word {A : List Pk} (h : Says A) (w : List UInt8) : (gtL w A = [] ∧ ¬ w ∈ A.map (·.nm)) ∨ (word (gtL w A) = true ∧ word w = true ∧ w ∈ A.map (·.nm)) := by
  by_cases hw : w ∈ A.map (·.nm)
  · right
    obtain ⟨p, hp, rfl⟩ := List.mem_map.1 hw
    rw [gtL_some h hp]
    exact ⟨(h.wn p hp).2, (h.wn p hp).1, hw⟩
  · exact .inl ⟨gtL_none hw, hw⟩
def cF (G H : List UInt8 → List UInt8) (w : List UInt8) : Option Ch := bif !G w == H w then some ⟨w, G w, H w⟩ else none
theorem ap_run (G H : List UInt8 → List UInt8) (hH : ∀ w, H w = [] ∨ word (H w) = true) : ∀ (U : List (List UInt8)) (M : SM) (L : List (List UInt8)), Ris U → (∀ w, w ∈ U → word w = true) → (∀ w, w ∈ U → gt w M = G w) →
    ∃ M', apOL (U.filterMap (cF G H)) M L = ⟨0, M', L ++ (U.filterMap (cF G H)).map (·.nm), ⟨[], [], []⟩⟩ ∧ ∀ w, gt w M' = if w ∈ U then H w else gt w M
  | [], M, L, _, _, _ => ⟨M, by simp [apOL], fun w => by simp⟩
  | u :: U, M, L, hr, hw, hM => by
    obtain ⟨h1, h2⟩ := List.pairwise_cons.1 hr
    have hnu : ∀ w, w ∈ U → w ≠ u := fun w hm => (less_asym (h1 w hm)).2
    rw [List.filterMap_cons]
    unfold cF
    cases hq : (!G u == H u) with
    | false =>
      have he : G u = H u := by simpa using hq
      obtain ⟨M', k1, k2⟩ := ap_run G H hH U M L h2 (fun w hm => hw w (by simp [hm])) (fun w hm => hM w (by simp [hm]))
      refine ⟨M', k1, fun w => ?_⟩
      rw [k2]
      by_cases hm : w ∈ U
      · rw [if_pos hm, if_pos (show w ∈ u :: U by simp [hm])]
      · rw [if_neg hm]
        by_cases e : w = u
        · subst e
          rw [if_pos (by simp), hM w (by simp), he]
        · rw [if_neg (by simp [e, hm])]
    | true =>
      have hu := hM u (by simp)
      obtain ⟨M', k1, k2⟩ := ap_run G H hH U (putM u (H u) M) (L ++ [u]) h2 (fun w hm => hw w (by simp [hm])) (fun w hm => by
        rw [gt_putM, show (w == u) = false by rw [beq_eq_false_iff_ne]; exact hnu w hm]
        exact hM w (by simp [hm]))
      refine ⟨M', ?_, fun w => ?_⟩
      · simp only [cond_true, List.map_cons]
        unfold apOL
        have hb : badC ⟨u, G u, H u⟩ = false := by
          unfold badC
          simp only [hw u (by simp), Bool.not_true, Bool.false_or]
          rcases hH u with e | e
          · rw [e]; rfl
          · rw [e]; simp
        rw [hb]
        simp only [hu, beq_self_eq_true, Bool.not_true, cond_false]
        refine k1.trans ?_
        unfold cF
        simp only [List.append_assoc, List.singleton_append]
      · rw [k2, gt_putM]
        by_cases hm : w ∈ U
        · rw [if_pos hm, if_pos (show w ∈ u :: U by simp [hm])]
        · rw [if_neg hm]
          by_cases e : w = u
          · subst e
            simp
          · rw [show (w == u) = false by rw [beq_eq_false_iff_ne]; exact e, if_neg (by simp [e, hm])]
            rfl
theorem fm_split (H : List UInt8 → List UInt8) : ∀ U : List (List UInt8), (U.filterMap fun w => bif !H w == [] then some (⟨w, H w⟩ : Pk) else none) = (U.filter fun w => !H w == []).map fun w => ⟨w, H w⟩
  | [] => rfl
  | u :: U => by
    rw [List.filterMap_cons, List.filter_cons, fm_split H U]
    cases (!H u == []) <;> rfl
/-- Changes done are the other plan. -/
theorem turn_law {n m : Nat} {f g : Nat → Pk} (hf : fitK f n = true) (hg : fitK g m = true) :
    apP n (dfL n m f g).length f (fnG CH.df (dfL n m f g)) = ⟨0, lsF g m 0⟩ := by
  have sf := says_of_fit hf
  have sg := says_of_fit hg
  unfold apP
  rw [hf, cond_true, apO_fnG CH.df (dfL n m f g) _ 0 _ _ (by omega), List.drop_zero]
  have hU : ∀ x, x ∈ unq (nm2 n m f g) ↔ x ∈ (lsF f n 0).map (·.nm) ∨ x ∈ (lsF g m 0).map (·.nm) := fun x => by
    rw [unq_mem]
    unfold nm2
    rw [List.mem_append, nmL_map, nmL_map]
  have hcf : chF (putB f n []) (putB g m []) = cF (fun w => gtL w (lsF f n 0)) (fun w => gtL w (lsF g m 0)) := by
    funext w
    unfold chF cF chN
    rw [gt_put, gt_put]
  obtain ⟨M', k1, k2⟩ := ap_run (fun w => gtL w (lsF f n 0)) (fun w => gtL w (lsF g m 0)) (fun w => by
      rcases gtL_word sg w with h | h
      · exact .inl h.1
      · exact .inr h.1) (unq (nm2 n m f g)) (putB f n []) (nmL f n 0) (unq_ris _) (fun w hm => by
      rcases (hU w).1 hm with h | h
      · rcases gtL_word sf w with q | q
        · exact absurd h q.2
        · exact q.2.1
      · rcases gtL_word sg w with q | q
        · exact absurd h q.2
        · exact q.2.1) (fun w hm => gt_put f n w)
  have hgt : ∀ w, gt w M' = gtL w (lsF g m 0) := fun w => by
    rw [k2]
    split
    · rfl
    · rename_i hm
      rw [gt_put, gtL_none (fun q => hm ((hU w).2 (.inl q))), gtL_none (fun q => hm ((hU w).2 (.inr q)))]
  have hd : dfL n m f g = (unq (nm2 n m f g)).filterMap (cF (fun w => gtL w (lsF f n 0)) (fun w => gtL w (lsF g m 0))) := by rw [dfL_eq, hcf]
  rw [hd, k1]
  simp only [Nat.beq_refl, cond_true]
  rw [apL_eq]
  congr 1
  have hpf : pkF M' = fun w => bif !gtL w (lsF g m 0) == [] then some (⟨w, gtL w (lsF g m 0)⟩ : Pk) else none := by
    funext w
    unfold pkF pkN
    rw [hgt]
  simp only
  rw [hpf, fm_split]
  have hfl : (unq (nmL f n 0 ++ ((unq (nm2 n m f g)).filterMap (cF (fun w => gtL w (lsF f n 0)) (fun w => gtL w (lsF g m 0)))).map (·.nm))).filter (fun w => !gtL w (lsF g m 0) == []) = (lsF g m 0).map (·.nm) := by
    refine ris_ext ((unq_ris _).filter _) sg.ris fun x => ?_
    rw [List.mem_filter, unq_mem, List.mem_append]
    constructor
    · rintro ⟨h1, h2⟩
      rcases gtL_word sg x with q | q
      · rw [q.1] at h2; simp at h2
      · exact q.2.2
    · intro hx
      rcases gtL_word sg x with q | q
      · exact absurd hx q.2
      · have hne := word_ne q.1
        refine ⟨?_, by simpa using hne⟩
        by_cases hxf : x ∈ (lsF f n 0).map (·.nm)
        · exact .inl hxf
        · right
          refine List.mem_map.2 ⟨⟨x, gtL x (lsF f n 0), gtL x (lsF g m 0)⟩, List.mem_filterMap.2 ⟨x, (hU x).2 (.inr hx), ?_⟩, rfl⟩
          unfold cF
          show (bif !gtL x (lsF f n 0) == gtL x (lsF g m 0) then some (⟨x, gtL x (lsF f n 0), gtL x (lsF g m 0)⟩ : Ch) else none) = _
          rw [gtL_none hxf, show (!([] : List UInt8) == gtL x (lsF g m 0)) = true by
            simp only [Bool.not_eq_true', beq_eq_false_iff_ne]
            exact fun q => hne q.symm]
          rfl
  rw [hfl, List.map_map]
  have : ∀ p, p ∈ lsF g m 0 → ((fun w => (⟨w, gtL w (lsF g m 0)⟩ : Pk)) ∘ (·.nm)) p = p := fun p hp => by
    show (⟨p.nm, gtL p.nm (lsF g m 0)⟩ : Pk) = p
    rw [gtL_some sg hp]
  calc _ = (lsF g m 0).map id := List.map_congr_left this
    _ = _ := List.map_id _
def swC (c : Ch) : Ch := ⟨c.nm, c.tt, c.fr⟩
theorem turn_swap (n m : Nat) (f g : Nat → Pk) : dfL m n g f = (dfL n m f g).map swC := by
  rw [dfL_eq, dfL_eq]
  have hU : unq (nm2 m n g f) = unq (nm2 n m f g) := ris_ext (unq_ris _) (unq_ris _) fun x => by
    rw [unq_mem, unq_mem]
    unfold nm2
    rw [List.mem_append, List.mem_append]
    exact Or.comm
  rw [hU, List.map_filterMap]
  congr 1
  funext w
  unfold chF
  generalize hA : gt w (putB f n []) = a
  generalize hB : gt w (putB g m []) = b
  unfold chN
  rw [hA, hB]
  by_cases e : a = b
  · subst e; simp
  · rw [show (a == b) = false by simpa using e, show (b == a) = false by simpa using Ne.symm e]
    rfl
theorem turn_self (n : Nat) (f : Nat → Pk) : dfL n n f f = [] := by
  rw [dfL_eq, List.filterMap_eq_nil_iff]
  intro w _
  unfold chF
  generalize gt w (putB f n []) = a
  rw [show (!a == a) = false by simp]
  rfl
end Go.Pln
namespace Go.Pln
open Go Go.Proofs Go.Ab
set_option maxRecDepth 100000
set_option linter.unusedVariables false
set_option linter.unusedSimpArgs false

/-! ### The law PlanTurns -/
def tur (x y : Nat → Ch) (i : Nat) : Bool := (x i).nm == (y i).nm && ((x i).fr == (y i).tt && ((x i).tt == (y i).fr && true))
structure Y5 where
  a : Nat
  x : Nat → Ch
  y : Nat → Ch
  i : Nat
def e5 : Y5 → List AV × Hp := fun ⟨a, x, y, i⟩ => ([.sl 3 a (rowG CH x), .sl 3 a (rowG CH y), .int .i64 a, .int .i64 i], [])
def d5 : List AV × Hp → Y5
  | ([.sl _ a x, .sl _ _ y, _, .int _ i], _) => ⟨a, unG CH x, unG CH y, i.toNat⟩
  | _ => ⟨0, fun _ => ⟨[], [], []⟩, fun _ => ⟨[], [], []⟩, 0⟩
theorem i5 : ∀ x, d5 (e5 x) = x := by
  rintro ⟨a, x, y, i⟩
  show (⟨a, unG CH (rowG CH x), unG CH (rowG CH y), i⟩ : Y5) = _
  rw [unG_rowG okCH, unG_rowG okCH]
def p5 : Y5 → Prop := fun ⟨a, x, y, i⟩ => i ≤ a ∧ a ≤ bnd ∧ ∀ j, j < a → tur x y j = true
noncomputable def o5 (a : Nat) (x y : Nat → Ch) : AX × St := (.exit 0, { tm := tmOf 95 [(5, .sl 3 a (rowG CH x)), (6, .sl 3 a (rowG CH y)), (68, .int .i64 a), (69, .int .i64 a), (70, .bool false)], ms := [], hp := [] })
noncomputable def r5 : Y5 → T (AX × St) := fun ⟨a, x, y, i⟩ => .leaf (o5 a x y)
noncomputable def L5 : LoopT := fun k => match Nat.beq k 800045 with
  | true => some (lccon (mbits 885443715538058477664 95) e5 d5 p5 r5)
  | false => none
theorem q5 (a i : Nat) (x y : Nat → Ch) : (rdn tabY h5 L5 5 0 0 { tm := encGo (mbits 885443715538058477664 95) [.sl 3 a (rowG CH x), .sl 3 a (rowG CH y), .int .i64 a, .int .i64 i], ms := [], hp := [] }).run =
  bif decide ((i : Int) < (a : Int)) then
   bif decide (0 ≤ (i : Int) ∧ (i : Int) < (a : Int)) then
    bif decide (0 ≤ (i : Int) ∧ (i : Int) < (a : Int)) then
     bif decide (0 ≤ (i : Int) ∧ (i : Int) < (a : Int)) then
      bif decide (0 ≤ (i : Int) ∧ (i : Int) < (a : Int)) then
       bif !tur x y (i : Int).toNat then some (.ret, { tm := tmOf 95 [(4, .bool false)], ms := [], hp := [] })
       else some (.normal, { tm := encGo (mbits 885443715538058477664 95) [.sl 3 a (rowG CH x), .sl 3 a (rowG CH y), .int .i64 a, .int .i64 (IntKind.i64.wrap ((i : Int) + 1))], ms := [], hp := [] })
      else none
     else none
    else none
   else none
  else some (.exit 0, { tm := tmOf 95 [(5, .sl 3 a (rowG CH x)), (6, .sl 3 a (rowG CH y)), (68, .int .i64 a), (69, .int .i64 i), (70, .bool false)], ms := [], hp := [] }) := by kernel_rfl
theorem l5 : LoopOk Try.prog tabY.pf (fun n => hd Try.prog tabY.pf tabY.con.run (fun f => (H0 f).to) n 9) h5.to 5 0 none L5 (loopAt Try.prog 5 0) := by
  rw [show loopAt Try.prog 5 0 = .loop (lbody Try.prog 5 0) by kernel_rfl]
  refine loop_c (hdT_le (m := 20) 9) (m := 20) (lv := mbits 885443715538058477664 95) (p := p5) (res := r5) i5 (within_of _ (by rw [show loopsOf (lbody Try.prog 5 0) = [] by kernel_rfl]; simp)) (by kernel_rfl) (fun ⟨a, x, y, i⟩ => a - i) ?_
  rintro ⟨a, x, y, i⟩ ⟨h1, h2, h3⟩
  have ht := q5 a i x y
  have hb := h2
  simp only [bnd] at hb
  by_cases hi : i < a
  · rw [decide_eq_true (show (i : Int) < a by omega), in_row hi, Int.toNat_natCast, w64n (by omega), h3 i hi] at ht
    left
    exact ⟨⟨a, x, y, i + 1⟩, ⟨by omega, h2, h3⟩, by simp only; omega, rfl, ht⟩
  · obtain rfl : i = a := by omega
    rw [decide_eq_false (show ¬ (i : Int) < i by omega)] at ht
    right
    exact ⟨o5 i x y, by simp [o5], rfl, ht⟩
noncomputable def in10 (n m : Nat) (f g : Nat → Pk) : Bool := isEn (fun x : X23 => [AV.sl 2 x.n (rowK x.f), AV.sl 2 x.m (rowK x.g)]) (fun x => x.n ≤ 1099511627776 ∧ x.m ≤ 1099511627776) [.sl 2 n (rowK f), .sl 2 m (rowK g)]
noncomputable def in7 (n m : Nat) (f : Nat → Pk) (c : Nat → Ch) : Bool := isEn (fun x : X7 => [AV.sl 2 x.n (rowK x.f), AV.sl 3 x.m (rowG CH x.c)]) (fun x => x.n ≤ 1099511627776 ∧ x.m ≤ 1099511627776) [.sl 2 n (rowK f), .sl 3 m (rowG CH c)]
noncomputable def in5 (a b : Nat) (x y : Nat → Ch) : Bool := isEn e5 p5 ([.sl 3 a (rowG CH x), .sl 3 b (rowG CH y), .int .i64 a, .int .i64 0], [])
noncomputable def no5 (n m : Nat) (f g : Nat → Pk) : Option (AV × Hp) :=
  bif isEn en17 p17 [.sl 2 n (rowK f)] then
   bif isEn en16 p16 [.sl 2 n (rowK f)] then
    bif fitK f n == fitK f n then
     bif isEn en17 p17 [.sl 2 m (rowK g)] then
      bif isEn en16 p16 [.sl 2 m (rowK g)] then
       bif fitK g m == fitK g m then some (.bool true, []) else some (.bool false, [])
      else none
     else none
    else some (.bool false, [])
   else none
  else none
noncomputable def yes5 (n m : Nat) (f g : Nat → Pk) (D D2 D3 : List Ch) : Option (AV × Hp) :=
  bif in7 n D.length f (fnG CH.df D) then
   bif ((apP n D.length f (fnG CH.df D)).e : Int) != 0 then some (.bool false, [])
   else bif isEn en12 p12 [.sl 2 (apP n D.length f (fnG CH.df D)).L.length (rowK (fnG CK.df (apP n D.length f (fnG CH.df D)).L)), .sl 2 m (rowK g)] then
    bif !eqK (fnG CK.df (apP n D.length f (fnG CH.df D)).L) g (apP n D.length f (fnG CH.df D)).L.length m then some (.bool false, [])
    else bif (D.length : Int) != (D2.length : Int) then some (.bool false, [])
    else bif in10 n n f f then
     bif (D3.length : Int) != 0 then some (.bool false, [])
     else bif in5 D.length D2.length (fnG CH.df D) (fnG CH.df D2) then some (.bool true, []) else none
    else none
   else none
  else none
theorem u5 (n m : Nat) (f g : Nat → Pk) : (evn tabY h5 L5 5 [.sl 2 n (rowK f), .sl 2 m (rowK g)] []).run =
  bif isEn en16 p16 [.sl 2 n (rowK f)] then
   bif !fitK f n then no5 n m f g
   else bif isEn en16 p16 [.sl 2 m (rowK g)] then
    bif !fitK g m then no5 n m f g
    else bif in10 n m f g then
     bif in10 m n g f then yes5 n m f g (dfL n m f g) (dfL m n g f) (dfL n n f f)
     else none
    else none
   else none
  else none := by kernel_rfl
theorem no5_ok (n m : Nat) (f g : Nat → Pk) (h1 : n ≤ bnd) (h2 : m ≤ bnd) : no5 n m f g = some (.bool true, []) := by
  unfold no5
  rw [k17 n f h1, k16 n f h1, k17 m g h2, k16 m g h2]
  simp
theorem tree5 (n m : Nat) (f g : Nat → Pk) (h1 : n ≤ 1048576) (h2 : m ≤ 1048576) : (evn tabY h5 L5 5 [.sl 2 n (rowK f), .sl 2 m (rowK g)] []).run = some (.bool true, []) := by
  have b1 : n ≤ bnd := by simp only [bnd]; omega
  have b2 : m ≤ bnd := by simp only [bnd]; omega
  refine (u5 n m f g).trans ?_
  rw [k16 n f b1, k16 m g b2, no5_ok n m f g b1 b2]
  simp only [cond_true]
  cases hf : fitK f n with
  | false => rfl
  | true =>
  cases hg : fitK g m with
  | false => rfl
  | true =>
  simp only [Bool.not_true, cond_false]
  have i1 : ∀ (n m : Nat) (f g : Nat → Pk), n ≤ 1048576 → m ≤ 1048576 → in10 n m f g = true := fun n m f g h1 h2 =>
    isEn_true (enc := fun x : X23 => [AV.sl 2 x.n (rowK x.f), AV.sl 2 x.m (rowK x.g)]) (p := fun x => x.n ≤ 1099511627776 ∧ x.m ≤ 1099511627776) ⟨n, m, f, g⟩ ⟨by simp only; omega, by simp only; omega⟩
  have hl := dfL_len n m f g
  have hs := turn_swap n m f g
  have i2 : in7 n (dfL n m f g).length f (fnG CH.df (dfL n m f g)) = true :=
    isEn_true (enc := fun x : X7 => [AV.sl 2 x.n (rowK x.f), AV.sl 3 x.m (rowG CH x.c)]) (p := fun x => x.n ≤ 1099511627776 ∧ x.m ≤ 1099511627776) ⟨n, _, f, _⟩ ⟨by simp only; omega, by simp only; omega⟩
  rw [i1 n m f g h1 h2, i1 m n g f h2 h1]
  unfold yes5
  rw [i2, i1 n n f f h1 h1, turn_law hf hg, turn_self n f]
  simp only [cond_true, lsF_len]
  have i3 : in5 (dfL n m f g).length (dfL m n g f).length (fnG CH.df (dfL n m f g)) (fnG CH.df (dfL m n g f)) = true := by
    rw [hs, List.length_map]
    refine isEn_true (enc := e5) (p := p5) ⟨(dfL n m f g).length, fnG CH.df (dfL n m f g), fnG CH.df ((dfL n m f g).map swC), 0⟩ ⟨Nat.zero_le _, by simp only [bnd]; omega, fun j hj => ?_⟩
    unfold tur
    rw [fnG_get hj, fnG_get (by rw [List.length_map]; exact hj), List.getElem_map]
    unfold swC
    simp
  rw [i3, k12 m _ m g (by simp only [bnd]; omega), eq_all (f := fnG CK.df (lsF g m 0)) (g := g) (n := m) fun i hi => by rw [fnG_lsF g _ m 0 i hi, Nat.zero_add]]
  rw [hs, List.length_map]
  simp
end Go.Pln

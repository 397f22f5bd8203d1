/- Lemmas for the claims of this seat (a verified symbolic evaluator, and contracts of functions): own work; no condition. -/
import Derived.Test.YtnhoihimdkpmnaaFnE
namespace Go.Pln
open Go Go.Proofs Go.Ab
set_option maxRecDepth 100000
set_option linter.unusedVariables false
set_option linter.unusedSimpArgs false

/-! ### names of two rows -/
noncomputable abbrev rws (n m : Nat) (f g : Nat → Pk) : Option AObj := some (.row 1 2 (rowF 1 [.sl 2 n (rowK f), .sl 2 m (rowK g)]))
open Classical in
noncomputable def rowOk (n m : Nat) (h : Nat → Nat → AV) : Bool := decide (0 = 0 ∧ n = m ∧ ∀ i, i < n → h i 0 = .str (strOf (h i 0)))
noncomputable def sc (o : Option AObj) (L : List (List UInt8)) : Option (AV × Hp) :=
  bif rowOk L.length L.length (strF L) then
   bif rowOk L.length L.length (strF (srtL (lstF (strF L) L.length))) then
    some (.row 1 1 0 (Lib.compact (lstF (strF (srtL (lstF (strF L) L.length))) L.length)).length, [o, some (.row 1 L.length (strF (cmpL (lstF (strF (srtL (lstF (strF L) L.length))) L.length))))])
   else none
  else none
noncomputable def in23 (l : AV) (n m : Nat) (f g : Nat → Pk) (ir : Int) (k : Nat) (h : Nat → Pk) (rows : Hp) : Bool :=
  isEn e23 p23 ([l, .row 0 1 0 2, .int .i64 2, .int .i64 ir, .sl 2 k (rowK h), .int .i64 k, .int .i64 0], rws n m f g :: rows)
noncomputable def two23 (n m : Nat) (f g : Nat → Pk) (l : AV) (rows : Hp) : Option (AV × Hp) :=
  bif in23 l n m f g 1 m g rows then
   bif (unHs rows ++ nmL (unK (rowK g)) (m - 0) 0).isEmpty then some (.nilsl, [rws n m f g])
   else sc (rws n m f g) (unHs rows ++ nmL (unK (rowK g)) (m - 0) 0)
  else none
theorem u23 (n m : Nat) (f g : Nat → Pk) : (evn tabO h23 L23 23 [.row 0 1 0 2] [rws n m f g]).run =
  bif in23 .nilsl n m f g 0 n f [] then
   bif ([] ++ nmL (unK (rowK f)) (n - 0) 0).isEmpty then two23 n m f g .nilsl []
   else two23 n m f g (.row 1 1 0 ([] ++ nmL (unK (rowK f)) (n - 0) 0).length) [some (.row 1 ([] ++ nmL (unK (rowK f)) (n - 0) 0).length (strF ([] ++ nmL (unK (rowK f)) (n - 0) 0)))]
  else none := by kernel_rfl
theorem rowOk_str (L : List (List UInt8)) (n : Nat) : rowOk n n (strF L) = true := by
  unfold rowOk
  simp only [decide_eq_true_eq]
  exact ⟨trivial, trivial, fun i hi => rfl⟩
theorem sc_eq (o : Option AObj) (L : List (List UInt8)) : sc o L = some (.row 1 1 0 (Lib.compact (srtL L)).length, [o, some (.row 1 L.length (strF (cmpL (srtL L))))]) := by
  unfold sc
  rw [rowOk_str, rowOk_str, lstF_strF]
  have h : lstF (strF (srtL L)) L.length = srtL L := by
    have := lstF_strF (srtL L)
    rwa [srtL_len] at this
  rw [h]
  rfl
theorem in23_ok {L : List (List UInt8)} {n m : Nat} {f g : Nat → Pk} {ir : Int} {k : Nat} {h : Nat → Pk} (h1 : k ≤ bnd) (h2 : L.length + k ≤ 8796093022208) : in23 (rAs 1 L) n m f g ir k h (rHs L) = true :=
  isEn_true (enc := e23) (p := p23) ⟨rAs 1 L, 2, rowF 1 [.sl 2 n (rowK f), .sl 2 m (rowK g)], 2, ir, k, h, 0, rHs L⟩ ⟨Nat.zero_le _, h1, L, rfl, rfl, by omega⟩
theorem nmL_len (f : Nat → Pk) (k i : Nat) : (nmL f k i).length = k := by
  unfold nmL
  rw [List.length_map, lsF_len]
structure X23 where
  n : Nat
  m : Nat
  f : Nat → Pk
  g : Nat → Pk
noncomputable def en23 : X23 → List AV × Hp := fun ⟨n, m, f, g⟩ => ([.row 0 1 0 2], [rws n m f g])
def de23 : List AV × Hp → X23
  | (_, [some (.row _ _ G)]) => match G 0 0, G 1 0 with
    | .sl _ n f, .sl _ m g => ⟨n, m, unK f, unK g⟩
    | _, _ => ⟨0, 0, fun _ => default, fun _ => default⟩
  | _ => ⟨0, 0, fun _ => default, fun _ => default⟩
def pr23 : X23 → Prop := fun ⟨n, m, f, g⟩ => n ≤ 4398046511104 ∧ m ≤ 4398046511104
def nm2 (n m : Nat) (f g : Nat → Pk) : List (List UInt8) := nmL f n 0 ++ nmL g m 0
noncomputable def rs23 : X23 → T (AV × Hp) := fun ⟨n, m, f, g⟩ =>
  .br (nm2 n m f g).isEmpty (.leaf (.nilsl, [rws n m f g])) (.leaf (.row 1 1 0 (Lib.compact (srtL (nm2 n m f g))).length, [rws n m f g, some (.row 1 (nm2 n m f g).length (strF (cmpL (srtL (nm2 n m f g)))))]))
theorem two_ok {n m : Nat} {f g : Nat → Pk} (L : List (List UInt8)) (h1 : m ≤ bnd) (h2 : L.length + m ≤ 8796093022208) : two23 n m f g (rAs 1 L) (rHs L) =
    bif (L ++ nmL g m 0).isEmpty then some (.nilsl, [rws n m f g]) else some (.row 1 1 0 (Lib.compact (srtL (L ++ nmL g m 0))).length, [rws n m f g, some (.row 1 (L ++ nmL g m 0).length (strF (cmpL (srtL (L ++ nmL g m 0)))))]) := by
  unfold two23
  rw [in23_ok h1 h2, unK_rowK, Nat.sub_zero, unHs_rHs, sc_eq]
  rfl
theorem s23n : Sound1 Try.prog ⟨23, false, gcon (mcon en23 de23 pr23 rs23)⟩ := by
  refine sound_cm (m := 20) (k := 9) (hn := h23) (Λ := L23) (soundTab_of all_tabO) (enc := en23) (dec := de23) (p := pr23) (res := rs23) (fun ⟨n, m, f, g⟩ => rfl) (fun ⟨n, m, f, g⟩ hp i hi => ?_) ?_
  · have hl : (loopsOf (bodyOf Try.prog 23)).length = 2 := by kernel_rfl
    rcases (by omega : i = 0 ∨ i = 1) with rfl | rfl
    · rw [show loopAt Try.prog 23 0 = .loop (lbody Try.prog 23 0) by kernel_rfl]
      intro l hl
      rw [show lkey (lbody Try.prog 23 0) = 300049 by kernel_rfl] at hl
      cases hl
    · exact l23
  · rintro ⟨n, m, f, g⟩ ⟨h1, h2⟩ hF hH
    refine (u23 n m f g).trans ?_
    have ha : in23 .nilsl n m f g 0 n f [] = true := in23_ok (L := []) (by simp only [bnd]; omega) (by simp only [List.length_nil]; omega)
    have h3 := two_ok (n := n) (m := m) (f := f) (g := g) (nmL f n 0) (by simp only [bnd]; omega) (by rw [nmL_len]; omega)
    rw [ha, unK_rowK, Nat.sub_zero, List.nil_append]
    simp only [rs23, T.run_br, T.run_leaf, nm2]
    revert h3
    generalize nmL f n 0 = L
    intro h3
    cases L with
    | nil => rw [cond_eq_ite] at h3; exact h3
    | cons x L => rw [cond_eq_ite] at h3; exact h3
noncomputable def tabQ : Tab := ⟨23, false, gcon (mcon en23 de23 pr23 rs23)⟩ :: tabO
theorem all_tabQ : ∀ e, e ∈ tabQ → Sound1 Try.prog e := sound_mem_tab s23n all_tabO
end Go.Pln
namespace Go.Pln
open Go Go.Proofs Go.Ab
set_option maxRecDepth 100000
set_option linter.unusedVariables false
set_option linter.unusedSimpArgs false

/-! ### Diff's loop -/
structure Ch where
  nm : List UInt8
  fr : List UInt8
  tt : List UInt8
def CH : Cel Ch := ⟨3, fun p => [.str p.nm, .str p.fr, .str p.tt], fun g => ⟨strOf (g 0), strOf (g 1), strOf (g 2)⟩, ⟨[], [], []⟩⟩
theorem okCH : CH.Ok := ⟨fun a => rfl, fun a => rfl, by decide⟩
def gt (k : List UInt8) (m : List (List UInt8 × List UInt8)) : List UInt8 := (lookM k m).getD []
noncomputable def s10 (l : AV) (nb : Nat) (k : Nat) (i : Int) (x y : List (List UInt8 × List UInt8)) (rows : Hp) (N : Nat) (W : List (List UInt8)) : St :=
  { tm := encGo (mbits 917728 43) [.map 0, .map 1, l, .row nb 1 0 k, .int .i64 k, .int .i64 i], ms := [], hp := some (.smap x) :: some (.smap y) :: (rows ++ [some (.row 1 N (strF W))]) }
theorem t10a (Λ0 : LoopT) (x y : List (List UInt8 × List UInt8)) (W : List (List UInt8)) (k N i : Nat) : (rdn tabQ h10 Λ0 10 0 0 (s10 .nilsl 2 k i x y [] N W)).run =
  bif decide ((i : Int) < (k : Int)) then
   bif decide (0 ≤ (i : Int) ∧ (i : Int) < (k : Int)) then
    bif decide (0 + (i : Int).toNat < N) then
     bif !gt (W.getD (0 + (i : Int).toNat) []) x == gt (W.getD (0 + (i : Int).toNat) []) y then
      some (.normal, s10 (.row 2 3 0 1) 3 k (IntKind.i64.wrap ((i : Int) + 1)) x y [some (.row 3 1 fun j => rowF 3 [.str (W.getD (0 + (i : Int).toNat) []), .str (gt (W.getD (0 + (i : Int).toNat) []) x), .str (gt (W.getD (0 + (i : Int).toNat) []) y)] (0 + j))] N W)
     else some (.normal, s10 .nilsl 2 k (IntKind.i64.wrap ((i : Int) + 1)) x y [] N W)
    else none
   else none
  else some (.exit 0, { tm := tmOf 43 [(5, .map 0), (6, .map 1), (7, .nilsl), (17, .row 2 1 0 k), (18, .int .i64 k), (19, .int .i64 i), (20, .bool false)], ms := [], hp := [some (.smap x), some (.smap y), some (.row 1 N (strF W))] }) := by kernel_rfl
theorem t10b (Λ0 : LoopT) (x y : List (List UInt8 × List UInt8)) (W : List (List UInt8)) (k N i c : Nat) (h : Nat → Nat → AV) : (rdn tabQ h10 Λ0 10 0 0 (s10 (.row 2 3 0 c) 3 k i x y [some (.row 3 c h)] N W)).run =
  bif decide ((i : Int) < (k : Int)) then
   bif decide (0 ≤ (i : Int) ∧ (i : Int) < (k : Int)) then
    bif decide (0 + (i : Int).toNat < N) then
     bif !gt (W.getD (0 + (i : Int).toNat) []) x == gt (W.getD (0 + (i : Int).toNat) []) y then
      bif decide (c = c) then
       bif decide ((c + 1) * 48 ≤ 140737488355328 ∧ c + 1 ≤ 4611686018427387903) then
        some (.normal, s10 (.row 2 3 0 (c + 1)) 3 k (IntKind.i64.wrap ((i : Int) + 1)) x y [some (.row 3 (c + 1) (appF c h fun j => rowF 3 [.str (W.getD (0 + (i : Int).toNat) []), .str (gt (W.getD (0 + (i : Int).toNat) []) x), .str (gt (W.getD (0 + (i : Int).toNat) []) y)] (0 + j)))] N W)
       else none
      else none
     else some (.normal, s10 (.row 2 3 0 c) 3 k (IntKind.i64.wrap ((i : Int) + 1)) x y [some (.row 3 c h)] N W)
    else none
   else none
  else some (.exit 0, { tm := tmOf 43 [(5, .map 0), (6, .map 1), (7, .row 2 3 0 c), (17, .row 3 1 0 k), (18, .int .i64 k), (19, .int .i64 i), (20, .bool false)], ms := [], hp := [some (.smap x), some (.smap y), some (.row 3 c h), some (.row 1 N (strF W))] }) := by kernel_rfl
abbrev SM := List (List UInt8 × List UInt8)
def chN (w : List UInt8) (x y : SM) : Ch := ⟨w, gt w x, gt w y⟩
def chL (x y : SM) (W : List (List UInt8)) : Nat → Nat → List Ch
  | 0, _ => []
  | m + 1, i => bif !gt (W.getD i []) x == gt (W.getD i []) y then chN (W.getD i []) x y :: chL x y W m (i + 1) else chL x y W m (i + 1)
def nbL : List Ch → Nat
  | [] => 2
  | _ :: _ => 3
noncomputable def sL (L : List Ch) (k : Nat) (i : Int) (x y : SM) (N : Nat) (W : List (List UInt8)) : St := s10 (rAG CH 2 L) (nbL L) k i x y (rHG CH L) N W
noncomputable def o10 (L : List Ch) (k : Nat) (x y : SM) (N : Nat) (h : Nat → Nat → AV) : AX × St :=
  (.exit 0, { tm := tmOf 43 [(5, .map 0), (6, .map 1), (7, rAG CH 2 L), (17, .row (nbL L) 1 0 k), (18, .int .i64 k), (19, .int .i64 k), (20, .bool false)], ms := [], hp := some (.smap x) :: some (.smap y) :: (rHG CH L ++ [some (.row 1 N h)]) })
theorem t10 (Λ0 : LoopT) (L : List Ch) (k i : Nat) (x y : SM) (N : Nat) (W : List (List UInt8)) (h1 : i ≤ k) (h2 : k ≤ N) (h3 : N ≤ bnd) (h4 : L.length + (k - i) ≤ 2932031007402) :
    (rdn tabQ h10 Λ0 10 0 0 (sL L k i x y N W)).run = bif decide (i < k) then
      some (.normal, sL (bif !gt (W.getD i []) x == gt (W.getD i []) y then L ++ [chN (W.getD i []) x y] else L) k ((i + 1 : Nat) : Int) x y N W)
    else some (o10 L k x y N (strF W)) := by
  simp only [bnd] at h3
  by_cases hi : i < k
  · rw [decide_eq_true hi, cond_true]
    cases L with
    | nil =>
      refine (t10a Λ0 x y W k N i).trans ?_
      rw [decide_eq_true (show (i : Int) < k by omega), in_row hi, Int.toNat_natCast, w64n (by omega), Nat.zero_add, decide_eq_true (show i < N by omega)]
      cases (!gt (W.getD i []) x == gt (W.getD i []) y) with
      | false => rfl
      | true =>
        have e : (fun j => rowF 3 [AV.str (W.getD i []), AV.str (gt (W.getD i []) x), AV.str (gt (W.getD i []) y)] (0 + j)) = rowG CH (fnR CH.df ([] ++ [chN (W.getD i []) x y])) := rowF_first okCH CH.df rfl
        rw [e]
        rfl
    | cons a L =>
      refine (t10b Λ0 x y W k N i (L.length + 1) (rowG CH (fnR CH.df (a :: L)))).trans ?_
      simp only [List.length_cons] at h4
      rw [decide_eq_true (show (i : Int) < k by omega), in_row hi, Int.toNat_natCast, w64n (by omega), Nat.zero_add, decide_eq_true (show i < N by omega)]
      cases (!gt (W.getD i []) x == gt (W.getD i []) y) with
      | false => rfl
      | true =>
        rw [decide_eq_true rfl, decide_eq_true (show (L.length + 1 + 1) * 48 ≤ 140737488355328 ∧ L.length + 1 + 1 ≤ 4611686018427387903 by omega)]
        have e : appF (L.length + 1) (rowG CH (fnR CH.df (a :: L))) (fun j => rowF 3 [AV.str (W.getD i []), AV.str (gt (W.getD i []) x), AV.str (gt (W.getD i []) y)] (0 + j)) = rowG CH (fnR CH.df (a :: L ++ [chN (W.getD i []) x y])) := appG_push okCH CH.df (a :: L) rfl
        rw [e]
        simp only [cond_true, sL]
        rw [rAG_push, rHG_push]
        rfl
  · obtain rfl : i = k := by omega
    rw [decide_eq_false hi, cond_false]
    cases L with
    | nil =>
      refine (t10a Λ0 x y W i N i).trans ?_
      rw [decide_eq_false (show ¬ (i : Int) < i by omega)]
      rfl
    | cons a L =>
      refine (t10b Λ0 x y W i N i (L.length + 1) (rowG CH (fnR CH.df (a :: L)))).trans ?_
      rw [decide_eq_false (show ¬ (i : Int) < i by omega)]
      rfl
structure Y10 where
  l : AV
  nv : AV
  k : Nat
  i : Nat
  x : SM
  y : SM
  rest : Hp
def e10 : Y10 → List AV × Hp := fun ⟨l, nv, k, i, x, y, rest⟩ => ([.map 0, .map 1, l, nv, .int .i64 k, .int .i64 i], some (.smap x) :: some (.smap y) :: rest)
def d10 : List AV × Hp → Y10
  | ([_, _, l, nv, .int _ k, .int _ i], some (.smap x) :: some (.smap y) :: rest) => ⟨l, nv, k.toNat, i.toNat, x, y, rest⟩
  | _ => ⟨.junk, .junk, 0, 0, [], [], []⟩
theorem i10 : ∀ x, d10 (e10 x) = x := by
  rintro ⟨l, nv, k, i, x, y, rest⟩
  rfl
def p10 : Y10 → Prop := fun ⟨l, nv, k, i, x, y, rest⟩ => (nv = .nilsl ∧ l = .nilsl ∧ k = 0 ∧ i = 0 ∧ rest = []) ∨ (i ≤ k ∧ ∃ L W, l = rAG CH 2 L ∧ nv = .row (nbL L) 1 0 k ∧ rest = rHG CH L ++ [some (.row 1 W.length (strF W))] ∧ k ≤ W.length ∧ W.length ≤ bnd ∧ L.length + (k - i) ≤ 2932031007402)
def unL10 : Hp → List Ch
  | [_] => []
  | r :: _ => unHG CH [r]
  | [] => []
def unW10 : Hp → Nat × (Nat → Nat → AV)
  | [some (.row _ n h)] => (n, h)
  | [_, some (.row _ n h)] => (n, h)
  | _ => (0, fun _ _ => .junk)
theorem unL10_eq (L : List Ch) (N : Nat) (h : Nat → Nat → AV) : unL10 (rHG CH L ++ [some (.row 1 N h)]) = L := by
  cases L with
  | nil => rfl
  | cons a L => exact unHG_rHG okCH (a :: L)
theorem unW10_eq (L : List Ch) (N : Nat) (h : Nat → Nat → AV) : unW10 (rHG CH L ++ [some (.row 1 N h)]) = (N, h) := by
  cases L <;> rfl
noncomputable def fin10 (k : Nat) (x y : SM) (N : Nat) (h : Nat → Nat → AV) (L : List Ch) : T (AX × St) :=
  .br L.isEmpty (.leaf (.exit 0, { tm := tmOf 43 [(5, .map 0), (6, .map 1), (7, .nilsl), (17, .row 2 1 0 k), (18, .int .i64 k), (19, .int .i64 k), (20, .bool false)], ms := [], hp := [some (.smap x), some (.smap y), some (.row 1 N h)] }))
    (.leaf (.exit 0, { tm := tmOf 43 [(5, .map 0), (6, .map 1), (7, .row 2 3 0 L.length), (17, .row 3 1 0 k), (18, .int .i64 k), (19, .int .i64 k), (20, .bool false)], ms := [], hp := [some (.smap x), some (.smap y), some (.row 3 L.length (rowG CH (fnR CH.df L))), some (.row 1 N h)] }))
theorem fin10_run (k : Nat) (x y : SM) (N : Nat) (h : Nat → Nat → AV) (L : List Ch) : (fin10 k x y N h L).run = some (o10 L k x y N h) := by
  cases L <;> rfl
noncomputable def z10 (x y : SM) : AX × St := (.exit 0, { tm := tmOf 43 [(5, .map 0), (6, .map 1), (7, .nilsl), (17, .nilsl), (18, .int .i64 0), (19, .int .i64 0), (20, .bool false)], ms := [], hp := [some (.smap x), some (.smap y)] })
theorem tz10 (Λ0 : LoopT) (x y : SM) : (rdn tabQ h10 Λ0 10 0 0 { tm := encGo (mbits 917728 43) [.map 0, .map 1, .nilsl, .nilsl, .int .i64 0, .int .i64 0], ms := [], hp := [some (.smap x), some (.smap y)] }).run = some (z10 x y) := by kernel_rfl
noncomputable def r10 : Y10 → T (AX × St) := fun ⟨l, nv, k, i, x, y, rest⟩ =>
  match nv with
  | .nilsl => .leaf (z10 x y)
  | _ => fin10 k x y (unW10 rest).1 (unW10 rest).2 (unL10 rest ++ chL x y (lstF (unW10 rest).2 (unW10 rest).1) (k - i) i)
noncomputable def L10 : LoopT := fun k => match Nat.beq k 400041 with
  | true => some (lccon (mbits 917728 43) e10 d10 p10 r10)
  | false => none
theorem chL_step (x y : SM) (W : List (List UInt8)) {k i : Nat} (h : i < k) : chL x y W (k - i) i = bif !gt (W.getD i []) x == gt (W.getD i []) y then chN (W.getD i []) x y :: chL x y W (k - (i + 1)) (i + 1) else chL x y W (k - (i + 1)) (i + 1) := by
  obtain ⟨m, hm⟩ : ∃ m, k - i = m + 1 := ⟨k - i - 1, by omega⟩
  rw [hm, show k - (i + 1) = m by omega]
  rfl
theorem l10 : LoopOk Try.prog tabQ.pf (fun n => hd Try.prog tabQ.pf tabQ.con.run (fun f => (H0 f).to) n 9) h10.to 10 0 none L10 (loopAt Try.prog 10 0) := by
  rw [show loopAt Try.prog 10 0 = .loop (lbody Try.prog 10 0) by kernel_rfl]
  refine loop_c (hdT_le (m := 20) 9) (m := 20) (lv := mbits 917728 43) (p := p10) (res := r10) i10 (within_of _ (by rw [show loopsOf (lbody Try.prog 10 0) = [] by kernel_rfl]; simp)) (by kernel_rfl) (fun ⟨l, nv, k, i, x, y, rest⟩ => k - i) ?_
  rintro ⟨l, nv, k, i, x, y, rest⟩ (⟨rfl, rfl, rfl, rfl, rfl⟩ | ⟨h1, L, W, rfl, rfl, rfl, h2, h3, h4⟩)
  · right
    exact ⟨z10 x y, by simp [z10], rfl, tz10 L10 x y⟩
  have ht : (rdn tabQ h10 L10 10 0 0 (sL L k i x y W.length W)).run = _   := t10 L10 L k i x y W.length W h1 h2 h3 h4
  have hW := lstF_strF W
  by_cases hi : i < k
  · rw [decide_eq_true hi, cond_true] at ht
    left
    refine ⟨⟨rAG CH 2 (bif !gt (W.getD i []) x == gt (W.getD i []) y then L ++ [chN (W.getD i []) x y] else L), AV.row (nbL (bif !gt (W.getD i []) x == gt (W.getD i []) y then L ++ [chN (W.getD i []) x y] else L)) 1 0 k, k, i + 1, x, y, rHG CH (bif !gt (W.getD i []) x == gt (W.getD i []) y then L ++ [chN (W.getD i []) x y] else L) ++ [some (AObj.row 1 W.length (strF W))]⟩,
      .inr ⟨by omega, _, W, rfl, rfl, rfl, h2, h3, ?_⟩, by simp only; omega, ?_, ht⟩
    · cases (!gt (W.getD i []) x == gt (W.getD i []) y)
      · simp only [cond_false]; omega
      · simp only [cond_true, List.length_append, List.length_cons, List.length_nil]; omega
    · simp only [r10, unL10_eq, unW10_eq, hW]
      rw [chL_step x y W hi]
      cases (!gt (W.getD i []) x == gt (W.getD i []) y)
      · rfl
      · simp only [cond_true, List.append_assoc, List.singleton_append]
  · obtain rfl : i = k := by omega
    rw [decide_eq_false hi, cond_false] at ht
    right
    refine ⟨_, ?_, ?_, ht⟩
    · simp [o10]
    · simp only [r10, unL10_eq, unW10_eq, Nat.sub_self]
      rw [show chL x y (lstF (strF W) W.length) 0 i = [] from rfl, List.append_nil]
      exact fin10_run i x y W.length (strF W) L
end Go.Pln
namespace Go.Pln
open Go Go.Proofs Go.Ab
set_option maxRecDepth 100000
set_option linter.unusedVariables false
set_option linter.unusedSimpArgs false

/-! ### Diff -/
noncomputable def fin (L : List Ch) : Option (AV × Hp) :=
  bif L.isEmpty then some (.nilsl, []) else some (.row 0 3 0 L.length, [some (.row 3 L.length (rowG CH (fnR CH.df L)))])
noncomputable def lp10 (x y : SM) (U : List (List UInt8)) : Option (AV × Hp) :=
  bif U.isEmpty then
   bif isEn e10 p10 ([.map 0, .map 1, .nilsl, .nilsl, .int .i64 0, .int .i64 0], [some (.smap x), some (.smap y)]) then some (.nilsl, []) else none
  else
   bif isEn e10 p10 ([.map 0, .map 1, .nilsl, .row 2 1 0 (Lib.compact (srtL U)).length, .int .i64 (Lib.compact (srtL U)).length, .int .i64 0], [some (.smap x), some (.smap y), some (.row 1 U.length (strF (cmpL (srtL U))))]) then
    fin (chL x y (lstF (strF (cmpL (srtL U))) U.length) ((Lib.compact (srtL U)).length - 0) 0)
   else none
theorem u10 (n m : Nat) (f g : Nat → Pk) : (evn tabQ h10 L10 10 [.sl 2 n (rowK f), .sl 2 m (rowK g)] []).run =
  bif isEn en22 p22 ([.sl 2 n (rowK f)], []) then
   bif isEn en22 p22 ([.sl 2 m (rowK g)], []) then
    bif isEn en23 pr23 ([.row 0 1 0 2], [rws n m f g]) then
     lp10 (putB (unK (rowK f)) n []) (putB (unK (rowK g)) m []) (nm2 n m (unK (rowK f)) (unK (rowK g)))
    else none
   else none
  else none := by kernel_rfl
/-- What Diff tells. -/
def dfL (n m : Nat) (f g : Nat → Pk) : List Ch := chL (putB f n []) (putB g m []) (cmpL (srtL (nm2 n m f g))) (Lib.compact (srtL (nm2 n m f g))).length 0
theorem lp10_ok (x y : SM) (U : List (List UInt8)) (h : U.length ≤ 2932031007402) : lp10 x y U = fin (chL x y (cmpL (srtL U)) (Lib.compact (srtL U)).length 0) := by
  have hl : (cmpL (srtL U)).length = U.length := by rw [cmpL_len, srtL_len]
  have hc := compact_le (srtL U)
  rw [srtL_len] at hc
  unfold lp10
  cases hU : U.isEmpty with
  | true =>
    obtain rfl : U = [] := by simpa using hU
    rw [show isEn e10 p10 ([.map 0, .map 1, .nilsl, .nilsl, .int .i64 0, .int .i64 0], [some (.smap x), some (.smap y)]) = true from isEn_true (enc := e10) (p := p10) ⟨.nilsl, .nilsl, 0, 0, x, y, []⟩ (.inl ⟨rfl, rfl, rfl, rfl, rfl⟩)]
    have h0 : (Lib.compact (srtL [])).length = 0 := by simpa using hc
    rw [h0]
    rfl
  | false =>
    have he : isEn e10 p10 ([.map 0, .map 1, .nilsl, .row 2 1 0 (Lib.compact (srtL U)).length, .int .i64 (Lib.compact (srtL U)).length, .int .i64 0], [some (.smap x), some (.smap y), some (.row 1 U.length (strF (cmpL (srtL U))))]) = true := by
      rw [← hl]
      exact isEn_true (enc := e10) (p := p10) ⟨.nilsl, .row 2 1 0 (Lib.compact (srtL U)).length, (Lib.compact (srtL U)).length, 0, x, y, [some (.row 1 (cmpL (srtL U)).length (strF (cmpL (srtL U))))]⟩
        (.inr ⟨Nat.zero_le _, [], cmpL (srtL U), rfl, rfl, rfl, by omega, by simp only [bnd]; omega, by simp only [List.length_nil]; omega⟩)
    rw [he, ← hl, lstF_strF, Nat.sub_zero]
    rfl
noncomputable def c10 : List AV → T AV := ccon (fun x : X23 => [.sl 2 x.n (rowK x.f), .sl 2 x.m (rowK x.g)]) (fun l => match l with
    | [.sl _ n f, .sl _ m g] => ⟨n, m, unK f, unK g⟩
    | _ => ⟨0, 0, fun _ => default, fun _ => default⟩) (fun x => x.n ≤ 1099511627776 ∧ x.m ≤ 1099511627776) (fun x => .leaf (.sl 3 (dfL x.n x.m x.f x.g).length (rowG CH (fnG CH.df (dfL x.n x.m x.f x.g)))))
theorem s10d : Sound1 Try.prog ⟨10, true, pcon c10⟩ := by
  refine sound_cfW (m := 20) (k := 9) (hn := h10) (Λ := L10) (soundTab_of all_tabQ) H0 (fun ⟨n, m, f, g⟩ => rfl) (.rows 3) (oneLoop (by kernel_rfl) l10) ?_
  rintro ⟨n, m, f, g⟩ ⟨h1, h2⟩ hF
  simp only at h1 h2
  have ht := u10 n m f g
  have e1 : isEn en22 p22 ([.sl 2 n (rowK f)], []) = true := isEn_true (enc := en22) (p := p22) ⟨n, f⟩ (show n ≤ bnd by simp only [bnd]; omega)
  have e2 : isEn en22 p22 ([.sl 2 m (rowK g)], []) = true := isEn_true (enc := en22) (p := p22) ⟨m, g⟩ (show m ≤ bnd by simp only [bnd]; omega)
  have e3 : isEn en23 pr23 ([.row 0 1 0 2], [rws n m f g]) = true := isEn_true (enc := en23) (p := pr23) ⟨n, m, f, g⟩ ⟨by omega, by omega⟩
  rw [e1, e2, e3, unK_rowK, unK_rowK, lp10_ok _ _ _ (by unfold nm2; rw [List.length_append, nmL_len, nmL_len]; omega)] at ht
  simp only [cond_true] at ht
  replace ht : (evn tabQ h10 L10 10 [.sl 2 n (rowK f), .sl 2 m (rowK g)] []).run = fin (dfL n m f g) := ht
  rw [ht]
  generalize hL : dfL n m f g = L
  cases L with
  | nil =>
    refine ⟨.sl 3 0 (strF []), .sl 3 ([] : List Ch).length (rowG CH (fnG CH.df [])), rfl, ?_, AW.slice fun i c hi hc => by omega⟩
    rfl
  | cons a L =>
    refine ⟨.sl 3 (L.length + 1) (rowG CH (fnR CH.df (a :: L))), .sl 3 (a :: L).length (rowG CH (fnG CH.df (a :: L))), ?_, ?_, row_awG (C := CH) (listG_fnR CH.df (a :: L))⟩
    · show frz (.rows 3) [some (.row 3 (L.length + 1) (rowG CH (fnR CH.df (a :: L))))] (.row 0 3 0 (L.length + 1)) = _
      show (if 3 = 3 ∧ 3 = 3 ∧ 0 + (L.length + 1) ≤ L.length + 1 then _ else none) = _
      rw [if_pos ⟨rfl, rfl, by omega⟩]
      rfl
    · rfl
noncomputable def tabR : Tab := ⟨10, true, pcon c10⟩ :: tabQ
theorem all_tabR : ∀ e, e ∈ tabR → Sound1 Try.prog e := sound_mem_tab s10d all_tabQ
end Go.Pln
namespace Go.Pln
open Go Go.Proofs Go.Ab
set_option maxRecDepth 100000
set_option linter.unusedVariables false
set_option linter.unusedSimpArgs false

/-! ### Plain: texts sorted, each once -/
theorem less_trans : ∀ {a b c : List UInt8}, abytesLess a b = true → abytesLess b c = true → abytesLess a c = true
  | [], [], _, h, _ => by simp [abytesLess] at h
  | [], _ :: _, [], _, h => by simp [abytesLess] at h
  | [], _ :: _, _ :: _, _, _ => rfl
  | _ :: _, [], _, h, _ => by simp [abytesLess] at h
  | _ :: _, _ :: _, [], _, h => by simp [abytesLess] at h
  | a :: x, b :: y, c :: z, h1, h2 => by
    simp only [abytesLess, Bool.or_eq_true, Bool.and_eq_true, decide_eq_true_eq, beq_iff_eq, UInt8.lt_iff_toNat_lt] at *
    rcases h1 with h1 | ⟨rfl, h1⟩
    · left
      rcases h2 with h2 | ⟨rfl, h2⟩ <;> omega
    · rcases h2 with h2 | ⟨rfl, h2⟩
      · left; exact h2
      · right; exact ⟨rfl, less_trans h1 h2⟩
theorem less_irr (a : List UInt8) : abytesLess a a = false := by
  cases h : abytesLess a a with
  | false => rfl
  | true => exact absurd rfl (less_asym h).2
theorem lt_less : ∀ a b : List UInt8, a < b ↔ abytesLess a b = true
  | [], [] => by simp [abytesLess]
  | _ :: _, [] => by simp [abytesLess]
  | [], _ :: _ => by simp [abytesLess]
  | a :: x, b :: y => by
    rw [List.cons_lt_cons_iff, lt_less x y]
    simp [abytesLess]
theorem le_less (a b : List UInt8) : decide (a ≤ b) = !abytesLess b a := by
  have h : a ≤ b ↔ ¬ b < a := Iff.rfl
  rw [Bool.eq_iff_iff, decide_eq_true_eq, h, lt_less]
  simp
theorem le_trans' {a b c : List UInt8} (h1 : abytesLess b a = false) (h2 : abytesLess c b = false) : abytesLess c a = false := by
  cases h : abytesLess c a with
  | false => rfl
  | true =>
    by_cases e : a = b
    · subst e; rw [h] at h2; cases h2
    · have h3 := less_or h1 (Ne.symm e)
      have h4 := less_trans h h3
      rw [h4] at h2; cases h2
/-- Strictly rising. -/
abbrev Ris (l : List (List UInt8)) : Prop := l.Pairwise fun a b => abytesLess a b = true
theorem ris_ext : ∀ {l m : List (List UInt8)}, Ris l → Ris m → (∀ x, x ∈ l ↔ x ∈ m) → l = m
  | [], [], _, _, _ => rfl
  | [], b :: m, _, _, h => absurd ((h b).2 (by simp)) (by simp)
  | a :: l, [], _, _, h => absurd ((h a).1 (by simp)) (by simp)
  | a :: l, b :: m, h1, h2, h => by
    obtain ⟨h1a, h1b⟩ := List.pairwise_cons.1 h1
    obtain ⟨h2a, h2b⟩ := List.pairwise_cons.1 h2
    have hab : a = b := by
      rcases List.mem_cons.1 ((h a).1 (by simp)) with e | e
      · exact e
      · rcases List.mem_cons.1 ((h b).2 (by simp)) with e2 | e2
        · exact e2.symm
        · have k1 := h2a a e
          have k2 := h1a b e2
          rw [(less_asym k1).1] at k2; cases k2
    subst hab
    rw [ris_ext h1b h2b fun x => ?_]
    constructor
    · intro hx
      rcases List.mem_cons.1 ((h x).1 (by simp [hx])) with rfl | e
      · have := h1a x hx
        rw [less_irr] at this; cases this
      · exact e
    · intro hx
      rcases List.mem_cons.1 ((h x).2 (by simp [hx])) with rfl | e
      · have := h2a x hx
        rw [less_irr] at this; cases this
      · exact e
theorem srt_pw (l : List (List UInt8)) : (srtL l).Pairwise fun a b => abytesLess b a = false := by
  have h := List.pairwise_mergeSort (le := fun x y : List UInt8 => decide (x ≤ y)) (fun a b c h1 h2 => by
      simp only [le_less, Bool.not_eq_true'] at *
      exact le_trans' h1 h2) (fun a b => by
      simp only [le_less, Bool.or_eq_true, Bool.not_eq_true']
      cases h : abytesLess b a with
      | false => exact .inl rfl
      | true => exact .inr (less_asym h).1) l
  unfold srtL
  exact h.imp fun h => by simpa only [le_less, Bool.not_eq_true'] using h
theorem srt_mem (l : List (List UInt8)) (x : List UInt8) : x ∈ srtL l ↔ x ∈ l := by
  unfold srtL
  exact List.mem_mergeSort
theorem comp_inv (d : Array (List UInt8)) (hs : ∀ i j, i < j → j < d.size → abytesLess d[j]! d[i]! = false) : ∀ m, m ≤ d.size →
    Ris (Lib.compactUpTo d m) ∧ ∀ x, x ∈ Lib.compactUpTo d m ↔ ∃ j, j < m ∧ d[j]! = x
  | 0, _ => ⟨by unfold Lib.compactUpTo; simp, fun x => by unfold Lib.compactUpTo; simp⟩
  | m + 1, hm => by
    obtain ⟨h1, h2⟩ := comp_inv d hs m (by omega)
    rw [Lib.compactUpTo_succ]
    cases hk : Lib.keeps d m with
    | true =>
      rw [if_pos rfl]
      refine ⟨?_, fun x => ?_⟩
      · refine List.pairwise_append.2 ⟨h1, by simp, fun a ha b hb => ?_⟩
        obtain rfl : b = d[m]! := by simpa using hb
        obtain ⟨j, hj, rfl⟩ := (h2 a).1 ha
        unfold Lib.keeps at hk
        rw [decide_eq_true_eq] at hk
        have hne : d[m]! ≠ d[m - 1]! := by
          rcases hk with hk | hk
          · omega
          · exact hk
        have h3 : abytesLess d[m - 1]! d[m]! = true := less_or (hs (m - 1) m (by omega) (by omega)) hne
        by_cases hj2 : j = m - 1
        · rw [hj2]; exact h3
        · have h4 := hs j (m - 1) (by omega) (by omega)
          by_cases e : d[j]! = d[m - 1]!
          · rw [e]; exact h3
          · exact less_trans (less_or h4 (Ne.symm e)) h3
      · rw [List.mem_append, h2, List.mem_singleton]
        constructor
        · rintro (⟨j, hj, rfl⟩ | rfl)
          · exact ⟨j, by omega, rfl⟩
          · exact ⟨m, by omega, rfl⟩
        · rintro ⟨j, hj, rfl⟩
          by_cases hj2 : j = m
          · right; rw [hj2]
          · left; exact ⟨j, by omega, rfl⟩
    | false =>
      rw [if_neg (by simp), List.append_nil]
      refine ⟨h1, fun x => ?_⟩
      rw [h2]
      unfold Lib.keeps at hk
      rw [decide_eq_false_iff_not] at hk
      have e : d[m]! = d[m - 1]! := Classical.not_not.1 fun q => hk (.inr q)
      have h0 : m ≠ 0 := fun q => hk (.inl q)
      constructor
      · rintro ⟨j, hj, rfl⟩
        exact ⟨j, by omega, rfl⟩
      · rintro ⟨j, hj, rfl⟩
        by_cases hj2 : j = m
        · exact ⟨m - 1, by omega, by rw [hj2]; exact e.symm⟩
        · exact ⟨j, by omega, rfl⟩
/-- The texts sorted, each once. -/
def unq (l : List (List UInt8)) : List (List UInt8) := Lib.compact (srtL l)
theorem unq_inv (l : List (List UInt8)) : Ris (unq l) ∧ ∀ x, x ∈ unq l ↔ x ∈ l := by
  have hp := List.pairwise_iff_getElem.1 (srt_pw l)
  have h := comp_inv (srtL l).toArray (fun i j hij hj => by
    simp only [List.size_toArray] at hj
    have := hp i j (by omega) hj hij
    simpa [getElem!_pos, hj, show i < (srtL l).length by omega] using this) (srtL l).length (by simp)
  refine ⟨h.1, fun x => ?_⟩
  rw [← srt_mem l x]
  refine (h.2 x).trans ?_
  constructor
  · rintro ⟨j, hj, rfl⟩
    simp [getElem!_pos, hj]
  · intro hx
    obtain ⟨j, hj, rfl⟩ := List.getElem_of_mem hx
    exact ⟨j, hj, by simp [getElem!_pos, hj]⟩
theorem unq_ris (l : List (List UInt8)) : Ris (unq l) := (unq_inv l).1
theorem unq_mem (l : List (List UInt8)) (x : List UInt8) : x ∈ unq l ↔ x ∈ l := (unq_inv l).2 x
theorem unq_self {l : List (List UInt8)} (h : Ris l) : unq l = l := ris_ext (unq_ris l) h (unq_mem l)
theorem unq_len_le (l : List (List UInt8)) : (unq l).length ≤ l.length := by
  have := compact_le (srtL l)
  rwa [srtL_len] at this
end Go.Pln
namespace Go.Pln
open Go Go.Proofs Go.Ab
set_option maxRecDepth 100000
set_option linter.unusedVariables false
set_option linter.unusedSimpArgs false

/-! ### names of one fit row -/
noncomputable abbrev rw1 (n : Nat) (f : Nat → Pk) : Option AObj := some (.row 1 1 (rowF 1 [.sl 2 n (rowK f)]))
noncomputable def in23o (l : AV) (n : Nat) (f : Nat → Pk) (ir : Int) (k : Nat) (h : Nat → Pk) (rows : Hp) : Bool :=
  isEn e23 p23 ([l, .row 0 1 0 1, .int .i64 1, .int .i64 ir, .sl 2 k (rowK h), .int .i64 k, .int .i64 0], rw1 n f :: rows)
theorem u23o (n : Nat) (f : Nat → Pk) : (evn tabO h23 L23 23 [.row 0 1 0 1] [rw1 n f]).run =
  bif in23o .nilsl n f 0 n f [] then
   bif ([] ++ nmL (unK (rowK f)) (n - 0) 0).isEmpty then some (.nilsl, [rw1 n f])
   else sc (rw1 n f) ([] ++ nmL (unK (rowK f)) (n - 0) 0)
  else none := by kernel_rfl
theorem nmL_get (f : Nat → Pk) : ∀ k i j, j < k → (nmL f k i)[j]? = some (f (i + j)).nm
  | 0, i, j, h => by omega
  | k + 1, i, 0, h => rfl
  | k + 1, i, j + 1, h => by
    show (nmL f k (i + 1))[j]? = _
    rw [nmL_get f k (i + 1) j (by omega), show i + 1 + j = i + (j + 1) by omega]
theorem ris_of_fit {f : Nat → Pk} {n : Nat} (h : fitK f n = true) : Ris (nmL f n 0) := by
  have hf := (fit_iff f n).1 h
  have step : ∀ i, i + 1 < n → abytesLess (f i).nm (f (i + 1)).nm = true := fun i hi => by
    have := hf (i + 1) hi
    unfold okK at this
    simp only [Bool.and_eq_true] at this
    simpa using this.2.2
  have all : ∀ d i, i + d + 1 < n → abytesLess (f i).nm (f (i + d + 1)).nm = true := by
    intro d
    induction d with
    | zero => intro i hi; exact step i hi
    | succ d ih => intro i hi; exact less_trans (ih i (by omega)) (step (i + d + 1) (by omega))
  refine List.pairwise_iff_getElem.2 fun i j hi hj hij => ?_
  rw [nmL_len] at hi hj
  have h1 := nmL_get f n 0 i hi
  have h2 := nmL_get f n 0 j hj
  rw [List.getElem?_eq_getElem (by rw [nmL_len]; exact hi), Option.some.injEq] at h1
  rw [List.getElem?_eq_getElem (by rw [nmL_len]; exact hj), Option.some.injEq] at h2
  rw [h1, h2, Nat.zero_add, Nat.zero_add]
  have := all (j - i - 1) i (by omega)
  rwa [show i + (j - i - 1) + 1 = j by omega] at this
theorem srt_self {l : List (List UInt8)} (h : Ris l) : srtL l = l := by
  unfold srtL
  refine List.mergeSort_of_pairwise (h.imp fun {a b} h => ?_)
  rw [le_less, (less_asym h).1]
  rfl
theorem comp_self {l : List (List UInt8)} (h : Ris l) : Lib.compact l = l := by
  have := unq_self h
  unfold unq at this
  rwa [srt_self h] at this
theorem cmpL_self {l : List (List UInt8)} (h : Ris l) : cmpL l = l := by
  unfold cmpL
  rw [comp_self h, Nat.sub_self]
  simp
noncomputable def en23o : X22 → List AV × Hp := fun ⟨n, f⟩ => ([.row 0 1 0 1], [rw1 n f])
def de23o : List AV × Hp → X22
  | (_, [some (.row _ _ G)]) => match G 0 0 with
    | .sl _ n f => ⟨n, unK f⟩
    | _ => ⟨0, fun _ => default⟩
  | _ => ⟨0, fun _ => default⟩
def pr23o : X22 → Prop := fun ⟨n, f⟩ => n ≤ 4398046511104 ∧ fitK f n = true
noncomputable def rs23o : X22 → T (AV × Hp) := fun ⟨n, f⟩ =>
  .br (nmL f n 0).isEmpty (.leaf (.nilsl, [rw1 n f])) (.leaf (.row 1 1 0 (nmL f n 0).length, [rw1 n f, some (.row 1 (nmL f n 0).length (strF (nmL f n 0)))]))
theorem s23o : Sound1 Try.prog ⟨23, false, gcon (mcon en23o de23o pr23o rs23o)⟩ := by
  refine sound_cm (m := 20) (k := 9) (hn := h23) (Λ := L23) (soundTab_of all_tabO) (enc := en23o) (dec := de23o) (p := pr23o) (res := rs23o) (fun ⟨n, f⟩ => rfl) (fun ⟨n, f⟩ hp i hi => ?_) ?_
  · have hl : (loopsOf (bodyOf Try.prog 23)).length = 2 := by kernel_rfl
    rcases (by omega : i = 0 ∨ i = 1) with rfl | rfl
    · rw [show loopAt Try.prog 23 0 = .loop (lbody Try.prog 23 0) by kernel_rfl]
      intro l hl
      rw [show lkey (lbody Try.prog 23 0) = 300049 by kernel_rfl] at hl
      cases hl
    · exact l23
  · rintro ⟨n, f⟩ ⟨h1, h2⟩ hF hH
    refine (u23o n f).trans ?_
    have ha : in23o .nilsl n f 0 n f [] = true :=
      isEn_true (enc := e23) (p := p23) ⟨.nilsl, 1, rowF 1 [.sl 2 n (rowK f)], 1, 0, n, f, 0, []⟩ ⟨Nat.zero_le _, by simp only [bnd]; omega, [], rfl, rfl, by simp only [List.length_nil]; omega⟩
    have hr := ris_of_fit h2
    rw [ha, unK_rowK, Nat.sub_zero, List.nil_append, sc_eq, srt_self hr, comp_self hr, cmpL_self hr]
    simp only [rs23o, T.run_br, T.run_leaf]
    generalize nmL f n 0 = L
    cases L <;> rfl
noncomputable def tabS : Tab := ⟨23, false, gcon (mcon en23o de23o pr23o rs23o)⟩ :: tabO
theorem all_tabS : ∀ e, e ∈ tabS → Sound1 Try.prog e := sound_mem_tab s23o all_tabO
end Go.Pln

/- Lemmas for the claims of this seat (a verified symbolic evaluator, and contracts of functions): own work; no condition. -/
import Derived.Test.YtepbfkhalkfhcaaDoorFnE
import Derived.Test.YtepbfkhalkfhcaaDoorEvE
import Derived.Room.Shelf.Join48
import Derived.Test.YtepbfkhalkfhcaaDoorEvF
namespace Go.Mvs
open Go Go.Proofs Go.Ab
set_option maxRecDepth 100000
set_option linter.unusedVariables false
set_option linter.unusedSimpArgs false

/-! ### strings.Join: the kit's shelf -/
def lays156_ren : Go.Shelf.Ren := ⟨fun | 156 => 21 | 165 => 30 | 166 => 31 | 169 => 32 | 240 => 45 | 241 => 46 | 276 => 61 | 277 => 62 | n => n, fun | 31 => 54 | 9 => 9 | 3 => 3 | 4 => 4 | 0 => 0 | 20 => 20 | 72 => 66 | 76 => 70 | 70 => 63 | 37 => 64 | 75 => 69 | 127 => 90 | 164 => 101 | 5 => 5 | 80 => 72 | n => n, fun | n => n⟩
theorem lays156 : Lays.n156 Tryd.prog lays156_ren where
  mixed := by kernel_rfl
  f156 := Tryd.func21.trans (congrArg some (by kernel_rfl))
  f165 := Tryd.func30.trans (congrArg some (by kernel_rfl))
  f166 := Tryd.func31.trans (congrArg some (by kernel_rfl))
  f169 := Tryd.func32.trans (congrArg some (by kernel_rfl))
  f240 := Tryd.func45.trans (congrArg some (by kernel_rfl))
  f241 := Tryd.func46.trans (congrArg some (by kernel_rfl))
  f276 := Tryd.func61.trans (congrArg some (by kernel_rfl))
  f277 := Tryd.func62.trans (congrArg some (by kernel_rfl))
  t0 := Tryd.underlying0
  a0 := Tryd.isAgg0
  z0 := Tryd.sizeOf0
  v0 := Tryd.zeroValue0
  t3 := Tryd.underlying3
  a3 := Tryd.isAgg3
  z3 := Tryd.sizeOf3
  v3 := Tryd.zeroValue3
  t4 := Tryd.underlying4
  a4 := Tryd.isAgg4
  z4 := Tryd.sizeOf4
  v4 := Tryd.zeroValue4
  t9 := Tryd.underlying9
  a9 := Tryd.isAgg9
  z9 := Tryd.sizeOf9
  v9 := Tryd.zeroValue9
  t20 := Tryd.underlying20
  a20 := Tryd.isAgg20
  z20 := Tryd.sizeOf20
  v20 := Tryd.zeroValue20
  t31 := Tryd.underlying54
  a31 := Tryd.isAgg54
  z31 := Tryd.sizeOf54
  v31 := Tryd.zeroValue54
  t37 := Tryd.underlying64
  a37 := Tryd.isAgg64
  z37 := Tryd.sizeOf64
  v37 := Tryd.zeroValue64
  t70 := Tryd.underlying63
  a70 := Tryd.isAgg63
  z70 := Tryd.sizeOf63
  v70 := Tryd.zeroValue63
  t72 := Tryd.underlying66
  a72 := Tryd.isAgg66
  z72 := Tryd.sizeOf66
  v72 := Tryd.zeroValue66
  t75 := Tryd.underlying69
  a75 := Tryd.isAgg69
  z75 := Tryd.sizeOf69
  v75 := Tryd.zeroValue69
  t76 := Tryd.underlying70
  a76 := Tryd.isAgg70
  z76 := Tryd.sizeOf70
  v76 := Tryd.zeroValue70
  t127 := Tryd.underlying90
  a127 := Tryd.isAgg90
  z127 := Tryd.sizeOf90
  v127 := Tryd.zeroValue90
  t164 := Tryd.underlying101
  a164 := Tryd.isAgg101
  z164 := Tryd.sizeOf101
  v164 := Tryd.zeroValue101
theorem extraJ : Builder.Extra Tryd.prog lays156_ren where
  sizeBuilder := by kernel_rfl
  liesBuilder := by kernel_rfl
  t5 := by kernel_rfl
  a5 := fun w => by kernel_rfl
  z5 := fun w => by kernel_rfl
  v5 := fun w => by kernel_rfl
  infoByte := by kernel_rfl
  cellsByte := by kernel_rfl
  sizeByte := by kernel_rfl
  neB5 := by decide

def joinS (l : List (List UInt8)) (sep : List UInt8) : List UInt8 := Go.Lib.join l sep
open Classical in
noncomputable def c21 : List AV → T AV
  | [.sl 1 n f, .str sep] => .chk (decide (IsStrs f n ∧ n ≤ 140737488355328 ∧ (joinS (strsOf f n) sep).length ≤ 281474976710656)) (.leaf (.str (joinS (strsOf f n) sep)))
  | _ => .fail
open Classical in
theorem s21 : Sound1 Tryd.prog ⟨21, true, pcon c21⟩ := by
  refine sound_shelf (by kernel_rfl) fun args r hF h => ?_
  unfold c21 at h
  split at h
  · rename_i n f sep
    rw [T.run_chk] at h
    split at h
    · rename_i hc
      simp only [T.run_leaf, Option.some.injEq] at h; subst h
      obtain ⟨⟨l, rfl, rfl⟩, hn, hj⟩ := of_decide_eq_true hc
      rw [strsOf_strF] at hj ⊢
      refine ⟨rfl, fun X σ w vargs hV => ?_⟩
      obtain ⟨u, us, hu, h1, u2, us2, hu2, h2, h3⟩ := hV
      have hb : (joinS l sep).length ≤ bnd := by simp only [bnd]; omega
      refine ⟨.string ⟨⟨joinS l sep⟩⟩, by simp only [V]; exact ⟨by first | trivial | rfl, hb⟩, ?_⟩
      simp only [V] at h1 h2
      obtain ⟨rfl, hs⟩ := h2
      subst h3
      have hva : vargs = #[u, .string ⟨⟨sep⟩⟩] := by
        rw [hu2] at hu
        exact Array.toList_inj.1 (by simpa using hu)
      subst hva
      have key : ∀ s : List UInt8, (⟨⟨s⟩⟩ : ByteArray).data.toList = s := fun s => rfl
      have hmap : (l.map fun s => (⟨⟨s⟩⟩ : ByteArray)).map (·.data.toList) = l := by
        rw [List.map_map]
        exact (List.map_congr_left fun s _ => rfl).trans (List.map_id l)
      rcases h1.2 with ⟨rfl, hz⟩ | ⟨g, off, cap, rfl, hcap, hg, _, hcells⟩
      · cases l with
        | cons _ _ => simp at hz
        | nil =>
          refine (Any.strings_Join_none lays156 extraJ none 0 ⟨⟨sep⟩⟩ w).mono ?_
          rintro e w' ⟨rfl, rfl⟩
          exact ⟨rfl, Go.RowKit.Below.refl _ _⟩
      · have := Any.strings_Join_48 lays156 extraJ g off cap (l.map fun s => (⟨⟨s⟩⟩ : ByteArray)) ⟨⟨sep⟩⟩ w (strs_cells hcells) hg (by simpa using hn) (by simpa using hcap) (by rw [hmap]; exact hj)
        rw [hmap, List.length_map] at this
        exact this
    · cases h
  · cases h
theorem s21o : Sound1 Tryd.prog ⟨21, false, scon [.rows 1, .any] c21⟩ := sound_scon s21 [.rows 1, .any]
noncomputable def tabB2 : Tab := ⟨21, false, scon [.rows 1, .any] c21⟩ :: tabB1
theorem all_tabB2 : ∀ e, e ∈ tabB2 → Sound1 Tryd.prog e := sound_mem_tab s21o all_tabB1
end Go.Mvs
namespace Go.Mvs
open Go Go.Proofs Go.Ab
set_option maxRecDepth 100000
set_option linter.unusedVariables false
set_option linter.unusedSimpArgs false

/-! ### Rows of texts -/
theorem lstF_strF (L : List (List UInt8)) : lstF (strF L) L.length = L := by
  unfold lstF
  refine List.ext_getElem? fun i => ?_
  rw [List.getElem?_map]
  by_cases h : i < L.length
  · rw [List.getElem?_range h, List.getElem?_eq_getElem h]
    show some (L.getD i []) = _
    simp [List.getD, h]
  · rw [List.getElem?_eq_none (by simpa using h), List.getElem?_eq_none (by omega)]
    rfl
def rAs (b : Nat) : List (List UInt8) → AV
  | [] => .nilsl
  | t :: r => .row b 1 0 (r.length + 1)
def rHs : List (List UInt8) → Hp
  | [] => []
  | t :: r => [some (.row 1 (r.length + 1) (strF (t :: r)))]
def unHs : Hp → List (List UInt8)
  | [some (.row _ n g)] => lstF g n
  | _ => []
theorem unHs_rHs (L : List (List UInt8)) : unHs (rHs L) = L := by
  cases L with
  | nil => rfl
  | cons t r => exact lstF_strF (t :: r)
theorem rAs_push (b : Nat) (L : List (List UInt8)) (t : List UInt8) : rAs b (L ++ [t]) = .row b 1 0 (L.length + 1) := by
  cases L with
  | nil => rfl
  | cons u r => show AV.row b 1 0 ((r ++ [t]).length + 1) = _; rw [List.length_append]; rfl
theorem rHs_push (L : List (List UInt8)) (t : List UInt8) : rHs (L ++ [t]) = [some (.row 1 (L.length + 1) (strF (L ++ [t])))] := by
  cases L with
  | nil => rfl
  | cons u r => show [some (AObj.row 1 ((r ++ [t]).length + 1) (strF (u :: (r ++ [t]))))] = _; rw [List.length_append]; rfl

noncomputable abbrev one (t : List UInt8) : Nat → Nat → AV := fun j => rowF 1 [.str t] (0 + j)
noncomputable abbrev fitsA (k : Nat) : Bool := decide ((k + 1) * 16 ≤ 140737488355328 ∧ k + 1 ≤ 4611686018427387903)
theorem one_first (t : List UInt8) : one t = strF ([] ++ [t]) := by
  rw [← strF_app]
  exact (appF_zero _ _).symm
/-! ### text: its loop -/
def wrdM (m : Mr) : List UInt8 := (bif m.li then [91] else [40]) ++ (bif m.hl && (m.hh && (m.lo == m.hi && (m.li && m.ui))) then m.lo else m.lo ++ [44] ++ m.hi) ++ (bif m.ui then [93] else [41])
noncomputable abbrev fitS (n : Nat) : Bool := decide (n ≤ 4611686018427387903)
noncomputable def wrT (o c x : List UInt8) (nx : List UInt8 → Option (AX × St)) : Option (AX × St) :=
  bif fitS (o.length + x.length) then bif fitS ((o ++ x).length + c.length) then nx (o ++ x ++ c) else none else none
noncomputable def midT (m : Mr) (o c : List UInt8) (nx : List UInt8 → Option (AX × St)) : Option (AX × St) :=
  bif fitS (m.lo.length + 1) then
   bif fitS ((m.lo ++ [44]).length + m.hi.length) then
    bif m.hl then bif m.hh then bif m.lo == m.hi then bif m.li then bif m.ui then wrT o c m.lo nx else wrT o c (m.lo ++ [44] ++ m.hi) nx
       else wrT o c (m.lo ++ [44] ++ m.hi) nx
      else wrT o c (m.lo ++ [44] ++ m.hi) nx
     else wrT o c (m.lo ++ [44] ++ m.hi) nx
    else wrT o c (m.lo ++ [44] ++ m.hi) nx
   else none
  else none
noncomputable def wmT (m : Mr) (nx : List UInt8 → Option (AX × St)) : Option (AX × St) :=
  bif m.li then bif m.ui then midT m [91] [93] nx else midT m [91] [41] nx else bif m.ui then midT m [40] [93] nx else midT m [40] [41] nx
theorem wmT_ok {m : Mr} (h1 : m.lo.length ≤ 140737488351232) (h2 : m.hi.length ≤ 140737488351232) (nx : List UInt8 → Option (AX × St)) : wmT m nx = nx (wrdM m) := by
  have a1 : fitS (m.lo.length + 1) = true := decide_eq_true (by omega)
  have a2 : fitS ((m.lo ++ [44]).length + m.hi.length) = true := decide_eq_true (by simp only [List.length_append, List.length_cons, List.length_nil]; omega)
  have w0 : ∀ (a b : UInt8) (x : List UInt8), x.length ≤ 281474976702465 → wrT [a] [b] x nx = nx ([a] ++ x ++ [b]) := fun a b x hx => by
    unfold wrT
    rw [show fitS ([a].length + x.length) = true from decide_eq_true (by simp only [List.length_cons, List.length_nil]; omega), show fitS (([a] ++ x).length + [b].length) = true from decide_eq_true (by simp only [List.length_append, List.length_cons, List.length_nil]; omega)]
    rfl
  have w1 : ∀ a b : UInt8, wrT [a] [b] m.lo nx = nx ([a] ++ m.lo ++ [b]) := fun a b => w0 a b _ (by omega)
  have w2 : ∀ a b : UInt8, wrT [a] [b] (m.lo ++ [44] ++ m.hi) nx = nx ([a] ++ (m.lo ++ [44] ++ m.hi) ++ [b]) := fun a b => w0 a b _ (by simp only [List.length_append, List.length_cons, List.length_nil]; omega)
  unfold wmT midT wrdM
  rw [a1, a2]
  simp only [w1, w2, cond_true]
  cases m.li <;> cases m.ui <;> cases m.hl <;> cases m.hh <;> cases (m.lo == m.hi) <;> rfl
noncomputable def z10 (w : AV) (n : Nat) (f : Nat → Mr) (i : Int) (rs : Hp) : St := { tm := encGo (mbits 117440520 74) [w, .sl 6 n (rowG CM f), .int .i64 n, .int .i64 i], ms := [], hp := rs }
noncomputable def x10 (w : AV) (n : Nat) (f : Nat → Mr) (i : Int) (rs : Hp) : AX × St := (.exit 0, { tm := tmOf 74 [(3, w), (24, .sl 6 n (rowG CM f)), (25, .int .i64 n), (26, .int .i64 i), (27, .bool false)], ms := [], hp := rs })
theorem q10a (Λ0 : LoopT) (n i : Nat) (f : Nat → Mr) : (rdn tabB2 h10 Λ0 10 0 0 (z10 .nilsl n f i [])).run =
  bif decide ((i : Int) < (n : Int)) then
   bif decide (0 ≤ (i : Int) ∧ (i : Int) < (n : Int)) then
    wmT (f (i : Int).toNat) fun t => some (.normal, z10 (.row 0 1 0 1) n f (IntKind.i64.wrap ((i : Int) + 1)) [some (.row 1 1 (one t))])
   else none
  else some (x10 .nilsl n f i []) := by kernel_rfl
theorem q10b (Λ0 : LoopT) (n i k : Nat) (f : Nat → Mr) (h : Nat → Nat → AV) : (rdn tabB2 h10 Λ0 10 0 0 (z10 (.row 0 1 0 k) n f i [some (.row 1 k h)])).run =
  bif decide ((i : Int) < (n : Int)) then
   bif decide (0 ≤ (i : Int) ∧ (i : Int) < (n : Int)) then
    wmT (f (i : Int).toNat) fun t => bif decide (k = k) then bif fitsA k then some (.normal, z10 (.row 0 1 0 (k + 1)) n f (IntKind.i64.wrap ((i : Int) + 1)) [some (.row 1 (k + 1) (appF k h (one t)))]) else none else none
   else none
  else some (x10 (.row 0 1 0 k) n f i [some (.row 1 k h)]) := by kernel_rfl
end Go.Mvs
namespace Go.Mvs
open Go Go.Proofs Go.Ab
set_option maxRecDepth 100000
set_option linter.unusedVariables false
set_option linter.unusedSimpArgs false

/-! ### text -/
def lsM (f : Nat → Mr) : Nat → Nat → List Mr
  | 0, _ => []
  | k + 1, i => f i :: lsM f k (i + 1)
theorem lsM_len (f : Nat → Mr) : ∀ k i, (lsM f k i).length = k
  | 0, i => rfl
  | k + 1, i => by simp [lsM, lsM_len f k]
theorem lsM_step (f : Nat → Mr) {n i : Nat} (h : i < n) : lsM f (n - i) i = f i :: lsM f (n - (i + 1)) (i + 1) := by
  obtain ⟨k, hk⟩ : ∃ k, n - i = k + 1 := ⟨n - i - 1, by omega⟩
  rw [hk, show n - (i + 1) = k by omega]
  rfl
theorem lsM_fnG (d : Mr) (L : List Mr) : ∀ k i, i + k = L.length → lsM (fnG d L) k i = L.drop i
  | 0, i, h => by rw [List.drop_eq_nil_of_le (by omega)]; rfl
  | k + 1, i, h => by
    show fnG d L i :: lsM (fnG d L) k (i + 1) = _
    rw [lsM_fnG d L k (i + 1) (by omega), ← drop_fnG (show i < L.length by omega)]
def smM (f : Nat → Mr) (n : Nat) : Prop := ∀ j, j < n → (f j).lo.length ≤ 140737488351232 ∧ (f j).hi.length ≤ 140737488351232
theorem t10w (Λ0 : LoopT) (n i : Nat) (f : Nat → Mr) (O : List (List UInt8)) (h1 : i ≤ n) (h2 : n ≤ 1048576) (h3 : smM f n) (h4 : O.length ≤ 4194304) :
    (rdn tabB2 h10 Λ0 10 0 0 (z10 (rAs 0 O) n f i (rHs O))).run = bif decide (i < n) then some (.normal, z10 (rAs 0 (O ++ [wrdM (f i)])) n f ((i + 1 : Nat) : Int) (rHs (O ++ [wrdM (f i)])))
      else some (x10 (rAs 0 O) n f n (rHs O)) := by
  by_cases hi : i < n
  · rw [decide_eq_true hi, cond_true, rAs_push, rHs_push]
    cases O with
    | nil =>
      refine (q10a Λ0 n i f).trans ?_
      rw [decide_eq_true (show (i : Int) < n by omega), in_row hi, Int.toNat_natCast, w64n (by omega), wmT_ok (h3 i hi).1 (h3 i hi).2]
      rw [one_first]
      rfl
    | cons x O =>
      refine (q10b Λ0 n i (O.length + 1) f (strF (x :: O))).trans ?_
      simp only [List.length_cons] at h4
      rw [decide_eq_true (show (i : Int) < n by omega), in_row hi, Int.toNat_natCast, w64n (by omega), wmT_ok (h3 i hi).1 (h3 i hi).2]
      rw [decide_eq_true rfl, show fitsA (O.length + 1) = true from decide_eq_true (by omega), show appF (O.length + 1) (strF (x :: O)) (one (wrdM (f i))) = strF (x :: O ++ [wrdM (f i)]) from strF_app (x :: O) _]
      rfl
  · obtain rfl : i = n := by omega
    rw [decide_eq_false hi, cond_false]
    cases O with
    | nil =>
      refine (q10a Λ0 i i f).trans ?_
      rw [decide_eq_false (show ¬ (i : Int) < i by omega)]
      rfl
    | cons x O =>
      refine (q10b Λ0 i i (O.length + 1) f (strF (x :: O))).trans ?_
      rw [decide_eq_false (show ¬ (i : Int) < i by omega)]
      rfl
structure Y10 where
  w : AV
  n : Nat
  f : Nat → Mr
  i : Nat
  rs : Hp
def e10 : Y10 → List AV × Hp := fun ⟨w, n, f, i, rs⟩ => ([w, .sl 6 n (rowG CM f), .int .i64 n, .int .i64 i], rs)
def d10 : List AV × Hp → Y10
  | ([w, .sl _ n g, _, .int _ i], rs) => ⟨w, n, unG CM g, i.toNat, rs⟩
  | _ => ⟨.junk, 0, fun _ => default, 0, []⟩
theorem i10 : ∀ x, d10 (e10 x) = x := by
  rintro ⟨w, n, f, i, rs⟩
  show (⟨w, n, unG CM (rowG CM f), i, rs⟩ : Y10) = _
  rw [unG_rowG okCM]
def p10 : Y10 → Prop := fun ⟨w, n, f, i, rs⟩ => i ≤ n ∧ n ≤ 1048576 ∧ smM f n ∧ ∃ O, w = rAs 0 O ∧ rs = rHs O ∧ O.length + (n - i) ≤ 4194304
noncomputable def fin10 (n : Nat) (f : Nat → Mr) (W : List (List UInt8)) : T (AX × St) := .br W.isEmpty (.leaf (x10 .nilsl n f n [])) (.leaf (x10 (.row 0 1 0 W.length) n f n [some (.row 1 W.length (strF W))]))
theorem fin10_run (n : Nat) (f : Nat → Mr) (W : List (List UInt8)) : (fin10 n f W).run = some (x10 (rAs 0 W) n f n (rHs W)) := by cases W <;> rfl
noncomputable def r10 : Y10 → T (AX × St) := fun ⟨w, n, f, i, rs⟩ => fin10 n f (unHs rs ++ (lsM f (n - i) i).map wrdM)
noncomputable def L10 : LoopT := fun k => match Nat.beq k 500089 with
  | true => some (lccon (mbits 117440520 74) e10 d10 p10 r10)
  | false => none
theorem l10 : LoopOk Tryd.prog tabB2.pf (fun n => hd Tryd.prog tabB2.pf tabB2.con.run (fun f => (H0 f).to) n 9) h10.to 10 0 none L10 (loopAt Tryd.prog 10 0) := by
  rw [show loopAt Tryd.prog 10 0 = .loop (lbody Tryd.prog 10 0) by kernel_rfl]
  refine loop_c (hdT_le (m := 20) 9) (m := 20) (lv := mbits 117440520 74) (p := p10) (res := r10) i10 (within_of _ (by rw [show loopsOf (lbody Tryd.prog 10 0) = [] by kernel_rfl]; simp)) (by kernel_rfl) (fun ⟨w, n, f, i, rs⟩ => n - i) ?_
  rintro ⟨w, n, f, i, rs⟩ ⟨h1, h2, h3, O, rfl, rfl, h4⟩
  have ht := t10w L10 n i f O h1 h2 h3 (by omega)
  by_cases hi : i < n
  · rw [decide_eq_true hi, cond_true] at ht
    left
    refine ⟨⟨rAs 0 (O ++ [wrdM (f i)]), n, f, i + 1, rHs (O ++ [wrdM (f i)])⟩, ⟨by omega, h2, h3, _, rfl, rfl, by rw [List.length_append]; simp only [List.length_cons, List.length_nil]; omega⟩, by simp only; omega, ?_, ht⟩
    simp only [r10, unHs_rHs]
    rw [lsM_step f hi, List.map_cons, List.append_assoc]
    rfl
  · obtain rfl : i = n := by omega
    rw [decide_eq_false hi, cond_false] at ht
    right
    refine ⟨_, by simp [x10], ?_, ht⟩
    simp only [r10, unHs_rHs, Nat.sub_self]
    rw [show lsM f 0 i = [] from rfl, List.map_nil, List.append_nil]
    exact fin10_run i f O
open Classical in
noncomputable def jnE : Option (AV × Hp) :=
  bif decide (IsStrs (strF []) 0 ∧ 0 ≤ 140737488355328 ∧ (joinS (strsOf (strF []) 0) [44]).length ≤ 281474976710656) then some (.str (joinS (strsOf (strF []) 0) [44]), []) else none
open Classical in
noncomputable def jnW (W : List (List UInt8)) : Option (AV × Hp) :=
  bif decide (0 + W.length ≤ W.length) then
   bif decide (IsStrs (fromF 0 (strF W)) W.length ∧ W.length ≤ 140737488355328 ∧ (joinS (strsOf (fromF 0 (strF W)) W.length) [44]).length ≤ 281474976710656) then some (.str (joinS (strsOf (fromF 0 (strF W)) W.length) [44]), []) else none
  else none
noncomputable def k10 (n : Nat) (f : Nat → Mr) (w : AV) (rs : Hp) : Option (AV × Hp) :=
  bif isEn e10 p10 ([w, .sl 6 n (rowG CM f), .int .i64 n, .int .i64 0], rs) then
   bif (unHs rs ++ (lsM (unG CM (rowG CM f)) (n - 0) 0).map wrdM).isEmpty then jnE else jnW (unHs rs ++ (lsM (unG CM (rowG CM f)) (n - 0) 0).map wrdM)
  else none
theorem u10 (v : List UInt8) (n : Nat) (f : Nat → Mr) : (evn tabB2 h10 L10 10 [.agg [.str v, .sl 6 n (rowG CM f)]] []).run =
  bif !v == [] then k10 n f (.row 0 1 0 1) [some (.row 1 1 (one v))]
  else bif (n : Int) == 0 then k10 n f (.row 0 1 0 1) [some (.row 1 1 (one v))]
  else k10 n f .nilsl [] := by kernel_rfl
end Go.Mvs
namespace Go.Mvs
open Go Go.Proofs Go.Ab
set_option maxRecDepth 100000
set_option linter.unusedVariables false
set_option linter.unusedSimpArgs false

/-! ### text told -/
theorem joinS_one (x : List UInt8) : joinS [x] [44] = x := Go.Lib.join_one x [44]
theorem joinS_cons (x : List UInt8) {M : List (List UInt8)} (h : M ≠ []) : joinS (x :: M) [44] = x ++ 44 :: joinS M [44] := by
  unfold joinS
  cases M with
  | nil => exact absurd rfl h
  | cons y M =>
    rw [Go.Lib.join_cons, Go.Lib.join_cons]
    simp [Go.Lib.joinTail]
theorem join_len (B : Nat) : ∀ W : List (List UInt8), (∀ w, w ∈ W → w.length ≤ B) → (joinS W [44]).length ≤ W.length * (B + 1)
  | [], _ => by show ([] : List UInt8).length ≤ _; simp
  | [x], h => by
    rw [joinS_one]
    have := h x (by simp)
    simp only [List.length_cons, List.length_nil]
    omega
  | x :: y :: W, h => by
    rw [joinS_cons x (by simp)]
    have h1 := join_len B (y :: W) fun w hw => h w (by simp only [List.mem_cons] at hw ⊢; exact .inr hw)
    have h2 := h x (by simp)
    simp only [List.length_append, List.length_cons] at h1 ⊢
    rw [Nat.succ_mul]
    omega
def wdsM (v : List UInt8) (L : List Mr) : List (List UInt8) := (bif v == [] && !L.isEmpty then [] else [v]) ++ L.map wrdM
def txM (v : List UInt8) (L : List Mr) : List UInt8 := joinS (wdsM v L) [44]
theorem wrdM_len {m : Mr} (h1 : m.lo.length ≤ 140737488351232) (h2 : m.hi.length ≤ 140737488351232) : (wrdM m).length ≤ 281474976702467 := by
  unfold wrdM
  have e1 : (bif m.li then ([91] : List UInt8) else [40]).length = 1 := by cases m.li <;> rfl
  have e3 : (bif m.ui then ([93] : List UInt8) else [41]).length = 1 := by cases m.ui <;> rfl
  have e2 : (bif m.hl && (m.hh && (m.lo == m.hi && (m.li && m.ui))) then m.lo else m.lo ++ [44] ++ m.hi).length ≤ 281474976702465 := by
    cases (m.hl && (m.hh && (m.lo == m.hi && (m.li && m.ui))))
    · simp only [cond_false, List.length_append, List.length_cons, List.length_nil]; omega
    · simp only [cond_true]; omega
  rw [List.length_append, List.length_append, e1, e3]
  omega
open Classical in
theorem jnW_ok {W : List (List UInt8)} (h : W.length ≤ 1048577) (hl : (joinS W [44]).length ≤ 281474976710656) : jnW W = some (.str (joinS W [44]), []) := by
  unfold jnW
  rw [decide_eq_true (show 0 + W.length ≤ W.length by omega), show fromF 0 (strF W) = strF W from rfl, strsOf_strF, decide_eq_true (show IsStrs (strF W) W.length ∧ W.length ≤ 140737488355328 ∧ (joinS W [44]).length ≤ 281474976710656 from ⟨isStrs_strF W, by omega, by omega⟩)]
  rfl
theorem lsM_mem (f : Nat → Mr) : ∀ k i p, p ∈ lsM f k i → ∃ j, i ≤ j ∧ j < i + k ∧ p = f j
  | 0, i, p, h => by simp [lsM] at h
  | k + 1, i, p, h => by
    rcases List.mem_cons.1 h with rfl | h
    · exact ⟨i, Nat.le_refl _, by omega, rfl⟩
    · obtain ⟨j, h1, h2, h3⟩ := lsM_mem f k (i + 1) p h
      exact ⟨j, by omega, by omega, h3⟩
theorem text_ok {v : List UInt8} {n : Nat} {f : Nat → Mr} (hn : n ≤ 1048576) (hf : smM f n) (ht : (txM v (lsM f n 0)).length ≤ 281474976710656) : (evn tabB2 h10 L10 10 [.agg [.str v, .sl 6 n (rowG CM f)]] []).run = some (.str (txM v (lsM f n 0)), []) := by
  refine (u10 v n f).trans ?_
  have hk : ∀ O : List (List UInt8), O.length ≤ 1 → (O ++ (lsM f n 0).map wrdM) ≠ [] → (joinS (O ++ (lsM f n 0).map wrdM) [44]).length ≤ 281474976710656 → k10 n f (rAs 0 O) (rHs O) = some (.str (joinS (O ++ (lsM f n 0).map wrdM) [44]), []) := fun O hO hne hj => by
    unfold k10
    rw [show isEn e10 p10 ([rAs 0 O, .sl 6 n (rowG CM f), .int .i64 n, .int .i64 0], rHs O) = true from isEn_true (enc := e10) (p := p10) ⟨rAs 0 O, n, f, 0, rHs O⟩ ⟨Nat.zero_le _, hn, hf, O, rfl, rfl, by omega⟩, unHs_rHs, unG_rowG okCM, Nat.sub_zero]
    simp only [cond_true]
    rw [show (O ++ (lsM f n 0).map wrdM).isEmpty = false by
      cases hh : (O ++ (lsM f n 0).map wrdM) with
      | nil => exact absurd hh hne
      | cons _ _ => rfl]
    rw [cond_false, jnW_ok (by rw [List.length_append, List.length_map, lsM_len]; omega) hj]
  have e1 : k10 n f (.row 0 1 0 1) [some (.row 1 1 (one v))] = k10 n f (rAs 0 [v]) (rHs [v]) := by rw [one_first]; rfl
  rw [e1]
  unfold txM wdsM at ht ⊢
  cases hv0 : (v == []) with
  | false =>
    rw [hv0] at ht
    exact hk [v] (by simp) (by simp) ht
  | true =>
    rw [hv0] at ht
    simp only [Bool.not_true, cond_false, Bool.true_and] at ht ⊢
    cases n with
    | zero => exact hk [v] (by simp) (by simp) ht
    | succ n =>
      rw [show (((n + 1 : Nat) : Int) == 0) = false by rw [beq_eq_false_iff_ne]; omega]
      exact hk [] (by simp) (by simp [lsM]) ht
structure X10 where
  v : List UInt8
  n : Nat
  f : Nat → Mr
def en10 : X10 → List AV := fun ⟨v, n, f⟩ => [.agg [.str v, .sl 6 n (rowG CM f)]]
def de10 : List AV → X10
  | [.agg [.str v, .sl _ n g]] => ⟨v, n, unG CM g⟩
  | _ => ⟨[], 0, fun _ => default⟩
def pr10 : X10 → Prop := fun ⟨v, n, f⟩ => n ≤ 1048576 ∧ smM f n ∧ (txM v (lsM f n 0)).length ≤ 281474976710656
def rs10 : X10 → T AV := fun ⟨v, n, f⟩ => .leaf (.str (txM v (lsM f n 0)))
noncomputable def c10 : List AV → T AV := ccon en10 de10 pr10 rs10
theorem in10 : ∀ x, de10 (en10 x) = x := by
  rintro ⟨v, n, f⟩
  show (⟨v, n, unG CM (rowG CM f)⟩ : X10) = _
  rw [unG_rowG okCM]
theorem k10' (v : List UInt8) (n : Nat) (f : Nat → Mr) (h : n ≤ 1048576 ∧ smM f n ∧ (txM v (lsM f n 0)).length ≤ 281474976710656) : isEn en10 pr10 [.agg [.str v, .sl 6 n (rowG CM f)]] = true := isEn_true (enc := en10) (p := pr10) ⟨v, n, f⟩ h
theorem s10 : Sound1 Tryd.prog ⟨10, true, pcon c10⟩ := by
  refine sound_c (soundTab_of all_tabB2) H0 in10 (hn := h10) (m := 20) (k := 9) (Λ := L10) (oneLoop (by kernel_rfl) l10) ?_
  rintro ⟨v, n, f⟩ ⟨h1, h2, h3⟩ hF
  exact text_ok h1 h2 h3
theorem s10o : Sound1 Tryd.prog ⟨10, false, scon [.agg [.any, .rows 6]] c10⟩ := sound_scon s10 [.agg [.any, .rows 6]]
noncomputable def tabB3 : Tab := ⟨10, false, scon [.agg [.any, .rows 6]] c10⟩ :: tabB2
theorem all_tabB3 : ∀ e, e ∈ tabB3 → Sound1 Tryd.prog e := sound_mem_tab s10o all_tabB2
end Go.Mvs
namespace Go.Mvs
open Go Go.Proofs Go.Ab
set_option maxRecDepth 100000
set_option linter.unusedVariables false
set_option linter.unusedSimpArgs false

/-! ### slices.Equal of ranges, and the reference's Same -/
def beqM (a b : Mr) : Bool := a.hl == b.hl && (a.lo == b.lo && (a.li == b.li && (a.hh == b.hh && (a.hi == b.hi && (a.ui == b.ui && true)))))
theorem beqM_iff (a b : Mr) : beqM a b = true ↔ a = b := by
  unfold beqM
  cases a; cases b
  simp
theorem fbad_iff (q : Nat → Bool) : ∀ k i, (¬ fbad q k i < i + k) ↔ ∀ j, i ≤ j → j < i + k → q j = true
  | 0, i => by
    show (¬ i < i + 0) ↔ _
    exact ⟨fun _ j h1 h2 => by omega, fun _ => by omega⟩
  | k + 1, i => by
    have ih := fbad_iff q k (i + 1)
    unfold fbad
    cases hq : q i with
    | true =>
      simp only [cond_true]
      rw [show i + (k + 1) = i + 1 + k by omega, ih]
      constructor
      · intro h j h1 h2
        by_cases e : j = i
        · rw [e]; exact hq
        · exact h j (by omega) (by omega)
      · intro h j h1 h2
        exact h j (by omega) (by omega)
    | false =>
      simp only [cond_false]
      constructor
      · intro h; omega
      · intro h
        have := h i (Nat.le_refl _) (by omega)
        rw [hq] at this; cases this
def samM (f g : Nat → Mr) (i : Nat) : Bool := beqM (f i) (g i)
def eqR (f g : Nat → Mr) (n m : Nat) : Bool := n == m && !decide (fbad (samM f g) n 0 < n)
theorem eqR_iff (f g : Nat → Mr) (n m : Nat) : eqR f g n m = true ↔ n = m ∧ ∀ i, i < n → f i = g i := by
  unfold eqR
  rw [Bool.and_eq_true, beq_iff_eq, Bool.not_eq_true', decide_eq_false_iff_not]
  have h := fbad_iff (samM f g) n 0
  rw [Nat.zero_add] at h
  rw [h]
  refine and_congr Iff.rfl ?_
  constructor
  · intro h i hi
    exact (beqM_iff _ _).1 (h i (Nat.zero_le _) hi)
  · intro h j _ hj
    exact (beqM_iff _ _).2 (h j hj)
noncomputable def z12 (n : Nat) (f g : Nat → Mr) (i : Int) : St := { tm := encGo (mbits 12291 26) [.sl 6 n (rowG CM f), .sl 6 n (rowG CM g), .int .i64 n, .int .i64 i], ms := [], hp := [] }
noncomputable def x12 (n : Nat) (f g : Nat → Mr) : AX × St := (.exit 0, { tm := tmOf 26 [(0, .sl 6 n (rowG CM f)), (1, .sl 6 n (rowG CM g)), (12, .int .i64 n), (13, .int .i64 n), (14, .bool false)], ms := [], hp := [] })
def b12 : AX × St := (.ret, { tm := tmOf 26 [(4, .bool false)], ms := [], hp := [] })
theorem q12 (Λ0 : LoopT) (n i : Nat) (f g : Nat → Mr) : (rdn tabB3 h12 Λ0 12 0 0 (z12 n f g i)).run =
  bif decide ((i : Int) < (n : Int)) then
   bif decide (0 ≤ (i : Int) ∧ (i : Int) < (n : Int)) then
    bif decide (0 ≤ (i : Int) ∧ (i : Int) < (n : Int)) then
     bif !samM f g (i : Int).toNat then some b12 else some (.normal, z12 n f g (IntKind.i64.wrap ((i : Int) + 1)))
    else none
   else none
  else some (.exit 0, { tm := tmOf 26 [(0, .sl 6 n (rowG CM f)), (1, .sl 6 n (rowG CM g)), (12, .int .i64 n), (13, .int .i64 i), (14, .bool false)], ms := [], hp := [] }) := by kernel_rfl
structure Y12 where
  n : Nat
  f : Nat → Mr
  g : Nat → Mr
  i : Nat
def e12 : Y12 → List AV × Hp := fun ⟨n, f, g, i⟩ => ([.sl 6 n (rowG CM f), .sl 6 n (rowG CM g), .int .i64 n, .int .i64 i], [])
def d12 : List AV × Hp → Y12
  | ([.sl _ n f, .sl _ _ g, _, .int _ i], _) => ⟨n, unG CM f, unG CM g, i.toNat⟩
  | _ => ⟨0, fun _ => default, fun _ => default, 0⟩
theorem i12 : ∀ x, d12 (e12 x) = x := by
  rintro ⟨n, f, g, i⟩
  show (⟨n, unG CM (rowG CM f), unG CM (rowG CM g), i⟩ : Y12) = _
  rw [unG_rowG okCM, unG_rowG okCM]
def p12 : Y12 → Prop := fun ⟨n, f, g, i⟩ => i ≤ n ∧ n ≤ bnd
noncomputable def r12 : Y12 → T (AX × St) := fun ⟨n, f, g, i⟩ => .br (decide (fbad (samM f g) (n - i) i < n)) (.leaf b12) (.leaf (x12 n f g))
noncomputable def L12 : LoopT := fun k => match Nat.beq k 400033 with
  | true => some (lccon (mbits 12291 26) e12 d12 p12 r12)
  | false => none
theorem l12 : LoopOk Tryd.prog tabB3.pf (fun n => hd Tryd.prog tabB3.pf tabB3.con.run (fun f => (H0 f).to) n 9) h12.to 12 0 none L12 (loopAt Tryd.prog 12 0) := by
  rw [show loopAt Tryd.prog 12 0 = .loop (lbody Tryd.prog 12 0) by kernel_rfl]
  refine loop_c (hdT_le (m := 20) 9) (m := 20) (lv := mbits 12291 26) (p := p12) (res := r12) i12 (within_of _ (by rw [show loopsOf (lbody Tryd.prog 12 0) = [] by kernel_rfl]; simp)) (by kernel_rfl) (fun ⟨n, f, g, i⟩ => n - i) ?_
  rintro ⟨n, f, g, i⟩ ⟨h1, h2⟩
  have ht := q12 L12 n i f g
  have hb := h2
  simp only [bnd] at hb
  by_cases hi : i < n
  · have hd := fbad_step (q := samM f g) hi
    rw [decide_eq_true (show (i : Int) < n by omega), in_row hi, Int.toNat_natCast, w64n (by omega)] at ht
    cases hq : samM f g i with
    | true =>
      rw [hq] at ht hd
      rw [cond_true] at hd
      left
      refine ⟨⟨n, f, g, i + 1⟩, ⟨by omega, h2⟩, by simp only; omega, ?_, ht⟩
      simp only [r12, T.run_br, hd]
    | false =>
      rw [hq] at ht hd
      rw [cond_false] at hd
      right
      refine ⟨_, by simp [b12], ?_, ht⟩
      simp only [r12, T.run_br, hd, decide_eq_true hi] <;> rfl
  · obtain rfl : i = n := by omega
    rw [decide_eq_false (show ¬ (i : Int) < i by omega)] at ht
    right
    refine ⟨_, by simp, ?_, ht⟩
    simp only [r12, T.run_br, Nat.sub_self, fbad, decide_eq_false (Nat.lt_irrefl i)] <;> rfl
theorem u12 (n m : Nat) (f g : Nat → Mr) : (evn tabB3 h12 L12 12 [.sl 6 n (rowG CM f), .sl 6 m (rowG CM g)] []).run =
  bif (n : Int) != (m : Int) then some (.bool false, [])
  else bif isEn e12 p12 ([.sl 6 n (rowG CM f), .sl 6 m (rowG CM g), .int .i64 n, .int .i64 0], []) then
   bif decide (fbad (samM (unG CM (rowG CM f)) (unG CM (rowG CM g))) (n - 0) 0 < n) then some (.bool false, []) else some (.bool true, [])
  else none := by kernel_rfl
structure X12 where
  n : Nat
  f : Nat → Mr
  m : Nat
  g : Nat → Mr
def en12 : X12 → List AV := fun ⟨n, f, m, g⟩ => [.sl 6 n (rowG CM f), .sl 6 m (rowG CM g)]
def de12 : List AV → X12
  | [.sl _ n f, .sl _ m g] => ⟨n, unG CM f, m, unG CM g⟩
  | _ => ⟨0, fun _ => default, 0, fun _ => default⟩
def pr12 : X12 → Prop := fun ⟨n, f, m, g⟩ => n ≤ bnd
def rs12 : X12 → T AV := fun ⟨n, f, m, g⟩ => .leaf (.bool (eqR f g n m))
noncomputable def c12 : List AV → T AV := ccon en12 de12 pr12 rs12
theorem k12 (n : Nat) (f : Nat → Mr) (m : Nat) (g : Nat → Mr) (h : n ≤ bnd) : isEn en12 pr12 [.sl 6 n (rowG CM f), .sl 6 m (rowG CM g)] = true := isEn_true (enc := en12) (p := pr12) ⟨n, f, m, g⟩ h
theorem s12 : Sound1 Tryd.prog ⟨12, true, pcon c12⟩ := by
  refine sound_c (soundTab_of all_tabB3) H0 (fun ⟨n, f, m, g⟩ => by show (⟨n, unG CM (rowG CM f), m, unG CM (rowG CM g)⟩ : X12) = _; rw [unG_rowG okCM, unG_rowG okCM]) (hn := h12) (m := 20) (k := 9) (Λ := L12) (oneLoop (by kernel_rfl) l12) ?_
  rintro ⟨n, f, m, g⟩ hp hF
  refine (u12 n m f g).trans ?_
  show _ = some (AV.bool (eqR f g n m), ([] : Hp))
  unfold eqR
  by_cases hnm : n = m
  · subst hnm
    rw [show ((n : Int) != n) = false by simp, cond_false, show isEn e12 p12 ([.sl 6 n (rowG CM f), .sl 6 n (rowG CM g), .int .i64 n, .int .i64 0], []) = true from isEn_true (enc := e12) (p := p12) ⟨n, f, g, 0⟩ ⟨Nat.zero_le _, hp⟩, unG_rowG okCM, unG_rowG okCM, Nat.sub_zero, show (n == n) = true by simp]
    simp only [cond_true, Bool.true_and]
    cases decide (fbad (samM f g) n 0 < n) <;> rfl
  · rw [show ((n : Int) != m) = true by rw [bne_iff_ne]; omega, cond_true, show (n == m) = false by simpa using hnm]
    rfl
/-! ### Same -/
noncomputable def hp7 (v w : List UInt8) (n m : Nat) (f g : Nat → Mr) : Hp := [some (.cells [.str v, .sl 6 n (rowG CM f)]), some (.cells [.str w, .sl 6 m (rowG CM g)])]
noncomputable def z7 (v w : List UInt8) (n : Nat) (f g : Nat → Mr) (i : Int) : St := { tm := encGo (mbits 44 38) [.ref 0 0, .ref 1 0, .int .i64 i], ms := [], hp := hp7 v w n n f g }
noncomputable def x7 (v w : List UInt8) (n : Nat) (f g : Nat → Mr) (i : Int) : AX × St := (.exit 0, { tm := tmOf 38 [(2, .ref 0 0), (3, .ref 1 0), (5, .int .i64 i), (24, .bool false)], ms := [], hp := hp7 v w n n f g })
noncomputable def b7 (v w : List UInt8) (n : Nat) (f g : Nat → Mr) : AX × St := (.ret, { tm := tmOf 38 [(4, .bool false)], ms := [], hp := hp7 v w n n f g })
theorem q7 (Λ0 : LoopT) (v w : List UInt8) (n i : Nat) (f g : Nat → Mr) : (rdn tabB3 h7 Λ0 7 0 0 (z7 v w n f g i)).run =
  bif decide ((i : Int) < (n : Int)) then
   bif decide (0 ≤ (i : Int) ∧ (i : Int) < (n : Int)) then
    bif decide (0 ≤ (i : Int) ∧ (i : Int) < (n : Int)) then
     bif !samM f g (i : Int).toNat then some (b7 v w n f g) else some (.normal, z7 v w n f g (IntKind.i64.wrap ((i : Int) + 1)))
    else none
   else none
  else some (x7 v w n f g i) := by kernel_rfl
structure Y7 where
  v : List UInt8
  w : List UInt8
  n : Nat
  f : Nat → Mr
  g : Nat → Mr
  i : Nat
noncomputable def e7 : Y7 → List AV × Hp := fun ⟨v, w, n, f, g, i⟩ => ([.ref 0 0, .ref 1 0, .int .i64 i], hp7 v w n n f g)
def d7 : List AV × Hp → Y7
  | ([_, _, .int _ i], some (.cells [.str v, .sl _ n f]) :: some (.cells [.str w, .sl _ _ g]) :: _) => ⟨v, w, n, unG CM f, unG CM g, i.toNat⟩
  | _ => ⟨[], [], 0, fun _ => default, fun _ => default, 0⟩
theorem i7 : ∀ x, d7 (e7 x) = x := by
  rintro ⟨v, w, n, f, g, i⟩
  show (⟨v, w, n, unG CM (rowG CM f), unG CM (rowG CM g), i⟩ : Y7) = _
  rw [unG_rowG okCM, unG_rowG okCM]
def p7 : Y7 → Prop := fun ⟨v, w, n, f, g, i⟩ => i ≤ n ∧ n ≤ bnd
noncomputable def r7 : Y7 → T (AX × St) := fun ⟨v, w, n, f, g, i⟩ => .br (decide (fbad (samM f g) (n - i) i < n)) (.leaf (b7 v w n f g)) (.leaf (x7 v w n f g n))
noncomputable def L7 : LoopT := fun k => match Nat.beq k 400036 with
  | true => some (lccon (mbits 44 38) e7 d7 p7 r7)
  | false => none
theorem l7 : LoopOk Tryd.prog tabB3.pf (fun n => hd Tryd.prog tabB3.pf tabB3.con.run (fun f => (H0 f).to) n 9) h7.to 7 0 none L7 (loopAt Tryd.prog 7 0) := by
  rw [show loopAt Tryd.prog 7 0 = .loop (lbody Tryd.prog 7 0) by kernel_rfl]
  refine loop_c (hdT_le (m := 20) 9) (m := 20) (lv := mbits 44 38) (p := p7) (res := r7) i7 (within_of _ (by rw [show loopsOf (lbody Tryd.prog 7 0) = [] by kernel_rfl]; simp)) (by kernel_rfl) (fun ⟨v, w, n, f, g, i⟩ => n - i) ?_
  rintro ⟨v, w, n, f, g, i⟩ ⟨h1, h2⟩
  have ht := q7 L7 v w n i f g
  have hb := h2
  simp only [bnd] at hb
  by_cases hi : i < n
  · have hd := fbad_step (q := samM f g) hi
    rw [decide_eq_true (show (i : Int) < n by omega), in_row hi, Int.toNat_natCast, w64n (by omega)] at ht
    cases hq : samM f g i with
    | true =>
      rw [hq] at ht hd
      rw [cond_true] at hd
      left
      refine ⟨⟨v, w, n, f, g, i + 1⟩, ⟨by omega, h2⟩, by simp only; omega, ?_, ht⟩
      simp only [r7, T.run_br, hd]
    | false =>
      rw [hq] at ht hd
      rw [cond_false] at hd
      right
      refine ⟨_, by simp [b7], ?_, ht⟩
      simp only [r7, T.run_br, hd, decide_eq_true hi] <;> rfl
  · obtain rfl : i = n := by omega
    rw [decide_eq_false (show ¬ (i : Int) < i by omega)] at ht
    right
    refine ⟨_, by simp [x7], ?_, ht⟩
    simp only [r7, T.run_br, Nat.sub_self, fbad, decide_eq_false (Nat.lt_irrefl i)] <;> rfl
theorem u7 (v w : List UInt8) (n m : Nat) (f g : Nat → Mr) : (evn tabB3 h7 L7 7 [.agg [.str v, .sl 6 n (rowG CM f)], .agg [.str w, .sl 6 m (rowG CM g)]] []).run =
  bif !v == w then some (.bool false, [])
  else bif (n : Int) != (m : Int) then some (.bool false, [])
  else bif isEn e7 p7 ([.ref 0 0, .ref 1 0, .int .i64 0], hp7 v w n m f g) then
   bif decide (fbad (samM (unG CM (rowG CM f)) (unG CM (rowG CM g))) (n - 0) 0 < n) then some (.bool false, []) else some (.bool true, [])
  else none := by kernel_rfl
def eqV (v w : List UInt8) (f g : Nat → Mr) (n m : Nat) : Bool := v == w && eqR f g n m
structure X7 where
  v : List UInt8
  n : Nat
  f : Nat → Mr
  w : List UInt8
  m : Nat
  g : Nat → Mr
def en7 : X7 → List AV := fun ⟨v, n, f, w, m, g⟩ => [.agg [.str v, .sl 6 n (rowG CM f)], .agg [.str w, .sl 6 m (rowG CM g)]]
def de7 : List AV → X7
  | [.agg [.str v, .sl _ n f], .agg [.str w, .sl _ m g]] => ⟨v, n, unG CM f, w, m, unG CM g⟩
  | _ => ⟨[], 0, fun _ => default, [], 0, fun _ => default⟩
def pr7 : X7 → Prop := fun ⟨v, n, f, w, m, g⟩ => n ≤ bnd
def rs7 : X7 → T AV := fun ⟨v, n, f, w, m, g⟩ => .leaf (.bool (eqV v w f g n m))
noncomputable def c7 : List AV → T AV := ccon en7 de7 pr7 rs7
theorem k7 (v : List UInt8) (n : Nat) (f : Nat → Mr) (w : List UInt8) (m : Nat) (g : Nat → Mr) (h : n ≤ bnd) : isEn en7 pr7 [.agg [.str v, .sl 6 n (rowG CM f)], .agg [.str w, .sl 6 m (rowG CM g)]] = true := isEn_true (enc := en7) (p := pr7) ⟨v, n, f, w, m, g⟩ h
theorem s7 : Sound1 Tryd.prog ⟨7, true, pcon c7⟩ := by
  refine sound_c (soundTab_of all_tabB3) H0 (fun ⟨v, n, f, w, m, g⟩ => by show (⟨v, n, unG CM (rowG CM f), w, m, unG CM (rowG CM g)⟩ : X7) = _; rw [unG_rowG okCM, unG_rowG okCM]) (hn := h7) (m := 20) (k := 9) (Λ := L7) (oneLoop (by kernel_rfl) l7) ?_
  rintro ⟨v, n, f, w, m, g⟩ hp hF
  refine (u7 v w n m f g).trans ?_
  show _ = some (AV.bool (eqV v w f g n m), ([] : Hp))
  unfold eqV eqR
  cases (v == w) with
  | false => rfl
  | true =>
    by_cases hnm : n = m
    · subst hnm
      rw [show ((n : Int) != n) = false by simp, cond_false, show isEn e7 p7 ([.ref 0 0, .ref 1 0, .int .i64 0], hp7 v w n n f g) = true from isEn_true (enc := e7) (p := p7) ⟨v, w, n, f, g, 0⟩ ⟨Nat.zero_le _, hp⟩, unG_rowG okCM, unG_rowG okCM, Nat.sub_zero, show (n == n) = true by simp]
      simp only [cond_true, Bool.true_and]
      cases decide (fbad (samM f g) n 0 < n) <;> rfl
    · rw [show ((n : Int) != m) = true by rw [bne_iff_ne]; omega, show (n == m) = false by simpa using hnm]
      rfl
noncomputable def tabB4 : Tab := ⟨12, true, pcon c12⟩ :: ⟨7, true, pcon c7⟩ :: tabB3
theorem all_tabB4 : ∀ e, e ∈ tabB4 → Sound1 Tryd.prog e := sound_mem_tab s12 (sound_mem_tab s7 all_tabB3)
end Go.Mvs
namespace Go.Mvs
open Go Go.Proofs Go.Ab
set_option maxRecDepth 100000
set_option linter.unusedVariables false
set_option linter.unusedSimpArgs false

/-! ### Fit -/
noncomputable def oneRow (x : Mr) : List Mr := lsM (unG CM (fromF 0 (rowF 6 (cM x)))) 1 0
theorem oneRow_eq (x : Mr) : oneRow x = [x] := by
  unfold oneRow
  rw [show rowF 6 (cM x) = rowG CM (fun _ => x) from funext fun i => rowF_rec okCM rfl i, show fromF 0 (rowG CM fun _ => x) = rowG CM (fun _ => x) from rfl, unG_rowG okCM]
  rfl
noncomputable def tx1 (x : Mr) : List UInt8 := txM [] (oneRow x)
noncomputable def ret4 (v : List UInt8) (n : Nat) (f : Nat → Mr) (x : Mr) (O : On) : AX × St :=
  (.ret, { tm := tmOf 104 [(2, .bool false)], ms := [], hp := [some (.cells [.str v, .sl 6 n (rowG CM f)]), lastC x, some (.row 6 1 (rowF 6 (cM x))), lastC O.m, faC O.f O.fa] })
noncomputable def z4 (v : List UInt8) (n : Nat) (f : Nat → Mr) (i : Int) : St := { tm := encGo (mbits 1970324836974594 104) [.ref 0 0, .sl 6 n (rowG CM f), .int .i64 n, .int .i64 i], ms := [], hp := [some (.cells [.str v, .sl 6 n (rowG CM f)])] }
noncomputable def x4 (v : List UInt8) (n : Nat) (f : Nat → Mr) (i : Int) : AX × St := (.exit 0, { tm := tmOf 104 [(1, .ref 0 0), (48, .sl 6 n (rowG CM f)), (49, .int .i64 n), (50, .int .i64 i), (51, .bool false)], ms := [], hp := [some (.cells [.str v, .sl 6 n (rowG CM f)])] })
noncomputable def nx4 (v : List UInt8) (n i : Nat) (f : Nat → Mr) (x : Mr) (O : On) : Option (AX × St) :=
  bif (O.f : Int) != 0 then some (ret4 v n f x O)
  else bif !beqM x O.m then some (ret4 v n f x O)
  else bif decide ((i : Int) > 0) then
   bif decide (0 ≤ IntKind.i64.wrap ((i : Int) - 1) ∧ IntKind.i64.wrap ((i : Int) - 1) < (n : Int)) then
    bif isEn en11 p11 [avM (f (IntKind.i64.wrap ((i : Int) - 1)).toNat), avM x] then
     bif !folO (f (IntKind.i64.wrap ((i : Int) - 1)).toNat) x then some (ret4 v n f x O) else some (.normal, z4 v n f (IntKind.i64.wrap ((i : Int) + 1)))
    else none
   else none
  else some (.normal, z4 v n f (IntKind.i64.wrap ((i : Int) + 1)))
theorem q4 (Λ0 : LoopT) (v : List UInt8) (n i : Nat) (f : Nat → Mr) : (rdn tabB4 h4 Λ0 4 0 0 (z4 v n f i)).run =
  bif decide ((i : Int) < (n : Int)) then
   bif decide (0 ≤ (i : Int) ∧ (i : Int) < (n : Int)) then
    bif isEn en10 pr10 [.agg [.str [], .sl 6 1 (fromF 0 (rowF 6 (cM (f (i : Int).toNat))))]] then
     bif at9 (tx1 (f (i : Int).toNat)) 0 then nx4 v n i f (f (i : Int).toNat) (oneO (tx1 (f (i : Int).toNat)) (0 : Int).toNat)
     else none
    else none
   else none
  else some (x4 v n f i) := by kernel_rfl
def okR (f : Nat → Mr) (i : Nat) : Bool := (oneO (txM [] [f i]) 0).f == 0 && (beqM (f i) (oneO (txM [] [f i]) 0).m && (i == 0 || folO (f (i - 1)) (f i)))
theorem tx1_eq (x : Mr) : tx1 x = txM [] [x] := by
  unfold tx1
  rw [oneRow_eq]
theorem tx_one (x : Mr) : txM [] [x] = wrdM x := joinS_one _
theorem t4 (Λ0 : LoopT) (v : List UInt8) (n i : Nat) (f : Nat → Mr) (h1 : i ≤ n) (h2 : n ≤ 32) (h3 : smM f n) :
    (rdn tabB4 h4 Λ0 4 0 0 (z4 v n f i)).run = bif decide (i < n) then
      bif okR f i then some (.normal, z4 v n f ((i + 1 : Nat) : Int)) else some (ret4 v n f (f i) (oneO (txM [] [f i]) 0))
    else some (x4 v n f n) := by
  refine (q4 Λ0 v n i f).trans ?_
  by_cases hi : i < n
  · have hs := h3 i hi
    rw [decide_eq_true (show (i : Int) < n by omega), in_row hi, decide_eq_true hi, Int.toNat_natCast, tx1_eq]
    have e10 : isEn en10 pr10 [.agg [.str [], .sl 6 1 (fromF 0 (rowF 6 (cM (f i))))]] = true := by
      rw [show rowF 6 (cM (f i)) = rowG CM (fun _ => f i) from funext fun j => rowF_rec okCM rfl j]
      exact k10' [] 1 (fun _ => f i) ⟨by omega, fun j _ => hs, by rw [show lsM (fun _ => f i) 1 0 = [f i] from rfl, tx_one]; have := wrdM_len hs.1 hs.2; omega⟩
    have hl := wrdM_len hs.1 hs.2
    have e9 : at9 (txM [] [f i]) 0 = true := by
      rw [tx_one]
      exact k9 (wrdM (f i)) 0 ⟨Nat.zero_le _, by simp only [bnd]; omega⟩
    rw [e10, e9, show (0 : Int).toNat = 0 from rfl]
    simp only [cond_true]
    unfold nx4 okR
    rw [w64n (by omega), ne0]
    cases hf : ((oneO (txM [] [f i]) 0).f == 0) with
    | false =>
      rw [show ((oneO (txM [] [f i]) 0).f != 0) = true by simpa using hf]
      rfl
    | true =>
      rw [show ((oneO (txM [] [f i]) 0).f != 0) = false by simpa using hf]
      simp only [cond_false, Bool.true_and]
      cases beqM (f i) (oneO (txM [] [f i]) 0).m with
      | false => rfl
      | true =>
        cases i with
        | zero => rfl
        | succ k =>
          rw [decide_eq_true (show ((k + 1 : Nat) : Int) > 0 by omega), show ((k + 1 : Nat) : Int) - 1 = (k : Nat) by omega, w64 (n := (k : Nat)) (by omega) (by omega), in_row (show k < n by omega), Int.toNat_natCast, show isEn en11 p11 [avM (f k), avM (f (k + 1))] = true from k11 (f k) (f (k + 1)) trivial]
          simp only [cond_true, Nat.add_sub_cancel, Bool.not_true, cond_false, Bool.true_and]
          cases folO (f k) (f (k + 1)) <;> rfl
  · obtain rfl : i = n := by omega
    rw [decide_eq_false (show ¬ (i : Int) < i by omega), decide_eq_false hi]
    rfl
structure Y4 where
  v : List UInt8
  n : Nat
  f : Nat → Mr
  i : Nat
noncomputable def e4 : Y4 → List AV × Hp := fun ⟨v, n, f, i⟩ => ([.ref 0 0, .sl 6 n (rowG CM f), .int .i64 n, .int .i64 i], [some (.cells [.str v, .sl 6 n (rowG CM f)])])
def d4 : List AV × Hp → Y4
  | ([_, .sl _ n f, _, .int _ i], some (.cells [.str v, _]) :: _) => ⟨v, n, unG CM f, i.toNat⟩
  | _ => ⟨[], 0, fun _ => default, 0⟩
theorem i4 : ∀ x, d4 (e4 x) = x := by
  rintro ⟨v, n, f, i⟩
  show (⟨v, n, unG CM (rowG CM f), i⟩ : Y4) = _
  rw [unG_rowG okCM]
def p4 : Y4 → Prop := fun ⟨v, n, f, i⟩ => i ≤ n ∧ n ≤ 32 ∧ smM f n
noncomputable def r4 : Y4 → T (AX × St) := fun ⟨v, n, f, i⟩ => .br (decide (fbad (okR f) (n - i) i < n)) (.leaf (ret4 v n f (f (fbad (okR f) (n - i) i)) (oneO (txM [] [f (fbad (okR f) (n - i) i)]) 0))) (.leaf (x4 v n f n))
noncomputable def L4 : LoopT := fun k => match Nat.beq k 700067 with
  | true => some (lccon (mbits 1970324836974594 104) e4 d4 p4 r4)
  | false => none
theorem l4 : LoopOk Tryd.prog tabB4.pf (fun n => hd Tryd.prog tabB4.pf tabB4.con.run (fun f => (H0 f).to) n 9) h4.to 4 0 none L4 (loopAt Tryd.prog 4 0) := by
  rw [show loopAt Tryd.prog 4 0 = .loop (lbody Tryd.prog 4 0) by kernel_rfl]
  refine loop_c (hdT_le (m := 20) 9) (m := 20) (lv := mbits 1970324836974594 104) (p := p4) (res := r4) i4 (within_of _ (by rw [show loopsOf (lbody Tryd.prog 4 0) = [] by kernel_rfl]; simp)) (by kernel_rfl) (fun ⟨v, n, f, i⟩ => n - i) ?_
  rintro ⟨v, n, f, i⟩ ⟨h1, h2, h3⟩
  have ht := t4 L4 v n i f h1 h2 h3
  by_cases hi : i < n
  · have hd := fbad_step (q := okR f) hi
    rw [decide_eq_true hi, cond_true] at ht
    cases hq : okR f i with
    | true =>
      rw [hq] at ht hd
      rw [cond_true] at hd
      left
      refine ⟨⟨v, n, f, i + 1⟩, ⟨by omega, h2, h3⟩, by simp only; omega, ?_, ht⟩
      simp only [r4, T.run_br, hd]
    | false =>
      rw [hq] at ht hd
      rw [cond_false] at hd
      right
      refine ⟨_, by simp [ret4], ?_, ht⟩
      simp only [r4, T.run_br, hd, decide_eq_true hi] <;> rfl
  · obtain rfl : i = n := by omega
    rw [decide_eq_false hi, cond_false] at ht
    right
    refine ⟨_, by simp [x4], ?_, ht⟩
    simp only [r4, T.run_br, Nat.sub_self, fbad, decide_eq_false (Nat.lt_irrefl i)] <;> rfl
noncomputable def af4 (v : List UInt8) (n : Nat) (f : Nat → Mr) (g : Nat → Mr) : Option (AV × Hp) :=
  bif isEn en10 pr10 [.agg [.str v, .sl 6 n (rowG CM f)]] then
   bif ((prsM (txM v (lsM g n 0))).e : Int) == 0 then
    bif isEn en12 pr12 [.sl 6 (prsM (txM v (lsM g n 0))).L.length (rowG CM (fnG CM.df (prsM (txM v (lsM g n 0))).L)), .sl 6 n (rowG CM f)] then
     some (.bool (eqR (unG CM (rowG CM (fnG CM.df (prsM (txM v (lsM g n 0))).L))) g (prsM (txM v (lsM g n 0))).L.length n), [])
    else none
   else some (.bool false, [])
  else none
theorem u4 (v : List UInt8) (n : Nat) (f : Nat → Mr) : (evn tabB4 h4 L4 4 [.agg [.str v, .sl 6 n (rowG CM f)]] []).run =
  bif (n : Int) == 0 then
   bif ((prsM v).e : Int) == 0 then
    bif (prsM v).v == v then some (.bool (((prsM v).L.length : Int) == 0), []) else some (.bool false, [])
   else some (.bool false, [])
  else bif !v == [] then some (.bool false, [])
  else bif decide ((n : Int) > 32) then some (.bool false, [])
  else bif isEn e4 p4 ([.ref 0 0, .sl 6 n (rowG CM f), .int .i64 n, .int .i64 0], [some (.cells [.str v, .sl 6 n (rowG CM f)])]) then
   bif decide (fbad (okR (unG CM (rowG CM f))) (n - 0) 0 < n) then some (.bool false, [])
   else af4 v n f (unG CM (rowG CM f))
  else none := by kernel_rfl
end Go.Mvs

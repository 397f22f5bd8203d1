/- Lemmas for the claims of this seat (a verified symbolic evaluator, and contracts of functions): own work; no condition. -/
import Derived.Test.YtibanfkcemnifaaDoorEvF
import Derived.Test.YtibanfkcemnifaaDoorFnL
import Derived.Test.YtibanfkcemnifaaDoorFnK
namespace Go.Sem
open Go.Ab
set_option linter.unusedVariables false
/-! ### The reference's insertion, over lists -/
/-- Where one stands that all before are not behind and all after are. -/
theorem insR_at {α : Type} {F : α → α → Int} {x : α} : ∀ {l r : List α}, (∀ y, y ∈ l → F y x ≤ 0) → (∀ y, y ∈ r → ¬ F y x ≤ 0) → insR F x (l ++ r) = l ++ x :: r
  | [], [], _, _ => rfl
  | [], y :: r, _, h => by
    show insR F x (y :: r) = _
    unfold insR
    rw [if_neg (h y (by simp))]; rfl
  | y :: l, r, h1, h2 => by
    show insR F x (y :: (l ++ r)) = _
    unfold insR
    rw [if_pos (h1 y (by simp)), insR_at (fun z hz => h1 z (by simp [hz])) h2]; rfl
/-- How far back an element goes. -/
def bkS {α : Type} (F : α → α → Int) (o : Nat → α) (x : α) : Nat → Nat
  | 0 => 0
  | k + 1 => if 0 < F (o k) x then bkS F o x k else k + 1
theorem bkS_le {α : Type} (F : α → α → Int) (o : Nat → α) (x : α) : ∀ k, bkS F o x k ≤ k
  | 0 => Nat.le_refl _
  | k + 1 => by
    unfold bkS
    split
    · have := bkS_le F o x k; omega
    · omega
theorem bkS_hi {α : Type} {F : α → α → Int} {o : Nat → α} {x : α} : ∀ k j, bkS F o x k ≤ j → j < k → 0 < F (o j) x
  | 0, j, h1, h2 => by omega
  | k + 1, j, h1, h2 => by
    unfold bkS at h1
    split at h1
    · rename_i h
      rcases Nat.lt_or_ge j k with hj | hj
      · exact bkS_hi k j h1 hj
      · obtain rfl : j = k := by omega
        exact h
    · omega
theorem bkS_lo {α : Type} {F : α → α → Int} {o : Nat → α} {x : α} : ∀ k, bkS F o x k = 0 ∨ F (o (bkS F o x k - 1)) x ≤ 0
  | 0 => .inl rfl
  | k + 1 => by
    unfold bkS
    split
    · exact bkS_lo k
    · rename_i h; right; simp only [Nat.add_sub_cancel]; omega
/-- One put into its place. -/
def insF {α : Type} (o : Nat → α) (k : Nat) (x : α) (j : Nat) : α := if j < k then o j else if j = k then x else o (j - 1)
theorem insF_seg {α : Type} (o : Nat → α) {k m : Nat} (x : α) (h : k ≤ m) : seg (insF o k x) 0 (m + 1) = seg o 0 k ++ x :: seg o k m := by
  rw [seg_app (insF o k x) (Nat.zero_le k) (show k ≤ m + 1 by omega), seg_app (insF o k x) (show k ≤ k + 1 by omega) (show k + 1 ≤ m + 1 by omega), seg_one]
  have e1 : seg (insF o k x) 0 k = seg o 0 k := seg_congr fun j _ hj => by unfold insF; rw [if_pos hj]
  have e2 : insF o k x k = x := by unfold insF; rw [if_neg (Nat.lt_irrefl k), if_pos rfl]
  have e3 : seg (insF o k x) (k + 1) (m + 1) = seg o k m := by
    have := seg_shift (f := insF o k x) (g := o) (a := k + 1) (b := m + 1) (a' := k) fun j hj => by
      unfold insF
      rw [if_neg (by omega), if_neg (by omega)]
      congr 1; omega
    rw [this]
    congr 1; omega
  rw [e1, e2, e3]; rfl
theorem ins_step {α : Type} {F : α → α → Int} (hF : IsOrd F) {o : Nat → α} {m : Nat} (x : α) (hs : Srt F (seg o 0 m)) : seg (insF o (bkS F o x m) x) 0 (m + 1) = insR F x (seg o 0 m) := by
  have hk := bkS_le F o x m
  rw [insF_seg o x hk, seg_app o (Nat.zero_le _) hk]
  refine (insR_at (fun y hy => ?_) (fun y hy => ?_)).symm
  · obtain ⟨j, _, hj, rfl⟩ := seg_mem.1 hy
    rcases bkS_lo (F := F) (o := o) (x := x) m with h0 | h0
    · omega
    · rcases Nat.lt_or_ge j (bkS F o x m - 1) with h1 | h1
      · have h2 := (srt_seg.1 hs) j (bkS F o x m - 1) (Nat.zero_le _) h1 (by omega)
        exact hF.tr _ _ _ h2 h0
      · rw [show j = bkS F o x m - 1 by omega]; exact h0
  · obtain ⟨j, hj1, hj2, rfl⟩ := seg_mem.1 hy
    have := bkS_hi (F := F) m j hj1 hj2
    omega
/-- The first ones of a row, put in one by one. -/
def outS {α : Type} (F : α → α → Int) (d f : Nat → α) : Nat → Nat → α
  | 0 => d
  | i + 1 => insF (outS F d f i) (bkS F (outS F d f i) (f i) i) (f i)
theorem outS_ok {α : Type} {F : α → α → Int} (hF : IsOrd F) (d f : Nat → α) : ∀ i, seg (outS F d f i) 0 i = sortS F (seg f 0 i)
  | 0 => rfl
  | i + 1 => by
    have ih := outS_ok hF d f i
    have hs : Srt F (seg (outS F d f i) 0 i) := by rw [ih]; exact sortS_srt hF _
    show seg (insF (outS F d f i) (bkS F (outS F d f i) (f i) i) (f i)) 0 (i + 1) = _
    rw [ins_step hF (f i) hs, ih, seg_app f (Nat.zero_le i) (show i ≤ i + 1 by omega), seg_one]
    unfold sortS
    rw [List.foldl_append]; rfl
end Go.Sem
namespace Go.Sem

open Go Go.Proofs Go.Ab

set_option maxRecDepth 100000

set_option linter.unusedVariables false

set_option linter.unusedSimpArgs false

/-! ### The reference's Sort -/

abbrev OutS := Option (Nat × (Nat → List UInt8))

def rAS : OutS → AV
  | none => .nilsl
  | some (m, _) => .row 0 1 0 m

def rHS : OutS → Hp
  | none => []
  | some (m, o) => [some (.row 1 m (rowS o))]

def unHS : Hp → OutS
  | [some (.row _ m g)] => some (m, unS g)
  | _ => none

theorem unHS_rHS (O : OutS) : unHS (rHS O) = O := by
  rcases O with _ | ⟨m, o⟩ <;> rfl

def lenO : OutS → Nat
  | none => 0
  | some (m, _) => m

theorem qA24 (f o : Nat → List UInt8) (n m i k : Nat) : (rdn tabE9 h24 noLoops 24 0 1 { tm := encGo (mbits 57 50) [.sl 1 n (rowS f), .row 0 1 0 m, .int .i64 i, .int .i64 k], ms := [], hp := [some (.row 1 m (rowS o))] }).run =
  bif decide ((↑k : Int) > (0 : Int)) then
   bif decide ((0 : Int) ≤ IntKind.i64.wrap ((↑k : Int) - (1 : Int)) ∧ IntKind.i64.wrap ((↑k : Int) - (1 : Int)) < (↑m : Int)) then
    bif decide (0 + (IntKind.i64.wrap ((↑k : Int) - (1 : Int))).toNat < m) then
     bif decide ((0 : Int) ≤ (↑i : Int) ∧ (↑i : Int) < (↑n : Int)) then
      bif decide (cmpV (o (0 + (IntKind.i64.wrap ((↑k : Int) - (1 : Int))).toNat)) (f (↑i : Int).toNat) > (0 : Int)) then
       some ((AX.normal, { tm := tmOf 50 [(0, AV.sl 1 n (rowS f)), (3, AV.row 0 1 0 m), (4, AV.int IntKind.i64 (↑i : Int)), (5, AV.int IntKind.i64 (IntKind.i64.wrap ((↑k : Int) - (1 : Int))))], ms := [], hp := [some (AObj.row 1 m (rowS o))] }))
      else
       some ((AX.exit 2, { tm := tmOf 50 [(0, AV.sl 1 n (rowS f)), (3, AV.row 0 1 0 m), (4, AV.int IntKind.i64 (↑i : Int)), (5, AV.int IntKind.i64 (↑k : Int)), (29, AV.bool false)], ms := [], hp := [some (AObj.row 1 m (rowS o))] }))
     else
      none
    else
     none
   else
    none
  else
   some ((AX.exit 2, { tm := tmOf 50 [(0, AV.sl 1 n (rowS f)), (3, AV.row 0 1 0 m), (4, AV.int IntKind.i64 (↑i : Int)), (5, AV.int IntKind.i64 (↑k : Int)), (29, AV.bool false)], ms := [], hp := [some (AObj.row 1 m (rowS o))] })) := by kernel_rfl

theorem qB24 (f : Nat → List UInt8) (n i : Nat) : (rdn tabE9 h24 noLoops 24 0 1 { tm := encGo (mbits 57 50) [.sl 1 n (rowS f), .nilsl, .int .i64 i, .int .i64 0], ms := [], hp := [] }).run =
  some ((AX.exit 2, { tm := tmOf 50 [(0, AV.sl 1 n (rowS f)), (3, AV.nilsl), (4, AV.int IntKind.i64 (↑i : Int)), (5, AV.int IntKind.i64 (0 : Int)), (29, AV.bool false)], ms := [], hp := [] })) := by kernel_rfl

structure Y24i where
  n : Nat
  f : Nat → List UInt8
  O : OutS
  i : Nat
  k : Nat

def eL24i : Y24i → List AV × Hp := fun ⟨n, f, O, i, k⟩ => ([.sl 1 n (rowS f), rAS O, .int .i64 i, .int .i64 k], rHS O)

def dL24i : List AV × Hp → Y24i
  | ([.sl _ n g, _, .int _ i, .int _ k], hp) => ⟨n, unS g, unHS hp, i.toNat, k.toNat⟩
  | _ => ⟨0, fun _ => [], none, 0, 0⟩

theorem iL24i : ∀ x, dL24i (eL24i x) = x := by
  rintro ⟨n, f, O, i, k⟩
  simp only [eL24i, dL24i, unHS_rHS, unS_rowS, Int.toNat_natCast]

def pL24i : Y24i → Prop := fun ⟨n, f, O, i, k⟩ => i < n ∧ n ≤ bnd ∧ k ≤ lenO O ∧ lenO O ≤ bnd

def rL24i : Y24i → T (AX × St)
  | ⟨n, f, none, i, k⟩ => .leaf (.exit 2, { tm := tmOf 50 [(0, .sl 1 n (rowS f)), (3, .nilsl), (4, .int .i64 i), (5, .int .i64 (0 : Int)), (29, .bool false)], ms := [], hp := [] })
  | ⟨n, f, some (m, o), i, k⟩ => .leaf (.exit 2, { tm := tmOf 50 [(0, .sl 1 n (rowS f)), (3, .row 0 1 0 m), (4, .int .i64 i), (5, .int .i64 (bkS cmpV o (f i) k)), (29, .bool false)], ms := [], hp := [some (.row 1 m (rowS o))] })

noncomputable def LI24 : LoopT := fun k => match Nat.beq k 600026 with
  | true => some (lccon (mbits 57 50) eL24i dL24i pL24i rL24i)
  | false => none

theorem l24i : LoopOk Tryd.prog tabE9.pf (fun n => hd Tryd.prog tabE9.pf tabE9.con.run (fun f => (H0 f).to) n 9) h24.to 24 0 none LI24 (loopAt Tryd.prog 24 1) := by
  rw [show loopAt Tryd.prog 24 1 = .loop (lbody Tryd.prog 24 1) by kernel_rfl]
  refine loop_c (hdT_le (m := 20) 9) (m := 20) (lv := mbits 57 50) (p := pL24i) (res := rL24i) iL24i (within_of _ (by rw [show loopsOf (lbody Tryd.prog 24 1) = [] by kernel_rfl]; simp)) (by kernel_rfl) (fun ⟨n, f, O, i, k⟩ => k) ?_
  rintro ⟨n, f, O, i, k⟩ ⟨h1, h2, h3, h4⟩
  have hb2 := h2
  have hb4 := h4
  simp only [bnd] at hb2 hb4
  rcases O with _ | ⟨m, o⟩
  · obtain rfl : k = 0 := by simpa [lenO] using h3
    right
    exact ⟨_, by simp, rfl, qB24 f n i⟩
  · simp only [lenO] at h3 h4 hb4
    have ht := qA24 f o n m i k
    cases k with
    | zero =>
      right
      exact ⟨_, by simp, rfl, ht⟩
    | succ k =>
      rw [decide_eq_true (show ((k + 1 : Nat) : Int) > 0 by omega), show ((k + 1 : Nat) : Int) - 1 = (k : Nat) by omega, w64 (n := (k : Nat)) (by omega) (by omega), in_row (show k < m by omega), in_row h1] at ht
      simp only [Int.toNat_natCast, Nat.zero_add, cond_true, decide_eq_true (show k < m by omega)] at ht
      by_cases hq : 0 < cmpV (o k) (f i)
      · rw [decide_eq_true (show cmpV (o k) (f i) > 0 from hq)] at ht
        left
        refine ⟨⟨n, f, some (m, o), i, k⟩, ⟨h1, h2, by simp only [lenO]; omega, h4⟩, by simp only; omega, ?_, ht⟩
        simp only [rL24i, bkS, if_pos hq]
      · rw [decide_eq_false (show ¬ cmpV (o k) (f i) > 0 from hq)] at ht
        right
        refine ⟨_, by simp, ?_, ht⟩
        simp only [rL24i, bkS, if_neg hq]
        rfl

def nilF : Nat → List UInt8 := fun _ => []

def outO (f : Nat → List UInt8) : Nat → OutS
  | 0 => none
  | i + 1 => some (i + 1, outS cmpV nilF f (i + 1))

structure Y24 where
  n : Nat
  f : Nat → List UInt8
  i : Nat

def eL24 : Y24 → List AV × Hp := fun ⟨n, f, i⟩ => ([.sl 1 n (rowS f), rAS (outO f i), .int .i64 i], rHS (outO f i))

def dL24 : List AV × Hp → Y24
  | ([.sl _ n g, _, .int _ i], _) => ⟨n, unS g, i.toNat⟩
  | _ => ⟨0, fun _ => [], 0⟩

theorem iL24 : ∀ x, dL24 (eL24 x) = x := by
  rintro ⟨n, f, i⟩
  simp only [eL24, dL24, unS_rowS, Int.toNat_natCast]

def pL24 : Y24 → Prop := fun ⟨n, f, i⟩ => i ≤ n ∧ n ≤ 8796093022208

def rL24 : Y24 → T (AX × St) := fun ⟨n, f, i⟩ => .br (decide (n = 0))
  (.leaf (.exit 0, { tm := tmOf 50 [(0, .sl 1 n (rowS f)), (3, .nilsl), (4, .int .i64 (0 : Int)), (10, .bool false)], ms := [], hp := [] }))
  (.leaf (.exit 0, { tm := tmOf 50 [(0, .sl 1 n (rowS f)), (3, .row 0 1 0 n), (4, .int .i64 n), (10, .bool false)], ms := [], hp := [some (.row 1 n (rowS (outS cmpV nilF f n)))] }))

noncomputable def L24 : LoopT := fun k => match Nat.beq k 300078 with
  | true => some (lccon (mbits 25 50) eL24 dL24 pL24 rL24)
  | false => LI24 k

theorem qC24 (f o : Nat → List UInt8) (n m i : Nat) : (rdn tabE9 h24 L24 24 0 0 { tm := encGo (mbits 25 50) [.sl 1 n (rowS f), .row 0 1 0 m, .int .i64 i], ms := [], hp := [some (.row 1 m (rowS o))] }).run =
  bif decide ((↑i : Int) < (↑n : Int)) then
   bif isEn eL24i pL24i ([AV.sl 1 n (rowS f), AV.row 0 1 0 m, AV.int IntKind.i64 (↑i : Int), AV.int IntKind.i64 (↑m : Int)], [some (AObj.row 1 m (rowS o))]) then
    bif decide ((0 : Int) ≤ (↑(bkS cmpV o (f i) m) : Int) ∧ (↑(bkS cmpV o (f i) m) : Int) ≤ (↑m : Int)) then
     bif decide (0 + (bkS cmpV o (f i) m) ≤ m) then
      bif decide ((bkS cmpV o (f i) m) = 0) then
       bif decide ((0 : Int) ≤ (↑i : Int) ∧ (↑i : Int) < (↑n : Int)) then
        bif decide ((0 : Int) ≤ (↑(bkS cmpV o (f i) m) : Int) ∧ (↑(bkS cmpV o (f i) m) : Int) ≤ (↑m : Int)) then
         bif decide (0 + (bkS cmpV o (f i) m) + (m - (bkS cmpV o (f i) m)) ≤ m) then
          bif decide ((1 + (m - (bkS cmpV o (f i) m))) * 16 ≤ 140737488355328 ∧ 1 + (m - (bkS cmpV o (f i) m)) ≤ 4611686018427387903) then
           some ((AX.normal,
  { tm := tmOf 50 [(0, AV.sl 1 n (rowS f)), (3, AV.row 0 1 0 (1 + (m - (bkS cmpV o (f i) m)))), (4, AV.int IntKind.i64 (IntKind.i64.wrap ((↑i : Int) + (1 : Int))))], ms := [],
    hp :=
      [some
          (AObj.row 1 (1 + (m - (bkS cmpV o (f i) m)))
            (appF
              1 (fun j => rowF 1 [AV.str (f i)] (0 + j)) fun j => rowS o (0 + (bkS cmpV o (f i) m) + j)))] }))
          else
           none
         else
          none
        else
         none
       else
        none
      else
       bif decide ((bkS cmpV o (f i) m) * 16 ≤ 140737488355328 ∧ (bkS cmpV o (f i) m) ≤ 4611686018427387903) then
        bif decide ((0 : Int) ≤ (↑i : Int) ∧ (↑i : Int) < (↑n : Int)) then
         bif decide ((bkS cmpV o (f i) m) = (bkS cmpV o (f i) m)) then
          bif decide (((bkS cmpV o (f i) m) + 1) * 16 ≤ 140737488355328 ∧ (bkS cmpV o (f i) m) + 1 ≤ 4611686018427387903) then
           bif decide ((0 : Int) ≤ (↑(bkS cmpV o (f i) m) : Int) ∧ (↑(bkS cmpV o (f i) m) : Int) ≤ (↑m : Int)) then
            bif decide (0 + (bkS cmpV o (f i) m) + (m - (bkS cmpV o (f i) m)) ≤ m) then
             bif decide ((bkS cmpV o (f i) m) + 1 = (bkS cmpV o (f i) m) + 1) then
              bif decide (((bkS cmpV o (f i) m) + 1 + (m - (bkS cmpV o (f i) m))) * 16 ≤ 140737488355328 ∧ (bkS cmpV o (f i) m) + 1 + (m - (bkS cmpV o (f i) m)) ≤ 4611686018427387903) then
               some ((AX.normal,
  { tm := tmOf 50 [(0, AV.sl 1 n (rowS f)), (3, AV.row 0 1 0 ((bkS cmpV o (f i) m) + 1 + (m - (bkS cmpV o (f i) m)))), (4, AV.int IntKind.i64 (IntKind.i64.wrap ((↑i : Int) + (1 : Int))))], ms := [],
    hp :=
      [some
          (AObj.row 1 ((bkS cmpV o (f i) m) + 1 + (m - (bkS cmpV o (f i) m)))
            (appF
              ((bkS cmpV o (f i) m) + 1)
              (appF
                (bkS cmpV o (f i) m) (fun i => rowS o (0 + i)) fun j => rowF 1 [AV.str (f i)] (0 + j))
              fun j => rowS o (0 + (bkS cmpV o (f i) m) + j)))] }))
              else
               none
             else
              none
            else
             none
           else
            none
          else
           none
         else
          none
        else
         none
       else
        none
     else
      none
    else
     none
   else
    none
  else
   some ((AX.exit 0, { tm := tmOf 50 [(0, AV.sl 1 n (rowS f)), (3, AV.row 0 1 0 m), (4, AV.int IntKind.i64 (↑i : Int)), (10, AV.bool false)], ms := [], hp := [some (AObj.row 1 m (rowS o))] })) := by kernel_rfl

theorem qD24 (f : Nat → List UInt8) (n i : Nat) : (rdn tabE9 h24 L24 24 0 0 { tm := encGo (mbits 25 50) [.sl 1 n (rowS f), .nilsl, .int .i64 i], ms := [], hp := [] }).run =
  bif decide ((↑i : Int) < (↑n : Int)) then
   bif isEn eL24i pL24i ([AV.sl 1 n (rowS f), AV.nilsl, AV.int IntKind.i64 (↑i : Int), AV.int IntKind.i64 (0 : Int)], []) then
    bif decide ((0 : Int) ≤ (↑i : Int) ∧ (↑i : Int) < (↑n : Int)) then
     some ((AX.normal,
  { tm := tmOf 50 [(0, AV.sl 1 n (rowS f)), (3, AV.row 0 1 0 1), (4, AV.int IntKind.i64 (IntKind.i64.wrap ((↑i : Int) + (1 : Int))))], ms := [],
    hp :=
      [some
          (AObj.row 1 1
            (fun j => rowF 1 [AV.str (f i)] (0 + j)))] }))
    else
     none
   else
    none
  else
   some ((AX.exit 0, { tm := tmOf 50 [(0, AV.sl 1 n (rowS f)), (3, AV.nilsl), (4, AV.int IntKind.i64 (↑i : Int)), (10, AV.bool false)], ms := [], hp := [] })) := by kernel_rfl

theorem ins0 (o : Nat → List UInt8) (x : List UInt8) : appF 1 (strF [x]) (fun j => rowS o (0 + 0 + j)) = rowS (insF o 0 x) := by
  funext j c
  show (if j < 1 then strF [x] j else rowS o (0 + 0 + (j - 1))) c = .str (if j < 0 then o j else if j = 0 then x else o (j - 1))
  by_cases h : j = 0
  · subst h; rfl
  · rw [if_neg (show ¬ j < 1 by omega), if_neg (show ¬ j < 0 by omega), if_neg h, show 0 + 0 + (j - 1) = j - 1 by omega]; rfl

theorem ins0' (o : Nat → List UInt8) (x : List UInt8) {k : Nat} (h : k = 0) : appF 1 (strF [x]) (fun j => rowS o (0 + k + j)) = rowS (insF o k x) := by
  subst h
  exact ins0 o x

theorem insK (o : Nat → List UInt8) (x : List UInt8) (k : Nat) : appF (k + 1) (appF k (fun j => rowS o (0 + j)) (strF [x])) (fun j => rowS o (0 + k + j)) = rowS (insF o k x) := by
  funext j c
  show (if j < k + 1 then (if j < k then rowS o (0 + j) else strF [x] (j - k)) else rowS o (0 + k + (j - (k + 1)))) c = .str (if j < k then o j else if j = k then x else o (j - 1))
  by_cases h1 : j < k
  · rw [if_pos (show j < k + 1 by omega), if_pos h1, if_pos h1, Nat.zero_add]; rfl
  · by_cases h2 : j = k
    · subst h2
      rw [if_pos (Nat.lt_succ_self j), if_neg h1, if_neg h1, if_pos rfl, Nat.sub_self]; rfl
    · rw [if_neg (show ¬ j < k + 1 by omega), if_neg h1, if_neg h2, show 0 + k + (j - (k + 1)) = j - 1 by omega]; rfl

theorem ins1 (x : List UInt8) : strF [x] = rowS (insF (fun _ => []) 0 x) := by
  funext j c
  show AV.str ([x].getD j []) = .str (if j < 0 then [] else if j = 0 then x else [])
  by_cases h : j = 0
  · subst h; rfl
  · obtain ⟨i, rfl⟩ : ∃ i, j = i + 1 := ⟨j - 1, by omega⟩
    rw [if_neg (by omega), if_neg h]; rfl

theorem round24 (n : Nat) (f : Nat → List UInt8) (i : Nat) (h1 : i < n) (h2 : n ≤ 8796093022208) : (rdn tabE9 h24 L24 24 0 0 { tm := encGo (mbits 25 50) (eL24 ⟨n, f, i⟩).1, ms := [], hp := (eL24 ⟨n, f, i⟩).2 }).run =
    some (.normal, { tm := encGo (mbits 25 50) (eL24 ⟨n, f, i + 1⟩).1, ms := [], hp := (eL24 ⟨n, f, i + 1⟩).2 }) := by
  cases i with
  | zero =>
    refine (qD24 f n 0).trans ?_
    have he : isEn eL24i pL24i ([AV.sl 1 n (rowS f), AV.nilsl, AV.int IntKind.i64 ((0 : Nat) : Int), AV.int IntKind.i64 (0 : Int)], []) = true :=
      isEn_true (enc := eL24i) (p := pL24i) ⟨n, f, none, 0, 0⟩ ⟨h1, by simp only [bnd]; omega, by simp [lenO], by simp [lenO]⟩
    rw [he, decide_eq_true (show ((0 : Nat) : Int) < n by omega), in_row h1, w64n (i := 0) (by omega)]
    simp only [cond_true]
    have hR : (eL24 ⟨n, f, 0 + 1⟩) = ([.sl 1 n (rowS f), .row 0 1 0 1, .int .i64 ((0 + 1 : Nat) : Int)], [some (.row 1 1 (rowS (insF (fun _ => []) 0 (f 0))))]) := rfl
    rw [hR, ← ins1, strF_one]
    rfl
  | succ i =>
    have he : isEn eL24i pL24i ([AV.sl 1 n (rowS f), AV.row 0 1 0 (i + 1), AV.int IntKind.i64 ((i + 1 : Nat) : Int), AV.int IntKind.i64 ((i + 1 : Nat) : Int)], [some (.row 1 (i + 1) (rowS (outS cmpV nilF f (i + 1))))]) = true :=
      isEn_true (enc := eL24i) (p := pL24i) ⟨n, f, some (i + 1, outS cmpV nilF f (i + 1)), i + 1, i + 1⟩ ⟨h1, by simp only [bnd]; omega, Nat.le_refl _, by simp only [lenO, bnd]; omega⟩
    refine (qC24 f (outS cmpV nilF f (i + 1)) n (i + 1) (i + 1)).trans ?_
    have hK := bkS_le cmpV (outS cmpV nilF f (i + 1)) (f (i + 1)) (i + 1)
    have hn : outS cmpV nilF f (i + 1 + 1) = insF (outS cmpV nilF f (i + 1)) (bkS cmpV (outS cmpV nilF f (i + 1)) (f (i + 1)) (i + 1)) (f (i + 1)) := rfl
    have hR : (eL24 ⟨n, f, i + 1 + 1⟩) = ([.sl 1 n (rowS f), .row 0 1 0 (i + 1 + 1), .int .i64 ((i + 1 + 1 : Nat) : Int)], [some (.row 1 (i + 1 + 1) (rowS (insF (outS cmpV nilF f (i + 1)) (bkS cmpV (outS cmpV nilF f (i + 1)) (f (i + 1)) (i + 1)) (f (i + 1)))))]) := rfl
    rw [hR]
    rw [he]
    rw [w64n (i := i + 1) (by omega), strF_one]
    generalize bkS cmpV (outS cmpV nilF f (i + 1)) (f (i + 1)) (i + 1) = K at hK ⊢
    generalize outS cmpV nilF f (i + 1) = o
    by_cases h0 : K = 0
    · simp (disch := omega) only [decT, cond_true]
      rw [show 1 + (i + 1 - K) = i + 1 + 1 by omega, ins0' _ _ h0]
      rfl
    · simp (disch := omega) only [decT, decF, cond_true, cond_false]
      rw [show K + 1 + (i + 1 - K) = i + 1 + 1 by omega, insK]
      rfl

theorem end24_0 (f : Nat → List UInt8) : (rdn tabE9 h24 L24 24 0 0 { tm := encGo (mbits 25 50) (eL24 ⟨0, f, 0⟩).1, ms := [], hp := (eL24 ⟨0, f, 0⟩).2 }).run = some (.exit 0, { tm := tmOf 50 [(0, .sl 1 0 (rowS f)), (3, .nilsl), (4, .int .i64 (0 : Int)), (10, .bool false)], ms := [], hp := [] }) := by
  refine (qD24 f 0 0).trans ?_
  rfl

theorem end24_s (n : Nat) (f : Nat → List UInt8) : (rdn tabE9 h24 L24 24 0 0 { tm := encGo (mbits 25 50) (eL24 ⟨n + 1, f, n + 1⟩).1, ms := [], hp := (eL24 ⟨n + 1, f, n + 1⟩).2 }).run = some (.exit 0, { tm := tmOf 50 [(0, .sl 1 (n + 1) (rowS f)), (3, .row 0 1 0 (n + 1)), (4, .int .i64 ((n + 1 : Nat) : Int)), (10, .bool false)], ms := [], hp := [some (.row 1 (n + 1) (rowS (outS cmpV nilF f (n + 1))))] }) := by
  refine (qC24 f (outS cmpV nilF f (n + 1)) (n + 1) (n + 1) (n + 1)).trans ?_
  rw [decide_eq_false (by omega)]
  rfl

theorem l24 : LoopOk Tryd.prog tabE9.pf (fun n => hd Tryd.prog tabE9.pf tabE9.con.run (fun f => (H0 f).to) n 9) h24.to 24 0 none L24 (loopAt Tryd.prog 24 0) := by
  rw [show loopAt Tryd.prog 24 0 = .loop (lbody Tryd.prog 24 0) by kernel_rfl]
  refine loop_c (hdT_le (m := 20) 9) (m := 20) (lv := mbits 25 50) (p := pL24) (res := rL24) iL24 (within_of _ (by
      rw [show loopsOf (lbody Tryd.prog 24 0) = [loopAt Tryd.prog 24 1] by kernel_rfl]
      intro d hd
      simp only [List.mem_cons, List.not_mem_nil, or_false] at hd
      subst hd
      exact l24i)) (by kernel_rfl) (fun ⟨n, f, i⟩ => n - i) ?_
  rintro ⟨n, f, i⟩ ⟨h1, h2⟩
  by_cases hl : i < n
  · left
    exact ⟨⟨n, f, i + 1⟩, ⟨by omega, h2⟩, by simp only; omega, rfl, round24 n f i hl h2⟩
  · right
    obtain rfl : i = n := by omega
    cases i with
    | zero =>
      refine ⟨_, ?_, ?_, end24_0 f⟩
      · simp
      · rfl
    | succ n =>
      refine ⟨_, ?_, ?_, end24_s n f⟩
      · simp
      · simp only [rL24, T.run_br, decide_eq_false (show ¬ n + 1 = 0 by omega)]
        rfl

theorem t24 (n : Nat) (f : Nat → List UInt8) : (evn tabE9 h24 L24 24 [.sl 1 n (rowS f)] []).run =
  bif isEn eL24 pL24 ([AV.sl 1 n (rowS f), AV.nilsl, AV.int IntKind.i64 (0 : Int)], []) then
   bif decide (n = 0) then
    some ((AV.nilsl, []))
   else
    some ((AV.row 0 1 0 n, [some (AObj.row 1 n (rowS (outS cmpV nilF (unS (rowS f)) n)))]))
  else
   none := by kernel_rfl

structure X24 where
  n : Nat
  f : Nat → List UInt8

def en24 : X24 → List AV × Hp := fun ⟨n, f⟩ => ([.sl 1 n (rowS f)], [])

def de24 : List AV × Hp → X24
  | ([.sl _ n f_g], []) => ⟨n, unS f_g⟩
  | _ => ⟨default, default⟩

def p24 : X24 → Prop := fun ⟨n, f⟩ => n ≤ 8796093022208

def rs24 : X24 → T (AV × Hp) := fun ⟨n, f⟩ => .br (decide (n = 0)) (.leaf (.nilsl, [])) (.leaf (.row 0 1 0 n, [some (.row 1 n (rowS (outS cmpV nilF f n)))]))

noncomputable def c24 : List AV → Hp → T (AV × Hp) := mcon en24 de24 p24 rs24

theorem in24 : ∀ x, de24 (en24 x) = x := by
  rintro ⟨n, f⟩
  simp only [en24, de24, Int.toNat_natCast, unS_rowS]

theorem k24 (n : Nat) (f : Nat → List UInt8) (h : n ≤ 8796093022208) : isEn en24 p24 ([.sl 1 n (rowS f)], []) = true := isEn_true (enc := en24) (p := p24) ⟨n, f⟩ h

theorem e24 (n : Nat) (f : Nat → List UInt8) (hF : FitsL [.sl 1 n (rowS f)]) (hH : FitsH []) (hp : n ≤ 8796093022208) : (evn tabE9 h24 L24 24 [.sl 1 n (rowS f)] []).run = (.br (decide (n = 0)) (.leaf (.nilsl, [])) (.leaf (.row 0 1 0 n, [some (.row 1 n (rowS (outS cmpV nilF f n)))])) : T (AV × Hp)).run := by
  refine (t24 n f).trans ?_
  refine (cond_chk (isEn_true (enc := eL24) (p := pL24) ⟨n, f, 0⟩ ⟨Nat.zero_le _, hp⟩)).trans ?_
  rw [unS_rowS, T.run_br]
  cases decide (n = 0) <;> rfl

theorem s24 : Sound1 Tryd.prog ⟨24, false, gcon c24⟩ := by
  refine sound_cm (soundTab_of all_tabE9) in24 (hn := h24) (m := 20) (k := 9) (Λ := L24) (fun _ _ => twoLoops (by kernel_rfl) l24 l24i) ?_
  rintro ⟨n, f⟩ hp hF hH
  exact e24 n f hF hH hp

noncomputable def tabY8 : Tab := ⟨24, false, gcon c24⟩ :: tabE9

theorem all_tabY8 : ∀ e, e ∈ tabY8 → Sound1 Tryd.prog e := (sound_mem_tab s24 all_tabE9)

theorem ok_tabY8 : SoundTab Tryd.prog tabY8 := soundTab_of all_tabY8
end Go.Sem
namespace Go.Sem

open Go Go.Proofs Go.Ab

set_option maxRecDepth 100000

set_option linter.unusedVariables false

set_option linter.unusedSimpArgs false

/-! ### One table of both halves; texts alike -/

def fbad (q : Nat → Bool) : Nat → Nat → Nat
  | 0, i => i
  | k + 1, i => bif q i then fbad q k (i + 1) else i

theorem fbad_step {q : Nat → Bool} {n i : Nat} (h : i < n) : fbad q (n - i) i = bif q i then fbad q (n - (i + 1)) (i + 1) else i := by
  obtain ⟨k, hk⟩ : ∃ k, n - i = k + 1 := ⟨n - i - 1, by omega⟩
  rw [hk, show n - (i + 1) = k by omega]
  rfl

def eqW (f g : Nat → List UInt8) (i : Nat) : Bool := f i == g i

structure Y22f where
  n : Nat
  f : Nat → List UInt8
  g : Nat → List UInt8
  i : Nat

def eL22f : Y22f → List AV × Hp := fun ⟨n, f, g, i⟩ => ([.sl 1 n (rowS f), .sl 1 n (rowS g), .int .i64 i], [])

def dL22f : List AV × Hp → Y22f
  | ([.sl _ n f_g, .sl _ _ g_g, .int .i64 i], []) => ⟨n, unS f_g, unS g_g, i.toNat⟩
  | _ => ⟨default, default, default, default⟩

def pL22f : Y22f → Prop := fun ⟨n, f, g, i⟩ => i ≤ n ∧ n ≤ bnd

def rL22f : Y22f → T (AX × St) := fun ⟨n, f, g, i⟩ => .br (decide (fbad (eqW f g) (n - i) i < n)) (.leaf (.ret, { tm := tmOf 26 [(4, .bool false)], ms := [], hp := [] })) (.leaf (.exit 0, { tm := tmOf 26 [(0, .sl 1 n (rowS f)), (1, .sl 1 n (rowS g)), (5, .int .i64 n), (14, .bool false)], ms := [], hp := [] }))

noncomputable def L22f : LoopT := fun k => match Nat.beq k 400033 with
  | true => some (lccon (mbits 35 26) eL22f dL22f pL22f rL22f)
  | false => none

theorem iL22f : ∀ x, dL22f (eL22f x) = x := by
  rintro ⟨n, f, g, i⟩
  simp only [eL22f, dL22f, Int.toNat_natCast, unS_rowS]

theorem kL22f (n : Nat) (f : Nat → List UInt8) (g : Nat → List UInt8) (i : Nat) (h : i ≤ n ∧ n ≤ bnd) : isEn eL22f pL22f ([.sl 1 n (rowS f), .sl 1 n (rowS g), .int .i64 i], []) = true := isEn_true (enc := eL22f) (p := pL22f) ⟨n, f, g, i⟩ h

theorem zL22f (n : Nat) (f : Nat → List UInt8) (g : Nat → List UInt8) (h : pL22f ⟨n, f, g, 0⟩) : isEn eL22f pL22f ([.sl 1 n (rowS f), .sl 1 n (rowS g), .int .i64 (0 : Int)], []) = true := isEn_true (enc := eL22f) (p := pL22f) ⟨n, f, g, 0⟩ h

theorem q22f (n : Nat) (f : Nat → List UInt8) (g : Nat → List UInt8) (i : Nat) : (rdn tabY8 h22 L22f 22 0 0 { tm := encGo (mbits 35 26) [.sl 1 n (rowS f), .sl 1 n (rowS g), .int .i64 i], ms := [], hp := [] }).run =
  bif decide ((↑i : Int) < (↑n : Int)) then
   bif decide ((0 : Int) ≤ (↑i : Int) ∧ (↑i : Int) < (↑n : Int)) then
    bif decide ((0 : Int) ≤ (↑i : Int) ∧ (↑i : Int) < (↑n : Int)) then
     bif !f (↑i : Int).toNat == g (↑i : Int).toNat then
      some ((AX.ret, { tm := tmOf 26 [(4, AV.bool false)], ms := [], hp := [] }))
     else
      some ((AX.normal, { tm := tmOf 26 [(0, AV.sl 1 n (rowS f)), (1, AV.sl 1 n (rowS g)), (5, AV.int IntKind.i64 (IntKind.i64.wrap ((↑i : Int) + (1 : Int))))], ms := [], hp := [] }))
    else
     none
   else
    none
  else
   some ((AX.exit 0, { tm := tmOf 26 [(0, AV.sl 1 n (rowS f)), (1, AV.sl 1 n (rowS g)), (5, AV.int IntKind.i64 (↑i : Int)), (14, AV.bool false)], ms := [], hp := [] })) := by kernel_rfl

theorem l22f : LoopOk Tryd.prog tabY8.pf (fun n => hd Tryd.prog tabY8.pf tabY8.con.run (fun f => (H0 f).to) n 9) h22.to 22 0 none L22f (loopAt Tryd.prog 22 0) := by
  rw [show loopAt Tryd.prog 22 0 = .loop (lbody Tryd.prog 22 0) by kernel_rfl]
  refine loop_c (hdT_le (m := 20) 9) (m := 20) (lv := mbits 35 26) (p := pL22f) (res := rL22f) iL22f (within_of _ (by rw [show loopsOf (lbody Tryd.prog 22 0) = [] by kernel_rfl]; simp)) (by kernel_rfl) (fun ⟨n, f, g, i⟩ => n - i) ?_
  rintro ⟨n, f, g, i⟩ hp
  have ht := q22f n f g i
  obtain ⟨h1, h2⟩ := hp
  have hb := h2
  simp only [bnd] at hb
  by_cases hl : i < n
  · rw [decide_eq_true (show (i : Int) < n by omega), in_row hl, Int.toNat_natCast, w64n (by omega)] at ht
    simp only [cond_true] at ht
    have hd := fbad_step (q := eqW f g) hl
    cases hq : eqW f g i with
    | true =>
      rw [show (f i == g i) = true from hq] at ht
      rw [hq, cond_true] at hd
      left
      refine ⟨⟨n, f, g, i + 1⟩, ⟨by omega, h2⟩, by simp only; omega, ?_, ht⟩
      simp only [rL22f, T.run_br, hd]
    | false =>
      rw [show (f i == g i) = false from hq] at ht
      rw [hq, cond_false] at hd
      right
      refine ⟨_, ?_, ?_, ht⟩
      · simp
      · simp only [rL22f, T.run_br, hd, decide_eq_true hl] <;> rfl
  · have he : i = n := by omega
    right
    subst he
    rw [decide_eq_false (show ¬ (i : Int) < i by omega)] at ht
    refine ⟨_, ?_, ?_, ht⟩
    · simp
    · simp only [rL22f, T.run_br, Nat.sub_self, fbad, decide_eq_false (Nat.lt_irrefl i)] <;> rfl

def txtF (n m : Nat) (f g : Nat → List UInt8) : Bool := n == m && decide (¬ fbad (eqW f g) n 0 < n)

theorem t22f (n : Nat) (m : Nat) (f : Nat → List UInt8) (g : Nat → List UInt8) : (evn tabY8 h22 L22f 22 [.sl 1 n (rowS f), .sl 1 m (rowS g)] []).run =
  bif (↑n : Int) != (↑m : Int) then
   some ((AV.bool false, []))
  else
   bif isEn eL22f pL22f ([AV.sl 1 n (rowS f), AV.sl 1 m (rowS g), AV.int IntKind.i64 (0 : Int)], []) then
    bif decide (fbad (eqW (unS (rowS f)) (unS (rowS g))) (n - 0) 0 < n) then
     some ((AV.bool false, []))
    else
     some ((AV.bool true, []))
   else
    none := by kernel_rfl

structure X22f where
  n : Nat
  m : Nat
  f : Nat → List UInt8
  g : Nat → List UInt8

def en22f : X22f → List AV := fun ⟨n, m, f, g⟩ => [.sl 1 n (rowS f), .sl 1 m (rowS g)]

def de22f : List AV → X22f
  | [.sl _ n f_g, .sl _ m g_g] => ⟨n, m, unS f_g, unS g_g⟩
  | _ => ⟨default, default, default, default⟩

def p22f : X22f → Prop := fun ⟨n, m, f, g⟩ => n ≤ bnd

def rs22f : X22f → T AV := fun ⟨n, m, f, g⟩ => .leaf (.bool (txtF n m f g))

noncomputable def c22f : List AV → T AV := ccon en22f de22f p22f rs22f

theorem in22f : ∀ x, de22f (en22f x) = x := by
  rintro ⟨n, m, f, g⟩
  simp only [en22f, de22f, Int.toNat_natCast, unS_rowS]

theorem k22f (n : Nat) (m : Nat) (f : Nat → List UInt8) (g : Nat → List UInt8) (h : n ≤ bnd) : isEn en22f p22f [.sl 1 n (rowS f), .sl 1 m (rowS g)] = true := isEn_true (enc := en22f) (p := p22f) ⟨n, m, f, g⟩ h

theorem e22f (n : Nat) (m : Nat) (f : Nat → List UInt8) (g : Nat → List UInt8) (hF : FitsL [.sl 1 n (rowS f), .sl 1 m (rowS g)]) (hp : n ≤ bnd) : (evn tabY8 h22 L22f 22 [.sl 1 n (rowS f), .sl 1 m (rowS g)] []).run = (.leaf (.bool (txtF n m f g)) : T AV).run.map fun r => (r, []) := by
  refine (t22f n m f g).trans ?_
  have e : ((n : Int) != (m : Int)) = !(n == m) := by rw [← nat_beqI n m]; rfl
  rw [e]
  unfold txtF
  cases h : (n == m) with
  | false => rfl
  | true =>
    obtain rfl : n = m := by simpa using h
    simp only [Bool.not_true, cond_false]
    rw [cond_chk (zL22f n f g ⟨Nat.zero_le _, hp⟩)]
    rw [unS_rowS, unS_rowS, Nat.sub_zero]
    by_cases hb : fbad (eqW f g) n 0 < n
    · rw [decide_eq_true hb, decide_eq_false (show ¬ ¬ fbad (eqW f g) n 0 < n from fun q => q hb)]; rfl
    · rw [decide_eq_false hb, decide_eq_true (show ¬ fbad (eqW f g) n 0 < n from hb)]; rfl

theorem s22f : Sound1 Tryd.prog ⟨22, true, pcon c22f⟩ := by
  refine sound_c (soundTab_of all_tabY8) H0 in22f (hn := h22) (m := 20) (k := 9) (Λ := L22f) (oneLoop (by kernel_rfl) l22f) ?_
  rintro ⟨n, m, f, g⟩ hp hF
  exact e22f n m f g hF hp

noncomputable def tabZ2 : Tab := ⟨22, true, pcon c22f⟩ :: tabY8

theorem all_tabZ2 : ∀ e, e ∈ tabZ2 → Sound1 Tryd.prog e := (sound_mem_tab s22f all_tabY8)

theorem ok_tabZ2 : SoundTab Tryd.prog tabZ2 := soundTab_of all_tabZ2
end Go.Sem
namespace Go.Sem

open Go Go.Proofs Go.Ab

set_option maxRecDepth 100000

set_option linter.unusedVariables false

set_option linter.unusedSimpArgs false

/-! ### maven.Sort of an own row -/

noncomputable def zZ : Nat → Nat → AV := rowF 1 (List.map (fun i => (List.map aconst1 (Value.string { data := #[] }).cells.toList).getD (i % 1) AV.junk) (List.range 0))

theorem t23 (n : Nat) (f : Nat → List UInt8) : (evn tabZ2 h23 noLoops 23 [.row 0 1 0 n] [some (.row 1 n (rowS f))]).run =
    bif decide (0 + n ≤ n) then bif decide ((0 + n) * 16 ≤ 140737488355328 ∧ 0 + n ≤ 4611686018427387903) then
      bif isEn en75 p75 ([.row 0 1 0 (0 + n), .int .i64 ((0 + n : Nat) : Int), .fn 8 []], [some (.row 1 (0 + n) (appF 0 zZ fun i => rowS f (0 + i)))]) then
        some (.row 1 1 0 (0 + n), [some (.row 1 n (rowS f)), some (.row 1 (0 + n) (rowS (sortG cmpV (unS (appF 0 zZ fun i => rowS f (0 + i))) 0 (0 + n))))]) else none else none else none := by kernel_rfl

theorem fn_zero (f : Nat → List UInt8) : (fun i => rowS f (0 + i)) = rowS f := by
  funext i
  rw [Nat.zero_add]

theorem r23 (n : Nat) (f : Nat → List UInt8) (h : n ≤ 8796093022208) : (evn tabZ2 h23 noLoops 23 [.row 0 1 0 n] [some (.row 1 n (rowS f))]).run =
    some (.row 1 1 0 n, [some (.row 1 n (rowS f)), some (.row 1 n (rowS (sortG cmpV f 0 n)))]) := by
  refine (t23 n f).trans ?_
  rw [decide_eq_true (show 0 + n ≤ n by omega), decide_eq_true (show (0 + n) * 16 ≤ 140737488355328 ∧ 0 + n ≤ 4611686018427387903 by omega), appF_zero, fn_zero, Nat.zero_add, k75 n f (by omega)]
  rfl

structure X23 where
  n : Nat
  f : Nat → List UInt8

def en23 : X23 → List AV × Hp := fun ⟨n, f⟩ => ([.row 0 1 0 n], [some (.row 1 n (rowS f))])

def de23 : List AV × Hp → X23
  | ([.row _ _ _ n], [some (.row _ _ g)]) => ⟨n, unS g⟩
  | _ => ⟨0, fun _ => []⟩

def p23 : X23 → Prop := fun ⟨n, f⟩ => n ≤ 8796093022208

def rs23 : X23 → T (AV × Hp) := fun ⟨n, f⟩ => .leaf (.row 1 1 0 n, [some (.row 1 n (rowS f)), some (.row 1 n (rowS (sortG cmpV f 0 n)))])

noncomputable def c23 : List AV → Hp → T (AV × Hp) := mcon en23 de23 p23 rs23

theorem in23 : ∀ x, de23 (en23 x) = x := by
  rintro ⟨n, f⟩
  simp only [en23, de23, unS_rowS]

theorem k23 (n : Nat) (f : Nat → List UInt8) (h : n ≤ 8796093022208) : isEn en23 p23 ([.row 0 1 0 n], [some (.row 1 n (rowS f))]) = true := isEn_true (enc := en23) (p := p23) ⟨n, f⟩ h

theorem s23 : Sound1 Tryd.prog ⟨23, false, gcon c23⟩ := by
  refine sound_cm (soundTab_of all_tabZ2) in23 (hn := h23) (m := 20) (k := 9) (Λ := noLoops) (fun _ _ i hi => anyLoopsB) ?_
  rintro ⟨n, f⟩ hp hF hH
  exact r23 n f hp

noncomputable def tabZ3 : Tab := ⟨23, false, gcon c23⟩ :: tabZ2

theorem all_tabZ3 : ∀ e, e ∈ tabZ3 → Sound1 Tryd.prog e := (sound_mem_tab s23 all_tabZ2)

theorem ok_tabZ3 : SoundTab Tryd.prog tabZ3 := soundTab_of all_tabZ3
end Go.Sem

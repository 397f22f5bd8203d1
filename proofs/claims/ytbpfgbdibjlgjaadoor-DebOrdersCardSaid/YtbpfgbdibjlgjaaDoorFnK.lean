/- Lemmas for the claims of this seat (a verified symbolic evaluator, and contracts of functions): own work; no condition. -/
import Derived.Test.YtbpfgbdibjlgjaaDoorEvF
import Derived.Test.YtbpfgbdibjlgjaaDoorFnJ
import Derived.Test.YtbpfgbdibjlgjaaDoorFnI
namespace Go.Deb
open Go.Ab
set_option linter.unusedVariables false
/-! ### The reference's insertion, over lists -/
/-- Where one stands that all before are not behind and all after are. -/
theorem insR_at {α : Type} {F : α → α → Int} {x : α} : ∀ {l r : List α}, (∀ y, y ∈ l → F y x ≤ 0) → (∀ y, y ∈ r → ¬ F y x ≤ 0) → insR F x (l ++ r) = l ++ x :: r
  | [], [], _, _ => rfl
  | [], y :: r, _, h => by
    show insR F x (y :: r) = _
    unfold insR
    rw [if_neg (h y (by simp))]; rfl
  | y :: l, r, h1, h2 => by
    show insR F x (y :: (l ++ r)) = _
    unfold insR
    rw [if_pos (h1 y (by simp)), insR_at (fun z hz => h1 z (by simp [hz])) h2]; rfl
/-- How far back an element goes. -/
def bkS {α : Type} (F : α → α → Int) (o : Nat → α) (x : α) : Nat → Nat
  | 0 => 0
  | k + 1 => if 0 < F (o k) x then bkS F o x k else k + 1
theorem bkS_le {α : Type} (F : α → α → Int) (o : Nat → α) (x : α) : ∀ k, bkS F o x k ≤ k
  | 0 => Nat.le_refl _
  | k + 1 => by
    unfold bkS
    split
    · have := bkS_le F o x k; omega
    · omega
theorem bkS_hi {α : Type} {F : α → α → Int} {o : Nat → α} {x : α} : ∀ k j, bkS F o x k ≤ j → j < k → 0 < F (o j) x
  | 0, j, h1, h2 => by omega
  | k + 1, j, h1, h2 => by
    unfold bkS at h1
    split at h1
    · rename_i h
      rcases Nat.lt_or_ge j k with hj | hj
      · exact bkS_hi k j h1 hj
      · obtain rfl : j = k := by omega
        exact h
    · omega
theorem bkS_lo {α : Type} {F : α → α → Int} {o : Nat → α} {x : α} : ∀ k, bkS F o x k = 0 ∨ F (o (bkS F o x k - 1)) x ≤ 0
  | 0 => .inl rfl
  | k + 1 => by
    unfold bkS
    split
    · exact bkS_lo k
    · rename_i h; right; simp only [Nat.add_sub_cancel]; omega
/-- One put into its place. -/
def insF {α : Type} (o : Nat → α) (k : Nat) (x : α) (j : Nat) : α := if j < k then o j else if j = k then x else o (j - 1)
theorem insF_seg {α : Type} (o : Nat → α) {k m : Nat} (x : α) (h : k ≤ m) : seg (insF o k x) 0 (m + 1) = seg o 0 k ++ x :: seg o k m := by
  rw [seg_app (insF o k x) (Nat.zero_le k) (show k ≤ m + 1 by omega), seg_app (insF o k x) (show k ≤ k + 1 by omega) (show k + 1 ≤ m + 1 by omega), seg_one]
  have e1 : seg (insF o k x) 0 k = seg o 0 k := seg_congr fun j _ hj => by unfold insF; rw [if_pos hj]
  have e2 : insF o k x k = x := by unfold insF; rw [if_neg (Nat.lt_irrefl k), if_pos rfl]
  have e3 : seg (insF o k x) (k + 1) (m + 1) = seg o k m := by
    have := seg_shift (f := insF o k x) (g := o) (a := k + 1) (b := m + 1) (a' := k) fun j hj => by
      unfold insF
      rw [if_neg (by omega), if_neg (by omega)]
      congr 1; omega
    rw [this]
    congr 1; omega
  rw [e1, e2, e3]; rfl
theorem ins_step {α : Type} {F : α → α → Int} (hF : IsOrd F) {o : Nat → α} {m : Nat} (x : α) (hs : Srt F (seg o 0 m)) : seg (insF o (bkS F o x m) x) 0 (m + 1) = insR F x (seg o 0 m) := by
  have hk := bkS_le F o x m
  rw [insF_seg o x hk, seg_app o (Nat.zero_le _) hk]
  refine (insR_at (fun y hy => ?_) (fun y hy => ?_)).symm
  · obtain ⟨j, _, hj, rfl⟩ := seg_mem.1 hy
    rcases bkS_lo (F := F) (o := o) (x := x) m with h0 | h0
    · omega
    · rcases Nat.lt_or_ge j (bkS F o x m - 1) with h1 | h1
      · have h2 := (srt_seg.1 hs) j (bkS F o x m - 1) (Nat.zero_le _) h1 (by omega)
        exact hF.tr _ _ _ h2 h0
      · rw [show j = bkS F o x m - 1 by omega]; exact h0
  · obtain ⟨j, hj1, hj2, rfl⟩ := seg_mem.1 hy
    have := bkS_hi (F := F) m j hj1 hj2
    omega
/-- The first ones of a row, put in one by one. -/
def outS {α : Type} (F : α → α → Int) (d f : Nat → α) : Nat → Nat → α
  | 0 => d
  | i + 1 => insF (outS F d f i) (bkS F (outS F d f i) (f i) i) (f i)
theorem outS_ok {α : Type} {F : α → α → Int} (hF : IsOrd F) (d f : Nat → α) : ∀ i, seg (outS F d f i) 0 i = sortS F (seg f 0 i)
  | 0 => rfl
  | i + 1 => by
    have ih := outS_ok hF d f i
    have hs : Srt F (seg (outS F d f i) 0 i) := by rw [ih]; exact sortS_srt hF _
    show seg (insF (outS F d f i) (bkS F (outS F d f i) (f i) i) (f i)) 0 (i + 1) = _
    rw [ins_step hF (f i) hs, ih, seg_app f (Nat.zero_le i) (show i ≤ i + 1 by omega), seg_one]
    unfold sortS
    rw [List.foldl_append]; rfl
end Go.Deb
namespace Go.Deb

open Go Go.Proofs Go.Ab

set_option maxRecDepth 100000

set_option linter.unusedVariables false

set_option linter.unusedSimpArgs false

/-! ### The reference's Sort -/

abbrev OutS := Option (Nat × (Nat → List UInt8))

def rAS : OutS → AV
  | none => .nilsl
  | some (m, _) => .row 0 1 0 m

def rHS : OutS → Hp
  | none => []
  | some (m, o) => [some (.row 1 m (rowS o))]

def unHS : Hp → OutS
  | [some (.row _ m g)] => some (m, unS g)
  | _ => none

theorem unHS_rHS (O : OutS) : unHS (rHS O) = O := by
  rcases O with _ | ⟨m, o⟩ <;> rfl

def lenO : OutS → Nat
  | none => 0
  | some (m, _) => m

theorem qA27 (f o : Nat → List UInt8) (n m i k : Nat) : (rdn tabE6 h27 noLoops 27 0 1 { tm := encGo (mbits 57 50) [.sl 1 n (rowS f), .row 0 1 0 m, .int .i64 i, .int .i64 k], ms := [], hp := [some (.row 1 m (rowS o))] }).run =
  bif decide ((↑k : Int) > (0 : Int)) then
   bif decide ((0 : Int) ≤ IntKind.i64.wrap ((↑k : Int) - (1 : Int)) ∧ IntKind.i64.wrap ((↑k : Int) - (1 : Int)) < (↑m : Int)) then
    bif decide (0 + (IntKind.i64.wrap ((↑k : Int) - (1 : Int))).toNat < m) then
     bif decide ((0 : Int) ≤ (↑i : Int) ∧ (↑i : Int) < (↑n : Int)) then
      bif decide (compareD (o (0 + (IntKind.i64.wrap ((↑k : Int) - (1 : Int))).toNat)) (f (↑i : Int).toNat) > (0 : Int)) then
       some ((AX.normal, { tm := tmOf 50 [(0, AV.sl 1 n (rowS f)), (3, AV.row 0 1 0 m), (4, AV.int IntKind.i64 (↑i : Int)), (5, AV.int IntKind.i64 (IntKind.i64.wrap ((↑k : Int) - (1 : Int))))], ms := [], hp := [some (AObj.row 1 m (rowS o))] }))
      else
       some ((AX.exit 2, { tm := tmOf 50 [(0, AV.sl 1 n (rowS f)), (3, AV.row 0 1 0 m), (4, AV.int IntKind.i64 (↑i : Int)), (5, AV.int IntKind.i64 (↑k : Int)), (29, AV.bool false)], ms := [], hp := [some (AObj.row 1 m (rowS o))] }))
     else
      none
    else
     none
   else
    none
  else
   some ((AX.exit 2, { tm := tmOf 50 [(0, AV.sl 1 n (rowS f)), (3, AV.row 0 1 0 m), (4, AV.int IntKind.i64 (↑i : Int)), (5, AV.int IntKind.i64 (↑k : Int)), (29, AV.bool false)], ms := [], hp := [some (AObj.row 1 m (rowS o))] })) := by kernel_rfl

theorem qB27 (f : Nat → List UInt8) (n i : Nat) : (rdn tabE6 h27 noLoops 27 0 1 { tm := encGo (mbits 57 50) [.sl 1 n (rowS f), .nilsl, .int .i64 i, .int .i64 0], ms := [], hp := [] }).run =
  some ((AX.exit 2, { tm := tmOf 50 [(0, AV.sl 1 n (rowS f)), (3, AV.nilsl), (4, AV.int IntKind.i64 (↑i : Int)), (5, AV.int IntKind.i64 (0 : Int)), (29, AV.bool false)], ms := [], hp := [] })) := by kernel_rfl

structure Y27i where
  n : Nat
  f : Nat → List UInt8
  O : OutS
  i : Nat
  k : Nat

def eL27i : Y27i → List AV × Hp := fun ⟨n, f, O, i, k⟩ => ([.sl 1 n (rowS f), rAS O, .int .i64 i, .int .i64 k], rHS O)

def dL27i : List AV × Hp → Y27i
  | ([.sl _ n g, _, .int _ i, .int _ k], hp) => ⟨n, unS g, unHS hp, i.toNat, k.toNat⟩
  | _ => ⟨0, fun _ => [], none, 0, 0⟩

theorem iL27i : ∀ x, dL27i (eL27i x) = x := by
  rintro ⟨n, f, O, i, k⟩
  simp only [eL27i, dL27i, unHS_rHS, unS_rowS, Int.toNat_natCast]

def pL27i : Y27i → Prop := fun ⟨n, f, O, i, k⟩ => i < n ∧ n ≤ bnd ∧ k ≤ lenO O ∧ lenO O ≤ bnd

def rL27i : Y27i → T (AX × St)
  | ⟨n, f, none, i, k⟩ => .leaf (.exit 2, { tm := tmOf 50 [(0, .sl 1 n (rowS f)), (3, .nilsl), (4, .int .i64 i), (5, .int .i64 (0 : Int)), (29, .bool false)], ms := [], hp := [] })
  | ⟨n, f, some (m, o), i, k⟩ => .leaf (.exit 2, { tm := tmOf 50 [(0, .sl 1 n (rowS f)), (3, .row 0 1 0 m), (4, .int .i64 i), (5, .int .i64 (bkS compareD o (f i) k)), (29, .bool false)], ms := [], hp := [some (.row 1 m (rowS o))] })

noncomputable def LI27 : LoopT := fun k => match Nat.beq k 600026 with
  | true => some (lccon (mbits 57 50) eL27i dL27i pL27i rL27i)
  | false => none

theorem l27i : LoopOk Tryd.prog tabE6.pf (fun n => hd Tryd.prog tabE6.pf tabE6.con.run (fun f => (H0 f).to) n 9) h27.to 27 0 none LI27 (loopAt Tryd.prog 27 1) := by
  rw [show loopAt Tryd.prog 27 1 = .loop (lbody Tryd.prog 27 1) by kernel_rfl]
  refine loop_c (hdT_le (m := 20) 9) (m := 20) (lv := mbits 57 50) (p := pL27i) (res := rL27i) iL27i (within_of _ (by rw [show loopsOf (lbody Tryd.prog 27 1) = [] by kernel_rfl]; simp)) (by kernel_rfl) (fun ⟨n, f, O, i, k⟩ => k) ?_
  rintro ⟨n, f, O, i, k⟩ ⟨h1, h2, h3, h4⟩
  have hb2 := h2
  have hb4 := h4
  simp only [bnd] at hb2 hb4
  rcases O with _ | ⟨m, o⟩
  · obtain rfl : k = 0 := by simpa [lenO] using h3
    right
    exact ⟨_, by simp, rfl, qB27 f n i⟩
  · simp only [lenO] at h3 h4 hb4
    have ht := qA27 f o n m i k
    cases k with
    | zero =>
      right
      exact ⟨_, by simp, rfl, ht⟩
    | succ k =>
      rw [decide_eq_true (show ((k + 1 : Nat) : Int) > 0 by omega), show ((k + 1 : Nat) : Int) - 1 = (k : Nat) by omega, w64 (n := (k : Nat)) (by omega) (by omega), in_row (show k < m by omega), in_row h1] at ht
      simp only [Int.toNat_natCast, Nat.zero_add, cond_true, decide_eq_true (show k < m by omega)] at ht
      by_cases hq : 0 < compareD (o k) (f i)
      · rw [decide_eq_true (show compareD (o k) (f i) > 0 from hq)] at ht
        left
        refine ⟨⟨n, f, some (m, o), i, k⟩, ⟨h1, h2, by simp only [lenO]; omega, h4⟩, by simp only; omega, ?_, ht⟩
        simp only [rL27i, bkS, if_pos hq]
      · rw [decide_eq_false (show ¬ compareD (o k) (f i) > 0 from hq)] at ht
        right
        refine ⟨_, by simp, ?_, ht⟩
        simp only [rL27i, bkS, if_neg hq]
        rfl

def nilF : Nat → List UInt8 := fun _ => []

def outO (f : Nat → List UInt8) : Nat → OutS
  | 0 => none
  | i + 1 => some (i + 1, outS compareD nilF f (i + 1))

structure Y27 where
  n : Nat
  f : Nat → List UInt8
  i : Nat

def eL27 : Y27 → List AV × Hp := fun ⟨n, f, i⟩ => ([.sl 1 n (rowS f), rAS (outO f i), .int .i64 i], rHS (outO f i))

def dL27 : List AV × Hp → Y27
  | ([.sl _ n g, _, .int _ i], _) => ⟨n, unS g, i.toNat⟩
  | _ => ⟨0, fun _ => [], 0⟩

theorem iL27 : ∀ x, dL27 (eL27 x) = x := by
  rintro ⟨n, f, i⟩
  simp only [eL27, dL27, unS_rowS, Int.toNat_natCast]

def pL27 : Y27 → Prop := fun ⟨n, f, i⟩ => i ≤ n ∧ n ≤ 8796093022208

def rL27 : Y27 → T (AX × St) := fun ⟨n, f, i⟩ => .br (decide (n = 0))
  (.leaf (.exit 0, { tm := tmOf 50 [(0, .sl 1 n (rowS f)), (3, .nilsl), (4, .int .i64 (0 : Int)), (10, .bool false)], ms := [], hp := [] }))
  (.leaf (.exit 0, { tm := tmOf 50 [(0, .sl 1 n (rowS f)), (3, .row 0 1 0 n), (4, .int .i64 n), (10, .bool false)], ms := [], hp := [some (.row 1 n (rowS (outS compareD nilF f n)))] }))

noncomputable def L27 : LoopT := fun k => match Nat.beq k 300078 with
  | true => some (lccon (mbits 25 50) eL27 dL27 pL27 rL27)
  | false => LI27 k

theorem qC27 (f o : Nat → List UInt8) (n m i : Nat) : (rdn tabE6 h27 L27 27 0 0 { tm := encGo (mbits 25 50) [.sl 1 n (rowS f), .row 0 1 0 m, .int .i64 i], ms := [], hp := [some (.row 1 m (rowS o))] }).run =
  bif decide ((↑i : Int) < (↑n : Int)) then
   bif isEn eL27i pL27i ([AV.sl 1 n (rowS f), AV.row 0 1 0 m, AV.int IntKind.i64 (↑i : Int), AV.int IntKind.i64 (↑m : Int)], [some (AObj.row 1 m (rowS o))]) then
    bif decide ((0 : Int) ≤ (↑(bkS compareD o (f i) m) : Int) ∧ (↑(bkS compareD o (f i) m) : Int) ≤ (↑m : Int)) then
     bif decide (0 + (bkS compareD o (f i) m) ≤ m) then
      bif decide ((bkS compareD o (f i) m) = 0) then
       bif decide ((0 : Int) ≤ (↑i : Int) ∧ (↑i : Int) < (↑n : Int)) then
        bif decide ((0 : Int) ≤ (↑(bkS compareD o (f i) m) : Int) ∧ (↑(bkS compareD o (f i) m) : Int) ≤ (↑m : Int)) then
         bif decide (0 + (bkS compareD o (f i) m) + (m - (bkS compareD o (f i) m)) ≤ m) then
          bif decide ((1 + (m - (bkS compareD o (f i) m))) * 16 ≤ 140737488355328 ∧ 1 + (m - (bkS compareD o (f i) m)) ≤ 4611686018427387903) then
           some ((AX.normal,
  { tm := tmOf 50 [(0, AV.sl 1 n (rowS f)), (3, AV.row 0 1 0 (1 + (m - (bkS compareD o (f i) m)))), (4, AV.int IntKind.i64 (IntKind.i64.wrap ((↑i : Int) + (1 : Int))))], ms := [],
    hp :=
      [some
          (AObj.row 1 (1 + (m - (bkS compareD o (f i) m)))
            (appF
              1 (fun j => rowF 1 [AV.str (f i)] (0 + j)) fun j => rowS o (0 + (bkS compareD o (f i) m) + j)))] }))
          else
           none
         else
          none
        else
         none
       else
        none
      else
       bif decide ((bkS compareD o (f i) m) * 16 ≤ 140737488355328 ∧ (bkS compareD o (f i) m) ≤ 4611686018427387903) then
        bif decide ((0 : Int) ≤ (↑i : Int) ∧ (↑i : Int) < (↑n : Int)) then
         bif decide ((bkS compareD o (f i) m) = (bkS compareD o (f i) m)) then
          bif decide (((bkS compareD o (f i) m) + 1) * 16 ≤ 140737488355328 ∧ (bkS compareD o (f i) m) + 1 ≤ 4611686018427387903) then
           bif decide ((0 : Int) ≤ (↑(bkS compareD o (f i) m) : Int) ∧ (↑(bkS compareD o (f i) m) : Int) ≤ (↑m : Int)) then
            bif decide (0 + (bkS compareD o (f i) m) + (m - (bkS compareD o (f i) m)) ≤ m) then
             bif decide ((bkS compareD o (f i) m) + 1 = (bkS compareD o (f i) m) + 1) then
              bif decide (((bkS compareD o (f i) m) + 1 + (m - (bkS compareD o (f i) m))) * 16 ≤ 140737488355328 ∧ (bkS compareD o (f i) m) + 1 + (m - (bkS compareD o (f i) m)) ≤ 4611686018427387903) then
               some ((AX.normal,
  { tm := tmOf 50 [(0, AV.sl 1 n (rowS f)), (3, AV.row 0 1 0 ((bkS compareD o (f i) m) + 1 + (m - (bkS compareD o (f i) m)))), (4, AV.int IntKind.i64 (IntKind.i64.wrap ((↑i : Int) + (1 : Int))))], ms := [],
    hp :=
      [some
          (AObj.row 1 ((bkS compareD o (f i) m) + 1 + (m - (bkS compareD o (f i) m)))
            (appF
              ((bkS compareD o (f i) m) + 1)
              (appF
                (bkS compareD o (f i) m) (fun i => rowS o (0 + i)) fun j => rowF 1 [AV.str (f i)] (0 + j))
              fun j => rowS o (0 + (bkS compareD o (f i) m) + j)))] }))
              else
               none
             else
              none
            else
             none
           else
            none
          else
           none
         else
          none
        else
         none
       else
        none
     else
      none
    else
     none
   else
    none
  else
   some ((AX.exit 0, { tm := tmOf 50 [(0, AV.sl 1 n (rowS f)), (3, AV.row 0 1 0 m), (4, AV.int IntKind.i64 (↑i : Int)), (10, AV.bool false)], ms := [], hp := [some (AObj.row 1 m (rowS o))] })) := by kernel_rfl

theorem qD27 (f : Nat → List UInt8) (n i : Nat) : (rdn tabE6 h27 L27 27 0 0 { tm := encGo (mbits 25 50) [.sl 1 n (rowS f), .nilsl, .int .i64 i], ms := [], hp := [] }).run =
  bif decide ((↑i : Int) < (↑n : Int)) then
   bif isEn eL27i pL27i ([AV.sl 1 n (rowS f), AV.nilsl, AV.int IntKind.i64 (↑i : Int), AV.int IntKind.i64 (0 : Int)], []) then
    bif decide ((0 : Int) ≤ (↑i : Int) ∧ (↑i : Int) < (↑n : Int)) then
     some ((AX.normal,
  { tm := tmOf 50 [(0, AV.sl 1 n (rowS f)), (3, AV.row 0 1 0 1), (4, AV.int IntKind.i64 (IntKind.i64.wrap ((↑i : Int) + (1 : Int))))], ms := [],
    hp :=
      [some
          (AObj.row 1 1
            (fun j => rowF 1 [AV.str (f i)] (0 + j)))] }))
    else
     none
   else
    none
  else
   some ((AX.exit 0, { tm := tmOf 50 [(0, AV.sl 1 n (rowS f)), (3, AV.nilsl), (4, AV.int IntKind.i64 (↑i : Int)), (10, AV.bool false)], ms := [], hp := [] })) := by kernel_rfl

theorem ins0 (o : Nat → List UInt8) (x : List UInt8) : appF 1 (strF [x]) (fun j => rowS o (0 + 0 + j)) = rowS (insF o 0 x) := by
  funext j c
  show (if j < 1 then strF [x] j else rowS o (0 + 0 + (j - 1))) c = .str (if j < 0 then o j else if j = 0 then x else o (j - 1))
  by_cases h : j = 0
  · subst h; rfl
  · rw [if_neg (show ¬ j < 1 by omega), if_neg (show ¬ j < 0 by omega), if_neg h, show 0 + 0 + (j - 1) = j - 1 by omega]; rfl

theorem ins0' (o : Nat → List UInt8) (x : List UInt8) {k : Nat} (h : k = 0) : appF 1 (strF [x]) (fun j => rowS o (0 + k + j)) = rowS (insF o k x) := by
  subst h
  exact ins0 o x

theorem insK (o : Nat → List UInt8) (x : List UInt8) (k : Nat) : appF (k + 1) (appF k (fun j => rowS o (0 + j)) (strF [x])) (fun j => rowS o (0 + k + j)) = rowS (insF o k x) := by
  funext j c
  show (if j < k + 1 then (if j < k then rowS o (0 + j) else strF [x] (j - k)) else rowS o (0 + k + (j - (k + 1)))) c = .str (if j < k then o j else if j = k then x else o (j - 1))
  by_cases h1 : j < k
  · rw [if_pos (show j < k + 1 by omega), if_pos h1, if_pos h1, Nat.zero_add]; rfl
  · by_cases h2 : j = k
    · subst h2
      rw [if_pos (Nat.lt_succ_self j), if_neg h1, if_neg h1, if_pos rfl, Nat.sub_self]; rfl
    · rw [if_neg (show ¬ j < k + 1 by omega), if_neg h1, if_neg h2, show 0 + k + (j - (k + 1)) = j - 1 by omega]; rfl

theorem ins1 (x : List UInt8) : strF [x] = rowS (insF (fun _ => []) 0 x) := by
  funext j c
  show AV.str ([x].getD j []) = .str (if j < 0 then [] else if j = 0 then x else [])
  by_cases h : j = 0
  · subst h; rfl
  · obtain ⟨i, rfl⟩ : ∃ i, j = i + 1 := ⟨j - 1, by omega⟩
    rw [if_neg (by omega), if_neg h]; rfl

theorem round27 (n : Nat) (f : Nat → List UInt8) (i : Nat) (h1 : i < n) (h2 : n ≤ 8796093022208) : (rdn tabE6 h27 L27 27 0 0 { tm := encGo (mbits 25 50) (eL27 ⟨n, f, i⟩).1, ms := [], hp := (eL27 ⟨n, f, i⟩).2 }).run =
    some (.normal, { tm := encGo (mbits 25 50) (eL27 ⟨n, f, i + 1⟩).1, ms := [], hp := (eL27 ⟨n, f, i + 1⟩).2 }) := by
  cases i with
  | zero =>
    refine (qD27 f n 0).trans ?_
    have he : isEn eL27i pL27i ([AV.sl 1 n (rowS f), AV.nilsl, AV.int IntKind.i64 ((0 : Nat) : Int), AV.int IntKind.i64 (0 : Int)], []) = true :=
      isEn_true (enc := eL27i) (p := pL27i) ⟨n, f, none, 0, 0⟩ ⟨h1, by simp only [bnd]; omega, by simp [lenO], by simp [lenO]⟩
    rw [he, decide_eq_true (show ((0 : Nat) : Int) < n by omega), in_row h1, w64n (i := 0) (by omega)]
    simp only [cond_true]
    have hR : (eL27 ⟨n, f, 0 + 1⟩) = ([.sl 1 n (rowS f), .row 0 1 0 1, .int .i64 ((0 + 1 : Nat) : Int)], [some (.row 1 1 (rowS (insF (fun _ => []) 0 (f 0))))]) := rfl
    rw [hR, ← ins1, strF_one]
    rfl
  | succ i =>
    have he : isEn eL27i pL27i ([AV.sl 1 n (rowS f), AV.row 0 1 0 (i + 1), AV.int IntKind.i64 ((i + 1 : Nat) : Int), AV.int IntKind.i64 ((i + 1 : Nat) : Int)], [some (.row 1 (i + 1) (rowS (outS compareD nilF f (i + 1))))]) = true :=
      isEn_true (enc := eL27i) (p := pL27i) ⟨n, f, some (i + 1, outS compareD nilF f (i + 1)), i + 1, i + 1⟩ ⟨h1, by simp only [bnd]; omega, Nat.le_refl _, by simp only [lenO, bnd]; omega⟩
    refine (qC27 f (outS compareD nilF f (i + 1)) n (i + 1) (i + 1)).trans ?_
    have hK := bkS_le compareD (outS compareD nilF f (i + 1)) (f (i + 1)) (i + 1)
    have hn : outS compareD nilF f (i + 1 + 1) = insF (outS compareD nilF f (i + 1)) (bkS compareD (outS compareD nilF f (i + 1)) (f (i + 1)) (i + 1)) (f (i + 1)) := rfl
    have hR : (eL27 ⟨n, f, i + 1 + 1⟩) = ([.sl 1 n (rowS f), .row 0 1 0 (i + 1 + 1), .int .i64 ((i + 1 + 1 : Nat) : Int)], [some (.row 1 (i + 1 + 1) (rowS (insF (outS compareD nilF f (i + 1)) (bkS compareD (outS compareD nilF f (i + 1)) (f (i + 1)) (i + 1)) (f (i + 1)))))]) := rfl
    rw [hR]
    rw [he]
    rw [w64n (i := i + 1) (by omega), strF_one]
    generalize bkS compareD (outS compareD nilF f (i + 1)) (f (i + 1)) (i + 1) = K at hK ⊢
    generalize outS compareD nilF f (i + 1) = o
    by_cases h0 : K = 0
    · simp (disch := omega) only [decT, cond_true]
      rw [show 1 + (i + 1 - K) = i + 1 + 1 by omega, ins0' _ _ h0]
      rfl
    · simp (disch := omega) only [decT, decF, cond_true, cond_false]
      rw [show K + 1 + (i + 1 - K) = i + 1 + 1 by omega, insK]
      rfl

theorem end27_0 (f : Nat → List UInt8) : (rdn tabE6 h27 L27 27 0 0 { tm := encGo (mbits 25 50) (eL27 ⟨0, f, 0⟩).1, ms := [], hp := (eL27 ⟨0, f, 0⟩).2 }).run = some (.exit 0, { tm := tmOf 50 [(0, .sl 1 0 (rowS f)), (3, .nilsl), (4, .int .i64 (0 : Int)), (10, .bool false)], ms := [], hp := [] }) := by
  refine (qD27 f 0 0).trans ?_
  rfl

theorem end27_s (n : Nat) (f : Nat → List UInt8) : (rdn tabE6 h27 L27 27 0 0 { tm := encGo (mbits 25 50) (eL27 ⟨n + 1, f, n + 1⟩).1, ms := [], hp := (eL27 ⟨n + 1, f, n + 1⟩).2 }).run = some (.exit 0, { tm := tmOf 50 [(0, .sl 1 (n + 1) (rowS f)), (3, .row 0 1 0 (n + 1)), (4, .int .i64 ((n + 1 : Nat) : Int)), (10, .bool false)], ms := [], hp := [some (.row 1 (n + 1) (rowS (outS compareD nilF f (n + 1))))] }) := by
  refine (qC27 f (outS compareD nilF f (n + 1)) (n + 1) (n + 1) (n + 1)).trans ?_
  rw [decide_eq_false (by omega)]
  rfl

theorem l27 : LoopOk Tryd.prog tabE6.pf (fun n => hd Tryd.prog tabE6.pf tabE6.con.run (fun f => (H0 f).to) n 9) h27.to 27 0 none L27 (loopAt Tryd.prog 27 0) := by
  rw [show loopAt Tryd.prog 27 0 = .loop (lbody Tryd.prog 27 0) by kernel_rfl]
  refine loop_c (hdT_le (m := 20) 9) (m := 20) (lv := mbits 25 50) (p := pL27) (res := rL27) iL27 (within_of _ (by
      rw [show loopsOf (lbody Tryd.prog 27 0) = [loopAt Tryd.prog 27 1] by kernel_rfl]
      intro d hd
      simp only [List.mem_cons, List.not_mem_nil, or_false] at hd
      subst hd
      exact l27i)) (by kernel_rfl) (fun ⟨n, f, i⟩ => n - i) ?_
  rintro ⟨n, f, i⟩ ⟨h1, h2⟩
  by_cases hl : i < n
  · left
    exact ⟨⟨n, f, i + 1⟩, ⟨by omega, h2⟩, by simp only; omega, rfl, round27 n f i hl h2⟩
  · right
    obtain rfl : i = n := by omega
    cases i with
    | zero =>
      refine ⟨_, ?_, ?_, end27_0 f⟩
      · simp
      · rfl
    | succ n =>
      refine ⟨_, ?_, ?_, end27_s n f⟩
      · simp
      · simp only [rL27, T.run_br, decide_eq_false (show ¬ n + 1 = 0 by omega)]
        rfl

theorem t27 (n : Nat) (f : Nat → List UInt8) : (evn tabE6 h27 L27 27 [.sl 1 n (rowS f)] []).run =
  bif isEn eL27 pL27 ([AV.sl 1 n (rowS f), AV.nilsl, AV.int IntKind.i64 (0 : Int)], []) then
   bif decide (n = 0) then
    some ((AV.nilsl, []))
   else
    some ((AV.row 0 1 0 n, [some (AObj.row 1 n (rowS (outS compareD nilF (unS (rowS f)) n)))]))
  else
   none := by kernel_rfl

structure X27 where
  n : Nat
  f : Nat → List UInt8

def en27 : X27 → List AV × Hp := fun ⟨n, f⟩ => ([.sl 1 n (rowS f)], [])

def de27 : List AV × Hp → X27
  | ([.sl _ n f_g], []) => ⟨n, unS f_g⟩
  | _ => ⟨default, default⟩

def p27 : X27 → Prop := fun ⟨n, f⟩ => n ≤ 8796093022208

def rs27 : X27 → T (AV × Hp) := fun ⟨n, f⟩ => .br (decide (n = 0)) (.leaf (.nilsl, [])) (.leaf (.row 0 1 0 n, [some (.row 1 n (rowS (outS compareD nilF f n)))]))

noncomputable def c27 : List AV → Hp → T (AV × Hp) := mcon en27 de27 p27 rs27

theorem in27 : ∀ x, de27 (en27 x) = x := by
  rintro ⟨n, f⟩
  simp only [en27, de27, Int.toNat_natCast, unS_rowS]

theorem k27 (n : Nat) (f : Nat → List UInt8) (h : n ≤ 8796093022208) : isEn en27 p27 ([.sl 1 n (rowS f)], []) = true := isEn_true (enc := en27) (p := p27) ⟨n, f⟩ h

theorem e27 (n : Nat) (f : Nat → List UInt8) (hF : FitsL [.sl 1 n (rowS f)]) (hH : FitsH []) (hp : n ≤ 8796093022208) : (evn tabE6 h27 L27 27 [.sl 1 n (rowS f)] []).run = (.br (decide (n = 0)) (.leaf (.nilsl, [])) (.leaf (.row 0 1 0 n, [some (.row 1 n (rowS (outS compareD nilF f n)))])) : T (AV × Hp)).run := by
  refine (t27 n f).trans ?_
  refine (cond_chk (isEn_true (enc := eL27) (p := pL27) ⟨n, f, 0⟩ ⟨Nat.zero_le _, hp⟩)).trans ?_
  rw [unS_rowS, T.run_br]
  cases decide (n = 0) <;> rfl

theorem s27 : Sound1 Tryd.prog ⟨27, false, gcon c27⟩ := by
  refine sound_cm (soundTab_of all_tabE6) in27 (hn := h27) (m := 20) (k := 9) (Λ := L27) (fun _ _ => twoLoops (by kernel_rfl) l27 l27i) ?_
  rintro ⟨n, f⟩ hp hF hH
  exact e27 n f hF hH hp

noncomputable def tabY8 : Tab := ⟨27, false, gcon c27⟩ :: tabE6

theorem all_tabY8 : ∀ e, e ∈ tabY8 → Sound1 Tryd.prog e := (sound_mem_tab s27 all_tabE6)

theorem ok_tabY8 : SoundTab Tryd.prog tabY8 := soundTab_of all_tabY8
end Go.Deb
namespace Go.Deb

open Go Go.Proofs Go.Ab

set_option maxRecDepth 100000

set_option linter.unusedVariables false

set_option linter.unusedSimpArgs false

/-! ### One table of both halves; texts alike -/

def eqW (f g : Nat → List UInt8) (i : Nat) : Bool := f i == g i

structure Y25 where
  n : Nat
  f : Nat → List UInt8
  g : Nat → List UInt8
  i : Nat

def eL25 : Y25 → List AV × Hp := fun ⟨n, f, g, i⟩ => ([.sl 1 n (rowS f), .sl 1 n (rowS g), .int .i64 i], [])

def dL25 : List AV × Hp → Y25
  | ([.sl _ n f_g, .sl _ _ g_g, .int .i64 i], []) => ⟨n, unS f_g, unS g_g, i.toNat⟩
  | _ => ⟨default, default, default, default⟩

def pL25 : Y25 → Prop := fun ⟨n, f, g, i⟩ => i ≤ n ∧ n ≤ bnd

def rL25 : Y25 → T (AX × St) := fun ⟨n, f, g, i⟩ => .br (decide (fbad (eqW f g) (n - i) i < n)) (.leaf (.ret, { tm := tmOf 26 [(4, .bool false)], ms := [], hp := [] })) (.leaf (.exit 0, { tm := tmOf 26 [(0, .sl 1 n (rowS f)), (1, .sl 1 n (rowS g)), (5, .int .i64 n), (14, .bool false)], ms := [], hp := [] }))

noncomputable def L25 : LoopT := fun k => match Nat.beq k 400033 with
  | true => some (lccon (mbits 35 26) eL25 dL25 pL25 rL25)
  | false => none

theorem iL25 : ∀ x, dL25 (eL25 x) = x := by
  rintro ⟨n, f, g, i⟩
  simp only [eL25, dL25, Int.toNat_natCast, unS_rowS]

theorem kL25 (n : Nat) (f : Nat → List UInt8) (g : Nat → List UInt8) (i : Nat) (h : i ≤ n ∧ n ≤ bnd) : isEn eL25 pL25 ([.sl 1 n (rowS f), .sl 1 n (rowS g), .int .i64 i], []) = true := isEn_true (enc := eL25) (p := pL25) ⟨n, f, g, i⟩ h

theorem zL25 (n : Nat) (f : Nat → List UInt8) (g : Nat → List UInt8) (h : pL25 ⟨n, f, g, 0⟩) : isEn eL25 pL25 ([.sl 1 n (rowS f), .sl 1 n (rowS g), .int .i64 (0 : Int)], []) = true := isEn_true (enc := eL25) (p := pL25) ⟨n, f, g, 0⟩ h

theorem q25 (n : Nat) (f : Nat → List UInt8) (g : Nat → List UInt8) (i : Nat) : (rdn tabY8 h25 L25 25 0 0 { tm := encGo (mbits 35 26) [.sl 1 n (rowS f), .sl 1 n (rowS g), .int .i64 i], ms := [], hp := [] }).run =
  bif decide ((↑i : Int) < (↑n : Int)) then
   bif decide ((0 : Int) ≤ (↑i : Int) ∧ (↑i : Int) < (↑n : Int)) then
    bif decide ((0 : Int) ≤ (↑i : Int) ∧ (↑i : Int) < (↑n : Int)) then
     bif !f (↑i : Int).toNat == g (↑i : Int).toNat then
      some ((AX.ret, { tm := tmOf 26 [(4, AV.bool false)], ms := [], hp := [] }))
     else
      some ((AX.normal, { tm := tmOf 26 [(0, AV.sl 1 n (rowS f)), (1, AV.sl 1 n (rowS g)), (5, AV.int IntKind.i64 (IntKind.i64.wrap ((↑i : Int) + (1 : Int))))], ms := [], hp := [] }))
    else
     none
   else
    none
  else
   some ((AX.exit 0, { tm := tmOf 26 [(0, AV.sl 1 n (rowS f)), (1, AV.sl 1 n (rowS g)), (5, AV.int IntKind.i64 (↑i : Int)), (14, AV.bool false)], ms := [], hp := [] })) := by kernel_rfl

theorem l25 : LoopOk Tryd.prog tabY8.pf (fun n => hd Tryd.prog tabY8.pf tabY8.con.run (fun f => (H0 f).to) n 9) h25.to 25 0 none L25 (loopAt Tryd.prog 25 0) := by
  rw [show loopAt Tryd.prog 25 0 = .loop (lbody Tryd.prog 25 0) by kernel_rfl]
  refine loop_c (hdT_le (m := 20) 9) (m := 20) (lv := mbits 35 26) (p := pL25) (res := rL25) iL25 (within_of _ (by rw [show loopsOf (lbody Tryd.prog 25 0) = [] by kernel_rfl]; simp)) (by kernel_rfl) (fun ⟨n, f, g, i⟩ => n - i) ?_
  rintro ⟨n, f, g, i⟩ hp
  have ht := q25 n f g i
  obtain ⟨h1, h2⟩ := hp
  have hb := h2
  simp only [bnd] at hb
  by_cases hl : i < n
  · rw [decide_eq_true (show (i : Int) < n by omega), in_row hl, Int.toNat_natCast, w64n (by omega)] at ht
    simp only [cond_true] at ht
    have hd := fbad_step (q := eqW f g) hl
    cases hq : eqW f g i with
    | true =>
      rw [show (f i == g i) = true from hq] at ht
      rw [hq, cond_true] at hd
      left
      refine ⟨⟨n, f, g, i + 1⟩, ⟨by omega, h2⟩, by simp only; omega, ?_, ht⟩
      simp only [rL25, T.run_br, hd]
    | false =>
      rw [show (f i == g i) = false from hq] at ht
      rw [hq, cond_false] at hd
      right
      refine ⟨_, ?_, ?_, ht⟩
      · simp
      · simp only [rL25, T.run_br, hd, decide_eq_true hl] <;> rfl
  · have he : i = n := by omega
    right
    subst he
    rw [decide_eq_false (show ¬ (i : Int) < i by omega)] at ht
    refine ⟨_, ?_, ?_, ht⟩
    · simp
    · simp only [rL25, T.run_br, Nat.sub_self, fbad, decide_eq_false (Nat.lt_irrefl i)] <;> rfl

def txtF (n m : Nat) (f g : Nat → List UInt8) : Bool := n == m && decide (¬ fbad (eqW f g) n 0 < n)

theorem t25 (n : Nat) (m : Nat) (f : Nat → List UInt8) (g : Nat → List UInt8) : (evn tabY8 h25 L25 25 [.sl 1 n (rowS f), .sl 1 m (rowS g)] []).run =
  bif (↑n : Int) != (↑m : Int) then
   some ((AV.bool false, []))
  else
   bif isEn eL25 pL25 ([AV.sl 1 n (rowS f), AV.sl 1 m (rowS g), AV.int IntKind.i64 (0 : Int)], []) then
    bif decide (fbad (eqW (unS (rowS f)) (unS (rowS g))) (n - 0) 0 < n) then
     some ((AV.bool false, []))
    else
     some ((AV.bool true, []))
   else
    none := by kernel_rfl

structure X25 where
  n : Nat
  m : Nat
  f : Nat → List UInt8
  g : Nat → List UInt8

def en25 : X25 → List AV := fun ⟨n, m, f, g⟩ => [.sl 1 n (rowS f), .sl 1 m (rowS g)]

def de25 : List AV → X25
  | [.sl _ n f_g, .sl _ m g_g] => ⟨n, m, unS f_g, unS g_g⟩
  | _ => ⟨default, default, default, default⟩

def p25 : X25 → Prop := fun ⟨n, m, f, g⟩ => n ≤ bnd

def rs25 : X25 → T AV := fun ⟨n, m, f, g⟩ => .leaf (.bool (txtF n m f g))

noncomputable def c25 : List AV → T AV := ccon en25 de25 p25 rs25

theorem in25 : ∀ x, de25 (en25 x) = x := by
  rintro ⟨n, m, f, g⟩
  simp only [en25, de25, Int.toNat_natCast, unS_rowS]

theorem k25 (n : Nat) (m : Nat) (f : Nat → List UInt8) (g : Nat → List UInt8) (h : n ≤ bnd) : isEn en25 p25 [.sl 1 n (rowS f), .sl 1 m (rowS g)] = true := isEn_true (enc := en25) (p := p25) ⟨n, m, f, g⟩ h

theorem e25 (n : Nat) (m : Nat) (f : Nat → List UInt8) (g : Nat → List UInt8) (hF : FitsL [.sl 1 n (rowS f), .sl 1 m (rowS g)]) (hp : n ≤ bnd) : (evn tabY8 h25 L25 25 [.sl 1 n (rowS f), .sl 1 m (rowS g)] []).run = (.leaf (.bool (txtF n m f g)) : T AV).run.map fun r => (r, []) := by
  refine (t25 n m f g).trans ?_
  have e : ((n : Int) != (m : Int)) = !(n == m) := by rw [← nat_beqI n m]; rfl
  rw [e]
  unfold txtF
  cases h : (n == m) with
  | false => rfl
  | true =>
    obtain rfl : n = m := by simpa using h
    simp only [Bool.not_true, cond_false]
    rw [cond_chk (zL25 n f g ⟨Nat.zero_le _, hp⟩)]
    rw [unS_rowS, unS_rowS, Nat.sub_zero]
    by_cases hb : fbad (eqW f g) n 0 < n
    · rw [decide_eq_true hb, decide_eq_false (show ¬ ¬ fbad (eqW f g) n 0 < n from fun q => q hb)]; rfl
    · rw [decide_eq_false hb, decide_eq_true (show ¬ fbad (eqW f g) n 0 < n from hb)]; rfl

theorem s25 : Sound1 Tryd.prog ⟨25, true, pcon c25⟩ := by
  refine sound_c (soundTab_of all_tabY8) H0 in25 (hn := h25) (m := 20) (k := 9) (Λ := L25) (oneLoop (by kernel_rfl) l25) ?_
  rintro ⟨n, m, f, g⟩ hp hF
  exact e25 n m f g hF hp

noncomputable def tabZ2 : Tab := ⟨25, true, pcon c25⟩ :: tabY8

theorem all_tabZ2 : ∀ e, e ∈ tabZ2 → Sound1 Tryd.prog e := (sound_mem_tab s25 all_tabY8)

theorem ok_tabZ2 : SoundTab Tryd.prog tabZ2 := soundTab_of all_tabZ2
end Go.Deb

/- Lemmas for the claims of this seat (a verified symbolic evaluator, and contracts of functions): own work; no condition. -/
import Derived.Test.YtibanfkcemnifaaDoorFnJ
import Derived.Test.YtibanfkcemnifaaDoorEvF
namespace Go.Sem

open Go Go.Proofs Go.Ab

set_option maxRecDepth 100000

set_option linter.unusedVariables false

set_option linter.unusedSimpArgs false

noncomputable def tabD5 : Tab := ⟨88, false, gcon cS88⟩ :: tabD3

theorem all_tabD5 : ∀ e, e ∈ tabD5 → Sound1 Tryd.prog e := sound_mem_tab sS88 all_tabD3

theorem ok_tabD5 : SoundTab Tryd.prog tabD5 := soundTab_of all_tabD5

theorem div_step {n a z : Nat} (hz : 0 < z) (h : a + z ≤ n) : (n - a) / z = (n - (a + z)) / z + 1 := by
  rw [show n - a = (n - (a + z)) + z by omega, Nat.add_div_right _ hz]

theorem div_zero {n a z : Nat} (hz : 0 < z) (h : n < a + z) : (n - a) / z = 0 := Nat.div_eq_of_lt (by omega)

structure Y75 where
  N : Nat
  f : Nat → List UInt8
  a : Nat
  b : Nat

def eL75 : Y75 → List AV × Hp := fun ⟨N, f, a, b⟩ => ([.row 0 1 0 N, .int .i64 N, .fn 8 [], .int .i64 20, .int .i64 a, .int .i64 b], [some (.row 1 N (rowS f))])

def dL75 : List AV × Hp → Y75
  | ([.row _ _ _ N, .int .i64 _, .fn _ _, .int .i64 _, .int .i64 a, .int .i64 b], [some (.row _ _ f_g)]) => ⟨N, unS f_g, a.toNat, b.toNat⟩
  | _ => ⟨default, default, default, default⟩

def pL75 : Y75 → Prop := fun ⟨N, f, a, b⟩ => b = a + 20 ∧ a ≤ N ∧ N ≤ 576460752303423488

def rL75 : Y75 → T (AX × St) := fun ⟨N, f, a, b⟩ => .leaf (.exit 0, { tm := tmOf 63 [(0, .row 0 1 0 N), (1, .int .i64 N), (2, .fn 8 []), (6, .int .i64 20), (7, .int .i64 (a + (N - a) / 20 * 20 : Nat)), (8, .int .i64 (a + (N - a) / 20 * 20 + 20 : Nat)), (13, .bool false)], ms := [], hp := [some (.row 1 N (rowS (bkM cmpV 20 ((N - a) / 20) a f)))] })

noncomputable def LA75 : LoopT := fun k => match Nat.beq k 200026 with
  | true => some (lccon (mbits 455 63) eL75 dL75 pL75 rL75)
  | false => none

theorem iL75 : ∀ x, dL75 (eL75 x) = x := by
  rintro ⟨N, f, a, b⟩
  simp only [eL75, dL75, Int.toNat_natCast, unS_rowS]

theorem kL75 (N : Nat) (f : Nat → List UInt8) (a : Nat) (b : Nat) (h : b = a + 20 ∧ a ≤ N ∧ N ≤ 576460752303423488) : isEn eL75 pL75 ([.row 0 1 0 N, .int .i64 N, .fn 8 [], .int .i64 20, .int .i64 a, .int .i64 b], [some (.row 1 N (rowS f))]) = true := isEn_true (enc := eL75) (p := pL75) ⟨N, f, a, b⟩ h

theorem zL75 (N : Nat) (f : Nat → List UInt8) (a : Nat) (h : pL75 ⟨N, f, a, 0⟩) : isEn eL75 pL75 ([.row 0 1 0 N, .int .i64 N, .fn 8 [], .int .i64 20, .int .i64 a, .int .i64 (0 : Int)], [some (.row 1 N (rowS f))]) = true := isEn_true (enc := eL75) (p := pL75) ⟨N, f, a, 0⟩ h

theorem q75 (N : Nat) (f : Nat → List UInt8) (a : Nat) (b : Nat) : (rdn tabD5 h75 LA75 75 1 0 { tm := encGo (mbits 455 63) [.row 0 1 0 N, .int .i64 N, .fn 8 [], .int .i64 20, .int .i64 a, .int .i64 b], ms := [], hp := [some (.row 1 N (rowS f))] }).run =
  bif decide ((↑b : Int) ≤ (↑N : Int)) then
   bif isEn en87 p87 ([AV.row 0 1 0 N, AV.int IntKind.i64 (↑a : Int), AV.int IntKind.i64 (↑b : Int), AV.fn 8 []], [some (AObj.row 1 N (rowS f))]) then
    some ((AX.normal, { tm := tmOf 63 [(0, AV.row 0 1 0 N), (1, AV.int IntKind.i64 (↑N : Int)), (2, AV.fn 8 []), (6, AV.int IntKind.i64 (20 : Int)), (7, AV.int IntKind.i64 (↑b : Int)), (8, AV.int IntKind.i64 (IntKind.i64.wrap ((↑b : Int) + (20 : Int))))], ms := [], hp := [some (AObj.row 1 N (rowS (sortG cmpV (unS (rowS f)) (↑a : Int).toNat (↑b : Int).toNat)))] }))
   else
    none
  else
   some ((AX.exit 0, { tm := tmOf 63 [(0, AV.row 0 1 0 N), (1, AV.int IntKind.i64 (↑N : Int)), (2, AV.fn 8 []), (6, AV.int IntKind.i64 (20 : Int)), (7, AV.int IntKind.i64 (↑a : Int)), (8, AV.int IntKind.i64 (↑b : Int)), (13, AV.bool false)], ms := [], hp := [some (AObj.row 1 N (rowS f))] })) := by kernel_rfl

theorem l75 : LoopOk Tryd.prog tabD5.pf (fun n => hd Tryd.prog tabD5.pf tabD5.con.run (fun f => (H0 f).to) n 9) h75.to 75 1 none LA75 (loopAt Tryd.prog 75 0) := by
  rw [show loopAt Tryd.prog 75 0 = .loop (lbody Tryd.prog 75 0) by kernel_rfl]
  refine loop_c (hdT_le (m := 20) 9) (m := 20) (lv := mbits 455 63) (p := pL75) (res := rL75) iL75 (within_of _ (by rw [show loopsOf (lbody Tryd.prog 75 0) = [] by kernel_rfl]; simp)) (by kernel_rfl) (fun ⟨N, f, a, b⟩ => N - a) ?_
  rintro ⟨N, f, a, b⟩ hp
  have ht := q75 N f a b
  obtain ⟨rfl, h1, h2⟩ := hp
  by_cases hl : a + 20 ≤ N
  · have hd := div_step (n := N) (a := a) (z := 20) (by omega) hl
    rw [decide_eq_true (show ((a + 20 : Nat) : Int) ≤ N by omega), k87 N f a (a + 20) ⟨by omega, by omega, by simp only [bnd]; omega⟩, show IntKind.i64.wrap (((a + 20 : Nat) : Int) + 20) = ((a + 20 + 20 : Nat) : Int) by rw [w64 (by omega) (by omega)]; rfl] at ht
    simp only [cond_true, Int.toNat_natCast, unS_rowS] at ht
    left
    refine ⟨⟨N, sortG cmpV f a (a + 20), a + 20, a + 20 + 20⟩, ⟨rfl, hl, h2⟩, by simp only; omega, ?_, ht⟩
    simp only [rL75, T.run_leaf, hd, bkM]
    rw [show a + ((N - (a + 20)) / 20 + 1) * 20 = a + 20 + (N - (a + 20)) / 20 * 20 by omega]
  · right
    have hd := div_zero (n := N) (a := a) (z := 20) (by omega) (by omega)
    rw [decide_eq_false (show ¬ ((a + 20 : Nat) : Int) ≤ N by omega)] at ht
    refine ⟨_, ?_, ?_, ht⟩
    · simp
    · simp only [rL75, T.run_leaf, hd, bkM, Nat.zero_mul, Nat.add_zero] <;> rfl

structure Y75_2 where
  N : Nat
  f : Nat → List UInt8
  z : Nat
  a : Nat
  b : Nat

def eL75_2 : Y75_2 → List AV × Hp := fun ⟨N, f, z, a, b⟩ => ([.row 0 1 0 N, .int .i64 N, .fn 8 [], .int .i64 z, .int .i64 a, .int .i64 b], [some (.row 1 N (rowS f))])

def dL75_2 : List AV × Hp → Y75_2
  | ([.row _ _ _ N, .int .i64 _, .fn _ _, .int .i64 z, .int .i64 a, .int .i64 b], [some (.row _ _ f_g)]) => ⟨N, unS f_g, z.toNat, a.toNat, b.toNat⟩
  | _ => ⟨default, default, default, default, default⟩

def pL75_2 : Y75_2 → Prop := fun ⟨N, f, z, a, b⟩ => b = a + 2 * z ∧ a ≤ N ∧ N ≤ 576460752303423488 ∧ 0 < z ∧ z ≤ 2 * N + 40 ∧ BS cmpV z N f a

def rL75_2 : Y75_2 → T (AX × St) := fun ⟨N, f, z, a, b⟩ => .leaf (.exit 4, { tm := tmOf 63 [(0, .row 0 1 0 N), (1, .int .i64 N), (2, .fn 8 []), (6, .int .i64 z), (7, .int .i64 (a + (N - a) / (2 * z) * (2 * z) : Nat)), (8, .int .i64 (a + (N - a) / (2 * z) * (2 * z) + 2 * z : Nat)), (35, .bool false)], ms := [], hp := [some (.row 1 N (rowS (mgM cmpV z ((N - a) / (2 * z)) a f)))] })

noncomputable def LB75 : LoopT := fun k => match Nat.beq k 900030 with
  | true => some (lccon (mbits 455 63) eL75_2 dL75_2 pL75_2 rL75_2)
  | false => LA75 k

theorem iL75_2 : ∀ x, dL75_2 (eL75_2 x) = x := by
  rintro ⟨N, f, z, a, b⟩
  simp only [eL75_2, dL75_2, Int.toNat_natCast, unS_rowS]

theorem kL75_2 (N : Nat) (f : Nat → List UInt8) (z : Nat) (a : Nat) (b : Nat) (h : b = a + 2 * z ∧ a ≤ N ∧ N ≤ 576460752303423488 ∧ 0 < z ∧ z ≤ 2 * N + 40 ∧ BS cmpV z N f a) : isEn eL75_2 pL75_2 ([.row 0 1 0 N, .int .i64 N, .fn 8 [], .int .i64 z, .int .i64 a, .int .i64 b], [some (.row 1 N (rowS f))]) = true := isEn_true (enc := eL75_2) (p := pL75_2) ⟨N, f, z, a, b⟩ h

theorem zL75_2 (N : Nat) (f : Nat → List UInt8) (z : Nat) (a : Nat) (h : pL75_2 ⟨N, f, z, a, 0⟩) : isEn eL75_2 pL75_2 ([.row 0 1 0 N, .int .i64 N, .fn 8 [], .int .i64 z, .int .i64 a, .int .i64 (0 : Int)], [some (.row 1 N (rowS f))]) = true := isEn_true (enc := eL75_2) (p := pL75_2) ⟨N, f, z, a, 0⟩ h

theorem q75_2 (N : Nat) (f : Nat → List UInt8) (z : Nat) (a : Nat) (b : Nat) : (rdn tabD5 h75 LB75 75 1 2 { tm := encGo (mbits 455 63) [.row 0 1 0 N, .int .i64 N, .fn 8 [], .int .i64 z, .int .i64 a, .int .i64 b], ms := [], hp := [some (.row 1 N (rowS f))] }).run =
  bif decide ((↑b : Int) ≤ (↑N : Int)) then
   bif isEn en88 pS88 ([AV.row 0 1 0 N, AV.int IntKind.i64 (↑a : Int), AV.int IntKind.i64 (IntKind.i64.wrap ((↑a : Int) + (↑z : Int))), AV.int IntKind.i64 (↑b : Int), AV.fn 8 []], [some (AObj.row 1 N (rowS f))]) then
    some ((AX.normal, { tm := tmOf 63 [(0, AV.row 0 1 0 N), (1, AV.int IntKind.i64 (↑N : Int)), (2, AV.fn 8 []), (6, AV.int IntKind.i64 (↑z : Int)), (7, AV.int IntKind.i64 (↑b : Int)), (8, AV.int IntKind.i64 (IntKind.i64.wrap ((↑b : Int) + IntKind.i64.wrap ((2 : Int) * (↑z : Int)))))], ms := [], hp := [some (AObj.row 1 N (rowS (sortG cmpV (unS (rowS f)) (↑a : Int).toNat (↑b : Int).toNat)))] }))
   else
    none
  else
   some ((AX.exit 4, { tm := tmOf 63 [(0, AV.row 0 1 0 N), (1, AV.int IntKind.i64 (↑N : Int)), (2, AV.fn 8 []), (6, AV.int IntKind.i64 (↑z : Int)), (7, AV.int IntKind.i64 (↑a : Int)), (8, AV.int IntKind.i64 (↑b : Int)), (35, AV.bool false)], ms := [], hp := [some (AObj.row 1 N (rowS f))] })) := by kernel_rfl

theorem l75_2 : LoopOk Tryd.prog tabD5.pf (fun n => hd Tryd.prog tabD5.pf tabD5.con.run (fun f => (H0 f).to) n 9) h75.to 75 1 none LB75 (loopAt Tryd.prog 75 2) := by
  rw [show loopAt Tryd.prog 75 2 = .loop (lbody Tryd.prog 75 2) by kernel_rfl]
  refine loop_c (hdT_le (m := 20) 9) (m := 20) (lv := mbits 455 63) (p := pL75_2) (res := rL75_2) iL75_2 (within_of _ (by rw [show loopsOf (lbody Tryd.prog 75 2) = [] by kernel_rfl]; simp)) (by kernel_rfl) (fun ⟨N, f, z, a, b⟩ => N - a) ?_
  rintro ⟨N, f, z, a, b⟩ hp
  have ht := q75_2 N f z a b
  obtain ⟨rfl, h1, h2, h3, h4, h5⟩ := hp
  by_cases hl : a + 2 * z ≤ N
  · have hd := div_step (n := N) (a := a) (z := 2 * z) (by omega) hl
    obtain ⟨t1, t2⟩ := h5.two hl
    rw [decide_eq_true (show ((a + 2 * z : Nat) : Int) ≤ N by omega), w64a (a := a) (b := z) (by omega), kS88 N f a (a + z) (a + 2 * z) ⟨by omega, by omega, by omega, by omega, t1, t2⟩,
      show IntKind.i64.wrap (((a + 2 * z : Nat) : Int) + IntKind.i64.wrap (2 * (z : Int))) = ((a + 2 * z + 2 * z : Nat) : Int) by rw [w64 (n := 2 * (z : Int)) (by omega) (by omega), w64 (by omega) (by omega)]; omega] at ht
    simp only [cond_true, Int.toNat_natCast, unS_rowS] at ht
    left
    refine ⟨⟨N, sortG cmpV f a (a + 2 * z), z, a + 2 * z, a + 2 * z + 2 * z⟩, ⟨rfl, hl, h2, h3, h4, h5.next cmpV_ord⟩, by simp only; omega, ?_, ht⟩
    simp only [rL75_2, T.run_leaf, hd, mgM]
    rw [show a + ((N - (a + 2 * z)) / (2 * z) + 1) * (2 * z) = a + 2 * z + (N - (a + 2 * z)) / (2 * z) * (2 * z) by rw [Nat.add_mul]; omega]
  · right
    have hd := div_zero (n := N) (a := a) (z := 2 * z) (by omega) (by omega)
    rw [decide_eq_false (show ¬ ((a + 2 * z : Nat) : Int) ≤ N by omega)] at ht
    refine ⟨_, ?_, ?_, ht⟩
    · simp
    · simp only [rL75_2, T.run_leaf, hd, mgM, Nat.zero_mul, Nat.add_zero] <;> rfl

structure Y75_1 where
  N : Nat
  f : Nat → List UInt8
  z : Nat

def eL75_1 : Y75_1 → List AV × Hp := fun ⟨N, f, z⟩ => ([.row 0 1 0 N, .int .i64 N, .fn 8 [], .int .i64 z], [some (.row 1 N (rowS f))])

def dL75_1 : List AV × Hp → Y75_1
  | ([.row _ _ _ N, .int .i64 _, .fn _ _, .int .i64 z], [some (.row _ _ f_g)]) => ⟨N, unS f_g, z.toNat⟩
  | _ => ⟨default, default, default⟩

def pL75_1 : Y75_1 → Prop := fun ⟨N, f, z⟩ => N ≤ 576460752303423488 ∧ 0 < z ∧ z ≤ 2 * N + 40 ∧ BS cmpV z N f 0

def rL75_1 : Y75_1 → T (AX × St) := fun ⟨N, f, z⟩ => .leaf (.exit 2, { tm := tmOf 63 [(0, .row 0 1 0 N), (1, .int .i64 N), (2, .fn 8 []), (6, .int .i64 (dbl N (N - z) z)), (30, .bool false)], ms := [], hp := [some (.row 1 N (rowS (sortG cmpV f 0 N)))] })

noncomputable def L75 : LoopT := fun k => match Nat.beq k 700074 with
  | true => some (lccon (mbits 71 63) eL75_1 dL75_1 pL75_1 rL75_1)
  | false => LB75 k

theorem iL75_1 : ∀ x, dL75_1 (eL75_1 x) = x := by
  rintro ⟨N, f, z⟩
  simp only [eL75_1, dL75_1, Int.toNat_natCast, unS_rowS]

theorem kL75_1 (N : Nat) (f : Nat → List UInt8) (z : Nat) (h : N ≤ 576460752303423488 ∧ 0 < z ∧ z ≤ 2 * N + 40 ∧ BS cmpV z N f 0) : isEn eL75_1 pL75_1 ([.row 0 1 0 N, .int .i64 N, .fn 8 [], .int .i64 z], [some (.row 1 N (rowS f))]) = true := isEn_true (enc := eL75_1) (p := pL75_1) ⟨N, f, z⟩ h

theorem zL75_1 (N : Nat) (f : Nat → List UInt8) (h : pL75_1 ⟨N, f, 0⟩) : isEn eL75_1 pL75_1 ([.row 0 1 0 N, .int .i64 N, .fn 8 [], .int .i64 (0 : Int)], [some (.row 1 N (rowS f))]) = true := isEn_true (enc := eL75_1) (p := pL75_1) ⟨N, f, 0⟩ h

theorem q75_1 (N : Nat) (f : Nat → List UInt8) (z : Nat) : (rdn tabD5 h75 L75 75 1 1 { tm := encGo (mbits 71 63) [.row 0 1 0 N, .int .i64 N, .fn 8 [], .int .i64 z], ms := [], hp := [some (.row 1 N (rowS f))] }).run =
  bif decide ((↑z : Int) < (↑N : Int)) then
   bif isEn eL75_2 pL75_2 ([AV.row 0 1 0 N, AV.int IntKind.i64 (↑N : Int), AV.fn 8 [], AV.int IntKind.i64 (↑z : Int), AV.int IntKind.i64 (0 : Int), AV.int IntKind.i64 (IntKind.i64.wrap ((2 : Int) * (↑z : Int)))], [some (AObj.row 1 N (rowS f))]) then
    bif decide (IntKind.i64.wrap ((↑(0 + (N - 0) / (2 * (↑z : Int).toNat) * (2 * (↑z : Int).toNat)) : Int) + (↑(↑z : Int).toNat : Int)) < (↑N : Int)) then
     bif isEn en88 pS88 ([AV.row 0 1 0 N, AV.int IntKind.i64 (↑(0 + (N - 0) / (2 * (↑z : Int).toNat) * (2 * (↑z : Int).toNat)) : Int), AV.int IntKind.i64 (IntKind.i64.wrap ((↑(0 + (N - 0) / (2 * (↑z : Int).toNat) * (2 * (↑z : Int).toNat)) : Int) + (↑(↑z : Int).toNat : Int))), AV.int IntKind.i64 (↑N : Int), AV.fn 8 []], [some (AObj.row 1 N (rowS (mgM cmpV (↑z : Int).toNat ((N - 0) / (2 * (↑z : Int).toNat)) 0 (unS (rowS f)))))]) then
      some ((AX.normal, { tm := tmOf 63 [(0, AV.row 0 1 0 N), (1, AV.int IntKind.i64 (↑N : Int)), (2, AV.fn 8 []), (6, AV.int IntKind.i64 (IntKind.i64.wrap ((↑(↑z : Int).toNat : Int) * (2 : Int))))], ms := [], hp := [some (AObj.row 1 N (rowS (sortG cmpV (unS (rowS (mgM cmpV (↑z : Int).toNat ((N - 0) / (2 * (↑z : Int).toNat)) 0 (unS (rowS f))))) (↑(0 + (N - 0) / (2 * (↑z : Int).toNat) * (2 * (↑z : Int).toNat)) : Int).toNat (↑N : Int).toNat)))] }))
     else
      none
    else
     some ((AX.normal, { tm := tmOf 63 [(0, AV.row 0 1 0 N), (1, AV.int IntKind.i64 (↑N : Int)), (2, AV.fn 8 []), (6, AV.int IntKind.i64 (IntKind.i64.wrap ((↑(↑z : Int).toNat : Int) * (2 : Int))))], ms := [], hp := [some (AObj.row 1 N (rowS (mgM cmpV (↑z : Int).toNat ((N - 0) / (2 * (↑z : Int).toNat)) 0 (unS (rowS f)))))] }))
   else
    none
  else
   some ((AX.exit 2, { tm := tmOf 63 [(0, AV.row 0 1 0 N), (1, AV.int IntKind.i64 (↑N : Int)), (2, AV.fn 8 []), (6, AV.int IntKind.i64 (↑z : Int)), (30, AV.bool false)], ms := [], hp := [some (AObj.row 1 N (rowS f))] })) := by kernel_rfl

theorem l75_1 : LoopOk Tryd.prog tabD5.pf (fun n => hd Tryd.prog tabD5.pf tabD5.con.run (fun f => (H0 f).to) n 9) h75.to 75 1 none L75 (loopAt Tryd.prog 75 1) := by
  rw [show loopAt Tryd.prog 75 1 = .loop (lbody Tryd.prog 75 1) by kernel_rfl]
  refine loop_c (hdT_le (m := 20) 9) (m := 20) (lv := mbits 71 63) (p := pL75_1) (res := rL75_1) iL75_1 (within_of _ (by
      rw [show loopsOf (lbody Tryd.prog 75 1) = [loopAt Tryd.prog 75 2] by kernel_rfl]
      intro d hd
      simp only [List.mem_cons, List.not_mem_nil, or_false] at hd
      subst hd
      exact l75_2)) (by kernel_rfl) (fun ⟨N, f, z⟩ => N - z) ?_
  rintro ⟨N, f, z⟩ hp
  have ht := q75_1 N f z
  obtain ⟨h1, h2, h3, h4⟩ := hp
  by_cases hl : z < N
  · left
    have hw2 : IntKind.i64.wrap (2 * (z : Int)) = ((2 * z : Nat) : Int) := by rw [w64 (by omega) (by omega)]; omega
    have hk := kL75_2 N f z 0 (2 * z) ⟨by omega, by omega, h1, h2, h3, h4⟩
    rw [decide_eq_true (show (z : Int) < N by omega), hw2, cond_true] at ht
    rw [show isEn eL75_2 pL75_2 ([AV.row 0 1 0 N, AV.int IntKind.i64 (N : Nat), AV.fn 8 [], AV.int IntKind.i64 (z : Nat), AV.int IntKind.i64 (0 : Int), AV.int IntKind.i64 ((2 * z : Nat) : Int)], [some (AObj.row 1 N (rowS f))]) = true from hk, cond_true] at ht
    simp only [Int.toNat_natCast, unS_rowS, show Int.toNat (0 : Int) = 0 from rfl, Nat.zero_add, Nat.sub_zero] at ht
    have q1 : N / (2 * z) * (2 * z) ≤ N := Nat.div_mul_le_self N (2 * z)
    have q2 : N < N / (2 * z) * (2 * z) + 2 * z := by have := Nat.lt_div_mul_add (a := N) (b := 2 * z) (by omega); omega
    obtain ⟨m1, m2⟩ := mg_ok cmpV_ord (z := z) (n := N) h2 (N / (2 * z)) 0 f (by omega) (by omega) h4
    have m3 := BS.rest cmpV_ord (N / (2 * z)) 0 f h4
    simp only [Nat.zero_add] at m1 m2 m3
    have hs := dbl_step h2 hl
    have hfin : sortG cmpV (tlM cmpV z N (N / (2 * z) * (2 * z)) (mgM cmpV z (N / (2 * z)) 0 f)) 0 N = sortG cmpV f 0 N := (sortG_congr cmpV_ord m1).symm
    generalize hA : N / (2 * z) * (2 * z) = A at *
    generalize hG : mgM cmpV z (N / (2 * z)) 0 f = g at *
    rw [w64a (a := A) (b := z) (by omega), show IntKind.i64.wrap ((z : Int) * 2) = ((2 * z : Nat) : Int) by rw [w64 (by omega) (by omega)]; omega] at ht
    refine ⟨⟨N, tlM cmpV z N A g, 2 * z⟩, ⟨h1, by omega, by omega, m2⟩, by simp only; omega, ?_, ht.trans ?_⟩
    · simp only [rL75_1, T.run_leaf, hs, hfin]
    · unfold tlM
      by_cases hc : A + z < N
      · obtain ⟨t1, t2⟩ := m3.tail hc (by omega)
        rw [decide_eq_true (show ((A + z : Nat) : Int) < N by omega), cond_true, kS88 N g A (A + z) N ⟨by omega, hc, Nat.le_refl _, by omega, t1, t2⟩, cond_true, if_pos hc]
        rfl
      · rw [decide_eq_false (show ¬ ((A + z : Nat) : Int) < N by omega), cond_false, if_neg hc]
        rfl
  · right
    rw [decide_eq_false (show ¬ (z : Int) < N by omega)] at ht
    refine ⟨_, ?_, ?_, ht⟩
    · simp
    · simp only [rL75_1, T.run_leaf, h4.whole cmpV_ord (by omega), dbl_end (show N ≤ z by omega)] <;> rfl

theorem threeLoops {f : FuncId} {Φ : Nat → Prop} (h : (loopsOf (bodyOf Tryd.prog f)).length = 3) (h0 : Φ 0) (h1 : Φ 1) (h2 : Φ 2) : ∀ i, i < (loopsOf (bodyOf Tryd.prog f)).length → Φ i := fun i hi => by
  rcases (by omega : i = 0 ∨ i = 1 ∨ i = 2) with rfl | rfl | rfl
  · exact h0
  · exact h1
  · exact h2

theorem t75 (N : Nat) (f : Nat → List UInt8) : (evn tabD5 h75 L75 75 [.row 0 1 0 N, .int .i64 N, .fn 8 []] [some (.row 1 N (rowS f))]).run =
  bif isEn eL75 pL75 ([AV.row 0 1 0 N, AV.int IntKind.i64 (↑N : Int), AV.fn 8 [], AV.int IntKind.i64 (20 : Int), AV.int IntKind.i64 (0 : Int), AV.int IntKind.i64 (20 : Int)], [some (AObj.row 1 N (rowS f))]) then
   bif isEn en87 p87 ([AV.row 0 1 0 N, AV.int IntKind.i64 (↑(0 + (N - 0) / 20 * 20) : Int), AV.int IntKind.i64 (↑N : Int), AV.fn 8 []], [some (AObj.row 1 N (rowS (bkM cmpV 20 ((N - 0) / 20) 0 (unS (rowS f)))))]) then
    bif isEn eL75_1 pL75_1 ([AV.row 0 1 0 N, AV.int IntKind.i64 (↑N : Int), AV.fn 8 [], AV.int IntKind.i64 (20 : Int)], [some (AObj.row 1 N (rowS (sortG cmpV (unS (rowS (bkM cmpV 20 ((N - 0) / 20) 0 (unS (rowS f))))) (↑(0 + (N - 0) / 20 * 20) : Int).toNat (↑N : Int).toNat)))]) then
     some ((AV.tup [], [some (AObj.row 1 N (rowS (sortG cmpV (unS (rowS (sortG cmpV (unS (rowS (bkM cmpV 20 ((N - 0) / 20) 0 (unS (rowS f))))) (↑(0 + (N - 0) / 20 * 20) : Int).toNat (↑N : Int).toNat))) 0 N)))]))
    else
     none
   else
    none
  else
   none := by kernel_rfl

structure X75 where
  N : Nat
  f : Nat → List UInt8

def en75 : X75 → List AV × Hp := fun ⟨N, f⟩ => ([.row 0 1 0 N, .int .i64 N, .fn 8 []], [some (.row 1 N (rowS f))])

def de75 : List AV × Hp → X75
  | ([.row _ _ _ N, .int .i64 _, .fn _ _], [some (.row _ _ f_g)]) => ⟨N, unS f_g⟩
  | _ => ⟨default, default⟩

def p75 : X75 → Prop := fun ⟨N, f⟩ => N ≤ 576460752303423488

def rs75 : X75 → T (AV × Hp) := fun ⟨N, f⟩ => .leaf (.tup [], [some (.row 1 N (rowS (sortG cmpV f 0 N)))])

noncomputable def c75 : List AV → Hp → T (AV × Hp) := mcon en75 de75 p75 rs75

theorem in75 : ∀ x, de75 (en75 x) = x := by
  rintro ⟨N, f⟩
  simp only [en75, de75, Int.toNat_natCast, unS_rowS]

theorem k75 (N : Nat) (f : Nat → List UInt8) (h : N ≤ 576460752303423488) : isEn en75 p75 ([.row 0 1 0 N, .int .i64 N, .fn 8 []], [some (.row 1 N (rowS f))]) = true := isEn_true (enc := en75) (p := p75) ⟨N, f⟩ h

theorem e75 (N : Nat) (f : Nat → List UInt8) (hF : FitsL [.row 0 1 0 N, .int .i64 N, .fn 8 []]) (hH : FitsH [some (.row 1 N (rowS f))]) (hp : N ≤ 576460752303423488) : (evn tabD5 h75 L75 75 [.row 0 1 0 N, .int .i64 N, .fn 8 []] [some (.row 1 N (rowS f))]).run = (.leaf (.tup [], [some (.row 1 N (rowS (sortG cmpV f 0 N)))]) : T (AV × Hp)).run := by
  refine (t75 N f).trans ?_
  refine (cond_chk (kL75 N f 0 20 ⟨rfl, Nat.zero_le _, hp⟩)).trans ?_
  simp only [Nat.zero_add, Nat.sub_zero, unS_rowS, Int.toNat_natCast]
  have q1 : N / 20 * 20 ≤ N := Nat.div_mul_le_self N 20
  have q2 : N < N / 20 * 20 + 20 := by omega
  refine (cond_chk (k87 N _ (N / 20 * 20) N ⟨q1, Nat.le_refl _, by simp only [bnd]; omega⟩)).trans ?_
  obtain ⟨m1, m2⟩ := bk_ok cmpV_ord (z := 20) (n := N) (by omega) (N / 20) 0 f (by omega) (by omega)
  simp only [Nat.zero_add] at m1 m2
  refine (cond_chk (kL75_1 N _ 20 ⟨hp, by omega, by omega, m2⟩)).trans ?_
  rw [← sortG_congr cmpV_ord m1]; rfl

theorem s75 : Sound1 Tryd.prog ⟨75, false, gcon c75⟩ := by
  refine sound_cm (soundTab_of all_tabD5) in75 (hn := h75) (m := 20) (k := 9) (Λ := L75) (fun _ _ => threeLoops (by kernel_rfl) l75 l75_1 l75_2) ?_
  rintro ⟨N, f⟩ hp hF hH
  exact e75 N f hF hH hp

noncomputable def tabD6 : Tab := ⟨75, false, gcon c75⟩ :: tabD5

theorem all_tabD6 : ∀ e, e ∈ tabD6 → Sound1 Tryd.prog e := (sound_mem_tab s75 all_tabD5)

theorem ok_tabD6 : SoundTab Tryd.prog tabD6 := soundTab_of all_tabD6

theorem t23q (l : List (List UInt8)) : (evn tabD6 h23 noLoops 23 [.row 0 1 0 l.length] [some (.row 1 l.length (strF l))]).run =
  bif decide (0 + l.length ≤ l.length) then
   bif decide ((0 + l.length) * 16 ≤ 140737488355328 ∧ 0 + l.length ≤ 4611686018427387903) then
    bif isEn en75 p75 ([AV.row 0 1 0 (0 + l.length), AV.int IntKind.i64 (↑(0 + l.length) : Int), AV.fn 8 []], [some (AObj.row 1 (0 + l.length) (appF 0 (rowF 1 (List.map (fun i => (List.map aconst1 (Value.string { data := #[] }).cells.toList).getD (i % 1) AV.junk) (List.range 0))) fun i => strF l (0 + i)))]) then
     some ((AV.row 1 1 0 (0 + l.length), [some (AObj.row 1 l.length (strF l)), some (AObj.row 1 (0 + l.length) (rowS (sortG cmpV (unS (appF 0 (rowF 1 (List.map (fun i => (List.map aconst1 (Value.string { data := #[] }).cells.toList).getD (i % 1) AV.junk) (List.range 0))) fun i => strF l (0 + i))) 0 (0 + l.length))))]))
    else
     none
   else
    none
  else
   none := by kernel_rfl

end Go.Sem
namespace Go.Sem

open Go Go.Proofs Go.Ab

set_option maxRecDepth 100000

set_option linter.unusedVariables false

set_option linter.unusedSimpArgs false

/-! ### The reference's Reader: more, wrong, none, Is, Byte -/

abbrev rr (s : List UInt8) (a e : Int) : Option AObj := some (.cells [.str s, .int .i64 a, .int .i64 e])

theorem t73 (s : List UInt8) (a : Int) (e : Int) : (evn tabD6 h73 noLoops 73 [.ref 0 0] [rr s a e]).run =
  bif e == (0 : Int) then
   some ((AV.bool (decide (a < (↑s.length : Int))), [some (AObj.cells [AV.str s, AV.int IntKind.i64 a, AV.int IntKind.i64 e])]))
  else
   some ((AV.bool false, [some (AObj.cells [AV.str s, AV.int IntKind.i64 a, AV.int IntKind.i64 e])])) := by kernel_rfl

def c73 : List AV → Hp → T (AV × Hp)
  | [.ref 0 0], [some (.cells [.str s, .int .i64 a, .int .i64 e])] => .br (e == 0) (.leaf (.bool (decide (a < s.length)), [rr s a e])) (.leaf (.bool false, [rr s a e]))
  | _, _ => .fail

theorem e73 (s : List UInt8) (a : Int) (e : Int) (hF : FitsL [.ref 0 0]) (hH : FitsH [rr s a e]) : (evn tabD6 h73 noLoops 73 [.ref 0 0] [rr s a e]).run = (.br (e == 0) (.leaf (.bool (decide (a < s.length)), [rr s a e])) (.leaf (.bool false, [rr s a e])) : T (AV × Hp)).run := by
  refine (t73 s a e).trans ?_
  cases h : (e == 0) <;> rfl

theorem s73 : Sound1 Tryd.prog ⟨73, false, gcon c73⟩ := by
  refine sound_mem (soundTab_of all_tabD6) (hn := h73) (m := 20) (k := 9) (Λ := noLoops) (fun _ _ _ _ _ i hi => anyLoopsB) fun args hs r hs' hF hH h => ?_
  unfold c73 at h
  split at h
  · rename_i s a e
    rw [e73 s a e hF hH, h]
  · cases h

theorem t74 (s : List UInt8) (a : Int) (e : Int) (x : Int) : (evn tabD6 h74 noLoops 74 [.ref 0 0, .int .i64 x] [rr s a e]).run =
  bif e == (0 : Int) then
   some ((AV.tup [], [some (AObj.cells [AV.str s, AV.int IntKind.i64 a, AV.int IntKind.i64 x])]))
  else
   some ((AV.tup [], [some (AObj.cells [AV.str s, AV.int IntKind.i64 a, AV.int IntKind.i64 e])])) := by kernel_rfl

def c74 : List AV → Hp → T (AV × Hp)
  | [.ref 0 0, .int .i64 x], [some (.cells [.str s, .int .i64 a, .int .i64 e])] => .br (e == 0) (.leaf (.tup [], [rr s a x])) (.leaf (.tup [], [rr s a e]))
  | _, _ => .fail

theorem e74 (s : List UInt8) (a : Int) (e : Int) (x : Int) (hF : FitsL [.ref 0 0, .int .i64 x]) (hH : FitsH [rr s a e]) : (evn tabD6 h74 noLoops 74 [.ref 0 0, .int .i64 x] [rr s a e]).run = (.br (e == 0) (.leaf (.tup [], [rr s a x])) (.leaf (.tup [], [rr s a e])) : T (AV × Hp)).run := by
  refine (t74 s a e x).trans ?_
  cases h : (e == 0) <;> rfl

theorem s74 : Sound1 Tryd.prog ⟨74, false, gcon c74⟩ := by
  refine sound_mem (soundTab_of all_tabD6) (hn := h74) (m := 20) (k := 9) (Λ := noLoops) (fun _ _ _ _ _ i hi => anyLoopsB) fun args hs r hs' hF hH h => ?_
  unfold c74 at h
  split at h
  · rename_i x s a e
    rw [e74 s a e x hF hH, h]
  · cases h

noncomputable def tabE1 : Tab := ⟨73, false, gcon c73⟩ :: ⟨74, false, gcon c74⟩ :: tabD6

theorem all_tabE1 : ∀ e, e ∈ tabE1 → Sound1 Tryd.prog e := (sound_mem_tab s73 (sound_mem_tab s74 all_tabD6))

theorem ok_tabE1 : SoundTab Tryd.prog tabE1 := soundTab_of all_tabE1

theorem t86 (s : List UInt8) (a : Int) (e : Int) : (evn tabE1 h86 noLoops 86 [.ref 0 0] [rr s a e]).run =
  bif decide (a < (↑s.length : Int)) then
   bif e == (0 : Int) then
    some ((AV.tup [], [some (AObj.cells [AV.str s, AV.int IntKind.i64 a, AV.int IntKind.i64 (10 : Int)])]))
   else
    some ((AV.tup [], [some (AObj.cells [AV.str s, AV.int IntKind.i64 a, AV.int IntKind.i64 e])]))
  else
   bif e == (0 : Int) then
    some ((AV.tup [], [some (AObj.cells [AV.str s, AV.int IntKind.i64 a, AV.int IntKind.i64 (11 : Int)])]))
   else
    some ((AV.tup [], [some (AObj.cells [AV.str s, AV.int IntKind.i64 a, AV.int IntKind.i64 e])])) := by kernel_rfl

def c86 : List AV → Hp → T (AV × Hp)
  | [.ref 0 0], [some (.cells [.str s, .int .i64 a, .int .i64 e])] => .br (e == 0) (.br (decide (a ≥ s.length)) (.leaf (.tup [], [rr s a 11])) (.leaf (.tup [], [rr s a 10]))) (.leaf (.tup [], [rr s a e]))
  | _, _ => .fail

theorem e86 (s : List UInt8) (a : Int) (e : Int) (hF : FitsL [.ref 0 0]) (hH : FitsH [rr s a e]) : (evn tabE1 h86 noLoops 86 [.ref 0 0] [rr s a e]).run = (.br (e == 0) (.br (decide (a ≥ s.length)) (.leaf (.tup [], [rr s a 11])) (.leaf (.tup [], [rr s a 10]))) (.leaf (.tup [], [rr s a e])) : T (AV × Hp)).run := by
  refine (t86 s a e).trans ?_
  cases h : (e == 0)
  · cases decide (a < (s.length : Int)) <;> rfl
  · by_cases h1 : a < (s.length : Int)
    · rw [decide_eq_true h1, decide_eq_false (show ¬ a ≥ (s.length : Int) by omega)]; rfl
    · rw [decide_eq_false h1, decide_eq_true (show a ≥ (s.length : Int) by omega)]; rfl

theorem s86 : Sound1 Tryd.prog ⟨86, false, gcon c86⟩ := by
  refine sound_mem (soundTab_of all_tabE1) (hn := h86) (m := 20) (k := 9) (Λ := noLoops) (fun _ _ _ _ _ i hi => anyLoopsB) fun args hs r hs' hF hH h => ?_
  unfold c86 at h
  split at h
  · rename_i s a e
    rw [e86 s a e hF hH, h]
  · cases h

theorem t71 (s : List UInt8) (a : Int) (e : Int) (c : Int) : (evn tabE1 h71 noLoops 71 [.ref 0 0, .int .u8 c] [rr s a e]).run =
  bif e == (0 : Int) then
   bif decide (a < (↑s.length : Int)) then
    bif decide ((0 : Int) ≤ a ∧ a < (↑s.length : Int)) then
     some ((AV.bool ((↑(s.getD a.toNat (0 : UInt8)).toNat : Int) == c), [some (AObj.cells [AV.str s, AV.int IntKind.i64 a, AV.int IntKind.i64 e])]))
    else
     none
   else
    some ((AV.bool false, [some (AObj.cells [AV.str s, AV.int IntKind.i64 a, AV.int IntKind.i64 e])]))
  else
   some ((AV.bool false, [some (AObj.cells [AV.str s, AV.int IntKind.i64 a, AV.int IntKind.i64 e])])) := by kernel_rfl

def c71 : List AV → Hp → T (AV × Hp)
  | [.ref 0 0, .int .u8 c], [some (.cells [.str s, .int .i64 a, .int .i64 e])] => .chk (decide (0 ≤ a)) (.br (e == 0) (.leaf (.bool (isAt s a c), [rr s a e])) (.leaf (.bool false, [rr s a e])))
  | _, _ => .fail

theorem e71 (s : List UInt8) (a : Int) (e : Int) (c : Int) (hF : FitsL [.ref 0 0, .int .u8 c]) (hH : FitsH [rr s a e]) (hp : 0 ≤ a) : (evn tabE1 h71 noLoops 71 [.ref 0 0, .int .u8 c] [rr s a e]).run = (.br (e == 0) (.leaf (.bool (isAt s a c), [rr s a e])) (.leaf (.bool false, [rr s a e])) : T (AV × Hp)).run := by
  refine (t71 s a e c).trans ?_
  cases h : (e == 0)
  · rfl
  · unfold isAt byt
    by_cases h1 : a < (s.length : Int)
    · rw [decide_eq_true h1, decide_eq_true (show (0 : Int) ≤ a ∧ a < (s.length : Int) from ⟨hp, h1⟩)]; rfl
    · rw [decide_eq_false h1]; rfl

theorem s71 : Sound1 Tryd.prog ⟨71, false, gcon c71⟩ := by
  refine sound_mem (soundTab_of all_tabE1) (hn := h71) (m := 20) (k := 9) (Λ := noLoops) (fun _ _ _ _ _ i hi => anyLoopsB) fun args hs r hs' hF hH h => ?_
  unfold c71 at h
  split at h
  · rename_i c s a e
    rw [T.run_chk] at h
    split at h
    · rename_i hp
      rw [e71 s a e c hF hH (of_decide_eq_true hp), h]
    · cases h
  · cases h

noncomputable def tabE2 : Tab := ⟨86, false, gcon c86⟩ :: ⟨71, false, gcon c71⟩ :: tabE1

theorem all_tabE2 : ∀ e, e ∈ tabE2 → Sound1 Tryd.prog e := (sound_mem_tab s86 (sound_mem_tab s71 all_tabE1))

theorem ok_tabE2 : SoundTab Tryd.prog tabE2 := soundTab_of all_tabE2

theorem t70 (s : List UInt8) (a : Int) (e : Int) (c : Int) : (evn tabE2 h70 noLoops 70 [.ref 0 0, .int .u8 c] [rr s a e]).run =
  bif e == (0 : Int) then
   bif decide (a < (↑s.length : Int)) then
    bif decide ((0 : Int) ≤ a ∧ a < (↑s.length : Int)) then
     bif (↑(s.getD a.toNat (0 : UInt8)).toNat : Int) == c then
      some ((AV.tup [], [some (AObj.cells [AV.str s, AV.int IntKind.i64 (IntKind.i64.wrap (a + (1 : Int))), AV.int IntKind.i64 e])]))
     else
      bif e == (0 : Int) then
       bif decide (a ≥ (↑s.length : Int)) then
        some ((AV.tup [], [some (AObj.cells [AV.str s, AV.int IntKind.i64 a, AV.int IntKind.i64 (11 : Int)])]))
       else
        some ((AV.tup [], [some (AObj.cells [AV.str s, AV.int IntKind.i64 a, AV.int IntKind.i64 (10 : Int)])]))
      else
       some ((AV.tup [], [some (AObj.cells [AV.str s, AV.int IntKind.i64 a, AV.int IntKind.i64 e])]))
    else
     none
   else
    bif e == (0 : Int) then
     bif decide (a ≥ (↑s.length : Int)) then
      some ((AV.tup [], [some (AObj.cells [AV.str s, AV.int IntKind.i64 a, AV.int IntKind.i64 (11 : Int)])]))
     else
      some ((AV.tup [], [some (AObj.cells [AV.str s, AV.int IntKind.i64 a, AV.int IntKind.i64 (10 : Int)])]))
    else
     some ((AV.tup [], [some (AObj.cells [AV.str s, AV.int IntKind.i64 a, AV.int IntKind.i64 e])]))
  else
   bif e == (0 : Int) then
    bif decide (a ≥ (↑s.length : Int)) then
     some ((AV.tup [], [some (AObj.cells [AV.str s, AV.int IntKind.i64 a, AV.int IntKind.i64 (11 : Int)])]))
    else
     some ((AV.tup [], [some (AObj.cells [AV.str s, AV.int IntKind.i64 a, AV.int IntKind.i64 (10 : Int)])]))
   else
    some ((AV.tup [], [some (AObj.cells [AV.str s, AV.int IntKind.i64 a, AV.int IntKind.i64 e])])) := by kernel_rfl

def c70 : List AV → Hp → T (AV × Hp)
  | [.ref 0 0, .int .u8 c], [some (.cells [.str s, .int .i64 a, .int .i64 e])] => .chk (decide (0 ≤ a ∧ a ≤ s.length ∧ s.length ≤ bnd2)) (.br (e == 0) (.br (isAt s a c) (.leaf (.tup [], [rr s (a + 1) e])) (.br (decide (a ≥ s.length)) (.leaf (.tup [], [rr s a 11])) (.leaf (.tup [], [rr s a 10])))) (.leaf (.tup [], [rr s a e])))
  | _, _ => .fail

theorem e70 (s : List UInt8) (a : Int) (e : Int) (c : Int) (hF : FitsL [.ref 0 0, .int .u8 c]) (hH : FitsH [rr s a e]) (hp : 0 ≤ a ∧ a ≤ s.length ∧ s.length ≤ bnd2) : (evn tabE2 h70 noLoops 70 [.ref 0 0, .int .u8 c] [rr s a e]).run = (.br (e == 0) (.br (isAt s a c) (.leaf (.tup [], [rr s (a + 1) e])) (.br (decide (a ≥ s.length)) (.leaf (.tup [], [rr s a 11])) (.leaf (.tup [], [rr s a 10])))) (.leaf (.tup [], [rr s a e])) : T (AV × Hp)).run := by
  refine (t70 s a e c).trans ?_
  obtain ⟨p1, p2, p3⟩ := hp
  simp only [bnd2] at p3
  rw [w64 (n := a + 1) (by omega) (by omega)]
  cases h : (e == 0)
  · rfl
  · unfold isAt byt
    by_cases h1 : a < (s.length : Int)
    · rw [decide_eq_true h1, decide_eq_true (show (0 : Int) ≤ a ∧ a < (s.length : Int) from ⟨p1, h1⟩), decide_eq_false (show ¬ a ≥ (s.length : Int) by omega)]
      cases ((s.getD a.toNat 0).toNat : Int) == c <;> rfl
    · rw [decide_eq_false h1, decide_eq_true (show a ≥ (s.length : Int) by omega)]; rfl

theorem s70 : Sound1 Tryd.prog ⟨70, false, gcon c70⟩ := by
  refine sound_mem (soundTab_of all_tabE2) (hn := h70) (m := 20) (k := 9) (Λ := noLoops) (fun _ _ _ _ _ i hi => anyLoopsB) fun args hs r hs' hF hH h => ?_
  unfold c70 at h
  split at h
  · rename_i c s a e
    rw [T.run_chk] at h
    split at h
    · rename_i hp
      rw [e70 s a e c hF hH (of_decide_eq_true hp), h]
    · cases h
  · cases h

noncomputable def tabE3 : Tab := ⟨70, false, gcon c70⟩ :: tabE2

theorem all_tabE3 : ∀ e, e ∈ tabE3 → Sound1 Tryd.prog e := (sound_mem_tab s70 all_tabE2)

theorem ok_tabE3 : SoundTab Tryd.prog tabE3 := soundTab_of all_tabE3
end Go.Sem
namespace Go.Sem

open Go Go.Proofs Go.Ab

set_option maxRecDepth 100000

set_option linter.unusedVariables false

set_option linter.unusedSimpArgs false

/-! ### The reference's Reader: Number -/

theorem nat_beqI (a b : Nat) : ((a : Int) == (b : Int)) = (a == b) := by
  rw [Bool.eq_iff_iff, beq_iff_eq, beq_iff_eq]; omega

def zN (s : List UInt8) (f a : Nat) : Bool := ((s.getD f 0).toNat : Int) == 48 && (decide (a ≤ f + 1) && decide (f + 1 < fxN digB s a))

theorem zN_past {s : List UInt8} {f a : Nat} (h : (((s.getD f 0).toNat : Int) == 48) = false) : zN s f a = false := by
  unfold zN; rw [h]; rfl

structure Y69 where
  s : List UInt8
  f : Nat
  a : Nat
  e : Int

def eL69 : Y69 → List AV × Hp := fun ⟨s, f, a, e⟩ => ([.ref 0 0, .int .i64 f], [rr s a e])

def dL69 : List AV × Hp → Y69
  | ([.ref _ _, .int .i64 f], [some (.cells [.str s, .int .i64 a, .int .i64 e])]) => ⟨s, f.toNat, a.toNat, e⟩
  | _ => ⟨default, default, default, default⟩

def pL69 : Y69 → Prop := fun ⟨s, f, a, e⟩ => f ≤ a ∧ a ≤ s.length ∧ s.length ≤ bnd2 ∧ (f + 2 ≤ a → (((s.getD f 0).toNat : Int) == 48) = false)

def rL69 : Y69 → T (AX × St) := fun ⟨s, f, a, e⟩ => .br (e == 0) (.br (zN s f a) (.leaf (.ret, { tm := tmOf 72 [(2, .str [])], ms := [], hp := [rr s (f + 1 : Nat) 14] })) (.leaf (.exit 0, { tm := tmOf 72 [(0, .ref 0 0), (3, .int .i64 f), (21, .bool false)], ms := [], hp := [rr s (fxN digB s a) e] }))) (.leaf (.exit 0, { tm := tmOf 72 [(0, .ref 0 0), (3, .int .i64 f), (21, .bool false)], ms := [], hp := [rr s a e] }))

noncomputable def L69 : LoopT := fun k => match Nat.beq k 200059 with
  | true => some (lccon (mbits 9 72) eL69 dL69 pL69 rL69)
  | false => none

theorem iL69 : ∀ x, dL69 (eL69 x) = x := by
  rintro ⟨s, f, a, e⟩
  simp only [eL69, dL69, Int.toNat_natCast]

theorem kL69 (s : List UInt8) (f : Nat) (a : Nat) (e : Int) (h : f ≤ a ∧ a ≤ s.length ∧ s.length ≤ bnd2 ∧ (f + 2 ≤ a → (((s.getD f 0).toNat : Int) == 48) = false)) : isEn eL69 pL69 ([.ref 0 0, .int .i64 f], [rr s a e]) = true := isEn_true (enc := eL69) (p := pL69) ⟨s, f, a, e⟩ h

theorem q69 (s : List UInt8) (f : Nat) (a : Nat) (e : Int) : (rdn tabE3 h69 L69 69 1 0 { tm := encGo (mbits 9 72) [.ref 0 0, .int .i64 f], ms := [], hp := [rr s a e] }).run =
  bif e == (0 : Int) then
   bif decide ((↑a : Int) < (↑s.length : Int)) then
    bif decide ((0 : Int) ≤ (↑a : Int) ∧ (↑a : Int) < (↑s.length : Int)) then
     bif dig (↑(s.getD (↑a : Int).toNat (0 : UInt8)).toNat : Int) then
      bif (↑a : Int) == IntKind.i64.wrap ((↑f : Int) + (1 : Int)) then
       bif decide ((0 : Int) ≤ (↑f : Int) ∧ (↑f : Int) < (↑s.length : Int)) then
        bif (↑(s.getD (↑f : Int).toNat (0 : UInt8)).toNat : Int) == (48 : Int) then
         bif e == (0 : Int) then
          some ((AX.ret, { tm := tmOf 72 [(2, AV.str [])], ms := [], hp := [some (AObj.cells [AV.str s, AV.int IntKind.i64 (↑a : Int), AV.int IntKind.i64 (14 : Int)])] }))
         else
          some ((AX.ret, { tm := tmOf 72 [(2, AV.str [])], ms := [], hp := [some (AObj.cells [AV.str s, AV.int IntKind.i64 (↑a : Int), AV.int IntKind.i64 e])] }))
        else
         some ((AX.normal, { tm := tmOf 72 [(0, AV.ref 0 0), (3, AV.int IntKind.i64 (↑f : Int))], ms := [], hp := [some (AObj.cells [AV.str s, AV.int IntKind.i64 (IntKind.i64.wrap ((↑a : Int) + (1 : Int))), AV.int IntKind.i64 e])] }))
       else
        none
      else
       some ((AX.normal, { tm := tmOf 72 [(0, AV.ref 0 0), (3, AV.int IntKind.i64 (↑f : Int))], ms := [], hp := [some (AObj.cells [AV.str s, AV.int IntKind.i64 (IntKind.i64.wrap ((↑a : Int) + (1 : Int))), AV.int IntKind.i64 e])] }))
     else
      some ((AX.exit 0, { tm := tmOf 72 [(0, AV.ref 0 0), (3, AV.int IntKind.i64 (↑f : Int)), (21, AV.bool false)], ms := [], hp := [some (AObj.cells [AV.str s, AV.int IntKind.i64 (↑a : Int), AV.int IntKind.i64 e])] }))
    else
     none
   else
    some ((AX.exit 0, { tm := tmOf 72 [(0, AV.ref 0 0), (3, AV.int IntKind.i64 (↑f : Int)), (21, AV.bool false)], ms := [], hp := [some (AObj.cells [AV.str s, AV.int IntKind.i64 (↑a : Int), AV.int IntKind.i64 e])] }))
  else
   some ((AX.exit 0, { tm := tmOf 72 [(0, AV.ref 0 0), (3, AV.int IntKind.i64 (↑f : Int)), (21, AV.bool false)], ms := [], hp := [some (AObj.cells [AV.str s, AV.int IntKind.i64 (↑a : Int), AV.int IntKind.i64 e])] })) := by kernel_rfl

theorem l69 : LoopOk Tryd.prog tabE3.pf (fun n => hd Tryd.prog tabE3.pf tabE3.con.run (fun f => (H0 f).to) n 9) h69.to 69 1 none L69 (loopAt Tryd.prog 69 0) := by
  rw [show loopAt Tryd.prog 69 0 = .loop (lbody Tryd.prog 69 0) by kernel_rfl]
  refine loop_c (hdT_le (m := 20) 9) (m := 20) (lv := mbits 9 72) (p := pL69) (res := rL69) iL69 (within_of _ (by rw [show loopsOf (lbody Tryd.prog 69 0) = [] by kernel_rfl]; simp)) (by kernel_rfl) (fun ⟨s, f, a, e⟩ => s.length - a) ?_
  rintro ⟨s, f, a, e⟩ hp
  have ht := q69 s f a e
  obtain ⟨h1, h2, h3, h4⟩ := hp
  simp only [bnd2] at h3
  cases he : (e == 0) with
  | false =>
    rw [he] at ht
    right
    refine ⟨_, ?_, ?_, ht⟩
    · simp
    · simp only [rL69, he]; rfl
  | true =>
    obtain rfl : e = 0 := by simpa using he
    rw [he, cond_true] at ht
    simp only [cond_true] at ht
    by_cases hl : a < s.length
    · have hd := fxN_step (q := digB) (0) hl
      rw [decide_eq_true (show (a : Int) < s.length by omega), byte_at hl, Int.toNat_natCast, w64n (i := f) (by omega), w64n (i := a) (by omega), nat_beqI] at ht
      rw [show dig ((s.getD a 0).toNat : Int) = digB (s.getD a 0) from rfl] at ht
      simp only [cond_true] at ht
      cases hq : digB (s.getD a 0) with
      | false =>
        rw [hq] at ht hd
        rw [cond_false] at hd
        right
        refine ⟨_, ?_, ?_, ht⟩
        · simp
        · have hz : zN s f a = false := by
            unfold zN
            rw [hd]
            by_cases q : a ≤ f + 1
            · rw [decide_eq_false (show ¬ f + 1 < a by omega)]; simp
            · rw [decide_eq_false q]; simp
          simp only [rL69, he, hz, hd]; rfl
      | true =>
        rw [hq] at ht hd
        rw [cond_true] at hd
        have hge := (fxN_le (q := digB) (show a + 1 ≤ s.length by omega)).1
        cases ha : (a == f + 1) with
        | true =>
          obtain rfl : a = f + 1 := by simpa using ha
          rw [ha, byte_at (show f < s.length by omega)] at ht
          simp only [cond_true, Int.toNat_natCast] at ht
          cases hs : ((s.getD f 0).toNat : Int) == 48 with
          | true =>
            rw [hs] at ht
            right
            refine ⟨_, ?_, ?_, ht⟩
            · simp
            · have hz : zN s f (f + 1) = true := by
                unfold zN
                rw [hs, decide_eq_true (Nat.le_refl _), decide_eq_true (show f + 1 < fxN digB s (f + 1) by omega)]; rfl
              simp only [rL69, he, hz]; rfl
          | false =>
            rw [hs] at ht
            left
            refine ⟨⟨s, f, f + 1 + 1, 0⟩, ⟨by omega, by omega, by simp only [bnd2]; omega, fun _ => hs⟩, by simp only; omega, ?_, ht⟩
            simp only [rL69, zN_past hs, hd] <;> rfl
        | false =>
          rw [ha, cond_false] at ht
          have ha' : a ≠ f + 1 := by simpa using ha
          left
          have hz : zN s f (a + 1) = zN s f a := by
            by_cases q : f + 2 ≤ a
            · rw [zN_past (h4 q), zN_past (h4 q)]
            · obtain rfl : a = f := by omega
              unfold zN
              rw [hd, decide_eq_true (show a ≤ a + 1 by omega), decide_eq_true (show a + 1 ≤ a + 1 by omega)]
          refine ⟨⟨s, f, a + 1, 0⟩, ⟨by omega, by omega, by simp only [bnd2]; omega, fun q => h4 (by omega)⟩, by simp only; omega, ?_, ht⟩
          simp only [rL69, hz, hd] <;> rfl
    · rw [decide_eq_false (show ¬ (a : Int) < s.length by omega)] at ht
      right
      refine ⟨_, ?_, ?_, ht⟩
      · simp
      · have hd := fxN_end (q := digB) (show s.length ≤ a by omega)
        have hz : zN s f a = false := by
          unfold zN
          rw [hd]
          by_cases q : a ≤ f + 1
          · rw [decide_eq_false (show ¬ f + 1 < a by omega)]; simp
          · rw [decide_eq_false q]; simp
        simp only [rL69, he, hz, hd]; rfl

theorem takeTW {p : UInt8 → Bool} : ∀ l : List UInt8, l.take (l.takeWhile p).length = l.takeWhile p
  | [] => rfl
  | b :: l => by
    rw [List.takeWhile_cons]
    split
    · simp [takeTW l]
    · rfl

theorem allTW {p : UInt8 → Bool} : ∀ l : List UInt8, (l.takeWhile p).all p = true
  | [] => rfl
  | b :: l => by
    rw [List.takeWhile_cons]
    cases h : p b with
    | false => rfl
    | true =>
      simp only [if_true, List.all_cons, h, Bool.true_and]
      exact allTW l

theorem runD_fx {s : List UInt8} {n : Nat} (h : n ≤ s.length) : runD s (n : Int) = (fxN digB s n : Nat) := by
  unfold runD fxN runL
  rw [if_neg (by omega), Int.toNat_natCast]
  omega

theorem numT_tw {s : List UInt8} {n : Nat} (h : n ≤ s.length) : numT s (n : Int) = (s.drop n).takeWhile digB := by
  unfold numT
  rw [runD_fx h, Int.toNat_natCast, Int.toNat_natCast]
  unfold fxN
  rw [Nat.add_sub_cancel_left, takeTW]

theorem numT_nil {s : List UInt8} {n : Nat} (h : n ≤ s.length) (he : fxN digB s n = n) : numT s (n : Int) = [] := by
  rw [numT_tw h]
  apply List.eq_nil_of_length_eq_zero
  unfold fxN at he
  omega

theorem numB_zN {s : List UInt8} {n : Nat} (h : n ≤ s.length) (he : n < fxN digB s n) : (numT s (n : Int) == []) = false ∧ numB (numT s (n : Int)) = !zN s n n := by
  rw [numT_tw h]
  have hl : ((s.drop n).takeWhile digB).length = fxN digB s n - n := by unfold fxN; omega
  have hlt : n < s.length := by have := (fxN_le (q := digB) h).2; omega
  have hall := allTW (p := digB) (s.drop n)
  have hcons : s.drop n = s.getD n 0 :: s.drop (n + 1) := by
    rw [List.drop_eq_getElem_cons hlt]
    congr 1
    rw [List.getD_eq_getElem?_getD, List.getElem?_eq_getElem hlt]; rfl
  have hhead : ((s.drop n).takeWhile digB).getD 0 0 = s.getD n 0 := by
    rw [hcons, List.takeWhile_cons] at hl ⊢
    split at hl
    · rename_i q; rw [if_pos q]; rfl
    · simp only [List.length_nil] at hl; omega
  generalize (s.drop n).takeWhile digB = w at hl hall hhead ⊢
  have hne : (w == []) = false := by
    cases w with
    | nil => simp at hl; omega
    | cons _ _ => rfl
  refine ⟨hne, ?_⟩
  unfold numB dgs zN
  rw [hne, hall, hhead, decide_eq_true (show n ≤ n + 1 by omega)]
  simp only [bne, Bool.not_false, Bool.true_and]
  cases hs : ((s.getD n 0).toNat : Int) == 48 with
  | false => rfl
  | true =>
    simp only [Bool.not_true, Bool.false_or, Bool.true_and]
    by_cases h1 : n + 1 < fxN digB s n
    · rw [decide_eq_true h1]
      have : ((w.length : Int) == 1) = false := by simp; omega
      rw [this]; rfl
    · rw [decide_eq_false h1]
      have : ((w.length : Int) == 1) = true := by simp; omega
      rw [this]; rfl

theorem t69 (s : List UInt8) (a : Int) (e : Int) : (evn tabE3 h69 L69 69 [.ref 0 0] [rr s a e]).run =
  bif isEn eL69 pL69 ([AV.ref 0 0, AV.int IntKind.i64 a], [some (AObj.cells [AV.str s, AV.int IntKind.i64 a, AV.int IntKind.i64 e])]) then
   bif e == (0 : Int) then
    bif zN s a.toNat a.toNat then
     some ((AV.str [], [some (AObj.cells [AV.str s, AV.int IntKind.i64 (↑(a.toNat + 1) : Int), AV.int IntKind.i64 (14 : Int)])]))
    else
     bif e == (0 : Int) then
      bif (↑(fxN digB s a.toNat) : Int) == (↑a.toNat : Int) then
       bif e == (0 : Int) then
        bif decide ((↑(fxN digB s a.toNat) : Int) ≥ (↑s.length : Int)) then
         bif decide ((0 : Int) ≤ (↑a.toNat : Int) ∧ (↑a.toNat : Int) ≤ (↑(fxN digB s a.toNat) : Int) ∧ (↑(fxN digB s a.toNat) : Int) ≤ (↑s.length : Int)) then
          some ((AV.str (List.take ((↑(fxN digB s a.toNat) : Int).toNat - (↑a.toNat : Int).toNat) (List.drop (↑a.toNat : Int).toNat s)), [some (AObj.cells [AV.str s, AV.int IntKind.i64 (↑(fxN digB s a.toNat) : Int), AV.int IntKind.i64 (11 : Int)])]))
         else
          none
        else
         bif decide ((0 : Int) ≤ (↑a.toNat : Int) ∧ (↑a.toNat : Int) ≤ (↑(fxN digB s a.toNat) : Int) ∧ (↑(fxN digB s a.toNat) : Int) ≤ (↑s.length : Int)) then
          some ((AV.str (List.take ((↑(fxN digB s a.toNat) : Int).toNat - (↑a.toNat : Int).toNat) (List.drop (↑a.toNat : Int).toNat s)), [some (AObj.cells [AV.str s, AV.int IntKind.i64 (↑(fxN digB s a.toNat) : Int), AV.int IntKind.i64 (10 : Int)])]))
         else
          none
       else
        bif decide ((0 : Int) ≤ (↑a.toNat : Int) ∧ (↑a.toNat : Int) ≤ (↑(fxN digB s a.toNat) : Int) ∧ (↑(fxN digB s a.toNat) : Int) ≤ (↑s.length : Int)) then
         some ((AV.str (List.take ((↑(fxN digB s a.toNat) : Int).toNat - (↑a.toNat : Int).toNat) (List.drop (↑a.toNat : Int).toNat s)), [some (AObj.cells [AV.str s, AV.int IntKind.i64 (↑(fxN digB s a.toNat) : Int), AV.int IntKind.i64 e])]))
        else
         none
      else
       bif decide ((0 : Int) ≤ (↑a.toNat : Int) ∧ (↑a.toNat : Int) ≤ (↑(fxN digB s a.toNat) : Int) ∧ (↑(fxN digB s a.toNat) : Int) ≤ (↑s.length : Int)) then
        some ((AV.str (List.take ((↑(fxN digB s a.toNat) : Int).toNat - (↑a.toNat : Int).toNat) (List.drop (↑a.toNat : Int).toNat s)), [some (AObj.cells [AV.str s, AV.int IntKind.i64 (↑(fxN digB s a.toNat) : Int), AV.int IntKind.i64 e])]))
       else
        none
     else
      bif decide ((0 : Int) ≤ (↑a.toNat : Int) ∧ (↑a.toNat : Int) ≤ (↑(fxN digB s a.toNat) : Int) ∧ (↑(fxN digB s a.toNat) : Int) ≤ (↑s.length : Int)) then
       some ((AV.str (List.take ((↑(fxN digB s a.toNat) : Int).toNat - (↑a.toNat : Int).toNat) (List.drop (↑a.toNat : Int).toNat s)), [some (AObj.cells [AV.str s, AV.int IntKind.i64 (↑(fxN digB s a.toNat) : Int), AV.int IntKind.i64 e])]))
      else
       none
   else
    bif e == (0 : Int) then
     bif (↑a.toNat : Int) == (↑a.toNat : Int) then
      bif e == (0 : Int) then
       bif decide ((↑a.toNat : Int) ≥ (↑s.length : Int)) then
        bif decide ((0 : Int) ≤ (↑a.toNat : Int) ∧ (↑a.toNat : Int) ≤ (↑a.toNat : Int) ∧ (↑a.toNat : Int) ≤ (↑s.length : Int)) then
         some ((AV.str (List.take ((↑a.toNat : Int).toNat - (↑a.toNat : Int).toNat) (List.drop (↑a.toNat : Int).toNat s)), [some (AObj.cells [AV.str s, AV.int IntKind.i64 (↑a.toNat : Int), AV.int IntKind.i64 (11 : Int)])]))
        else
         none
       else
        bif decide ((0 : Int) ≤ (↑a.toNat : Int) ∧ (↑a.toNat : Int) ≤ (↑a.toNat : Int) ∧ (↑a.toNat : Int) ≤ (↑s.length : Int)) then
         some ((AV.str (List.take ((↑a.toNat : Int).toNat - (↑a.toNat : Int).toNat) (List.drop (↑a.toNat : Int).toNat s)), [some (AObj.cells [AV.str s, AV.int IntKind.i64 (↑a.toNat : Int), AV.int IntKind.i64 (10 : Int)])]))
        else
         none
      else
       bif decide ((0 : Int) ≤ (↑a.toNat : Int) ∧ (↑a.toNat : Int) ≤ (↑a.toNat : Int) ∧ (↑a.toNat : Int) ≤ (↑s.length : Int)) then
        some ((AV.str (List.take ((↑a.toNat : Int).toNat - (↑a.toNat : Int).toNat) (List.drop (↑a.toNat : Int).toNat s)), [some (AObj.cells [AV.str s, AV.int IntKind.i64 (↑a.toNat : Int), AV.int IntKind.i64 e])]))
       else
        none
     else
      bif decide ((0 : Int) ≤ (↑a.toNat : Int) ∧ (↑a.toNat : Int) ≤ (↑a.toNat : Int) ∧ (↑a.toNat : Int) ≤ (↑s.length : Int)) then
       some ((AV.str (List.take ((↑a.toNat : Int).toNat - (↑a.toNat : Int).toNat) (List.drop (↑a.toNat : Int).toNat s)), [some (AObj.cells [AV.str s, AV.int IntKind.i64 (↑a.toNat : Int), AV.int IntKind.i64 e])]))
      else
       none
    else
     bif decide ((0 : Int) ≤ (↑a.toNat : Int) ∧ (↑a.toNat : Int) ≤ (↑a.toNat : Int) ∧ (↑a.toNat : Int) ≤ (↑s.length : Int)) then
      some ((AV.str (List.take ((↑a.toNat : Int).toNat - (↑a.toNat : Int).toNat) (List.drop (↑a.toNat : Int).toNat s)), [some (AObj.cells [AV.str s, AV.int IntKind.i64 (↑a.toNat : Int), AV.int IntKind.i64 e])]))
     else
      none
  else
   none := by kernel_rfl

def c69 : List AV → Hp → T (AV × Hp)
  | [.ref 0 0], [some (.cells [.str s, .int .i64 a, .int .i64 e])] => .chk (decide (0 ≤ a ∧ a ≤ s.length ∧ s.length ≤ bnd2)) (.br (e == 0) (.br (numT s a == []) (.br (decide (a ≥ s.length)) (.leaf (.str [], [rr s a 11])) (.leaf (.str [], [rr s a 10]))) (.br (numB (numT s a)) (.leaf (.str (numT s a), [rr s (runD s a) e])) (.leaf (.str [], [rr s (a + 1) 14])))) (.leaf (.str [], [rr s a e])))
  | _, _ => .fail

theorem e69 (s : List UInt8) (a : Int) (e : Int) (hF : FitsL [.ref 0 0]) (hH : FitsH [rr s a e]) (hp : 0 ≤ a ∧ a ≤ s.length ∧ s.length ≤ bnd2) : (evn tabE3 h69 L69 69 [.ref 0 0] [rr s a e]).run = (.br (e == 0) (.br (numT s a == []) (.br (decide (a ≥ s.length)) (.leaf (.str [], [rr s a 11])) (.leaf (.str [], [rr s a 10]))) (.br (numB (numT s a)) (.leaf (.str (numT s a), [rr s (runD s a) e])) (.leaf (.str [], [rr s (a + 1) 14])))) (.leaf (.str [], [rr s a e])) : T (AV × Hp)).run := by
  refine (t69 s a e).trans ?_
  obtain ⟨p1, p2, p3⟩ := hp
  obtain ⟨n, rfl⟩ := Int.eq_ofNat_of_zero_le p1
  have p2' : n ≤ s.length := by omega
  rw [kL69 s n n e ⟨Nat.le_refl _, p2', p3, fun q => absurd q (by omega)⟩]
  obtain ⟨f1, f2⟩ := fxN_le (q := digB) p2'
  simp only [Int.toNat_natCast]
  have hr := runD_fx p2'
  have ht := numT_tw p2'
  have hw : (s.drop n).take (fxN digB s n - n) = numT s n := by
    rw [ht]; unfold fxN; rw [Nat.add_sub_cancel_left, takeTW]
  rw [hw, decide_eq_true (show (0 : Int) ≤ (n : Int) ∧ (n : Int) ≤ (fxN digB s n : Int) ∧ (fxN digB s n : Int) ≤ (s.length : Int) by omega), decide_eq_true (show (0 : Int) ≤ (n : Int) ∧ (n : Int) ≤ (n : Int) ∧ (n : Int) ≤ (s.length : Int) by omega), nat_beqI, nat_beqI, Nat.sub_self, hr]
  cases he : (e == 0) with
  | false => rfl
  | true =>
    obtain rfl : e = 0 := by simpa using he
    by_cases hE : fxN digB s n = n
    · have hz : zN s n n = false := by
        unfold zN
        rw [hE, decide_eq_false (show ¬ n + 1 < n by omega)]; simp
      rw [hz, numT_nil p2' hE]
      simp only [hE]
      by_cases hn : (n : Int) ≥ s.length
      · rw [decide_eq_true hn]; simp
      · rw [decide_eq_false hn]; simp
    · obtain ⟨q1, q2⟩ := numB_zN p2' (show n < fxN digB s n by omega)
      rw [show (fxN digB s n == n) = false by simpa using hE, q1, q2]
      cases zN s n n <;> rfl

theorem s69 : Sound1 Tryd.prog ⟨69, false, gcon c69⟩ := by
  refine sound_mem (soundTab_of all_tabE3) (hn := h69) (m := 20) (k := 9) (Λ := L69) (fun args hs r hs' h => by
    have hh : hs.length = 1 := by
      unfold c69 at h
      split at h
      · rfl
      · cases h
    rw [hh]
    exact oneLoop (by kernel_rfl) l69) fun args hs r hs' hF hH h => ?_
  unfold c69 at h
  split at h
  · rename_i s a e
    rw [T.run_chk] at h
    split at h
    · rename_i hp
      rw [e69 s a e hF hH (of_decide_eq_true hp), h]
    · cases h
  · cases h

noncomputable def tabE4 : Tab := ⟨69, false, gcon c69⟩ :: tabE3

theorem all_tabE4 : ∀ e, e ∈ tabE4 → Sound1 Tryd.prog e := (sound_mem_tab s69 all_tabE3)

theorem ok_tabE4 : SoundTab Tryd.prog tabE4 := soundTab_of all_tabE4
end Go.Sem
namespace Go.Sem

open Go Go.Proofs Go.Ab

set_option maxRecDepth 100000

set_option linter.unusedVariables false

set_option linter.unusedSimpArgs false

/-! ### The reference's Reader: Idents -/

def unH : Hp → List (List UInt8)
  | [some (.row _ n g)] => strsOf g n
  | _ => []

theorem unH_lsH (L : List (List UInt8)) : unH (lsH L) = L := by
  cases L with
  | nil => rfl
  | cons x l => exact strsOf_strF (x :: l)

instance : Inhabited AV := ⟨.junk⟩

theorem qI0 (s : List UInt8) (p : Bool) (f a : Int) : (rdn tabE4 h72 noLoops 72 1 1 { tm := encGo (mbits 99 93) [.ref 0 0, .bool p, .nilsl, .int .i64 f], ms := [], hp := [rr s a 0] }).run =
  bif decide (a < (↑s.length : Int)) then
   bif decide ((0 : Int) ≤ a ∧ a < (↑s.length : Int)) then
    bif idB (↑(s.getD a.toNat (0 : UInt8)).toNat : Int) then
     some ((AX.normal, { tm := tmOf 93 [(0, AV.ref 0 0), (1, AV.bool p), (5, AV.nilsl), (6, AV.int IntKind.i64 f)], ms := [], hp := [some (AObj.cells [AV.str s, AV.int IntKind.i64 (IntKind.i64.wrap (a + (1 : Int))), AV.int IntKind.i64 (0 : Int)])] }))
    else
     some ((AX.exit 2, { tm := tmOf 93 [(0, AV.ref 0 0), (1, AV.bool p), (5, AV.nilsl), (6, AV.int IntKind.i64 f), (29, AV.bool false)], ms := [], hp := [some (AObj.cells [AV.str s, AV.int IntKind.i64 a, AV.int IntKind.i64 (0 : Int)])] }))
   else
    none
  else
   some ((AX.exit 2, { tm := tmOf 93 [(0, AV.ref 0 0), (1, AV.bool p), (5, AV.nilsl), (6, AV.int IntKind.i64 f), (29, AV.bool false)], ms := [], hp := [some (AObj.cells [AV.str s, AV.int IntKind.i64 a, AV.int IntKind.i64 (0 : Int)])] })) := by kernel_rfl

theorem qI1 (s : List UInt8) (p : Bool) (f a : Int) (x : List UInt8) (l : List (List UInt8)) : (rdn tabE4 h72 noLoops 72 1 1 { tm := encGo (mbits 99 93) [.ref 0 0, .bool p, .row 1 1 0 (x :: l).length, .int .i64 f], ms := [], hp := [rr s a 0, some (.row 1 (x :: l).length (strF (x :: l)))] }).run =
  bif decide (a < (↑s.length : Int)) then
   bif decide ((0 : Int) ≤ a ∧ a < (↑s.length : Int)) then
    bif idB (↑(s.getD a.toNat (0 : UInt8)).toNat : Int) then
     some ((AX.normal, { tm := tmOf 93 [(0, AV.ref 0 0), (1, AV.bool p), (5, AV.row 1 1 0 (x :: l).length), (6, AV.int IntKind.i64 f)], ms := [], hp := [some (AObj.cells [AV.str s, AV.int IntKind.i64 (IntKind.i64.wrap (a + (1 : Int))), AV.int IntKind.i64 (0 : Int)]), some (AObj.row 1 (x :: l).length (strF (x :: l)))] }))
    else
     some ((AX.exit 2, { tm := tmOf 93 [(0, AV.ref 0 0), (1, AV.bool p), (5, AV.row 1 1 0 (x :: l).length), (6, AV.int IntKind.i64 f), (29, AV.bool false)], ms := [], hp := [some (AObj.cells [AV.str s, AV.int IntKind.i64 a, AV.int IntKind.i64 (0 : Int)]), some (AObj.row 1 (x :: l).length (strF (x :: l)))] }))
   else
    none
  else
   some ((AX.exit 2, { tm := tmOf 93 [(0, AV.ref 0 0), (1, AV.bool p), (5, AV.row 1 1 0 (x :: l).length), (6, AV.int IntKind.i64 f), (29, AV.bool false)], ms := [], hp := [some (AObj.cells [AV.str s, AV.int IntKind.i64 a, AV.int IntKind.i64 (0 : Int)]), some (AObj.row 1 (x :: l).length (strF (x :: l)))] })) := by kernel_rfl

theorem qI (s : List UInt8) (p : Bool) (f a : Int) (L : List (List UInt8)) (h0 : 0 ≤ a) (h1 : a ≤ s.length) (h2 : s.length ≤ bnd2) : (rdn tabE4 h72 noLoops 72 1 1 { tm := encGo (mbits 99 93) [.ref 0 0, .bool p, lsA 1 L, .int .i64 f], ms := [], hp := rr s a 0 :: lsH L }).run =
    bif decide (a < (s.length : Int)) && idB ((s.getD a.toNat 0).toNat : Int) then
      some (.normal, { tm := tmOf 93 [(0, .ref 0 0), (1, .bool p), (5, lsA 1 L), (6, .int .i64 f)], ms := [], hp := rr s (a + 1) 0 :: lsH L })
    else some (.exit 2, { tm := tmOf 93 [(0, .ref 0 0), (1, .bool p), (5, lsA 1 L), (6, .int .i64 f), (29, .bool false)], ms := [], hp := rr s a 0 :: lsH L }) := by
  simp only [bnd2] at h2
  have hw : a < (s.length : Int) → IntKind.i64.wrap (a + 1) = a + 1 := fun _ => w64 (by omega) (by omega)
  cases L with
  | nil =>
    refine (qI0 s p f a).trans ?_
    by_cases hl : a < (s.length : Int)
    · rw [decide_eq_true hl, decide_eq_true (show (0 : Int) ≤ a ∧ a < (s.length : Int) from ⟨h0, hl⟩), hw hl]
      cases idB ((s.getD a.toNat 0).toNat : Int) <;> rfl
    · rw [decide_eq_false hl]; rfl
  | cons x l =>
    refine (qI1 s p f a x l).trans ?_
    by_cases hl : a < (s.length : Int)
    · rw [decide_eq_true hl, decide_eq_true (show (0 : Int) ≤ a ∧ a < (s.length : Int) from ⟨h0, hl⟩), hw hl]
      cases idB ((s.getD a.toNat 0).toNat : Int) <;> rfl
    · rw [decide_eq_false hl]; rfl

structure Y72_1 where
  s : List UInt8
  p : Bool
  la : AV
  G : Hp
  f : Int
  a : Int

def eL72_1 : Y72_1 → List AV × Hp := fun ⟨s, p, la, G, f, a⟩ => ([.ref 0 0, .bool p, la, .int .i64 f], rr s a 0 :: G)

def dL72_1 : List AV × Hp → Y72_1
  | ([.ref _ _, .bool p, la, .int .i64 f], some (.cells [.str s, .int .i64 a, .int .i64 _]) :: G) => ⟨s, p, la, G, f, a⟩
  | _ => ⟨default, default, default, default, default, default⟩

def pL72_1 : Y72_1 → Prop := fun ⟨s, p, la, G, f, a⟩ => 0 ≤ a ∧ a ≤ s.length ∧ s.length ≤ bnd2 ∧ ∃ L, la = lsA 1 L ∧ G = lsH L

def rL72_1 : Y72_1 → T (AX × St) := fun ⟨s, p, la, G, f, a⟩ => .leaf (.exit 2, { tm := tmOf 93 [(0, .ref 0 0), (1, .bool p), (5, la), (6, .int .i64 f), (29, .bool false)], ms := [], hp := rr s (firstX idB s a) 0 :: G })

noncomputable def LI72 : LoopT := fun k => match Nat.beq k 400030 with
  | true => some (lccon (mbits 99 93) eL72_1 dL72_1 pL72_1 rL72_1)
  | false => none

theorem iL72_1 : ∀ x, dL72_1 (eL72_1 x) = x := by
  rintro ⟨s, p, la, G, f, a⟩
  rfl

theorem kL72_1 (s : List UInt8) (p : Bool) (la : AV) (G : Hp) (f : Int) (a : Int) (h : 0 ≤ a ∧ a ≤ s.length ∧ s.length ≤ bnd2 ∧ ∃ L, la = lsA 1 L ∧ G = lsH L) : isEn eL72_1 pL72_1 ([.ref 0 0, .bool p, la, .int .i64 f], rr s a 0 :: G) = true := isEn_true (enc := eL72_1) (p := pL72_1) ⟨s, p, la, G, f, a⟩ h

theorem l72_1 : LoopOk Tryd.prog tabE4.pf (fun n => hd Tryd.prog tabE4.pf tabE4.con.run (fun f => (H0 f).to) n 9) h72.to 72 1 none LI72 (loopAt Tryd.prog 72 1) := by
  rw [show loopAt Tryd.prog 72 1 = .loop (lbody Tryd.prog 72 1) by kernel_rfl]
  refine loop_c (hdT_le (m := 20) 9) (m := 20) (lv := mbits 99 93) (p := pL72_1) (res := rL72_1) iL72_1 (within_of _ (by rw [show loopsOf (lbody Tryd.prog 72 1) = [] by kernel_rfl]; simp)) (by kernel_rfl) (fun ⟨s, p, la, G, f, a⟩ => ((s.length : Int) - a).toNat) ?_
  rintro ⟨s, p, la, G, f, a⟩ hp
  skip
  obtain ⟨h1, h2, h3, L, rfl, rfl⟩ := hp
  have ht := qI s p f a L h1 h2 h3
  by_cases hl : a < (s.length : Int)
  · have hd := firstX_step (q := idB) h1 hl
    rw [decide_eq_true hl, Bool.true_and] at ht
    cases hq : idB ((s.getD a.toNat 0).toNat : Int) with
    | true =>
      rw [hq] at ht hd
      rw [if_pos rfl] at hd
      left
      refine ⟨⟨s, p, lsA 1 L, lsH L, f, a + 1⟩, ⟨by omega, by omega, h3, L, rfl, rfl⟩, by simp only; omega, ?_, ?_⟩
      · simp only [rL72_1, hd]
      · cases L <;> exact ht
    | false =>
      rw [hq] at ht hd
      rw [if_neg (by simp)] at hd
      right
      refine ⟨_, ?_, ?_, ht⟩
      · simp
      · simp only [rL72_1, hd]; rfl
  · have hd := firstX_end (q := idB) (s := s) (i := a) (by omega)
    rw [decide_eq_false hl] at ht
    right
    refine ⟨_, ?_, ?_, ht⟩
    · simp
    · simp only [rL72_1, hd]; rfl
end Go.Sem

/- Lemmas for the claims of this seat (a verified symbolic evaluator, and contracts of functions): own work; no condition. -/
import Derived.Test.YtdkmbohpmfakkaaDoorFnL
namespace Go.Mvn

open Go Go.Proofs Go.Ab

set_option maxRecDepth 100000

set_option linter.unusedVariables false

set_option linter.unusedSimpArgs false

noncomputable def tabD5 : Tab := ⟨82, false, gcon cS82⟩ :: tabD3

theorem all_tabD5 : ∀ e, e ∈ tabD5 → Sound1 Tryd.prog e := sound_mem_tab sS82 all_tabD3

theorem ok_tabD5 : SoundTab Tryd.prog tabD5 := soundTab_of all_tabD5

theorem div_step {n a z : Nat} (hz : 0 < z) (h : a + z ≤ n) : (n - a) / z = (n - (a + z)) / z + 1 := by
  rw [show n - a = (n - (a + z)) + z by omega, Nat.add_div_right _ hz]

theorem div_zero {n a z : Nat} (hz : 0 < z) (h : n < a + z) : (n - a) / z = 0 := Nat.div_eq_of_lt (by omega)

structure Y70 where
  N : Nat
  f : Nat → List UInt8
  a : Nat
  b : Nat

def eL70 : Y70 → List AV × Hp := fun ⟨N, f, a, b⟩ => ([.row 0 1 0 N, .int .i64 N, .fn 18 [], .int .i64 20, .int .i64 a, .int .i64 b], [some (.row 1 N (rowS f))])

def dL70 : List AV × Hp → Y70
  | ([.row _ _ _ N, .int .i64 _, .fn _ _, .int .i64 _, .int .i64 a, .int .i64 b], [some (.row _ _ f_g)]) => ⟨N, unS f_g, a.toNat, b.toNat⟩
  | _ => ⟨default, default, default, default⟩

def pL70 : Y70 → Prop := fun ⟨N, f, a, b⟩ => b = a + 20 ∧ a ≤ N ∧ N ≤ 576460752303423488

def rL70 : Y70 → T (AX × St) := fun ⟨N, f, a, b⟩ => .leaf (.exit 0, { tm := tmOf 63 [(0, .row 0 1 0 N), (1, .int .i64 N), (2, .fn 18 []), (6, .int .i64 20), (7, .int .i64 (a + (N - a) / 20 * 20 : Nat)), (8, .int .i64 (a + (N - a) / 20 * 20 + 20 : Nat)), (13, .bool false)], ms := [], hp := [some (.row 1 N (rowS (bkM cmpM 20 ((N - a) / 20) a f)))] })

noncomputable def LA70 : LoopT := fun k => match Nat.beq k 200026 with
  | true => some (lccon (mbits 455 63) eL70 dL70 pL70 rL70)
  | false => none

theorem iL70 : ∀ x, dL70 (eL70 x) = x := by
  rintro ⟨N, f, a, b⟩
  simp only [eL70, dL70, Int.toNat_natCast, unS_rowS]

theorem kL70 (N : Nat) (f : Nat → List UInt8) (a : Nat) (b : Nat) (h : b = a + 20 ∧ a ≤ N ∧ N ≤ 576460752303423488) : isEn eL70 pL70 ([.row 0 1 0 N, .int .i64 N, .fn 18 [], .int .i64 20, .int .i64 a, .int .i64 b], [some (.row 1 N (rowS f))]) = true := isEn_true (enc := eL70) (p := pL70) ⟨N, f, a, b⟩ h

theorem zL70 (N : Nat) (f : Nat → List UInt8) (a : Nat) (h : pL70 ⟨N, f, a, 0⟩) : isEn eL70 pL70 ([.row 0 1 0 N, .int .i64 N, .fn 18 [], .int .i64 20, .int .i64 a, .int .i64 (0 : Int)], [some (.row 1 N (rowS f))]) = true := isEn_true (enc := eL70) (p := pL70) ⟨N, f, a, 0⟩ h

theorem q70 (N : Nat) (f : Nat → List UInt8) (a : Nat) (b : Nat) : (rdn tabD5 h70 LA70 70 1 0 { tm := encGo (mbits 455 63) [.row 0 1 0 N, .int .i64 N, .fn 18 [], .int .i64 20, .int .i64 a, .int .i64 b], ms := [], hp := [some (.row 1 N (rowS f))] }).run =
  bif decide ((↑b : Int) ≤ (↑N : Int)) then
   bif isEn en81 p81 ([AV.row 0 1 0 N, AV.int IntKind.i64 (↑a : Int), AV.int IntKind.i64 (↑b : Int), AV.fn 18 []], [some (AObj.row 1 N (rowS f))]) then
    some ((AX.normal, { tm := tmOf 63 [(0, AV.row 0 1 0 N), (1, AV.int IntKind.i64 (↑N : Int)), (2, AV.fn 18 []), (6, AV.int IntKind.i64 (20 : Int)), (7, AV.int IntKind.i64 (↑b : Int)), (8, AV.int IntKind.i64 (IntKind.i64.wrap ((↑b : Int) + (20 : Int))))], ms := [], hp := [some (AObj.row 1 N (rowS (sortG cmpM (unS (rowS f)) (↑a : Int).toNat (↑b : Int).toNat)))] }))
   else
    none
  else
   some ((AX.exit 0, { tm := tmOf 63 [(0, AV.row 0 1 0 N), (1, AV.int IntKind.i64 (↑N : Int)), (2, AV.fn 18 []), (6, AV.int IntKind.i64 (20 : Int)), (7, AV.int IntKind.i64 (↑a : Int)), (8, AV.int IntKind.i64 (↑b : Int)), (13, AV.bool false)], ms := [], hp := [some (AObj.row 1 N (rowS f))] })) := by kernel_rfl

theorem l70 : LoopOk Tryd.prog tabD5.pf (fun n => hd Tryd.prog tabD5.pf tabD5.con.run (fun f => (H0 f).to) n 9) h70.to 70 1 none LA70 (loopAt Tryd.prog 70 0) := by
  rw [show loopAt Tryd.prog 70 0 = .loop (lbody Tryd.prog 70 0) by kernel_rfl]
  refine loop_c (hdT_le (m := 20) 9) (m := 20) (lv := mbits 455 63) (p := pL70) (res := rL70) iL70 (within_of _ (by rw [show loopsOf (lbody Tryd.prog 70 0) = [] by kernel_rfl]; simp)) (by kernel_rfl) (fun ⟨N, f, a, b⟩ => N - a) ?_
  rintro ⟨N, f, a, b⟩ hp
  have ht := q70 N f a b
  obtain ⟨rfl, h1, h2⟩ := hp
  by_cases hl : a + 20 ≤ N
  · have hd := div_step (n := N) (a := a) (z := 20) (by omega) hl
    rw [decide_eq_true (show ((a + 20 : Nat) : Int) ≤ N by omega), k81 N f a (a + 20) ⟨by omega, by omega, by simp only [bnd]; omega⟩, show IntKind.i64.wrap (((a + 20 : Nat) : Int) + 20) = ((a + 20 + 20 : Nat) : Int) by rw [w64 (by omega) (by omega)]; rfl] at ht
    simp only [cond_true, Int.toNat_natCast, unS_rowS] at ht
    left
    refine ⟨⟨N, sortG cmpM f a (a + 20), a + 20, a + 20 + 20⟩, ⟨rfl, hl, h2⟩, by simp only; omega, ?_, ht⟩
    simp only [rL70, T.run_leaf, hd, bkM]
    rw [show a + ((N - (a + 20)) / 20 + 1) * 20 = a + 20 + (N - (a + 20)) / 20 * 20 by omega]
  · right
    have hd := div_zero (n := N) (a := a) (z := 20) (by omega) (by omega)
    rw [decide_eq_false (show ¬ ((a + 20 : Nat) : Int) ≤ N by omega)] at ht
    refine ⟨_, ?_, ?_, ht⟩
    · simp
    · simp only [rL70, T.run_leaf, hd, bkM, Nat.zero_mul, Nat.add_zero] <;> rfl

structure Y70_2 where
  N : Nat
  f : Nat → List UInt8
  z : Nat
  a : Nat
  b : Nat

def eL70_2 : Y70_2 → List AV × Hp := fun ⟨N, f, z, a, b⟩ => ([.row 0 1 0 N, .int .i64 N, .fn 18 [], .int .i64 z, .int .i64 a, .int .i64 b], [some (.row 1 N (rowS f))])

def dL70_2 : List AV × Hp → Y70_2
  | ([.row _ _ _ N, .int .i64 _, .fn _ _, .int .i64 z, .int .i64 a, .int .i64 b], [some (.row _ _ f_g)]) => ⟨N, unS f_g, z.toNat, a.toNat, b.toNat⟩
  | _ => ⟨default, default, default, default, default⟩

def pL70_2 : Y70_2 → Prop := fun ⟨N, f, z, a, b⟩ => b = a + 2 * z ∧ a ≤ N ∧ N ≤ 576460752303423488 ∧ 0 < z ∧ z ≤ 2 * N + 40 ∧ BS cmpM z N f a

def rL70_2 : Y70_2 → T (AX × St) := fun ⟨N, f, z, a, b⟩ => .leaf (.exit 4, { tm := tmOf 63 [(0, .row 0 1 0 N), (1, .int .i64 N), (2, .fn 18 []), (6, .int .i64 z), (7, .int .i64 (a + (N - a) / (2 * z) * (2 * z) : Nat)), (8, .int .i64 (a + (N - a) / (2 * z) * (2 * z) + 2 * z : Nat)), (35, .bool false)], ms := [], hp := [some (.row 1 N (rowS (mgM cmpM z ((N - a) / (2 * z)) a f)))] })

noncomputable def LB70 : LoopT := fun k => match Nat.beq k 900030 with
  | true => some (lccon (mbits 455 63) eL70_2 dL70_2 pL70_2 rL70_2)
  | false => LA70 k

theorem iL70_2 : ∀ x, dL70_2 (eL70_2 x) = x := by
  rintro ⟨N, f, z, a, b⟩
  simp only [eL70_2, dL70_2, Int.toNat_natCast, unS_rowS]

theorem kL70_2 (N : Nat) (f : Nat → List UInt8) (z : Nat) (a : Nat) (b : Nat) (h : b = a + 2 * z ∧ a ≤ N ∧ N ≤ 576460752303423488 ∧ 0 < z ∧ z ≤ 2 * N + 40 ∧ BS cmpM z N f a) : isEn eL70_2 pL70_2 ([.row 0 1 0 N, .int .i64 N, .fn 18 [], .int .i64 z, .int .i64 a, .int .i64 b], [some (.row 1 N (rowS f))]) = true := isEn_true (enc := eL70_2) (p := pL70_2) ⟨N, f, z, a, b⟩ h

theorem zL70_2 (N : Nat) (f : Nat → List UInt8) (z : Nat) (a : Nat) (h : pL70_2 ⟨N, f, z, a, 0⟩) : isEn eL70_2 pL70_2 ([.row 0 1 0 N, .int .i64 N, .fn 18 [], .int .i64 z, .int .i64 a, .int .i64 (0 : Int)], [some (.row 1 N (rowS f))]) = true := isEn_true (enc := eL70_2) (p := pL70_2) ⟨N, f, z, a, 0⟩ h

theorem q70_2 (N : Nat) (f : Nat → List UInt8) (z : Nat) (a : Nat) (b : Nat) : (rdn tabD5 h70 LB70 70 1 2 { tm := encGo (mbits 455 63) [.row 0 1 0 N, .int .i64 N, .fn 18 [], .int .i64 z, .int .i64 a, .int .i64 b], ms := [], hp := [some (.row 1 N (rowS f))] }).run =
  bif decide ((↑b : Int) ≤ (↑N : Int)) then
   bif isEn en82 pS82 ([AV.row 0 1 0 N, AV.int IntKind.i64 (↑a : Int), AV.int IntKind.i64 (IntKind.i64.wrap ((↑a : Int) + (↑z : Int))), AV.int IntKind.i64 (↑b : Int), AV.fn 18 []], [some (AObj.row 1 N (rowS f))]) then
    some ((AX.normal, { tm := tmOf 63 [(0, AV.row 0 1 0 N), (1, AV.int IntKind.i64 (↑N : Int)), (2, AV.fn 18 []), (6, AV.int IntKind.i64 (↑z : Int)), (7, AV.int IntKind.i64 (↑b : Int)), (8, AV.int IntKind.i64 (IntKind.i64.wrap ((↑b : Int) + IntKind.i64.wrap ((2 : Int) * (↑z : Int)))))], ms := [], hp := [some (AObj.row 1 N (rowS (sortG cmpM (unS (rowS f)) (↑a : Int).toNat (↑b : Int).toNat)))] }))
   else
    none
  else
   some ((AX.exit 4, { tm := tmOf 63 [(0, AV.row 0 1 0 N), (1, AV.int IntKind.i64 (↑N : Int)), (2, AV.fn 18 []), (6, AV.int IntKind.i64 (↑z : Int)), (7, AV.int IntKind.i64 (↑a : Int)), (8, AV.int IntKind.i64 (↑b : Int)), (35, AV.bool false)], ms := [], hp := [some (AObj.row 1 N (rowS f))] })) := by kernel_rfl

theorem l70_2 : LoopOk Tryd.prog tabD5.pf (fun n => hd Tryd.prog tabD5.pf tabD5.con.run (fun f => (H0 f).to) n 9) h70.to 70 1 none LB70 (loopAt Tryd.prog 70 2) := by
  rw [show loopAt Tryd.prog 70 2 = .loop (lbody Tryd.prog 70 2) by kernel_rfl]
  refine loop_c (hdT_le (m := 20) 9) (m := 20) (lv := mbits 455 63) (p := pL70_2) (res := rL70_2) iL70_2 (within_of _ (by rw [show loopsOf (lbody Tryd.prog 70 2) = [] by kernel_rfl]; simp)) (by kernel_rfl) (fun ⟨N, f, z, a, b⟩ => N - a) ?_
  rintro ⟨N, f, z, a, b⟩ hp
  have ht := q70_2 N f z a b
  obtain ⟨rfl, h1, h2, h3, h4, h5⟩ := hp
  by_cases hl : a + 2 * z ≤ N
  · have hd := div_step (n := N) (a := a) (z := 2 * z) (by omega) hl
    obtain ⟨t1, t2⟩ := h5.two hl
    rw [decide_eq_true (show ((a + 2 * z : Nat) : Int) ≤ N by omega), w64a (a := a) (b := z) (by omega), kS82 N f a (a + z) (a + 2 * z) ⟨by omega, by omega, by omega, by omega, t1, t2⟩,
      show IntKind.i64.wrap (((a + 2 * z : Nat) : Int) + IntKind.i64.wrap (2 * (z : Int))) = ((a + 2 * z + 2 * z : Nat) : Int) by rw [w64 (n := 2 * (z : Int)) (by omega) (by omega), w64 (by omega) (by omega)]; omega] at ht
    simp only [cond_true, Int.toNat_natCast, unS_rowS] at ht
    left
    refine ⟨⟨N, sortG cmpM f a (a + 2 * z), z, a + 2 * z, a + 2 * z + 2 * z⟩, ⟨rfl, hl, h2, h3, h4, h5.next cmpX_ord⟩, by simp only; omega, ?_, ht⟩
    simp only [rL70_2, T.run_leaf, hd, mgM]
    rw [show a + ((N - (a + 2 * z)) / (2 * z) + 1) * (2 * z) = a + 2 * z + (N - (a + 2 * z)) / (2 * z) * (2 * z) by rw [Nat.add_mul]; omega]
  · right
    have hd := div_zero (n := N) (a := a) (z := 2 * z) (by omega) (by omega)
    rw [decide_eq_false (show ¬ ((a + 2 * z : Nat) : Int) ≤ N by omega)] at ht
    refine ⟨_, ?_, ?_, ht⟩
    · simp
    · simp only [rL70_2, T.run_leaf, hd, mgM, Nat.zero_mul, Nat.add_zero] <;> rfl

structure Y70_1 where
  N : Nat
  f : Nat → List UInt8
  z : Nat

def eL70_1 : Y70_1 → List AV × Hp := fun ⟨N, f, z⟩ => ([.row 0 1 0 N, .int .i64 N, .fn 18 [], .int .i64 z], [some (.row 1 N (rowS f))])

def dL70_1 : List AV × Hp → Y70_1
  | ([.row _ _ _ N, .int .i64 _, .fn _ _, .int .i64 z], [some (.row _ _ f_g)]) => ⟨N, unS f_g, z.toNat⟩
  | _ => ⟨default, default, default⟩

def pL70_1 : Y70_1 → Prop := fun ⟨N, f, z⟩ => N ≤ 576460752303423488 ∧ 0 < z ∧ z ≤ 2 * N + 40 ∧ BS cmpM z N f 0

def rL70_1 : Y70_1 → T (AX × St) := fun ⟨N, f, z⟩ => .leaf (.exit 2, { tm := tmOf 63 [(0, .row 0 1 0 N), (1, .int .i64 N), (2, .fn 18 []), (6, .int .i64 (dbl N (N - z) z)), (30, .bool false)], ms := [], hp := [some (.row 1 N (rowS (sortG cmpM f 0 N)))] })

noncomputable def L70 : LoopT := fun k => match Nat.beq k 700074 with
  | true => some (lccon (mbits 71 63) eL70_1 dL70_1 pL70_1 rL70_1)
  | false => LB70 k

theorem iL70_1 : ∀ x, dL70_1 (eL70_1 x) = x := by
  rintro ⟨N, f, z⟩
  simp only [eL70_1, dL70_1, Int.toNat_natCast, unS_rowS]

theorem kL70_1 (N : Nat) (f : Nat → List UInt8) (z : Nat) (h : N ≤ 576460752303423488 ∧ 0 < z ∧ z ≤ 2 * N + 40 ∧ BS cmpM z N f 0) : isEn eL70_1 pL70_1 ([.row 0 1 0 N, .int .i64 N, .fn 18 [], .int .i64 z], [some (.row 1 N (rowS f))]) = true := isEn_true (enc := eL70_1) (p := pL70_1) ⟨N, f, z⟩ h

theorem zL70_1 (N : Nat) (f : Nat → List UInt8) (h : pL70_1 ⟨N, f, 0⟩) : isEn eL70_1 pL70_1 ([.row 0 1 0 N, .int .i64 N, .fn 18 [], .int .i64 (0 : Int)], [some (.row 1 N (rowS f))]) = true := isEn_true (enc := eL70_1) (p := pL70_1) ⟨N, f, 0⟩ h

theorem q70_1 (N : Nat) (f : Nat → List UInt8) (z : Nat) : (rdn tabD5 h70 L70 70 1 1 { tm := encGo (mbits 71 63) [.row 0 1 0 N, .int .i64 N, .fn 18 [], .int .i64 z], ms := [], hp := [some (.row 1 N (rowS f))] }).run =
  bif decide ((↑z : Int) < (↑N : Int)) then
   bif isEn eL70_2 pL70_2 ([AV.row 0 1 0 N, AV.int IntKind.i64 (↑N : Int), AV.fn 18 [], AV.int IntKind.i64 (↑z : Int), AV.int IntKind.i64 (0 : Int), AV.int IntKind.i64 (IntKind.i64.wrap ((2 : Int) * (↑z : Int)))], [some (AObj.row 1 N (rowS f))]) then
    bif decide (IntKind.i64.wrap ((↑(0 + (N - 0) / (2 * (↑z : Int).toNat) * (2 * (↑z : Int).toNat)) : Int) + (↑(↑z : Int).toNat : Int)) < (↑N : Int)) then
     bif isEn en82 pS82 ([AV.row 0 1 0 N, AV.int IntKind.i64 (↑(0 + (N - 0) / (2 * (↑z : Int).toNat) * (2 * (↑z : Int).toNat)) : Int), AV.int IntKind.i64 (IntKind.i64.wrap ((↑(0 + (N - 0) / (2 * (↑z : Int).toNat) * (2 * (↑z : Int).toNat)) : Int) + (↑(↑z : Int).toNat : Int))), AV.int IntKind.i64 (↑N : Int), AV.fn 18 []], [some (AObj.row 1 N (rowS (mgM cmpM (↑z : Int).toNat ((N - 0) / (2 * (↑z : Int).toNat)) 0 (unS (rowS f)))))]) then
      some ((AX.normal, { tm := tmOf 63 [(0, AV.row 0 1 0 N), (1, AV.int IntKind.i64 (↑N : Int)), (2, AV.fn 18 []), (6, AV.int IntKind.i64 (IntKind.i64.wrap ((↑(↑z : Int).toNat : Int) * (2 : Int))))], ms := [], hp := [some (AObj.row 1 N (rowS (sortG cmpM (unS (rowS (mgM cmpM (↑z : Int).toNat ((N - 0) / (2 * (↑z : Int).toNat)) 0 (unS (rowS f))))) (↑(0 + (N - 0) / (2 * (↑z : Int).toNat) * (2 * (↑z : Int).toNat)) : Int).toNat (↑N : Int).toNat)))] }))
     else
      none
    else
     some ((AX.normal, { tm := tmOf 63 [(0, AV.row 0 1 0 N), (1, AV.int IntKind.i64 (↑N : Int)), (2, AV.fn 18 []), (6, AV.int IntKind.i64 (IntKind.i64.wrap ((↑(↑z : Int).toNat : Int) * (2 : Int))))], ms := [], hp := [some (AObj.row 1 N (rowS (mgM cmpM (↑z : Int).toNat ((N - 0) / (2 * (↑z : Int).toNat)) 0 (unS (rowS f)))))] }))
   else
    none
  else
   some ((AX.exit 2, { tm := tmOf 63 [(0, AV.row 0 1 0 N), (1, AV.int IntKind.i64 (↑N : Int)), (2, AV.fn 18 []), (6, AV.int IntKind.i64 (↑z : Int)), (30, AV.bool false)], ms := [], hp := [some (AObj.row 1 N (rowS f))] })) := by kernel_rfl

theorem l70_1 : LoopOk Tryd.prog tabD5.pf (fun n => hd Tryd.prog tabD5.pf tabD5.con.run (fun f => (H0 f).to) n 9) h70.to 70 1 none L70 (loopAt Tryd.prog 70 1) := by
  rw [show loopAt Tryd.prog 70 1 = .loop (lbody Tryd.prog 70 1) by kernel_rfl]
  refine loop_c (hdT_le (m := 20) 9) (m := 20) (lv := mbits 71 63) (p := pL70_1) (res := rL70_1) iL70_1 (within_of _ (by
      rw [show loopsOf (lbody Tryd.prog 70 1) = [loopAt Tryd.prog 70 2] by kernel_rfl]
      intro d hd
      simp only [List.mem_cons, List.not_mem_nil, or_false] at hd
      subst hd
      exact l70_2)) (by kernel_rfl) (fun ⟨N, f, z⟩ => N - z) ?_
  rintro ⟨N, f, z⟩ hp
  have ht := q70_1 N f z
  obtain ⟨h1, h2, h3, h4⟩ := hp
  by_cases hl : z < N
  · left
    have hw2 : IntKind.i64.wrap (2 * (z : Int)) = ((2 * z : Nat) : Int) := by rw [w64 (by omega) (by omega)]; omega
    have hk := kL70_2 N f z 0 (2 * z) ⟨by omega, by omega, h1, h2, h3, h4⟩
    rw [decide_eq_true (show (z : Int) < N by omega), hw2, cond_true] at ht
    rw [show isEn eL70_2 pL70_2 ([AV.row 0 1 0 N, AV.int IntKind.i64 (N : Nat), AV.fn 18 [], AV.int IntKind.i64 (z : Nat), AV.int IntKind.i64 (0 : Int), AV.int IntKind.i64 ((2 * z : Nat) : Int)], [some (AObj.row 1 N (rowS f))]) = true from hk, cond_true] at ht
    simp only [Int.toNat_natCast, unS_rowS, show Int.toNat (0 : Int) = 0 from rfl, Nat.zero_add, Nat.sub_zero] at ht
    have q1 : N / (2 * z) * (2 * z) ≤ N := Nat.div_mul_le_self N (2 * z)
    have q2 : N < N / (2 * z) * (2 * z) + 2 * z := by have := Nat.lt_div_mul_add (a := N) (b := 2 * z) (by omega); omega
    obtain ⟨m1, m2⟩ := mg_ok cmpX_ord (z := z) (n := N) h2 (N / (2 * z)) 0 f (by omega) (by omega) h4
    have m3 := BS.rest cmpX_ord (N / (2 * z)) 0 f h4
    simp only [Nat.zero_add] at m1 m2 m3
    have hs := dbl_step h2 hl
    have hfin : sortG cmpM (tlM cmpM z N (N / (2 * z) * (2 * z)) (mgM cmpM z (N / (2 * z)) 0 f)) 0 N = sortG cmpM f 0 N := (sortG_congr cmpX_ord m1).symm
    generalize hA : N / (2 * z) * (2 * z) = A at *
    generalize hG : mgM cmpM z (N / (2 * z)) 0 f = g at *
    rw [w64a (a := A) (b := z) (by omega), show IntKind.i64.wrap ((z : Int) * 2) = ((2 * z : Nat) : Int) by rw [w64 (by omega) (by omega)]; omega] at ht
    refine ⟨⟨N, tlM cmpM z N A g, 2 * z⟩, ⟨h1, by omega, by omega, m2⟩, by simp only; omega, ?_, ht.trans ?_⟩
    · simp only [rL70_1, T.run_leaf, hs, hfin]
    · unfold tlM
      by_cases hc : A + z < N
      · obtain ⟨t1, t2⟩ := m3.tail hc (by omega)
        rw [decide_eq_true (show ((A + z : Nat) : Int) < N by omega), cond_true, kS82 N g A (A + z) N ⟨by omega, hc, Nat.le_refl _, by omega, t1, t2⟩, cond_true, if_pos hc]
        rfl
      · rw [decide_eq_false (show ¬ ((A + z : Nat) : Int) < N by omega), cond_false, if_neg hc]
        rfl
  · right
    rw [decide_eq_false (show ¬ (z : Int) < N by omega)] at ht
    refine ⟨_, ?_, ?_, ht⟩
    · simp
    · simp only [rL70_1, T.run_leaf, h4.whole cmpX_ord (by omega), dbl_end (show N ≤ z by omega)] <;> rfl

theorem threeLoops {f : FuncId} {Φ : Nat → Prop} (h : (loopsOf (bodyOf Tryd.prog f)).length = 3) (h0 : Φ 0) (h1 : Φ 1) (h2 : Φ 2) : ∀ i, i < (loopsOf (bodyOf Tryd.prog f)).length → Φ i := fun i hi => by
  rcases (by omega : i = 0 ∨ i = 1 ∨ i = 2) with rfl | rfl | rfl
  · exact h0
  · exact h1
  · exact h2

theorem t70 (N : Nat) (f : Nat → List UInt8) : (evn tabD5 h70 L70 70 [.row 0 1 0 N, .int .i64 N, .fn 18 []] [some (.row 1 N (rowS f))]).run =
  bif isEn eL70 pL70 ([AV.row 0 1 0 N, AV.int IntKind.i64 (↑N : Int), AV.fn 18 [], AV.int IntKind.i64 (20 : Int), AV.int IntKind.i64 (0 : Int), AV.int IntKind.i64 (20 : Int)], [some (AObj.row 1 N (rowS f))]) then
   bif isEn en81 p81 ([AV.row 0 1 0 N, AV.int IntKind.i64 (↑(0 + (N - 0) / 20 * 20) : Int), AV.int IntKind.i64 (↑N : Int), AV.fn 18 []], [some (AObj.row 1 N (rowS (bkM cmpM 20 ((N - 0) / 20) 0 (unS (rowS f)))))]) then
    bif isEn eL70_1 pL70_1 ([AV.row 0 1 0 N, AV.int IntKind.i64 (↑N : Int), AV.fn 18 [], AV.int IntKind.i64 (20 : Int)], [some (AObj.row 1 N (rowS (sortG cmpM (unS (rowS (bkM cmpM 20 ((N - 0) / 20) 0 (unS (rowS f))))) (↑(0 + (N - 0) / 20 * 20) : Int).toNat (↑N : Int).toNat)))]) then
     some ((AV.tup [], [some (AObj.row 1 N (rowS (sortG cmpM (unS (rowS (sortG cmpM (unS (rowS (bkM cmpM 20 ((N - 0) / 20) 0 (unS (rowS f))))) (↑(0 + (N - 0) / 20 * 20) : Int).toNat (↑N : Int).toNat))) 0 N)))]))
    else
     none
   else
    none
  else
   none := by kernel_rfl

structure X70 where
  N : Nat
  f : Nat → List UInt8

def en70 : X70 → List AV × Hp := fun ⟨N, f⟩ => ([.row 0 1 0 N, .int .i64 N, .fn 18 []], [some (.row 1 N (rowS f))])

def de70 : List AV × Hp → X70
  | ([.row _ _ _ N, .int .i64 _, .fn _ _], [some (.row _ _ f_g)]) => ⟨N, unS f_g⟩
  | _ => ⟨default, default⟩

def p70 : X70 → Prop := fun ⟨N, f⟩ => N ≤ 576460752303423488

def rs70 : X70 → T (AV × Hp) := fun ⟨N, f⟩ => .leaf (.tup [], [some (.row 1 N (rowS (sortG cmpM f 0 N)))])

noncomputable def c70 : List AV → Hp → T (AV × Hp) := mcon en70 de70 p70 rs70

theorem in70 : ∀ x, de70 (en70 x) = x := by
  rintro ⟨N, f⟩
  simp only [en70, de70, Int.toNat_natCast, unS_rowS]

theorem k70 (N : Nat) (f : Nat → List UInt8) (h : N ≤ 576460752303423488) : isEn en70 p70 ([.row 0 1 0 N, .int .i64 N, .fn 18 []], [some (.row 1 N (rowS f))]) = true := isEn_true (enc := en70) (p := p70) ⟨N, f⟩ h

theorem e70 (N : Nat) (f : Nat → List UInt8) (hF : FitsL [.row 0 1 0 N, .int .i64 N, .fn 18 []]) (hH : FitsH [some (.row 1 N (rowS f))]) (hp : N ≤ 576460752303423488) : (evn tabD5 h70 L70 70 [.row 0 1 0 N, .int .i64 N, .fn 18 []] [some (.row 1 N (rowS f))]).run = (.leaf (.tup [], [some (.row 1 N (rowS (sortG cmpM f 0 N)))]) : T (AV × Hp)).run := by
  refine (t70 N f).trans ?_
  refine (cond_chk (kL70 N f 0 20 ⟨rfl, Nat.zero_le _, hp⟩)).trans ?_
  simp only [Nat.zero_add, Nat.sub_zero, unS_rowS, Int.toNat_natCast]
  have q1 : N / 20 * 20 ≤ N := Nat.div_mul_le_self N 20
  have q2 : N < N / 20 * 20 + 20 := by omega
  refine (cond_chk (k81 N _ (N / 20 * 20) N ⟨q1, Nat.le_refl _, by simp only [bnd]; omega⟩)).trans ?_
  obtain ⟨m1, m2⟩ := bk_ok cmpX_ord (z := 20) (n := N) (by omega) (N / 20) 0 f (by omega) (by omega)
  simp only [Nat.zero_add] at m1 m2
  refine (cond_chk (kL70_1 N _ 20 ⟨hp, by omega, by omega, m2⟩)).trans ?_
  rw [← sortG_congr cmpX_ord m1]; rfl

theorem s70 : Sound1 Tryd.prog ⟨70, false, gcon c70⟩ := by
  refine sound_cm (soundTab_of all_tabD5) in70 (hn := h70) (m := 20) (k := 9) (Λ := L70) (fun _ _ => threeLoops (by kernel_rfl) l70 l70_1 l70_2) ?_
  rintro ⟨N, f⟩ hp hF hH
  exact e70 N f hF hH hp

noncomputable def tabD6 : Tab := ⟨70, false, gcon c70⟩ :: tabD5

theorem all_tabD6 : ∀ e, e ∈ tabD6 → Sound1 Tryd.prog e := (sound_mem_tab s70 all_tabD5)

theorem ok_tabD6 : SoundTab Tryd.prog tabD6 := soundTab_of all_tabD6

end Go.Mvn

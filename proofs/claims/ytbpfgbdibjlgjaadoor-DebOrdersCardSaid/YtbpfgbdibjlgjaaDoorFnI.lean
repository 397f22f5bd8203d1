/- Lemmas for the claims of this seat (a verified symbolic evaluator, and contracts of functions): own work; no condition. -/
import Derived.Test.YtbpfgbdibjlgjaaDoorFnH
namespace Go.Deb

open Go Go.Proofs Go.Ab

set_option maxRecDepth 100000

set_option linter.unusedVariables false

set_option linter.unusedSimpArgs false

noncomputable def tabD5 : Tab := ⟨76, false, gcon cS76⟩ :: tabD3

theorem all_tabD5 : ∀ e, e ∈ tabD5 → Sound1 Tryd.prog e := sound_mem_tab sS76 all_tabD3

theorem ok_tabD5 : SoundTab Tryd.prog tabD5 := soundTab_of all_tabD5

theorem div_step {n a z : Nat} (hz : 0 < z) (h : a + z ≤ n) : (n - a) / z = (n - (a + z)) / z + 1 := by
  rw [show n - a = (n - (a + z)) + z by omega, Nat.add_div_right _ hz]

theorem div_zero {n a z : Nat} (hz : 0 < z) (h : n < a + z) : (n - a) / z = 0 := Nat.div_eq_of_lt (by omega)

structure Y66 where
  N : Nat
  f : Nat → List UInt8
  a : Nat
  b : Nat

def eL66 : Y66 → List AV × Hp := fun ⟨N, f, a, b⟩ => ([.row 0 1 0 N, .int .i64 N, .fn 12 [], .int .i64 20, .int .i64 a, .int .i64 b], [some (.row 1 N (rowS f))])

def dL66 : List AV × Hp → Y66
  | ([.row _ _ _ N, .int .i64 _, .fn _ _, .int .i64 _, .int .i64 a, .int .i64 b], [some (.row _ _ f_g)]) => ⟨N, unS f_g, a.toNat, b.toNat⟩
  | _ => ⟨default, default, default, default⟩

def pL66 : Y66 → Prop := fun ⟨N, f, a, b⟩ => b = a + 20 ∧ a ≤ N ∧ N ≤ 576460752303423488

def rL66 : Y66 → T (AX × St) := fun ⟨N, f, a, b⟩ => .leaf (.exit 0, { tm := tmOf 63 [(0, .row 0 1 0 N), (1, .int .i64 N), (2, .fn 12 []), (6, .int .i64 20), (7, .int .i64 (a + (N - a) / 20 * 20 : Nat)), (8, .int .i64 (a + (N - a) / 20 * 20 + 20 : Nat)), (13, .bool false)], ms := [], hp := [some (.row 1 N (rowS (bkM compareD 20 ((N - a) / 20) a f)))] })

noncomputable def LA66 : LoopT := fun k => match Nat.beq k 200026 with
  | true => some (lccon (mbits 455 63) eL66 dL66 pL66 rL66)
  | false => none

theorem iL66 : ∀ x, dL66 (eL66 x) = x := by
  rintro ⟨N, f, a, b⟩
  simp only [eL66, dL66, Int.toNat_natCast, unS_rowS]

theorem kL66 (N : Nat) (f : Nat → List UInt8) (a : Nat) (b : Nat) (h : b = a + 20 ∧ a ≤ N ∧ N ≤ 576460752303423488) : isEn eL66 pL66 ([.row 0 1 0 N, .int .i64 N, .fn 12 [], .int .i64 20, .int .i64 a, .int .i64 b], [some (.row 1 N (rowS f))]) = true := isEn_true (enc := eL66) (p := pL66) ⟨N, f, a, b⟩ h

theorem zL66 (N : Nat) (f : Nat → List UInt8) (a : Nat) (h : pL66 ⟨N, f, a, 0⟩) : isEn eL66 pL66 ([.row 0 1 0 N, .int .i64 N, .fn 12 [], .int .i64 20, .int .i64 a, .int .i64 (0 : Int)], [some (.row 1 N (rowS f))]) = true := isEn_true (enc := eL66) (p := pL66) ⟨N, f, a, 0⟩ h

theorem q66 (N : Nat) (f : Nat → List UInt8) (a : Nat) (b : Nat) : (rdn tabD5 h66 LA66 66 1 0 { tm := encGo (mbits 455 63) [.row 0 1 0 N, .int .i64 N, .fn 12 [], .int .i64 20, .int .i64 a, .int .i64 b], ms := [], hp := [some (.row 1 N (rowS f))] }).run =
  bif decide ((↑b : Int) ≤ (↑N : Int)) then
   bif isEn en75 p75 ([AV.row 0 1 0 N, AV.int IntKind.i64 (↑a : Int), AV.int IntKind.i64 (↑b : Int), AV.fn 12 []], [some (AObj.row 1 N (rowS f))]) then
    some ((AX.normal, { tm := tmOf 63 [(0, AV.row 0 1 0 N), (1, AV.int IntKind.i64 (↑N : Int)), (2, AV.fn 12 []), (6, AV.int IntKind.i64 (20 : Int)), (7, AV.int IntKind.i64 (↑b : Int)), (8, AV.int IntKind.i64 (IntKind.i64.wrap ((↑b : Int) + (20 : Int))))], ms := [], hp := [some (AObj.row 1 N (rowS (sortG compareD (unS (rowS f)) (↑a : Int).toNat (↑b : Int).toNat)))] }))
   else
    none
  else
   some ((AX.exit 0, { tm := tmOf 63 [(0, AV.row 0 1 0 N), (1, AV.int IntKind.i64 (↑N : Int)), (2, AV.fn 12 []), (6, AV.int IntKind.i64 (20 : Int)), (7, AV.int IntKind.i64 (↑a : Int)), (8, AV.int IntKind.i64 (↑b : Int)), (13, AV.bool false)], ms := [], hp := [some (AObj.row 1 N (rowS f))] })) := by kernel_rfl

theorem l66 : LoopOk Tryd.prog tabD5.pf (fun n => hd Tryd.prog tabD5.pf tabD5.con.run (fun f => (H0 f).to) n 9) h66.to 66 1 none LA66 (loopAt Tryd.prog 66 0) := by
  rw [show loopAt Tryd.prog 66 0 = .loop (lbody Tryd.prog 66 0) by kernel_rfl]
  refine loop_c (hdT_le (m := 20) 9) (m := 20) (lv := mbits 455 63) (p := pL66) (res := rL66) iL66 (within_of _ (by rw [show loopsOf (lbody Tryd.prog 66 0) = [] by kernel_rfl]; simp)) (by kernel_rfl) (fun ⟨N, f, a, b⟩ => N - a) ?_
  rintro ⟨N, f, a, b⟩ hp
  have ht := q66 N f a b
  obtain ⟨rfl, h1, h2⟩ := hp
  by_cases hl : a + 20 ≤ N
  · have hd := div_step (n := N) (a := a) (z := 20) (by omega) hl
    rw [decide_eq_true (show ((a + 20 : Nat) : Int) ≤ N by omega), k75 N f a (a + 20) ⟨by omega, by omega, by simp only [bnd]; omega⟩, show IntKind.i64.wrap (((a + 20 : Nat) : Int) + 20) = ((a + 20 + 20 : Nat) : Int) by rw [w64 (by omega) (by omega)]; rfl] at ht
    simp only [cond_true, Int.toNat_natCast, unS_rowS] at ht
    left
    refine ⟨⟨N, sortG compareD f a (a + 20), a + 20, a + 20 + 20⟩, ⟨rfl, hl, h2⟩, by simp only; omega, ?_, ht⟩
    simp only [rL66, T.run_leaf, hd, bkM]
    rw [show a + ((N - (a + 20)) / 20 + 1) * 20 = a + 20 + (N - (a + 20)) / 20 * 20 by omega]
  · right
    have hd := div_zero (n := N) (a := a) (z := 20) (by omega) (by omega)
    rw [decide_eq_false (show ¬ ((a + 20 : Nat) : Int) ≤ N by omega)] at ht
    refine ⟨_, ?_, ?_, ht⟩
    · simp
    · simp only [rL66, T.run_leaf, hd, bkM, Nat.zero_mul, Nat.add_zero] <;> rfl

structure Y66_2 where
  N : Nat
  f : Nat → List UInt8
  z : Nat
  a : Nat
  b : Nat

def eL66_2 : Y66_2 → List AV × Hp := fun ⟨N, f, z, a, b⟩ => ([.row 0 1 0 N, .int .i64 N, .fn 12 [], .int .i64 z, .int .i64 a, .int .i64 b], [some (.row 1 N (rowS f))])

def dL66_2 : List AV × Hp → Y66_2
  | ([.row _ _ _ N, .int .i64 _, .fn _ _, .int .i64 z, .int .i64 a, .int .i64 b], [some (.row _ _ f_g)]) => ⟨N, unS f_g, z.toNat, a.toNat, b.toNat⟩
  | _ => ⟨default, default, default, default, default⟩

def pL66_2 : Y66_2 → Prop := fun ⟨N, f, z, a, b⟩ => b = a + 2 * z ∧ a ≤ N ∧ N ≤ 576460752303423488 ∧ 0 < z ∧ z ≤ 2 * N + 40 ∧ BS compareD z N f a

def rL66_2 : Y66_2 → T (AX × St) := fun ⟨N, f, z, a, b⟩ => .leaf (.exit 4, { tm := tmOf 63 [(0, .row 0 1 0 N), (1, .int .i64 N), (2, .fn 12 []), (6, .int .i64 z), (7, .int .i64 (a + (N - a) / (2 * z) * (2 * z) : Nat)), (8, .int .i64 (a + (N - a) / (2 * z) * (2 * z) + 2 * z : Nat)), (35, .bool false)], ms := [], hp := [some (.row 1 N (rowS (mgM compareD z ((N - a) / (2 * z)) a f)))] })

noncomputable def LB66 : LoopT := fun k => match Nat.beq k 900030 with
  | true => some (lccon (mbits 455 63) eL66_2 dL66_2 pL66_2 rL66_2)
  | false => LA66 k

theorem iL66_2 : ∀ x, dL66_2 (eL66_2 x) = x := by
  rintro ⟨N, f, z, a, b⟩
  simp only [eL66_2, dL66_2, Int.toNat_natCast, unS_rowS]

theorem kL66_2 (N : Nat) (f : Nat → List UInt8) (z : Nat) (a : Nat) (b : Nat) (h : b = a + 2 * z ∧ a ≤ N ∧ N ≤ 576460752303423488 ∧ 0 < z ∧ z ≤ 2 * N + 40 ∧ BS compareD z N f a) : isEn eL66_2 pL66_2 ([.row 0 1 0 N, .int .i64 N, .fn 12 [], .int .i64 z, .int .i64 a, .int .i64 b], [some (.row 1 N (rowS f))]) = true := isEn_true (enc := eL66_2) (p := pL66_2) ⟨N, f, z, a, b⟩ h

theorem zL66_2 (N : Nat) (f : Nat → List UInt8) (z : Nat) (a : Nat) (h : pL66_2 ⟨N, f, z, a, 0⟩) : isEn eL66_2 pL66_2 ([.row 0 1 0 N, .int .i64 N, .fn 12 [], .int .i64 z, .int .i64 a, .int .i64 (0 : Int)], [some (.row 1 N (rowS f))]) = true := isEn_true (enc := eL66_2) (p := pL66_2) ⟨N, f, z, a, 0⟩ h

theorem q66_2 (N : Nat) (f : Nat → List UInt8) (z : Nat) (a : Nat) (b : Nat) : (rdn tabD5 h66 LB66 66 1 2 { tm := encGo (mbits 455 63) [.row 0 1 0 N, .int .i64 N, .fn 12 [], .int .i64 z, .int .i64 a, .int .i64 b], ms := [], hp := [some (.row 1 N (rowS f))] }).run =
  bif decide ((↑b : Int) ≤ (↑N : Int)) then
   bif isEn en76 pS76 ([AV.row 0 1 0 N, AV.int IntKind.i64 (↑a : Int), AV.int IntKind.i64 (IntKind.i64.wrap ((↑a : Int) + (↑z : Int))), AV.int IntKind.i64 (↑b : Int), AV.fn 12 []], [some (AObj.row 1 N (rowS f))]) then
    some ((AX.normal, { tm := tmOf 63 [(0, AV.row 0 1 0 N), (1, AV.int IntKind.i64 (↑N : Int)), (2, AV.fn 12 []), (6, AV.int IntKind.i64 (↑z : Int)), (7, AV.int IntKind.i64 (↑b : Int)), (8, AV.int IntKind.i64 (IntKind.i64.wrap ((↑b : Int) + IntKind.i64.wrap ((2 : Int) * (↑z : Int)))))], ms := [], hp := [some (AObj.row 1 N (rowS (sortG compareD (unS (rowS f)) (↑a : Int).toNat (↑b : Int).toNat)))] }))
   else
    none
  else
   some ((AX.exit 4, { tm := tmOf 63 [(0, AV.row 0 1 0 N), (1, AV.int IntKind.i64 (↑N : Int)), (2, AV.fn 12 []), (6, AV.int IntKind.i64 (↑z : Int)), (7, AV.int IntKind.i64 (↑a : Int)), (8, AV.int IntKind.i64 (↑b : Int)), (35, AV.bool false)], ms := [], hp := [some (AObj.row 1 N (rowS f))] })) := by kernel_rfl

theorem l66_2 : LoopOk Tryd.prog tabD5.pf (fun n => hd Tryd.prog tabD5.pf tabD5.con.run (fun f => (H0 f).to) n 9) h66.to 66 1 none LB66 (loopAt Tryd.prog 66 2) := by
  rw [show loopAt Tryd.prog 66 2 = .loop (lbody Tryd.prog 66 2) by kernel_rfl]
  refine loop_c (hdT_le (m := 20) 9) (m := 20) (lv := mbits 455 63) (p := pL66_2) (res := rL66_2) iL66_2 (within_of _ (by rw [show loopsOf (lbody Tryd.prog 66 2) = [] by kernel_rfl]; simp)) (by kernel_rfl) (fun ⟨N, f, z, a, b⟩ => N - a) ?_
  rintro ⟨N, f, z, a, b⟩ hp
  have ht := q66_2 N f z a b
  obtain ⟨rfl, h1, h2, h3, h4, h5⟩ := hp
  by_cases hl : a + 2 * z ≤ N
  · have hd := div_step (n := N) (a := a) (z := 2 * z) (by omega) hl
    obtain ⟨t1, t2⟩ := h5.two hl
    rw [decide_eq_true (show ((a + 2 * z : Nat) : Int) ≤ N by omega), w64a (a := a) (b := z) (by omega), kS76 N f a (a + z) (a + 2 * z) ⟨by omega, by omega, by omega, by omega, t1, t2⟩,
      show IntKind.i64.wrap (((a + 2 * z : Nat) : Int) + IntKind.i64.wrap (2 * (z : Int))) = ((a + 2 * z + 2 * z : Nat) : Int) by rw [w64 (n := 2 * (z : Int)) (by omega) (by omega), w64 (by omega) (by omega)]; omega] at ht
    simp only [cond_true, Int.toNat_natCast, unS_rowS] at ht
    left
    refine ⟨⟨N, sortG compareD f a (a + 2 * z), z, a + 2 * z, a + 2 * z + 2 * z⟩, ⟨rfl, hl, h2, h3, h4, h5.next cmpX_ord⟩, by simp only; omega, ?_, ht⟩
    simp only [rL66_2, T.run_leaf, hd, mgM]
    rw [show a + ((N - (a + 2 * z)) / (2 * z) + 1) * (2 * z) = a + 2 * z + (N - (a + 2 * z)) / (2 * z) * (2 * z) by rw [Nat.add_mul]; omega]
  · right
    have hd := div_zero (n := N) (a := a) (z := 2 * z) (by omega) (by omega)
    rw [decide_eq_false (show ¬ ((a + 2 * z : Nat) : Int) ≤ N by omega)] at ht
    refine ⟨_, ?_, ?_, ht⟩
    · simp
    · simp only [rL66_2, T.run_leaf, hd, mgM, Nat.zero_mul, Nat.add_zero] <;> rfl

structure Y66_1 where
  N : Nat
  f : Nat → List UInt8
  z : Nat

def eL66_1 : Y66_1 → List AV × Hp := fun ⟨N, f, z⟩ => ([.row 0 1 0 N, .int .i64 N, .fn 12 [], .int .i64 z], [some (.row 1 N (rowS f))])

def dL66_1 : List AV × Hp → Y66_1
  | ([.row _ _ _ N, .int .i64 _, .fn _ _, .int .i64 z], [some (.row _ _ f_g)]) => ⟨N, unS f_g, z.toNat⟩
  | _ => ⟨default, default, default⟩

def pL66_1 : Y66_1 → Prop := fun ⟨N, f, z⟩ => N ≤ 576460752303423488 ∧ 0 < z ∧ z ≤ 2 * N + 40 ∧ BS compareD z N f 0

def rL66_1 : Y66_1 → T (AX × St) := fun ⟨N, f, z⟩ => .leaf (.exit 2, { tm := tmOf 63 [(0, .row 0 1 0 N), (1, .int .i64 N), (2, .fn 12 []), (6, .int .i64 (dbl N (N - z) z)), (30, .bool false)], ms := [], hp := [some (.row 1 N (rowS (sortG compareD f 0 N)))] })

noncomputable def L66 : LoopT := fun k => match Nat.beq k 700074 with
  | true => some (lccon (mbits 71 63) eL66_1 dL66_1 pL66_1 rL66_1)
  | false => LB66 k

theorem iL66_1 : ∀ x, dL66_1 (eL66_1 x) = x := by
  rintro ⟨N, f, z⟩
  simp only [eL66_1, dL66_1, Int.toNat_natCast, unS_rowS]

theorem kL66_1 (N : Nat) (f : Nat → List UInt8) (z : Nat) (h : N ≤ 576460752303423488 ∧ 0 < z ∧ z ≤ 2 * N + 40 ∧ BS compareD z N f 0) : isEn eL66_1 pL66_1 ([.row 0 1 0 N, .int .i64 N, .fn 12 [], .int .i64 z], [some (.row 1 N (rowS f))]) = true := isEn_true (enc := eL66_1) (p := pL66_1) ⟨N, f, z⟩ h

theorem zL66_1 (N : Nat) (f : Nat → List UInt8) (h : pL66_1 ⟨N, f, 0⟩) : isEn eL66_1 pL66_1 ([.row 0 1 0 N, .int .i64 N, .fn 12 [], .int .i64 (0 : Int)], [some (.row 1 N (rowS f))]) = true := isEn_true (enc := eL66_1) (p := pL66_1) ⟨N, f, 0⟩ h

theorem q66_1 (N : Nat) (f : Nat → List UInt8) (z : Nat) : (rdn tabD5 h66 L66 66 1 1 { tm := encGo (mbits 71 63) [.row 0 1 0 N, .int .i64 N, .fn 12 [], .int .i64 z], ms := [], hp := [some (.row 1 N (rowS f))] }).run =
  bif decide ((↑z : Int) < (↑N : Int)) then
   bif isEn eL66_2 pL66_2 ([AV.row 0 1 0 N, AV.int IntKind.i64 (↑N : Int), AV.fn 12 [], AV.int IntKind.i64 (↑z : Int), AV.int IntKind.i64 (0 : Int), AV.int IntKind.i64 (IntKind.i64.wrap ((2 : Int) * (↑z : Int)))], [some (AObj.row 1 N (rowS f))]) then
    bif decide (IntKind.i64.wrap ((↑(0 + (N - 0) / (2 * (↑z : Int).toNat) * (2 * (↑z : Int).toNat)) : Int) + (↑(↑z : Int).toNat : Int)) < (↑N : Int)) then
     bif isEn en76 pS76 ([AV.row 0 1 0 N, AV.int IntKind.i64 (↑(0 + (N - 0) / (2 * (↑z : Int).toNat) * (2 * (↑z : Int).toNat)) : Int), AV.int IntKind.i64 (IntKind.i64.wrap ((↑(0 + (N - 0) / (2 * (↑z : Int).toNat) * (2 * (↑z : Int).toNat)) : Int) + (↑(↑z : Int).toNat : Int))), AV.int IntKind.i64 (↑N : Int), AV.fn 12 []], [some (AObj.row 1 N (rowS (mgM compareD (↑z : Int).toNat ((N - 0) / (2 * (↑z : Int).toNat)) 0 (unS (rowS f)))))]) then
      some ((AX.normal, { tm := tmOf 63 [(0, AV.row 0 1 0 N), (1, AV.int IntKind.i64 (↑N : Int)), (2, AV.fn 12 []), (6, AV.int IntKind.i64 (IntKind.i64.wrap ((↑(↑z : Int).toNat : Int) * (2 : Int))))], ms := [], hp := [some (AObj.row 1 N (rowS (sortG compareD (unS (rowS (mgM compareD (↑z : Int).toNat ((N - 0) / (2 * (↑z : Int).toNat)) 0 (unS (rowS f))))) (↑(0 + (N - 0) / (2 * (↑z : Int).toNat) * (2 * (↑z : Int).toNat)) : Int).toNat (↑N : Int).toNat)))] }))
     else
      none
    else
     some ((AX.normal, { tm := tmOf 63 [(0, AV.row 0 1 0 N), (1, AV.int IntKind.i64 (↑N : Int)), (2, AV.fn 12 []), (6, AV.int IntKind.i64 (IntKind.i64.wrap ((↑(↑z : Int).toNat : Int) * (2 : Int))))], ms := [], hp := [some (AObj.row 1 N (rowS (mgM compareD (↑z : Int).toNat ((N - 0) / (2 * (↑z : Int).toNat)) 0 (unS (rowS f)))))] }))
   else
    none
  else
   some ((AX.exit 2, { tm := tmOf 63 [(0, AV.row 0 1 0 N), (1, AV.int IntKind.i64 (↑N : Int)), (2, AV.fn 12 []), (6, AV.int IntKind.i64 (↑z : Int)), (30, AV.bool false)], ms := [], hp := [some (AObj.row 1 N (rowS f))] })) := by kernel_rfl

theorem l66_1 : LoopOk Tryd.prog tabD5.pf (fun n => hd Tryd.prog tabD5.pf tabD5.con.run (fun f => (H0 f).to) n 9) h66.to 66 1 none L66 (loopAt Tryd.prog 66 1) := by
  rw [show loopAt Tryd.prog 66 1 = .loop (lbody Tryd.prog 66 1) by kernel_rfl]
  refine loop_c (hdT_le (m := 20) 9) (m := 20) (lv := mbits 71 63) (p := pL66_1) (res := rL66_1) iL66_1 (within_of _ (by
      rw [show loopsOf (lbody Tryd.prog 66 1) = [loopAt Tryd.prog 66 2] by kernel_rfl]
      intro d hd
      simp only [List.mem_cons, List.not_mem_nil, or_false] at hd
      subst hd
      exact l66_2)) (by kernel_rfl) (fun ⟨N, f, z⟩ => N - z) ?_
  rintro ⟨N, f, z⟩ hp
  have ht := q66_1 N f z
  obtain ⟨h1, h2, h3, h4⟩ := hp
  by_cases hl : z < N
  · left
    have hw2 : IntKind.i64.wrap (2 * (z : Int)) = ((2 * z : Nat) : Int) := by rw [w64 (by omega) (by omega)]; omega
    have hk := kL66_2 N f z 0 (2 * z) ⟨by omega, by omega, h1, h2, h3, h4⟩
    rw [decide_eq_true (show (z : Int) < N by omega), hw2, cond_true] at ht
    rw [show isEn eL66_2 pL66_2 ([AV.row 0 1 0 N, AV.int IntKind.i64 (N : Nat), AV.fn 12 [], AV.int IntKind.i64 (z : Nat), AV.int IntKind.i64 (0 : Int), AV.int IntKind.i64 ((2 * z : Nat) : Int)], [some (AObj.row 1 N (rowS f))]) = true from hk, cond_true] at ht
    simp only [Int.toNat_natCast, unS_rowS, show Int.toNat (0 : Int) = 0 from rfl, Nat.zero_add, Nat.sub_zero] at ht
    have q1 : N / (2 * z) * (2 * z) ≤ N := Nat.div_mul_le_self N (2 * z)
    have q2 : N < N / (2 * z) * (2 * z) + 2 * z := by have := Nat.lt_div_mul_add (a := N) (b := 2 * z) (by omega); omega
    obtain ⟨m1, m2⟩ := mg_ok cmpX_ord (z := z) (n := N) h2 (N / (2 * z)) 0 f (by omega) (by omega) h4
    have m3 := BS.rest cmpX_ord (N / (2 * z)) 0 f h4
    simp only [Nat.zero_add] at m1 m2 m3
    have hs := dbl_step h2 hl
    have hfin : sortG compareD (tlM compareD z N (N / (2 * z) * (2 * z)) (mgM compareD z (N / (2 * z)) 0 f)) 0 N = sortG compareD f 0 N := (sortG_congr cmpX_ord m1).symm
    generalize hA : N / (2 * z) * (2 * z) = A at *
    generalize hG : mgM compareD z (N / (2 * z)) 0 f = g at *
    rw [w64a (a := A) (b := z) (by omega), show IntKind.i64.wrap ((z : Int) * 2) = ((2 * z : Nat) : Int) by rw [w64 (by omega) (by omega)]; omega] at ht
    refine ⟨⟨N, tlM compareD z N A g, 2 * z⟩, ⟨h1, by omega, by omega, m2⟩, by simp only; omega, ?_, ht.trans ?_⟩
    · simp only [rL66_1, T.run_leaf, hs, hfin]
    · unfold tlM
      by_cases hc : A + z < N
      · obtain ⟨t1, t2⟩ := m3.tail hc (by omega)
        rw [decide_eq_true (show ((A + z : Nat) : Int) < N by omega), cond_true, kS76 N g A (A + z) N ⟨by omega, hc, Nat.le_refl _, by omega, t1, t2⟩, cond_true, if_pos hc]
        rfl
      · rw [decide_eq_false (show ¬ ((A + z : Nat) : Int) < N by omega), cond_false, if_neg hc]
        rfl
  · right
    rw [decide_eq_false (show ¬ (z : Int) < N by omega)] at ht
    refine ⟨_, ?_, ?_, ht⟩
    · simp
    · simp only [rL66_1, T.run_leaf, h4.whole cmpX_ord (by omega), dbl_end (show N ≤ z by omega)] <;> rfl

theorem threeLoops {f : FuncId} {Φ : Nat → Prop} (h : (loopsOf (bodyOf Tryd.prog f)).length = 3) (h0 : Φ 0) (h1 : Φ 1) (h2 : Φ 2) : ∀ i, i < (loopsOf (bodyOf Tryd.prog f)).length → Φ i := fun i hi => by
  rcases (by omega : i = 0 ∨ i = 1 ∨ i = 2) with rfl | rfl | rfl
  · exact h0
  · exact h1
  · exact h2

theorem t66 (N : Nat) (f : Nat → List UInt8) : (evn tabD5 h66 L66 66 [.row 0 1 0 N, .int .i64 N, .fn 12 []] [some (.row 1 N (rowS f))]).run =
  bif isEn eL66 pL66 ([AV.row 0 1 0 N, AV.int IntKind.i64 (↑N : Int), AV.fn 12 [], AV.int IntKind.i64 (20 : Int), AV.int IntKind.i64 (0 : Int), AV.int IntKind.i64 (20 : Int)], [some (AObj.row 1 N (rowS f))]) then
   bif isEn en75 p75 ([AV.row 0 1 0 N, AV.int IntKind.i64 (↑(0 + (N - 0) / 20 * 20) : Int), AV.int IntKind.i64 (↑N : Int), AV.fn 12 []], [some (AObj.row 1 N (rowS (bkM compareD 20 ((N - 0) / 20) 0 (unS (rowS f)))))]) then
    bif isEn eL66_1 pL66_1 ([AV.row 0 1 0 N, AV.int IntKind.i64 (↑N : Int), AV.fn 12 [], AV.int IntKind.i64 (20 : Int)], [some (AObj.row 1 N (rowS (sortG compareD (unS (rowS (bkM compareD 20 ((N - 0) / 20) 0 (unS (rowS f))))) (↑(0 + (N - 0) / 20 * 20) : Int).toNat (↑N : Int).toNat)))]) then
     some ((AV.tup [], [some (AObj.row 1 N (rowS (sortG compareD (unS (rowS (sortG compareD (unS (rowS (bkM compareD 20 ((N - 0) / 20) 0 (unS (rowS f))))) (↑(0 + (N - 0) / 20 * 20) : Int).toNat (↑N : Int).toNat))) 0 N)))]))
    else
     none
   else
    none
  else
   none := by kernel_rfl

structure X66 where
  N : Nat
  f : Nat → List UInt8

def en66 : X66 → List AV × Hp := fun ⟨N, f⟩ => ([.row 0 1 0 N, .int .i64 N, .fn 12 []], [some (.row 1 N (rowS f))])

def de66 : List AV × Hp → X66
  | ([.row _ _ _ N, .int .i64 _, .fn _ _], [some (.row _ _ f_g)]) => ⟨N, unS f_g⟩
  | _ => ⟨default, default⟩

def p66 : X66 → Prop := fun ⟨N, f⟩ => N ≤ 576460752303423488

def rs66 : X66 → T (AV × Hp) := fun ⟨N, f⟩ => .leaf (.tup [], [some (.row 1 N (rowS (sortG compareD f 0 N)))])

noncomputable def c66 : List AV → Hp → T (AV × Hp) := mcon en66 de66 p66 rs66

theorem in66 : ∀ x, de66 (en66 x) = x := by
  rintro ⟨N, f⟩
  simp only [en66, de66, Int.toNat_natCast, unS_rowS]

theorem k66 (N : Nat) (f : Nat → List UInt8) (h : N ≤ 576460752303423488) : isEn en66 p66 ([.row 0 1 0 N, .int .i64 N, .fn 12 []], [some (.row 1 N (rowS f))]) = true := isEn_true (enc := en66) (p := p66) ⟨N, f⟩ h

theorem e66 (N : Nat) (f : Nat → List UInt8) (hF : FitsL [.row 0 1 0 N, .int .i64 N, .fn 12 []]) (hH : FitsH [some (.row 1 N (rowS f))]) (hp : N ≤ 576460752303423488) : (evn tabD5 h66 L66 66 [.row 0 1 0 N, .int .i64 N, .fn 12 []] [some (.row 1 N (rowS f))]).run = (.leaf (.tup [], [some (.row 1 N (rowS (sortG compareD f 0 N)))]) : T (AV × Hp)).run := by
  refine (t66 N f).trans ?_
  refine (cond_chk (kL66 N f 0 20 ⟨rfl, Nat.zero_le _, hp⟩)).trans ?_
  simp only [Nat.zero_add, Nat.sub_zero, unS_rowS, Int.toNat_natCast]
  have q1 : N / 20 * 20 ≤ N := Nat.div_mul_le_self N 20
  have q2 : N < N / 20 * 20 + 20 := by omega
  refine (cond_chk (k75 N _ (N / 20 * 20) N ⟨q1, Nat.le_refl _, by simp only [bnd]; omega⟩)).trans ?_
  obtain ⟨m1, m2⟩ := bk_ok cmpX_ord (z := 20) (n := N) (by omega) (N / 20) 0 f (by omega) (by omega)
  simp only [Nat.zero_add] at m1 m2
  refine (cond_chk (kL66_1 N _ 20 ⟨hp, by omega, by omega, m2⟩)).trans ?_
  rw [← sortG_congr cmpX_ord m1]; rfl

theorem s66 : Sound1 Tryd.prog ⟨66, false, gcon c66⟩ := by
  refine sound_cm (soundTab_of all_tabD5) in66 (hn := h66) (m := 20) (k := 9) (Λ := L66) (fun _ _ => threeLoops (by kernel_rfl) l66 l66_1 l66_2) ?_
  rintro ⟨N, f⟩ hp hF hH
  exact e66 N f hF hH hp

noncomputable def tabD6 : Tab := ⟨66, false, gcon c66⟩ :: tabD5

theorem all_tabD6 : ∀ e, e ∈ tabD6 → Sound1 Tryd.prog e := (sound_mem_tab s66 all_tabD5)

theorem ok_tabD6 : SoundTab Tryd.prog tabD6 := soundTab_of all_tabD6

end Go.Deb
namespace Go.Deb

open Go Go.Proofs Go.Ab

set_option maxRecDepth 100000

set_option linter.unusedVariables false

set_option linter.unusedSimpArgs false

/-! ### dovetailref04.weight, truth; dovetailref01.Texts, Cmp -/

theorem w64n' {i : Nat} (h : i < 4611686018427387904) : IntKind.i64.wrap (i : Int) = i := w64 (by omega) (by omega)

theorem hdW_row {s : List UInt8} {i : Nat} (h : i < s.length) : hdW (rowP (s.drop i)) = bif dig ((s.getD i 0).toNat : Int) then 0 else wtB ((s.getD i 0).toNat : Int) := by
  have hd : s.drop i = s.getD i 0 :: s.drop (i + 1) := by
    rw [List.drop_eq_getElem_cons h]
    congr 1
    rw [List.getD_eq_getElem?_getD, List.getElem?_eq_getElem h]; rfl
  rw [hd]
  unfold rowP
  rw [List.takeWhile_cons]
  rw [show digB (s.getD i 0) = dig ((s.getD i 0).toNat : Int) from rfl]
  cases dig ((s.getD i 0).toNat : Int) <;> rfl

theorem hdW_end {s : List UInt8} {i : Nat} (h : ¬ i < s.length) : hdW (rowP (s.drop i)) = 0 := by
  rw [List.drop_of_length_le (by omega)]; rfl

theorem t49 (s : List UInt8) (i : Nat) : (evn tabD6 h49 noLoops 49 [.str s, .int .i64 i] []).run =
  bif decide ((↑i : Int) ≥ (↑s.length : Int)) then
   some ((AV.int IntKind.i64 (0 : Int), []))
  else
   bif decide ((0 : Int) ≤ (↑i : Int) ∧ (↑i : Int) < (↑s.length : Int)) then
    bif dig (↑(s.getD (↑i : Int).toNat (0 : UInt8)).toNat : Int) then
     some ((AV.int IntKind.i64 (0 : Int), []))
    else
     bif decide ((0 : Int) ≤ (↑i : Int) ∧ (↑i : Int) < (↑s.length : Int)) then
      bif (↑(s.getD (↑i : Int).toNat (0 : UInt8)).toNat : Int) == (126 : Int) then
       some ((AV.int IntKind.i64 (-1 : Int), []))
      else
       bif decide ((0 : Int) ≤ (↑i : Int) ∧ (↑i : Int) < (↑s.length : Int)) then
        bif let_ (↑(s.getD (↑i : Int).toNat (0 : UInt8)).toNat : Int) then
         bif decide ((0 : Int) ≤ (↑i : Int) ∧ (↑i : Int) < (↑s.length : Int)) then
          some ((AV.int IntKind.i64 (IntKind.i64.wrap (↑(s.getD (↑i : Int).toNat (0 : UInt8)).toNat : Int)), []))
         else
          none
        else
         bif decide ((0 : Int) ≤ (↑i : Int) ∧ (↑i : Int) < (↑s.length : Int)) then
          some ((AV.int IntKind.i64 (IntKind.i64.wrap ((256 : Int) + IntKind.i64.wrap (↑(s.getD (↑i : Int).toNat (0 : UInt8)).toNat : Int))), []))
         else
          none
       else
        none
     else
      none
   else
    none := by kernel_rfl

structure X49 where
  s : List UInt8
  i : Nat

def en49 : X49 → List AV := fun ⟨s, i⟩ => [.str s, .int .i64 i]

def de49 : List AV → X49
  | [.str s, .int .i64 i] => ⟨s, i.toNat⟩
  | _ => ⟨default, default⟩

def p49 : X49 → Prop := fun ⟨s, i⟩ => i ≤ bnd

def rs49 : X49 → T AV := fun ⟨s, i⟩ => .leaf (.int .i64 (hdW (rowP (s.drop i))))

noncomputable def c49 : List AV → T AV := ccon en49 de49 p49 rs49

theorem in49 : ∀ x, de49 (en49 x) = x := by
  rintro ⟨s, i⟩
  simp only [en49, de49, Int.toNat_natCast]

theorem k49 (s : List UInt8) (i : Nat) (h : i ≤ bnd) : isEn en49 p49 [.str s, .int .i64 i] = true := isEn_true (enc := en49) (p := p49) ⟨s, i⟩ h

theorem e49 (s : List UInt8) (i : Nat) (hF : FitsL [.str s, .int .i64 i]) (hp : i ≤ bnd) : (evn tabD6 h49 noLoops 49 [.str s, .int .i64 i] []).run = (.leaf (.int .i64 (hdW (rowP (s.drop i)))) : T AV).run.map fun r => (r, []) := by
  refine (t49 s i).trans ?_
  have hb : i ≤ 4611686018427387903 := hp
  by_cases h : i < s.length
  · rw [decide_eq_false (show ¬ (i : Int) ≥ (s.length : Int) by omega), decide_eq_true (show (0 : Int) ≤ (i : Int) ∧ (i : Int) < (s.length : Int) by omega), Int.toNat_natCast, hdW_row h]
    have hb := UInt8.toNat_lt (s.getD i 0)
    generalize hc : (s.getD i 0).toNat = c at hb ⊢
    have w1 : IntKind.i64.wrap (c : Int) = c := w64 (by omega) (by omega)
    have w2 : IntKind.i64.wrap (256 + (c : Int)) = 256 + c := w64 (by omega) (by omega)
    rw [w1, w2]
    unfold wtB
    cases dig (c : Int)
    · simp only [cond_true, cond_false]
      by_cases h1 : (c : Int) = 126
      · rw [if_pos h1, show ((c : Int) == 126) = true by simpa using h1]; rfl
      · rw [if_neg h1, show ((c : Int) == 126) = false by simpa using h1]
        cases let_ (c : Int) <;> rfl
    · rfl
  · rw [decide_eq_true (show (i : Int) ≥ (s.length : Int) by omega), hdW_end h]; rfl

theorem s49 : Sound1 Tryd.prog ⟨49, true, pcon c49⟩ := by
  refine sound_c (soundTab_of all_tabD6) H0 in49 (hn := h49) (m := 20) (k := 9) (Λ := noLoops) (fun i hi => anyLoops) ?_
  rintro ⟨s, i⟩ hp hF
  exact e49 s i hF hp

theorem t51 (b : Bool) : (evn tabD6 h51 noLoops 51 [.bool b] []).run =
  bif b then
   some ((AV.int IntKind.i64 (1 : Int), []))
  else
   some ((AV.int IntKind.i64 (0 : Int), [])) := by kernel_rfl

def c51 : List AV → T AV
  | [.bool b] => .leaf (.int .i64 (truthZ b))
  | _ => .fail

theorem e51 (b : Bool) (hF : FitsL [.bool b]) : (evn tabD6 h51 noLoops 51 [.bool b] []).run = (.leaf (.int .i64 (truthZ b)) : T AV).run.map fun r => (r, []) := by
  refine (t51 b).trans ?_
  cases b <;> rfl

theorem s51 : Sound1 Tryd.prog ⟨51, true, pcon c51⟩ := by
  refine sound_pureH (m := 20) (k := 9) (hn := h51) (Λ := noLoops) (soundTab_of all_tabD6) H0 (fun i hi => anyLoops) fun args r hF h => ?_
  unfold c51 at h
  split at h
  · rename_i b
    have he := e51 b hF
    rw [he, h]; rfl
  · cases h

theorem abytesLess_iff : ∀ a b : List UInt8, abytesLess a b = decide (Lib.compareBytes a b < 0)
  | [], [] => rfl
  | [], _ :: _ => rfl
  | _ :: _, [] => rfl
  | a :: x, b :: y => by
    have ih := abytesLess_iff x y
    unfold abytesLess Lib.compareBytes
    by_cases h1 : a < b
    · simp [h1]
    · by_cases h2 : b < a
      · have : ¬ a = b := by rintro rfl; exact h1 h2
        simp [h1, h2, this]
      · have : a = b := by
          apply UInt8.toNat_inj.1
          have h1 : ¬ a.toNat < b.toNat := fun h => h1 (by simpa [UInt8.lt_iff_toNat_lt] using h)
          have h2 : ¬ b.toNat < a.toNat := fun h => h2 (by simpa [UInt8.lt_iff_toNat_lt] using h)
          omega
        subst this
        simp [ih]

theorem bytes_eqz (a b : List UInt8) : (a == b) = decide (Lib.compareBytes a b = 0) := by
  rw [Bool.eq_iff_iff, beq_iff_eq, decide_eq_true_eq, bytes_zero]

theorem bytes_unit : ∀ a b : List UInt8, -1 ≤ Lib.compareBytes a b ∧ Lib.compareBytes a b ≤ 1
  | [], [] => by unfold Lib.compareBytes; omega
  | [], _ :: _ => by unfold Lib.compareBytes; omega
  | _ :: _, [] => by unfold Lib.compareBytes; omega
  | a :: x, b :: y => by
    have := bytes_unit x y
    unfold Lib.compareBytes
    (repeat' split) <;> omega

theorem t65 (a : List UInt8) (b : List UInt8) : (evn tabD6 h65 noLoops 65 [.str a, .str b] []).run =
  bif abytesLess a b then
   some ((AV.int IntKind.i64 (-1 : Int), []))
  else
   bif !(abytesLess a b || a == b) then
    some ((AV.int IntKind.i64 (1 : Int), []))
   else
    some ((AV.int IntKind.i64 (0 : Int), [])) := by kernel_rfl

def c65 : List AV → T AV
  | [.str a, .str b] => .leaf (.int .i64 (Lib.compareBytes a b))
  | _ => .fail

theorem e65 (a : List UInt8) (b : List UInt8) (hF : FitsL [.str a, .str b]) : (evn tabD6 h65 noLoops 65 [.str a, .str b] []).run = (.leaf (.int .i64 (Lib.compareBytes a b)) : T AV).run.map fun r => (r, []) := by
  refine (t65 a b).trans ?_
  have hu := bytes_unit a b
  rw [abytesLess_iff, bytes_eqz]
  rcases (by omega : Lib.compareBytes a b = -1 ∨ Lib.compareBytes a b = 0 ∨ Lib.compareBytes a b = 1) with e | e | e <;> rw [e] <;> rfl

theorem s65 : Sound1 Tryd.prog ⟨65, true, pcon c65⟩ := by
  refine sound_pureH (m := 20) (k := 9) (hn := h65) (Λ := noLoops) (soundTab_of all_tabD6) H0 (fun i hi => anyLoops) fun args r hF h => ?_
  unfold c65 at h
  split at h
  · rename_i a b
    have he := e65 a b hF
    rw [he, h]; rfl
  · cases h

noncomputable def tabE1 : Tab := ⟨49, true, pcon c49⟩ :: ⟨51, true, pcon c51⟩ :: ⟨65, true, pcon c65⟩ :: tabD6

theorem all_tabE1 : ∀ e, e ∈ tabE1 → Sound1 Tryd.prog e := (sound_mem_tab s49 (sound_mem_tab s51 (sound_mem_tab s65 all_tabD6)))

theorem ok_tabE1 : SoundTab Tryd.prog tabE1 := soundTab_of all_tabE1

theorem t50 (a : List UInt8) (b : List UInt8) : (evn tabE1 h50 noLoops 50 [.str a, .str b] []).run =
  bif decide ((↑(trimD a).length : Int) < (↑(trimD b).length : Int)) then
   some ((AV.int IntKind.i64 (-1 : Int), []))
  else
   bif decide ((↑(trimD a).length : Int) > (↑(trimD b).length : Int)) then
    some ((AV.int IntKind.i64 (1 : Int), []))
   else
    some ((AV.int IntKind.i64 (Lib.compareBytes (trimD a) (trimD b)), [])) := by kernel_rfl

def c50 : List AV → T AV
  | [.str a, .str b] => .leaf (.int .i64 (cmpD a b))
  | _ => .fail

theorem e50 (a : List UInt8) (b : List UInt8) (hF : FitsL [.str a, .str b]) : (evn tabE1 h50 noLoops 50 [.str a, .str b] []).run = (.leaf (.int .i64 (cmpD a b)) : T AV).run.map fun r => (r, []) := by
  refine (t50 a b).trans ?_
  unfold cmpD cmpI
  by_cases h1 : (trimD a).length < (trimD b).length
  · simp [h1]
  · by_cases h2 : (trimD b).length < (trimD a).length
    · simp [h1, h2]
    · simp [h1, h2]

theorem s50 : Sound1 Tryd.prog ⟨50, true, pcon c50⟩ := by
  refine sound_pureH (m := 20) (k := 9) (hn := h50) (Λ := noLoops) (soundTab_of all_tabE1) H0 (fun i hi => anyLoops) fun args r hF h => ?_
  unfold c50 at h
  split at h
  · rename_i a b
    have he := e50 a b hF
    rw [he, h]; rfl
  · cases h

noncomputable def tabE2 : Tab := ⟨50, true, pcon c50⟩ :: tabE1

theorem all_tabE2 : ∀ e, e ∈ tabE2 → Sound1 Tryd.prog e := (sound_mem_tab s50 all_tabE1)

theorem ok_tabE2 : SoundTab Tryd.prog tabE2 := soundTab_of all_tabE2
end Go.Deb

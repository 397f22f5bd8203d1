/- Lemmas for the claims of this seat (a verified symbolic evaluator, and contracts of functions): own work; no condition. -/
import Derived.Test.YtdkmbohpmfakkaaDoorFnC
namespace Go.Mvn

open Go Go.Proofs Go.Ab

set_option maxRecDepth 100000

set_option linter.unusedVariables false

set_option linter.unusedSimpArgs false

/-! ### qualifier -/

def quB (b : UInt8) : Bool := low_ (b.toNat : Int) || ((b.toNat : Int) == 95 || (b.toNat : Int) == 43)

structure Y40 where
  s : List UInt8
  i : Nat

def eL40 : Y40 → List AV × Hp := fun ⟨s, i⟩ => ([.str s, .int .i64 s.length, .int .i64 i], [])

def dL40 : List AV × Hp → Y40
  | ([.str s, .int .i64 _, .int .i64 i], []) => ⟨s, i.toNat⟩
  | _ => ⟨default, default⟩

def pL40 : Y40 → Prop := fun ⟨s, i⟩ => i ≤ s.length ∧ s.length ≤ bnd

def rL40 : Y40 → T (AX × St) := fun ⟨s, i⟩ => .br (alN quB s i) (.leaf (.exit 0, { tm := tmOf 41 [(0, .str s), (5, .int .i64 s.length), (6, .int .i64 s.length), (7, .bool false)], ms := [], hp := [] })) (.leaf (.ret, { tm := tmOf 41 [(2, .bool false)], ms := [], hp := [] }))

noncomputable def L40 : LoopT := fun k => match Nat.beq k 200041 with
  | true => some (lccon (mbits 97 41) eL40 dL40 pL40 rL40)
  | false => none

theorem iL40 : ∀ x, dL40 (eL40 x) = x := by
  rintro ⟨s, i⟩
  simp only [eL40, dL40, Int.toNat_natCast]

theorem kL40 (s : List UInt8) (i : Nat) (h : i ≤ s.length ∧ s.length ≤ bnd) : isEn eL40 pL40 ([.str s, .int .i64 s.length, .int .i64 i], []) = true := isEn_true (enc := eL40) (p := pL40) ⟨s, i⟩ h

theorem zL40 (s : List UInt8) (h : pL40 ⟨s, 0⟩) : isEn eL40 pL40 ([.str s, .int .i64 s.length, .int .i64 (0 : Int)], []) = true := isEn_true (enc := eL40) (p := pL40) ⟨s, 0⟩ h

theorem q40 (s : List UInt8) (i : Nat) : (rdn tabI h40 L40 40 0 0 { tm := encGo (mbits 97 41) [.str s, .int .i64 s.length, .int .i64 i], ms := [], hp := [] }).run =
  bif decide ((↑i : Int) < (↑s.length : Int)) then
   bif decide ((0 : Int) ≤ (↑i : Int) ∧ (↑i : Int) < (↑s.length : Int)) then
    bif !isC (2 : Int) (↑(s.getD (↑i : Int).toNat (0 : UInt8)).toNat : Int) then
     bif decide ((0 : Int) ≤ (↑i : Int) ∧ (↑i : Int) < (↑s.length : Int)) then
      bif (↑(s.getD (↑i : Int).toNat (0 : UInt8)).toNat : Int) != (95 : Int) then
       bif decide ((0 : Int) ≤ (↑i : Int) ∧ (↑i : Int) < (↑s.length : Int)) then
        bif (↑(s.getD (↑i : Int).toNat (0 : UInt8)).toNat : Int) != (43 : Int) then
         some ((AX.ret, { tm := tmOf 41 [(2, AV.bool false)], ms := [], hp := [] }))
        else
         some ((AX.normal, { tm := tmOf 41 [(0, AV.str s), (5, AV.int IntKind.i64 (↑s.length : Int)), (6, AV.int IntKind.i64 (IntKind.i64.wrap ((↑i : Int) + (1 : Int))))], ms := [], hp := [] }))
       else
        none
      else
       some ((AX.normal, { tm := tmOf 41 [(0, AV.str s), (5, AV.int IntKind.i64 (↑s.length : Int)), (6, AV.int IntKind.i64 (IntKind.i64.wrap ((↑i : Int) + (1 : Int))))], ms := [], hp := [] }))
     else
      none
    else
     some ((AX.normal, { tm := tmOf 41 [(0, AV.str s), (5, AV.int IntKind.i64 (↑s.length : Int)), (6, AV.int IntKind.i64 (IntKind.i64.wrap ((↑i : Int) + (1 : Int))))], ms := [], hp := [] }))
   else
    none
  else
   some ((AX.exit 0, { tm := tmOf 41 [(0, AV.str s), (5, AV.int IntKind.i64 (↑s.length : Int)), (6, AV.int IntKind.i64 (↑i : Int)), (7, AV.bool false)], ms := [], hp := [] })) := by kernel_rfl

theorem l40 : LoopOk Tryd.prog tabI.pf (fun n => hd Tryd.prog tabI.pf tabI.con.run (fun f => (H0 f).to) n 9) h40.to 40 0 none L40 (loopAt Tryd.prog 40 0) := by
  rw [show loopAt Tryd.prog 40 0 = .loop (lbody Tryd.prog 40 0) by kernel_rfl]
  refine loop_c (hdT_le (m := 20) 9) (m := 20) (lv := mbits 97 41) (p := pL40) (res := rL40) iL40 (within_of _ (by rw [show loopsOf (lbody Tryd.prog 40 0) = [] by kernel_rfl]; simp)) (by kernel_rfl) (fun ⟨s, i⟩ => s.length - i) ?_
  rintro ⟨s, i⟩ hp
  have ht := q40 s i
  obtain ⟨h1, h2⟩ := hp
  have hb := h2
  simp only [bnd] at hb
  by_cases hl : i < s.length
  · rw [decide_eq_true (show (i : Int) < s.length by omega), in_row hl, Int.toNat_natCast, w64n (by omega), show isC 2 ((s.getD i 0).toNat : Int) = low_ ((s.getD i 0).toNat : Int) from rfl] at ht
    simp only [cond_true] at ht
    have hd := alN_step (q := quB) 0 hl
    cases hq : quB (s.getD i 0) with
    | true =>
      rw [hq, Bool.true_and] at hd
      left
      refine ⟨⟨s, i + 1⟩, ⟨by omega, h2⟩, by simp only; omega, ?_, ?_⟩
      · simp only [rL40, T.run_br, hd]
      · refine Eq.trans ht ?_
        unfold quB at hq
        cases hlo : low_ ((s.getD i 0).toNat : Int) with
        | true => rfl
        | false =>
          cases h95 : ((s.getD i 0).toNat : Int) == 95 with
          | true =>
            rw [show (((s.getD i 0).toNat : Int) != 95) = false by rw [bne, h95]; rfl]
            rfl
          | false =>
            cases h43 : ((s.getD i 0).toNat : Int) == 43 with
            | true =>
              rw [show (((s.getD i 0).toNat : Int) != 95) = true by rw [bne, h95]; rfl, show (((s.getD i 0).toNat : Int) != 43) = false by rw [bne, h43]; rfl]
              rfl
            | false =>
              rw [hlo, h95, h43] at hq
              cases hq
    | false =>
      rw [hq, Bool.false_and] at hd
      right
      refine ⟨(.ret, { tm := tmOf 41 [(2, .bool false)], ms := [], hp := [] }), ?_, ?_, ?_⟩
      · simp
      · simp only [rL40, T.run_br, hd] <;> rfl
      · refine Eq.trans ht ?_
        unfold quB at hq
        cases hlo : low_ ((s.getD i 0).toNat : Int) with
        | true =>
          rw [hlo] at hq
          cases hq
        | false =>
          cases h95 : ((s.getD i 0).toNat : Int) == 95 with
          | true =>
            rw [hlo, h95] at hq
            cases hq
          | false =>
            cases h43 : ((s.getD i 0).toNat : Int) == 43 with
            | true =>
              rw [hlo, h95, h43] at hq
              cases hq
            | false =>
              rw [show (((s.getD i 0).toNat : Int) != 95) = true by rw [bne, h95]; rfl, show (((s.getD i 0).toNat : Int) != 43) = true by rw [bne, h43]; rfl]
              rfl
  · have he : i = s.length := by omega
    right
    rw [decide_eq_false (show ¬ (i : Int) < s.length by omega)] at ht
    have hd := alN_end (q := quB) (show s.length ≤ i by omega)
    refine ⟨_, ?_, ?_, ht⟩
    · simp
    · simp only [rL40, T.run_br, hd]
      rw [he] <;> rfl

def quaB (s : List UInt8) : Bool := alN quB s 0 && (!(s == [99, 114]) && (!(s == [102, 105, 110, 97, 108]) && (!(s == [103, 97]) && !(s == [114, 101, 108, 101, 97, 115, 101]))))

theorem t40 (s : List UInt8) : (evn tabI h40 L40 40 [.str s] []).run =
  bif isEn eL40 pL40 ([AV.str s, AV.int IntKind.i64 (↑s.length : Int), AV.int IntKind.i64 (0 : Int)], []) then
   bif alN quB s 0 then
    bif !s == [(99 : UInt8), (114 : UInt8)] then
     bif !s == [(102 : UInt8), (105 : UInt8), (110 : UInt8), (97 : UInt8), (108 : UInt8)] then
      bif !s == [(103 : UInt8), (97 : UInt8)] then
       some ((AV.bool !s == [(114 : UInt8), (101 : UInt8), (108 : UInt8), (101 : UInt8), (97 : UInt8), (115 : UInt8), (101 : UInt8)], []))
      else
       some ((AV.bool false, []))
     else
      some ((AV.bool false, []))
    else
     some ((AV.bool false, []))
   else
    some ((AV.bool false, []))
  else
   none := by kernel_rfl

def c40 : List AV → T AV
  | [.str s] => .leaf (.bool (quaB s))
  | _ => .fail

theorem e40 (s : List UInt8) (hF : FitsL [.str s]) : (evn tabI h40 L40 40 [.str s] []).run = (.leaf (.bool (quaB s)) : T AV).run.map fun r => (r, []) := by
  refine (t40 s).trans ?_
  have hb : s.length ≤ bnd := hF.1
  refine (cond_chk (kL40 s 0 ⟨Nat.zero_le _, hb⟩)).trans ?_
  unfold quaB
  cases alN quB s 0 <;> cases (s == [99, 114]) <;> cases (s == [102, 105, 110, 97, 108]) <;> cases (s == [103, 97]) <;> cases (s == [114, 101, 108, 101, 97, 115, 101]) <;> rfl

theorem s40 : Sound1 Tryd.prog ⟨40, true, pcon c40⟩ := by
  refine sound_pureH (m := 20) (k := 9) (hn := h40) (Λ := L40) (soundTab_of all_tabI) H0 (oneLoop (by kernel_rfl) l40) fun args r hF h => ?_
  unfold c40 at h
  split at h
  · rename_i s
    have he := e40 s hF
    rw [he, h]; rfl
  · cases h

noncomputable def tabQ : Tab := ⟨40, true, pcon c40⟩ :: tabI

theorem all_tabQ : ∀ e, e ∈ tabQ → Sound1 Tryd.prog e := (sound_mem_tab s40 all_tabI)

theorem ok_tabQ : SoundTab Tryd.prog tabQ := soundTab_of all_tabQ
end Go.Mvn
namespace Go.Mvn

open Go Go.Proofs Go.Ab

set_option maxRecDepth 100000

set_option linter.unusedVariables false

set_option linter.unusedSimpArgs false

/-! ### goes, of a slice that is not written; Fit -/

theorem t41s (n : Nat) (i : Nat) (f : Nat → Tok) : (evn tabQ h41 noLoops 41 [.sl 3 n (rowT f), .int .i64 i] []).run =
  bif decide ((0 : Int) ≤ (↑i : Int) ∧ (↑i : Int) < (↑n : Int)) then
   bif nullT (f (↑i : Int).toNat).num (f (↑i : Int).toNat).text then
    bif IntKind.i64.wrap ((↑i : Int) + (1 : Int)) == (↑n : Int) then
     some ((AV.bool true, []))
    else
     bif decide ((0 : Int) ≤ IntKind.i64.wrap ((↑i : Int) + (1 : Int)) ∧ IntKind.i64.wrap ((↑i : Int) + (1 : Int)) < (↑n : Int)) then
      bif (f (IntKind.i64.wrap ((↑i : Int) + (1 : Int))).toNat).dash then
       some ((AV.bool true, []))
      else
       bif decide ((0 : Int) ≤ IntKind.i64.wrap ((↑i : Int) + (1 : Int)) ∧ IntKind.i64.wrap ((↑i : Int) + (1 : Int)) < (↑n : Int)) then
        some ((AV.bool !(f (IntKind.i64.wrap ((↑i : Int) + (1 : Int))).toNat).num, []))
       else
        none
     else
      none
   else
    some ((AV.bool false, []))
  else
   none := by kernel_rfl

structure X41s where
  n : Nat
  i : Nat
  f : Nat → Tok

def en41s : X41s → List AV := fun ⟨n, i, f⟩ => [.sl 3 n (rowT f), .int .i64 i]

def de41s : List AV → X41s
  | [.sl _ n f_g, .int .i64 i] => ⟨n, i.toNat, unT f_g⟩
  | _ => ⟨default, default, default⟩

def p41s : X41s → Prop := fun ⟨n, i, f⟩ => i < n ∧ n ≤ bnd

def rs41s : X41s → T AV := fun ⟨n, i, f⟩ => .leaf (.bool (goesF f n i))

noncomputable def c41s : List AV → T AV := ccon en41s de41s p41s rs41s

theorem in41s : ∀ x, de41s (en41s x) = x := by
  rintro ⟨n, i, f⟩
  simp only [en41s, de41s, Int.toNat_natCast, unT_rowT]

theorem k41s (n : Nat) (i : Nat) (f : Nat → Tok) (h : i < n ∧ n ≤ bnd) : isEn en41s p41s [.sl 3 n (rowT f), .int .i64 i] = true := isEn_true (enc := en41s) (p := p41s) ⟨n, i, f⟩ h

theorem e41s (n : Nat) (i : Nat) (f : Nat → Tok) (hF : FitsL [.sl 3 n (rowT f), .int .i64 i]) (hp : i < n ∧ n ≤ bnd) : (evn tabQ h41 noLoops 41 [.sl 3 n (rowT f), .int .i64 i] []).run = (.leaf (.bool (goesF f n i)) : T AV).run.map fun r => (r, []) := by
  refine (t41s n i f).trans ?_
  obtain ⟨h1, h3⟩ := hp
  simp only [bnd] at h3
  rw [w64n (by omega), in_row h1, nat_beqI]
  simp only [Int.toNat_natCast, cond_true]
  unfold goesF
  cases nullT (f i).num (f i).text with
  | false => rfl
  | true =>
    cases he : (i + 1 == n) with
    | true => rfl
    | false =>
      have : i + 1 ≠ n := by simpa using he
      rw [in_row (show i + 1 < n by omega)]
      cases (f (i + 1)).dash <;> rfl

theorem s41s : Sound1 Tryd.prog ⟨41, true, pcon c41s⟩ := by
  refine sound_c (soundTab_of all_tabQ) H0 in41s (hn := h41) (m := 20) (k := 9) (Λ := noLoops) (fun i hi => anyLoops) ?_
  rintro ⟨n, i, f⟩ hp hF
  exact e41s n i f hF hp

noncomputable def tabR : Tab := ⟨41, true, pcon c41s⟩ :: tabQ

theorem all_tabR : ∀ e, e ∈ tabR → Sound1 Tryd.prog e := (sound_mem_tab s41s all_tabQ)

theorem ok_tabR : SoundTab Tryd.prog tabR := soundTab_of all_tabR

def tokOk (f : Nat → Tok) (n i : Nat) : Bool :=
  bif (f i).num then
   !((f i).text == []) && (runD (f i).text 0 == ((f i).text.length : Int) && ((trimD (f i).text == (f i).text) && (!goesF f n i || n == 1)))
  else quaB (f i).text && !goesF f n i

/-- The first place that is not so. -/
def fbad (q : Nat → Bool) : Nat → Nat → Nat
  | 0, i => i
  | k + 1, i => bif q i then fbad q k (i + 1) else i

theorem fbad_step {q : Nat → Bool} {n i : Nat} (h : i < n) : fbad q (n - i) i = bif q i then fbad q (n - (i + 1)) (i + 1) else i := by
  obtain ⟨k, hk⟩ : ∃ k, n - i = k + 1 := ⟨n - i - 1, by omega⟩
  rw [hk, show n - (i + 1) = k by omega]
  rfl

structure Y19 where
  n : Nat
  f : Nat → Tok
  i : Nat

def eL19 : Y19 → List AV × Hp := fun ⟨n, f, i⟩ => ([.sl 3 n (rowT f), .sl 3 n (rowT f), .int .i64 n, .int .i64 i], [])

def dL19 : List AV × Hp → Y19
  | ([.sl _ n f_g, .sl _ _ _, .int .i64 _, .int .i64 i], []) => ⟨n, unT f_g, i.toNat⟩
  | _ => ⟨default, default, default⟩

def pL19 : Y19 → Prop := fun ⟨n, f, i⟩ => i ≤ n ∧ n ≤ bnd

def rL19 : Y19 → T (AX × St) := fun ⟨n, f, i⟩ => .br (decide (fbad (tokOk f n) (n - i) i < n)) (.leaf (.ret, { tm := tmOf 70 [(2, .bool false)], ms := [], hp := [some (.cells [.bool (f (fbad (tokOk f n) (n - i) i)).dash, .bool (f (fbad (tokOk f n) (n - i) i)).num, .str (f (fbad (tokOk f n) (n - i) i)).text])] })) (.leaf (.exit 0, { tm := tmOf 70 [(0, .sl 3 n (rowT f)), (14, .sl 3 n (rowT f)), (15, .int .i64 n), (16, .int .i64 n), (17, .bool false)], ms := [], hp := [] }))

noncomputable def L19 : LoopT := fun k => match Nat.beq k 400085 with
  | true => some (lccon (mbits 114689 70) eL19 dL19 pL19 rL19)
  | false => none

theorem iL19 : ∀ x, dL19 (eL19 x) = x := by
  rintro ⟨n, f, i⟩
  simp only [eL19, dL19, Int.toNat_natCast, unT_rowT]

theorem kL19 (n : Nat) (f : Nat → Tok) (i : Nat) (h : i ≤ n ∧ n ≤ bnd) : isEn eL19 pL19 ([.sl 3 n (rowT f), .sl 3 n (rowT f), .int .i64 n, .int .i64 i], []) = true := isEn_true (enc := eL19) (p := pL19) ⟨n, f, i⟩ h

theorem zL19 (n : Nat) (f : Nat → Tok) (h : pL19 ⟨n, f, 0⟩) : isEn eL19 pL19 ([.sl 3 n (rowT f), .sl 3 n (rowT f), .int .i64 n, .int .i64 (0 : Int)], []) = true := isEn_true (enc := eL19) (p := pL19) ⟨n, f, 0⟩ h

theorem q19 (n : Nat) (f : Nat → Tok) (i : Nat) : (rdn tabR h19 L19 19 0 0 { tm := encGo (mbits 114689 70) [.sl 3 n (rowT f), .sl 3 n (rowT f), .int .i64 n, .int .i64 i], ms := [], hp := [] }).run =
  bif decide ((↑i : Int) < (↑n : Int)) then
   bif decide ((0 : Int) ≤ (↑i : Int) ∧ (↑i : Int) < (↑n : Int)) then
    bif (f (↑i : Int).toNat).num then
     bif (f (↑i : Int).toNat).text == [] then
      some ((AX.ret, { tm := tmOf 70 [(2, AV.bool false)], ms := [], hp := [some (AObj.cells [AV.bool (f (↑i : Int).toNat).dash, AV.bool (f (↑i : Int).toNat).num, AV.str (f (↑i : Int).toNat).text])] }))
     else
      bif runD (f (↑i : Int).toNat).text (0 : Int) != (↑(f (↑i : Int).toNat).text.length : Int) then
       some ((AX.ret, { tm := tmOf 70 [(2, AV.bool false)], ms := [], hp := [some (AObj.cells [AV.bool (f (↑i : Int).toNat).dash, AV.bool (f (↑i : Int).toNat).num, AV.str (f (↑i : Int).toNat).text])] }))
      else
       bif !trimD (f (↑i : Int).toNat).text == (f (↑i : Int).toNat).text then
        some ((AX.ret, { tm := tmOf 70 [(2, AV.bool false)], ms := [], hp := [some (AObj.cells [AV.bool (f (↑i : Int).toNat).dash, AV.bool (f (↑i : Int).toNat).num, AV.str (f (↑i : Int).toNat).text])] }))
       else
        bif !(f (↑i : Int).toNat).num then
         bif !quaB (f (↑i : Int).toNat).text then
          some ((AX.ret, { tm := tmOf 70 [(2, AV.bool false)], ms := [], hp := [some (AObj.cells [AV.bool (f (↑i : Int).toNat).dash, AV.bool (f (↑i : Int).toNat).num, AV.str (f (↑i : Int).toNat).text])] }))
         else
          bif isEn en41s p41s [AV.sl 3 n (rowT f), AV.int IntKind.i64 (↑i : Int)] then
           bif goesF (unT (rowT f)) n (↑i : Int).toNat then
            bif (↑n : Int) == (1 : Int) then
             bif !(f (↑i : Int).toNat).num then
              some ((AX.ret, { tm := tmOf 70 [(2, AV.bool false)], ms := [], hp := [some (AObj.cells [AV.bool (f (↑i : Int).toNat).dash, AV.bool (f (↑i : Int).toNat).num, AV.str (f (↑i : Int).toNat).text])] }))
             else
              some ((AX.normal, { tm := tmOf 70 [(0, AV.sl 3 n (rowT f)), (14, AV.sl 3 n (rowT f)), (15, AV.int IntKind.i64 (↑n : Int)), (16, AV.int IntKind.i64 (IntKind.i64.wrap ((↑i : Int) + (1 : Int))))], ms := [], hp := [] }))
            else
             some ((AX.ret, { tm := tmOf 70 [(2, AV.bool false)], ms := [], hp := [some (AObj.cells [AV.bool (f (↑i : Int).toNat).dash, AV.bool (f (↑i : Int).toNat).num, AV.str (f (↑i : Int).toNat).text])] }))
           else
            some ((AX.normal, { tm := tmOf 70 [(0, AV.sl 3 n (rowT f)), (14, AV.sl 3 n (rowT f)), (15, AV.int IntKind.i64 (↑n : Int)), (16, AV.int IntKind.i64 (IntKind.i64.wrap ((↑i : Int) + (1 : Int))))], ms := [], hp := [] }))
          else
           none
        else
         bif isEn en41s p41s [AV.sl 3 n (rowT f), AV.int IntKind.i64 (↑i : Int)] then
          bif goesF (unT (rowT f)) n (↑i : Int).toNat then
           bif (↑n : Int) == (1 : Int) then
            bif !(f (↑i : Int).toNat).num then
             some ((AX.ret, { tm := tmOf 70 [(2, AV.bool false)], ms := [], hp := [some (AObj.cells [AV.bool (f (↑i : Int).toNat).dash, AV.bool (f (↑i : Int).toNat).num, AV.str (f (↑i : Int).toNat).text])] }))
            else
             some ((AX.normal, { tm := tmOf 70 [(0, AV.sl 3 n (rowT f)), (14, AV.sl 3 n (rowT f)), (15, AV.int IntKind.i64 (↑n : Int)), (16, AV.int IntKind.i64 (IntKind.i64.wrap ((↑i : Int) + (1 : Int))))], ms := [], hp := [] }))
           else
            some ((AX.ret, { tm := tmOf 70 [(2, AV.bool false)], ms := [], hp := [some (AObj.cells [AV.bool (f (↑i : Int).toNat).dash, AV.bool (f (↑i : Int).toNat).num, AV.str (f (↑i : Int).toNat).text])] }))
          else
           some ((AX.normal, { tm := tmOf 70 [(0, AV.sl 3 n (rowT f)), (14, AV.sl 3 n (rowT f)), (15, AV.int IntKind.i64 (↑n : Int)), (16, AV.int IntKind.i64 (IntKind.i64.wrap ((↑i : Int) + (1 : Int))))], ms := [], hp := [] }))
         else
          none
    else
     bif !(f (↑i : Int).toNat).num then
      bif !quaB (f (↑i : Int).toNat).text then
       some ((AX.ret, { tm := tmOf 70 [(2, AV.bool false)], ms := [], hp := [some (AObj.cells [AV.bool (f (↑i : Int).toNat).dash, AV.bool (f (↑i : Int).toNat).num, AV.str (f (↑i : Int).toNat).text])] }))
      else
       bif isEn en41s p41s [AV.sl 3 n (rowT f), AV.int IntKind.i64 (↑i : Int)] then
        bif goesF (unT (rowT f)) n (↑i : Int).toNat then
         bif (↑n : Int) == (1 : Int) then
          bif !(f (↑i : Int).toNat).num then
           some ((AX.ret, { tm := tmOf 70 [(2, AV.bool false)], ms := [], hp := [some (AObj.cells [AV.bool (f (↑i : Int).toNat).dash, AV.bool (f (↑i : Int).toNat).num, AV.str (f (↑i : Int).toNat).text])] }))
          else
           some ((AX.normal, { tm := tmOf 70 [(0, AV.sl 3 n (rowT f)), (14, AV.sl 3 n (rowT f)), (15, AV.int IntKind.i64 (↑n : Int)), (16, AV.int IntKind.i64 (IntKind.i64.wrap ((↑i : Int) + (1 : Int))))], ms := [], hp := [] }))
         else
          some ((AX.ret, { tm := tmOf 70 [(2, AV.bool false)], ms := [], hp := [some (AObj.cells [AV.bool (f (↑i : Int).toNat).dash, AV.bool (f (↑i : Int).toNat).num, AV.str (f (↑i : Int).toNat).text])] }))
        else
         some ((AX.normal, { tm := tmOf 70 [(0, AV.sl 3 n (rowT f)), (14, AV.sl 3 n (rowT f)), (15, AV.int IntKind.i64 (↑n : Int)), (16, AV.int IntKind.i64 (IntKind.i64.wrap ((↑i : Int) + (1 : Int))))], ms := [], hp := [] }))
       else
        none
     else
      bif isEn en41s p41s [AV.sl 3 n (rowT f), AV.int IntKind.i64 (↑i : Int)] then
       bif goesF (unT (rowT f)) n (↑i : Int).toNat then
        bif (↑n : Int) == (1 : Int) then
         bif !(f (↑i : Int).toNat).num then
          some ((AX.ret, { tm := tmOf 70 [(2, AV.bool false)], ms := [], hp := [some (AObj.cells [AV.bool (f (↑i : Int).toNat).dash, AV.bool (f (↑i : Int).toNat).num, AV.str (f (↑i : Int).toNat).text])] }))
         else
          some ((AX.normal, { tm := tmOf 70 [(0, AV.sl 3 n (rowT f)), (14, AV.sl 3 n (rowT f)), (15, AV.int IntKind.i64 (↑n : Int)), (16, AV.int IntKind.i64 (IntKind.i64.wrap ((↑i : Int) + (1 : Int))))], ms := [], hp := [] }))
        else
         some ((AX.ret, { tm := tmOf 70 [(2, AV.bool false)], ms := [], hp := [some (AObj.cells [AV.bool (f (↑i : Int).toNat).dash, AV.bool (f (↑i : Int).toNat).num, AV.str (f (↑i : Int).toNat).text])] }))
       else
        some ((AX.normal, { tm := tmOf 70 [(0, AV.sl 3 n (rowT f)), (14, AV.sl 3 n (rowT f)), (15, AV.int IntKind.i64 (↑n : Int)), (16, AV.int IntKind.i64 (IntKind.i64.wrap ((↑i : Int) + (1 : Int))))], ms := [], hp := [] }))
      else
       none
   else
    none
  else
   some ((AX.exit 0, { tm := tmOf 70 [(0, AV.sl 3 n (rowT f)), (14, AV.sl 3 n (rowT f)), (15, AV.int IntKind.i64 (↑n : Int)), (16, AV.int IntKind.i64 (↑i : Int)), (17, AV.bool false)], ms := [], hp := [] })) := by kernel_rfl

theorem l19 : LoopOk Tryd.prog tabR.pf (fun n => hd Tryd.prog tabR.pf tabR.con.run (fun f => (H0 f).to) n 9) h19.to 19 0 none L19 (loopAt Tryd.prog 19 0) := by
  rw [show loopAt Tryd.prog 19 0 = .loop (lbody Tryd.prog 19 0) by kernel_rfl]
  refine loop_c (hdT_le (m := 20) 9) (m := 20) (lv := mbits 114689 70) (p := pL19) (res := rL19) iL19 (within_of _ (by rw [show loopsOf (lbody Tryd.prog 19 0) = [] by kernel_rfl]; simp)) (by kernel_rfl) (fun ⟨n, f, i⟩ => n - i) ?_
  rintro ⟨n, f, i⟩ hp
  have ht := q19 n f i
  obtain ⟨h1, h2⟩ := hp
  have hb := h2
  simp only [bnd] at hb
  by_cases hl : i < n
  · rw [decide_eq_true (show (i : Int) < n by omega), in_row hl, w64n (by omega), Int.toNat_natCast, k41s n i f ⟨hl, h2⟩, unT_rowT] at ht
    simp only [cond_true] at ht
    have e1 : ((n : Int) == 1) = (n == 1) := nat_beqI n 1
    rw [e1, show (runD (f i).text 0 != ((f i).text.length : Int)) = !(runD (f i).text 0 == ((f i).text.length : Int)) from rfl] at ht
    have key : (rdn tabR h19 L19 19 0 0 { tm := encGo (mbits 114689 70) [.sl 3 n (rowT f), .sl 3 n (rowT f), .int .i64 n, .int .i64 i], ms := [], hp := [] }).run =
        bif tokOk f n i then some (.normal, { tm := encGo (mbits 114689 70) [.sl 3 n (rowT f), .sl 3 n (rowT f), .int .i64 n, .int .i64 (i + 1 : Nat)], ms := [], hp := [] })
        else some (.ret, { tm := tmOf 70 [(2, .bool false)], ms := [], hp := [some (.cells [.bool (f i).dash, .bool (f i).num, .str (f i).text])] }) := by
      refine ht.trans ?_
      unfold tokOk
      generalize goesF f n i = g
      generalize quaB (f i).text = qa
      generalize (runD (f i).text 0 == ((f i).text.length : Int)) = ru
      generalize (trimD (f i).text == (f i).text) = tr
      generalize ((f i).text == []) = em
      generalize (n == 1) = one
      cases (f i).num <;> cases g <;> cases qa <;> cases ru <;> cases tr <;> cases em <;> cases one <;> rfl
    have hd := fbad_step (q := tokOk f n) hl
    cases hq : tokOk f n i with
    | true =>
      rw [hq, cond_true] at hd key
      left
      refine ⟨⟨n, f, i + 1⟩, ⟨by omega, h2⟩, by simp only; omega, ?_, key⟩
      simp only [rL19, T.run_br, hd]
    | false =>
      rw [hq, cond_false] at hd key
      right
      refine ⟨_, ?_, ?_, key⟩
      · simp
      · simp only [rL19, T.run_br, hd, decide_eq_true hl] <;> rfl
  · have he : i = n := by omega
    right
    subst he
    rw [decide_eq_false (show ¬ (i : Int) < i by omega)] at ht
    refine ⟨_, ?_, ?_, ht⟩
    · simp
    · simp only [rL19, T.run_br, Nat.sub_self, fbad, decide_eq_false (Nat.lt_irrefl i)] <;> rfl

def fitT (f : Nat → Tok) (n : Nat) : Bool := bif n == 0 then false else bif (f 0).dash then false else decide (¬ fbad (tokOk f n) n 0 < n)

theorem t19 (n : Nat) (f : Nat → Tok) : (evn tabR h19 L19 19 [.sl 3 n (rowT f)] []).run =
  bif (↑n : Int) == (0 : Int) then
   some ((AV.bool false, []))
  else
   bif decide ((0 : Int) ≤ (0 : Int) ∧ (0 : Int) < (↑n : Int)) then
    bif (f 0).dash then
     some ((AV.bool false, []))
    else
     bif isEn eL19 pL19 ([AV.sl 3 n (rowT f), AV.sl 3 n (rowT f), AV.int IntKind.i64 (↑n : Int), AV.int IntKind.i64 (0 : Int)], []) then
      bif decide (fbad (tokOk (unT (rowT f)) n) (n - 0) 0 < n) then
       some ((AV.bool false, []))
      else
       some ((AV.bool true, []))
     else
      none
   else
    none := by kernel_rfl

structure X19 where
  n : Nat
  f : Nat → Tok

def en19 : X19 → List AV := fun ⟨n, f⟩ => [.sl 3 n (rowT f)]

def de19 : List AV → X19
  | [.sl _ n f_g] => ⟨n, unT f_g⟩
  | _ => ⟨default, default⟩

def p19 : X19 → Prop := fun ⟨n, f⟩ => n ≤ bnd

def rs19 : X19 → T AV := fun ⟨n, f⟩ => .leaf (.bool (fitT f n))

noncomputable def c19 : List AV → T AV := ccon en19 de19 p19 rs19

theorem in19 : ∀ x, de19 (en19 x) = x := by
  rintro ⟨n, f⟩
  simp only [en19, de19, Int.toNat_natCast, unT_rowT]

theorem k19 (n : Nat) (f : Nat → Tok) (h : n ≤ bnd) : isEn en19 p19 [.sl 3 n (rowT f)] = true := isEn_true (enc := en19) (p := p19) ⟨n, f⟩ h

theorem e19 (n : Nat) (f : Nat → Tok) (hF : FitsL [.sl 3 n (rowT f)]) (hp : n ≤ bnd) : (evn tabR h19 L19 19 [.sl 3 n (rowT f)] []).run = (.leaf (.bool (fitT f n)) : T AV).run.map fun r => (r, []) := by
  refine (t19 n f).trans ?_
  have e0 : ((n : Int) == 0) = (n == 0) := nat_beqI n 0
  rw [e0]
  unfold fitT
  cases hz : (n == 0) with
  | true => rfl
  | false =>
    have hpos : n ≠ 0 := by simpa using hz
    rw [cond_false, decide_eq_true (show (0 : Int) ≤ 0 ∧ (0 : Int) < (n : Int) by omega), cond_true]
    cases (f 0).dash with
    | true => rfl
    | false =>
      rw [cond_false, cond_chk (zL19 n f ⟨Nat.zero_le _, hp⟩), unT_rowT, Nat.sub_zero]
      by_cases hb : fbad (tokOk f n) n 0 < n
      · rw [decide_eq_true hb, decide_eq_false (fun q => q hb)]
        rfl
      · rw [decide_eq_false hb, decide_eq_true hb]
        rfl

theorem s19 : Sound1 Tryd.prog ⟨19, true, pcon c19⟩ := by
  refine sound_c (soundTab_of all_tabR) H0 in19 (hn := h19) (m := 20) (k := 9) (Λ := L19) (oneLoop (by kernel_rfl) l19) ?_
  rintro ⟨n, f⟩ hp hF
  exact e19 n f hF hp

noncomputable def tabS : Tab := ⟨19, true, pcon c19⟩ :: tabR

theorem all_tabS : ∀ e, e ∈ tabS → Sound1 Tryd.prog e := (sound_mem_tab s19 all_tabR)

theorem ok_tabS : SoundTab Tryd.prog tabS := soundTab_of all_tabS
end Go.Mvn
namespace Go.Mvn

open Go Go.Proofs Go.Ab

set_option maxRecDepth 100000

set_option linter.unusedVariables false

set_option linter.unusedSimpArgs false

/-! ### Order -/

def padF (f : Nat → Tok) (n i : Nat) : Tok := if i < n then f i else zeroT

def ordTT (a b : Tok) (first : Bool) : Int := ordT a.dash a.num a.text b.dash b.num b.text first

def eqO (f g : Nat → Tok) (n m i : Nat) : Bool := ordTT (padF f n i) (padF g m i) (i == 0) == 0

structure Y21 where
  n : Nat
  m : Nat
  M : Nat
  f : Nat → Tok
  g : Nat → Tok
  i : Nat

def eL21 : Y21 → List AV × Hp := fun ⟨n, m, M, f, g, i⟩ => ([.sl 3 n (rowT f), .sl 3 m (rowT g), .int .i64 M, .int .i64 i], [])

def dL21 : List AV × Hp → Y21
  | ([.sl _ n f_g, .sl _ m g_g, .int .i64 M, .int .i64 i], []) => ⟨n, m, M.toNat, unT f_g, unT g_g, i.toNat⟩
  | _ => ⟨default, default, default, default, default, default⟩

def pL21 : Y21 → Prop := fun ⟨n, m, M, f, g, i⟩ => i ≤ M ∧ M ≤ bnd

def rL21 : Y21 → T (AX × St) := fun ⟨n, m, M, f, g, i⟩ => .br (decide (fbad (eqO f g n m) (M - i) i < M)) (.leaf (.ret, { tm := tmOf 50 [(4, .int .i64 (ordTT (padF f n (fbad (eqO f g n m) (M - i) i)) (padF g m (fbad (eqO f g n m) (M - i) i)) (fbad (eqO f g n m) (M - i) i == 0)))], ms := [], hp := [some (.cells [.bool (padF f n (fbad (eqO f g n m) (M - i) i)).dash, .bool (padF f n (fbad (eqO f g n m) (M - i) i)).num, .str (padF f n (fbad (eqO f g n m) (M - i) i)).text]), some (.cells [.bool (padF g m (fbad (eqO f g n m) (M - i) i)).dash, .bool (padF g m (fbad (eqO f g n m) (M - i) i)).num, .str (padF g m (fbad (eqO f g n m) (M - i) i)).text])] })) (.leaf (.exit 0, { tm := tmOf 50 [(0, .sl 3 n (rowT f)), (1, .sl 3 m (rowT g)), (21, .int .i64 M), (22, .int .i64 M), (23, .bool false)], ms := [], hp := [] }))

noncomputable def L21 : LoopT := fun k => match Nat.beq k 400069 with
  | true => some (lccon (mbits 6291459 50) eL21 dL21 pL21 rL21)
  | false => none

theorem iL21 : ∀ x, dL21 (eL21 x) = x := by
  rintro ⟨n, m, M, f, g, i⟩
  simp only [eL21, dL21, Int.toNat_natCast, unT_rowT]

theorem kL21 (n : Nat) (m : Nat) (M : Nat) (f : Nat → Tok) (g : Nat → Tok) (i : Nat) (h : i ≤ M ∧ M ≤ bnd) : isEn eL21 pL21 ([.sl 3 n (rowT f), .sl 3 m (rowT g), .int .i64 M, .int .i64 i], []) = true := isEn_true (enc := eL21) (p := pL21) ⟨n, m, M, f, g, i⟩ h

theorem zL21 (n : Nat) (m : Nat) (M : Nat) (f : Nat → Tok) (g : Nat → Tok) (h : pL21 ⟨n, m, M, f, g, 0⟩) : isEn eL21 pL21 ([.sl 3 n (rowT f), .sl 3 m (rowT g), .int .i64 M, .int .i64 (0 : Int)], []) = true := isEn_true (enc := eL21) (p := pL21) ⟨n, m, M, f, g, 0⟩ h

theorem q21 (n : Nat) (m : Nat) (M : Nat) (f : Nat → Tok) (g : Nat → Tok) (i : Nat) : (rdn tabS h21 L21 21 0 0 { tm := encGo (mbits 6291459 50) [.sl 3 n (rowT f), .sl 3 m (rowT g), .int .i64 M, .int .i64 i], ms := [], hp := [] }).run =
  bif decide ((↑i : Int) < (↑M : Int)) then
   bif decide ((↑i : Int) < (↑n : Int)) then
    bif decide ((0 : Int) ≤ (↑i : Int) ∧ (↑i : Int) < (↑n : Int)) then
     bif decide ((↑i : Int) < (↑m : Int)) then
      bif decide ((0 : Int) ≤ (↑i : Int) ∧ (↑i : Int) < (↑m : Int)) then
       bif ordT (f (↑i : Int).toNat).dash (f (↑i : Int).toNat).num (f (↑i : Int).toNat).text (g (↑i : Int).toNat).dash (g (↑i : Int).toNat).num (g (↑i : Int).toNat).text ((↑i : Int) == (0 : Int)) != (0 : Int) then
        some ((AX.ret, { tm := tmOf 50 [(4, AV.int IntKind.i64 (ordT (f (↑i : Int).toNat).dash (f (↑i : Int).toNat).num (f (↑i : Int).toNat).text (g (↑i : Int).toNat).dash (g (↑i : Int).toNat).num (g (↑i : Int).toNat).text ((↑i : Int) == (0 : Int))))], ms := [], hp := [some (AObj.cells [AV.bool (f (↑i : Int).toNat).dash, AV.bool (f (↑i : Int).toNat).num, AV.str (f (↑i : Int).toNat).text]), some (AObj.cells [AV.bool (g (↑i : Int).toNat).dash, AV.bool (g (↑i : Int).toNat).num, AV.str (g (↑i : Int).toNat).text])] }))
       else
        some ((AX.normal, { tm := tmOf 50 [(0, AV.sl 3 n (rowT f)), (1, AV.sl 3 m (rowT g)), (21, AV.int IntKind.i64 (↑M : Int)), (22, AV.int IntKind.i64 (IntKind.i64.wrap ((↑i : Int) + (1 : Int))))], ms := [], hp := [] }))
      else
       none
     else
      bif ordT (f (↑i : Int).toNat).dash (f (↑i : Int).toNat).num (f (↑i : Int).toNat).text false false [] ((↑i : Int) == (0 : Int)) != (0 : Int) then
       some ((AX.ret, { tm := tmOf 50 [(4, AV.int IntKind.i64 (ordT (f (↑i : Int).toNat).dash (f (↑i : Int).toNat).num (f (↑i : Int).toNat).text false false [] ((↑i : Int) == (0 : Int))))], ms := [], hp := [some (AObj.cells [AV.bool (f (↑i : Int).toNat).dash, AV.bool (f (↑i : Int).toNat).num, AV.str (f (↑i : Int).toNat).text]), some (AObj.cells [AV.bool false, AV.bool false, AV.str []])] }))
      else
       some ((AX.normal, { tm := tmOf 50 [(0, AV.sl 3 n (rowT f)), (1, AV.sl 3 m (rowT g)), (21, AV.int IntKind.i64 (↑M : Int)), (22, AV.int IntKind.i64 (IntKind.i64.wrap ((↑i : Int) + (1 : Int))))], ms := [], hp := [] }))
    else
     none
   else
    bif decide ((↑i : Int) < (↑m : Int)) then
     bif decide ((0 : Int) ≤ (↑i : Int) ∧ (↑i : Int) < (↑m : Int)) then
      bif ordT false false [] (g (↑i : Int).toNat).dash (g (↑i : Int).toNat).num (g (↑i : Int).toNat).text ((↑i : Int) == (0 : Int)) != (0 : Int) then
       some ((AX.ret, { tm := tmOf 50 [(4, AV.int IntKind.i64 (ordT false false [] (g (↑i : Int).toNat).dash (g (↑i : Int).toNat).num (g (↑i : Int).toNat).text ((↑i : Int) == (0 : Int))))], ms := [], hp := [some (AObj.cells [AV.bool false, AV.bool false, AV.str []]), some (AObj.cells [AV.bool (g (↑i : Int).toNat).dash, AV.bool (g (↑i : Int).toNat).num, AV.str (g (↑i : Int).toNat).text])] }))
      else
       some ((AX.normal, { tm := tmOf 50 [(0, AV.sl 3 n (rowT f)), (1, AV.sl 3 m (rowT g)), (21, AV.int IntKind.i64 (↑M : Int)), (22, AV.int IntKind.i64 (IntKind.i64.wrap ((↑i : Int) + (1 : Int))))], ms := [], hp := [] }))
     else
      none
    else
     some ((AX.normal, { tm := tmOf 50 [(0, AV.sl 3 n (rowT f)), (1, AV.sl 3 m (rowT g)), (21, AV.int IntKind.i64 (↑M : Int)), (22, AV.int IntKind.i64 (IntKind.i64.wrap ((↑i : Int) + (1 : Int))))], ms := [], hp := [] }))
  else
   some ((AX.exit 0, { tm := tmOf 50 [(0, AV.sl 3 n (rowT f)), (1, AV.sl 3 m (rowT g)), (21, AV.int IntKind.i64 (↑M : Int)), (22, AV.int IntKind.i64 (↑i : Int)), (23, AV.bool false)], ms := [], hp := [] })) := by kernel_rfl

theorem l21 : LoopOk Tryd.prog tabS.pf (fun n => hd Tryd.prog tabS.pf tabS.con.run (fun f => (H0 f).to) n 9) h21.to 21 0 none L21 (loopAt Tryd.prog 21 0) := by
  rw [show loopAt Tryd.prog 21 0 = .loop (lbody Tryd.prog 21 0) by kernel_rfl]
  refine loop_c (hdT_le (m := 20) 9) (m := 20) (lv := mbits 6291459 50) (p := pL21) (res := rL21) iL21 (within_of _ (by rw [show loopsOf (lbody Tryd.prog 21 0) = [] by kernel_rfl]; simp)) (by kernel_rfl) (fun ⟨n, m, M, f, g, i⟩ => M - i) ?_
  rintro ⟨n, m, M, f, g, i⟩ hp
  have ht := q21 n m M f g i
  obtain ⟨h1, h2⟩ := hp
  have hb := h2
  simp only [bnd] at hb
  by_cases hl : i < M
  · have e1 : ((i : Int) == 0) = (i == 0) := nat_beqI i 0
    rw [decide_eq_true (show (i : Int) < M by omega), w64n (by omega), Int.toNat_natCast, e1] at ht
    simp only [cond_true] at ht
    have key : (rdn tabS h21 L21 21 0 0 { tm := encGo (mbits 6291459 50) [.sl 3 n (rowT f), .sl 3 m (rowT g), .int .i64 M, .int .i64 i], ms := [], hp := [] }).run =
        bif eqO f g n m i then some (.normal, { tm := encGo (mbits 6291459 50) [.sl 3 n (rowT f), .sl 3 m (rowT g), .int .i64 M, .int .i64 (i + 1 : Nat)], ms := [], hp := [] })
        else some (.ret, { tm := tmOf 50 [(4, .int .i64 (ordTT (padF f n i) (padF g m i) (i == 0)))], ms := [], hp := [some (.cells [.bool (padF f n i).dash, .bool (padF f n i).num, .str (padF f n i).text]), some (.cells [.bool (padF g m i).dash, .bool (padF g m i).num, .str (padF g m i).text])] }) := by
      refine ht.trans ?_
      unfold eqO padF
      by_cases hn : i < n
      · rw [decide_eq_true (show (i : Int) < n by omega), in_row hn, if_pos hn]
        simp only [cond_true]
        by_cases hm : i < m
        · rw [decide_eq_true (show (i : Int) < m by omega), in_row hm, if_pos hm]
          simp only [cond_true]
          rw [show (ordT (f i).dash (f i).num (f i).text (g i).dash (g i).num (g i).text (i == 0) != 0) = !(ordTT (f i) (g i) (i == 0) == 0) from rfl]
          cases hq : (ordTT (f i) (g i) (i == 0) == 0) <;> rfl
        · rw [decide_eq_false (show ¬ (i : Int) < m by omega), if_neg hm]
          simp only [cond_false]
          rw [show (ordT (f i).dash (f i).num (f i).text false false [] (i == 0) != 0) = !(ordTT (f i) zeroT (i == 0) == 0) from rfl]
          cases hq : (ordTT (f i) zeroT (i == 0) == 0) <;> rfl
      · rw [decide_eq_false (show ¬ (i : Int) < n by omega), if_neg hn]
        simp only [cond_false]
        by_cases hm : i < m
        · rw [decide_eq_true (show (i : Int) < m by omega), in_row hm, if_pos hm]
          simp only [cond_true]
          rw [show (ordT false false [] (g i).dash (g i).num (g i).text (i == 0) != 0) = !(ordTT zeroT (g i) (i == 0) == 0) from rfl]
          cases hq : (ordTT zeroT (g i) (i == 0) == 0) <;> rfl
        · rw [decide_eq_false (show ¬ (i : Int) < m by omega), if_neg hm]
          simp only [cond_false]
          cases (i == 0) <;> rfl
    have hd := fbad_step (q := eqO f g n m) hl
    cases hq : eqO f g n m i with
    | true =>
      rw [hq, cond_true] at hd key
      left
      refine ⟨⟨n, m, M, f, g, i + 1⟩, ⟨by omega, h2⟩, by simp only; omega, ?_, key⟩
      simp only [rL21, T.run_br, hd]
    | false =>
      rw [hq, cond_false] at hd key
      right
      refine ⟨_, ?_, ?_, key⟩
      · simp
      · simp only [rL21, T.run_br, hd, decide_eq_true hl] <;> rfl
  · have he : i = M := by omega
    right
    subst he
    rw [decide_eq_false (show ¬ (i : Int) < i by omega)] at ht
    refine ⟨_, ?_, ?_, ht⟩
    · simp
    · simp only [rL21, T.run_br, Nat.sub_self, fbad, decide_eq_false (Nat.lt_irrefl i)] <;> rfl

def ordL (f : Nat → Tok) (n : Nat) (g : Nat → Tok) (m : Nat) : Int := bif fitT f n then bif fitT g m then
    bif decide (fbad (eqO f g n m) (max n m) 0 < max n m) then ordTT (padF f n (fbad (eqO f g n m) (max n m) 0)) (padF g m (fbad (eqO f g n m) (max n m) 0)) (fbad (eqO f g n m) (max n m) 0 == 0) else 0
  else 0 else 0

theorem max_int (n m : Nat) : (if true = true then if (m : Int) > (n : Int) then (m : Int) else (n : Int) else if (m : Int) < (n : Int) then (m : Int) else (n : Int)) = ((max n m : Nat) : Int) := by
  simp only [if_true]
  split <;> omega

theorem t21 (n : Nat) (m : Nat) (f : Nat → Tok) (g : Nat → Tok) : (evn tabS h21 L21 21 [.sl 3 n (rowT f), .sl 3 m (rowT g)] []).run =
  bif isEn en19 p19 [AV.sl 3 n (rowT f)] then
   bif !fitT (unT (rowT f)) n then
    some ((AV.int IntKind.i64 (0 : Int), []))
   else
    bif isEn en19 p19 [AV.sl 3 m (rowT g)] then
     bif !fitT (unT (rowT g)) m then
      some ((AV.int IntKind.i64 (0 : Int), []))
     else
      bif isEn eL21 pL21 ([AV.sl 3 n (rowT f), AV.sl 3 m (rowT g), AV.int IntKind.i64 (if true = true then if (↑m : Int) > (↑n : Int) then (↑m : Int) else (↑n : Int) else if (↑m : Int) < (↑n : Int) then (↑m : Int) else (↑n : Int)), AV.int IntKind.i64 (0 : Int)], []) then
       bif decide (fbad (eqO (unT (rowT f)) (unT (rowT g)) n m) ((if true = true then if (↑m : Int) > (↑n : Int) then (↑m : Int) else (↑n : Int) else if (↑m : Int) < (↑n : Int) then (↑m : Int) else (↑n : Int)).toNat - 0) 0 < (if true = true then if (↑m : Int) > (↑n : Int) then (↑m : Int) else (↑n : Int) else if (↑m : Int) < (↑n : Int) then (↑m : Int) else (↑n : Int)).toNat) then
        some ((AV.int IntKind.i64 (ordTT (padF (unT (rowT f)) n (fbad (eqO (unT (rowT f)) (unT (rowT g)) n m) ((if true = true then if (↑m : Int) > (↑n : Int) then (↑m : Int) else (↑n : Int) else if (↑m : Int) < (↑n : Int) then (↑m : Int) else (↑n : Int)).toNat - 0) 0)) (padF (unT (rowT g)) m (fbad (eqO (unT (rowT f)) (unT (rowT g)) n m) ((if true = true then if (↑m : Int) > (↑n : Int) then (↑m : Int) else (↑n : Int) else if (↑m : Int) < (↑n : Int) then (↑m : Int) else (↑n : Int)).toNat - 0) 0)) (fbad (eqO (unT (rowT f)) (unT (rowT g)) n m) ((if true = true then if (↑m : Int) > (↑n : Int) then (↑m : Int) else (↑n : Int) else if (↑m : Int) < (↑n : Int) then (↑m : Int) else (↑n : Int)).toNat - 0) 0 == 0)), []))
       else
        some ((AV.int IntKind.i64 (0 : Int), []))
      else
       none
    else
     none
  else
   none := by kernel_rfl

structure X21 where
  n : Nat
  m : Nat
  f : Nat → Tok
  g : Nat → Tok

def en21 : X21 → List AV := fun ⟨n, m, f, g⟩ => [.sl 3 n (rowT f), .sl 3 m (rowT g)]

def de21 : List AV → X21
  | [.sl _ n f_g, .sl _ m g_g] => ⟨n, m, unT f_g, unT g_g⟩
  | _ => ⟨default, default, default, default⟩

def p21 : X21 → Prop := fun ⟨n, m, f, g⟩ => n ≤ bnd ∧ m ≤ bnd

def rs21 : X21 → T AV := fun ⟨n, m, f, g⟩ => .leaf (.int .i64 (ordL f n g m))

noncomputable def c21 : List AV → T AV := ccon en21 de21 p21 rs21

theorem in21 : ∀ x, de21 (en21 x) = x := by
  rintro ⟨n, m, f, g⟩
  simp only [en21, de21, Int.toNat_natCast, unT_rowT]

theorem k21 (n : Nat) (m : Nat) (f : Nat → Tok) (g : Nat → Tok) (h : n ≤ bnd ∧ m ≤ bnd) : isEn en21 p21 [.sl 3 n (rowT f), .sl 3 m (rowT g)] = true := isEn_true (enc := en21) (p := p21) ⟨n, m, f, g⟩ h

theorem e21 (n : Nat) (m : Nat) (f : Nat → Tok) (g : Nat → Tok) (hF : FitsL [.sl 3 n (rowT f), .sl 3 m (rowT g)]) (hp : n ≤ bnd ∧ m ≤ bnd) : (evn tabS h21 L21 21 [.sl 3 n (rowT f), .sl 3 m (rowT g)] []).run = (.leaf (.int .i64 (ordL f n g m)) : T AV).run.map fun r => (r, []) := by
  refine (t21 n m f g).trans ?_
  obtain ⟨h1, h2⟩ := hp
  rw [k19 n f h1, k19 m g h2, max_int, cond_true, unT_rowT, unT_rowT]
  unfold ordL
  cases fitT f n with
  | false => rfl
  | true =>
    cases fitT g m with
    | false => rfl
    | true =>
      simp only [cond_true, Bool.not_true, cond_false]
      rw [cond_chk (zL21 n m (max n m) f g ⟨Nat.zero_le _, by simp only [bnd] at h1 h2 ⊢; omega⟩)]
      simp only [Int.toNat_natCast, Nat.sub_zero]
      cases decide (fbad (eqO f g n m) (max n m) 0 < max n m) <;> rfl

theorem s21 : Sound1 Tryd.prog ⟨21, true, pcon c21⟩ := by
  refine sound_c (soundTab_of all_tabS) H0 in21 (hn := h21) (m := 20) (k := 9) (Λ := L21) (oneLoop (by kernel_rfl) l21) ?_
  rintro ⟨n, m, f, g⟩ hp hF
  exact e21 n m f g hF hp

noncomputable def tabU : Tab := ⟨21, true, pcon c21⟩ :: ⟨8, true, pcon c8⟩ :: tabS

theorem all_tabU : ∀ e, e ∈ tabU → Sound1 Tryd.prog e := (sound_mem_tab s21 (sound_mem_tab s8 all_tabS))

theorem ok_tabU : SoundTab Tryd.prog tabU := soundTab_of all_tabU
end Go.Mvn
namespace Go.Mvn

open Go Go.Proofs Go.Ab

set_option maxRecDepth 100000

set_option linter.unusedVariables false

set_option linter.unusedSimpArgs false

/-! ### Compare -/

def okT (s : List UInt8) : Bool := !decide ((s.length : Int) > 64) && (!(s == []) && !decide (fxN vb s 0 < s.length))

def cmpM (a b : List UInt8) : Int := bif okT a then bif okT b then ordL (tokF a) (tokL a) (tokF b) (tokL b) else 1 else bif okT b then -1 else Lib.compareBytes a b

theorem tokL_le {s : List UInt8} (h : decide ((s.length : Int) > 64) = false) : tokL s ≤ bnd := by
  have h1 := of_decide_eq_false h
  have h2 := tokC_le s
  have h3 : (trim8 s).2 ≤ tokC s := trimR_le _ _ _
  simp only [bnd]
  unfold tokL
  cases (trim8 s).2.beq 0 <;> simp <;> omega

theorem t18 (a : List UInt8) (b : List UInt8) : (evn tabU h18 noLoops 18 [.str a, .str b] []).run =
  bif decide ((↑a.length : Int) > (64 : Int)) then
   bif decide ((↑b.length : Int) > (64 : Int)) then
    some ((AV.int IntKind.i64 (Lib.compareBytes a b), []))
   else
    bif b == [] then
     some ((AV.int IntKind.i64 (Lib.compareBytes a b), []))
    else
     bif decide (fxN vb b 0 < b.length) then
      some ((AV.int IntKind.i64 (Lib.compareBytes a b), []))
     else
      some ((AV.int IntKind.i64 (-1 : Int), []))
  else
   bif a == [] then
    bif decide ((↑b.length : Int) > (64 : Int)) then
     some ((AV.int IntKind.i64 (Lib.compareBytes a b), []))
    else
     bif b == [] then
      some ((AV.int IntKind.i64 (Lib.compareBytes a b), []))
     else
      bif decide (fxN vb b 0 < b.length) then
       some ((AV.int IntKind.i64 (Lib.compareBytes a b), []))
      else
       some ((AV.int IntKind.i64 (-1 : Int), []))
   else
    bif decide (fxN vb a 0 < a.length) then
     bif decide ((↑b.length : Int) > (64 : Int)) then
      some ((AV.int IntKind.i64 (Lib.compareBytes a b), []))
     else
      bif b == [] then
       some ((AV.int IntKind.i64 (Lib.compareBytes a b), []))
      else
       bif decide (fxN vb b 0 < b.length) then
        some ((AV.int IntKind.i64 (Lib.compareBytes a b), []))
       else
        some ((AV.int IntKind.i64 (-1 : Int), []))
    else
     bif decide ((↑b.length : Int) > (64 : Int)) then
      some ((AV.int IntKind.i64 (1 : Int), []))
     else
      bif b == [] then
       some ((AV.int IntKind.i64 (1 : Int), []))
      else
       bif decide (fxN vb b 0 < b.length) then
        some ((AV.int IntKind.i64 (1 : Int), []))
       else
        bif isEn en21 p21 [AV.sl 3 (tokL a) (rowT (tokF a)), AV.sl 3 (tokL b) (rowT (tokF b))] then
         some ((AV.int IntKind.i64 (ordL (unT (rowT (tokF a))) (tokL a) (unT (rowT (tokF b))) (tokL b)), []))
        else
         none := by kernel_rfl

def c18 : List AV → T AV
  | [.str a, .str b] => .leaf (.int .i64 (cmpM a b))
  | _ => .fail

theorem e18 (a : List UInt8) (b : List UInt8) (hF : FitsL [.str a, .str b]) : (evn tabU h18 noLoops 18 [.str a, .str b] []).run = (.leaf (.int .i64 (cmpM a b)) : T AV).run.map fun r => (r, []) := by
  refine (t18 a b).trans ?_
  rw [unT_rowT, unT_rowT]
  unfold cmpM okT
  cases h1 : decide ((a.length : Int) > 64) <;> cases h2 : decide ((b.length : Int) > 64) <;> cases (a == []) <;> cases (b == []) <;> cases decide (fxN vb a 0 < a.length) <;> cases decide (fxN vb b 0 < b.length) <;> try rfl
  simp only [cond_false]
  rw [cond_chk (k21 (tokL a) (tokL b) (tokF a) (tokF b) ⟨tokL_le h1, tokL_le h2⟩)]
  rfl

theorem s18 : Sound1 Tryd.prog ⟨18, true, pcon c18⟩ := by
  refine sound_pureH (m := 20) (k := 9) (hn := h18) (Λ := noLoops) (soundTab_of all_tabU) H0 (fun i hi => anyLoops) fun args r hF h => ?_
  unfold c18 at h
  split at h
  · rename_i a b
    have he := e18 a b hF
    rw [he, h]; rfl
  · cases h

noncomputable def tabV : Tab := ⟨18, true, pcon c18⟩ :: tabU

theorem all_tabV : ∀ e, e ∈ tabV → Sound1 Tryd.prog e := (sound_mem_tab s18 all_tabU)

theorem ok_tabV : SoundTab Tryd.prog tabV := soundTab_of all_tabV
end Go.Mvn

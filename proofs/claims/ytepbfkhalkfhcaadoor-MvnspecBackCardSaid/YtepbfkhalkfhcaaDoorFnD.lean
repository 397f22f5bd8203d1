/- Lemmas for the claims of this seat (a verified symbolic evaluator, and contracts of functions): own work; no condition. -/
import Derived.Test.YtepbfkhalkfhcaaDoorFnC
import Derived.Test.YtepbfkhalkfhcaaDoorEvF
namespace Go.Mvs

open Go Go.Proofs Go.Ab

set_option maxRecDepth 100000

set_option linter.unusedVariables false

set_option linter.unusedSimpArgs false

/-! ### qualifier -/

def quB (b : UInt8) : Bool := low_ (b.toNat : Int) || ((b.toNat : Int) == 95 || (b.toNat : Int) == 43)

structure Y55 where
  s : List UInt8
  i : Nat

def eL55 : Y55 → List AV × Hp := fun ⟨s, i⟩ => ([.str s, .int .i64 s.length, .int .i64 i], [])

def dL55 : List AV × Hp → Y55
  | ([.str s, .int .i64 _, .int .i64 i], []) => ⟨s, i.toNat⟩
  | _ => ⟨default, default⟩

def pL55 : Y55 → Prop := fun ⟨s, i⟩ => i ≤ s.length ∧ s.length ≤ bnd

def rL55 : Y55 → T (AX × St) := fun ⟨s, i⟩ => .br (alN quB s i) (.leaf (.exit 0, { tm := tmOf 41 [(0, .str s), (5, .int .i64 s.length), (6, .int .i64 s.length), (7, .bool false)], ms := [], hp := [] })) (.leaf (.ret, { tm := tmOf 41 [(2, .bool false)], ms := [], hp := [] }))

noncomputable def L55 : LoopT := fun k => match Nat.beq k 200041 with
  | true => some (lccon (mbits 97 41) eL55 dL55 pL55 rL55)
  | false => none

theorem iL55 : ∀ x, dL55 (eL55 x) = x := by
  rintro ⟨s, i⟩
  simp only [eL55, dL55, Int.toNat_natCast]

theorem kL55 (s : List UInt8) (i : Nat) (h : i ≤ s.length ∧ s.length ≤ bnd) : isEn eL55 pL55 ([.str s, .int .i64 s.length, .int .i64 i], []) = true := isEn_true (enc := eL55) (p := pL55) ⟨s, i⟩ h

theorem zL55 (s : List UInt8) (h : pL55 ⟨s, 0⟩) : isEn eL55 pL55 ([.str s, .int .i64 s.length, .int .i64 (0 : Int)], []) = true := isEn_true (enc := eL55) (p := pL55) ⟨s, 0⟩ h

theorem q55 (s : List UInt8) (i : Nat) : (rdn tabI h55 L55 55 0 0 { tm := encGo (mbits 97 41) [.str s, .int .i64 s.length, .int .i64 i], ms := [], hp := [] }).run =
  bif decide ((↑i : Int) < (↑s.length : Int)) then
   bif decide ((0 : Int) ≤ (↑i : Int) ∧ (↑i : Int) < (↑s.length : Int)) then
    bif !isC (2 : Int) (↑(s.getD (↑i : Int).toNat (0 : UInt8)).toNat : Int) then
     bif decide ((0 : Int) ≤ (↑i : Int) ∧ (↑i : Int) < (↑s.length : Int)) then
      bif (↑(s.getD (↑i : Int).toNat (0 : UInt8)).toNat : Int) != (95 : Int) then
       bif decide ((0 : Int) ≤ (↑i : Int) ∧ (↑i : Int) < (↑s.length : Int)) then
        bif (↑(s.getD (↑i : Int).toNat (0 : UInt8)).toNat : Int) != (43 : Int) then
         some ((AX.ret, { tm := tmOf 41 [(2, AV.bool false)], ms := [], hp := [] }))
        else
         some ((AX.normal, { tm := tmOf 41 [(0, AV.str s), (5, AV.int IntKind.i64 (↑s.length : Int)), (6, AV.int IntKind.i64 (IntKind.i64.wrap ((↑i : Int) + (1 : Int))))], ms := [], hp := [] }))
       else
        none
      else
       some ((AX.normal, { tm := tmOf 41 [(0, AV.str s), (5, AV.int IntKind.i64 (↑s.length : Int)), (6, AV.int IntKind.i64 (IntKind.i64.wrap ((↑i : Int) + (1 : Int))))], ms := [], hp := [] }))
     else
      none
    else
     some ((AX.normal, { tm := tmOf 41 [(0, AV.str s), (5, AV.int IntKind.i64 (↑s.length : Int)), (6, AV.int IntKind.i64 (IntKind.i64.wrap ((↑i : Int) + (1 : Int))))], ms := [], hp := [] }))
   else
    none
  else
   some ((AX.exit 0, { tm := tmOf 41 [(0, AV.str s), (5, AV.int IntKind.i64 (↑s.length : Int)), (6, AV.int IntKind.i64 (↑i : Int)), (7, AV.bool false)], ms := [], hp := [] })) := by kernel_rfl

theorem l55 : LoopOk Tryd.prog tabI.pf (fun n => hd Tryd.prog tabI.pf tabI.con.run (fun f => (H0 f).to) n 9) h55.to 55 0 none L55 (loopAt Tryd.prog 55 0) := by
  rw [show loopAt Tryd.prog 55 0 = .loop (lbody Tryd.prog 55 0) by kernel_rfl]
  refine loop_c (hdT_le (m := 20) 9) (m := 20) (lv := mbits 97 41) (p := pL55) (res := rL55) iL55 (within_of _ (by rw [show loopsOf (lbody Tryd.prog 55 0) = [] by kernel_rfl]; simp)) (by kernel_rfl) (fun ⟨s, i⟩ => s.length - i) ?_
  rintro ⟨s, i⟩ hp
  have ht := q55 s i
  obtain ⟨h1, h2⟩ := hp
  have hb := h2
  simp only [bnd] at hb
  by_cases hl : i < s.length
  · rw [decide_eq_true (show (i : Int) < s.length by omega), in_row hl, Int.toNat_natCast, w64n (by omega), show isC 2 ((s.getD i 0).toNat : Int) = low_ ((s.getD i 0).toNat : Int) from rfl] at ht
    simp only [cond_true] at ht
    have hd := alN_step (q := quB) 0 hl
    cases hq : quB (s.getD i 0) with
    | true =>
      rw [hq, Bool.true_and] at hd
      left
      refine ⟨⟨s, i + 1⟩, ⟨by omega, h2⟩, by simp only; omega, ?_, ?_⟩
      · simp only [rL55, T.run_br, hd]
      · refine Eq.trans ht ?_
        unfold quB at hq
        cases hlo : low_ ((s.getD i 0).toNat : Int) with
        | true => rfl
        | false =>
          cases h95 : ((s.getD i 0).toNat : Int) == 95 with
          | true =>
            rw [show (((s.getD i 0).toNat : Int) != 95) = false by rw [bne, h95]; rfl]
            rfl
          | false =>
            cases h43 : ((s.getD i 0).toNat : Int) == 43 with
            | true =>
              rw [show (((s.getD i 0).toNat : Int) != 95) = true by rw [bne, h95]; rfl, show (((s.getD i 0).toNat : Int) != 43) = false by rw [bne, h43]; rfl]
              rfl
            | false =>
              rw [hlo, h95, h43] at hq
              cases hq
    | false =>
      rw [hq, Bool.false_and] at hd
      right
      refine ⟨(.ret, { tm := tmOf 41 [(2, .bool false)], ms := [], hp := [] }), ?_, ?_, ?_⟩
      · simp
      · simp only [rL55, T.run_br, hd] <;> rfl
      · refine Eq.trans ht ?_
        unfold quB at hq
        cases hlo : low_ ((s.getD i 0).toNat : Int) with
        | true =>
          rw [hlo] at hq
          cases hq
        | false =>
          cases h95 : ((s.getD i 0).toNat : Int) == 95 with
          | true =>
            rw [hlo, h95] at hq
            cases hq
          | false =>
            cases h43 : ((s.getD i 0).toNat : Int) == 43 with
            | true =>
              rw [hlo, h95, h43] at hq
              cases hq
            | false =>
              rw [show (((s.getD i 0).toNat : Int) != 95) = true by rw [bne, h95]; rfl, show (((s.getD i 0).toNat : Int) != 43) = true by rw [bne, h43]; rfl]
              rfl
  · have he : i = s.length := by omega
    right
    rw [decide_eq_false (show ¬ (i : Int) < s.length by omega)] at ht
    have hd := alN_end (q := quB) (show s.length ≤ i by omega)
    refine ⟨_, ?_, ?_, ht⟩
    · simp
    · simp only [rL55, T.run_br, hd]
      rw [he] <;> rfl

def quaB (s : List UInt8) : Bool := alN quB s 0 && (!(s == [99, 114]) && (!(s == [102, 105, 110, 97, 108]) && (!(s == [103, 97]) && !(s == [114, 101, 108, 101, 97, 115, 101]))))

theorem t55 (s : List UInt8) : (evn tabI h55 L55 55 [.str s] []).run =
  bif isEn eL55 pL55 ([AV.str s, AV.int IntKind.i64 (↑s.length : Int), AV.int IntKind.i64 (0 : Int)], []) then
   bif alN quB s 0 then
    bif !s == [(99 : UInt8), (114 : UInt8)] then
     bif !s == [(102 : UInt8), (105 : UInt8), (110 : UInt8), (97 : UInt8), (108 : UInt8)] then
      bif !s == [(103 : UInt8), (97 : UInt8)] then
       some ((AV.bool !s == [(114 : UInt8), (101 : UInt8), (108 : UInt8), (101 : UInt8), (97 : UInt8), (115 : UInt8), (101 : UInt8)], []))
      else
       some ((AV.bool false, []))
     else
      some ((AV.bool false, []))
    else
     some ((AV.bool false, []))
   else
    some ((AV.bool false, []))
  else
   none := by kernel_rfl

def c55 : List AV → T AV
  | [.str s] => .leaf (.bool (quaB s))
  | _ => .fail

theorem e55 (s : List UInt8) (hF : FitsL [.str s]) : (evn tabI h55 L55 55 [.str s] []).run = (.leaf (.bool (quaB s)) : T AV).run.map fun r => (r, []) := by
  refine (t55 s).trans ?_
  have hb : s.length ≤ bnd := hF.1
  refine (cond_chk (kL55 s 0 ⟨Nat.zero_le _, hb⟩)).trans ?_
  unfold quaB
  cases alN quB s 0 <;> cases (s == [99, 114]) <;> cases (s == [102, 105, 110, 97, 108]) <;> cases (s == [103, 97]) <;> cases (s == [114, 101, 108, 101, 97, 115, 101]) <;> rfl

theorem s55 : Sound1 Tryd.prog ⟨55, true, pcon c55⟩ := by
  refine sound_pureH (m := 20) (k := 9) (hn := h55) (Λ := L55) (soundTab_of all_tabI) H0 (oneLoop (by kernel_rfl) l55) fun args r hF h => ?_
  unfold c55 at h
  split at h
  · rename_i s
    have he := e55 s hF
    rw [he, h]; rfl
  · cases h

noncomputable def tabQ : Tab := ⟨55, true, pcon c55⟩ :: tabI

theorem all_tabQ : ∀ e, e ∈ tabQ → Sound1 Tryd.prog e := (sound_mem_tab s55 all_tabI)

theorem ok_tabQ : SoundTab Tryd.prog tabQ := soundTab_of all_tabQ
end Go.Mvs
namespace Go.Mvs

open Go Go.Proofs Go.Ab

set_option maxRecDepth 100000

set_option linter.unusedVariables false

set_option linter.unusedSimpArgs false

/-! ### goes, of a slice that is not written; Fit -/

theorem t53s (n : Nat) (i : Nat) (f : Nat → Tok) : (evn tabQ h53 noLoops 53 [.sl 3 n (rowT f), .int .i64 i] []).run =
  bif decide ((0 : Int) ≤ (↑i : Int) ∧ (↑i : Int) < (↑n : Int)) then
   bif nullT (f (↑i : Int).toNat).num (f (↑i : Int).toNat).text then
    bif IntKind.i64.wrap ((↑i : Int) + (1 : Int)) == (↑n : Int) then
     some ((AV.bool true, []))
    else
     bif decide ((0 : Int) ≤ IntKind.i64.wrap ((↑i : Int) + (1 : Int)) ∧ IntKind.i64.wrap ((↑i : Int) + (1 : Int)) < (↑n : Int)) then
      bif (f (IntKind.i64.wrap ((↑i : Int) + (1 : Int))).toNat).dash then
       some ((AV.bool true, []))
      else
       bif decide ((0 : Int) ≤ IntKind.i64.wrap ((↑i : Int) + (1 : Int)) ∧ IntKind.i64.wrap ((↑i : Int) + (1 : Int)) < (↑n : Int)) then
        some ((AV.bool !(f (IntKind.i64.wrap ((↑i : Int) + (1 : Int))).toNat).num, []))
       else
        none
     else
      none
   else
    some ((AV.bool false, []))
  else
   none := by kernel_rfl

structure X53s where
  n : Nat
  i : Nat
  f : Nat → Tok

def en53s : X53s → List AV := fun ⟨n, i, f⟩ => [.sl 3 n (rowT f), .int .i64 i]

def de53s : List AV → X53s
  | [.sl _ n f_g, .int .i64 i] => ⟨n, i.toNat, unT f_g⟩
  | _ => ⟨default, default, default⟩

def p53s : X53s → Prop := fun ⟨n, i, f⟩ => i < n ∧ n ≤ bnd

def rs53s : X53s → T AV := fun ⟨n, i, f⟩ => .leaf (.bool (goesF f n i))

noncomputable def c53s : List AV → T AV := ccon en53s de53s p53s rs53s

theorem in53s : ∀ x, de53s (en53s x) = x := by
  rintro ⟨n, i, f⟩
  simp only [en53s, de53s, Int.toNat_natCast, unT_rowT]

theorem k53s (n : Nat) (i : Nat) (f : Nat → Tok) (h : i < n ∧ n ≤ bnd) : isEn en53s p53s [.sl 3 n (rowT f), .int .i64 i] = true := isEn_true (enc := en53s) (p := p53s) ⟨n, i, f⟩ h

theorem e53s (n : Nat) (i : Nat) (f : Nat → Tok) (hF : FitsL [.sl 3 n (rowT f), .int .i64 i]) (hp : i < n ∧ n ≤ bnd) : (evn tabQ h53 noLoops 53 [.sl 3 n (rowT f), .int .i64 i] []).run = (.leaf (.bool (goesF f n i)) : T AV).run.map fun r => (r, []) := by
  refine (t53s n i f).trans ?_
  obtain ⟨h1, h3⟩ := hp
  simp only [bnd] at h3
  rw [w64n (by omega), in_row h1, nat_beqI]
  simp only [Int.toNat_natCast, cond_true]
  unfold goesF
  cases nullT (f i).num (f i).text with
  | false => rfl
  | true =>
    cases he : (i + 1 == n) with
    | true => rfl
    | false =>
      have : i + 1 ≠ n := by simpa using he
      rw [in_row (show i + 1 < n by omega)]
      cases (f (i + 1)).dash <;> rfl

theorem s53s : Sound1 Tryd.prog ⟨53, true, pcon c53s⟩ := by
  refine sound_c (soundTab_of all_tabQ) H0 in53s (hn := h53) (m := 20) (k := 9) (Λ := noLoops) (fun i hi => anyLoops) ?_
  rintro ⟨n, i, f⟩ hp hF
  exact e53s n i f hF hp

noncomputable def tabR : Tab := ⟨53, true, pcon c53s⟩ :: tabQ

theorem all_tabR : ∀ e, e ∈ tabR → Sound1 Tryd.prog e := (sound_mem_tab s53s all_tabQ)

theorem ok_tabR : SoundTab Tryd.prog tabR := soundTab_of all_tabR

def tokOk (f : Nat → Tok) (n i : Nat) : Bool :=
  bif (f i).num then
   !((f i).text == []) && (runD (f i).text 0 == ((f i).text.length : Int) && ((trimD (f i).text == (f i).text) && (!goesF f n i || n == 1)))
  else quaB (f i).text && !goesF f n i

/-- The first place that is not so. -/
def fbad (q : Nat → Bool) : Nat → Nat → Nat
  | 0, i => i
  | k + 1, i => bif q i then fbad q k (i + 1) else i

theorem fbad_step {q : Nat → Bool} {n i : Nat} (h : i < n) : fbad q (n - i) i = bif q i then fbad q (n - (i + 1)) (i + 1) else i := by
  obtain ⟨k, hk⟩ : ∃ k, n - i = k + 1 := ⟨n - i - 1, by omega⟩
  rw [hk, show n - (i + 1) = k by omega]
  rfl

structure Y42 where
  n : Nat
  f : Nat → Tok
  i : Nat

def eL42 : Y42 → List AV × Hp := fun ⟨n, f, i⟩ => ([.sl 3 n (rowT f), .sl 3 n (rowT f), .int .i64 n, .int .i64 i], [])

def dL42 : List AV × Hp → Y42
  | ([.sl _ n f_g, .sl _ _ _, .int .i64 _, .int .i64 i], []) => ⟨n, unT f_g, i.toNat⟩
  | _ => ⟨default, default, default⟩

def pL42 : Y42 → Prop := fun ⟨n, f, i⟩ => i ≤ n ∧ n ≤ bnd

def rL42 : Y42 → T (AX × St) := fun ⟨n, f, i⟩ => .br (decide (fbad (tokOk f n) (n - i) i < n)) (.leaf (.ret, { tm := tmOf 70 [(2, .bool false)], ms := [], hp := [some (.cells [.bool (f (fbad (tokOk f n) (n - i) i)).dash, .bool (f (fbad (tokOk f n) (n - i) i)).num, .str (f (fbad (tokOk f n) (n - i) i)).text])] })) (.leaf (.exit 0, { tm := tmOf 70 [(0, .sl 3 n (rowT f)), (14, .sl 3 n (rowT f)), (15, .int .i64 n), (16, .int .i64 n), (17, .bool false)], ms := [], hp := [] }))

noncomputable def L42 : LoopT := fun k => match Nat.beq k 400085 with
  | true => some (lccon (mbits 114689 70) eL42 dL42 pL42 rL42)
  | false => none

theorem iL42 : ∀ x, dL42 (eL42 x) = x := by
  rintro ⟨n, f, i⟩
  simp only [eL42, dL42, Int.toNat_natCast, unT_rowT]

theorem kL42 (n : Nat) (f : Nat → Tok) (i : Nat) (h : i ≤ n ∧ n ≤ bnd) : isEn eL42 pL42 ([.sl 3 n (rowT f), .sl 3 n (rowT f), .int .i64 n, .int .i64 i], []) = true := isEn_true (enc := eL42) (p := pL42) ⟨n, f, i⟩ h

theorem zL42 (n : Nat) (f : Nat → Tok) (h : pL42 ⟨n, f, 0⟩) : isEn eL42 pL42 ([.sl 3 n (rowT f), .sl 3 n (rowT f), .int .i64 n, .int .i64 (0 : Int)], []) = true := isEn_true (enc := eL42) (p := pL42) ⟨n, f, 0⟩ h

theorem q42 (n : Nat) (f : Nat → Tok) (i : Nat) : (rdn tabR h42 L42 42 0 0 { tm := encGo (mbits 114689 70) [.sl 3 n (rowT f), .sl 3 n (rowT f), .int .i64 n, .int .i64 i], ms := [], hp := [] }).run =
  bif decide ((↑i : Int) < (↑n : Int)) then
   bif decide ((0 : Int) ≤ (↑i : Int) ∧ (↑i : Int) < (↑n : Int)) then
    bif (f (↑i : Int).toNat).num then
     bif (f (↑i : Int).toNat).text == [] then
      some ((AX.ret, { tm := tmOf 70 [(2, AV.bool false)], ms := [], hp := [some (AObj.cells [AV.bool (f (↑i : Int).toNat).dash, AV.bool (f (↑i : Int).toNat).num, AV.str (f (↑i : Int).toNat).text])] }))
     else
      bif runD (f (↑i : Int).toNat).text (0 : Int) != (↑(f (↑i : Int).toNat).text.length : Int) then
       some ((AX.ret, { tm := tmOf 70 [(2, AV.bool false)], ms := [], hp := [some (AObj.cells [AV.bool (f (↑i : Int).toNat).dash, AV.bool (f (↑i : Int).toNat).num, AV.str (f (↑i : Int).toNat).text])] }))
      else
       bif !trimD (f (↑i : Int).toNat).text == (f (↑i : Int).toNat).text then
        some ((AX.ret, { tm := tmOf 70 [(2, AV.bool false)], ms := [], hp := [some (AObj.cells [AV.bool (f (↑i : Int).toNat).dash, AV.bool (f (↑i : Int).toNat).num, AV.str (f (↑i : Int).toNat).text])] }))
       else
        bif !(f (↑i : Int).toNat).num then
         bif !quaB (f (↑i : Int).toNat).text then
          some ((AX.ret, { tm := tmOf 70 [(2, AV.bool false)], ms := [], hp := [some (AObj.cells [AV.bool (f (↑i : Int).toNat).dash, AV.bool (f (↑i : Int).toNat).num, AV.str (f (↑i : Int).toNat).text])] }))
         else
          bif isEn en53s p53s [AV.sl 3 n (rowT f), AV.int IntKind.i64 (↑i : Int)] then
           bif goesF (unT (rowT f)) n (↑i : Int).toNat then
            bif (↑n : Int) == (1 : Int) then
             bif !(f (↑i : Int).toNat).num then
              some ((AX.ret, { tm := tmOf 70 [(2, AV.bool false)], ms := [], hp := [some (AObj.cells [AV.bool (f (↑i : Int).toNat).dash, AV.bool (f (↑i : Int).toNat).num, AV.str (f (↑i : Int).toNat).text])] }))
             else
              some ((AX.normal, { tm := tmOf 70 [(0, AV.sl 3 n (rowT f)), (14, AV.sl 3 n (rowT f)), (15, AV.int IntKind.i64 (↑n : Int)), (16, AV.int IntKind.i64 (IntKind.i64.wrap ((↑i : Int) + (1 : Int))))], ms := [], hp := [] }))
            else
             some ((AX.ret, { tm := tmOf 70 [(2, AV.bool false)], ms := [], hp := [some (AObj.cells [AV.bool (f (↑i : Int).toNat).dash, AV.bool (f (↑i : Int).toNat).num, AV.str (f (↑i : Int).toNat).text])] }))
           else
            some ((AX.normal, { tm := tmOf 70 [(0, AV.sl 3 n (rowT f)), (14, AV.sl 3 n (rowT f)), (15, AV.int IntKind.i64 (↑n : Int)), (16, AV.int IntKind.i64 (IntKind.i64.wrap ((↑i : Int) + (1 : Int))))], ms := [], hp := [] }))
          else
           none
        else
         bif isEn en53s p53s [AV.sl 3 n (rowT f), AV.int IntKind.i64 (↑i : Int)] then
          bif goesF (unT (rowT f)) n (↑i : Int).toNat then
           bif (↑n : Int) == (1 : Int) then
            bif !(f (↑i : Int).toNat).num then
             some ((AX.ret, { tm := tmOf 70 [(2, AV.bool false)], ms := [], hp := [some (AObj.cells [AV.bool (f (↑i : Int).toNat).dash, AV.bool (f (↑i : Int).toNat).num, AV.str (f (↑i : Int).toNat).text])] }))
            else
             some ((AX.normal, { tm := tmOf 70 [(0, AV.sl 3 n (rowT f)), (14, AV.sl 3 n (rowT f)), (15, AV.int IntKind.i64 (↑n : Int)), (16, AV.int IntKind.i64 (IntKind.i64.wrap ((↑i : Int) + (1 : Int))))], ms := [], hp := [] }))
           else
            some ((AX.ret, { tm := tmOf 70 [(2, AV.bool false)], ms := [], hp := [some (AObj.cells [AV.bool (f (↑i : Int).toNat).dash, AV.bool (f (↑i : Int).toNat).num, AV.str (f (↑i : Int).toNat).text])] }))
          else
           some ((AX.normal, { tm := tmOf 70 [(0, AV.sl 3 n (rowT f)), (14, AV.sl 3 n (rowT f)), (15, AV.int IntKind.i64 (↑n : Int)), (16, AV.int IntKind.i64 (IntKind.i64.wrap ((↑i : Int) + (1 : Int))))], ms := [], hp := [] }))
         else
          none
    else
     bif !(f (↑i : Int).toNat).num then
      bif !quaB (f (↑i : Int).toNat).text then
       some ((AX.ret, { tm := tmOf 70 [(2, AV.bool false)], ms := [], hp := [some (AObj.cells [AV.bool (f (↑i : Int).toNat).dash, AV.bool (f (↑i : Int).toNat).num, AV.str (f (↑i : Int).toNat).text])] }))
      else
       bif isEn en53s p53s [AV.sl 3 n (rowT f), AV.int IntKind.i64 (↑i : Int)] then
        bif goesF (unT (rowT f)) n (↑i : Int).toNat then
         bif (↑n : Int) == (1 : Int) then
          bif !(f (↑i : Int).toNat).num then
           some ((AX.ret, { tm := tmOf 70 [(2, AV.bool false)], ms := [], hp := [some (AObj.cells [AV.bool (f (↑i : Int).toNat).dash, AV.bool (f (↑i : Int).toNat).num, AV.str (f (↑i : Int).toNat).text])] }))
          else
           some ((AX.normal, { tm := tmOf 70 [(0, AV.sl 3 n (rowT f)), (14, AV.sl 3 n (rowT f)), (15, AV.int IntKind.i64 (↑n : Int)), (16, AV.int IntKind.i64 (IntKind.i64.wrap ((↑i : Int) + (1 : Int))))], ms := [], hp := [] }))
         else
          some ((AX.ret, { tm := tmOf 70 [(2, AV.bool false)], ms := [], hp := [some (AObj.cells [AV.bool (f (↑i : Int).toNat).dash, AV.bool (f (↑i : Int).toNat).num, AV.str (f (↑i : Int).toNat).text])] }))
        else
         some ((AX.normal, { tm := tmOf 70 [(0, AV.sl 3 n (rowT f)), (14, AV.sl 3 n (rowT f)), (15, AV.int IntKind.i64 (↑n : Int)), (16, AV.int IntKind.i64 (IntKind.i64.wrap ((↑i : Int) + (1 : Int))))], ms := [], hp := [] }))
       else
        none
     else
      bif isEn en53s p53s [AV.sl 3 n (rowT f), AV.int IntKind.i64 (↑i : Int)] then
       bif goesF (unT (rowT f)) n (↑i : Int).toNat then
        bif (↑n : Int) == (1 : Int) then
         bif !(f (↑i : Int).toNat).num then
          some ((AX.ret, { tm := tmOf 70 [(2, AV.bool false)], ms := [], hp := [some (AObj.cells [AV.bool (f (↑i : Int).toNat).dash, AV.bool (f (↑i : Int).toNat).num, AV.str (f (↑i : Int).toNat).text])] }))
         else
          some ((AX.normal, { tm := tmOf 70 [(0, AV.sl 3 n (rowT f)), (14, AV.sl 3 n (rowT f)), (15, AV.int IntKind.i64 (↑n : Int)), (16, AV.int IntKind.i64 (IntKind.i64.wrap ((↑i : Int) + (1 : Int))))], ms := [], hp := [] }))
        else
         some ((AX.ret, { tm := tmOf 70 [(2, AV.bool false)], ms := [], hp := [some (AObj.cells [AV.bool (f (↑i : Int).toNat).dash, AV.bool (f (↑i : Int).toNat).num, AV.str (f (↑i : Int).toNat).text])] }))
       else
        some ((AX.normal, { tm := tmOf 70 [(0, AV.sl 3 n (rowT f)), (14, AV.sl 3 n (rowT f)), (15, AV.int IntKind.i64 (↑n : Int)), (16, AV.int IntKind.i64 (IntKind.i64.wrap ((↑i : Int) + (1 : Int))))], ms := [], hp := [] }))
      else
       none
   else
    none
  else
   some ((AX.exit 0, { tm := tmOf 70 [(0, AV.sl 3 n (rowT f)), (14, AV.sl 3 n (rowT f)), (15, AV.int IntKind.i64 (↑n : Int)), (16, AV.int IntKind.i64 (↑i : Int)), (17, AV.bool false)], ms := [], hp := [] })) := by kernel_rfl

theorem l42 : LoopOk Tryd.prog tabR.pf (fun n => hd Tryd.prog tabR.pf tabR.con.run (fun f => (H0 f).to) n 9) h42.to 42 0 none L42 (loopAt Tryd.prog 42 0) := by
  rw [show loopAt Tryd.prog 42 0 = .loop (lbody Tryd.prog 42 0) by kernel_rfl]
  refine loop_c (hdT_le (m := 20) 9) (m := 20) (lv := mbits 114689 70) (p := pL42) (res := rL42) iL42 (within_of _ (by rw [show loopsOf (lbody Tryd.prog 42 0) = [] by kernel_rfl]; simp)) (by kernel_rfl) (fun ⟨n, f, i⟩ => n - i) ?_
  rintro ⟨n, f, i⟩ hp
  have ht := q42 n f i
  obtain ⟨h1, h2⟩ := hp
  have hb := h2
  simp only [bnd] at hb
  by_cases hl : i < n
  · rw [decide_eq_true (show (i : Int) < n by omega), in_row hl, w64n (by omega), Int.toNat_natCast, k53s n i f ⟨hl, h2⟩, unT_rowT] at ht
    simp only [cond_true] at ht
    have e1 : ((n : Int) == 1) = (n == 1) := nat_beqI n 1
    rw [e1, show (runD (f i).text 0 != ((f i).text.length : Int)) = !(runD (f i).text 0 == ((f i).text.length : Int)) from rfl] at ht
    have key : (rdn tabR h42 L42 42 0 0 { tm := encGo (mbits 114689 70) [.sl 3 n (rowT f), .sl 3 n (rowT f), .int .i64 n, .int .i64 i], ms := [], hp := [] }).run =
        bif tokOk f n i then some (.normal, { tm := encGo (mbits 114689 70) [.sl 3 n (rowT f), .sl 3 n (rowT f), .int .i64 n, .int .i64 (i + 1 : Nat)], ms := [], hp := [] })
        else some (.ret, { tm := tmOf 70 [(2, .bool false)], ms := [], hp := [some (.cells [.bool (f i).dash, .bool (f i).num, .str (f i).text])] }) := by
      refine ht.trans ?_
      unfold tokOk
      generalize goesF f n i = g
      generalize quaB (f i).text = qa
      generalize (runD (f i).text 0 == ((f i).text.length : Int)) = ru
      generalize (trimD (f i).text == (f i).text) = tr
      generalize ((f i).text == []) = em
      generalize (n == 1) = one
      cases (f i).num <;> cases g <;> cases qa <;> cases ru <;> cases tr <;> cases em <;> cases one <;> rfl
    have hd := fbad_step (q := tokOk f n) hl
    cases hq : tokOk f n i with
    | true =>
      rw [hq, cond_true] at hd key
      left
      refine ⟨⟨n, f, i + 1⟩, ⟨by omega, h2⟩, by simp only; omega, ?_, key⟩
      simp only [rL42, T.run_br, hd]
    | false =>
      rw [hq, cond_false] at hd key
      right
      refine ⟨_, ?_, ?_, key⟩
      · simp
      · simp only [rL42, T.run_br, hd, decide_eq_true hl] <;> rfl
  · have he : i = n := by omega
    right
    subst he
    rw [decide_eq_false (show ¬ (i : Int) < i by omega)] at ht
    refine ⟨_, ?_, ?_, ht⟩
    · simp
    · simp only [rL42, T.run_br, Nat.sub_self, fbad, decide_eq_false (Nat.lt_irrefl i)] <;> rfl

def fitT (f : Nat → Tok) (n : Nat) : Bool := bif n == 0 then false else bif (f 0).dash then false else decide (¬ fbad (tokOk f n) n 0 < n)

theorem t42 (n : Nat) (f : Nat → Tok) : (evn tabR h42 L42 42 [.sl 3 n (rowT f)] []).run =
  bif (↑n : Int) == (0 : Int) then
   some ((AV.bool false, []))
  else
   bif decide ((0 : Int) ≤ (0 : Int) ∧ (0 : Int) < (↑n : Int)) then
    bif (f 0).dash then
     some ((AV.bool false, []))
    else
     bif isEn eL42 pL42 ([AV.sl 3 n (rowT f), AV.sl 3 n (rowT f), AV.int IntKind.i64 (↑n : Int), AV.int IntKind.i64 (0 : Int)], []) then
      bif decide (fbad (tokOk (unT (rowT f)) n) (n - 0) 0 < n) then
       some ((AV.bool false, []))
      else
       some ((AV.bool true, []))
     else
      none
   else
    none := by kernel_rfl

structure X42 where
  n : Nat
  f : Nat → Tok

def en42 : X42 → List AV := fun ⟨n, f⟩ => [.sl 3 n (rowT f)]

def de42 : List AV → X42
  | [.sl _ n f_g] => ⟨n, unT f_g⟩
  | _ => ⟨default, default⟩

def p42 : X42 → Prop := fun ⟨n, f⟩ => n ≤ bnd

def rs42 : X42 → T AV := fun ⟨n, f⟩ => .leaf (.bool (fitT f n))

noncomputable def c42 : List AV → T AV := ccon en42 de42 p42 rs42

theorem in42 : ∀ x, de42 (en42 x) = x := by
  rintro ⟨n, f⟩
  simp only [en42, de42, Int.toNat_natCast, unT_rowT]

theorem k42 (n : Nat) (f : Nat → Tok) (h : n ≤ bnd) : isEn en42 p42 [.sl 3 n (rowT f)] = true := isEn_true (enc := en42) (p := p42) ⟨n, f⟩ h

theorem e42 (n : Nat) (f : Nat → Tok) (hF : FitsL [.sl 3 n (rowT f)]) (hp : n ≤ bnd) : (evn tabR h42 L42 42 [.sl 3 n (rowT f)] []).run = (.leaf (.bool (fitT f n)) : T AV).run.map fun r => (r, []) := by
  refine (t42 n f).trans ?_
  have e0 : ((n : Int) == 0) = (n == 0) := nat_beqI n 0
  rw [e0]
  unfold fitT
  cases hz : (n == 0) with
  | true => rfl
  | false =>
    have hpos : n ≠ 0 := by simpa using hz
    rw [cond_false, decide_eq_true (show (0 : Int) ≤ 0 ∧ (0 : Int) < (n : Int) by omega), cond_true]
    cases (f 0).dash with
    | true => rfl
    | false =>
      rw [cond_false, cond_chk (zL42 n f ⟨Nat.zero_le _, hp⟩), unT_rowT, Nat.sub_zero]
      by_cases hb : fbad (tokOk f n) n 0 < n
      · rw [decide_eq_true hb, decide_eq_false (fun q => q hb)]
        rfl
      · rw [decide_eq_false hb, decide_eq_true hb]
        rfl

theorem s42 : Sound1 Tryd.prog ⟨42, true, pcon c42⟩ := by
  refine sound_c (soundTab_of all_tabR) H0 in42 (hn := h42) (m := 20) (k := 9) (Λ := L42) (oneLoop (by kernel_rfl) l42) ?_
  rintro ⟨n, f⟩ hp hF
  exact e42 n f hF hp

noncomputable def tabS : Tab := ⟨42, true, pcon c42⟩ :: tabR

theorem all_tabS : ∀ e, e ∈ tabS → Sound1 Tryd.prog e := (sound_mem_tab s42 all_tabR)

theorem ok_tabS : SoundTab Tryd.prog tabS := soundTab_of all_tabS
end Go.Mvs
namespace Go.Mvs

open Go Go.Proofs Go.Ab

set_option maxRecDepth 100000

set_option linter.unusedVariables false

set_option linter.unusedSimpArgs false

/-! ### Order -/

def padF (f : Nat → Tok) (n i : Nat) : Tok := if i < n then f i else zeroT

def ordTT (a b : Tok) (first : Bool) : Int := ordT a.dash a.num a.text b.dash b.num b.text first

def eqO (f g : Nat → Tok) (n m i : Nat) : Bool := ordTT (padF f n i) (padF g m i) (i == 0) == 0

structure Y27 where
  n : Nat
  m : Nat
  M : Nat
  f : Nat → Tok
  g : Nat → Tok
  i : Nat

def eL27 : Y27 → List AV × Hp := fun ⟨n, m, M, f, g, i⟩ => ([.sl 3 n (rowT f), .sl 3 m (rowT g), .int .i64 M, .int .i64 i], [])

def dL27 : List AV × Hp → Y27
  | ([.sl _ n f_g, .sl _ m g_g, .int .i64 M, .int .i64 i], []) => ⟨n, m, M.toNat, unT f_g, unT g_g, i.toNat⟩
  | _ => ⟨default, default, default, default, default, default⟩

def pL27 : Y27 → Prop := fun ⟨n, m, M, f, g, i⟩ => i ≤ M ∧ M ≤ bnd

def rL27 : Y27 → T (AX × St) := fun ⟨n, m, M, f, g, i⟩ => .br (decide (fbad (eqO f g n m) (M - i) i < M)) (.leaf (.ret, { tm := tmOf 50 [(4, .int .i64 (ordTT (padF f n (fbad (eqO f g n m) (M - i) i)) (padF g m (fbad (eqO f g n m) (M - i) i)) (fbad (eqO f g n m) (M - i) i == 0)))], ms := [], hp := [some (.cells [.bool (padF f n (fbad (eqO f g n m) (M - i) i)).dash, .bool (padF f n (fbad (eqO f g n m) (M - i) i)).num, .str (padF f n (fbad (eqO f g n m) (M - i) i)).text]), some (.cells [.bool (padF g m (fbad (eqO f g n m) (M - i) i)).dash, .bool (padF g m (fbad (eqO f g n m) (M - i) i)).num, .str (padF g m (fbad (eqO f g n m) (M - i) i)).text])] })) (.leaf (.exit 0, { tm := tmOf 50 [(0, .sl 3 n (rowT f)), (1, .sl 3 m (rowT g)), (21, .int .i64 M), (22, .int .i64 M), (23, .bool false)], ms := [], hp := [] }))

noncomputable def L27 : LoopT := fun k => match Nat.beq k 400069 with
  | true => some (lccon (mbits 6291459 50) eL27 dL27 pL27 rL27)
  | false => none

theorem iL27 : ∀ x, dL27 (eL27 x) = x := by
  rintro ⟨n, m, M, f, g, i⟩
  simp only [eL27, dL27, Int.toNat_natCast, unT_rowT]

theorem kL27 (n : Nat) (m : Nat) (M : Nat) (f : Nat → Tok) (g : Nat → Tok) (i : Nat) (h : i ≤ M ∧ M ≤ bnd) : isEn eL27 pL27 ([.sl 3 n (rowT f), .sl 3 m (rowT g), .int .i64 M, .int .i64 i], []) = true := isEn_true (enc := eL27) (p := pL27) ⟨n, m, M, f, g, i⟩ h

theorem zL27 (n : Nat) (m : Nat) (M : Nat) (f : Nat → Tok) (g : Nat → Tok) (h : pL27 ⟨n, m, M, f, g, 0⟩) : isEn eL27 pL27 ([.sl 3 n (rowT f), .sl 3 m (rowT g), .int .i64 M, .int .i64 (0 : Int)], []) = true := isEn_true (enc := eL27) (p := pL27) ⟨n, m, M, f, g, 0⟩ h

theorem q27 (n : Nat) (m : Nat) (M : Nat) (f : Nat → Tok) (g : Nat → Tok) (i : Nat) : (rdn tabS h27 L27 27 0 0 { tm := encGo (mbits 6291459 50) [.sl 3 n (rowT f), .sl 3 m (rowT g), .int .i64 M, .int .i64 i], ms := [], hp := [] }).run =
  bif decide ((↑i : Int) < (↑M : Int)) then
   bif decide ((↑i : Int) < (↑n : Int)) then
    bif decide ((0 : Int) ≤ (↑i : Int) ∧ (↑i : Int) < (↑n : Int)) then
     bif decide ((↑i : Int) < (↑m : Int)) then
      bif decide ((0 : Int) ≤ (↑i : Int) ∧ (↑i : Int) < (↑m : Int)) then
       bif ordT (f (↑i : Int).toNat).dash (f (↑i : Int).toNat).num (f (↑i : Int).toNat).text (g (↑i : Int).toNat).dash (g (↑i : Int).toNat).num (g (↑i : Int).toNat).text ((↑i : Int) == (0 : Int)) != (0 : Int) then
        some ((AX.ret, { tm := tmOf 50 [(4, AV.int IntKind.i64 (ordT (f (↑i : Int).toNat).dash (f (↑i : Int).toNat).num (f (↑i : Int).toNat).text (g (↑i : Int).toNat).dash (g (↑i : Int).toNat).num (g (↑i : Int).toNat).text ((↑i : Int) == (0 : Int))))], ms := [], hp := [some (AObj.cells [AV.bool (f (↑i : Int).toNat).dash, AV.bool (f (↑i : Int).toNat).num, AV.str (f (↑i : Int).toNat).text]), some (AObj.cells [AV.bool (g (↑i : Int).toNat).dash, AV.bool (g (↑i : Int).toNat).num, AV.str (g (↑i : Int).toNat).text])] }))
       else
        some ((AX.normal, { tm := tmOf 50 [(0, AV.sl 3 n (rowT f)), (1, AV.sl 3 m (rowT g)), (21, AV.int IntKind.i64 (↑M : Int)), (22, AV.int IntKind.i64 (IntKind.i64.wrap ((↑i : Int) + (1 : Int))))], ms := [], hp := [] }))
      else
       none
     else
      bif ordT (f (↑i : Int).toNat).dash (f (↑i : Int).toNat).num (f (↑i : Int).toNat).text false false [] ((↑i : Int) == (0 : Int)) != (0 : Int) then
       some ((AX.ret, { tm := tmOf 50 [(4, AV.int IntKind.i64 (ordT (f (↑i : Int).toNat).dash (f (↑i : Int).toNat).num (f (↑i : Int).toNat).text false false [] ((↑i : Int) == (0 : Int))))], ms := [], hp := [some (AObj.cells [AV.bool (f (↑i : Int).toNat).dash, AV.bool (f (↑i : Int).toNat).num, AV.str (f (↑i : Int).toNat).text]), some (AObj.cells [AV.bool false, AV.bool false, AV.str []])] }))
      else
       some ((AX.normal, { tm := tmOf 50 [(0, AV.sl 3 n (rowT f)), (1, AV.sl 3 m (rowT g)), (21, AV.int IntKind.i64 (↑M : Int)), (22, AV.int IntKind.i64 (IntKind.i64.wrap ((↑i : Int) + (1 : Int))))], ms := [], hp := [] }))
    else
     none
   else
    bif decide ((↑i : Int) < (↑m : Int)) then
     bif decide ((0 : Int) ≤ (↑i : Int) ∧ (↑i : Int) < (↑m : Int)) then
      bif ordT false false [] (g (↑i : Int).toNat).dash (g (↑i : Int).toNat).num (g (↑i : Int).toNat).text ((↑i : Int) == (0 : Int)) != (0 : Int) then
       some ((AX.ret, { tm := tmOf 50 [(4, AV.int IntKind.i64 (ordT false false [] (g (↑i : Int).toNat).dash (g (↑i : Int).toNat).num (g (↑i : Int).toNat).text ((↑i : Int) == (0 : Int))))], ms := [], hp := [some (AObj.cells [AV.bool false, AV.bool false, AV.str []]), some (AObj.cells [AV.bool (g (↑i : Int).toNat).dash, AV.bool (g (↑i : Int).toNat).num, AV.str (g (↑i : Int).toNat).text])] }))
      else
       some ((AX.normal, { tm := tmOf 50 [(0, AV.sl 3 n (rowT f)), (1, AV.sl 3 m (rowT g)), (21, AV.int IntKind.i64 (↑M : Int)), (22, AV.int IntKind.i64 (IntKind.i64.wrap ((↑i : Int) + (1 : Int))))], ms := [], hp := [] }))
     else
      none
    else
     some ((AX.normal, { tm := tmOf 50 [(0, AV.sl 3 n (rowT f)), (1, AV.sl 3 m (rowT g)), (21, AV.int IntKind.i64 (↑M : Int)), (22, AV.int IntKind.i64 (IntKind.i64.wrap ((↑i : Int) + (1 : Int))))], ms := [], hp := [] }))
  else
   some ((AX.exit 0, { tm := tmOf 50 [(0, AV.sl 3 n (rowT f)), (1, AV.sl 3 m (rowT g)), (21, AV.int IntKind.i64 (↑M : Int)), (22, AV.int IntKind.i64 (↑i : Int)), (23, AV.bool false)], ms := [], hp := [] })) := by kernel_rfl

theorem l27 : LoopOk Tryd.prog tabS.pf (fun n => hd Tryd.prog tabS.pf tabS.con.run (fun f => (H0 f).to) n 9) h27.to 27 0 none L27 (loopAt Tryd.prog 27 0) := by
  rw [show loopAt Tryd.prog 27 0 = .loop (lbody Tryd.prog 27 0) by kernel_rfl]
  refine loop_c (hdT_le (m := 20) 9) (m := 20) (lv := mbits 6291459 50) (p := pL27) (res := rL27) iL27 (within_of _ (by rw [show loopsOf (lbody Tryd.prog 27 0) = [] by kernel_rfl]; simp)) (by kernel_rfl) (fun ⟨n, m, M, f, g, i⟩ => M - i) ?_
  rintro ⟨n, m, M, f, g, i⟩ hp
  have ht := q27 n m M f g i
  obtain ⟨h1, h2⟩ := hp
  have hb := h2
  simp only [bnd] at hb
  by_cases hl : i < M
  · have e1 : ((i : Int) == 0) = (i == 0) := nat_beqI i 0
    rw [decide_eq_true (show (i : Int) < M by omega), w64n (by omega), Int.toNat_natCast, e1] at ht
    simp only [cond_true] at ht
    have key : (rdn tabS h27 L27 27 0 0 { tm := encGo (mbits 6291459 50) [.sl 3 n (rowT f), .sl 3 m (rowT g), .int .i64 M, .int .i64 i], ms := [], hp := [] }).run =
        bif eqO f g n m i then some (.normal, { tm := encGo (mbits 6291459 50) [.sl 3 n (rowT f), .sl 3 m (rowT g), .int .i64 M, .int .i64 (i + 1 : Nat)], ms := [], hp := [] })
        else some (.ret, { tm := tmOf 50 [(4, .int .i64 (ordTT (padF f n i) (padF g m i) (i == 0)))], ms := [], hp := [some (.cells [.bool (padF f n i).dash, .bool (padF f n i).num, .str (padF f n i).text]), some (.cells [.bool (padF g m i).dash, .bool (padF g m i).num, .str (padF g m i).text])] }) := by
      refine ht.trans ?_
      unfold eqO padF
      by_cases hn : i < n
      · rw [decide_eq_true (show (i : Int) < n by omega), in_row hn, if_pos hn]
        simp only [cond_true]
        by_cases hm : i < m
        · rw [decide_eq_true (show (i : Int) < m by omega), in_row hm, if_pos hm]
          simp only [cond_true]
          rw [show (ordT (f i).dash (f i).num (f i).text (g i).dash (g i).num (g i).text (i == 0) != 0) = !(ordTT (f i) (g i) (i == 0) == 0) from rfl]
          cases hq : (ordTT (f i) (g i) (i == 0) == 0) <;> rfl
        · rw [decide_eq_false (show ¬ (i : Int) < m by omega), if_neg hm]
          simp only [cond_false]
          rw [show (ordT (f i).dash (f i).num (f i).text false false [] (i == 0) != 0) = !(ordTT (f i) zeroT (i == 0) == 0) from rfl]
          cases hq : (ordTT (f i) zeroT (i == 0) == 0) <;> rfl
      · rw [decide_eq_false (show ¬ (i : Int) < n by omega), if_neg hn]
        simp only [cond_false]
        by_cases hm : i < m
        · rw [decide_eq_true (show (i : Int) < m by omega), in_row hm, if_pos hm]
          simp only [cond_true]
          rw [show (ordT false false [] (g i).dash (g i).num (g i).text (i == 0) != 0) = !(ordTT zeroT (g i) (i == 0) == 0) from rfl]
          cases hq : (ordTT zeroT (g i) (i == 0) == 0) <;> rfl
        · rw [decide_eq_false (show ¬ (i : Int) < m by omega), if_neg hm]
          simp only [cond_false]
          cases (i == 0) <;> rfl
    have hd := fbad_step (q := eqO f g n m) hl
    cases hq : eqO f g n m i with
    | true =>
      rw [hq, cond_true] at hd key
      left
      refine ⟨⟨n, m, M, f, g, i + 1⟩, ⟨by omega, h2⟩, by simp only; omega, ?_, key⟩
      simp only [rL27, T.run_br, hd]
    | false =>
      rw [hq, cond_false] at hd key
      right
      refine ⟨_, ?_, ?_, key⟩
      · simp
      · simp only [rL27, T.run_br, hd, decide_eq_true hl] <;> rfl
  · have he : i = M := by omega
    right
    subst he
    rw [decide_eq_false (show ¬ (i : Int) < i by omega)] at ht
    refine ⟨_, ?_, ?_, ht⟩
    · simp
    · simp only [rL27, T.run_br, Nat.sub_self, fbad, decide_eq_false (Nat.lt_irrefl i)] <;> rfl

def ordL (f : Nat → Tok) (n : Nat) (g : Nat → Tok) (m : Nat) : Int := bif fitT f n then bif fitT g m then
    bif decide (fbad (eqO f g n m) (max n m) 0 < max n m) then ordTT (padF f n (fbad (eqO f g n m) (max n m) 0)) (padF g m (fbad (eqO f g n m) (max n m) 0)) (fbad (eqO f g n m) (max n m) 0 == 0) else 0
  else 0 else 0

theorem max_int (n m : Nat) : (if true = true then if (m : Int) > (n : Int) then (m : Int) else (n : Int) else if (m : Int) < (n : Int) then (m : Int) else (n : Int)) = ((max n m : Nat) : Int) := by
  simp only [if_true]
  split <;> omega

theorem t27 (n : Nat) (m : Nat) (f : Nat → Tok) (g : Nat → Tok) : (evn tabS h27 L27 27 [.sl 3 n (rowT f), .sl 3 m (rowT g)] []).run =
  bif isEn en42 p42 [AV.sl 3 n (rowT f)] then
   bif !fitT (unT (rowT f)) n then
    some ((AV.int IntKind.i64 (0 : Int), []))
   else
    bif isEn en42 p42 [AV.sl 3 m (rowT g)] then
     bif !fitT (unT (rowT g)) m then
      some ((AV.int IntKind.i64 (0 : Int), []))
     else
      bif isEn eL27 pL27 ([AV.sl 3 n (rowT f), AV.sl 3 m (rowT g), AV.int IntKind.i64 (if true = true then if (↑m : Int) > (↑n : Int) then (↑m : Int) else (↑n : Int) else if (↑m : Int) < (↑n : Int) then (↑m : Int) else (↑n : Int)), AV.int IntKind.i64 (0 : Int)], []) then
       bif decide (fbad (eqO (unT (rowT f)) (unT (rowT g)) n m) ((if true = true then if (↑m : Int) > (↑n : Int) then (↑m : Int) else (↑n : Int) else if (↑m : Int) < (↑n : Int) then (↑m : Int) else (↑n : Int)).toNat - 0) 0 < (if true = true then if (↑m : Int) > (↑n : Int) then (↑m : Int) else (↑n : Int) else if (↑m : Int) < (↑n : Int) then (↑m : Int) else (↑n : Int)).toNat) then
        some ((AV.int IntKind.i64 (ordTT (padF (unT (rowT f)) n (fbad (eqO (unT (rowT f)) (unT (rowT g)) n m) ((if true = true then if (↑m : Int) > (↑n : Int) then (↑m : Int) else (↑n : Int) else if (↑m : Int) < (↑n : Int) then (↑m : Int) else (↑n : Int)).toNat - 0) 0)) (padF (unT (rowT g)) m (fbad (eqO (unT (rowT f)) (unT (rowT g)) n m) ((if true = true then if (↑m : Int) > (↑n : Int) then (↑m : Int) else (↑n : Int) else if (↑m : Int) < (↑n : Int) then (↑m : Int) else (↑n : Int)).toNat - 0) 0)) (fbad (eqO (unT (rowT f)) (unT (rowT g)) n m) ((if true = true then if (↑m : Int) > (↑n : Int) then (↑m : Int) else (↑n : Int) else if (↑m : Int) < (↑n : Int) then (↑m : Int) else (↑n : Int)).toNat - 0) 0 == 0)), []))
       else
        some ((AV.int IntKind.i64 (0 : Int), []))
      else
       none
    else
     none
  else
   none := by kernel_rfl

structure X27 where
  n : Nat
  m : Nat
  f : Nat → Tok
  g : Nat → Tok

def en27 : X27 → List AV := fun ⟨n, m, f, g⟩ => [.sl 3 n (rowT f), .sl 3 m (rowT g)]

def de27 : List AV → X27
  | [.sl _ n f_g, .sl _ m g_g] => ⟨n, m, unT f_g, unT g_g⟩
  | _ => ⟨default, default, default, default⟩

def p27 : X27 → Prop := fun ⟨n, m, f, g⟩ => n ≤ bnd ∧ m ≤ bnd

def rs27 : X27 → T AV := fun ⟨n, m, f, g⟩ => .leaf (.int .i64 (ordL f n g m))

noncomputable def c27 : List AV → T AV := ccon en27 de27 p27 rs27

theorem in27 : ∀ x, de27 (en27 x) = x := by
  rintro ⟨n, m, f, g⟩
  simp only [en27, de27, Int.toNat_natCast, unT_rowT]

theorem k27 (n : Nat) (m : Nat) (f : Nat → Tok) (g : Nat → Tok) (h : n ≤ bnd ∧ m ≤ bnd) : isEn en27 p27 [.sl 3 n (rowT f), .sl 3 m (rowT g)] = true := isEn_true (enc := en27) (p := p27) ⟨n, m, f, g⟩ h

theorem e27 (n : Nat) (m : Nat) (f : Nat → Tok) (g : Nat → Tok) (hF : FitsL [.sl 3 n (rowT f), .sl 3 m (rowT g)]) (hp : n ≤ bnd ∧ m ≤ bnd) : (evn tabS h27 L27 27 [.sl 3 n (rowT f), .sl 3 m (rowT g)] []).run = (.leaf (.int .i64 (ordL f n g m)) : T AV).run.map fun r => (r, []) := by
  refine (t27 n m f g).trans ?_
  obtain ⟨h1, h2⟩ := hp
  rw [k42 n f h1, k42 m g h2, max_int, cond_true, unT_rowT, unT_rowT]
  unfold ordL
  cases fitT f n with
  | false => rfl
  | true =>
    cases fitT g m with
    | false => rfl
    | true =>
      simp only [cond_true, Bool.not_true, cond_false]
      rw [cond_chk (zL27 n m (max n m) f g ⟨Nat.zero_le _, by simp only [bnd] at h1 h2 ⊢; omega⟩)]
      simp only [Int.toNat_natCast, Nat.sub_zero]
      cases decide (fbad (eqO f g n m) (max n m) 0 < max n m) <;> rfl

theorem s27 : Sound1 Tryd.prog ⟨27, true, pcon c27⟩ := by
  refine sound_c (soundTab_of all_tabS) H0 in27 (hn := h27) (m := 20) (k := 9) (Λ := L27) (oneLoop (by kernel_rfl) l27) ?_
  rintro ⟨n, m, f, g⟩ hp hF
  exact e27 n m f g hF hp

noncomputable def tabU : Tab := ⟨27, true, pcon c27⟩ :: ⟨26, true, pcon c26⟩ :: tabS

theorem all_tabU : ∀ e, e ∈ tabU → Sound1 Tryd.prog e := (sound_mem_tab s27 (sound_mem_tab s26 all_tabS))

theorem ok_tabU : SoundTab Tryd.prog tabU := soundTab_of all_tabU
end Go.Mvs
namespace Go.Mvs

open Go Go.Proofs Go.Ab

set_option maxRecDepth 100000

set_option linter.unusedVariables false

set_option linter.unusedSimpArgs false

/-! ### Compare -/

def okT (s : List UInt8) : Bool := !decide ((s.length : Int) > 64) && (!(s == []) && !decide (fxN vb s 0 < s.length))

def cmpM (a b : List UInt8) : Int := bif okT a then bif okT b then ordL (tokF a) (tokL a) (tokF b) (tokL b) else 1 else bif okT b then -1 else Lib.compareBytes a b

theorem tokL_le {s : List UInt8} (h : decide ((s.length : Int) > 64) = false) : tokL s ≤ bnd := by
  have h1 := of_decide_eq_false h
  have h2 := tokC_le s
  have h3 : (trim8 s).2 ≤ tokC s := trimR_le _ _ _
  simp only [bnd]
  unfold tokL
  cases (trim8 s).2.beq 0 <;> simp <;> omega

theorem t20 (a : List UInt8) (b : List UInt8) : (evn tabU h20 noLoops 20 [.str a, .str b] []).run =
  bif decide ((↑a.length : Int) > (64 : Int)) then
   bif decide ((↑b.length : Int) > (64 : Int)) then
    some ((AV.int IntKind.i64 (Lib.compareBytes a b), []))
   else
    bif b == [] then
     some ((AV.int IntKind.i64 (Lib.compareBytes a b), []))
    else
     bif decide (fxN vb b 0 < b.length) then
      some ((AV.int IntKind.i64 (Lib.compareBytes a b), []))
     else
      some ((AV.int IntKind.i64 (-1 : Int), []))
  else
   bif a == [] then
    bif decide ((↑b.length : Int) > (64 : Int)) then
     some ((AV.int IntKind.i64 (Lib.compareBytes a b), []))
    else
     bif b == [] then
      some ((AV.int IntKind.i64 (Lib.compareBytes a b), []))
     else
      bif decide (fxN vb b 0 < b.length) then
       some ((AV.int IntKind.i64 (Lib.compareBytes a b), []))
      else
       some ((AV.int IntKind.i64 (-1 : Int), []))
   else
    bif decide (fxN vb a 0 < a.length) then
     bif decide ((↑b.length : Int) > (64 : Int)) then
      some ((AV.int IntKind.i64 (Lib.compareBytes a b), []))
     else
      bif b == [] then
       some ((AV.int IntKind.i64 (Lib.compareBytes a b), []))
      else
       bif decide (fxN vb b 0 < b.length) then
        some ((AV.int IntKind.i64 (Lib.compareBytes a b), []))
       else
        some ((AV.int IntKind.i64 (-1 : Int), []))
    else
     bif decide ((↑b.length : Int) > (64 : Int)) then
      some ((AV.int IntKind.i64 (1 : Int), []))
     else
      bif b == [] then
       some ((AV.int IntKind.i64 (1 : Int), []))
      else
       bif decide (fxN vb b 0 < b.length) then
        some ((AV.int IntKind.i64 (1 : Int), []))
       else
        bif isEn en27 p27 [AV.sl 3 (tokL a) (rowT (tokF a)), AV.sl 3 (tokL b) (rowT (tokF b))] then
         some ((AV.int IntKind.i64 (ordL (unT (rowT (tokF a))) (tokL a) (unT (rowT (tokF b))) (tokL b)), []))
        else
         none := by kernel_rfl

def c20 : List AV → T AV
  | [.str a, .str b] => .leaf (.int .i64 (cmpM a b))
  | _ => .fail

theorem e20 (a : List UInt8) (b : List UInt8) (hF : FitsL [.str a, .str b]) : (evn tabU h20 noLoops 20 [.str a, .str b] []).run = (.leaf (.int .i64 (cmpM a b)) : T AV).run.map fun r => (r, []) := by
  refine (t20 a b).trans ?_
  rw [unT_rowT, unT_rowT]
  unfold cmpM okT
  cases h1 : decide ((a.length : Int) > 64) <;> cases h2 : decide ((b.length : Int) > 64) <;> cases (a == []) <;> cases (b == []) <;> cases decide (fxN vb a 0 < a.length) <;> cases decide (fxN vb b 0 < b.length) <;> try rfl
  simp only [cond_false]
  rw [cond_chk (k27 (tokL a) (tokL b) (tokF a) (tokF b) ⟨tokL_le h1, tokL_le h2⟩)]
  rfl

theorem s20 : Sound1 Tryd.prog ⟨20, true, pcon c20⟩ := by
  refine sound_pureH (m := 20) (k := 9) (hn := h20) (Λ := noLoops) (soundTab_of all_tabU) H0 (fun i hi => anyLoops) fun args r hF h => ?_
  unfold c20 at h
  split at h
  · rename_i a b
    have he := e20 a b hF
    rw [he, h]; rfl
  · cases h

noncomputable def tabV : Tab := ⟨20, true, pcon c20⟩ :: tabU

theorem all_tabV : ∀ e, e ∈ tabV → Sound1 Tryd.prog e := (sound_mem_tab s20 all_tabU)

theorem ok_tabV : SoundTab Tryd.prog tabV := soundTab_of all_tabV
end Go.Mvs
namespace Go.Mvs
open Go Go.Proofs Go.Ab
set_option maxRecDepth 100000
set_option linter.unusedVariables false
/-! ### strings.ContainsRune of the bytes that end a word: each byte -/
def spS : List UInt8 := [32, 9, 44, 91, 93, 40, 41]
def spB (b : UInt8) : Bool := spS.contains b
noncomputable def ev37 (n : Nat) : Option (AV × Hp) := (evn tabV h37 noLoops 37 [.str spS, .int .i32 (n : Int)] []).run
def rs37 (n : Nat) : Option (AV × Hp) := some (.bool (spB (UInt8.ofNat n)), [])
theorem c37_0 : (List.range 8).map (fun j => ev37 (0 + j)) = (List.range 8).map (fun j => rs37 (0 + j)) := by kernel_rfl
theorem c37_1 : (List.range 8).map (fun j => ev37 (8 + j)) = (List.range 8).map (fun j => rs37 (8 + j)) := by kernel_rfl
theorem c37_2 : (List.range 8).map (fun j => ev37 (16 + j)) = (List.range 8).map (fun j => rs37 (16 + j)) := by kernel_rfl
theorem c37_3 : (List.range 8).map (fun j => ev37 (24 + j)) = (List.range 8).map (fun j => rs37 (24 + j)) := by kernel_rfl
theorem c37_4 : (List.range 8).map (fun j => ev37 (32 + j)) = (List.range 8).map (fun j => rs37 (32 + j)) := by kernel_rfl
theorem c37_5 : (List.range 8).map (fun j => ev37 (40 + j)) = (List.range 8).map (fun j => rs37 (40 + j)) := by kernel_rfl
theorem c37_6 : (List.range 8).map (fun j => ev37 (48 + j)) = (List.range 8).map (fun j => rs37 (48 + j)) := by kernel_rfl
theorem c37_7 : (List.range 8).map (fun j => ev37 (56 + j)) = (List.range 8).map (fun j => rs37 (56 + j)) := by kernel_rfl
theorem c37_8 : (List.range 8).map (fun j => ev37 (64 + j)) = (List.range 8).map (fun j => rs37 (64 + j)) := by kernel_rfl
theorem c37_9 : (List.range 8).map (fun j => ev37 (72 + j)) = (List.range 8).map (fun j => rs37 (72 + j)) := by kernel_rfl
theorem c37_10 : (List.range 8).map (fun j => ev37 (80 + j)) = (List.range 8).map (fun j => rs37 (80 + j)) := by kernel_rfl
theorem c37_11 : (List.range 8).map (fun j => ev37 (88 + j)) = (List.range 8).map (fun j => rs37 (88 + j)) := by kernel_rfl
theorem c37_12 : (List.range 8).map (fun j => ev37 (96 + j)) = (List.range 8).map (fun j => rs37 (96 + j)) := by kernel_rfl
theorem c37_13 : (List.range 8).map (fun j => ev37 (104 + j)) = (List.range 8).map (fun j => rs37 (104 + j)) := by kernel_rfl
theorem c37_14 : (List.range 8).map (fun j => ev37 (112 + j)) = (List.range 8).map (fun j => rs37 (112 + j)) := by kernel_rfl
theorem c37_15 : (List.range 8).map (fun j => ev37 (120 + j)) = (List.range 8).map (fun j => rs37 (120 + j)) := by kernel_rfl
theorem c37_16 : (List.range 8).map (fun j => ev37 (128 + j)) = (List.range 8).map (fun j => rs37 (128 + j)) := by kernel_rfl
theorem c37_17 : (List.range 8).map (fun j => ev37 (136 + j)) = (List.range 8).map (fun j => rs37 (136 + j)) := by kernel_rfl
theorem c37_18 : (List.range 8).map (fun j => ev37 (144 + j)) = (List.range 8).map (fun j => rs37 (144 + j)) := by kernel_rfl
theorem c37_19 : (List.range 8).map (fun j => ev37 (152 + j)) = (List.range 8).map (fun j => rs37 (152 + j)) := by kernel_rfl
theorem c37_20 : (List.range 8).map (fun j => ev37 (160 + j)) = (List.range 8).map (fun j => rs37 (160 + j)) := by kernel_rfl
theorem c37_21 : (List.range 8).map (fun j => ev37 (168 + j)) = (List.range 8).map (fun j => rs37 (168 + j)) := by kernel_rfl
theorem c37_22 : (List.range 8).map (fun j => ev37 (176 + j)) = (List.range 8).map (fun j => rs37 (176 + j)) := by kernel_rfl
theorem c37_23 : (List.range 8).map (fun j => ev37 (184 + j)) = (List.range 8).map (fun j => rs37 (184 + j)) := by kernel_rfl
theorem c37_24 : (List.range 8).map (fun j => ev37 (192 + j)) = (List.range 8).map (fun j => rs37 (192 + j)) := by kernel_rfl
theorem c37_25 : (List.range 8).map (fun j => ev37 (200 + j)) = (List.range 8).map (fun j => rs37 (200 + j)) := by kernel_rfl
theorem c37_26 : (List.range 8).map (fun j => ev37 (208 + j)) = (List.range 8).map (fun j => rs37 (208 + j)) := by kernel_rfl
theorem c37_27 : (List.range 8).map (fun j => ev37 (216 + j)) = (List.range 8).map (fun j => rs37 (216 + j)) := by kernel_rfl
theorem c37_28 : (List.range 8).map (fun j => ev37 (224 + j)) = (List.range 8).map (fun j => rs37 (224 + j)) := by kernel_rfl
theorem c37_29 : (List.range 8).map (fun j => ev37 (232 + j)) = (List.range 8).map (fun j => rs37 (232 + j)) := by kernel_rfl
theorem c37_30 : (List.range 8).map (fun j => ev37 (240 + j)) = (List.range 8).map (fun j => rs37 (240 + j)) := by kernel_rfl
theorem c37_31 : (List.range 8).map (fun j => ev37 (248 + j)) = (List.range 8).map (fun j => rs37 (248 + j)) := by kernel_rfl
theorem chunk37 {k : Nat} (h : (List.range 8).map (fun j => ev37 (k + j)) = (List.range 8).map (fun j => rs37 (k + j))) (j : Nat) (hj : j < 8) : ev37 (k + j) = rs37 (k + j) := by
  have h2 := congrArg (fun l => l[j]?) h
  simpa only [List.getElem?_map, List.getElem?_range hj, Option.map_some, Option.some.injEq] using h2
theorem at37 (n : Nat) (h : n < 256) : ev37 n = rs37 n := by
  obtain ⟨k, j, hj, hk, rfl⟩ : ∃ k j, j < 8 ∧ k < 32 ∧ n = 8 * k + j := ⟨n / 8, n % 8, by omega, by omega, by omega⟩
  rcases (by omega : k = 0 ∨ k = 1 ∨ k = 2 ∨ k = 3 ∨ k = 4 ∨ k = 5 ∨ k = 6 ∨ k = 7 ∨ k = 8 ∨ k = 9 ∨ k = 10 ∨ k = 11 ∨ k = 12 ∨ k = 13 ∨ k = 14 ∨ k = 15 ∨ k = 16 ∨ k = 17 ∨ k = 18 ∨ k = 19 ∨ k = 20 ∨ k = 21 ∨ k = 22 ∨ k = 23 ∨ k = 24 ∨ k = 25 ∨ k = 26 ∨ k = 27 ∨ k = 28 ∨ k = 29 ∨ k = 30 ∨ k = 31) with rfl | rfl | rfl | rfl | rfl | rfl | rfl | rfl | rfl | rfl | rfl | rfl | rfl | rfl | rfl | rfl | rfl | rfl | rfl | rfl | rfl | rfl | rfl | rfl | rfl | rfl | rfl | rfl | rfl | rfl | rfl | rfl
  · exact chunk37 c37_0 j hj
  · exact chunk37 c37_1 j hj
  · exact chunk37 c37_2 j hj
  · exact chunk37 c37_3 j hj
  · exact chunk37 c37_4 j hj
  · exact chunk37 c37_5 j hj
  · exact chunk37 c37_6 j hj
  · exact chunk37 c37_7 j hj
  · exact chunk37 c37_8 j hj
  · exact chunk37 c37_9 j hj
  · exact chunk37 c37_10 j hj
  · exact chunk37 c37_11 j hj
  · exact chunk37 c37_12 j hj
  · exact chunk37 c37_13 j hj
  · exact chunk37 c37_14 j hj
  · exact chunk37 c37_15 j hj
  · exact chunk37 c37_16 j hj
  · exact chunk37 c37_17 j hj
  · exact chunk37 c37_18 j hj
  · exact chunk37 c37_19 j hj
  · exact chunk37 c37_20 j hj
  · exact chunk37 c37_21 j hj
  · exact chunk37 c37_22 j hj
  · exact chunk37 c37_23 j hj
  · exact chunk37 c37_24 j hj
  · exact chunk37 c37_25 j hj
  · exact chunk37 c37_26 j hj
  · exact chunk37 c37_27 j hj
  · exact chunk37 c37_28 j hj
  · exact chunk37 c37_29 j hj
  · exact chunk37 c37_30 j hj
  · exact chunk37 c37_31 j hj
theorem one37 (b : UInt8) : (evn tabV h37 noLoops 37 [.str spS, .int .i32 (b.toNat : Int)] []).run = some (.bool (spB b), []) := by
  have h := at37 b.toNat b.toNat_lt
  unfold ev37 rs37 at h
  rw [h, show UInt8.ofNat b.toNat = b by simp]
end Go.Mvs
namespace Go.Mvs

open Go Go.Proofs Go.Ab

set_option maxRecDepth 100000

set_option linter.unusedVariables false

set_option linter.unusedSimpArgs false

/-! ### Blanks, words -/

theorem sound_orP {P : Program} {f : FuncId} {c1 c2 : List AV → T AV} (h1 : Sound1 P ⟨f, true, pcon c1⟩) (h2 : Sound1 P ⟨f, true, pcon c2⟩) (q : List AV → Bool) : Sound1 P ⟨f, true, pcon fun args => bif q args then c1 args else c2 args⟩ := by
  have e1 : ∀ args hp, q args = true → pcon (fun args => bif q args then c1 args else c2 args) args hp = pcon c1 args hp := fun args hp h => by unfold pcon; simp only [h, cond_true]
  have e2 : ∀ args hp, q args = false → pcon (fun args => bif q args then c1 args else c2 args) args hp = pcon c2 args hp := fun args hp h => by unfold pcon; simp only [h, cond_false]
  refine ⟨fun args hp r hp' hr => ?_, fun args hp r hp' hr => ?_, fun _ args hp r hp' hr => ?_⟩
  · cases hq : q args with
    | true => exact h1.ok args hp r hp' (by simpa only [e1 _ _ hq] using hr)
    | false => exact h2.ok args hp r hp' (by simpa only [e2 _ _ hq] using hr)
  · cases hq : q args with
    | true => exact h1.len args hp r hp' (by simpa only [e1 _ _ hq] using hr)
    | false => exact h2.len args hp r hp' (by simpa only [e2 _ _ hq] using hr)
  · cases hq : q args with
    | true => simp only [e1 _ _ hq] at hr ⊢; exact h1.pure rfl args hp r hp' hr
    | false => simp only [e2 _ _ hq] at hr ⊢; exact h2.pure rfl args hp r hp' hr

def blC (c : Int) : Bool := c == 32 || c == 9

def blB (b : UInt8) : Bool := blC (b.toNat : Int)

theorem t33b (c : Int) : (evn [] h33 noLoops 33 [.int .u8 c, .int .i64 6] []).run =
  bif decide (c ≥ (48 : Int)) then
   bif decide (c ≥ (97 : Int)) then
    bif decide (c ≥ (65 : Int)) then
     bif c == (32 : Int) then
      some ((AV.bool true, []))
     else
      some ((AV.bool (c == (9 : Int)), []))
    else
     bif c == (32 : Int) then
      some ((AV.bool true, []))
     else
      some ((AV.bool (c == (9 : Int)), []))
   else
    bif decide (c ≥ (65 : Int)) then
     bif c == (32 : Int) then
      some ((AV.bool true, []))
     else
      some ((AV.bool (c == (9 : Int)), []))
    else
     bif c == (32 : Int) then
      some ((AV.bool true, []))
     else
      some ((AV.bool (c == (9 : Int)), []))
  else
   bif decide (c ≥ (97 : Int)) then
    bif decide (c ≥ (65 : Int)) then
     bif c == (32 : Int) then
      some ((AV.bool true, []))
     else
      some ((AV.bool (c == (9 : Int)), []))
    else
     bif c == (32 : Int) then
      some ((AV.bool true, []))
     else
      some ((AV.bool (c == (9 : Int)), []))
   else
    bif decide (c ≥ (65 : Int)) then
     bif c == (32 : Int) then
      some ((AV.bool true, []))
     else
      some ((AV.bool (c == (9 : Int)), []))
    else
     bif c == (32 : Int) then
      some ((AV.bool true, []))
     else
      some ((AV.bool (c == (9 : Int)), [])) := by kernel_rfl

def c33b : List AV → T AV
  | [.int .u8 c, .int .i64 k] => .chk (decide (k = 6)) (.leaf (.bool (blC c)))
  | _ => .fail

theorem s33b : Sound1 Tryd.prog ⟨33, true, pcon c33b⟩ := by
  refine sound_pure (SoundTab.nil _) (hn := h33) (m := 20) (k := 9) (Λ := noLoops) (fun i hi => anyLoops) fun args r hF h => ?_
  unfold c33b at h
  split at h
  · rename_i c k
    rw [T.run_chk] at h
    split at h
    · rename_i hk
      obtain rfl : k = 6 := by simpa using hk
      simp only [T.run_leaf, Option.some.injEq] at h
      subst h
      refine (t33b c).trans ?_
      unfold blC
      cases decide (c ≥ 48) <;> cases decide (c ≥ 97) <;> cases decide (c ≥ 65) <;> cases (c == 32) <;> rfl
    · cases h
  · cases h

def q6 : List AV → Bool
  | [_, .int .i64 k] => k == 6
  | [_, _, .int .i64 k] => k == 6
  | _ => false

noncomputable def tabA6 : Tab := ⟨33, true, pcon c33b⟩ :: []

theorem all_tabA6 : ∀ e, e ∈ tabA6 → Sound1 Tryd.prog e := sound_mem_tab s33b (by simp)

structure Y22b where
  s : List UInt8
  a : Nat
  i : Nat

def eL22b : Y22b → List AV × Hp := fun ⟨s, a, i⟩ => ([.str s, .int .i64 a, .int .i64 6, .int .i64 ((s.length : Int) - a), .int .i64 i], [])

def dL22b : List AV × Hp → Y22b
  | ([.str s, .int .i64 a, .int .i64 _, .int .i64 _, .int .i64 i], []) => ⟨s, a.toNat, i.toNat⟩
  | _ => ⟨default, default, default⟩

def pL22b : Y22b → Prop := fun ⟨s, a, i⟩ => a + i ≤ s.length ∧ s.length ≤ bnd

def rL22b : Y22b → T (AX × St) := fun ⟨s, a, i⟩ => .br (decide (fxN blB s (a + i) < s.length)) (.leaf (.ret, { tm := tmOf 38 [(6, .int .i64 (fxN blB s (a + i)))], ms := [], hp := [] })) (.leaf (.exit 0, { tm := tmOf 38 [(0, .str s), (1, .int .i64 a), (2, .int .i64 6), (20, .int .i64 ((s.length : Int) - a)), (21, .int .i64 ((s.length : Int) - a)), (22, .bool false)], ms := [], hp := [] }))

noncomputable def L22b : LoopT := fun k => match Nat.beq k 400035 with
  | true => some (lccon (mbits 3145735 38) eL22b dL22b pL22b rL22b)
  | false => none

theorem iL22b : ∀ x, dL22b (eL22b x) = x := by
  rintro ⟨s, a, i⟩
  simp only [eL22b, dL22b, Int.toNat_natCast]

theorem kL22b (s : List UInt8) (a : Nat) (i : Nat) (h : a + i ≤ s.length ∧ s.length ≤ bnd) : isEn eL22b pL22b ([.str s, .int .i64 a, .int .i64 6, .int .i64 ((s.length : Int) - a), .int .i64 i], []) = true := isEn_true (enc := eL22b) (p := pL22b) ⟨s, a, i⟩ h

theorem zL22b (s : List UInt8) (a : Nat) (h : pL22b ⟨s, a, 0⟩) : isEn eL22b pL22b ([.str s, .int .i64 a, .int .i64 6, .int .i64 ((s.length : Int) - a), .int .i64 (0 : Int)], []) = true := isEn_true (enc := eL22b) (p := pL22b) ⟨s, a, 0⟩ h

theorem q22b (s : List UInt8) (a : Nat) (i : Nat) : (rdn tabA6 h22 L22b 22 0 0 { tm := encGo (mbits 3145735 38) [.str s, .int .i64 a, .int .i64 6, .int .i64 ((s.length : Int) - a), .int .i64 i], ms := [], hp := [] }).run =
  bif decide ((↑i : Int) < (↑s.length : Int) - (↑a : Int)) then
   bif decide ((0 : Int) ≤ IntKind.i64.wrap ((↑a : Int) + (↑i : Int)) ∧ IntKind.i64.wrap ((↑a : Int) + (↑i : Int)) < (↑s.length : Int)) then
    bif !blC (↑(s.getD (IntKind.i64.wrap ((↑a : Int) + (↑i : Int))).toNat (0 : UInt8)).toNat : Int) then
     some ((AX.ret, { tm := tmOf 38 [(6, AV.int IntKind.i64 (IntKind.i64.wrap ((↑a : Int) + (↑i : Int))))], ms := [], hp := [] }))
    else
     some ((AX.normal, { tm := tmOf 38 [(0, AV.str s), (1, AV.int IntKind.i64 (↑a : Int)), (2, AV.int IntKind.i64 (6 : Int)), (20, AV.int IntKind.i64 ((↑s.length : Int) - (↑a : Int))), (21, AV.int IntKind.i64 (IntKind.i64.wrap ((↑i : Int) + (1 : Int))))], ms := [], hp := [] }))
   else
    none
  else
   some ((AX.exit 0, { tm := tmOf 38 [(0, AV.str s), (1, AV.int IntKind.i64 (↑a : Int)), (2, AV.int IntKind.i64 (6 : Int)), (20, AV.int IntKind.i64 ((↑s.length : Int) - (↑a : Int))), (21, AV.int IntKind.i64 (↑i : Int)), (22, AV.bool false)], ms := [], hp := [] })) := by kernel_rfl

theorem l22b : LoopOk Tryd.prog tabA6.pf (fun n => hd Tryd.prog tabA6.pf tabA6.con.run (fun f => (H0 f).to) n 9) h22.to 22 0 none L22b (loopAt Tryd.prog 22 0) := by
  rw [show loopAt Tryd.prog 22 0 = .loop (lbody Tryd.prog 22 0) by kernel_rfl]
  refine loop_c (hdT_le (m := 20) 9) (m := 20) (lv := mbits 3145735 38) (p := pL22b) (res := rL22b) iL22b (within_of _ (by rw [show loopsOf (lbody Tryd.prog 22 0) = [] by kernel_rfl]; simp)) (by kernel_rfl) (fun ⟨s, a, i⟩ => s.length - (a + i)) ?_
  rintro ⟨s, a, i⟩ hp
  have ht := q22b s a i
  obtain ⟨h1, h2⟩ := hp
  have hb := h2
  simp only [bnd] at hb
  rw [show (a : Int) + (i : Int) = ((a + i : Nat) : Int) by omega, w64 (n := ((a + i : Nat) : Int)) (by omega) (by omega), w64 (n := (i : Int) + 1) (by omega) (by omega)] at ht
  by_cases hl : a + i < s.length
  · have hd := fxN_step (q := blB) (0 : UInt8) hl
    rw [decide_eq_true (show (i : Int) < (s.length : Int) - a by omega), decide_eq_true (show (0 : Int) ≤ ((a + i : Nat) : Int) ∧ ((a + i : Nat) : Int) < (s.length : Int) by omega), Int.toNat_natCast] at ht
    cases hq : blB (s.getD (a + i) 0) with
    | true =>
      rw [hq, cond_true] at hd
      rw [show blC ((s.getD (a + i) 0).toNat : Int) = true from hq] at ht
      left
      refine ⟨⟨s, a, i + 1⟩, ⟨by omega, h2⟩, by simp only; omega, ?_, ht⟩
      simp only [rL22b, T.run_br, show a + (i + 1) = a + i + 1 by omega, hd]
    | false =>
      rw [hq, cond_false] at hd
      rw [show blC ((s.getD (a + i) 0).toNat : Int) = false from hq] at ht
      right
      refine ⟨_, ?_, ?_, ht⟩
      · simp
      · simp only [rL22b, T.run_br, hd, decide_eq_true hl] <;> rfl
  · have he : a + i = s.length := by omega
    rw [decide_eq_false (show ¬ (i : Int) < (s.length : Int) - a by omega)] at ht
    right
    refine ⟨_, ?_, ?_, ht⟩
    · simp
    · simp only [rL22b, T.run_br, fxN_end (q := blB) (show s.length ≤ a + i by omega), decide_eq_false (show ¬ a + i < s.length by omega), show (i : Int) = (s.length : Int) - a by omega] <;> rfl

theorem t22b (s : List UInt8) (a : Nat) : (evn tabA6 h22 L22b 22 [.str s, .int .i64 a, .int .i64 6] []).run =
  bif decide ((↑a : Int) > (↑s.length : Int)) then
   some ((AV.int IntKind.i64 (↑a : Int), []))
  else
   bif isEn eL22b pL22b ([AV.str s, AV.int IntKind.i64 (↑a : Int), AV.int IntKind.i64 (6 : Int), AV.int IntKind.i64 (IntKind.i64.wrap ((↑s.length : Int) - (↑a : Int))), AV.int IntKind.i64 (0 : Int)], []) then
    bif decide (fxN blB s ((↑a : Int).toNat + 0) < s.length) then
     some ((AV.int IntKind.i64 (↑(fxN blB s ((↑a : Int).toNat + 0)) : Int), []))
    else
     some ((AV.int IntKind.i64 (↑s.length : Int), []))
   else
    none := by kernel_rfl

structure X22b where
  s : List UInt8
  a : Nat

def en22b : X22b → List AV := fun ⟨s, a⟩ => [.str s, .int .i64 a, .int .i64 6]

def de22b : List AV → X22b
  | [.str s, .int .i64 a, _] => ⟨s, a.toNat⟩
  | _ => ⟨default, default⟩

def p22b : X22b → Prop := fun ⟨s, a⟩ => a ≤ s.length ∧ s.length ≤ bnd

def rs22b : X22b → T AV := fun ⟨s, a⟩ => .leaf (.int .i64 (fxN blB s a))

noncomputable def c22b : List AV → T AV := ccon en22b de22b p22b rs22b

theorem in22b : ∀ x, de22b (en22b x) = x := by
  rintro ⟨s, a⟩
  simp only [en22b, de22b, Int.toNat_natCast]

theorem k22b (s : List UInt8) (a : Nat) (h : a ≤ s.length ∧ s.length ≤ bnd) : isEn en22b p22b [.str s, .int .i64 a, .int .i64 6] = true := isEn_true (enc := en22b) (p := p22b) ⟨s, a⟩ h

theorem e22b (s : List UInt8) (a : Nat) (hF : FitsL [.str s, .int .i64 a, .int .i64 6]) (hp : a ≤ s.length ∧ s.length ≤ bnd) : (evn tabA6 h22 L22b 22 [.str s, .int .i64 a, .int .i64 6] []).run = (.leaf (.int .i64 (fxN blB s a)) : T AV).run.map fun r => (r, []) := by
  refine (t22b s a).trans ?_
  obtain ⟨h1, h2⟩ := hp
  have hb := h2
  simp only [bnd] at hb
  rw [decide_eq_false (show ¬ (a : Int) > (s.length : Int) by omega), w64 (n := (s.length : Int) - a) (by omega) (by omega)]
  simp only [cond_false]
  refine (cond_chk (zL22b s a ⟨by omega, h2⟩)).trans ?_
  rw [Int.toNat_natCast, Nat.add_zero]
  have hf := fxN_le (q := blB) h1
  by_cases hl : fxN blB s a < s.length
  · rw [decide_eq_true hl]; rfl
  · rw [decide_eq_false hl]
    have e : fxN blB s a = s.length := by omega
    rw [e]; rfl

theorem s22b : Sound1 Tryd.prog ⟨22, true, pcon c22b⟩ := by
  refine sound_c (soundTab_of all_tabA6) H0 in22b (hn := h22) (m := 20) (k := 9) (Λ := L22b) (oneLoop (by kernel_rfl) l22b) ?_
  rintro ⟨s, a⟩ hp hF
  exact e22b s a hF hp

noncomputable def c33x : List AV → T AV := fun args => bif q6 args then c33b args else cIs args

noncomputable def c22x : List AV → T AV := fun args => bif q6 args then c22b args else c22 args

theorem s33x : Sound1 Tryd.prog ⟨33, true, pcon c33x⟩ := sound_orP s33b s33 q6

theorem s22x : Sound1 Tryd.prog ⟨22, true, pcon c22x⟩ := sound_orP s22b s22 q6

/-! ### strings.ContainsRune of the bytes that end a word -/

def spC (n : Int) : Bool := spB (UInt8.ofNat n.toNat)

def c37 : List AV → T AV
  | [.str S, .int .i32 n] => .chk (decide (S = spS ∧ 0 ≤ n ∧ n < 256)) (.leaf (.bool (spC n)))
  | _ => .fail

theorem s37 : Sound1 Tryd.prog ⟨37, true, pcon c37⟩ := by
  refine sound_pureH (m := 20) (k := 9) (hn := h37) (Λ := noLoops) (soundTab_of all_tabV) H0 (fun i hi => anyLoops) fun args r hF h => ?_
  unfold c37 at h
  split at h
  · rename_i S n
    rw [T.run_chk] at h
    split at h
    · rename_i hk
      simp only [decide_eq_true_eq] at hk
      obtain ⟨rfl, h1, h2⟩ := hk
      simp only [T.run_leaf, Option.some.injEq] at h
      subst h
      have ho := one37 (UInt8.ofNat n.toNat)
      have e : ((UInt8.ofNat n.toNat).toNat : Int) = n := by
        rw [UInt8.toNat_ofNat']
        omega
      rw [e] at ho
      exact ho
    · cases h
  · cases h

noncomputable def tabA1 : Tab := ⟨33, true, pcon c33x⟩ :: ⟨22, true, pcon c22x⟩ :: ⟨37, true, pcon c37⟩ :: tabV

theorem all_tabA1 : ∀ e, e ∈ tabA1 → Sound1 Tryd.prog e := sound_mem_tab s33x (sound_mem_tab s22x (sound_mem_tab s37 all_tabV))

theorem t14 (s : List UInt8) (a : Nat) : (evn tabA1 h14 noLoops 14 [.str s, .int .i64 a] []).run =
  bif isEn en22b p22b [AV.str s, AV.int IntKind.i64 (↑a : Int), AV.int IntKind.i64 (6 : Int)] then
   some ((AV.int IntKind.i64 (↑(fxN blB s (↑a : Int).toNat) : Int), []))
  else
   none := by kernel_rfl

structure X14 where
  s : List UInt8
  a : Nat

def en14 : X14 → List AV := fun ⟨s, a⟩ => [.str s, .int .i64 a]

def de14 : List AV → X14
  | [.str s, .int .i64 a] => ⟨s, a.toNat⟩
  | _ => ⟨default, default⟩

def p14 : X14 → Prop := fun ⟨s, a⟩ => a ≤ s.length ∧ s.length ≤ bnd

def rs14 : X14 → T AV := fun ⟨s, a⟩ => .leaf (.int .i64 (fxN blB s a))

noncomputable def c14 : List AV → T AV := ccon en14 de14 p14 rs14

theorem in14 : ∀ x, de14 (en14 x) = x := by
  rintro ⟨s, a⟩
  simp only [en14, de14, Int.toNat_natCast]

theorem k14 (s : List UInt8) (a : Nat) (h : a ≤ s.length ∧ s.length ≤ bnd) : isEn en14 p14 [.str s, .int .i64 a] = true := isEn_true (enc := en14) (p := p14) ⟨s, a⟩ h

theorem e14 (s : List UInt8) (a : Nat) (hF : FitsL [.str s, .int .i64 a]) (hp : a ≤ s.length ∧ s.length ≤ bnd) : (evn tabA1 h14 noLoops 14 [.str s, .int .i64 a] []).run = (.leaf (.int .i64 (fxN blB s a)) : T AV).run.map fun r => (r, []) := by
  refine (t14 s a).trans ?_
  exact cond_chk (k22b s a hp)

theorem s14 : Sound1 Tryd.prog ⟨14, true, pcon c14⟩ := by
  refine sound_c (soundTab_of all_tabA1) H0 in14 (hn := h14) (m := 20) (k := 9) (Λ := noLoops) (fun i hi => anyLoops) ?_
  rintro ⟨s, a⟩ hp hF
  exact e14 s a hF hp

def wdB (b : UInt8) : Bool := !spB b

def wdC (n : Int) : Bool := !spC n

theorem spC_b (b : UInt8) : spC (b.toNat : Int) = spB b := by
  unfold spC
  rw [Int.toNat_natCast, show UInt8.ofNat b.toNat = b by simp]

structure Y25 where
  s : List UInt8
  i : Nat

def eL25 : Y25 → List AV × Hp := fun ⟨s, i⟩ => ([.str s, .int .i64 i], [])

def dL25 : List AV × Hp → Y25
  | ([.str s, .int .i64 i], []) => ⟨s, i.toNat⟩
  | _ => ⟨default, default⟩

def pL25 : Y25 → Prop := fun ⟨s, i⟩ => i ≤ s.length ∧ s.length ≤ bnd

def rL25 : Y25 → T (AX × St) := fun ⟨s, i⟩ => .leaf (.exit 0, { tm := tmOf 20 [(0, .str s), (1, .int .i64 (fxN wdB s i)), (16, .bool false)], ms := [], hp := [] })

noncomputable def L25 : LoopT := fun k => match Nat.beq k 100023 with
  | true => some (lccon (mbits 3 20) eL25 dL25 pL25 rL25)
  | false => none

theorem iL25 : ∀ x, dL25 (eL25 x) = x := by
  rintro ⟨s, i⟩
  simp only [eL25, dL25, Int.toNat_natCast]

theorem kL25 (s : List UInt8) (i : Nat) (h : i ≤ s.length ∧ s.length ≤ bnd) : isEn eL25 pL25 ([.str s, .int .i64 i], []) = true := isEn_true (enc := eL25) (p := pL25) ⟨s, i⟩ h

theorem zL25 (s : List UInt8) (h : pL25 ⟨s, 0⟩) : isEn eL25 pL25 ([.str s, .int .i64 (0 : Int)], []) = true := isEn_true (enc := eL25) (p := pL25) ⟨s, 0⟩ h

theorem q25 (s : List UInt8) (i : Nat) : (rdn tabA1 h25 L25 25 0 0 { tm := encGo (mbits 3 20) [.str s, .int .i64 i], ms := [], hp := [] }).run =
  bif decide ((↑i : Int) < (↑s.length : Int)) then
   bif decide ((0 : Int) ≤ (↑i : Int) ∧ (↑i : Int) < (↑s.length : Int)) then
    bif decide ([(32 : UInt8), (9 : UInt8), (44 : UInt8), (91 : UInt8), (93 : UInt8), (40 : UInt8), (41 : UInt8)] = [(32 : UInt8), (9 : UInt8), (44 : UInt8), (91 : UInt8), (93 : UInt8), (40 : UInt8), (41 : UInt8)] ∧ (0 : Int) ≤ IntKind.i32.wrap (↑(s.getD (↑i : Int).toNat (0 : UInt8)).toNat : Int) ∧ IntKind.i32.wrap (↑(s.getD (↑i : Int).toNat (0 : UInt8)).toNat : Int) < (256 : Int)) then
     bif !spC (IntKind.i32.wrap (↑(s.getD (↑i : Int).toNat (0 : UInt8)).toNat : Int)) then
      some ((AX.normal, { tm := tmOf 20 [(0, AV.str s), (1, AV.int IntKind.i64 (IntKind.i64.wrap ((↑i : Int) + (1 : Int))))], ms := [], hp := [] }))
     else
      some ((AX.exit 0, { tm := tmOf 20 [(0, AV.str s), (1, AV.int IntKind.i64 (↑i : Int)), (16, AV.bool false)], ms := [], hp := [] }))
    else
     none
   else
    none
  else
   some ((AX.exit 0, { tm := tmOf 20 [(0, AV.str s), (1, AV.int IntKind.i64 (↑i : Int)), (16, AV.bool false)], ms := [], hp := [] })) := by kernel_rfl

theorem l25 : LoopOk Tryd.prog tabA1.pf (fun n => hd Tryd.prog tabA1.pf tabA1.con.run (fun f => (H0 f).to) n 9) h25.to 25 0 none L25 (loopAt Tryd.prog 25 0) := by
  rw [show loopAt Tryd.prog 25 0 = .loop (lbody Tryd.prog 25 0) by kernel_rfl]
  refine loop_c (hdT_le (m := 20) 9) (m := 20) (lv := mbits 3 20) (p := pL25) (res := rL25) iL25 (within_of _ (by rw [show loopsOf (lbody Tryd.prog 25 0) = [] by kernel_rfl]; simp)) (by kernel_rfl) (fun ⟨s, i⟩ => s.length - i) ?_
  rintro ⟨s, i⟩ hp
  have ht := q25 s i
  obtain ⟨h1, h2⟩ := hp
  have hb := h2
  simp only [bnd] at hb
  by_cases hl : i < s.length
  · have hd := fxN_step (q := wdB) (0 : UInt8) hl
    have hlt : (s.getD i 0).toNat < 256 := (s.getD i 0).toNat_lt
    rw [decide_eq_true (show (i : Int) < s.length by omega), byte_at hl, Int.toNat_natCast, w64n (by omega), show IntKind.i32.wrap ((s.getD i 0).toNat : Int) = ((s.getD i 0).toNat : Int) by rw [IntKind.wrap_i32]; omega, spC_b] at ht
    rw [decide_eq_true (show [(32 : UInt8), 9, 44, 91, 93, 40, 41] = [(32 : UInt8), 9, 44, 91, 93, 40, 41] ∧ (0 : Int) ≤ ((s.getD i 0).toNat : Int) ∧ ((s.getD i 0).toNat : Int) < 256 from ⟨rfl, by omega, by omega⟩)] at ht
    simp only [cond_true] at ht
    rw [show (!spB (s.getD i 0)) = wdB (s.getD i 0) from rfl] at ht
    cases hq : wdB (s.getD i 0) with
    | true =>
      rw [hq] at ht hd
      rw [cond_true] at hd
      left
      refine ⟨⟨s, i + 1⟩, ⟨by omega, h2⟩, by simp only; omega, ?_, ht⟩
      simp only [rL25, T.run_leaf, hd]
    | false =>
      rw [hq] at ht hd
      rw [cond_false] at hd
      right
      refine ⟨_, ?_, ?_, ht⟩
      · simp
      · simp only [rL25, T.run_leaf, hd] <;> rfl
  · have he : i = s.length := by omega
    rw [decide_eq_false (show ¬ (i : Int) < s.length by omega)] at ht
    right
    refine ⟨_, ?_, ?_, ht⟩
    · simp
    · simp only [rL25, T.run_leaf, fxN_end (q := wdB) (show s.length ≤ i by omega)] <;> rfl

theorem t25 (s : List UInt8) (a : Nat) : (evn tabA1 h25 L25 25 [.str s, .int .i64 a] []).run =
  bif isEn eL25 pL25 ([AV.str s, AV.int IntKind.i64 (↑a : Int)], []) then
   some ((AV.int IntKind.i64 (↑(fxN wdB s (↑a : Int).toNat) : Int), []))
  else
   none := by kernel_rfl

structure X25 where
  s : List UInt8
  a : Nat

def en25 : X25 → List AV := fun ⟨s, a⟩ => [.str s, .int .i64 a]

def de25 : List AV → X25
  | [.str s, .int .i64 a] => ⟨s, a.toNat⟩
  | _ => ⟨default, default⟩

def p25 : X25 → Prop := fun ⟨s, a⟩ => a ≤ s.length ∧ s.length ≤ bnd

def rs25 : X25 → T AV := fun ⟨s, a⟩ => .leaf (.int .i64 (fxN wdB s a))

noncomputable def c25 : List AV → T AV := ccon en25 de25 p25 rs25

theorem in25 : ∀ x, de25 (en25 x) = x := by
  rintro ⟨s, a⟩
  simp only [en25, de25, Int.toNat_natCast]

theorem k25 (s : List UInt8) (a : Nat) (h : a ≤ s.length ∧ s.length ≤ bnd) : isEn en25 p25 [.str s, .int .i64 a] = true := isEn_true (enc := en25) (p := p25) ⟨s, a⟩ h

theorem e25 (s : List UInt8) (a : Nat) (hF : FitsL [.str s, .int .i64 a]) (hp : a ≤ s.length ∧ s.length ≤ bnd) : (evn tabA1 h25 L25 25 [.str s, .int .i64 a] []).run = (.leaf (.int .i64 (fxN wdB s a)) : T AV).run.map fun r => (r, []) := by
  refine (t25 s a).trans ?_
  exact cond_chk (kL25 s a hp)

theorem s25 : Sound1 Tryd.prog ⟨25, true, pcon c25⟩ := by
  refine sound_c (soundTab_of all_tabA1) H0 in25 (hn := h25) (m := 20) (k := 9) (Λ := L25) (oneLoop (by kernel_rfl) l25) ?_
  rintro ⟨s, a⟩ hp hF
  exact e25 s a hF hp

noncomputable def tabA2 : Tab := ⟨14, true, pcon c14⟩ :: ⟨25, true, pcon c25⟩ :: tabA1

theorem all_tabA2 : ∀ e, e ∈ tabA2 → Sound1 Tryd.prog e := (sound_mem_tab s14 (sound_mem_tab s25 all_tabA1))

theorem ok_tabA2 : SoundTab Tryd.prog tabA2 := soundTab_of all_tabA2

/-! ### version -/

def vwS (s : List UInt8) (a : Nat) : List UInt8 := (s.drop a).takeWhile wdB

def vrS (s : List UInt8) (a : Nat) : List UInt8 := bif okT (vwS s a) then vwS s a else []

def vrE (s : List UInt8) (a : Nat) : Nat := bif okT (vwS s a) then fxN wdB s a else a

def vrF (s : List UInt8) (a : Nat) : Nat := bif vwS s a == [] then 0 else bif okT (vwS s a) then 0 else 19

def vrA (s : List UInt8) (a : Nat) : Nat := bif vwS s a == [] then 0 else bif okT (vwS s a) then 0 else a

theorem t19 (s : List UInt8) (a : Nat) : (evn tabA2 h19 noLoops 19 [.str s, .int .i64 a] []).run =
  bif isEn en25 p25 [AV.str s, AV.int IntKind.i64 (↑a : Int)] then
   bif decide ((0 : Int) ≤ (↑a : Int) ∧ (↑a : Int) ≤ (↑(fxN wdB s (↑a : Int).toNat) : Int) ∧ (↑(fxN wdB s (↑a : Int).toNat) : Int) ≤ (↑s.length : Int)) then
    bif List.take ((↑(fxN wdB s (↑a : Int).toNat) : Int).toNat - (↑a : Int).toNat) (List.drop (↑a : Int).toNat s) == [] then
     some ((AV.tup [AV.str [], AV.int IntKind.i64 (↑a : Int), AV.agg [AV.int IntKind.i64 (0 : Int), AV.int IntKind.i64 (0 : Int)]], []))
    else
     bif decide ((↑(List.take ((↑(fxN wdB s (↑a : Int).toNat) : Int).toNat - (↑a : Int).toNat) (List.drop (↑a : Int).toNat s)).length : Int) > (64 : Int)) then
      some ((AV.tup [AV.str [], AV.int IntKind.i64 (↑a : Int), AV.agg [AV.int IntKind.i64 (19 : Int), AV.int IntKind.i64 (↑a : Int)]], []))
     else
      bif List.take ((↑(fxN wdB s (↑a : Int).toNat) : Int).toNat - (↑a : Int).toNat) (List.drop (↑a : Int).toNat s) == [] then
       some ((AV.tup [AV.str [], AV.int IntKind.i64 (↑a : Int), AV.agg [AV.int IntKind.i64 (19 : Int), AV.int IntKind.i64 (↑a : Int)]], []))
      else
       bif decide (fxN vb (List.take ((↑(fxN wdB s (↑a : Int).toNat) : Int).toNat - (↑a : Int).toNat) (List.drop (↑a : Int).toNat s)) 0 < (List.take ((↑(fxN wdB s (↑a : Int).toNat) : Int).toNat - (↑a : Int).toNat) (List.drop (↑a : Int).toNat s)).length) then
        some ((AV.tup [AV.str [], AV.int IntKind.i64 (↑a : Int), AV.agg [AV.int IntKind.i64 (19 : Int), AV.int IntKind.i64 (↑a : Int)]], []))
       else
        some ((AV.tup [AV.str (List.take ((↑(fxN wdB s (↑a : Int).toNat) : Int).toNat - (↑a : Int).toNat) (List.drop (↑a : Int).toNat s)), AV.int IntKind.i64 (↑(fxN wdB s (↑a : Int).toNat) : Int), AV.agg [AV.int IntKind.i64 (0 : Int), AV.int IntKind.i64 (0 : Int)]], []))
   else
    none
  else
   none := by kernel_rfl

structure X19 where
  s : List UInt8
  a : Nat

def en19 : X19 → List AV := fun ⟨s, a⟩ => [.str s, .int .i64 a]

def de19 : List AV → X19
  | [.str s, .int .i64 a] => ⟨s, a.toNat⟩
  | _ => ⟨default, default⟩

def p19 : X19 → Prop := fun ⟨s, a⟩ => a ≤ s.length ∧ s.length ≤ bnd

def rs19 : X19 → T AV := fun ⟨s, a⟩ => .leaf (.tup [.str (vrS s a), .int .i64 (vrE s a), .agg [.int .i64 (vrF s a), .int .i64 (vrA s a)]])

noncomputable def c19 : List AV → T AV := ccon en19 de19 p19 rs19

theorem in19 : ∀ x, de19 (en19 x) = x := by
  rintro ⟨s, a⟩
  simp only [en19, de19, Int.toNat_natCast]

theorem k19 (s : List UInt8) (a : Nat) (h : a ≤ s.length ∧ s.length ≤ bnd) : isEn en19 p19 [.str s, .int .i64 a] = true := isEn_true (enc := en19) (p := p19) ⟨s, a⟩ h

theorem e19 (s : List UInt8) (a : Nat) (hF : FitsL [.str s, .int .i64 a]) (hp : a ≤ s.length ∧ s.length ≤ bnd) : (evn tabA2 h19 noLoops 19 [.str s, .int .i64 a] []).run = (.leaf (.tup [.str (vrS s a), .int .i64 (vrE s a), .agg [.int .i64 (vrF s a), .int .i64 (vrA s a)]]) : T AV).run.map fun r => (r, []) := by
  refine (t19 s a).trans ?_
  obtain ⟨h1, h2⟩ := hp
  have hb := h2
  simp only [bnd] at hb
  have hf := fxN_le (q := wdB) h1
  rw [cond_chk (k25 s a ⟨h1, h2⟩)]
  simp only [Int.toNat_natCast]
  rw [decide_eq_true (show (0 : Int) ≤ a ∧ (a : Int) ≤ (fxN wdB s a : Int) ∧ (fxN wdB s a : Int) ≤ (s.length : Int) by omega)]
  have hv : List.take (fxN wdB s a - a) (List.drop a s) = vwS s a := by
    unfold vwS fxN
    rw [Nat.add_sub_cancel_left]
    have h := List.take_left (l₁ := (s.drop a).takeWhile wdB) (l₂ := (s.drop a).dropWhile wdB)
    rwa [List.takeWhile_append_dropWhile] at h
  simp only [hv]
  unfold vrS vrE vrF vrA okT
  cases hn : (vwS s a == []) with
  | true =>
    simp only [cond_true, Bool.not_true, Bool.false_and, Bool.and_false, cond_false]
    rfl
  | false =>
    cases decide (((vwS s a).length : Int) > 64) with
    | true => rfl
    | false => cases decide (fxN vb (vwS s a) 0 < (vwS s a).length) <;> rfl

theorem s19 : Sound1 Tryd.prog ⟨19, true, pcon c19⟩ := by
  refine sound_c (soundTab_of all_tabA2) H0 in19 (hn := h19) (m := 20) (k := 9) (Λ := noLoops) (fun i hi => anyLoops) ?_
  rintro ⟨s, a⟩ hp hF
  exact e19 s a hF hp

noncomputable def tabA3 : Tab := ⟨19, true, pcon c19⟩ :: tabA2

theorem all_tabA3 : ∀ e, e ∈ tabA3 → Sound1 Tryd.prog e := (sound_mem_tab s19 all_tabA2)

theorem ok_tabA3 : SoundTab Tryd.prog tabA3 := soundTab_of all_tabA3

def noE (s : List UInt8) (p : Nat) : Nat := bif decide (p < s.length) then 10 else 11

theorem t18 (s : List UInt8) (a : Nat) : (evn tabA3 h18 noLoops 18 [.str s, .int .i64 a] []).run =
  bif decide ((↑a : Int) ≥ (↑s.length : Int)) then
   some ((AV.agg [AV.int IntKind.i64 (11 : Int), AV.int IntKind.i64 (↑s.length : Int)], []))
  else
   some ((AV.agg [AV.int IntKind.i64 (10 : Int), AV.int IntKind.i64 (↑a : Int)], [])) := by kernel_rfl

structure X18 where
  s : List UInt8
  a : Nat

def en18 : X18 → List AV := fun ⟨s, a⟩ => [.str s, .int .i64 a]

def de18 : List AV → X18
  | [.str s, .int .i64 a] => ⟨s, a.toNat⟩
  | _ => ⟨default, default⟩

def p18 : X18 → Prop := fun ⟨s, a⟩ => a ≤ s.length ∧ s.length ≤ bnd

def rs18 : X18 → T AV := fun ⟨s, a⟩ => .leaf (.agg [.int .i64 (noE s a : Nat), .int .i64 a])

noncomputable def c18 : List AV → T AV := ccon en18 de18 p18 rs18

theorem in18 : ∀ x, de18 (en18 x) = x := by
  rintro ⟨s, a⟩
  simp only [en18, de18, Int.toNat_natCast]

theorem k18 (s : List UInt8) (a : Nat) (h : a ≤ s.length ∧ s.length ≤ bnd) : isEn en18 p18 [.str s, .int .i64 a] = true := isEn_true (enc := en18) (p := p18) ⟨s, a⟩ h

theorem e18 (s : List UInt8) (a : Nat) (hF : FitsL [.str s, .int .i64 a]) (hp : a ≤ s.length ∧ s.length ≤ bnd) : (evn tabA3 h18 noLoops 18 [.str s, .int .i64 a] []).run = (.leaf (.agg [.int .i64 (noE s a : Nat), .int .i64 a]) : T AV).run.map fun r => (r, []) := by
  refine (t18 s a).trans ?_
  unfold noE
  obtain ⟨h1, h2⟩ := hp
  by_cases h : a < s.length
  · rw [decide_eq_false (show ¬ (a : Int) ≥ s.length by omega), decide_eq_true h]; rfl
  · have e : a = s.length := by omega
    rw [decide_eq_true (show (a : Int) ≥ s.length by omega), decide_eq_false h]
    subst e; rfl

theorem s18 : Sound1 Tryd.prog ⟨18, true, pcon c18⟩ := by
  refine sound_c (soundTab_of all_tabA3) H0 in18 (hn := h18) (m := 20) (k := 9) (Λ := noLoops) (fun i hi => anyLoops) ?_
  rintro ⟨s, a⟩ hp hF
  exact e18 s a hF hp

noncomputable def tabA4 : Tab := ⟨18, true, pcon c18⟩ :: tabA3

theorem all_tabA4 : ∀ e, e ∈ tabA4 → Sound1 Tryd.prog e := (sound_mem_tab s18 all_tabA3)

theorem ok_tabA4 : SoundTab Tryd.prog tabA4 := soundTab_of all_tabA4
end Go.Mvs

/- Lemmas for the claims of this seat (a verified symbolic evaluator, and contracts of functions): own work; no condition. -/
import Derived.Test.YtdkmbohpmfakkaaDoorFnO
import Derived.Test.YtdkmbohpmfakkaaDoorEvE
import Derived.Test.YtdkmbohpmfakkaaDoorFnG
namespace Go.Mvn

open Go Go.Proofs Go.Ab

set_option maxRecDepth 100000

set_option linter.unusedVariables false

set_option linter.unusedSimpArgs false

/-! ### maven.Sort of an own row -/

noncomputable def zZ : Nat → Nat → AV := rowF 1 (List.map (fun i => (List.map aconst1 (Value.string { data := #[] }).cells.toList).getD (i % 1) AV.junk) (List.range 0))

theorem t25 (n : Nat) (f : Nat → List UInt8) : (evn tabZ2 h25 noLoops 25 [.row 0 1 0 n] [some (.row 1 n (rowS f))]).run =
    bif decide (0 + n ≤ n) then bif decide ((0 + n) * 16 ≤ 140737488355328 ∧ 0 + n ≤ 4611686018427387903) then
      bif isEn en70 p70 ([.row 0 1 0 (0 + n), .int .i64 ((0 + n : Nat) : Int), .fn 18 []], [some (.row 1 (0 + n) (appF 0 zZ fun i => rowS f (0 + i)))]) then
        some (.row 1 1 0 (0 + n), [some (.row 1 n (rowS f)), some (.row 1 (0 + n) (rowS (sortG cmpM (unS (appF 0 zZ fun i => rowS f (0 + i))) 0 (0 + n))))]) else none else none else none := by kernel_rfl

theorem fn_zero (f : Nat → List UInt8) : (fun i => rowS f (0 + i)) = rowS f := by
  funext i
  rw [Nat.zero_add]

theorem r25 (n : Nat) (f : Nat → List UInt8) (h : n ≤ 8796093022208) : (evn tabZ2 h25 noLoops 25 [.row 0 1 0 n] [some (.row 1 n (rowS f))]).run =
    some (.row 1 1 0 n, [some (.row 1 n (rowS f)), some (.row 1 n (rowS (sortG cmpM f 0 n)))]) := by
  refine (t25 n f).trans ?_
  rw [decide_eq_true (show 0 + n ≤ n by omega), decide_eq_true (show (0 + n) * 16 ≤ 140737488355328 ∧ 0 + n ≤ 4611686018427387903 by omega), appF_zero, fn_zero, Nat.zero_add, k70 n f (by omega)]
  rfl

structure X25 where
  n : Nat
  f : Nat → List UInt8

def en25 : X25 → List AV × Hp := fun ⟨n, f⟩ => ([.row 0 1 0 n], [some (.row 1 n (rowS f))])

def de25 : List AV × Hp → X25
  | ([.row _ _ _ n], [some (.row _ _ g)]) => ⟨n, unS g⟩
  | _ => ⟨0, fun _ => []⟩

def p25 : X25 → Prop := fun ⟨n, f⟩ => n ≤ 8796093022208

def rs25 : X25 → T (AV × Hp) := fun ⟨n, f⟩ => .leaf (.row 1 1 0 n, [some (.row 1 n (rowS f)), some (.row 1 n (rowS (sortG cmpM f 0 n)))])

noncomputable def c25 : List AV → Hp → T (AV × Hp) := mcon en25 de25 p25 rs25

theorem in25 : ∀ x, de25 (en25 x) = x := by
  rintro ⟨n, f⟩
  simp only [en25, de25, unS_rowS]

theorem k25 (n : Nat) (f : Nat → List UInt8) (h : n ≤ 8796093022208) : isEn en25 p25 ([.row 0 1 0 n], [some (.row 1 n (rowS f))]) = true := isEn_true (enc := en25) (p := p25) ⟨n, f⟩ h

theorem s25 : Sound1 Tryd.prog ⟨25, false, gcon c25⟩ := by
  refine sound_cm (soundTab_of all_tabZ2) in25 (hn := h25) (m := 20) (k := 9) (Λ := noLoops) (fun _ _ i hi => anyLoopsB) ?_
  rintro ⟨n, f⟩ hp hF hH
  exact r25 n f hp

noncomputable def tabZ3 : Tab := ⟨25, false, gcon c25⟩ :: tabZ2

theorem all_tabZ3 : ∀ e, e ∈ tabZ3 → Sound1 Tryd.prog e := (sound_mem_tab s25 all_tabZ2)

theorem ok_tabZ3 : SoundTab Tryd.prog tabZ3 := soundTab_of all_tabZ3
end Go.Mvn
namespace Go.Mvn

open Go Go.Proofs Go.Ab

set_option maxRecDepth 100000

set_option linter.unusedVariables false

set_option linter.unusedSimpArgs false

/-! ### The law MavenOrders: own rows as slices -/

theorem s19o : Sound1 Tryd.prog ⟨19, false, scon [.rows 3] c19⟩ := sound_scon s19 [.rows 3]

theorem s21o : Sound1 Tryd.prog ⟨21, false, scon [.rows 3, .rows 3] c21⟩ := sound_scon s21 [.rows 3, .rows 3]

theorem s10o : Sound1 Tryd.prog ⟨10, false, scon [.rows 3, .rows 3] c10⟩ := sound_scon s10 [.rows 3, .rows 3]

theorem s24o : Sound1 Tryd.prog ⟨24, false, scon [.rows 1, .rows 1] c24⟩ := sound_scon s24 [.rows 1, .rows 1]

noncomputable def tabZ4 : Tab := ⟨19, false, scon [.rows 3] c19⟩ :: ⟨21, false, scon [.rows 3, .rows 3] c21⟩ :: ⟨10, false, scon [.rows 3, .rows 3] c10⟩ :: ⟨24, false, scon [.rows 1, .rows 1] c24⟩ :: tabZ3

theorem all_tabZ4 : ∀ e, e ∈ tabZ4 → Sound1 Tryd.prog e := sound_mem_tab s19o (sound_mem_tab s21o (sound_mem_tab s10o (sound_mem_tab s24o all_tabZ3)))
end Go.Mvn
namespace Go.Mvn

open Go Go.Proofs Go.Ab

set_option maxRecDepth 100000

set_option linter.unusedVariables false

set_option linter.unusedSimpArgs false

/-! ### The law MavenOrders -/

noncomputable def zT : Nat → Nat → AV := rowF 3 (List.map (fun i => (List.map aconst1 (Value.agg #[Value.bool false, Value.bool false, Value.string { data := #[] }]).cells.toList).getD (i % 3) AV.junk) (List.range 0))

theorem t7 (a b : List Tok) (s t : List UInt8) (l : List (List UInt8)) : (evn tabZ4 h7 noLoops 7 [.sl 3 a.length (rowT (fnT a)), .sl 3 b.length (rowT (fnT b)), .str s, .str t, .sl 1 l.length (strF l)] []).run =
  bif decide ((0 + l.length) * 16 ≤ 140737488355328 ∧ 0 + l.length ≤ 4611686018427387903) then
   bif decide ((0 + a.length) * 24 ≤ 140737488355328 ∧ 0 + a.length ≤ 4611686018427387903) then
    bif decide (0 + (0 + a.length) ≤ 0 + a.length) then
     bif isEn en19 p19 [AV.sl 3 (0 + a.length) (fromF 0 (appF 0 zT (rowT (fnT a))))] then
      bif isEn en20 p20 [AV.sl 3 a.length (rowT (fnT a))] then
       bif fitT (unT (fromF 0 (appF 0 zT (rowT (fnT a))))) (0 + a.length) == fitT (unT (rowT (fnT a))) a.length then
        bif decide (0 + (0 + a.length) ≤ 0 + a.length) then
         bif isEn en21 p21 [AV.sl 3 (0 + a.length) (fromF 0 (appF 0 zT (rowT (fnT a)))), AV.sl 3 b.length (rowT (fnT b))] then
          bif isEn en22 p22 [AV.sl 3 a.length (rowT (fnT a)), AV.sl 3 b.length (rowT (fnT b))] then
           bif ordL (unT (fromF 0 (appF 0 zT (rowT (fnT a))))) (0 + a.length) (unT (rowT (fnT b))) b.length == ordL (unT (rowT (fnT a))) a.length (unT (rowT (fnT b))) b.length then
            bif decide (0 + (0 + a.length) ≤ 0 + a.length) then
             bif isEn en10 p10 [AV.sl 3 (0 + a.length) (fromF 0 (appF 0 zT (rowT (fnT a)))), AV.sl 3 a.length (rowT (fnT a))] then
              bif decide (unL (0 + a.length) (fromF 0 (appF 0 zT (rowT (fnT a)))) = unL a.length (rowT (fnT a))) then
               bif cmpM s t == cmpM s t then
                bif isEn en25 p25 ([AV.row 0 1 0 (0 + l.length)], [some (AObj.row 1 (0 + l.length) (appF 0 zZ (strF l)))]) then
                 bif isEn en26 p26 ([AV.sl 1 l.length (strF l)], []) then
                  bif decide (l.length = 0) then
                   bif decide (0 + (0 + l.length) ≤ 0 + l.length) then
                    bif isEn en24 p24 [AV.sl 1 (0 + l.length) (fromF 0 (rowS (sortG cmpM (unS (appF 0 zZ (strF l))) 0 (0 + l.length)))), AV.sl 1 0 (strF [])] then
                     bif txtF (0 + l.length) 0 (unS (fromF 0 (rowS (sortG cmpM (unS (appF 0 zZ (strF l))) 0 (0 + l.length))))) (unS (strF [])) then
                      bif decide (0 + (0 + l.length) ≤ 0 + l.length) then
                       bif isEn en24 p24 [AV.sl 1 (0 + l.length) (fromF 0 (rowS (unS (appF 0 zZ (strF l))))), AV.sl 1 l.length (strF l)] then
                        bif txtF (0 + l.length) l.length (unS (fromF 0 (rowS (unS (appF 0 zZ (strF l)))))) (unS (strF l)) then
                         some ((AV.bool true, []))
                        else
                         some ((AV.bool false, []))
                       else
                        none
                      else
                       none
                     else
                      some ((AV.bool false, []))
                    else
                     none
                   else
                    none
                  else
                   bif decide (0 + (0 + l.length) ≤ 0 + l.length) then
                    bif decide (0 + l.length ≤ l.length) then
                     bif isEn en24 p24 [AV.sl 1 (0 + l.length) (fromF 0 (rowS (sortG cmpM (unS (appF 0 zZ (strF l))) 0 (0 + l.length)))), AV.sl 1 l.length (fromF 0 (rowS (outS cmpM nilF (unS (strF l)) l.length)))] then
                      bif txtF (0 + l.length) l.length (unS (fromF 0 (rowS (sortG cmpM (unS (appF 0 zZ (strF l))) 0 (0 + l.length))))) (unS (fromF 0 (rowS (outS cmpM nilF (unS (strF l)) l.length)))) then
                       bif decide (0 + (0 + l.length) ≤ 0 + l.length) then
                        bif isEn en24 p24 [AV.sl 1 (0 + l.length) (fromF 0 (rowS (unS (appF 0 zZ (strF l))))), AV.sl 1 l.length (strF l)] then
                         bif txtF (0 + l.length) l.length (unS (fromF 0 (rowS (unS (appF 0 zZ (strF l)))))) (unS (strF l)) then
                          some ((AV.bool true, []))
                         else
                          some ((AV.bool false, []))
                        else
                         none
                       else
                        none
                      else
                       some ((AV.bool false, []))
                     else
                      none
                    else
                     none
                   else
                    none
                 else
                  none
                else
                 none
               else
                some ((AV.bool false, []))
              else
               some ((AV.bool false, []))
             else
              none
            else
             none
           else
            some ((AV.bool false, []))
          else
           none
         else
          none
        else
         none
       else
        some ((AV.bool false, []))
      else
       none
     else
      none
    else
     none
   else
    none
  else
   none := by kernel_rfl

theorem fbad_allN {q : Nat → Bool} : ∀ (k i n : Nat), i + k = n → (∀ j, j < n → q j = true) → fbad q k i = n
  | 0, i, n, h1, h2 => by unfold fbad; omega
  | k + 1, i, n, h1, h2 => by
    unfold fbad
    rw [h2 i (by omega), cond_true]
    exact fbad_allN k (i + 1) n (by omega) h2

theorem txt_eq {n : Nat} {f g : Nat → List UInt8} (h : ∀ j, j < n → f j = g j) : txtF n n f g = true := by
  unfold txtF
  rw [fbad_allN n 0 n (by omega) fun j hj => by unfold eqW; rw [h j hj]; simp]
  simp

theorem sort_out (f : Nat → List UInt8) (n : Nat) : ∀ j, j < n → sortG cmpM f 0 n j = outS cmpM nilF f n j := by
  have h := (seg_sortG (F := cmpM) f 0 n).trans (outS_ok cmpX_ord nilF f n).symm
  intro j hj
  have h2 := congrArg (fun l => l.getD j []) h
  rw [seg_get (by omega), seg_get (by omega)] at h2
  simpa using h2

theorem tree7 (a b : List Tok) (s t : List UInt8) (l : List (List UInt8)) (h1 : a.length * 24 ≤ 140737488351232) (h2 : b.length * 24 ≤ 140737488351232) (h3 : l.length * 16 ≤ 140737488351232) :
    (evn tabZ4 h7 noLoops 7 [.sl 3 a.length (rowT (fnT a)), .sl 3 b.length (rowT (fnT b)), .str s, .str t, .sl 1 l.length (strF l)] []).run = some (.bool true, []) := by
  refine (t7 a b s t l).trans ?_
  rw [appF_zero, appF_zero, Nat.zero_add a.length, Nat.zero_add l.length, Nat.zero_add, Nat.zero_add]
  rw [show fromF 0 (rowT (fnT a)) = rowT (fnT a) from rfl, unT_rowT, unT_rowT, decide_eq_true (show l.length * 16 ≤ 140737488355328 ∧ l.length ≤ 4611686018427387903 by omega),
    decide_eq_true (show a.length * 24 ≤ 140737488355328 ∧ a.length ≤ 4611686018427387903 by omega), decide_eq_true (Nat.le_refl a.length),
    k19 _ _ (by simp only [bnd]; omega), k20 _ _ (by simp only [bnd]; omega), k21 _ _ _ _ ⟨by simp only [bnd]; omega, by simp only [bnd]; omega⟩, k22 _ _ _ _ ⟨by simp only [bnd]; omega, by simp only [bnd]; omega⟩,
    k10 _ _ ⟨by simp only [bnd]; omega, by simp only [bnd]; omega⟩]
  rw [strF_rowS l]
  generalize (fun i => l.getD i []) = f
  generalize l.length = n at *
  have n1 : n ≤ bnd := by simp only [bnd]; omega
  rw [unS_rowS, k25 _ _ (by omega), k26 _ _ (by omega), decide_eq_true (Nat.le_refl n)]
  rw [show fromF 0 (rowS (sortG cmpM f 0 n)) = rowS (sortG cmpM f 0 n) from rfl, show fromF 0 (rowS f) = rowS f from rfl, show fromF 0 (rowS (outS cmpM nilF f n)) = rowS (outS cmpM nilF f n) from rfl,
    show strF [] = rowS (fun i => ([] : List (List UInt8)).getD i []) from rfl, k24 _ _ _ _ n1, k24 _ _ _ _ n1, k24 _ _ _ _ n1]
  simp only [unS_rowS, cond_true, beq_self_eq_true, decide_true, txt_eq (fun _ _ => rfl), txt_eq (sort_out f n)]
  by_cases h0 : n = 0
  · subst h0
    rfl
  · rw [decide_eq_false h0]
    rfl
end Go.Mvn
namespace Go.Mvn
open Go Go.Proofs Go.ChangeShapes Go.WideShapes Go.Ab Go.Deep
set_option linter.unusedVariables false
set_option linter.unusedSimpArgs false
/-! ### Arguments that hold rows of tokens -/
def smallT (L : List Tok) : Prop := L.length ≤ bnd ∧ ∀ t ∈ L, t.text.length ≤ bnd
def RowK {H : Type} (L : List Tok) (d : DataW H) : Prop := (L = [] ∧ d = .nil) ∨ ∃ sp, d = .slice (L.map fun t => .agg [.lit (.bool t.dash), .lit (.bool t.num), .lit (.string t.text)]) sp
section
variable {P : Program} {H : Type} {enc : TypeId × Value → H} {W : World}
theorem trod_bool_at {base : Nat} {sp : Nat → Bool} {held : Bool} {n : Nat} {u : TypeId} {a : Value} {q : DataW H × List MemPlace} (hu : P.underlying u = some .bool) (hq : DataW.trod enc P W base sp held n u [a] = some q) : ∃ x : Bool, a = .bool x ∧ q.1 = .lit (.bool x) := by
  obtain ⟨n, rfl⟩ : ∃ m, n = m + 1 := by cases n with
    | zero => simp [DataW.trod] at hq
    | succ m => exact ⟨m, rfl⟩
  cases a <;> simp [DataW.trod, hu] at hq
  rename_i x
  exact ⟨x, rfl, by rw [← hq]⟩
theorem trod_str_at {base : Nat} {sp : Nat → Bool} {held : Bool} {n : Nat} {u : TypeId} {a : Value} {q : DataW H × List MemPlace} (hu : P.underlying u = some .string) (hq : DataW.trod enc P W base sp held n u [a] = some q) : ∃ x : ByteArray, a = .string x ∧ q.1 = .lit (.string x.data.toList) := by
  obtain ⟨n, rfl⟩ : ∃ m, n = m + 1 := by cases n with
    | zero => simp [DataW.trod] at hq
    | succ m => exact ⟨m, rfl⟩
  cases a <;> simp [DataW.trod, hu] at hq
  rename_i x
  exact ⟨x, rfl, by rw [← hq.2]⟩
instance : Inhabited Tok := ⟨zeroT⟩
theorem open_toks {r : Reach} {b0 base : Nat} {sp : Nat → Bool} {held : Bool} {t e : TypeId} {f0 f1 f2 : Field} {n : Nat} {a : Value} {x : DataW H × List MemPlace} (ht : P.underlying t = some (.slice e)) (he : P.underlying e = some (.struct #[f0, f1, f2]))
    (h0 : P.underlying f0.type = some .bool) (h1 : P.underlying f1.type = some .bool) (h2 : P.underlying f2.type = some .string) (o0 : f0.offset = 0) (o1 : f1.offset = 1) (o2 : f2.offset = 2)
    (ce : P.cellsOf e = 3) (c0 : P.cellsOf f0.type = 1) (c1 : P.cellsOf f1.type = 1) (c2 : P.cellsOf f2.type = 1)
    (hval : Cell.okWide P W r b0 t a) (h : DataW.trod enc P W base sp held n t [a] = some x) :
    ∃ L : List Tok, RowK L x.1 ∧ (smallT L → V (fun _ => False) W (fun _ => none) (.sl 3 L.length (rowT (fnT L))) a) := by
  unfold Cell.okWide at hval
  rw [ht] at hval
  rcases open_slice ht h with ⟨h1, rfl⟩ | ⟨ad, len, cap, m, n', D, Pl, h1', hb, hl, hm, hmm, rfl, hx⟩
  · obtain rfl : a = .slice none 0 0 := by simpa using h1
    refine ⟨[], .inl ⟨rfl, rfl⟩, fun hsm => ?_⟩
    simp only [V]
    exact ⟨by simp [bnd], .inl ⟨by first | trivial | rfl, rfl⟩⟩
  · obtain rfl : a = .slice (some ad) len cap := by simpa using h1'
    simp only [Cell.ok, ht] at hval
    obtain ⟨_, hcap, _, hspot, row, cells, hsh, _⟩ := hval
    have hlm : len ≤ m := by rw [hmm]; split <;> omega
    have hblk : ad.block < W.heap.size := by
      unfold World.shape? at hsh
      rcases Nat.lt_or_ge ad.block W.heap.size with h2 | h2
      · exact h2
      · rw [Array.getElem?_eq_none h2] at hsh; cases hsh
    have each : ∀ i, i < m → ∃ k : Tok × ByteArray, k.1.text = k.2.data.toList ∧ W.cell? (ad.add (i * 3)) = some (.bool k.1.dash) ∧ W.cell? (ad.add (i * 3 + 1)) = some (.bool k.1.num) ∧ W.cell? (ad.add (i * 3 + 2)) = some (.string k.2) ∧
        D i = .agg [.lit (.bool k.1.dash), .lit (.bool k.1.num), .lit (.string k.1.text)] := by
      intro i hi
      obtain ⟨cs', q1, q2⟩ := hx i hi
      rw [ce] at q1
      obtain ⟨_, hlen, hcell⟩ := World.cells?_some q1
      obtain ⟨y0, y1, y2, k, hxy, _, g0, g1, g2⟩ := trod_struct3 he q2
      match cs', hlen with
      | [v0, v1, v2], _ =>
        simp [o0, o1, o2, c0, c1, c2] at g0 g1 g2
        have e0 := hcell 0 (by omega)
        have e1 := hcell 1 (by omega)
        have e2 := hcell 2 (by omega)
        rw [add_add] at e0 e1 e2
        obtain ⟨d, rfl, w0⟩ := trod_bool_at h0 g0
        obtain ⟨nu, rfl, w1⟩ := trod_bool_at h1 g1
        obtain ⟨tx, rfl, w2⟩ := trod_str_at h2 g2
        refine ⟨(⟨d, nu, tx.data.toList⟩, tx), rfl, by simpa using e0, by simpa using e1, by simpa using e2, ?_⟩
        simp only [Prod.mk.injEq] at hxy
        rw [hxy.1, w0, w1, w2]
    obtain ⟨q, hq⟩ := choose_lt each
    obtain ⟨bk, of, sp'⟩ := ad
    simp only at hspot hblk
    subst hspot
    refine ⟨(List.range len).map fun i => (q i).1, .inr ⟨(List.range (m - len)).map fun j => D (len + j), ?_⟩, fun hsm => ?_⟩
    · simp only [List.map_map]
      congr 1
      exact List.map_congr_left fun i hi => (hq i (by have := List.mem_range.1 hi; omega)).2.2.2.2
    · have hbl : len ≤ bnd := by simpa using hsm.1
      simp only [V, List.length_map, List.length_range]
      refine ⟨hbl, .inr ⟨bk, of, cap, rfl, hl, hblk, id, fun i c hi hc => ?_⟩⟩
      obtain ⟨k0, k1, k2, k3, _⟩ := hq i (by omega)
      have ef : fnT ((List.range len).map fun i => (q i).1) i = (q i).1 := by
        unfold fnT
        rw [List.getD_eq_getElem?_getD, List.getElem?_map, List.getElem?_range hi]; rfl
      have ea : ∀ j, (⟨bk, of, none⟩ : Addr).add j = ⟨bk, of + j, none⟩ := fun j => by
        by_cases hj : j = 0
        · subst hj; simp [Addr.add]
        · simp [Addr.add, hj]
      rw [ea] at k1 k2 k3
      rcases (by omega : c = 0 ∨ c = 1 ∨ c = 2) with rfl | rfl | rfl
      · refine ⟨_, k1, rfl, ?_⟩
        simp only [rowT, V, ef]
      · refine ⟨_, k2, rfl, ?_⟩
        simp only [rowT, V, ef]
      · refine ⟨_, k3, rfl, ?_⟩
        simp only [rowT, V, ef, k0]
        refine ⟨by first | trivial | rfl, ?_⟩
        have := hsm.2 (q i).1 (List.mem_map.2 ⟨i, List.mem_range.2 hi, rfl⟩)
        rwa [k0] at this
theorem cells_of_slice {r : Reach} {b0 : Nat} {t e : TypeId} {v : Value} (ht : P.underlying t = some (.slice e)) (hval : Value.okWide P W r b0 t v) : v.cells.toList = [v] ∧ Cell.okWide P W r b0 t v := by
  unfold Value.okWide at hval
  rw [ht] at hval
  refine ⟨?_, hval⟩
  unfold Cell.okWide at hval
  rw [ht] at hval
  cases v <;> first | rfl | (simp [Cell.ok, ht] at hval)
theorem open_toksV {r : Reach} {b0 base : Nat} {sp : Nat → Bool} {held : Bool} {t e : TypeId} {f0 f1 f2 : Field} {v : Value} {d : DataW H} {ps : List MemPlace} (ht : P.underlying t = some (.slice e)) (he : P.underlying e = some (.struct #[f0, f1, f2]))
    (h0 : P.underlying f0.type = some .bool) (h1 : P.underlying f1.type = some .bool) (h2 : P.underlying f2.type = some .string) (o0 : f0.offset = 0) (o1 : f1.offset = 1) (o2 : f2.offset = 2)
    (ce : P.cellsOf e = 3) (c0 : P.cellsOf f0.type = 1) (c1 : P.cellsOf f1.type = 1) (c2 : P.cellsOf f2.type = 1)
    (hval : Value.okWide P W r b0 t v) (hd : DataW.Trod enc P W base sp held t v d ps) :
    ∃ L : List Tok, RowK L d ∧ (smallT L → V (fun _ => False) W (fun _ => none) (.sl 3 L.length (rowT (fnT L))) v) := by
  obtain ⟨n, hn⟩ := hd
  obtain ⟨q1, q2⟩ := cells_of_slice ht hval
  rw [q1] at hn
  exact open_toks ht he h0 h1 h2 o0 o1 o2 ce c0 c1 c2 q2 hn
theorem open_rowV {r : Reach} {b0 base : Nat} {sp : Nat → Bool} {held : Bool} {t e : TypeId} {v : Value} {d : DataW H} {ps : List MemPlace} (ht : P.underlying t = some (.slice e)) (he : P.underlying e = some .string) (ce : P.cellsOf e = 1)
    (hval : Value.okWide P W r b0 t v) (hd : DataW.Trod enc P W base sp held t v d ps) :
    ∃ l : List (List UInt8), RowD l d ∧ (smallL l → V (fun _ => False) W (fun _ => none) (.sl 1 l.length (strF l)) v) := by
  obtain ⟨n, hn⟩ := hd
  obtain ⟨q1, q2⟩ := cells_of_slice ht hval
  rw [q1] at hn
  exact open_row ht he ce q2 hn
end
/-! ### Weights -/
section
variable {P : Program} {H : Type}
theorem w_str {t : TypeId} {x : List UInt8} (hw : ∀ n ∈ (DataW.lit (.string x) : DataW H).weights P t, n ≤ reachBytes) : x.length ≤ reachBytes := hw _ (by simp [DataW.weights])
theorem w_all {e : TypeId} : ∀ {L : List (DataW H)}, (∀ n ∈ DataW.weightsAll P e L, n ≤ reachBytes) → ∀ d ∈ L, ∀ n ∈ d.weights P e, n ≤ reachBytes
  | [], _, d, hd => by simp at hd
  | x :: L, h, d, hd => by
    simp only [DataW.weightsAll, List.mem_append] at h
    rcases List.mem_cons.1 hd with rfl | hd
    · exact fun n hn => h n (.inl hn)
    · exact w_all (fun n hn => h n (.inr hn)) d hd
theorem w_slice {t e : TypeId} {k : Nat} {L sp : List (DataW H)} (ht : P.underlying t = some (.slice e)) (hb : P.bytesOf e = k) (hw : ∀ n ∈ (DataW.slice L sp).weights P t, n ≤ reachBytes) :
    L.length * k ≤ reachBytes ∧ ∀ d ∈ L, ∀ n ∈ d.weights P e, n ≤ reachBytes := by
  simp only [DataW.weights, ht, hb] at hw
  refine ⟨?_, w_all fun n hn => hw n (by simp [hn])⟩
  have := hw _ (List.mem_cons_self ..)
  have h2 : L.length * k ≤ (L.length + sp.length) * k := Nat.mul_le_mul_right _ (by omega)
  omega
theorem w_row {t e : TypeId} {k : Nat} {l : List (List UInt8)} {d : DataW H} (ht : P.underlying t = some (.slice e)) (hb : P.bytesOf e = k) (hk : 1 ≤ k) (h : RowD l d) (hw : ∀ n ∈ d.weights P t, n ≤ reachBytes) :
    l.length * k ≤ reachBytes ∧ smallL l := by
  rcases h with ⟨rfl, rfl⟩ | ⟨sp, rfl⟩
  · exact ⟨by simp, by simp [bnd], by simp⟩
  · obtain ⟨h1, h2⟩ := w_slice ht hb hw
    simp only [List.length_map] at h1
    refine ⟨h1, ?_, fun s hs => ?_⟩
    · have : l.length * 1 ≤ l.length * k := Nat.mul_le_mul_left _ hk
      simp only [reachBytes, bnd] at *; omega
    · have := w_str (h2 _ (List.mem_map.2 ⟨s, hs, rfl⟩))
      simp only [reachBytes, bnd] at *; omega
theorem w_toks {t e : TypeId} {k : Nat} {f0 f1 f2 : Field} {l : List Tok} {d : DataW H} (ht : P.underlying t = some (.slice e)) (he : P.underlying e = some (.struct #[f0, f1, f2])) (hb : P.bytesOf e = k) (hk : 1 ≤ k) (h : RowK l d) (hw : ∀ n ∈ d.weights P t, n ≤ reachBytes) :
    l.length * k ≤ reachBytes ∧ smallT l := by
  rcases h with ⟨rfl, rfl⟩ | ⟨sp, rfl⟩
  · exact ⟨by simp, by simp [bnd], by simp⟩
  · obtain ⟨h1, h2⟩ := w_slice ht hb hw
    simp only [List.length_map] at h1
    refine ⟨h1, ?_, fun s hs => ?_⟩
    · have : l.length * 1 ≤ l.length * k := Nat.mul_le_mul_left _ hk
      simp only [reachBytes, bnd] at *; omega
    · have := h2 _ (List.mem_map.2 ⟨s, hs, rfl⟩) s.text.length (by simp [DataW.weights, he, DataW.weightsEach])
      simp only [reachBytes, bnd] at *; omega
end
theorem treeOrders (a b : List Tok) (s t : List UInt8) (l : List (List UInt8)) (h1 : a.length * 24 ≤ reachBytes) (h2 : b.length * 24 ≤ reachBytes) (h3 : l.length * 16 ≤ reachBytes) :
    (evn tabZ4 h7 noLoops 7 [.sl 3 a.length (rowT (fnT a)), .sl 3 b.length (rowT (fnT b)), .str s, .str t, .sl 1 l.length (strF l)] []).run = some (.bool true, []) :=
  tree7 a b s t l h1 h2 h3
theorem ok_tabZ4 : SoundTab Tryd.prog tabZ4 := soundTab_of all_tabZ4
end Go.Mvn
namespace Go.Proofs.YtdkmbohpmfakkaaDoor
open Go.ChangeShapes Go.WideShapes Go.ChangeAt Go.RowKit Go.Ab Go.Mvn
theorem cells51 : Tryd.prog.cellsOf 51 = 3 := by kernel_rfl
theorem cells9 : Tryd.prog.cellsOf 9 = 1 := by kernel_rfl
theorem cells4 : Tryd.prog.cellsOf 4 = 1 := by kernel_rfl
theorem bytes51 : Tryd.prog.bytesOf 51 = 24 := by kernel_rfl
theorem bytes9 : Tryd.prog.bytesOf 9 = 16 := by kernel_rfl
theorem rec22 : Tryd.prog.readableRec 22 = true ∧ 22 < Tryd.prog.types.size := ⟨by kernel_rfl, of_decide_eq_true (by kernel_rfl)⟩
theorem rec36 : Tryd.prog.readableRec 36 = true ∧ 36 < Tryd.prog.types.size := ⟨by kernel_rfl, of_decide_eq_true (by kernel_rfl)⟩
end Go.Proofs.YtdkmbohpmfakkaaDoor

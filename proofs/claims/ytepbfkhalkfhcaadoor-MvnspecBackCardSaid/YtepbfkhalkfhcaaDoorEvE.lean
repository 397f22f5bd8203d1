/- Lemmas for the claims of this seat (a verified symbolic evaluator, and contracts of functions): own work; no condition. -/
import Derived.Test.YtepbfkhalkfhcaaDoorEvD
import Derived.Deep.Strs
namespace Go.Ab
open Go
set_option linter.unusedVariables false
set_option linter.unusedSimpArgs false

/-! ### Rows of texts -/
def strF (l : List (List UInt8)) : Nat → Nat → AV := fun i _ => .str (l.getD i [])
def strOf : AV → List UInt8
  | .str s => s
  | _ => []
/-- The texts of a row's first n places. -/
def strsOf (f : Nat → Nat → AV) (n : Nat) : List (List UInt8) := (List.range n).map fun i => strOf (f i 0)
/-- A row of texts. -/
def IsStrs (f : Nat → Nat → AV) (n : Nat) : Prop := ∃ l : List (List UInt8), l.length = n ∧ f = strF l
theorem strsOf_strF (l : List (List UInt8)) : strsOf (strF l) l.length = l := by
  unfold strsOf strF
  refine List.ext_getElem? fun i => ?_
  rw [List.getElem?_map]
  by_cases h : i < l.length
  · rw [List.getElem?_range h, Option.map_some, strOf, List.getD_eq_getElem?_getD, List.getElem?_eq_getElem h]; rfl
  · rw [List.getElem?_eq_none (by simpa using h), List.getElem?_eq_none (by simpa using h)]; rfl
theorem isStrs_strF (l : List (List UInt8)) : IsStrs (strF l) l.length := ⟨l, rfl, rfl⟩
theorem IsStrs.eq {f : Nat → Nat → AV} {n : Nat} (h : IsStrs f n) : f = strF (strsOf f n) ∧ (strsOf f n).length = n := by
  obtain ⟨l, rfl, rfl⟩ := h
  rw [strsOf_strF]; exact ⟨rfl, rfl⟩
/-- One text appended. -/
theorem strF_app (l : List (List UInt8)) (d : List UInt8) : appF l.length (strF l) (fun i => rowF 1 [AV.str d] (0 + i)) = strF (l ++ [d]) := by
  funext i
  unfold appF
  split
  · rename_i h
    funext c
    unfold strF
    rw [List.getD_eq_getElem?_getD, List.getD_eq_getElem?_getD, List.getElem?_append_left h]
  · rename_i h
    funext c
    show AV.str ([d].getD (0 + (i - l.length)) []) = _
    unfold strF
    rw [List.getD_eq_getElem?_getD, List.getD_eq_getElem?_getD, List.getElem?_append_right (by omega), Nat.zero_add]
theorem strF_one (d : List UInt8) : (fun i => rowF 1 [AV.str d] (0 + i)) = strF [d] := by
  funext i
  funext c
  show AV.str ([d].getD (0 + i) []) = _
  rw [Nat.zero_add]; rfl
end Go.Ab
namespace Go.Ab
open Go
set_option linter.unusedVariables false
set_option linter.unusedSimpArgs false

/-! ### Calls that read our rows as if they were another's -/
inductive Sh where
  | any
  | rows (sz : Nat)
  | agg (l : List Sh)
/-- A row from a place on. -/
def fromF : Nat → (Nat → Nat → AV) → Nat → Nat → AV
  | 0, f => f
  | lo + 1, f => fun i => f (lo + 1 + i)
mutual
def cvtT : Sh → Hp → AV → T AV
  | .any, hp, a => match norefA a with
    | true => .leaf a
    | false => .fail
  | .rows sz, hp, .nilsl => .leaf (.sl sz 0 (strF []))
  | .rows sz, hp, .sl sz' n f => match Nat.beq sz sz' with
    | true => .leaf (.sl sz n f)
    | false => .fail
  | .rows sz, hp, .row b sz' lo n => match hp[b]? with
    | some (some (.row sz'' m f)) => match Nat.beq sz sz' && Nat.beq sz sz'' with
      | true => .chk (decide (lo + n ≤ m)) (.leaf (.sl sz n (fromF lo f)))
      | false => .fail
    | _ => .fail
  | .agg l, hp, .agg cs => (cvtTL l hp cs).bind fun cs' => .leaf (.agg cs')
  | _, _, _ => .fail
def cvtTL : List Sh → Hp → List AV → T (List AV)
  | [], hp, [] => .leaf []
  | s :: ss, hp, a :: as => (cvtT s hp a).bind fun a' => (cvtTL ss hp as).bind fun as' => .leaf (a' :: as')
  | _, _, _ => .fail
end
section
variable {P : Program} {X0 : Blk} {σ : Sub} {hp : Hp} {w : World}
theorem V_free {X : Blk} {a : AV} {v : Value} {s : Sub} (h : V X w s a v) : V (fun _ => False) w s a v := V_mono (fun _ _ h => h.elim) (Step.refl X w) a v _ _ (fun _ _ h => h) h
theorem V_row_sl (hR : Rel X0 σ hp w) {b sz lo n m : Nat} {f : Nat → Nat → AV} {v : Value} (ho : hp[b]? = some (some (.row sz m f))) (hle : lo + n ≤ m) (hV : V (Xof X0 σ hp) w σ (.row b sz lo n) v) :
    V (fun _ => False) w (fun _ => none) (.sl sz n (fromF lo f)) v := by
  have hf : fromF lo f = fun i => f (lo + i) := by
    cases lo with
    | zero => funext i; simp [fromF]
    | succ lo => rfl
  rw [hf]
  simp only [V] at hV ⊢
  obtain ⟨hn, g, o, cap, arr, t, fr, h1, h2, h3, h4, h5, h6⟩ := hV
  obtain ⟨g', q1, arr', ⟨t', fr', q2, q3, q4⟩, q5, q6, q7⟩ := hR.obj b _ ho
  rw [h1] at q1; injection q1 with q1; subst q1
  rw [h5] at q2; injection q2 with q2; injection q2 with q2 _ _; subst q2
  refine ⟨hn, .inr ⟨g, o, cap, h2, h3, hR.lt b g h1, id, fun i c hi hc => ?_⟩⟩
  have hoo : o = lo * sz := by
    rcases h4 with h4 | h4
    · exact h4
    · omega
  have hlt : (lo + i) * sz + c < arr.size := by
    have h8 : (lo + i + 1) * sz ≤ m * sz := Nat.mul_le_mul_right _ (by omega)
    rw [Nat.succ_mul] at h8
    omega
  have hix : o + (i * sz + c) = (lo + i) * sz + c := by rw [hoo, Nat.add_mul]; omega
  refine ⟨arr[(lo + i) * sz + c], ?_, ?_, ?_⟩
  · rw [hix]
    simp [World.cell?, h5, hlt]
  · exact q4 _ (by simp)
  · exact V_free (q7 (lo + i) c _ (by omega) hc (Array.getElem?_eq_getElem hlt))
mutual
theorem cvt_sound (hR : Rel X0 σ hp w) : (s : Sh) → (a : AV) → (a' : AV) → (v : Value) → (cvtT s hp a).run = some a' → V (Xof X0 σ hp) w σ a v → V (fun _ => False) w (fun _ => none) a' v
  | s, a, a', v, h, hV => by
    cases s with
    | any =>
      simp only [cvtT] at h
      split at h
      · rename_i hn
        simp only [T.run_leaf, Option.some.injEq] at h; subst h
        exact V_free (V_norefA hn hV)
      · cases h
    | rows sz =>
      cases a <;> simp only [cvtT] at h <;> first | (cases h; done) | skip
      case nilsl =>
        simp only [T.run_leaf, Option.some.injEq] at h; subst h
        simp only [V] at hV ⊢
        exact ⟨by simp [bnd], .inl ⟨hV, trivial⟩⟩
      case sl sz' n f =>
        split at h
        · rename_i he
          have he := Nat.eq_of_beq_eq_true he
          subst he
          simp only [T.run_leaf, Option.some.injEq] at h; subst h
          exact V_free (V_noref hV rfl)
        · cases h
      case row b sz' lo n =>
        split at h
        · rename_i sz'' m f ho
          split at h
          · rename_i he
            simp only [Bool.and_eq_true] at he
            have h1 := Nat.eq_of_beq_eq_true he.1
            have h2 := Nat.eq_of_beq_eq_true he.2
            subst h1 h2
            rw [run_chkd] at h
            split at h
            · rename_i hle
              simp only [T.run_leaf, Option.some.injEq] at h; subst h
              have := V_row_sl hR ho hle hV
              exact this
            · cases h
          · cases h
        · cases h
    | agg l =>
      cases a <;> simp only [cvtT] at h <;> first | (cases h; done) | skip
      case agg cs =>
        obtain ⟨cs', h1, h2⟩ := bind_some_inv h
        simp only [T.run_leaf, Option.some.injEq] at h2; subst h2
        simp only [V] at hV ⊢
        obtain ⟨vs, rfl, hV⟩ := hV
        exact ⟨vs, rfl, cvtL_sound hR l cs cs' _ h1 hV⟩
theorem cvtL_sound (hR : Rel X0 σ hp w) : (s : List Sh) → (as : List AV) → (as' : List AV) → (vs : List Value) → (cvtTL s hp as).run = some as' → VL (Xof X0 σ hp) w σ as vs → VL (fun _ => False) w (fun _ => none) as' vs
  | [], [], as', vs, h, hV => by
    simp only [cvtTL, T.run_leaf, Option.some.injEq] at h; subst h
    exact hV
  | s :: ss, a :: as, as', vs, h, hV => by
    simp only [cvtTL] at h
    obtain ⟨a', h1, h2⟩ := bind_some_inv h
    obtain ⟨as'', h3, h4⟩ := bind_some_inv h2
    simp only [T.run_leaf, Option.some.injEq] at h4; subst h4
    obtain ⟨u, us, rfl, h5, h6⟩ := hV
    exact ⟨u, us, rfl, cvt_sound hR s a a' u h1 h5, cvtL_sound hR ss as as'' us h3 h6⟩
  | [], _ :: _, _, _, h, _ => by simp [cvtTL] at h
  | _ :: _, [], _, _, h, _ => by simp [cvtTL] at h
end
/-- A value of no memory whatever. -/
def bareA : AV → Bool
  | .int .. | .bool _ | .str _ | .nilp | .nilsl => true
  | _ => false
def bareB (a : AV) : Bool := match a with
  | .agg cs => cs.all bareA
  | a => bareA a
def bareT (a : AV) : Bool := match a with
  | .tup vs => vs.all bareB
  | a => bareB a
theorem V_bare {X X' : Blk} {s s' : Sub} {a : AV} {v : Value} (h : bareA a = true) (hV : V X w s a v) : V X' w s' a v := by
  cases a <;> first | (simp [bareA] at h; done) | simpa only [V] using hV
theorem VL_bare {X X' : Blk} {s s' : Sub} : ∀ {as : List AV} {vs : List Value}, as.all bareA = true → VL X w s as vs → VL X' w s' as vs
  | [], vs, h, hV => hV
  | a :: as, vs, h, hV => by
    simp only [List.all_cons, Bool.and_eq_true] at h
    obtain ⟨u, us, rfl, h1, h2⟩ := hV
    exact ⟨u, us, rfl, V_bare h.1 h1, VL_bare h.2 h2⟩
theorem V_bareB {X X' : Blk} {s s' : Sub} {a : AV} {v : Value} (h : bareB a = true) (hV : V X w s a v) : V X' w s' a v := by
  unfold bareB at h
  split at h
  · simp only [V] at hV ⊢
    obtain ⟨vs, rfl, hV⟩ := hV
    exact ⟨vs, rfl, VL_bare h hV⟩
  · exact V_bare h hV
theorem VL_bareB {X X' : Blk} {s s' : Sub} : ∀ {as : List AV} {vs : List Value}, as.all bareB = true → VL X w s as vs → VL X' w s' as vs
  | [], vs, h, hV => hV
  | a :: as, vs, h, hV => by
    simp only [List.all_cons, Bool.and_eq_true] at h
    obtain ⟨u, us, rfl, h1, h2⟩ := hV
    exact ⟨u, us, rfl, V_bareB h.1 h1, VL_bareB h.2 h2⟩
theorem V_bareT {X X' : Blk} {s s' : Sub} {a : AV} {v : Value} (h : bareT a = true) (hV : V X w s a v) : V X' w s' a v := by
  unfold bareT at h
  split at h
  · simp only [V] at hV ⊢
    obtain ⟨vs, rfl, hV⟩ := hV
    exact ⟨vs, rfl, VL_bareB h hV⟩
  · exact V_bareB h hV
/-- A contract of no memory, put to work on rows of ours. -/
def scon (shs : List Sh) (c : List AV → T AV) : List AV → Hp → T (AV × Hp) := fun args hp =>
  (cvtTL shs hp args).bind fun args' => (pcon c args' []).bind fun r => match bareT r.1 with
    | true => .leaf (r.1, hp)
    | false => .fail
theorem scon_run {shs : List Sh} {c : List AV → T AV} {args : List AV} {hp hp' : Hp} {r : AV} (h : (scon shs c args hp).run = some (r, hp')) :
    hp' = hp ∧ bareT r = true ∧ ∃ args', (cvtTL shs hp args).run = some args' ∧ (pcon c args' []).run = some (r, []) := by
  unfold scon at h
  obtain ⟨args', h1, h2⟩ := bind_some_inv h
  obtain ⟨⟨r', hp2⟩, h3, h4⟩ := bind_some_inv h2
  have h5 := (pcon_run h3).2.2.2.1
  subst h5
  simp only at h4
  split at h4
  · rename_i hb
    simp only [T.run_leaf, Option.some.injEq, Prod.mk.injEq] at h4
    obtain ⟨rfl, rfl⟩ := h4
    exact ⟨rfl, hb, args', h1, h3⟩
  · cases h4
theorem sound_scon {f : FuncId} {c : List AV → T AV} (h : Sound1 P ⟨f, true, pcon c⟩) (shs : List Sh) : Sound1 P ⟨f, false, scon shs c⟩ where
  ok args hp r hp' hr X0 σ w vargs hR hV := by
    obtain ⟨rfl, hb, args', h1, h2⟩ := scon_run hr
    have hV' := cvtL_sound hR shs args args' _ h1 hV
    have hV2 : VL (Xof (fun _ => False) (fun _ => none) []) w (fun _ => none) args' vargs.toList := by rw [xof_start]; exact hV'
    refine (h.ok args' [] r [] h2 (fun _ => False) (fun _ => none) w vargs (rel_start w) hV2).mono ?_
    rintro v w' ⟨σ', g1, ⟨g2, g3⟩, g4, g5⟩
    rw [own_nil] at g2
    exact ⟨σ, fun _ _ h => h, ⟨g2.mono fun _ _ h => h.elim, fun _ _ h => h⟩, hR.step g2, V_bareT hb g5⟩
  len args hp r hp' hr := by
    obtain ⟨rfl, _⟩ := scon_run hr; exact Nat.le_refl _
  pure h := by cases h
end
end Go.Ab
namespace Go.Ab
open Go
set_option linter.unusedVariables false
set_option linter.unusedSimpArgs false
variable {P : Program}
theorem gcon_le {c c2 : List AV → Hp → T (AV × Hp)} (h : ∀ args hs r, (c args hs).run = some r → (c2 args hs).run = some r) {args : List AV} {hp : Hp} {r : AV × Hp} (hr : (gcon c args hp).run = some r) : (gcon c2 args hp).run = some r := by
  unfold gcon at hr ⊢
  simp only at hr ⊢
  split at hr
  · obtain ⟨a, h1, h2⟩ := bind_some_inv hr
    rw [T.run_bind, h _ _ _ h1]
    exact h2
  · cases hr
/-- The same contract, its leaves laid out otherwise. -/
theorem sound_le {f : FuncId} {c c2 : List AV → Hp → T (AV × Hp)} (hs : Sound1 P ⟨f, false, gcon c2⟩) (h : ∀ args hs r, (c args hs).run = some r → (c2 args hs).run = some r) : Sound1 P ⟨f, false, gcon c⟩ where
  ok args hp r hp' hr := hs.ok args hp r hp' (gcon_le h hr)
  len args hp r hp' hr := hs.len args hp r hp' (gcon_le h hr)
  pure h := by cases h
end Go.Ab
namespace Go.Ab
open Go Go.RowKit
set_option linter.unusedVariables false
set_option linter.unusedSimpArgs false

/-! ### A contract that is the kit's -/
theorem below_step {w w' : World} (h : Below w.heap.size w w') : Step (fun _ => False) w w' :=
  ⟨h.size, h.tape, h.os, h.output, fun g hg _ => h.block g hg, fun g arr t fr he => ⟨arr, fr, by rw [h.block g (Array.getElem?_eq_some_iff.1 he).1]; exact he, rfl⟩⟩
variable {P : Program}
/-- What a shelf's contract says, as a contract of ours: no memory is written, the result is plain. -/
theorem sound_shelf {f : FuncId} {c : List AV → T AV} (he : enterable P f = true)
    (h : ∀ args r, FitsL args → (c args).run = some r → bareT r = true ∧ ∀ X σ w (vargs : Array Value), VL X w σ args vargs.toList → ∃ v, V X w σ r v ∧ Calls P f vargs w fun e w' => e = .returned v ∧ Below w.heap.size w w') : Sound1 P ⟨f, true, pcon c⟩ where
  ok args hp r hp' hr X0 σ w vargs hR hV := by
    obtain ⟨h1, h2, h3, rfl, h4⟩ := pcon_run hr
    obtain ⟨hb, h5⟩ := h args r (VL_fits _ _ _ hV) h2
    obtain ⟨v, hv, hc⟩ := h5 _ _ _ _ hV
    refine .inl ⟨enter_of he _ _, callsIn_wide.2 (hc.mono ?_)⟩
    rintro e w' ⟨rfl, hbe⟩
    have hs := below_step hbe
    exact ⟨v, rfl, σ, fun _ _ h => h, ⟨hs.mono fun _ _ h => h.elim, fun _ _ h => h⟩, hR.step hs, V_bareT hb (V_mono (fun _ _ h => h) (hs.mono fun _ _ h => h.elim) r v σ σ (fun _ _ h => h) hv)⟩
  len args hp r hp' hr := by
    obtain ⟨_, _, _, rfl, _⟩ := pcon_run hr; exact Nat.le_refl _
  pure _ args hp r hp' hr := by
    obtain ⟨_, _, _, rfl, h4⟩ := pcon_run hr; exact ⟨rfl, h4⟩
/-- A row of texts, in the world. -/
theorem strs_cells {X : Blk} {w : World} {g off : Nat} {l : List (List UInt8)} (h : ∀ i c, i < l.length → c < 1 → ∃ u, w.cell? ⟨g, off + (i * 1 + c), none⟩ = some u ∧ one u = true ∧ V X w (fun _ => none) (strF l i c) u) :
    ∀ (j : Nat) (x : ByteArray), (l.map fun s => (⟨⟨s⟩⟩ : ByteArray))[j]? = some x → w.cell? ⟨g, off + j, none⟩ = some (.string x) := by
  intro j x hj
  rw [List.getElem?_map] at hj
  obtain ⟨s, hs, rfl⟩ := Option.map_eq_some_iff.1 hj
  obtain ⟨u, h1, h2, h3⟩ := h j 0 (List.getElem?_eq_some_iff.1 hs).1 (by omega)
  simp only [strF, V, List.getD_eq_getElem?_getD, hs, Option.getD_some] at h3
  rw [← h3.1, ← h1]
  simp
end Go.Ab
namespace Go.Ab
open Go
set_option linter.unusedVariables false
set_option linter.unusedSimpArgs false

/-! ### What a function lays, handed out as another's: nobody writes it again -/
inductive Fz where
  | any
  | rows (sz : Nat)
  | cap
  | agg (l : List Fz)
  | tup (l : List Fz)
def frzCap (hp : Hp) : AV → Option AV
  | .fn f [.ref b 0] => match hp[b]? with
    | some (some (.cells [a])) => if noref0 a = true then some (.fn f [.fref 1 fun _ => a]) else none
    | _ => none
  | _ => none
mutual
def frz : Fz → Hp → AV → Option AV
  | .any, hp, a => if norefA a = true then some a else none
  | .rows sz, hp, .nilsl => some (.sl sz 0 (strF []))
  | .rows sz, hp, .sl sz' n f => if sz = sz' then some (.sl sz n f) else none
  | .rows sz, hp, .row b sz' lo n => match hp[b]? with
    | some (some (.row sz'' m f)) => if sz = sz' ∧ sz = sz'' ∧ lo + n ≤ m then some (.sl sz n (fromF lo f)) else none
    | _ => none
  | .cap, hp, a => frzCap hp a
  | .agg l, hp, .agg cs => (frzL l hp cs).map .agg
  | .tup l, hp, .tup cs => (frzL l hp cs).map .tup
  | _, _, _ => none
def frzL : List Fz → Hp → List AV → Option (List AV)
  | [], hp, [] => some []
  | s :: ss, hp, a :: as => (frz s hp a).bind fun a' => (frzL ss hp as).map fun as' => a' :: as'
  | _, _, _ => none
end
section
variable {P : Program} {X0 : Blk} {σ : Sub} {hp : Hp} {w : World}
theorem V_sub {X X' : Blk} {a : AV} {v : Value} {s : Sub} (hX : ∀ g, X' g → X g) (h : V X w s a v) : V X' w s a v := V_mono (fun g _ h => hX g h) (Step.refl X w) a v _ _ (fun _ _ h => h) h
theorem V_row_own (hR : Rel X0 σ hp w) {b sz lo n m : Nat} {f : Nat → Nat → AV} {v : Value} (ho : hp[b]? = some (some (.row sz m f))) (hle : lo + n ≤ m) (hV : V (Xof X0 σ hp) w σ (.row b sz lo n) v) :
    V X0 w (fun _ => none) (.sl sz n (fromF lo f)) v := by
  have hf : fromF lo f = fun i => f (lo + i) := by
    cases lo with
    | zero => funext i; simp [fromF]
    | succ lo => rfl
  rw [hf]
  simp only [V] at hV ⊢
  obtain ⟨hn, g, o, cap, arr, t, fr, h1, h2, h3, h4, h5, h6⟩ := hV
  obtain ⟨g', q1, arr', ⟨t', fr', q2, q3, q4⟩, q5, q6, q7⟩ := hR.obj b _ ho
  rw [h1] at q1; injection q1 with q1; subst q1
  rw [h5] at q2; injection q2 with q2; injection q2 with q2 _ _; subst q2
  refine ⟨hn, .inr ⟨g, o, cap, h2, h3, hR.lt b g h1, hR.sep b g h1, fun i c hi hc => ?_⟩⟩
  have hoo : o = lo * sz := by
    rcases h4 with h4 | h4
    · exact h4
    · omega
  have hlt : (lo + i) * sz + c < arr.size := by
    have h8 : (lo + i + 1) * sz ≤ m * sz := Nat.mul_le_mul_right _ (by omega)
    rw [Nat.succ_mul] at h8
    omega
  have hix : o + (i * sz + c) = (lo + i) * sz + c := by rw [hoo, Nat.add_mul]; omega
  refine ⟨arr[(lo + i) * sz + c], ?_, ?_, ?_⟩
  · rw [hix]
    simp [World.cell?, h5, hlt]
  · exact q4 _ (by simp)
  · exact V_sub (fun _ h => .inl h) (q7 (lo + i) c _ (by omega) hc (Array.getElem?_eq_getElem hlt))
theorem noref0_one {X : Blk} {s : Sub} {a : AV} {u : Value} (h : noref0 a = true) (hV : V X w s a u) : one u = true := by
  refine V_one hV ?_
  cases a <;> first | rfl | cases h
theorem frzCap_sound (hR : Rel X0 σ hp w) {a a' : AV} {v : Value} (h : frzCap hp a = some a') (hV : V (Xof X0 σ hp) w σ a v) : V X0 w (fun _ => none) a' v := by
  unfold frzCap at h
  split at h
  · rename_i f b
    split at h
    · rename_i c ho
      split at h
      · rename_i hn
        injection h with h; subst h
        simp only [V] at hV ⊢
        obtain ⟨vs, rfl, u, us, hvs, ⟨g, hg, rfl⟩, rfl⟩ := hV
        obtain ⟨g', q1, arr, q2, u2, us2, q3, q4, q5⟩ := hR.obj b _ ho
        rw [hg] at q1; injection q1 with q1; subst q1
        refine ⟨vs, rfl, _, _, hvs, ⟨g, 0, rfl, hR.lt b g hg, hR.sep b g hg, fun c hc => ⟨u2, ?_, noref0_one hn q4, ?_⟩⟩, rfl⟩
        · have : c = 0 := by omega
          subst this
          rw [q2.cell]
          have : arr.toList[0]? = some u2 := by rw [q3]; rfl
          simpa using this
        · exact V_sub (fun _ h => .inl h) (V_noref0 q4 hn)
      · cases h
    · cases h
  · cases h
mutual
theorem frz_sound (hR : Rel X0 σ hp w) : (s : Fz) → (a : AV) → (a' : AV) → (v : Value) → frz s hp a = some a' → V (Xof X0 σ hp) w σ a v → V X0 w (fun _ => none) a' v
  | s, a, a', v, h, hV => by
    cases s with
    | any =>
      simp only [frz] at h
      split at h
      · rename_i hn
        injection h with h; subst h
        exact V_sub (fun _ h => .inl h) (V_norefA hn hV)
      · cases h
    | rows sz =>
      cases a <;> simp only [frz] at h <;> first | (cases h; done) | skip
      case nilsl =>
        injection h with h; subst h
        simp only [V] at hV ⊢
        exact ⟨by simp [bnd], .inl ⟨hV, trivial⟩⟩
      case sl sz' n f =>
        split at h
        · rename_i he
          subst he
          injection h with h; subst h
          exact V_sub (fun _ h => .inl h) (V_noref hV rfl)
        · cases h
      case row b sz' lo n =>
        split at h
        · rename_i sz'' m f ho
          split at h
          · rename_i he
            obtain ⟨rfl, rfl, hle⟩ := he
            injection h with h; subst h
            exact V_row_own hR ho hle hV
          · cases h
        · cases h
    | cap =>
      simp only [frz] at h
      exact frzCap_sound hR h hV
    | agg l =>
      cases a <;> simp only [frz] at h <;> first | (cases h; done) | skip
      case agg cs =>
        obtain ⟨cs', h1, rfl⟩ := Option.map_eq_some_iff.1 h
        simp only [V] at hV ⊢
        obtain ⟨vs, rfl, hV⟩ := hV
        exact ⟨vs, rfl, frzL_sound hR l cs cs' _ h1 hV⟩
    | tup l =>
      cases a <;> simp only [frz] at h <;> first | (cases h; done) | skip
      case tup cs =>
        obtain ⟨cs', h1, rfl⟩ := Option.map_eq_some_iff.1 h
        simp only [V] at hV ⊢
        obtain ⟨vs, rfl, hV⟩ := hV
        exact ⟨vs, rfl, frzL_sound hR l cs cs' _ h1 hV⟩
theorem frzL_sound (hR : Rel X0 σ hp w) : (s : List Fz) → (as : List AV) → (as' : List AV) → (vs : List Value) → frzL s hp as = some as' → VL (Xof X0 σ hp) w σ as vs → VL X0 w (fun _ => none) as' vs
  | [], [], as', vs, h, hV => by
    simp only [frzL] at h
    injection h with h; subst h
    exact hV
  | s :: ss, a :: as, as', vs, h, hV => by
    simp only [frzL] at h
    obtain ⟨a', h1, h2⟩ := Option.bind_eq_some_iff.1 h
    obtain ⟨as'', h3, rfl⟩ := Option.map_eq_some_iff.1 h2
    obtain ⟨u, us, rfl, h5, h6⟩ := hV
    exact ⟨u, us, rfl, frz_sound hR s a a' u h1 h5, frzL_sound hR ss as as'' us h3 h6⟩
  | [], _ :: _, _, _, h, _ => by simp [frzL] at h
  | _ :: _, [], _, _, h, _ => by simp [frzL] at h
end
/-- **A CONTRACT OF NO MEMORY, OUT OF THE TREE OF A FUNCTION THAT LAYS WHAT IT HANDS OUT.** -/
theorem sound_frz {t : Tab} (ht : SoundTab P t) {hs : FuncId → HintsT} {f : FuncId} {c : List AV → T AV} {hn : HintsT} {m k : Nat} {Λ : LoopT} (s : Fz)
    (hW : ∀ i, i < (loopsOf (bodyOf P f)).length → LoopOk P t.pf (fun n => hd P t.pf t.con.run (fun f => (hs f).to) n k) hn.to f 0 none Λ (loopAt P f i))
    (h : ∀ args r, FitsL args → (c args).run = some r → ∃ r0 h0, (evFnT P t.pf (hdT P t.pf t.con hs m k) hn m Λ f args []).run = some (r0, h0) ∧ frz s h0 r0 = some r) : Sound1 P ⟨f, true, pcon c⟩ where
  ok args hp r hp' hr X0 σ w vargs hR hV := by
    obtain ⟨h1, h2, h3, rfl, h4⟩ := pcon_run hr
    obtain ⟨r0, h0, h5, h6⟩ := h args r (VL_fits _ _ _ hV) h2
    have hV' : VL (Xof (Xof X0 σ hp') (fun _ => none) []) w (fun _ => none) args vargs.toList := by rw [Xof_empty]; exact VL_noref h1 hV
    refine ((fn_call ht (within_at hW) h5 hR.empty hV').1).mono ?_
    rintro v w' ⟨σ', g1, ⟨g2, g3⟩, g4, g5⟩
    rw [own_nil] at g2
    exact ⟨σ, fun _ _ h => h, ⟨g2.mono fun _ _ h => h.elim, fun _ _ h => h⟩, hR.step g2, V_mono (fun _ _ h => h) (Step.refl _ _) r v _ _ (fun _ _ h => by cases h) (frz_sound g4 s r0 r v h6 g5)⟩
  len args hp r hp' hr := by
    obtain ⟨_, _, _, rfl, _⟩ := pcon_run hr; exact Nat.le_refl _
  pure _ args hp r hp' hr := by
    obtain ⟨_, _, _, rfl, h4⟩ := pcon_run hr; exact ⟨rfl, h4⟩
/-- The same, out of a contract over memory. -/
theorem sound_frzg {f : FuncId} {c0 : List AV → Hp → T (AV × Hp)} {c : List AV → T AV} (hc : Sound1 P ⟨f, false, gcon c0⟩) (s : Fz)
    (h : ∀ args r, (c args).run = some r → ∃ r0 h0, (gcon c0 args []).run = some (r0, h0) ∧ frz s h0 r0 = some r) : Sound1 P ⟨f, true, pcon c⟩ where
  ok args hp r hp' hr X0 σ w vargs hR hV := by
    obtain ⟨h1, h2, h3, rfl, h4⟩ := pcon_run hr
    obtain ⟨r0, h0, h5, h6⟩ := h args r h2
    have hV' : VL (Xof (Xof X0 σ hp') (fun _ => none) []) w (fun _ => none) args vargs.toList := by rw [Xof_empty]; exact VL_noref h1 hV
    refine (hc.ok args [] r0 h0 h5 _ _ w vargs hR.empty hV').mono ?_
    rintro v w' ⟨σ', g1, ⟨g2, g3⟩, g4, g5⟩
    rw [own_nil] at g2
    exact ⟨σ, fun _ _ h => h, ⟨g2.mono fun _ _ h => h.elim, fun _ _ h => h⟩, hR.step g2, V_mono (fun _ _ h => h) (Step.refl _ _) r v _ _ (fun _ _ h => by cases h) (frz_sound g4 s r0 r v h6 g5)⟩
  len args hp r hp' hr := by
    obtain ⟨_, _, _, rfl, _⟩ := pcon_run hr; exact Nat.le_refl _
  pure _ args hp r hp' hr := by
    obtain ⟨_, _, _, rfl, h4⟩ := pcon_run hr; exact ⟨rfl, h4⟩
end
end Go.Ab
namespace Go.Ab
open Go Go.ChangeShapes Go.WideShapes
set_option linter.unusedVariables false
set_option linter.unusedSimpArgs false

/-! ### Arguments that hold rows of texts -/
/-- The reading of a row of texts. -/
def smallL (l : List (List UInt8)) : Prop := l.length ≤ bnd ∧ ∀ s ∈ l, s.length ≤ bnd
def RowD {H : Type} (l : List (List UInt8)) (d : DataW H) : Prop := (l = [] ∧ d = .nil) ∨ ∃ sp, d = .slice (l.map fun s => .lit (.string s)) sp
section
variable {P : Program} {H : Type} {enc : TypeId × Value → H} {W : World}
/-- A row of texts that is handed in. -/
theorem open_row {r : Reach} {b0 base : Nat} {sp : Nat → Bool} {held : Bool} {t e n : Nat} {a : Value} {x : DataW H × List MemPlace} (ht : P.underlying t = some (.slice e)) (he : P.underlying e = some .string) (ce : P.cellsOf e = 1)
    (hval : Cell.okWide P W r b0 t a) (h : DataW.trod enc P W base sp held n t [a] = some x) :
    ∃ l : List (List UInt8), RowD l x.1 ∧ (smallL l → V (fun _ => False) W (fun _ => none) (.sl 1 l.length (strF l)) a) := by
  unfold Cell.okWide at hval
  rw [ht] at hval
  rcases Go.Deep.open_strs ht he ce h with ⟨h1, rfl⟩ | ⟨ad, len, cap, m, Sx, h1, hb, hl, hm, hmm, rfl, hx⟩
  · obtain rfl : a = .slice none 0 0 := by simpa using h1
    refine ⟨[], .inl ⟨rfl, rfl⟩, fun hsm => ?_⟩
    simp only [V]
    exact ⟨by simp [bnd], .inl ⟨by first | trivial | rfl, rfl⟩⟩
  · obtain rfl : a = .slice (some ad) len cap := by simpa using h1
    simp only [Cell.ok, ht] at hval
    obtain ⟨_, hcap, _, hspot, row, cells, hsh, _⟩ := hval
    have hlm : len ≤ m := by rw [hmm]; split <;> omega
    have hblk : ad.block < W.heap.size := by
      unfold World.shape? at hsh
      rcases Nat.lt_or_ge ad.block W.heap.size with h2 | h2
      · exact h2
      · rw [Array.getElem?_eq_none h2] at hsh; cases hsh
    obtain ⟨bk, of, sp'⟩ := ad
    simp only at hspot hblk
    subst hspot
    refine ⟨(List.range len).map fun i => (Sx i).data.toList, .inr ⟨(List.range (m - len)).map fun j => .lit (.string (Sx (len + j)).data.toList), ?_⟩, fun hsm => ?_⟩
    · simp only [List.map_map]
      rfl
    · have hbl : len ≤ bnd := by simpa using hsm.1
      simp only [V, List.length_map, List.length_range]
      refine ⟨hbl, .inr ⟨bk, of, cap, rfl, hl, hblk, id, fun i c hi hc => ?_⟩⟩
      have hc0 : c = 0 := by omega
      subst hc0
      obtain ⟨q1, q2⟩ := hx i (by omega)
      refine ⟨.string (Sx i), ?_, rfl, ?_⟩
      · rw [← q1]
        by_cases hi0 : i = 0
        · subst hi0; simp [Addr.add]
        · simp [Addr.add, hi0]
      · have e1 : ((List.range len).map fun i => (Sx i).data.toList).getD i [] = (Sx i).data.toList := by
          rw [List.getD_eq_getElem?_getD, List.getElem?_map, List.getElem?_range hi]; rfl
        simp only [strF, V, e1]
        exact ⟨by first | trivial | rfl, hsm.2 _ (List.mem_map.2 ⟨i, List.mem_range.2 hi, rfl⟩)⟩
/-- A struct of three texts and two rows of texts. -/
theorem open_sem {r : Reach} {b0 base : Nat} {sp : Nat → Bool} {held : Bool} {t : TypeId} {f0 f1 f2 f3 f4 : Field} {e : TypeId} {v : Value} {d : DataW H} {ps : List MemPlace} (ht : P.underlying t = some (.struct #[f0, f1, f2, f3, f4]))
    (h0 : P.underlying f0.type = some .string) (h1 : P.underlying f1.type = some .string) (h2 : P.underlying f2.type = some .string) (h3 : P.underlying f3.type = some (.slice e)) (h4 : P.underlying f4.type = some (.slice e)) (he : P.underlying e = some .string)
    (o0 : f0.offset = 0) (o1 : f1.offset = 1) (o2 : f2.offset = 2) (o3 : f3.offset = 3) (o4 : f4.offset = 4)
    (c : P.cellsOf t = 5) (c0 : P.cellsOf f0.type = 1) (c1 : P.cellsOf f1.type = 1) (c2 : P.cellsOf f2.type = 1) (c3 : P.cellsOf f3.type = 1) (c4 : P.cellsOf f4.type = 1) (ce : P.cellsOf e = 1) (ct : P.cellTypes P.depth t = some [f0.type, f1.type, f2.type, f3.type, f4.type])
    (hval : Value.okWide P W r b0 t v) (hd : DataW.Trod enc P W base sp held t v d ps) :
    ∃ (x y z : ByteArray) (v3 v4 : Value) (d3 d4 : DataW H) (l m : List (List UInt8)), v = .agg #[.string x, .string y, .string z, v3, v4] ∧ d = .agg [.lit (.string x.data.toList), .lit (.string y.data.toList), .lit (.string z.data.toList), d3, d4] ∧ RowD l d3 ∧ RowD m d4 ∧
      (smallL l → V (fun _ => False) W (fun _ => none) (.sl 1 l.length (strF l)) v3) ∧ (smallL m → V (fun _ => False) W (fun _ => none) (.sl 1 m.length (strF m)) v4) := by
  have str : ∀ {n : Nat} {u : TypeId} {a : Value} {q : DataW H × List MemPlace}, P.underlying u = some .string → DataW.trod enc P W base sp held n u [a] = some q → ∃ x : ByteArray, a = .string x ∧ q.1 = .lit (.string x.data.toList) := by
    intro n u a q hu hq
    obtain ⟨n, rfl⟩ : ∃ m, n = m + 1 := by cases n with
      | zero => simp [DataW.trod] at hq
      | succ m => exact ⟨m, rfl⟩
    cases a <;> simp [DataW.trod, hu] at hq
    rename_i x
    exact ⟨x, rfl, by rw [← hq.2]⟩
  have hval' := hval
  unfold Value.okWide at hval'
  rw [ht] at hval'
  obtain ⟨cs, rfl, hsz, ts, hts, _, hcell⟩ := hval'
  rw [ct] at hts
  injection hts with hts
  subst hts
  rw [c] at hsz
  obtain ⟨cs⟩ := cs
  obtain ⟨a0, a1, a2, a3, a4, rfl⟩ : ∃ a0 a1 a2 a3 a4, cs = [a0, a1, a2, a3, a4] := by
    simp only [List.size_toArray] at hsz
    match cs, hsz with
    | [x, y, z, u, w], _ => exact ⟨x, y, z, u, w, rfl⟩
  obtain ⟨n, hn⟩ := hd
  obtain ⟨xs, n, rfl, hx, hl, hlen, hf⟩ := DataW.trod_struct ht hn
  match xs, hlen with
  | [y0, y1, y2, y3, y4], _ =>
    have g0 := hf 0 f0 rfl
    have g1 := hf 1 f1 rfl
    have g2 := hf 2 f2 rfl
    have g3 := hf 3 f3 rfl
    have g4 := hf 4 f4 rfl
    simp only [Value.cells, o0, o1, o2, o3, o4, c0, c1, c2, c3, c4, List.drop_zero, List.take_succ_cons, List.take_zero, List.drop_succ_cons, List.getElem?_cons_zero, List.getElem?_cons_succ] at g0 g1 g2 g3 g4
    obtain ⟨x, rfl, e0⟩ := str h0 g0
    obtain ⟨y, rfl, e1⟩ := str h1 g1
    obtain ⟨z, rfl, e2⟩ := str h2 g2
    obtain ⟨u3, hu3, k3⟩ := hcell 3 a3 rfl
    obtain ⟨u4, hu4, k4⟩ := hcell 4 a4 rfl
    have hu3 : f3.type = u3 := by simpa using hu3
    have hu4 : f4.type = u4 := by simpa using hu4
    subst hu3 hu4
    obtain ⟨l, q1, q2⟩ := open_row h3 he ce k3 g3
    obtain ⟨m, q3, q4⟩ := open_row h4 he ce k4 g4
    refine ⟨x, y, z, a3, a4, y3.1, y4.1, l, m, rfl, ?_, q1, q3, q2, q4⟩
    have := (Prod.mk.inj hx).1
    rw [this]
    simp [e0, e1, e2]
end
end Go.Ab
namespace Go.Ab
open Go
set_option linter.unusedVariables false
set_option linter.unusedSimpArgs false

/-! ### A contract over rows, asked of nil slices too -/
mutual
def wk : Sh → AV → AV
  | .rows sz, .nilsl => .sl sz 0 (strF [])
  | .agg l, .agg cs => .agg (wkL l cs)
  | _, a => a
def wkL : List Sh → List AV → List AV
  | s :: ss, a :: as => wk s a :: wkL ss as
  | _, as => as
end
section
variable {P : Program} {w : World} {X : Blk} {σ : Sub}
mutual
theorem V_wk : (s : Sh) → (a : AV) → (v : Value) → V X w σ a v → V X w σ (wk s a) v
  | .any, a, v, h => by unfold wk; exact h
  | .rows sz, a, v, h => by
    cases a <;> unfold wk <;> first | exact h | skip
    simp only [V] at h ⊢
    exact ⟨by simp [bnd], .inl ⟨h, trivial⟩⟩
  | .agg l, a, v, h => by
    cases a <;> unfold wk <;> first | exact h | skip
    simp only [V] at h ⊢
    obtain ⟨vs, rfl, h⟩ := h
    exact ⟨vs, rfl, VL_wk l _ _ h⟩
theorem VL_wk : (s : List Sh) → (as : List AV) → (vs : List Value) → VL X w σ as vs → VL X w σ (wkL s as) vs
  | [], as, vs, h => by unfold wkL; exact h
  | s :: ss, [], vs, h => by unfold wkL; exact h
  | s :: ss, a :: as, vs, h => by
    unfold wkL
    obtain ⟨u, us, rfl, h1, h2⟩ := h
    exact ⟨u, us, rfl, V_wk s a u h1, VL_wk ss as us h2⟩
end
theorem noref_wk (s : Sh) (a : AV) (h : noref a = true) : noref (wk s a) = true := by
  cases s with
  | any => unfold wk; exact h
  | rows sz => cases a <;> unfold wk <;> first | exact h | rfl
  | agg l => cases a <;> unfold wk <;> first | exact h | cases h
theorem noref_wkL : ∀ (s : List Sh) (as : List AV), as.all noref = true → (wkL s as).all noref = true
  | [], as, h => by unfold wkL; exact h
  | s :: ss, [], h => by unfold wkL; exact h
  | s :: ss, a :: as, h => by
    unfold wkL
    simp only [List.all_cons, Bool.and_eq_true] at h ⊢
    exact ⟨noref_wk s a h.1, noref_wkL ss as h.2⟩
theorem norefA_wk (s : Sh) (a : AV) (h : norefA a = true) : norefA (wk s a) = true := by
  cases s with
  | any => unfold wk; exact h
  | rows sz => cases a <;> unfold wk <;> first | exact h | rfl
  | agg l =>
    cases a <;> unfold wk <;> first | exact h | skip
    simp only [norefA] at h ⊢
    exact noref_wkL l _ h
theorem norefA_wkL : ∀ (s : List Sh) (as : List AV), as.all norefA = true → (wkL s as).all norefA = true
  | [], as, h => by unfold wkL; exact h
  | s :: ss, [], h => by unfold wkL; exact h
  | s :: ss, a :: as, h => by
    unfold wkL
    simp only [List.all_cons, Bool.and_eq_true] at h ⊢
    exact ⟨norefA_wk s a h.1, norefA_wkL ss as h.2⟩
theorem sound_wk {f : FuncId} {c : List AV → T AV} (h : Sound1 P ⟨f, true, pcon c⟩) (s : List Sh) : Sound1 P ⟨f, true, pcon fun args => c (wkL s args)⟩ where
  ok args hp r hp' hr X0 σ w vargs hR hV := by
    obtain ⟨h1, h2, h3, rfl, h4⟩ := pcon_run (c := fun args => c (wkL s args)) hr
    refine h.ok (wkL s args) hp' r hp' ?_ X0 σ w vargs hR (VL_wk s _ _ hV)
    have e : (wkL s args).all norefA = true := norefA_wkL s args h1
    show (pcon c (wkL s args) hp').run = _
    unfold pcon
    rw [e]
    simp only [T.run_bind, h2, Option.bind_some, h3, T.run_leaf]
  len args hp r hp' hr := by
    obtain ⟨_, _, _, rfl, _⟩ := pcon_run (c := fun args => c (wkL s args)) hr; exact Nat.le_refl _
  pure _ args hp r hp' hr := by
    obtain ⟨_, _, _, rfl, h4⟩ := pcon_run (c := fun args => c (wkL s args)) hr; exact ⟨rfl, h4⟩
end
end Go.Ab
namespace Go.Ab
open Go
set_option linter.unusedVariables false
set_option linter.unusedSimpArgs false

/-! ### A loop that asks each place of a row -/
/-- The first place from i on, of k, of which q does not hold. -/
def fstN (q : Nat → Bool) : Nat → Nat → Nat
  | 0, i => i
  | k + 1, i => bif q i then fstN q k (i + 1) else i
theorem fstN_le (q : Nat → Bool) : ∀ k i, i ≤ fstN q k i ∧ fstN q k i ≤ i + k
  | 0, i => ⟨Nat.le_refl _, Nat.le_refl _⟩
  | k + 1, i => by
    have h := fstN_le q k (i + 1)
    unfold fstN
    cases q i <;> simp only [cond_true, cond_false] <;> omega
theorem fstN_all {q : Nat → Bool} : ∀ k i, fstN q k i = i + k ↔ ∀ j, i ≤ j → j < i + k → q j = true
  | 0, i => ⟨fun _ j h1 h2 => by omega, fun _ => rfl⟩
  | k + 1, i => by
    have h := fstN_all (q := q) k (i + 1)
    unfold fstN
    cases hq : q i with
    | true =>
      simp only [cond_true]
      rw [show i + (k + 1) = i + 1 + k by omega, h]
      refine ⟨fun g j h1 h2 => ?_, fun g j h1 h2 => g j (by omega) h2⟩
      by_cases e : j = i
      · subst e; exact hq
      · exact g j (by omega) h2
    | false =>
      simp only [cond_false]
      refine ⟨fun g => by omega, fun g => ?_⟩
      have := g i (Nat.le_refl _) (by omega)
      rw [hq] at this; cases this
theorem fstN_not {q : Nat → Bool} : ∀ k i, fstN q k i < i + k → q (fstN q k i) = false
  | 0, i, h => by simp [fstN] at h
  | k + 1, i, h => by
    unfold fstN at h ⊢
    cases hq : q i with
    | true =>
      rw [hq] at h
      simp only [cond_true] at h ⊢
      exact fstN_not k (i + 1) (by omega)
    | false => simpa using hq
/-- Does q hold of each of the first n places? -/
def allP (q : Nat → Bool) (n : Nat) : Bool := (List.range n).all q
theorem allP_fst {q : Nat → Bool} {n : Nat} : fstN q n 0 = n ↔ allP q n = true := by
  have h := fstN_all (q := q) n 0
  rw [Nat.zero_add] at h
  rw [h]
  unfold allP
  simp only [List.all_eq_true, List.mem_range]
  exact ⟨fun g j hj => g j (by omega) hj, fun g j _ hj => g j hj⟩
theorem row_con {P : Program} {pf : FuncId → Bool} {HT : HdT} {H : Nat → Hd} (hH : LeH HT H) {hn : HintsT} {hid base : Nat} {rd : Option Nat} {m : Nat} {Λ : LoopT} {c : Code} {D : List AV → Hp → T (AX × St)} {lv : List Bool}
    (hW : Within (LoopOk P pf H hn.to hid base rd Λ) c) (hΛ : Λ (lkey c) = some (lcon lv D))
    {Y : Type} (enc : Y → Int → List AV × Hp) (len : Y → Nat) (q : Y → Nat → Bool) (done : Y → AX × St) (bad : Y → Nat → AX × St) (p : Y → Prop)
    (hD : ∀ vs hp r, (D vs hp).run = some r → ∃ y, (vs, hp) = enc y 0 ∧ p y ∧ len y ≤ bnd ∧ r = if fstN (q y) (len y) 0 = len y then done y else bad y (fstN (q y) (len y) 0))
    (h1 : ∀ y (i : Nat), p y → i < len y → IntKind.i64.wrap ((i : Int) + 1) = ((i + 1 : Nat) : Int) → (roundT P pf HT hn hid base rd m Λ c { tm := encGo lv (enc y i).1, ms := [], hp := (enc y i).2 }).run =
      if q y i = true then some (.normal, { tm := encGo lv (enc y ((i + 1 : Nat) : Int)).1, ms := [], hp := (enc y ((i + 1 : Nat) : Int)).2 }) else some (bad y i))
    (h2 : ∀ y, p y → (roundT P pf HT hn hid base rd m Λ c { tm := encGo lv (enc y (len y)).1, ms := [], hp := (enc y (len y)).2 }).run = some (done y))
    (hx : ∀ y j, (done y).1 ≠ .normal ∧ (bad y j).1 ≠ .normal) : LoopOk P pf H hn.to hid base rd Λ (.loop c) := by
  refine loop_con (m := m) hH hW hΛ (X := Y × Nat) (fun x => enc x.1 (x.2 : Int)) (fun x => if fstN (q x.1) (len x.1 - x.2) x.2 = len x.1 then done x.1 else bad x.1 (fstN (q x.1) (len x.1 - x.2) x.2))
    (fun x => p x.1 ∧ x.2 ≤ len x.1 ∧ len x.1 ≤ bnd) (fun x => len x.1 - x.2) ?_ ?_
  · intro vs hp r h
    obtain ⟨y, e1, e2, e3, e4⟩ := hD vs hp r h
    exact ⟨(y, 0), e1, ⟨e2, Nat.zero_le _, e3⟩, by rw [e4]; rfl⟩
  · rintro ⟨y, i⟩ ⟨g1, g2, g3⟩
    simp only at g1 g2 g3
    simp only [bnd] at g3
    by_cases hi : i < len y
    · have hr := h1 y i g1 hi (by rw [wrap64 (by omega) (by omega)]; rfl)
      obtain ⟨k, hk⟩ : ∃ k, len y - i = k + 1 := ⟨len y - i - 1, by omega⟩
      cases hq : q y i with
      | true =>
        left
        rw [if_pos hq] at hr
        refine ⟨(y, i + 1), ⟨g1, by simp only; omega, by simpa only [bnd] using g3⟩, by simp only; omega, ?_, hr⟩
        simp only [hk]
        rw [show len y - (i + 1) = k by omega]
        simp only [fstN, hq, cond_true]
      | false =>
        right
        rw [if_neg (by rw [hq]; simp)] at hr
        have e : fstN (q y) (len y - i) i = i := by rw [hk]; simp only [fstN, hq, cond_false]
        simp only [e]
        rw [if_neg (by omega)]
        exact ⟨hr, (hx y i).2⟩
    · right
      have hi : i = len y := by omega
      subst hi
      simp only [Nat.sub_self, fstN, if_true]
      exact ⟨h2 y g1, (hx y 0).1⟩
end Go.Ab
namespace Go.Ab
open Go
set_option linter.unusedVariables false
set_option linter.unusedSimpArgs false

/-! ### Contracts by an encoding -/
/-- Is a the encoding of something of which p holds? -/
noncomputable def isEn {X A : Type} (enc : X → A) (p : X → Prop) (a : A) : Bool := @decide (∃ x, enc x = a ∧ p x) (Classical.propDecidable _)
theorem isEn_true {X A : Type} {enc : X → A} {p : X → Prop} (x : X) (h : p x) : isEn enc p (enc x) = true := by
  unfold isEn
  exact @decide_eq_true _ (Classical.propDecidable _) ⟨x, rfl, h⟩
theorem isEn_of {X A : Type} {enc : X → A} {p : X → Prop} {a : A} (h : isEn enc p a = true) : ∃ x, enc x = a ∧ p x :=
  @of_decide_eq_true _ (Classical.propDecidable _) h
noncomputable def ccon {X A B : Type} (enc : X → A) (dec : A → X) (p : X → Prop) (res : X → T B) (a : A) : T B := .chk (isEn enc p a) (res (dec a))
theorem ccon_run {X A B : Type} {enc : X → A} {dec : A → X} {p : X → Prop} {res : X → T B} {a : A} {r : B} (inv : ∀ x, dec (enc x) = x) (h : (ccon enc dec p res a).run = some r) : ∃ x, a = enc x ∧ p x ∧ (res x).run = some r := by
  unfold ccon at h
  rw [T.run_chk] at h
  split at h
  · rename_i hc
    obtain ⟨x, rfl, hx⟩ := isEn_of hc
    rw [inv] at h
    exact ⟨x, rfl, hx, h⟩
  · cases h
variable {P : Program}
/-- **A CONTRACT OF NO MEMORY, BY AN ENCODING.** -/
theorem sound_c {t : Tab} (ht : SoundTab P t) (hs : FuncId → HintsT) {f : FuncId} {X : Type} {enc : X → List AV} {dec : List AV → X} {p : X → Prop} {res : X → T AV} (inv : ∀ x, dec (enc x) = x) {hn : HintsT} {m k : Nat} {Λ : LoopT}
    (hW : ∀ i, i < (loopsOf (bodyOf P f)).length → LoopOk P t.pf (fun n => hd P t.pf t.con.run (fun f => (hs f).to) n k) hn.to f 0 none Λ (loopAt P f i))
    (h : ∀ x, p x → FitsL (enc x) → (evFnT P t.pf (hdT P t.pf t.con hs m k) hn m Λ f (enc x) []).run = (res x).run.map fun r => (r, [])) : Sound1 P ⟨f, true, pcon (ccon enc dec p res)⟩ := by
  refine sound_pureH (m := m) ht hs hW fun args r hF hr => ?_
  obtain ⟨x, rfl, hp, h2⟩ := ccon_run inv hr
  rw [h x hp hF, h2]; rfl
/-- The same, of a function that lays what it hands out. -/
theorem sound_cf {t : Tab} (ht : SoundTab P t) (hs : FuncId → HintsT) {f : FuncId} {X : Type} {enc : X → List AV} {dec : List AV → X} {p : X → Prop} {res : X → T AV} (inv : ∀ x, dec (enc x) = x) {hn : HintsT} {m k : Nat} {Λ : LoopT} (s : Fz)
    (hW : ∀ i, i < (loopsOf (bodyOf P f)).length → LoopOk P t.pf (fun n => hd P t.pf t.con.run (fun f => (hs f).to) n k) hn.to f 0 none Λ (loopAt P f i))
    (h : ∀ x, p x → FitsL (enc x) → ((evFnT P t.pf (hdT P t.pf t.con hs m k) hn m Λ f (enc x) []).run.bind fun r => frz s r.2 r.1) = (res x).run) : Sound1 P ⟨f, true, pcon (ccon enc dec p res)⟩ := by
  refine sound_frz (m := m) ht s hW fun args r hF hr => ?_
  obtain ⟨x, rfl, hp, h2⟩ := ccon_run inv hr
  have := h x hp hF
  rw [h2] at this
  obtain ⟨y, h3, h4⟩ := Option.bind_eq_some_iff.1 this
  exact ⟨y.1, y.2, h3, h4⟩
/-- The same, over memory. -/
noncomputable def mcon {X : Type} (enc : X → List AV × Hp) (dec : List AV × Hp → X) (p : X → Prop) (res : X → T (AV × Hp)) : List AV → Hp → T (AV × Hp) := fun args hp => ccon enc dec p res (args, hp)
theorem sound_cm {t : Tab} (ht : SoundTab P t) {f : FuncId} {X : Type} {enc : X → List AV × Hp} {dec : List AV × Hp → X} {p : X → Prop} {res : X → T (AV × Hp)} (inv : ∀ x, dec (enc x) = x) {hn : HintsT} {m k : Nat} {Λ : LoopT}
    (hW : ∀ x, p x → ∀ i, i < (loopsOf (bodyOf P f)).length → LoopOk P t.pf (fun n => hd P t.pf t.con.run (fun f => (H0 f).to) n k) hn.to f (enc x).2.length none Λ (loopAt P f i))
    (h : ∀ x, p x → FitsL (enc x).1 → FitsH (enc x).2 → (evFnT P t.pf (hdT P t.pf t.con H0 m k) hn m Λ f (enc x).1 (enc x).2).run = (res x).run) : Sound1 P ⟨f, false, gcon (mcon enc dec p res)⟩ := by
  refine sound_mem (m := m) (k := k) (hn := hn) (Λ := Λ) ht (fun args hs r hs' hr => ?_) fun args hs r hs' hF hH hr => ?_
  · obtain ⟨x, he, hp, h2⟩ := ccon_run inv hr
    have e : hs = (enc x).2 := congrArg (·.2) he
    rw [e]; exact hW x hp
  · obtain ⟨x, he, hp, h2⟩ := ccon_run inv hr
    obtain ⟨rfl, rfl⟩ : args = (enc x).1 ∧ hs = (enc x).2 := ⟨congrArg (·.1) he, congrArg (·.2) he⟩
    rw [h x hp hF hH]; exact h2
/-- A loop's contract, by an encoding. -/
noncomputable def lccon {X : Type} (lv : List Bool) (enc : X → List AV × Hp) (dec : List AV × Hp → X) (p : X → Prop) (res : X → T (AX × St)) : St → T (AX × St) := lcon lv fun vs hp => ccon enc dec p res (vs, hp)
/-- **A LOOP's CONTRACT, BY AN ENCODING**: a round leads on, with the same end; or it is the end. -/
theorem loop_c {pf : FuncId → Bool} {HT : HdT} {H : Nat → Hd} (hH : LeH HT H) {hn : HintsT} {hid base : Nat} {rd : Option Nat} {m : Nat} {Λ : LoopT} {c : Code} {lv : List Bool}
    {X : Type} {enc : X → List AV × Hp} {dec : List AV × Hp → X} {p : X → Prop} {res : X → T (AX × St)} (inv : ∀ x, dec (enc x) = x)
    (hW : Within (LoopOk P pf H hn.to hid base rd Λ) c) (hΛ : Λ (lkey c) = some (lccon lv enc dec p res)) (μ : X → Nat)
    (h : ∀ x, p x → (∃ y, p y ∧ μ y < μ x ∧ (res y).run = (res x).run ∧ (roundT P pf HT hn hid base rd m Λ c { tm := encGo lv (enc x).1, ms := [], hp := (enc x).2 }).run = some (.normal, { tm := encGo lv (enc y).1, ms := [], hp := (enc y).2 })) ∨
      (∃ o, o.1 ≠ .normal ∧ (res x).run = some o ∧ (roundT P pf HT hn hid base rd m Λ c { tm := encGo lv (enc x).1, ms := [], hp := (enc x).2 }).run = some o)) : LoopOk P pf H hn.to hid base rd Λ (.loop c) := by
  have hex : ∀ n x, μ x ≤ n → p x → ∃ o, (res x).run = some o ∧ o.1 ≠ .normal := by
    intro n
    induction n with
    | zero =>
      intro x hx hp
      rcases h x hp with ⟨y, _, hlt, _⟩ | ⟨o, h1, h2, _⟩
      · omega
      · exact ⟨o, h2, h1⟩
    | succ n ih =>
      intro x hx hp
      rcases h x hp with ⟨y, hy, hlt, he, _⟩ | ⟨o, h1, h2, _⟩
      · obtain ⟨o, h1, h2⟩ := ih y (by omega) hy
        exact ⟨o, he ▸ h1, h2⟩
      · exact ⟨o, h2, h1⟩
  refine loop_con (m := m) (D := fun vs hp => ccon enc dec p res (vs, hp)) hH hW hΛ enc (fun x => ((res x).run).getD (.normal, ⟨[], [], []⟩)) p μ ?_ ?_
  · intro vs hp r hr
    obtain ⟨x, he, hp', h2⟩ := ccon_run inv hr
    exact ⟨x, he, hp', by rw [h2]; rfl⟩
  · intro x hp
    rcases h x hp with ⟨y, hy, hlt, he, hr⟩ | ⟨o, h1, h2, hr⟩
    · exact .inl ⟨y, hy, hlt, by rw [he], hr⟩
    · right
      rw [h2]
      exact ⟨hr, h1⟩
/-- Every loop contract is kept where none is given. -/
theorem noLoopsOk {t : Tab} {H : Nat → Hd} {hn : HintsT} {f : FuncId} {b : Nat} {rd : Option Nat} {c : Code} : LoopOk P t.pf H hn.to f b rd (fun _ => none) c := by
  cases c with
  | loop c => exact fun l hl => by cases hl
  | rangeFunc _ _ _ _ => exact fun l hl => by cases hl
  | _ => trivial
theorem w64n {i : Nat} (h : i < 9223372036854775807) : IntKind.i64.wrap ((i : Int) + 1) = ((i + 1 : Nat) : Int) := by rw [wrap64 (by omega) (by omega)]; rfl
theorem dropD {α : Type} {l : List α} {i : Nat} (d : α) (h : i < l.length) : l.drop i = l.getD i d :: l.drop (i + 1) := by
  rw [List.drop_eq_getElem_cons h, List.getD_eq_getElem?_getD, List.getElem?_eq_getElem h]; rfl
/-- The first place from i on of which q does not hold; or the end. -/
def fxN {α : Type} (q : α → Bool) (s : List α) (i : Nat) : Nat := i + ((s.drop i).takeWhile q).length
theorem fxN_step {α : Type} {q : α → Bool} {s : List α} {i : Nat} (d : α) (h : i < s.length) : fxN q s i = bif q (s.getD i d) then fxN q s (i + 1) else i := by
  unfold fxN
  rw [dropD d h, List.takeWhile_cons]
  cases q (s.getD i d) <;> simp <;> omega
theorem fxN_end {α : Type} {q : α → Bool} {s : List α} {i : Nat} (h : s.length ≤ i) : fxN q s i = i := by
  unfold fxN
  rw [List.drop_eq_nil_of_le h]; rfl
theorem fxN_le {α : Type} {q : α → Bool} {s : List α} {i : Nat} (h : i ≤ s.length) : i ≤ fxN q s i ∧ fxN q s i ≤ s.length := by
  have := takeWhile_le q (s.drop i)
  rw [List.length_drop] at this
  unfold fxN; omega
/-- Of each from i on. -/
def alN {α : Type} (q : α → Bool) (s : List α) (i : Nat) : Bool := (s.drop i).all q
theorem alN_step {α : Type} {q : α → Bool} {s : List α} {i : Nat} (d : α) (h : i < s.length) : alN q s i = (q (s.getD i d) && alN q s (i + 1)) := by
  unfold alN
  rw [dropD d h, List.all_cons]
theorem alN_end {α : Type} {q : α → Bool} {s : List α} {i : Nat} (h : s.length ≤ i) : alN q s i = true := by
  unfold alN
  rw [List.drop_eq_nil_of_le h]; rfl
theorem cond_chk {α : Type} {c : Bool} {x y : α} (h : c = true) : (bif c then x else y) = x := by rw [h]; rfl
theorem cond_no {α : Type} {c : Bool} {x y : α} (h : c = false) : (bif c then x else y) = y := by rw [h]; rfl
theorem strF_inv (l : List (List UInt8)) : strsOf (strF l) l.length = l := strsOf_strF l
theorem byte_at {α : Type} {s : List α} {i : Nat} (h : i < s.length) : decide ((0 : Int) ≤ (i : Int) ∧ (i : Int) < (s.length : Int)) = true := decide_eq_true ⟨by omega, by omega⟩
end Go.Ab

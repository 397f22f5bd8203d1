/- Lemmas for the claims of this seat (a verified symbolic evaluator, and contracts of functions): own work; no condition. -/
import Derived.Test.YtibanfkcemnifaaDoorEvD
namespace Go.Ab
open Go
set_option linter.unusedVariables false
set_option linter.unusedSimpArgs false

/-! ### Rows of texts -/
def strF (l : List (List UInt8)) : Nat → Nat → AV := fun i _ => .str (l.getD i [])
def strOf : AV → List UInt8
  | .str s => s
  | _ => []
/-- The texts of a row's first n places. -/
def strsOf (f : Nat → Nat → AV) (n : Nat) : List (List UInt8) := (List.range n).map fun i => strOf (f i 0)
/-- A row of texts. -/
def IsStrs (f : Nat → Nat → AV) (n : Nat) : Prop := ∃ l : List (List UInt8), l.length = n ∧ f = strF l
theorem strsOf_strF (l : List (List UInt8)) : strsOf (strF l) l.length = l := by
  unfold strsOf strF
  refine List.ext_getElem? fun i => ?_
  rw [List.getElem?_map]
  by_cases h : i < l.length
  · rw [List.getElem?_range h, Option.map_some, strOf, List.getD_eq_getElem?_getD, List.getElem?_eq_getElem h]; rfl
  · rw [List.getElem?_eq_none (by simpa using h), List.getElem?_eq_none (by simpa using h)]; rfl
theorem isStrs_strF (l : List (List UInt8)) : IsStrs (strF l) l.length := ⟨l, rfl, rfl⟩
theorem IsStrs.eq {f : Nat → Nat → AV} {n : Nat} (h : IsStrs f n) : f = strF (strsOf f n) ∧ (strsOf f n).length = n := by
  obtain ⟨l, rfl, rfl⟩ := h
  rw [strsOf_strF]; exact ⟨rfl, rfl⟩
/-- One text appended. -/
theorem strF_app (l : List (List UInt8)) (d : List UInt8) : appF l.length (strF l) (fun i => rowF 1 [AV.str d] (0 + i)) = strF (l ++ [d]) := by
  funext i
  unfold appF
  split
  · rename_i h
    funext c
    unfold strF
    rw [List.getD_eq_getElem?_getD, List.getD_eq_getElem?_getD, List.getElem?_append_left h]
  · rename_i h
    funext c
    show AV.str ([d].getD (0 + (i - l.length)) []) = _
    unfold strF
    rw [List.getD_eq_getElem?_getD, List.getD_eq_getElem?_getD, List.getElem?_append_right (by omega), Nat.zero_add]
theorem strF_one (d : List UInt8) : (fun i => rowF 1 [AV.str d] (0 + i)) = strF [d] := by
  funext i
  funext c
  show AV.str ([d].getD (0 + i) []) = _
  rw [Nat.zero_add]; rfl
end Go.Ab
namespace Go.Ab
open Go
set_option linter.unusedVariables false
set_option linter.unusedSimpArgs false

/-! ### Calls that read our rows as if they were another's -/
inductive Sh where
  | any
  | rows (sz : Nat)
  | agg (l : List Sh)
/-- A row from a place on. -/
def fromF : Nat → (Nat → Nat → AV) → Nat → Nat → AV
  | 0, f => f
  | lo + 1, f => fun i => f (lo + 1 + i)
mutual
def cvtT : Sh → Hp → AV → T AV
  | .any, hp, a => match norefA a with
    | true => .leaf a
    | false => .fail
  | .rows sz, hp, .nilsl => .leaf (.sl sz 0 (strF []))
  | .rows sz, hp, .sl sz' n f => match Nat.beq sz sz' with
    | true => .leaf (.sl sz n f)
    | false => .fail
  | .rows sz, hp, .row b sz' lo n => match hp[b]? with
    | some (some (.row sz'' m f)) => match Nat.beq sz sz' && Nat.beq sz sz'' with
      | true => .chk (decide (lo + n ≤ m)) (.leaf (.sl sz n (fromF lo f)))
      | false => .fail
    | _ => .fail
  | .agg l, hp, .agg cs => (cvtTL l hp cs).bind fun cs' => .leaf (.agg cs')
  | _, _, _ => .fail
def cvtTL : List Sh → Hp → List AV → T (List AV)
  | [], hp, [] => .leaf []
  | s :: ss, hp, a :: as => (cvtT s hp a).bind fun a' => (cvtTL ss hp as).bind fun as' => .leaf (a' :: as')
  | _, _, _ => .fail
end
section
variable {P : Program} {X0 : Blk} {σ : Sub} {hp : Hp} {w : World}
theorem V_free {X : Blk} {a : AV} {v : Value} {s : Sub} (h : V X w s a v) : V (fun _ => False) w s a v := V_mono (fun _ _ h => h.elim) (Step.refl X w) a v _ _ (fun _ _ h => h) h
theorem V_row_sl (hR : Rel X0 σ hp w) {b sz lo n m : Nat} {f : Nat → Nat → AV} {v : Value} (ho : hp[b]? = some (some (.row sz m f))) (hle : lo + n ≤ m) (hV : V (Xof X0 σ hp) w σ (.row b sz lo n) v) :
    V (fun _ => False) w (fun _ => none) (.sl sz n (fromF lo f)) v := by
  have hf : fromF lo f = fun i => f (lo + i) := by
    cases lo with
    | zero => funext i; simp [fromF]
    | succ lo => rfl
  rw [hf]
  simp only [V] at hV ⊢
  obtain ⟨hn, g, o, cap, arr, t, fr, h1, h2, h3, h4, h5, h6⟩ := hV
  obtain ⟨g', q1, arr', ⟨t', fr', q2, q3, q4⟩, q5, q6, q7⟩ := hR.obj b _ ho
  rw [h1] at q1; injection q1 with q1; subst q1
  rw [h5] at q2; injection q2 with q2; injection q2 with q2 _ _; subst q2
  refine ⟨hn, .inr ⟨g, o, cap, h2, h3, hR.lt b g h1, id, fun i c hi hc => ?_⟩⟩
  have hoo : o = lo * sz := by
    rcases h4 with h4 | h4
    · exact h4
    · omega
  have hlt : (lo + i) * sz + c < arr.size := by
    have h8 : (lo + i + 1) * sz ≤ m * sz := Nat.mul_le_mul_right _ (by omega)
    rw [Nat.succ_mul] at h8
    omega
  have hix : o + (i * sz + c) = (lo + i) * sz + c := by rw [hoo, Nat.add_mul]; omega
  refine ⟨arr[(lo + i) * sz + c], ?_, ?_, ?_⟩
  · rw [hix]
    simp [World.cell?, h5, hlt]
  · exact q4 _ (by simp)
  · exact V_free (q7 (lo + i) c _ (by omega) hc (Array.getElem?_eq_getElem hlt))
mutual
theorem cvt_sound (hR : Rel X0 σ hp w) : (s : Sh) → (a : AV) → (a' : AV) → (v : Value) → (cvtT s hp a).run = some a' → V (Xof X0 σ hp) w σ a v → V (fun _ => False) w (fun _ => none) a' v
  | s, a, a', v, h, hV => by
    cases s with
    | any =>
      simp only [cvtT] at h
      split at h
      · rename_i hn
        simp only [T.run_leaf, Option.some.injEq] at h; subst h
        exact V_free (V_norefA hn hV)
      · cases h
    | rows sz =>
      cases a <;> simp only [cvtT] at h <;> first | (cases h; done) | skip
      case nilsl =>
        simp only [T.run_leaf, Option.some.injEq] at h; subst h
        simp only [V] at hV ⊢
        exact ⟨by simp [bnd], .inl ⟨hV, trivial⟩⟩
      case sl sz' n f =>
        split at h
        · rename_i he
          have he := Nat.eq_of_beq_eq_true he
          subst he
          simp only [T.run_leaf, Option.some.injEq] at h; subst h
          exact V_free (V_noref hV rfl)
        · cases h
      case row b sz' lo n =>
        split at h
        · rename_i sz'' m f ho
          split at h
          · rename_i he
            simp only [Bool.and_eq_true] at he
            have h1 := Nat.eq_of_beq_eq_true he.1
            have h2 := Nat.eq_of_beq_eq_true he.2
            subst h1 h2
            rw [run_chkd] at h
            split at h
            · rename_i hle
              simp only [T.run_leaf, Option.some.injEq] at h; subst h
              have := V_row_sl hR ho hle hV
              exact this
            · cases h
          · cases h
        · cases h
    | agg l =>
      cases a <;> simp only [cvtT] at h <;> first | (cases h; done) | skip
      case agg cs =>
        obtain ⟨cs', h1, h2⟩ := bind_some_inv h
        simp only [T.run_leaf, Option.some.injEq] at h2; subst h2
        simp only [V] at hV ⊢
        obtain ⟨vs, rfl, hV⟩ := hV
        exact ⟨vs, rfl, cvtL_sound hR l cs cs' _ h1 hV⟩
theorem cvtL_sound (hR : Rel X0 σ hp w) : (s : List Sh) → (as : List AV) → (as' : List AV) → (vs : List Value) → (cvtTL s hp as).run = some as' → VL (Xof X0 σ hp) w σ as vs → VL (fun _ => False) w (fun _ => none) as' vs
  | [], [], as', vs, h, hV => by
    simp only [cvtTL, T.run_leaf, Option.some.injEq] at h; subst h
    exact hV
  | s :: ss, a :: as, as', vs, h, hV => by
    simp only [cvtTL] at h
    obtain ⟨a', h1, h2⟩ := bind_some_inv h
    obtain ⟨as'', h3, h4⟩ := bind_some_inv h2
    simp only [T.run_leaf, Option.some.injEq] at h4; subst h4
    obtain ⟨u, us, rfl, h5, h6⟩ := hV
    exact ⟨u, us, rfl, cvt_sound hR s a a' u h1 h5, cvtL_sound hR ss as as'' us h3 h6⟩
  | [], _ :: _, _, _, h, _ => by simp [cvtTL] at h
  | _ :: _, [], _, _, h, _ => by simp [cvtTL] at h
end
/-- A value of no memory whatever. -/
def bareA : AV → Bool
  | .int .. | .bool _ | .str _ | .nilp | .nilsl => true
  | _ => false
def bareB (a : AV) : Bool := match a with
  | .agg cs => cs.all bareA
  | a => bareA a
def bareT (a : AV) : Bool := match a with
  | .tup vs => vs.all bareB
  | a => bareB a
theorem V_bare {X X' : Blk} {s s' : Sub} {a : AV} {v : Value} (h : bareA a = true) (hV : V X w s a v) : V X' w s' a v := by
  cases a <;> first | (simp [bareA] at h; done) | simpa only [V] using hV
theorem VL_bare {X X' : Blk} {s s' : Sub} : ∀ {as : List AV} {vs : List Value}, as.all bareA = true → VL X w s as vs → VL X' w s' as vs
  | [], vs, h, hV => hV
  | a :: as, vs, h, hV => by
    simp only [List.all_cons, Bool.and_eq_true] at h
    obtain ⟨u, us, rfl, h1, h2⟩ := hV
    exact ⟨u, us, rfl, V_bare h.1 h1, VL_bare h.2 h2⟩
theorem V_bareB {X X' : Blk} {s s' : Sub} {a : AV} {v : Value} (h : bareB a = true) (hV : V X w s a v) : V X' w s' a v := by
  unfold bareB at h
  split at h
  · simp only [V] at hV ⊢
    obtain ⟨vs, rfl, hV⟩ := hV
    exact ⟨vs, rfl, VL_bare h hV⟩
  · exact V_bare h hV
theorem VL_bareB {X X' : Blk} {s s' : Sub} : ∀ {as : List AV} {vs : List Value}, as.all bareB = true → VL X w s as vs → VL X' w s' as vs
  | [], vs, h, hV => hV
  | a :: as, vs, h, hV => by
    simp only [List.all_cons, Bool.and_eq_true] at h
    obtain ⟨u, us, rfl, h1, h2⟩ := hV
    exact ⟨u, us, rfl, V_bareB h.1 h1, VL_bareB h.2 h2⟩
theorem V_bareT {X X' : Blk} {s s' : Sub} {a : AV} {v : Value} (h : bareT a = true) (hV : V X w s a v) : V X' w s' a v := by
  unfold bareT at h
  split at h
  · simp only [V] at hV ⊢
    obtain ⟨vs, rfl, hV⟩ := hV
    exact ⟨vs, rfl, VL_bareB h hV⟩
  · exact V_bareB h hV
/-- A contract of no memory, put to work on rows of ours. -/
def scon (shs : List Sh) (c : List AV → T AV) : List AV → Hp → T (AV × Hp) := fun args hp =>
  (cvtTL shs hp args).bind fun args' => (pcon c args' []).bind fun r => match bareT r.1 with
    | true => .leaf (r.1, hp)
    | false => .fail
theorem scon_run {shs : List Sh} {c : List AV → T AV} {args : List AV} {hp hp' : Hp} {r : AV} (h : (scon shs c args hp).run = some (r, hp')) :
    hp' = hp ∧ bareT r = true ∧ ∃ args', (cvtTL shs hp args).run = some args' ∧ (pcon c args' []).run = some (r, []) := by
  unfold scon at h
  obtain ⟨args', h1, h2⟩ := bind_some_inv h
  obtain ⟨⟨r', hp2⟩, h3, h4⟩ := bind_some_inv h2
  have h5 := (pcon_run h3).2.2.2.1
  subst h5
  simp only at h4
  split at h4
  · rename_i hb
    simp only [T.run_leaf, Option.some.injEq, Prod.mk.injEq] at h4
    obtain ⟨rfl, rfl⟩ := h4
    exact ⟨rfl, hb, args', h1, h3⟩
  · cases h4
theorem sound_scon {f : FuncId} {c : List AV → T AV} (h : Sound1 P ⟨f, true, pcon c⟩) (shs : List Sh) : Sound1 P ⟨f, false, scon shs c⟩ where
  ok args hp r hp' hr X0 σ w vargs hR hV := by
    obtain ⟨rfl, hb, args', h1, h2⟩ := scon_run hr
    have hV' := cvtL_sound hR shs args args' _ h1 hV
    have hV2 : VL (Xof (fun _ => False) (fun _ => none) []) w (fun _ => none) args' vargs.toList := by rw [xof_start]; exact hV'
    refine (h.ok args' [] r [] h2 (fun _ => False) (fun _ => none) w vargs (rel_start w) hV2).mono ?_
    rintro v w' ⟨σ', g1, ⟨g2, g3⟩, g4, g5⟩
    rw [own_nil] at g2
    exact ⟨σ, fun _ _ h => h, ⟨g2.mono fun _ _ h => h.elim, fun _ _ h => h⟩, hR.step g2, V_bareT hb g5⟩
  len args hp r hp' hr := by
    obtain ⟨rfl, _⟩ := scon_run hr; exact Nat.le_refl _
  pure h := by cases h
end
end Go.Ab
namespace Go.Ab
open Go
set_option linter.unusedVariables false
set_option linter.unusedSimpArgs false
variable {P : Program}
theorem gcon_le {c c2 : List AV → Hp → T (AV × Hp)} (h : ∀ args hs r, (c args hs).run = some r → (c2 args hs).run = some r) {args : List AV} {hp : Hp} {r : AV × Hp} (hr : (gcon c args hp).run = some r) : (gcon c2 args hp).run = some r := by
  unfold gcon at hr ⊢
  simp only at hr ⊢
  split at hr
  · obtain ⟨a, h1, h2⟩ := bind_some_inv hr
    rw [T.run_bind, h _ _ _ h1]
    exact h2
  · cases hr
/-- The same contract, its leaves laid out otherwise. -/
theorem sound_le {f : FuncId} {c c2 : List AV → Hp → T (AV × Hp)} (hs : Sound1 P ⟨f, false, gcon c2⟩) (h : ∀ args hs r, (c args hs).run = some r → (c2 args hs).run = some r) : Sound1 P ⟨f, false, gcon c⟩ where
  ok args hp r hp' hr := hs.ok args hp r hp' (gcon_le h hr)
  len args hp r hp' hr := hs.len args hp r hp' (gcon_le h hr)
  pure h := by cases h
end Go.Ab
namespace Go.Ab
open Go Go.RowKit
set_option linter.unusedVariables false
set_option linter.unusedSimpArgs false

/-! ### A contract that is the kit's -/
theorem below_step {w w' : World} (h : Below w.heap.size w w') : Step (fun _ => False) w w' :=
  ⟨h.size, h.tape, h.os, h.output, fun g hg _ => h.block g hg, fun g arr t fr he => ⟨arr, fr, by rw [h.block g (Array.getElem?_eq_some_iff.1 he).1]; exact he, rfl⟩⟩
variable {P : Program}
/-- What a shelf's contract says, as a contract of ours: no memory is written, the result is plain. -/
theorem sound_shelf {f : FuncId} {c : List AV → T AV} (he : enterable P f = true)
    (h : ∀ args r, FitsL args → (c args).run = some r → bareT r = true ∧ ∀ X σ w (vargs : Array Value), VL X w σ args vargs.toList → ∃ v, V X w σ r v ∧ Calls P f vargs w fun e w' => e = .returned v ∧ Below w.heap.size w w') : Sound1 P ⟨f, true, pcon c⟩ where
  ok args hp r hp' hr X0 σ w vargs hR hV := by
    obtain ⟨h1, h2, h3, rfl, h4⟩ := pcon_run hr
    obtain ⟨hb, h5⟩ := h args r (VL_fits _ _ _ hV) h2
    obtain ⟨v, hv, hc⟩ := h5 _ _ _ _ hV
    refine .inl ⟨enter_of he _ _, callsIn_wide.2 (hc.mono ?_)⟩
    rintro e w' ⟨rfl, hbe⟩
    have hs := below_step hbe
    exact ⟨v, rfl, σ, fun _ _ h => h, ⟨hs.mono fun _ _ h => h.elim, fun _ _ h => h⟩, hR.step hs, V_bareT hb (V_mono (fun _ _ h => h) (hs.mono fun _ _ h => h.elim) r v σ σ (fun _ _ h => h) hv)⟩
  len args hp r hp' hr := by
    obtain ⟨_, _, _, rfl, _⟩ := pcon_run hr; exact Nat.le_refl _
  pure _ args hp r hp' hr := by
    obtain ⟨_, _, _, rfl, h4⟩ := pcon_run hr; exact ⟨rfl, h4⟩
/-- A row of texts, in the world. -/
theorem strs_cells {X : Blk} {w : World} {g off : Nat} {l : List (List UInt8)} (h : ∀ i c, i < l.length → c < 1 → ∃ u, w.cell? ⟨g, off + (i * 1 + c), none⟩ = some u ∧ one u = true ∧ V X w (fun _ => none) (strF l i c) u) :
    ∀ (j : Nat) (x : ByteArray), (l.map fun s => (⟨⟨s⟩⟩ : ByteArray))[j]? = some x → w.cell? ⟨g, off + j, none⟩ = some (.string x) := by
  intro j x hj
  rw [List.getElem?_map] at hj
  obtain ⟨s, hs, rfl⟩ := Option.map_eq_some_iff.1 hj
  obtain ⟨u, h1, h2, h3⟩ := h j 0 (List.getElem?_eq_some_iff.1 hs).1 (by omega)
  simp only [strF, V, List.getD_eq_getElem?_getD, hs, Option.getD_some] at h3
  rw [← h3.1, ← h1]
  simp
end Go.Ab
namespace Go.Ab
open Go
set_option linter.unusedVariables false
set_option linter.unusedSimpArgs false

/-! ### What a function lays, handed out as another's: nobody writes it again -/
inductive Fz where
  | any
  | rows (sz : Nat)
  | cap
  | agg (l : List Fz)
  | tup (l : List Fz)
def frzCap (hp : Hp) : AV → Option AV
  | .fn f [.ref b 0] => match hp[b]? with
    | some (some (.cells [a])) => if noref0 a = true then some (.fn f [.fref 1 fun _ => a]) else none
    | _ => none
  | _ => none
mutual
def frz : Fz → Hp → AV → Option AV
  | .any, hp, a => if norefA a = true then some a else none
  | .rows sz, hp, .nilsl => some (.sl sz 0 (strF []))
  | .rows sz, hp, .sl sz' n f => if sz = sz' then some (.sl sz n f) else none
  | .rows sz, hp, .row b sz' lo n => match hp[b]? with
    | some (some (.row sz'' m f)) => if sz = sz' ∧ sz = sz'' ∧ lo + n ≤ m then some (.sl sz n (fromF lo f)) else none
    | _ => none
  | .cap, hp, a => frzCap hp a
  | .agg l, hp, .agg cs => (frzL l hp cs).map .agg
  | .tup l, hp, .tup cs => (frzL l hp cs).map .tup
  | _, _, _ => none
def frzL : List Fz → Hp → List AV → Option (List AV)
  | [], hp, [] => some []
  | s :: ss, hp, a :: as => (frz s hp a).bind fun a' => (frzL ss hp as).map fun as' => a' :: as'
  | _, _, _ => none
end
section
variable {P : Program} {X0 : Blk} {σ : Sub} {hp : Hp} {w : World}
theorem V_sub {X X' : Blk} {a : AV} {v : Value} {s : Sub} (hX : ∀ g, X' g → X g) (h : V X w s a v) : V X' w s a v := V_mono (fun g _ h => hX g h) (Step.refl X w) a v _ _ (fun _ _ h => h) h
theorem V_row_own (hR : Rel X0 σ hp w) {b sz lo n m : Nat} {f : Nat → Nat → AV} {v : Value} (ho : hp[b]? = some (some (.row sz m f))) (hle : lo + n ≤ m) (hV : V (Xof X0 σ hp) w σ (.row b sz lo n) v) :
    V X0 w (fun _ => none) (.sl sz n (fromF lo f)) v := by
  have hf : fromF lo f = fun i => f (lo + i) := by
    cases lo with
    | zero => funext i; simp [fromF]
    | succ lo => rfl
  rw [hf]
  simp only [V] at hV ⊢
  obtain ⟨hn, g, o, cap, arr, t, fr, h1, h2, h3, h4, h5, h6⟩ := hV
  obtain ⟨g', q1, arr', ⟨t', fr', q2, q3, q4⟩, q5, q6, q7⟩ := hR.obj b _ ho
  rw [h1] at q1; injection q1 with q1; subst q1
  rw [h5] at q2; injection q2 with q2; injection q2 with q2 _ _; subst q2
  refine ⟨hn, .inr ⟨g, o, cap, h2, h3, hR.lt b g h1, hR.sep b g h1, fun i c hi hc => ?_⟩⟩
  have hoo : o = lo * sz := by
    rcases h4 with h4 | h4
    · exact h4
    · omega
  have hlt : (lo + i) * sz + c < arr.size := by
    have h8 : (lo + i + 1) * sz ≤ m * sz := Nat.mul_le_mul_right _ (by omega)
    rw [Nat.succ_mul] at h8
    omega
  have hix : o + (i * sz + c) = (lo + i) * sz + c := by rw [hoo, Nat.add_mul]; omega
  refine ⟨arr[(lo + i) * sz + c], ?_, ?_, ?_⟩
  · rw [hix]
    simp [World.cell?, h5, hlt]
  · exact q4 _ (by simp)
  · exact V_sub (fun _ h => .inl h) (q7 (lo + i) c _ (by omega) hc (Array.getElem?_eq_getElem hlt))
theorem noref0_one {X : Blk} {s : Sub} {a : AV} {u : Value} (h : noref0 a = true) (hV : V X w s a u) : one u = true := by
  refine V_one hV ?_
  cases a <;> first | rfl | cases h
theorem frzCap_sound (hR : Rel X0 σ hp w) {a a' : AV} {v : Value} (h : frzCap hp a = some a') (hV : V (Xof X0 σ hp) w σ a v) : V X0 w (fun _ => none) a' v := by
  unfold frzCap at h
  split at h
  · rename_i f b
    split at h
    · rename_i c ho
      split at h
      · rename_i hn
        injection h with h; subst h
        simp only [V] at hV ⊢
        obtain ⟨vs, rfl, u, us, hvs, ⟨g, hg, rfl⟩, rfl⟩ := hV
        obtain ⟨g', q1, arr, q2, u2, us2, q3, q4, q5⟩ := hR.obj b _ ho
        rw [hg] at q1; injection q1 with q1; subst q1
        refine ⟨vs, rfl, _, _, hvs, ⟨g, 0, rfl, hR.lt b g hg, hR.sep b g hg, fun c hc => ⟨u2, ?_, noref0_one hn q4, ?_⟩⟩, rfl⟩
        · have : c = 0 := by omega
          subst this
          rw [q2.cell]
          have : arr.toList[0]? = some u2 := by rw [q3]; rfl
          simpa using this
        · exact V_sub (fun _ h => .inl h) (V_noref0 q4 hn)
      · cases h
    · cases h
  · cases h
mutual
theorem frz_sound (hR : Rel X0 σ hp w) : (s : Fz) → (a : AV) → (a' : AV) → (v : Value) → frz s hp a = some a' → V (Xof X0 σ hp) w σ a v → V X0 w (fun _ => none) a' v
  | s, a, a', v, h, hV => by
    cases s with
    | any =>
      simp only [frz] at h
      split at h
      · rename_i hn
        injection h with h; subst h
        exact V_sub (fun _ h => .inl h) (V_norefA hn hV)
      · cases h
    | rows sz =>
      cases a <;> simp only [frz] at h <;> first | (cases h; done) | skip
      case nilsl =>
        injection h with h; subst h
        simp only [V] at hV ⊢
        exact ⟨by simp [bnd], .inl ⟨hV, trivial⟩⟩
      case sl sz' n f =>
        split at h
        · rename_i he
          subst he
          injection h with h; subst h
          exact V_sub (fun _ h => .inl h) (V_noref hV rfl)
        · cases h
      case row b sz' lo n =>
        split at h
        · rename_i sz'' m f ho
          split at h
          · rename_i he
            obtain ⟨rfl, rfl, hle⟩ := he
            injection h with h; subst h
            exact V_row_own hR ho hle hV
          · cases h
        · cases h
    | cap =>
      simp only [frz] at h
      exact frzCap_sound hR h hV
    | agg l =>
      cases a <;> simp only [frz] at h <;> first | (cases h; done) | skip
      case agg cs =>
        obtain ⟨cs', h1, rfl⟩ := Option.map_eq_some_iff.1 h
        simp only [V] at hV ⊢
        obtain ⟨vs, rfl, hV⟩ := hV
        exact ⟨vs, rfl, frzL_sound hR l cs cs' _ h1 hV⟩
    | tup l =>
      cases a <;> simp only [frz] at h <;> first | (cases h; done) | skip
      case tup cs =>
        obtain ⟨cs', h1, rfl⟩ := Option.map_eq_some_iff.1 h
        simp only [V] at hV ⊢
        obtain ⟨vs, rfl, hV⟩ := hV
        exact ⟨vs, rfl, frzL_sound hR l cs cs' _ h1 hV⟩
theorem frzL_sound (hR : Rel X0 σ hp w) : (s : List Fz) → (as : List AV) → (as' : List AV) → (vs : List Value) → frzL s hp as = some as' → VL (Xof X0 σ hp) w σ as vs → VL X0 w (fun _ => none) as' vs
  | [], [], as', vs, h, hV => by
    simp only [frzL] at h
    injection h with h; subst h
    exact hV
  | s :: ss, a :: as, as', vs, h, hV => by
    simp only [frzL] at h
    obtain ⟨a', h1, h2⟩ := Option.bind_eq_some_iff.1 h
    obtain ⟨as'', h3, rfl⟩ := Option.map_eq_some_iff.1 h2
    obtain ⟨u, us, rfl, h5, h6⟩ := hV
    exact ⟨u, us, rfl, frz_sound hR s a a' u h1 h5, frzL_sound hR ss as as'' us h3 h6⟩
  | [], _ :: _, _, _, h, _ => by simp [frzL] at h
  | _ :: _, [], _, _, h, _ => by simp [frzL] at h
end
/-- **A CONTRACT OF NO MEMORY, OUT OF THE TREE OF A FUNCTION THAT LAYS WHAT IT HANDS OUT.** -/
theorem sound_frz {t : Tab} (ht : SoundTab P t) {hs : FuncId → HintsT} {f : FuncId} {c : List AV → T AV} {hn : HintsT} {m k : Nat} {Λ : LoopT} (s : Fz)
    (hW : ∀ i, i < (loopsOf (bodyOf P f)).length → LoopOk P t.pf (fun n => hd P t.pf t.con.run (fun f => (hs f).to) n k) hn.to f 0 none Λ (loopAt P f i))
    (h : ∀ args r, FitsL args → (c args).run = some r → ∃ r0 h0, (evFnT P t.pf (hdT P t.pf t.con hs m k) hn m Λ f args []).run = some (r0, h0) ∧ frz s h0 r0 = some r) : Sound1 P ⟨f, true, pcon c⟩ where
  ok args hp r hp' hr X0 σ w vargs hR hV := by
    obtain ⟨h1, h2, h3, rfl, h4⟩ := pcon_run hr
    obtain ⟨r0, h0, h5, h6⟩ := h args r (VL_fits _ _ _ hV) h2
    have hV' : VL (Xof (Xof X0 σ hp') (fun _ => none) []) w (fun _ => none) args vargs.toList := by rw [Xof_empty]; exact VL_noref h1 hV
    refine ((fn_call ht (within_at hW) h5 hR.empty hV').1).mono ?_
    rintro v w' ⟨σ', g1, ⟨g2, g3⟩, g4, g5⟩
    rw [own_nil] at g2
    exact ⟨σ, fun _ _ h => h, ⟨g2.mono fun _ _ h => h.elim, fun _ _ h => h⟩, hR.step g2, V_mono (fun _ _ h => h) (Step.refl _ _) r v _ _ (fun _ _ h => by cases h) (frz_sound g4 s r0 r v h6 g5)⟩
  len args hp r hp' hr := by
    obtain ⟨_, _, _, rfl, _⟩ := pcon_run hr; exact Nat.le_refl _
  pure _ args hp r hp' hr := by
    obtain ⟨_, _, _, rfl, h4⟩ := pcon_run hr; exact ⟨rfl, h4⟩
/-- The same, out of a contract over memory. -/
theorem sound_frzg {f : FuncId} {c0 : List AV → Hp → T (AV × Hp)} {c : List AV → T AV} (hc : Sound1 P ⟨f, false, gcon c0⟩) (s : Fz)
    (h : ∀ args r, (c args).run = some r → ∃ r0 h0, (gcon c0 args []).run = some (r0, h0) ∧ frz s h0 r0 = some r) : Sound1 P ⟨f, true, pcon c⟩ where
  ok args hp r hp' hr X0 σ w vargs hR hV := by
    obtain ⟨h1, h2, h3, rfl, h4⟩ := pcon_run hr
    obtain ⟨r0, h0, h5, h6⟩ := h args r h2
    have hV' : VL (Xof (Xof X0 σ hp') (fun _ => none) []) w (fun _ => none) args vargs.toList := by rw [Xof_empty]; exact VL_noref h1 hV
    refine (hc.ok args [] r0 h0 h5 _ _ w vargs hR.empty hV').mono ?_
    rintro v w' ⟨σ', g1, ⟨g2, g3⟩, g4, g5⟩
    rw [own_nil] at g2
    exact ⟨σ, fun _ _ h => h, ⟨g2.mono fun _ _ h => h.elim, fun _ _ h => h⟩, hR.step g2, V_mono (fun _ _ h => h) (Step.refl _ _) r v _ _ (fun _ _ h => by cases h) (frz_sound g4 s r0 r v h6 g5)⟩
  len args hp r hp' hr := by
    obtain ⟨_, _, _, rfl, _⟩ := pcon_run hr; exact Nat.le_refl _
  pure _ args hp r hp' hr := by
    obtain ⟨_, _, _, rfl, h4⟩ := pcon_run hr; exact ⟨rfl, h4⟩
end
end Go.Ab

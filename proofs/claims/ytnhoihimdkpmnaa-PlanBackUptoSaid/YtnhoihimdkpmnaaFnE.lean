/- Lemmas for the claims of this seat (a verified symbolic evaluator, and contracts of functions): own work; no condition. -/
import Derived.Test.YtnhoihimdkpmnaaFnD
import Derived.Test.YtnhoihimdkpmnaaEvF
namespace Go.Pln
open Go Go.Proofs Go.ChangeShapes Go.WideShapes Go.Ab Go.Deep
set_option linter.unusedVariables false
set_option linter.unusedSimpArgs false
/-! ### Arguments that hold rows of picks -/
def smallP (L : List Pk) : Prop := L.length ≤ bnd ∧ ∀ t ∈ L, t.nm.length ≤ bnd ∧ t.vr.length ≤ bnd
def RowP {H : Type} (L : List Pk) (d : DataW H) : Prop := (L = [] ∧ d = .nil) ∨ ∃ sp, d = .slice (L.map fun t => .agg [.lit (.string t.nm), .lit (.string t.vr)]) sp
section
variable {P : Program} {H : Type} {enc : TypeId × Value → H} {W : World}
theorem trod_str_p {base : Nat} {sp : Nat → Bool} {held : Bool} {n : Nat} {u : TypeId} {a : Value} {q : DataW H × List MemPlace} (hu : P.underlying u = some .string) (hq : DataW.trod enc P W base sp held n u [a] = some q) : ∃ x : ByteArray, a = .string x ∧ q.1 = .lit (.string x.data.toList) := by
  obtain ⟨n, rfl⟩ : ∃ m, n = m + 1 := by cases n with
    | zero => simp [DataW.trod] at hq
    | succ m => exact ⟨m, rfl⟩
  cases a <;> simp [DataW.trod, hu] at hq
  rename_i x
  exact ⟨x, rfl, by rw [← hq.2]⟩
theorem open_picks {r : Reach} {b0 base : Nat} {sp : Nat → Bool} {held : Bool} {t e : TypeId} {f0 f1 : Field} {n : Nat} {a : Value} {x : DataW H × List MemPlace} (ht : P.underlying t = some (.slice e)) (he : P.underlying e = some (.struct #[f0, f1]))
    (h0 : P.underlying f0.type = some .string) (h1 : P.underlying f1.type = some .string) (o0 : f0.offset = 0) (o1 : f1.offset = 1)
    (ce : P.cellsOf e = 2) (c0 : P.cellsOf f0.type = 1) (c1 : P.cellsOf f1.type = 1)
    (hval : Cell.okWide P W r b0 t a) (h : DataW.trod enc P W base sp held n t [a] = some x) :
    ∃ L : List Pk, RowP L x.1 ∧ (smallP L → V (fun _ => False) W (fun _ => none) (.sl 2 L.length (rowK (fnG CK.df L))) a) := by
  unfold Cell.okWide at hval
  rw [ht] at hval
  rcases open_slice ht h with ⟨h1, rfl⟩ | ⟨ad, len, cap, m, n', D, Pl, h1', hb, hl, hm, hmm, rfl, hx⟩
  · obtain rfl : a = .slice none 0 0 := by simpa using h1
    refine ⟨[], .inl ⟨rfl, rfl⟩, fun hsm => ?_⟩
    simp only [V]
    exact ⟨by simp [bnd], .inl ⟨by first | trivial | rfl, rfl⟩⟩
  · obtain rfl : a = .slice (some ad) len cap := by simpa using h1'
    simp only [Cell.ok, ht] at hval
    obtain ⟨_, hcap, _, hspot, row, cells, hsh, _⟩ := hval
    have hlm : len ≤ m := by rw [hmm]; split <;> omega
    have hblk : ad.block < W.heap.size := by
      unfold World.shape? at hsh
      rcases Nat.lt_or_ge ad.block W.heap.size with h2 | h2
      · exact h2
      · rw [Array.getElem?_eq_none h2] at hsh; cases hsh
    have each : ∀ i, i < m → ∃ k : Pk × ByteArray × ByteArray, k.1.nm = k.2.1.data.toList ∧ k.1.vr = k.2.2.data.toList ∧ W.cell? (ad.add (i * 2)) = some (.string k.2.1) ∧ W.cell? (ad.add (i * 2 + 1)) = some (.string k.2.2) ∧
        D i = .agg [.lit (.string k.1.nm), .lit (.string k.1.vr)] := by
      intro i hi
      obtain ⟨cs', q1, q2⟩ := hx i hi
      rw [ce] at q1
      obtain ⟨_, hlen, hcell⟩ := World.cells?_some q1
      obtain ⟨y0, y1, k, hxy, _, g0, g1⟩ := trod_struct2 he q2
      match cs', hlen with
      | [v0, v1], _ =>
        simp [o0, o1, c0, c1] at g0 g1
        have e0 := hcell 0 (by omega)
        have e1 := hcell 1 (by omega)
        rw [add_add] at e0 e1
        obtain ⟨nx, rfl, w0⟩ := trod_str_p h0 g0
        obtain ⟨vx, rfl, w1⟩ := trod_str_p h1 g1
        refine ⟨(⟨nx.data.toList, vx.data.toList⟩, nx, vx), rfl, rfl, by simpa using e0, by simpa using e1, ?_⟩
        simp only [Prod.mk.injEq] at hxy
        rw [hxy.1, w0, w1]
    obtain ⟨q, hq⟩ := choose_lt each
    obtain ⟨bk, of, sp'⟩ := ad
    simp only at hspot hblk
    subst hspot
    refine ⟨(List.range len).map fun i => (q i).1, .inr ⟨(List.range (m - len)).map fun j => D (len + j), ?_⟩, fun hsm => ?_⟩
    · simp only [List.map_map]
      congr 1
      exact List.map_congr_left fun i hi => (hq i (by have := List.mem_range.1 hi; omega)).2.2.2.2
    · have hbl : len ≤ bnd := by simpa using hsm.1
      simp only [V, List.length_map, List.length_range]
      refine ⟨hbl, .inr ⟨bk, of, cap, rfl, hl, hblk, id, fun i c hi hc => ?_⟩⟩
      obtain ⟨k0, k1, k2, k3, _⟩ := hq i (by omega)
      have ef : fnG CK.df ((List.range len).map fun i => (q i).1) i = (q i).1 := by
        unfold fnG
        rw [List.getD_eq_getElem?_getD, List.getElem?_map, List.getElem?_range hi]; rfl
      have ea : ∀ j, (⟨bk, of, none⟩ : Addr).add j = ⟨bk, of + j, none⟩ := fun j => by
        by_cases hj : j = 0
        · subst hj; simp [Addr.add]
        · simp [Addr.add, hj]
      rw [ea] at k2 k3
      have hb2 := hsm.2 (q i).1 (List.mem_map.2 ⟨i, List.mem_range.2 hi, rfl⟩)
      rcases (by omega : c = 0 ∨ c = 1) with rfl | rfl
      · refine ⟨_, k2, rfl, ?_⟩
        simp only [rowK, V, ef, k0]
        refine ⟨by first | trivial | rfl, ?_⟩
        have := hb2.1
        rwa [k0] at this
      · refine ⟨_, k3, rfl, ?_⟩
        simp only [rowK, V, ef, k1]
        refine ⟨by first | trivial | rfl, ?_⟩
        have := hb2.2
        rwa [k1] at this
theorem cells_of_slice_p {r : Reach} {b0 : Nat} {t e : TypeId} {v : Value} (ht : P.underlying t = some (.slice e)) (hval : Value.okWide P W r b0 t v) : v.cells.toList = [v] ∧ Cell.okWide P W r b0 t v := by
  unfold Value.okWide at hval
  rw [ht] at hval
  refine ⟨?_, hval⟩
  unfold Cell.okWide at hval
  rw [ht] at hval
  cases v <;> first | rfl | (simp [Cell.ok, ht] at hval)
theorem open_picksV {r : Reach} {b0 base : Nat} {sp : Nat → Bool} {held : Bool} {t e : TypeId} {f0 f1 : Field} {v : Value} {d : DataW H} {ps : List MemPlace} (ht : P.underlying t = some (.slice e)) (he : P.underlying e = some (.struct #[f0, f1]))
    (h0 : P.underlying f0.type = some .string) (h1 : P.underlying f1.type = some .string) (o0 : f0.offset = 0) (o1 : f1.offset = 1)
    (ce : P.cellsOf e = 2) (c0 : P.cellsOf f0.type = 1) (c1 : P.cellsOf f1.type = 1)
    (hval : Value.okWide P W r b0 t v) (hd : DataW.Trod enc P W base sp held t v d ps) :
    ∃ L : List Pk, RowP L d ∧ (smallP L → V (fun _ => False) W (fun _ => none) (.sl 2 L.length (rowK (fnG CK.df L))) v) := by
  obtain ⟨n, hn⟩ := hd
  obtain ⟨q1, q2⟩ := cells_of_slice_p ht hval
  rw [q1] at hn
  exact open_picks ht he h0 h1 o0 o1 ce c0 c1 q2 hn
end
end Go.Pln
namespace Go.Proofs.Ytnhoihimdkpmnaa
open Go.ChangeShapes Go.WideShapes Go.ChangeAt Go.RowKit Go.Ab Go.Pln
end Go.Proofs.Ytnhoihimdkpmnaa

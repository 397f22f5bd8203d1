/- Lemmas for the claims of this seat (a verified symbolic evaluator, and contracts of functions): own work; no condition. -/
import Derived.Test.YtnhoihimdkpmnaaFnD
import Derived.Test.YtnhoihimdkpmnaaEvF
import Derived.Shelf.Sort.Plain
import Derived.Shelf.Slices.In.SortNone
import Derived.Shelf.Slices.CompactS
namespace Go.Pln
open Go Go.Proofs Go.ChangeShapes Go.WideShapes Go.Ab Go.Deep
set_option linter.unusedVariables false
set_option linter.unusedSimpArgs false
/-! ### Arguments that hold rows of picks -/
def smallP (L : List Pk) : Prop := L.length ≤ bnd ∧ ∀ t ∈ L, t.nm.length ≤ bnd ∧ t.vr.length ≤ bnd
def RowP {H : Type} (L : List Pk) (d : DataW H) : Prop := (L = [] ∧ d = .nil) ∨ ∃ sp, d = .slice (L.map fun t => .agg [.lit (.string t.nm), .lit (.string t.vr)]) sp
section
variable {P : Program} {H : Type} {enc : TypeId × Value → H} {W : World}
theorem trod_str_p {base : Nat} {sp : Nat → Bool} {held : Bool} {n : Nat} {u : TypeId} {a : Value} {q : DataW H × List MemPlace} (hu : P.underlying u = some .string) (hq : DataW.trod enc P W base sp held n u [a] = some q) : ∃ x : ByteArray, a = .string x ∧ q.1 = .lit (.string x.data.toList) := by
  obtain ⟨n, rfl⟩ : ∃ m, n = m + 1 := by cases n with
    | zero => simp [DataW.trod] at hq
    | succ m => exact ⟨m, rfl⟩
  cases a <;> simp [DataW.trod, hu] at hq
  rename_i x
  exact ⟨x, rfl, by rw [← hq.2]⟩
theorem open_picks {r : Reach} {b0 base : Nat} {sp : Nat → Bool} {held : Bool} {t e : TypeId} {f0 f1 : Field} {n : Nat} {a : Value} {x : DataW H × List MemPlace} (ht : P.underlying t = some (.slice e)) (he : P.underlying e = some (.struct #[f0, f1]))
    (h0 : P.underlying f0.type = some .string) (h1 : P.underlying f1.type = some .string) (o0 : f0.offset = 0) (o1 : f1.offset = 1)
    (ce : P.cellsOf e = 2) (c0 : P.cellsOf f0.type = 1) (c1 : P.cellsOf f1.type = 1)
    (hval : Cell.okWide P W r b0 t a) (h : DataW.trod enc P W base sp held n t [a] = some x) :
    ∃ L : List Pk, RowP L x.1 ∧ (smallP L → V (fun _ => False) W (fun _ => none) (.sl 2 L.length (rowK (fnG CK.df L))) a) := by
  unfold Cell.okWide at hval
  rw [ht] at hval
  rcases open_slice ht h with ⟨h1, rfl⟩ | ⟨ad, len, cap, m, n', D, Pl, h1', hb, hl, hm, hmm, rfl, hx⟩
  · obtain rfl : a = .slice none 0 0 := by simpa using h1
    refine ⟨[], .inl ⟨rfl, rfl⟩, fun hsm => ?_⟩
    simp only [V]
    exact ⟨by simp [bnd], .inl ⟨by first | trivial | rfl, rfl⟩⟩
  · obtain rfl : a = .slice (some ad) len cap := by simpa using h1'
    simp only [Cell.ok, ht] at hval
    obtain ⟨_, hcap, _, hspot, row, cells, hsh, _⟩ := hval
    have hlm : len ≤ m := by rw [hmm]; split <;> omega
    have hblk : ad.block < W.heap.size := by
      unfold World.shape? at hsh
      rcases Nat.lt_or_ge ad.block W.heap.size with h2 | h2
      · exact h2
      · rw [Array.getElem?_eq_none h2] at hsh; cases hsh
    have each : ∀ i, i < m → ∃ k : Pk × ByteArray × ByteArray, k.1.nm = k.2.1.data.toList ∧ k.1.vr = k.2.2.data.toList ∧ W.cell? (ad.add (i * 2)) = some (.string k.2.1) ∧ W.cell? (ad.add (i * 2 + 1)) = some (.string k.2.2) ∧
        D i = .agg [.lit (.string k.1.nm), .lit (.string k.1.vr)] := by
      intro i hi
      obtain ⟨cs', q1, q2⟩ := hx i hi
      rw [ce] at q1
      obtain ⟨_, hlen, hcell⟩ := World.cells?_some q1
      obtain ⟨y0, y1, k, hxy, _, g0, g1⟩ := trod_struct2 he q2
      match cs', hlen with
      | [v0, v1], _ =>
        simp [o0, o1, c0, c1] at g0 g1
        have e0 := hcell 0 (by omega)
        have e1 := hcell 1 (by omega)
        rw [add_add] at e0 e1
        obtain ⟨nx, rfl, w0⟩ := trod_str_p h0 g0
        obtain ⟨vx, rfl, w1⟩ := trod_str_p h1 g1
        refine ⟨(⟨nx.data.toList, vx.data.toList⟩, nx, vx), rfl, rfl, by simpa using e0, by simpa using e1, ?_⟩
        simp only [Prod.mk.injEq] at hxy
        rw [hxy.1, w0, w1]
    obtain ⟨q, hq⟩ := choose_lt each
    obtain ⟨bk, of, sp'⟩ := ad
    simp only at hspot hblk
    subst hspot
    refine ⟨(List.range len).map fun i => (q i).1, .inr ⟨(List.range (m - len)).map fun j => D (len + j), ?_⟩, fun hsm => ?_⟩
    · simp only [List.map_map]
      congr 1
      exact List.map_congr_left fun i hi => (hq i (by have := List.mem_range.1 hi; omega)).2.2.2.2
    · have hbl : len ≤ bnd := by simpa using hsm.1
      simp only [V, List.length_map, List.length_range]
      refine ⟨hbl, .inr ⟨bk, of, cap, rfl, hl, hblk, id, fun i c hi hc => ?_⟩⟩
      obtain ⟨k0, k1, k2, k3, _⟩ := hq i (by omega)
      have ef : fnG CK.df ((List.range len).map fun i => (q i).1) i = (q i).1 := by
        unfold fnG
        rw [List.getD_eq_getElem?_getD, List.getElem?_map, List.getElem?_range hi]; rfl
      have ea : ∀ j, (⟨bk, of, none⟩ : Addr).add j = ⟨bk, of + j, none⟩ := fun j => by
        by_cases hj : j = 0
        · subst hj; simp [Addr.add]
        · simp [Addr.add, hj]
      rw [ea] at k2 k3
      have hb2 := hsm.2 (q i).1 (List.mem_map.2 ⟨i, List.mem_range.2 hi, rfl⟩)
      rcases (by omega : c = 0 ∨ c = 1) with rfl | rfl
      · refine ⟨_, k2, rfl, ?_⟩
        simp only [rowK, V, ef, k0]
        refine ⟨by first | trivial | rfl, ?_⟩
        have := hb2.1
        rwa [k0] at this
      · refine ⟨_, k3, rfl, ?_⟩
        simp only [rowK, V, ef, k1]
        refine ⟨by first | trivial | rfl, ?_⟩
        have := hb2.2
        rwa [k1] at this
theorem cells_of_slice_p {r : Reach} {b0 : Nat} {t e : TypeId} {v : Value} (ht : P.underlying t = some (.slice e)) (hval : Value.okWide P W r b0 t v) : v.cells.toList = [v] ∧ Cell.okWide P W r b0 t v := by
  unfold Value.okWide at hval
  rw [ht] at hval
  refine ⟨?_, hval⟩
  unfold Cell.okWide at hval
  rw [ht] at hval
  cases v <;> first | rfl | (simp [Cell.ok, ht] at hval)
theorem open_picksV {r : Reach} {b0 base : Nat} {sp : Nat → Bool} {held : Bool} {t e : TypeId} {f0 f1 : Field} {v : Value} {d : DataW H} {ps : List MemPlace} (ht : P.underlying t = some (.slice e)) (he : P.underlying e = some (.struct #[f0, f1]))
    (h0 : P.underlying f0.type = some .string) (h1 : P.underlying f1.type = some .string) (o0 : f0.offset = 0) (o1 : f1.offset = 1)
    (ce : P.cellsOf e = 2) (c0 : P.cellsOf f0.type = 1) (c1 : P.cellsOf f1.type = 1)
    (hval : Value.okWide P W r b0 t v) (hd : DataW.Trod enc P W base sp held t v d ps) :
    ∃ L : List Pk, RowP L d ∧ (smallP L → V (fun _ => False) W (fun _ => none) (.sl 2 L.length (rowK (fnG CK.df L))) v) := by
  obtain ⟨n, hn⟩ := hd
  obtain ⟨q1, q2⟩ := cells_of_slice_p ht hval
  rw [q1] at hn
  exact open_picks ht he h0 h1 o0 o1 ce c0 c1 q2 hn
end
end Go.Pln
namespace Go.Proofs.Ytnhoihimdkpmnaa
open Go.ChangeShapes Go.WideShapes Go.ChangeAt Go.RowKit Go.Ab Go.Pln
end Go.Proofs.Ytnhoihimdkpmnaa
namespace Go.Pln
open Go Go.Proofs Go.Ab
set_option maxRecDepth 100000
set_option linter.unusedVariables false
set_option linter.unusedSimpArgs false

/-! ### The library's sort and Compact -/
def lays190_ren : Go.Shelf.Ren := ⟨fun | 190 => 25 | 125 => 47 | 258 => 46 | 128 => 69 | 129 => 70 | 302 => 60 | 303 => 61 | 304 => 62 | 305 => 63 | 306 => 64 | 307 => 65 | 308 => 66 | 309 => 67 | 310 => 68 | 333 => 74 | 329 => 75 | 330 => 76 | 334 => 77 | 335 => 78 | 336 => 79 | 344 => 84 | n => n, fun | 31 => 55 | 9 => 9 | 3 => 3 | 46 => 104 | 0 => 0 | 51 => 123 | 53 => 125 | 4 => 4 | 183 => 115 | 182 => 114 | 131 => 120 | 5 => 5 | 218 => 130 | 222 => 134 | 228 => 138 | 229 => 139 | n => n, fun | n => n⟩
theorem lays190 : Lays.n190 Try.prog lays190_ren where
  mixed := by kernel_rfl
  f125 := Try.func47.trans (congrArg some (by kernel_rfl))
  f128 := Try.func69.trans (congrArg some (by kernel_rfl))
  f129 := Try.func70.trans (congrArg some (by kernel_rfl))
  f190 := Try.func25.trans (congrArg some (by kernel_rfl))
  f258 := Try.func46.trans (congrArg some (by kernel_rfl))
  f302 := Try.func60.trans (congrArg some (by kernel_rfl))
  f303 := Try.func61.trans (congrArg some (by kernel_rfl))
  f304 := Try.func62.trans (congrArg some (by kernel_rfl))
  f305 := Try.func63.trans (congrArg some (by kernel_rfl))
  f306 := Try.func64.trans (congrArg some (by kernel_rfl))
  f307 := Try.func65.trans (congrArg some (by kernel_rfl))
  f308 := Try.func66.trans (congrArg some (by kernel_rfl))
  f309 := Try.func67.trans (congrArg some (by kernel_rfl))
  f310 := Try.func68.trans (congrArg some (by kernel_rfl))
  f329 := Try.func75.trans (congrArg some (by kernel_rfl))
  f330 := Try.func76.trans (congrArg some (by kernel_rfl))
  f333 := Try.func74.trans (congrArg some (by kernel_rfl))
  f334 := Try.func77.trans (congrArg some (by kernel_rfl))
  f335 := Try.func78.trans (congrArg some (by kernel_rfl))
  f336 := Try.func79.trans (congrArg some (by kernel_rfl))
  f344 := Try.func84.trans (congrArg some (by kernel_rfl))
  t0 := Try.underlying0
  a0 := Try.isAgg0
  z0 := Try.sizeOf0
  v0 := Try.zeroValue0
  t3 := Try.underlying3
  a3 := Try.isAgg3
  z3 := Try.sizeOf3
  v3 := Try.zeroValue3
  t4 := Try.underlying4
  a4 := Try.isAgg4
  z4 := Try.sizeOf4
  v4 := Try.zeroValue4
  t5 := Try.underlying5
  a5 := Try.isAgg5
  z5 := Try.sizeOf5
  v5 := Try.zeroValue5
  t9 := Try.underlying9
  a9 := Try.isAgg9
  z9 := Try.sizeOf9
  v9 := Try.zeroValue9
  t31 := Try.underlying55
  a31 := Try.isAgg55
  z31 := Try.sizeOf55
  v31 := Try.zeroValue55
  t46 := Try.underlying104
  a46 := Try.isAgg104
  z46 := Try.sizeOf104
  v46 := Try.zeroValue104
  t51 := Try.underlying123
  a51 := Try.isAgg123
  z51 := Try.sizeOf123
  v51 := Try.zeroValue123
  t53 := Try.underlying125
  a53 := Try.isAgg125
  z53 := Try.sizeOf125
  v53 := Try.zeroValue125
  t131 := Try.underlying120
  a131 := Try.isAgg120
  z131 := Try.sizeOf120
  v131 := Try.zeroValue120
  t182 := Try.underlying114
  a182 := Try.isAgg114
  z182 := Try.sizeOf114
  v182 := Try.zeroValue114
  t183 := Try.underlying115
  a183 := Try.isAgg115
  z183 := Try.sizeOf115
  v183 := Try.zeroValue115
  t218 := Try.underlying130
  a218 := Try.isAgg130
  z218 := Try.sizeOf130
  v218 := Try.zeroValue130
  t222 := Try.underlying134
  a222 := Try.isAgg134
  z222 := Try.sizeOf134
  v222 := Try.zeroValue134
  t228 := Try.underlying138
  a228 := Try.isAgg138
  z228 := Try.sizeOf138
  v228 := Try.zeroValue138
  t229 := Try.underlying139
  a229 := Try.isAgg139
  z229 := Try.sizeOf139
  v229 := Try.zeroValue139
def lays194_ren : Go.Shelf.Ren := ⟨fun | 194 => 26 | n => n, fun | 31 => 55 | 9 => 9 | 3 => 3 | 4 => 4 | 0 => 0 | n => n, fun | n => n⟩
theorem lays194 : Lays.n194 Try.prog lays194_ren where
  mixed := by kernel_rfl
  f194 := Try.func26.trans (congrArg some (by kernel_rfl))
  t0 := Try.underlying0
  a0 := Try.isAgg0
  z0 := Try.sizeOf0
  v0 := Try.zeroValue0
  t3 := Try.underlying3
  a3 := Try.isAgg3
  z3 := Try.sizeOf3
  v3 := Try.zeroValue3
  t4 := Try.underlying4
  a4 := Try.isAgg4
  z4 := Try.sizeOf4
  v4 := Try.zeroValue4
  t9 := Try.underlying9
  a9 := Try.isAgg9
  z9 := Try.sizeOf9
  v9 := Try.zeroValue9
  t31 := Try.underlying55
  a31 := Try.isAgg55
  z31 := Try.sizeOf55
  v31 := Try.zeroValue55
theorem s25 : Sound1 Try.prog ⟨25, false, cSortS⟩ :=
  sound_sortStr (by kernel_rfl) (fun w => Any.slices_Sort_string_none lays190 none 0 w) (fun blk off cap ss w h1 h2 h3 => Any.slices_Sort_string lays190 blk off cap ss w h1 h2 h3)
theorem s26 : Sound1 Try.prog ⟨26, false, cCompS⟩ :=
  sound_compactStr (by kernel_rfl) (fun w => Any.slices_Compact_string_empty lays194 none 0 w) (fun blk off cap ss w h1 h2 h3 => Any.slices_Compact_string lays194 blk off cap ss w h1 h2 h3)
noncomputable def tabN : Tab := ⟨25, false, cSortS⟩ :: ⟨26, false, cCompS⟩ :: tabJ
theorem all_tabN : ∀ e, e ∈ tabN → Sound1 Try.prog e := sound_mem_tab s25 (sound_mem_tab s26 all_tabJ)
end Go.Pln
namespace Go.Pln
open Go Go.Proofs Go.Ab
set_option maxRecDepth 100000
set_option linter.unusedVariables false
set_option linter.unusedSimpArgs false

/-! ### there: a map of the picks -/
def tm22 : Tm := tmOf 17 [(2, AV.nilmap), (3, AV.ref 1 0), (8, AV.fn 59 [AV.ref 2 0])]
noncomputable def lo22 (st : LoopState) (pe : Option Code) : AObj := match loopAt Try.prog 22 0 with
  | .rangeFunc _ ps ag bo => .loop 22 st pe tm22 ps ag bo 3
  | _ => .dfr
noncomputable def hp22 (n : Nat) (f : Nat → Pk) (m : List (List UInt8 × List UInt8)) (st : LoopState) (pe : Option Code) : Hp :=
  [some (.smap m), some (.cells [.map 0]), some (.cells [.sl 2 n (rowK f)]), some .dfr, some (lo22 st pe)]
def hs22 : FuncId → HintsT := fun f => match Nat.beq f 59 with
  | true => h59
  | false => match Nat.beq f 22 with
    | true => h22
    | false => ⟨0, [], []⟩
noncomputable abbrev hd22 (k : Nat) : HdT := hdT Try.prog tabN.pf tabN.con hs22 20 k
noncomputable def s59 (n : Nat) (f : Nat → Pk) (m : List (List UInt8 × List UInt8)) (i : Int) : St :=
  { tm := encGo (mbits 11 19) [.yield 4, .ref 2 0, .int .i64 i], ms := [], hp := hp22 n f m .ready none }
def putB (f : Nat → Pk) : Nat → List (List UInt8 × List UInt8) → List (List UInt8 × List UInt8)
  | 0, m => m
  | k + 1, m => putB f k (putM (f k).nm (f k).vr m)
structure Y59 where
  n : Nat
  f : Nat → Pk
  m : List (List UInt8 × List UInt8)
  k : Nat
noncomputable def e59 : Y59 → List AV × Hp := fun ⟨n, f, m, k⟩ => ([.yield 4, .ref 2 0, .int .i64 ((k : Int) - 1)], hp22 n f m .ready none)
def d59 : List AV × Hp → Y59
  | ([.yield _, .ref _ _, .int _ i], some (.smap m) :: _ :: some (.cells [.sl _ n g]) :: _) => ⟨n, unK g, m, (i + 1).toNat⟩
  | _ => ⟨0, fun _ => default, [], 0⟩
def p59 : Y59 → Prop := fun ⟨n, f, m, k⟩ => k ≤ n ∧ n ≤ bnd
noncomputable def r59 : Y59 → T (AX × St) := fun ⟨n, f, m, k⟩ => .leaf (.exit 0, { tm := tmOf 19 [(0, .yield 4), (1, .ref 2 0), (3, .int .i64 (-1)), (8, .bool false)], ms := [], hp := hp22 n f (putB f k m) .ready none })
theorem i59 : ∀ x, d59 (e59 x) = x := by
  rintro ⟨n, f, m, k⟩
  show (⟨n, unK (rowK f), m, ((k : Int) - 1 + 1).toNat⟩ : Y59) = _
  rw [unK_rowK, show ((k : Int) - 1 + 1).toNat = k by omega]
noncomputable def L59 : LoopT := fun k => match Nat.beq k 100027 with
  | true => some (lccon (mbits 11 19) e59 d59 p59 r59)
  | false => none
theorem t59 (n : Nat) (f : Nat → Pk) (m : List (List UInt8 × List UInt8)) (i : Int) : (roundT Try.prog tabN.pf (hd22 8) h59 59 5 none 20 L59 (lbody Try.prog 59 0) (s59 n f m i)).run =
  bif decide (i ≥ 0) then
   bif decide (0 ≤ i ∧ i < (n : Int)) then some (.normal, s59 n f (putM (f i.toNat).nm (f i.toNat).vr m) (IntKind.i64.wrap (i - 1)))
   else none
  else some (.exit 0, { tm := tmOf 19 [(0, .yield 4), (1, .ref 2 0), (3, .int .i64 i), (8, .bool false)], ms := [], hp := hp22 n f m .ready none }) := by kernel_rfl
theorem l59 : LoopOk Try.prog tabN.pf (fun n => hd Try.prog tabN.pf tabN.con.run (fun f => (hs22 f).to) n 8) h59.to 59 5 none L59 (loopAt Try.prog 59 0) := by
  rw [show loopAt Try.prog 59 0 = .loop (lbody Try.prog 59 0) by kernel_rfl]
  refine loop_c (hdT_le (m := 20) 8) (m := 20) (lv := mbits 11 19) (p := p59) (res := r59) i59 (within_of _ (by rw [show loopsOf (lbody Try.prog 59 0) = [] by kernel_rfl]; simp)) (by kernel_rfl) (fun ⟨n, f, m, k⟩ => k) ?_
  rintro ⟨n, f, m, k⟩ ⟨h1, h2⟩
  have ht := t59 n f m ((k : Int) - 1)
  simp only [bnd] at h2
  cases k with
  | zero =>
    right
    rw [decide_eq_false (show ¬ ((0 : Nat) : Int) - 1 ≥ 0 by omega)] at ht
    exact ⟨_, by simp, rfl, ht⟩
  | succ k =>
    left
    rw [show ((k + 1 : Nat) : Int) - 1 = (k : Nat) by omega] at ht
    rw [decide_eq_true (show ((k : Nat) : Int) ≥ 0 by omega), in_row (show k < n by omega), Int.toNat_natCast, w64 (n := (k : Int) - 1) (by omega) (by omega)] at ht
    refine ⟨⟨n, f, putM (f k).nm (f k).vr m, k⟩, ⟨by omega, by simpa only [bnd] using h2⟩, by simp only; omega, rfl, ?_⟩
    show (roundT Try.prog tabN.pf (hd22 8) h59 59 5 none 20 L59 (lbody Try.prog 59 0) (s59 n f m (((k + 1 : Nat) : Int) - 1))).run = _
    rw [show ((k + 1 : Nat) : Int) - 1 = (k : Nat) by omega]
    exact ht
noncomputable abbrev ev59 (n : Nat) (f : Nat → Pk) : Option (AV × Hp) := (evFnT Try.prog tabN.pf (hd22 8) h59 20 L59 59 [.yield 4, .ref 2 0] (hp22 n f [] .ready none)).run
theorem u59 (n : Nat) (f : Nat → Pk) : ev59 n f = bif isEn e59 p59 ([.yield 4, .ref 2 0, .int .i64 (IntKind.i64.wrap ((n : Int) - 1))], hp22 n f [] .ready none) then
    some (.tup [], hp22 n f (putB (unK (rowK f)) (IntKind.i64.wrap ((n : Int) - 1) + 1).toNat []) .ready none) else none := by kernel_rfl
theorem run59 (n : Nat) (f : Nat → Pk) (h : n ≤ bnd) : ev59 n f = some (.tup [], hp22 n f (putB f n []) .ready none) := by
  have hw : IntKind.i64.wrap ((n : Int) - 1) = (n : Int) - 1 := w64 (by omega) (by simp only [bnd] at h; omega)
  have hp : isEn e59 p59 ([.yield 4, .ref 2 0, .int .i64 ((n : Int) - 1)], hp22 n f [] .ready none) = true := isEn_true (enc := e59) (p := p59) ⟨n, f, [], n⟩ ⟨Nat.le_refl _, h⟩
  rw [u59, hw, hp, unK_rowK, show ((n : Int) - 1 + 1).toNat = n by omega]
  rfl
noncomputable def st22 (n : Nat) (f : Nat → Pk) : St := { tm := tm22, ms := [], hp := [some (.smap []), some (.cells [.map 0]), some (.cells [.sl 2 n (rowK f)])] }
noncomputable def o22 (n : Nat) (f : Nat → Pk) : AX × St := (.normal, { tm := tm22, ms := [3], hp := [some (.smap (putB f n [])), some (.cells [.map 0]), some (.cells [.sl 2 n (rowK f)]), some .dfr, none] })
open Classical in
noncomputable def D22 (st : St) : T (AX × St) := match st.hp with
  | _ :: _ :: some (.cells [.sl _ n g]) :: _ => .chk (decide (st = st22 n (unK g) ∧ n ≤ bnd)) (.leaf (o22 n (unK g)))
  | _ => .fail
noncomputable def L22 : LoopT := fun k => match Nat.beq k 450008 with
  | true => some D22
  | false => none
theorem rf22 : loopAt Try.prog 22 0 = .rangeFunc (rfF (loopAt Try.prog 22 0)) (rfP (loopAt Try.prog 22 0)) (rfA (loopAt Try.prog 22 0)) (rfB (loopAt Try.prog 22 0)) := by kernel_rfl
theorem rk22 : rkey (rfB (loopAt Try.prog 22 0)) = 450008 := by kernel_rfl
theorem rv22 : aeval tm22 (rfF (loopAt Try.prog 22 0)) = .fn 59 [.ref 2 0] := by kernel_rfl
theorem rh22 (n : Nat) (f : Nat → Pk) : (st22 n f).hp ++ [some .dfr] ++ [some (.loop 22 .ready none tm22 (rfP (loopAt Try.prog 22 0)) (rfA (loopAt Try.prog 22 0)) (rfB (loopAt Try.prog 22 0)) (st22 n f).hp.length)] = hp22 n f [] .ready none := by kernel_rfl
theorem re22 (n : Nat) (f : Nat → Pk) (m : List (List UInt8 × List UInt8)) : rangeEnd ((st22 n f).hp.length + 1) ((st22 n f).hp.length :: (st22 n f).ms) tm22 (hp22 n f m .ready none) =
    some (.normal, { tm := tm22, ms := [3], hp := [some (.smap m), some (.cells [.map 0]), some (.cells [.sl 2 n (rowK f)]), some .dfr, none] }) := by kernel_rfl
theorem l22 : LoopOk Try.prog tabN.pf (fun n => hd Try.prog tabN.pf tabN.con.run (fun f => (hs22 f).to) n 9) h22.to 22 0 none L22 (loopAt Try.prog 22 0) := by
  rw [rf22]
  intro l hl st r hr
  have hl' : l = D22 := by
    rw [rk22] at hl
    simp only [L22] at hl
    exact (Option.some.inj hl).symm
  subst hl'
  unfold D22 at hr
  split at hr
  · rename_i n g _ hs
    rw [T.run_chk] at hr
    split at hr
    · rename_i hc
      simp only [decide_eq_true_eq] at hc
      obtain ⟨rfl, hb⟩ := hc
      simp only [T.run_leaf, Option.some.injEq] at hr
      subst hr
      obtain ⟨n0, h0⟩ := evFnT_le (H := fun n => hd Try.prog tabN.pf tabN.con.run (fun f => (hs22 f).to) n 8) (hdT_le (m := 20) 8) (within_at (oneLoop (by kernel_rfl) l59)) (run59 n (unK g) hb)
      refine ⟨n0, fun k hk => ?_⟩
      have h0 := h0 k hk
      unfold evRange
      have he : enterable Try.prog 59 = true := by kernel_rfl
      have hcon : tabN.con.run 59 = none := by kernel_rfl
      simp only [show (st22 n (unK g)).tm = tm22 from rfl, rv22, he, if_true, rh22, hd, hcon]
      have h1 : evFn Try.prog tabN.pf (hd Try.prog tabN.pf tabN.con.run (fun f => (hs22 f).to) k 8) (hs22 59).to k 59 [AV.yield ((st22 n (unK g)).hp.length + 1), AV.ref 2 0] (hp22 n (unK g) [] .ready none) = some (.tup [], hp22 n (unK g) (putB (unK g) n []) .ready none) := h0
      rw [h1]
      exact re22 n (unK g) _
    · cases hr
  · cases hr
open Classical in
noncomputable def in22 (n : Nat) (f : Nat → Pk) : Bool := decide (st22 n f = st22 n (unK (rowK f)) ∧ n ≤ bnd)
theorem t22 (n : Nat) (f : Nat → Pk) : (evFnT Try.prog tabN.pf (hdT Try.prog tabN.pf tabN.con hs22 20 9) h22 20 L22 22 [.sl 2 n (rowK f)] []).run =
  bif in22 n f then some (.map 0, [some (.smap (putB (unK (rowK f)) n []))]) else none := by kernel_rfl
theorem in22_ok (n : Nat) (f : Nat → Pk) (h : n ≤ bnd) : in22 n f = true := by
  unfold in22
  rw [unK_rowK]
  simp only [decide_eq_true_eq]
  exact ⟨trivial, h⟩
end Go.Pln
namespace Go.Pln
open Go Go.Proofs Go.Ab
set_option maxRecDepth 100000
set_option linter.unusedVariables false
set_option linter.unusedSimpArgs false

/-! ### there's contract; names -/
theorem sound_memH {P : Program} {t : Tab} (ht : SoundTab P t) (hs0 : FuncId → HintsT) {f : FuncId} {c : List AV → Hp → T (AV × Hp)} {hn : HintsT} {m k : Nat} {Λ : LoopT}
    (hW : ∀ args hs r hs', (c args hs).run = some (r, hs') → ∀ i, i < (loopsOf (bodyOf P f)).length → LoopOk P t.pf (fun n => hd P t.pf t.con.run (fun f => (hs0 f).to) n k) hn.to f hs.length none Λ (loopAt P f i))
    (h : ∀ args hs r hs', FitsL args → FitsH hs → (c args hs).run = some (r, hs') → (evFnT P t.pf (hdT P t.pf t.con hs0 m k) hn m Λ f args hs).run = some (r, hs')) : Sound1 P ⟨f, false, gcon c⟩ where
  ok args hp r hp' hr X0 σ w vargs hR hV :=
    gcon_frame (fun args hs r hs' hrun X0 σ w vargs hR hV => (fn_call ht (within_at (hW args hs r hs' hrun)) (h args hs r hs' (VL_fits _ _ _ hV) hR.fits hrun) hR hV).1) hr hR hV
  len args hp r hp' hr := gcon_len hr
  pure hp := by cases hp
theorem sound_cmH {P : Program} {t : Tab} (ht : SoundTab P t) (hs0 : FuncId → HintsT) {f : FuncId} {X : Type} {enc : X → List AV × Hp} {dec : List AV × Hp → X} {p : X → Prop} {res : X → T (AV × Hp)} (inv : ∀ x, dec (enc x) = x) {hn : HintsT} {m k : Nat} {Λ : LoopT}
    (hW : ∀ x, p x → ∀ i, i < (loopsOf (bodyOf P f)).length → LoopOk P t.pf (fun n => hd P t.pf t.con.run (fun f => (hs0 f).to) n k) hn.to f (enc x).2.length none Λ (loopAt P f i))
    (h : ∀ x, p x → FitsL (enc x).1 → FitsH (enc x).2 → (evFnT P t.pf (hdT P t.pf t.con hs0 m k) hn m Λ f (enc x).1 (enc x).2).run = (res x).run) : Sound1 P ⟨f, false, gcon (mcon enc dec p res)⟩ := by
  refine sound_memH (m := m) (k := k) (hn := hn) (Λ := Λ) ht hs0 (fun args hs r hs' hr => ?_) fun args hs r hs' hF hH hr => ?_
  · obtain ⟨x, he, hp, h2⟩ := ccon_run inv hr
    have e : hs = (enc x).2 := congrArg (·.2) he
    rw [e]; exact hW x hp
  · obtain ⟨x, he, hp, h2⟩ := ccon_run inv hr
    obtain ⟨rfl, rfl⟩ : args = (enc x).1 ∧ hs = (enc x).2 := ⟨congrArg (·.1) he, congrArg (·.2) he⟩
    rw [h x hp hF hH]; exact h2
structure X22 where
  n : Nat
  f : Nat → Pk
def en22 : X22 → List AV × Hp := fun ⟨n, f⟩ => ([.sl 2 n (rowK f)], [])
def de22 : List AV × Hp → X22
  | ([.sl _ n g], _) => ⟨n, unK g⟩
  | _ => ⟨0, fun _ => default⟩
def p22 : X22 → Prop := fun ⟨n, f⟩ => n ≤ bnd
def rs22 : X22 → T (AV × Hp) := fun ⟨n, f⟩ => .leaf (.map 0, [some (.smap (putB f n []))])
noncomputable def c22 : List AV → Hp → T (AV × Hp) := mcon en22 de22 p22 rs22
theorem s22 : Sound1 Try.prog ⟨22, false, gcon c22⟩ := by
  refine sound_cmH (m := 20) (k := 9) (hn := h22) (Λ := L22) (soundTab_of all_tabN) hs22 (enc := en22) (dec := de22) (p := p22) (res := rs22) (fun ⟨n, f⟩ => by show (⟨n, unK (rowK f)⟩ : X22) = _; rw [unK_rowK]) (fun ⟨n, f⟩ hp => oneLoop (by kernel_rfl) l22) ?_
  rintro ⟨n, f⟩ hp hF hH
  refine (t22 n f).trans ?_
  rw [in22_ok n f hp, unK_rowK]
  rfl
noncomputable def tabO : Tab := ⟨22, false, gcon c22⟩ :: tabN
theorem all_tabO : ∀ e, e ∈ tabO → Sound1 Try.prog e := sound_mem_tab s22 all_tabN
/-- A map of the picks tells the first one of a name. -/
theorem look_putB (f : Nat → Pk) (x : List UInt8) : ∀ n m, lookM x (putB f n m) = match (lsF f n 0).find? (fun p => x == p.nm) with
    | some p => some p.vr
    | none => lookM x m := by
  intro n
  induction n with
  | zero => intro m; rfl
  | succ k ih =>
    intro m
    have hs : ∀ k i, lsF f (k + 1) i = lsF f k i ++ [f (i + k)] := by
      intro k
      induction k with
      | zero => intro i; rfl
      | succ k ih2 =>
        intro i
        show f i :: lsF f (k + 1) (i + 1) = (f i :: lsF f k (i + 1)) ++ [f (i + (k + 1))]
        rw [ih2 (i + 1), show i + 1 + k = i + (k + 1) by omega]
        rfl
    show lookM x (putB f k (putM (f k).nm (f k).vr m)) = _
    rw [ih, hs k 0, List.find?_append, Nat.zero_add]
    cases (lsF f k 0).find? (fun p => x == p.nm) with
    | some p => rfl
    | none =>
      simp only [Option.none_or, List.find?_cons, List.find?_nil]
      rw [look_put]
      cases (x == (f k).nm) <;> rfl
end Go.Pln
namespace Go.Pln
open Go Go.Proofs Go.Ab
set_option maxRecDepth 100000
set_option linter.unusedVariables false
set_option linter.unusedSimpArgs false

/-! ### names: the inner loop -/
theorem lstF_strF (L : List (List UInt8)) : lstF (strF L) L.length = L := by
  unfold lstF
  refine List.ext_getElem? fun i => ?_
  rw [List.getElem?_map]
  by_cases h : i < L.length
  · rw [List.getElem?_range h, List.getElem?_eq_getElem h]
    show some (L.getD i []) = _
    simp [List.getD, h]
  · rw [List.getElem?_eq_none (by simpa using h), List.getElem?_eq_none (by omega)]
    rfl
def rAs (b : Nat) : List (List UInt8) → AV
  | [] => .nilsl
  | t :: r => .row b 1 0 (r.length + 1)
def rHs : List (List UInt8) → Hp
  | [] => []
  | t :: r => [some (.row 1 (r.length + 1) (strF (t :: r)))]
def unHs : Hp → List (List UInt8)
  | [some (.row _ n g)] => lstF g n
  | _ => []
theorem unHs_rHs (L : List (List UInt8)) : unHs (rHs L) = L := by
  cases L with
  | nil => rfl
  | cons t r => exact lstF_strF (t :: r)
theorem rAs_push (b : Nat) (L : List (List UInt8)) (t : List UInt8) : rAs b (L ++ [t]) = .row b 1 0 (L.length + 1) := by
  cases L with
  | nil => rfl
  | cons u r => show AV.row b 1 0 ((r ++ [t]).length + 1) = _; rw [List.length_append]; rfl
theorem rHs_push (L : List (List UInt8)) (t : List UInt8) : rHs (L ++ [t]) = [some (.row 1 (L.length + 1) (strF (L ++ [t])))] := by
  cases L with
  | nil => rfl
  | cons u r => show [some (AObj.row 1 ((r ++ [t]).length + 1) (strF (u :: (r ++ [t]))))] = _; rw [List.length_append]; rfl

noncomputable def s23 (l : AV) (R : Nat) (g : Nat → Nat → AV) (nr ir : Int) (n : Nat) (f : Nat → Pk) (i : Int) (rows : Hp) : St :=
  { tm := encGo (mbits 116488 31) [l, .row 0 1 0 R, .int .i64 nr, .int .i64 ir, .sl 2 n (rowK f), .int .i64 n, .int .i64 i], ms := [], hp := some (.row 1 R g) :: rows }
noncomputable def o23 (R : Nat) (g : Nat → Nat → AV) (nr ir : Int) (n : Nat) (f : Nat → Pk) (l : AV) (rows : Hp) : AX × St :=
  (.exit 2, { tm := tmOf 31 [(3, l), (8, .row 0 1 0 R), (9, .int .i64 nr), (10, .int .i64 ir), (14, .sl 2 n (rowK f)), (15, .int .i64 n), (16, .int .i64 n), (17, .bool false)], ms := [], hp := some (.row 1 R g) :: rows })
structure Y23 where
  l : AV
  R : Nat
  g : Nat → Nat → AV
  nr : Int
  ir : Int
  n : Nat
  f : Nat → Pk
  i : Nat
  rows : Hp
noncomputable def e23 : Y23 → List AV × Hp := fun ⟨l, R, g, nr, ir, n, f, i, rows⟩ => ([l, .row 0 1 0 R, .int .i64 nr, .int .i64 ir, .sl 2 n (rowK f), .int .i64 n, .int .i64 i], some (.row 1 R g) :: rows)
def d23 : List AV × Hp → Y23
  | ([l, .row _ _ _ R, .int _ nr, .int _ ir, .sl _ n fg, _, .int _ i], some (.row _ _ g) :: rows) => ⟨l, R, g, nr, ir, n, unK fg, i.toNat, rows⟩
  | _ => ⟨.junk, 0, fun _ _ => .junk, 0, 0, 0, fun _ => default, 0, []⟩
theorem i23 : ∀ x, d23 (e23 x) = x := by
  rintro ⟨l, R, g, nr, ir, n, f, i, rows⟩
  rfl
def nmL (f : Nat → Pk) (k i : Nat) : List (List UInt8) := (lsF f k i).map (·.nm)
def p23 : Y23 → Prop := fun ⟨l, R, g, nr, ir, n, f, i, rows⟩ => i ≤ n ∧ n ≤ bnd ∧ ∃ L, l = rAs 1 L ∧ rows = rHs L ∧ L.length + (n - i) ≤ 8796093022208
noncomputable def r23 : Y23 → T (AX × St) := fun ⟨l, R, g, nr, ir, n, f, i, rows⟩ =>
  .br (unHs rows ++ nmL f (n - i) i).isEmpty (.leaf (o23 R g nr ir n f .nilsl []))
    (.leaf (o23 R g nr ir n f (.row 1 1 0 (unHs rows ++ nmL f (n - i) i).length) [some (.row 1 (unHs rows ++ nmL f (n - i) i).length (strF (unHs rows ++ nmL f (n - i) i)))]))
theorem r23_run (R : Nat) (g : Nat → Nat → AV) (nr ir : Int) (n : Nat) (f : Nat → Pk) (L : List (List UInt8)) :
    (T.br L.isEmpty (.leaf (o23 R g nr ir n f .nilsl [])) (.leaf (o23 R g nr ir n f (.row 1 1 0 L.length) [some (.row 1 L.length (strF L))]))).run = some (o23 R g nr ir n f (rAs 1 L) (rHs L)) := by
  cases L <;> rfl
noncomputable def L23 : LoopT := fun k => match Nat.beq k 600025 with
  | true => some (lccon (mbits 116488 31) e23 d23 p23 r23)
  | false => none
noncomputable abbrev rd23 (st : St) : T (AX × St) := roundT Try.prog tabO.pf (hdT Try.prog tabO.pf tabO.con H0 20 9) h23 23 1 none 20 L23 (lbody Try.prog 23 1) st
theorem t23a (R : Nat) (g : Nat → Nat → AV) (nr ir : Int) (n : Nat) (f : Nat → Pk) (i : Nat) : (rd23 (s23 .nilsl R g nr ir n f i [])).run =
  bif decide ((i : Int) < (n : Int)) then
   bif decide (0 ≤ (i : Int) ∧ (i : Int) < (n : Int)) then
    some (.normal, s23 (.row 1 1 0 1) R g nr ir n f (IntKind.i64.wrap ((i : Int) + 1)) [some (.row 1 1 fun j => rowF 1 [.str (f (i : Int).toNat).nm] (0 + j))])
   else none
  else some (.exit 2, { tm := tmOf 31 [(3, .nilsl), (8, .row 0 1 0 R), (9, .int .i64 nr), (10, .int .i64 ir), (14, .sl 2 n (rowK f)), (15, .int .i64 n), (16, .int .i64 i), (17, .bool false)], ms := [], hp := [some (.row 1 R g)] }) := by kernel_rfl
theorem t23b (R : Nat) (g : Nat → Nat → AV) (nr ir : Int) (n : Nat) (f : Nat → Pk) (i k : Nat) (h : Nat → Nat → AV) : (rd23 (s23 (.row 1 1 0 k) R g nr ir n f i [some (.row 1 k h)])).run =
  bif decide ((i : Int) < (n : Int)) then
   bif decide (0 ≤ (i : Int) ∧ (i : Int) < (n : Int)) then
    bif decide (k = k) then
     bif decide ((k + 1) * 16 ≤ 140737488355328 ∧ k + 1 ≤ 4611686018427387903) then
      some (.normal, s23 (.row 1 1 0 (k + 1)) R g nr ir n f (IntKind.i64.wrap ((i : Int) + 1)) [some (.row 1 (k + 1) (appF k h fun j => rowF 1 [.str (f (i : Int).toNat).nm] (0 + j)))])
     else none
    else none
   else none
  else some (.exit 2, { tm := tmOf 31 [(3, .row 1 1 0 k), (8, .row 0 1 0 R), (9, .int .i64 nr), (10, .int .i64 ir), (14, .sl 2 n (rowK f)), (15, .int .i64 n), (16, .int .i64 i), (17, .bool false)], ms := [], hp := [some (.row 1 R g), some (.row 1 k h)] }) := by kernel_rfl
theorem t23 (R : Nat) (g : Nat → Nat → AV) (nr ir : Int) (n : Nat) (f : Nat → Pk) (i : Nat) (L : List (List UInt8)) (h1 : i ≤ n) (h2 : n ≤ bnd) (h3 : L.length + (n - i) ≤ 8796093022208) :
    (rd23 (s23 (rAs 1 L) R g nr ir n f i (rHs L))).run = bif decide (i < n) then some (.normal, s23 (rAs 1 (L ++ [(f i).nm])) R g nr ir n f ((i + 1 : Nat) : Int) (rHs (L ++ [(f i).nm])))
      else some (o23 R g nr ir n f (rAs 1 L) (rHs L)) := by
  simp only [bnd] at h2
  by_cases hi : i < n
  · rw [decide_eq_true hi, cond_true, rAs_push, rHs_push]
    cases L with
    | nil =>
      refine (t23a R g nr ir n f i).trans ?_
      rw [decide_eq_true (show (i : Int) < n by omega), in_row hi, Int.toNat_natCast, w64n (by omega)]
      have e : (fun j => rowF 1 [AV.str (f i).nm] (0 + j)) = strF ([] ++ [(f i).nm]) := by
        rw [← strF_app]
        exact (appF_zero _ _).symm
      rw [e]
      rfl
    | cons x L =>
      refine (t23b R g nr ir n f i (L.length + 1) (strF (x :: L))).trans ?_
      simp only [List.length_cons] at h3
      rw [decide_eq_true (show (i : Int) < n by omega), in_row hi, Int.toNat_natCast, w64n (by omega), decide_eq_true rfl, decide_eq_true (show (L.length + 1 + 1) * 16 ≤ 140737488355328 ∧ L.length + 1 + 1 ≤ 4611686018427387903 by omega)]
      have e : appF (L.length + 1) (strF (x :: L)) (fun j => rowF 1 [AV.str (f i).nm] (0 + j)) = strF (x :: L ++ [(f i).nm]) := strF_app (x :: L) _
      rw [e]
      rfl
  · obtain rfl : i = n := by omega
    rw [decide_eq_false hi, cond_false]
    cases L with
    | nil =>
      refine (t23a R g nr ir i f i).trans ?_
      rw [decide_eq_false (show ¬ (i : Int) < i by omega)]
      rfl
    | cons x L =>
      refine (t23b R g nr ir i f i (L.length + 1) (strF (x :: L))).trans ?_
      rw [decide_eq_false (show ¬ (i : Int) < i by omega)]
      rfl
theorem nmL_step (f : Nat → Pk) {n i : Nat} (h : i < n) : nmL f (n - i) i = (f i).nm :: nmL f (n - (i + 1)) (i + 1) := by
  obtain ⟨k, hk⟩ : ∃ k, n - i = k + 1 := ⟨n - i - 1, by omega⟩
  rw [hk, show n - (i + 1) = k by omega]
  rfl
theorem l23 : LoopOk Try.prog tabO.pf (fun n => hd Try.prog tabO.pf tabO.con.run (fun f => (H0 f).to) n 9) h23.to 23 1 none L23 (loopAt Try.prog 23 1) := by
  rw [show loopAt Try.prog 23 1 = .loop (lbody Try.prog 23 1) by kernel_rfl]
  refine loop_c (hdT_le (m := 20) 9) (m := 20) (lv := mbits 116488 31) (p := p23) (res := r23) i23 (within_of _ (by rw [show loopsOf (lbody Try.prog 23 1) = [] by kernel_rfl]; simp)) (by kernel_rfl) (fun ⟨l, R, g, nr, ir, n, f, i, rows⟩ => n - i) ?_
  rintro ⟨l, R, g, nr, ir, n, f, i, rows⟩ ⟨h1, h2, L, rfl, rfl, h3⟩
  have ht := t23 R g nr ir n f i L h1 h2 h3
  by_cases hi : i < n
  · rw [decide_eq_true hi, cond_true] at ht
    left
    refine ⟨⟨rAs 1 (L ++ [(f i).nm]), R, g, nr, ir, n, f, i + 1, rHs (L ++ [(f i).nm])⟩, ⟨by omega, h2, L ++ [(f i).nm], rfl, rfl, by rw [List.length_append]; simp only [List.length_cons, List.length_nil]; omega⟩, by simp only; omega, ?_, ht⟩
    simp only [r23, unHs_rHs]
    rw [nmL_step f hi]
    simp only [List.append_assoc, List.singleton_append]
  · obtain rfl : i = n := by omega
    rw [decide_eq_false hi, cond_false] at ht
    right
    refine ⟨_, ?_, ?_, ht⟩
    · simp [o23]
    · simp only [r23, unHs_rHs, Nat.sub_self]
      rw [show nmL f 0 i = [] from rfl, List.append_nil]
      exact r23_run R g nr ir i f L
end Go.Pln

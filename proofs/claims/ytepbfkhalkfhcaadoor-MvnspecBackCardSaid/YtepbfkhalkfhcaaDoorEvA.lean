/- Lemmas for the claims of this seat (a verified symbolic evaluator, and contracts of functions): own work; no condition. -/
import Derived.CallsIn
import Derived.RangeFuncIn
import Derived.RangeFuncLeaves
import Derived.Below
import Derived.Laws.World
import Derived.Lib.Builder
import Derived.Lib.UnsafeStr
import Derived.Laws.Sem
import Derived.Laws.Cells
import Derived.IntWalk
import Derived.Laws.Strings
import Derived.Laws.StructEq
import Derived.Laws.BytesString
import Derived.Laws.Build
import Derived.Lib.ConvBytes
namespace Go.Ab
open Go
set_option linter.unusedVariables false

/-- The bound on lengths (strings, slices). -/
def bnd : Nat := 4611686018427387903

inductive AV where
  | junk
  | undef
  | int (k : IntKind) (n : Int)
  | bool (b : Bool)
  | str (s : List UInt8)
  | nilp
  | ref (b off : Nat)
  | eref (b sz i c : Nat)
  | fref (m : Nat) (f : Nat → AV)
  | nilsl
  | sl (sz n : Nat) (f : Nat → Nat → AV)
  | row (b sz lo n : Nat)
  | rowc (b sz n c : Nat)
  | fn (f : FuncId) (cap : List AV)
  | yield (l : Nat)
  | nilfn
  | map (m : Nat)
  | nilmap
  | iface (t : TypeId) (v : AV)
  | niliface
  | agg (cs : List AV)
  | tup (vs : List AV)

abbrev Sub := Nat → Option Nat
abbrev Blk := Nat → Prop

/-- A value of one cell. -/
def one : Value → Bool
  | .agg _ | .tuple _ => false
  | _ => true

mutual
def V (X : Blk) (w : World) : Sub → AV → Value → Prop
  | _, .junk, _ => True
  | _, .undef, v => v = Go.undef
  | _, .int k n, v => v = .int k n ∧ k.min ≤ n ∧ n ≤ k.max
  | _, .bool b, v => v = .bool b
  | _, .str s, v => v = .string ⟨⟨s⟩⟩ ∧ s.length ≤ bnd
  | _, .nilp, v => v = .pointer none
  | σ, .ref b off, v => ∃ g, σ b = some g ∧ v = .pointer (some ⟨g, off, none⟩)
  | σ, .eref b sz i c, v => ∃ g, σ b = some g ∧ v = .pointer (some ⟨g, i * sz + c, none⟩)
  | σ, .fref m f, v => ∃ g off, v = .pointer (some ⟨g, off, none⟩) ∧ g < w.heap.size ∧ ¬ X g ∧
      ∀ c, c < m → ∃ u, w.cell? ⟨g, off + c, none⟩ = some u ∧ one u = true ∧ V X w (fun _ => none) (f c) u
  | _, .nilsl, v => v = .slice none 0 0
  | _, .sl sz n f, v => n ≤ bnd ∧ ((v = .slice none 0 0 ∧ n = 0) ∨ ∃ g off cap, v = .slice (some ⟨g, off, none⟩) n cap ∧ n ≤ cap ∧ g < w.heap.size ∧ ¬ X g ∧
      ∀ i c, i < n → c < sz → ∃ u, w.cell? ⟨g, off + (i * sz + c), none⟩ = some u ∧ one u = true ∧ V X w (fun _ => none) (f i c) u)
  | σ, .row b sz lo n, v => n ≤ bnd ∧ ∃ g o cap arr t fr, σ b = some g ∧ v = .slice (some ⟨g, o, none⟩) n cap ∧ n ≤ cap ∧ (o = lo * sz ∨ cap = 0) ∧
      w.heap[g]? = some (.cells arr t fr) ∧ (lo + cap) * sz = arr.size
  | σ, .rowc b sz n c, v => n ≤ bnd ∧ ∃ g o cap arr t fr, σ b = some g ∧ v = .slice (some ⟨g, o, none⟩) n cap ∧ n ≤ c ∧ c ≤ cap ∧ (o = 0 ∨ cap = 0) ∧
      w.heap[g]? = some (.cells arr t fr) ∧ cap * sz = arr.size
  | σ, .fn f cap, v => ∃ vs, v = .func (.func f) #[] vs ∧ VL X w σ cap vs.toList
  | σ, .yield l, v => ∃ g, σ l = some g ∧ v = .func (.yield g) #[] #[]
  | _, .nilfn, v => v = .nilFunc
  | σ, .map m, v => ∃ g, σ m = some g ∧ v = .map (some g)
  | _, .nilmap, v => v = .map none
  | σ, .iface t a, v => ∃ u, v = .iface t u ∧ V X w σ a u
  | _, .niliface, v => v = .nilIface
  | σ, .agg cs, v => ∃ vs, v = .agg vs ∧ VL X w σ cs vs.toList
  | σ, .tup cs, v => ∃ vs, v = .tuple vs ∧ VL X w σ cs vs.toList
def VL (X : Blk) (w : World) : Sub → List AV → List Value → Prop
  | _, [], vs => vs = []
  | σ, a :: as, vs => ∃ u us, vs = u :: us ∧ V X w σ a u ∧ VL X w σ as us
end

/-- What may change between two worlds: blocks of Y, and new ones. -/
structure Step (Y : Blk) (w w' : World) : Prop where
  size : w.heap.size ≤ w'.heap.size
  tape : w'.tape = w.tape
  os : w'.os = w.os
  output : w'.output = w.output
  keep : ∀ g, g < w.heap.size → ¬ Y g → w'.heap[g]? = w.heap[g]?
  shp : ∀ (g : Nat) (arr : Array Value) (t : TypeId) (fr : Nat × Nat), w.heap[g]? = some (Obj.cells arr t fr) → ∃ (arr' : Array Value) (fr' : Nat × Nat), w'.heap[g]? = some (Obj.cells arr' t fr') ∧ arr'.size = arr.size

theorem Step.refl (Y : Blk) (w : World) : Step Y w w := ⟨Nat.le_refl _, rfl, rfl, rfl, fun _ _ _ => rfl, fun _ arr _ fr h => ⟨arr, fr, h, rfl⟩⟩
theorem Step.trans {Y Y' : Blk} {w w' w'' : World} (h : Step Y w w') (h' : Step Y' w' w'') (hY : ∀ g, g < w.heap.size → Y' g → Y g) : Step Y w w'' := by
  refine ⟨Nat.le_trans h.size h'.size, h'.tape.trans h.tape, h'.os.trans h.os, h'.output.trans h.output, fun g hg hn => ?_, fun g arr t fr he => ?_⟩
  · rw [h'.keep g (Nat.lt_of_lt_of_le hg h.size) (fun hy => hn (hY g hg hy)), h.keep g hg hn]
  · obtain ⟨a1, f1, h1, s1⟩ := h.shp g arr t fr he
    obtain ⟨a2, f2, h2, s2⟩ := h'.shp g a1 t f1 h1
    exact ⟨a2, f2, h2, s2.trans s1⟩
theorem Step.mono {Y Y' : Blk} {w w' : World} (h : Step Y w w') (hY : ∀ g, g < w.heap.size → Y g → Y' g) : Step Y' w w' :=
  ⟨h.size, h.tape, h.os, h.output, fun g hg hn => h.keep g hg (fun hy => hn (hY g hg hy)), h.shp⟩
theorem Step.cell {Y : Blk} {w w' : World} (h : Step Y w w') {g o : Nat} (hg : g < w.heap.size) (hn : ¬ Y g) : w'.cell? ⟨g, o, none⟩ = w.cell? ⟨g, o, none⟩ := by
  simp only [World.cell?, h.keep g hg hn]
theorem Step.drawn (Y : Blk) (w : World) : Step Y w { w with drawn := w.drawn + 1 } := ⟨Nat.le_refl _, rfl, rfl, rfl, fun _ _ _ => rfl, fun _ arr _ fr h => ⟨arr, fr, h, rfl⟩⟩

section mono
variable {X X' : Blk} {w w' : World}
mutual
theorem V_mono (hX : ∀ g, g < w.heap.size → X' g → X g) (hs : Step X w w') : (a : AV) → (v : Value) → (σ σ' : Sub) → (∀ i g, σ i = some g → σ' i = some g) → V X w σ a v → V X' w' σ' a v
  | .junk, v, σ, σ', hσ, h => by simp [V]
  | .undef, v, σ, σ', hσ, h => by simpa [V] using h
  | .int k n, v, σ, σ', hσ, h => by simpa [V] using h
  | .bool b, v, σ, σ', hσ, h => by simpa [V] using h
  | .str s, v, σ, σ', hσ, h => by simpa [V] using h
  | .nilp, v, σ, σ', hσ, h => by simpa [V] using h
  | .ref b off, v, σ, σ', hσ, h => by
    simp only [V] at h ⊢; obtain ⟨g, h1, h2⟩ := h; exact ⟨g, hσ _ _ h1, h2⟩
  | .eref b sz i c, v, σ, σ', hσ, h => by
    simp only [V] at h ⊢; obtain ⟨g, h1, h2⟩ := h; exact ⟨g, hσ _ _ h1, h2⟩
  | .fref m f, v, σ, σ', hσ, h => by
    simp only [V] at h ⊢; obtain ⟨g, off, h1, h2, h3, h4⟩ := h
    refine ⟨g, off, h1, Nat.lt_of_lt_of_le h2 hs.size, fun hx => h3 (hX g h2 hx), fun c hc => ?_⟩
    obtain ⟨u, hu, ho, hv⟩ := h4 c hc
    exact ⟨u, by rw [hs.cell h2 h3]; exact hu, ho, V_mono hX hs (f c) u _ _ (fun _ _ h => h) hv⟩
  | .nilsl, v, σ, σ', hσ, h => by simpa [V] using h
  | .sl sz n f, v, σ, σ', hσ, h => by
    simp only [V] at h ⊢
    refine ⟨h.1, h.2.imp id ?_⟩
    rintro ⟨g, off, cap, h1, h1', h2, h3, h4⟩
    refine ⟨g, off, cap, h1, h1', Nat.lt_of_lt_of_le h2 hs.size, fun hx => h3 (hX g h2 hx), fun i c hi hc => ?_⟩
    obtain ⟨u, hu, ho, hv⟩ := h4 i c hi hc
    exact ⟨u, by rw [hs.cell h2 h3]; exact hu, ho, V_mono hX hs (f i c) u _ _ (fun _ _ h => h) hv⟩
  | .row b sz lo n, v, σ, σ', hσ, h => by
    simp only [V] at h ⊢
    obtain ⟨hb, g, o, cap, arr, t, fr, h1, h2, h3, h4, h5, h6⟩ := h
    obtain ⟨arr', fr', e1, e2⟩ := hs.shp g arr t fr h5
    exact ⟨hb, g, o, cap, arr', t, fr', hσ _ _ h1, h2, h3, h4, e1, by omega⟩
  | .rowc b sz n c, v, σ, σ', hσ, h => by
    simp only [V] at h ⊢
    obtain ⟨hb, g, o, cap, arr, t, fr, h1, h2, h3, h4, h5, h6, h7⟩ := h
    obtain ⟨arr', fr', e1, e2⟩ := hs.shp g arr t fr h6
    exact ⟨hb, g, o, cap, arr', t, fr', hσ _ _ h1, h2, h3, h4, h5, e1, by omega⟩
  | .fn f cap, v, σ, σ', hσ, h => by
    simp only [V] at h ⊢; obtain ⟨vs, h1, h2⟩ := h; exact ⟨vs, h1, VL_mono hX hs cap vs.toList _ _ hσ h2⟩
  | .yield l, v, σ, σ', hσ, h => by
    simp only [V] at h ⊢; obtain ⟨g, h1, h2⟩ := h; exact ⟨g, hσ _ _ h1, h2⟩
  | .nilfn, v, σ, σ', hσ, h => by simpa [V] using h
  | .map m, v, σ, σ', hσ, h => by
    simp only [V] at h ⊢; obtain ⟨g, h1, h2⟩ := h; exact ⟨g, hσ _ _ h1, h2⟩
  | .nilmap, v, σ, σ', hσ, h => by simpa [V] using h
  | .iface t a, v, σ, σ', hσ, h => by
    simp only [V] at h ⊢; obtain ⟨u, h1, h2⟩ := h; exact ⟨u, h1, V_mono hX hs a u _ _ hσ h2⟩
  | .niliface, v, σ, σ', hσ, h => by simpa [V] using h
  | .agg cs, v, σ, σ', hσ, h => by
    simp only [V] at h ⊢; obtain ⟨vs, h1, h2⟩ := h; exact ⟨vs, h1, VL_mono hX hs cs vs.toList _ _ hσ h2⟩
  | .tup cs, v, σ, σ', hσ, h => by
    simp only [V] at h ⊢; obtain ⟨vs, h1, h2⟩ := h; exact ⟨vs, h1, VL_mono hX hs cs vs.toList _ _ hσ h2⟩
theorem VL_mono (hX : ∀ g, g < w.heap.size → X' g → X g) (hs : Step X w w') : (as : List AV) → (vs : List Value) → (σ σ' : Sub) → (∀ i g, σ i = some g → σ' i = some g) → VL X w σ as vs → VL X' w' σ' as vs
  | [], vs, σ, σ', hσ, h => by simpa [VL] using h
  | a :: as, vs, σ, σ', hσ, h => by
    simp only [VL] at h ⊢
    obtain ⟨u, us, h1, h2, h3⟩ := h
    exact ⟨u, us, h1, V_mono hX hs a u _ _ hσ h2, VL_mono hX hs as us _ _ hσ h3⟩
end
end mono
end Go.Ab
namespace Go.Ab
open Go
set_option linter.unusedVariables false

inductive AObj where
  | cells (cs : List AV)
  | tcells (t : TypeId) (cs : List AV)
  | row (sz n : Nat) (f : Nat → Nat → AV)
  | bytes (l : List UInt8)
  | loop (hid : Nat) (state : LoopState) (pending : Option Code) (tm : List AV) (params : Array Tmp) (assign body : Code) (dfr : Nat)
  | dfr
  | map (es : List (AV × AV))
  | smap (m : List (List UInt8 × List UInt8))

abbrev Hp := List (Option AObj)

def Own (σ : Sub) (hp : Hp) : Blk := fun g => ∃ i o, hp[i]? = some (some o) ∧ σ i = some g
def Xof (X0 : Blk) (σ : Sub) (hp : Hp) : Blk := fun g => X0 g ∨ Own σ hp g

/-- Block g is a row of plain cells, none of them frozen. -/
def CellsAt (w : World) (g : Nat) (arr : Array Value) : Prop :=
  ∃ t fr, w.heap[g]? = some (.cells arr t fr) ∧ (∀ o, o < arr.size → ¬ (fr.1 ≤ o ∧ o < fr.2)) ∧ ∀ u, u ∈ arr.toList → one u = true

/-- Block g is a row of cells of a known type. -/
def TyAt (w : World) (g : Nat) (t : TypeId) : Prop := ∃ arr fr, w.heap[g]? = some (.cells arr t fr)
theorem TyAt.step {Y : Blk} {w w' : World} {g : Nat} {t : TypeId} (h : TyAt w g t) (hs : Step Y w w') : TyAt w' g t := by
  obtain ⟨arr, fr, h⟩ := h
  obtain ⟨arr', fr', h', _⟩ := hs.shp g arr t fr h
  exact ⟨arr', fr', h'⟩

def O (X : Blk) (σ : Sub) (w : World) (g : Nat) : AObj → Prop
  | .cells cs => ∃ arr, CellsAt w g arr ∧ VL X w σ cs arr.toList
  | .tcells t cs => ∃ arr, CellsAt w g arr ∧ VL X w σ cs arr.toList ∧ TyAt w g t
  | .row sz n f => ∃ arr, CellsAt w g arr ∧ n * sz ≤ arr.size ∧ n ≤ bnd ∧ ∀ i c u, i < n → c < sz → arr[i * sz + c]? = some u → V X w (fun _ => none) (f i c) u
  | .bytes l => ∃ arr, CellsAt w g arr ∧ l.length ≤ arr.size ∧ (l.length ≤ bnd ∧ TyAt w g 5) ∧ ∀ (i : Nat) (b : UInt8), l[i]? = some b → arr[i]? = some (.int .u8 b.toNat)
  | .loop _ st pe tm ps as bo d => ∃ (L : Loop) (gd : Nat), w.heap[g]? = some (.loop L) ∧ L.state = st ∧ L.pending = pe ∧ VL X w σ tm L.tmps.toList ∧ L.params = ps ∧ L.assign = as ∧ L.body = bo ∧ σ d = some gd ∧ L.defers = gd
  | .dfr => w.heap[g]? = some (.deferred (some []))
  | .map es => ∃ (arr : Array MapEntry) (clock : Nat), w.heap[g]? = some (.map arr clock) ∧ VL X w (fun _ => none) (es.map (·.1)) (arr.toList.map (·.key)) ∧ VL X w (fun _ => none) (es.map (·.2)) (arr.toList.map (·.val))
  | .smap m => ∃ (arr : Array MapEntry) (clock : Nat), w.heap[g]? = some (.map arr clock) ∧ arr.toList.map (fun e => (e.key, e.val)) = m.map (fun p => (Value.string ⟨⟨p.1⟩⟩, Value.string ⟨⟨p.2⟩⟩)) ∧ (∀ p, p ∈ m → p.2.length ≤ bnd)

structure Rel (X0 : Blk) (σ : Sub) (hp : Hp) (w : World) : Prop where
  inj : ∀ i j o o' g, hp[i]? = some (some o) → hp[j]? = some (some o') → σ i = some g → σ j = some g → i = j
  lt : ∀ i g, σ i = some g → g < w.heap.size
  x0 : ∀ g, X0 g → g < w.heap.size
  sep : ∀ i g, σ i = some g → ¬ X0 g
  dom : ∀ i g, σ i = some g → i < hp.length
  obj : ∀ i o, hp[i]? = some (some o) → ∃ g, σ i = some g ∧ O (Xof X0 σ hp) σ w g o

theorem CellsAt.cell {w : World} {g : Nat} {arr : Array Value} (h : CellsAt w g arr) (o : Nat) : w.cell? ⟨g, o, none⟩ = arr[o]? := by
  obtain ⟨t, fr, h1, _, _⟩ := h
  simp [World.cell?, h1]
theorem CellsAt.frozen {w : World} {g : Nat} {arr : Array Value} (h : CellsAt w g arr) {o : Nat} (ho : o < arr.size) : w.frozen? ⟨g, o, none⟩ = false := by
  obtain ⟨t, ⟨lo, hi⟩, h1, h2, _⟩ := h
  have := h2 o ho
  simp only [World.frozen?, h1]
  simp only at this
  simp; omega
theorem CellsAt.lt {w : World} {g : Nat} {arr : Array Value} (h : CellsAt w g arr) : g < w.heap.size := by
  obtain ⟨t, fr, h1, _⟩ := h
  rcases Nat.lt_or_ge g w.heap.size with h' | h'
  · exact h'
  · rw [Array.getElem?_eq_none h'] at h1; cases h1
theorem CellsAt.ones {w : World} {g : Nat} {arr : Array Value} (h : CellsAt w g arr) : ∀ u, u ∈ arr.toList → one u = true := by
  obtain ⟨_, _, _, _, h⟩ := h; exact h
theorem CellsAt.of_heap {w w' : World} {g : Nat} {arr : Array Value} (h : CellsAt w g arr) (he : w'.heap[g]? = w.heap[g]?) : CellsAt w' g arr := by
  obtain ⟨t, fr, h1, h2⟩ := h
  exact ⟨t, fr, he.trans h1, h2⟩
theorem CellsAt.uniq {w : World} {g : Nat} {a b : Array Value} (h : CellsAt w g a) (h' : CellsAt w g b) : a = b := by
  obtain ⟨t, fr, h1, _⟩ := h
  obtain ⟨t', fr', h1', _⟩ := h'
  rw [h1] at h1'
  simp at h1'; exact h1'.1

/-- The world with block g's cells replaced. -/
def setArr (w : World) (g : Nat) (arr : Array Value) : World :=
  { w with heap := w.heap.modify g fun | .cells _ t fr => .cells arr t fr | o => o }
theorem setArr_same {w : World} {g : Nat} {arr arr' : Array Value} (h : CellsAt w g arr) (hs : arr'.size = arr.size) (h1 : ∀ u, u ∈ arr'.toList → one u = true) : CellsAt (setArr w g arr') g arr' := by
  obtain ⟨t, fr, e, f, _⟩ := h
  exact ⟨t, fr, by simp [setArr, Array.getElem?_modify, e], by rw [hs]; exact f, h1⟩
theorem setArr_other {w : World} {g g' : Nat} (arr : Array Value) (h : g' ≠ g) : (setArr w g arr).heap[g']? = w.heap[g']? := by
  simp only [setArr, Array.getElem?_modify]
  rw [if_neg (by omega)]
theorem setArr_size (w : World) (g : Nat) (arr : Array Value) : (setArr w g arr).heap.size = w.heap.size := by simp [setArr]
theorem setArr_step {w : World} {g : Nat} {arr arr' : Array Value} (h : CellsAt w g arr) (hs : arr'.size = arr.size) : Step (fun x => x = g) w (setArr w g arr') := by
  refine ⟨by simp [setArr], rfl, rfl, rfl, fun g' _ hn => setArr_other _ hn, fun g' a t fr e => ?_⟩
  by_cases hg : g' = g
  · subst hg
    obtain ⟨t', fr', e', _⟩ := h
    rw [e'] at e
    simp at e
    obtain ⟨rfl, rfl, rfl⟩ := e
    exact ⟨arr', fr', by simp [setArr, Array.getElem?_modify, e'], hs⟩
  · exact ⟨a, fr, (setArr_other _ hg).trans e, rfl⟩
theorem setCell_setArr {w : World} {g o : Nat} {arr : Array Value} (h : CellsAt w g arr) (v : Value) : w.setCell ⟨g, o, none⟩ v = setArr w g (arr.setIfInBounds o v) := by
  obtain ⟨t, fr, e, _⟩ := h
  simp only [World.setCell, setArr]
  congr 1
  apply Array.ext_getElem?
  intro i
  simp only [Array.getElem?_modify]
  split
  · rename_i hi; subst hi; rw [e]; simp
  · rfl
theorem setArr_setArr (w : World) (g : Nat) (a b : Array Value) : setArr (setArr w g a) g b = setArr w g b := by
  simp only [setArr]
  congr 1
  apply Array.ext_getElem?
  intro i
  simp only [Array.getElem?_modify]
  split
  · rename_i hi; subst hi
    cases w.heap[g]? with
    | none => rfl
    | some x => cases x <;> rfl
  · rfl
theorem setArr_id {w : World} {g : Nat} {arr : Array Value} (h : CellsAt w g arr) : setArr w g arr = w := by
  obtain ⟨t, fr, e, _⟩ := h
  unfold setArr
  have : (w.heap.modify g fun | .cells _ t fr => .cells arr t fr | o => o) = w.heap := by
    apply Array.ext_getElem?
    intro i
    simp only [Array.getElem?_modify]
    split
    · rename_i hi; subst hi; rw [e]; rfl
    · rfl
  rw [this]

/-- A list written over a part of another. -/
def over {α : Type} (l : List α) (o : Nat) : List α → List α
  | [] => l
  | v :: vs => over (l.set o v) (o + 1) vs
theorem over_length {α : Type} : ∀ (vs l : List α) (o : Nat), (over l o vs).length = l.length
  | [], l, o => rfl
  | v :: vs, l, o => by simp [over, over_length vs]
theorem over_get {α : Type} : ∀ (vs l : List α) (o j : Nat), o + vs.length ≤ l.length → (over l o vs)[j]? = if o ≤ j ∧ j < o + vs.length then vs[j - o]? else l[j]?
  | [], l, o, j, h => by simp [over]; intro h1 h2; omega
  | v :: vs, l, o, j, h => by
    simp only [over, List.length_cons] at h ⊢
    rw [over_get vs (l.set o v) (o + 1) j (by simp; omega)]
    by_cases h1 : o = j
    · subst h1
      rw [if_neg (by omega), if_pos (by omega)]
      simp
      rw [List.getElem?_set]; simp; omega
    · by_cases h2 : o + 1 ≤ j ∧ j < o + 1 + vs.length
      · rw [if_pos h2, if_pos (by omega)]
        have : j - o = (j - (o + 1)) + 1 := by omega
        rw [this]; simp
      · rw [if_neg h2, if_neg (by omega)]
        simp [h1]
theorem over_one : ∀ (vs l : List Value) (o : Nat), (∀ u, u ∈ l → one u = true) → (∀ u, u ∈ vs → one u = true) → ∀ u, u ∈ over l o vs → one u = true
  | [], l, o, h1, h2, u, hu => h1 u hu
  | v :: vs, l, o, h1, h2, u, hu => by
    refine over_one vs (l.set o v) (o + 1) ?_ (fun u h => h2 u (by simp [h])) u hu
    intro u h
    rcases List.mem_or_eq_of_mem_set h with h | h
    · exact h1 u h
    · subst h; exact h2 _ (by simp)

theorem add_none (g o n : Nat) : (Addr.mk g o none).add n = ⟨g, o + n, none⟩ := by
  unfold Addr.add; split <;> simp_all

theorem run_storeCells_over (P : Program) (g o : Nat) : ∀ (vs : List Value) (i : Nat) (w : World) (arr : Array Value), CellsAt w g arr → o + i + vs.length ≤ arr.size → (∀ u, u ∈ vs → one u = true) →
    (storeCells ⟨g, o, none⟩ vs i).run P w = .ok () (setArr w g (over arr.toList (o + i) vs).toArray)
  | [], i, w, arr, h, hl, h1 => by
    simp [storeCells, over, setArr_id h]
  | v :: vs, i, w, arr, h, hl, h1 => by
    simp only [List.length_cons] at hl
    have hv : v.oneCell' = true := by
      have := h1 v (by simp)
      cases v <;> simp_all [one, Value.oneCell']
    have hc : w.cell? ⟨g, o + i, none⟩ = some arr[o + i] := by rw [h.cell]; simp
    have hf : w.frozen? ⟨g, o + i, none⟩ = false := h.frozen (by omega)
    have hw : CellsAt (setArr w g (arr.setIfInBounds (o + i) v)) g (arr.setIfInBounds (o + i) v) := by
      refine setArr_same h (by simp) ?_
      intro u hu
      simp only [Array.toList_setIfInBounds] at hu
      rcases List.mem_or_eq_of_mem_set hu with hu | hu
      · obtain ⟨_, _, _, _, h3⟩ := h; exact h3 u hu
      · subst hu; exact h1 _ (by simp)
    have ih := run_storeCells_over P g o vs (i + 1) _ _ hw (by simp; omega) (fun u hu => h1 u (by simp [hu]))
    simp only [storeCells, Sem.run_bind, add_none, run_store P w _ v .plain hv, hc, hf]
    simp only [Bool.false_eq_true, if_false, Result.andThen_ok]
    rw [setCell_setArr h, ih, setArr_setArr]
    simp [over, Nat.add_assoc]

theorem VL_length {X : Blk} {σ : Sub} {w : World} : ∀ {as : List AV} {vs : List Value}, VL X w σ as vs → as.length = vs.length
  | [], vs, h => by simp only [VL] at h; simp [h]
  | a :: as, vs, h => by
    simp only [VL] at h
    obtain ⟨u, us, rfl, _, h3⟩ := h
    simp [VL_length h3]
theorem VL_get {X : Blk} {σ : Sub} {w : World} : ∀ {as : List AV} {vs : List Value}, VL X w σ as vs → ∀ (i : Nat) (a : AV), as[i]? = some a → ∃ u, vs[i]? = some u ∧ V X w σ a u
  | [], vs, h, i, a, hi => by simp at hi
  | a' :: as, vs, h, i, a, hi => by
    simp only [VL] at h
    obtain ⟨u, us, rfl, h2, h3⟩ := h
    cases i with
    | zero => simp at hi; subst hi; exact ⟨u, rfl, h2⟩
    | succ i => simp at hi ⊢; exact VL_get h3 i a hi
theorem VL_of_get {X : Blk} {σ : Sub} {w : World} : ∀ {as : List AV} {vs : List Value}, as.length = vs.length → (∀ (i : Nat) (a : AV) (u : Value), as[i]? = some a → vs[i]? = some u → V X w σ a u) → VL X w σ as vs
  | [], vs, hl, h => by simp only [VL]; exact List.length_eq_zero_iff.1 hl.symm
  | a :: as, [], hl, h => by simp at hl
  | a :: as, v :: vs, hl, h => by
    simp only [VL]
    exact ⟨v, vs, rfl, h 0 a v rfl rfl, VL_of_get (by simpa using hl) fun i a u h1 h2 => h (i + 1) a u (by simpa using h1) (by simpa using h2)⟩
theorem VL_set {X : Blk} {σ : Sub} {w : World} {as : List AV} {vs : List Value} (h : VL X w σ as vs) (i : Nat) {a : AV} {u : Value} (ha : V X w σ a u) : VL X w σ (as.set i a) (vs.set i u) := by
  refine VL_of_get (by simp [VL_length h]) fun j b x hb hx => ?_
  rw [List.getElem?_set] at hb hx
  by_cases e : i = j
  · subst e
    simp only [if_true] at hb hx
    split at hb
    · split at hx
      · simp at hb hx; subst hb; subst hx; exact ha
      · simp at hx
    · simp at hb
  · rw [if_neg e] at hb hx
    obtain ⟨x', h1, h2⟩ := VL_get h j b hb
    rw [h1] at hx; simp at hx; subst hx; exact h2
theorem VL_append {X : Blk} {σ : Sub} {w : World} : ∀ {as bs : List AV} {us vs : List Value}, VL X w σ as us → VL X w σ bs vs → VL X w σ (as ++ bs) (us ++ vs)
  | [], bs, us, vs, h, h' => by simp only [VL] at h; subst h; exact h'
  | a :: as, bs, us, vs, h, h' => by
    simp only [VL, List.cons_append] at h ⊢
    obtain ⟨u, us', rfl, h2, h3⟩ := h
    exact ⟨u, us' ++ vs, rfl, h2, VL_append h3 h'⟩

section rel
variable {X0 : Blk} {σ : Sub} {hp : Hp} {w : World}
theorem O_mono {X X' : Blk} {σ' : Sub} {w' : World} {g : Nat} {o : AObj} (h : O X σ w g o) (he : w'.heap[g]? = w.heap[g]?)
    (hσ : ∀ i g, σ i = some g → σ' i = some g) (hX : ∀ g, g < w.heap.size → X' g → X g) (hs : Step X w w') : O X' σ' w' g o := by
  cases o with
  | cells cs =>
    obtain ⟨arr, h1, h2⟩ := h
    exact ⟨arr, h1.of_heap he, VL_mono hX hs _ _ _ _ hσ h2⟩
  | tcells t cs =>
    obtain ⟨arr, h1, h2, h3⟩ := h
    exact ⟨arr, h1.of_heap he, VL_mono hX hs _ _ _ _ hσ h2, h3.step hs⟩
  | row sz n f =>
    obtain ⟨arr, h1, h2, h3, h4⟩ := h
    exact ⟨arr, h1.of_heap he, h2, h3, fun i c u hi hc hu => V_mono hX hs _ _ _ _ (fun _ _ h => h) (h4 i c u hi hc hu)⟩
  | bytes l =>
    obtain ⟨arr, h1, h2, h3, h4⟩ := h
    exact ⟨arr, h1.of_heap he, h2, ⟨h3.1, h3.2.step hs⟩, h4⟩
  | loop hid st pe tm ps as bo d =>
    obtain ⟨L, gd, h1, h2, h3, h4, h5, h6, h7, h8, h9⟩ := h
    exact ⟨L, gd, he.trans h1, h2, h3, VL_mono hX hs _ _ _ _ hσ h4, h5, h6, h7, hσ _ _ h8, h9⟩
  | dfr => exact he.trans h
  | map es =>
    obtain ⟨arr, clock, h1, h2, h3⟩ := h
    exact ⟨arr, clock, he.trans h1, VL_mono hX hs _ _ _ _ (fun _ _ h => h) h2, VL_mono hX hs _ _ _ _ (fun _ _ h => h) h3⟩
  | smap m =>
    obtain ⟨arr, clock, h1, h2⟩ := h
    exact ⟨arr, clock, he.trans h1, h2⟩

/-- Own blocks of a heap with one object replaced. -/
theorem own_set {b g : Nat} {o o' : AObj} (hb : hp[b]? = some (some o)) (g' : Nat) : Own σ (hp.set b (some o')) g' ↔ Own σ hp g' := by
  constructor
  · rintro ⟨i, x, h1, h2⟩
    rw [List.getElem?_set] at h1
    by_cases e : b = i
    · subst e; exact ⟨b, o, hb, h2⟩
    · rw [if_neg e] at h1; exact ⟨i, x, h1, h2⟩
  · rintro ⟨i, x, h1, h2⟩
    by_cases e : b = i
    · subst e; exact ⟨b, o', by rw [List.getElem?_set]; simp; exact (List.getElem?_eq_some_iff.1 hb).1, h2⟩
    · exact ⟨i, x, by rw [List.getElem?_set, if_neg e]; exact h1, h2⟩

/-- One object is replaced: its block alone turns. -/
theorem Rel.set (h : Rel X0 σ hp w) {b g : Nat} {o o' : AObj} {w' : World} (hb : hp[b]? = some (some o)) (hg : σ b = some g) (hs : Step (fun x => x = g) w w')
    (ho : O (Xof X0 σ hp) σ w' g o') : Rel X0 σ (hp.set b (some o')) w' := by
  have hlen : b < hp.length := (List.getElem?_eq_some_iff.1 hb).1
  have hX : ∀ g', Xof X0 σ (hp.set b (some o')) g' ↔ Xof X0 σ hp g' := fun g' => or_congr Iff.rfl (own_set (g := g) hb g')
  have hXe : Xof X0 σ (hp.set b (some o')) = Xof X0 σ hp := funext fun g' => propext (hX g')
  have hstep : Step (Xof X0 σ hp) w w' := hs.mono fun g' _ e => by subst e; exact .inr ⟨b, o, hb, hg⟩
  refine ⟨?_, fun i g' hi => Nat.lt_of_lt_of_le (h.lt i g' hi) hs.size, fun g' hx => Nat.lt_of_lt_of_le (h.x0 g' hx) hs.size, h.sep, fun i g' hi => by simpa using h.dom i g' hi, ?_⟩
  · intro i j x y g' hi hj h1 h2
    have hi' : ∃ x', hp[i]? = some (some x') := by
      rw [List.getElem?_set] at hi; split at hi
      · rename_i e; subst e; exact ⟨o, hb⟩
      · exact ⟨x, hi⟩
    have hj' : ∃ x', hp[j]? = some (some x') := by
      rw [List.getElem?_set] at hj; split at hj
      · rename_i e; subst e; exact ⟨o, hb⟩
      · exact ⟨y, hj⟩
    obtain ⟨x', hi'⟩ := hi'; obtain ⟨y', hj'⟩ := hj'
    exact h.inj i j x' y' g' hi' hj' h1 h2
  · intro i x hi
    rw [hXe]
    rw [List.getElem?_set] at hi
    by_cases e : b = i
    · subst e
      rw [if_pos rfl, if_pos hlen] at hi
      simp at hi; subst hi
      exact ⟨g, hg, ho⟩
    · rw [if_neg e] at hi
      obtain ⟨gi, h1, h2⟩ := h.obj i x hi
      have hne : gi ≠ g := fun e' => e (by subst e'; exact h.inj b i o x gi hb hi hg h1)
      exact ⟨gi, h1, O_mono h2 (hs.keep gi (h.lt i gi h1) hne) (fun _ _ h => h) (fun _ _ h => h) hstep⟩

def upd (σ : Sub) (i g : Nat) : Sub := fun j => if j = i then some g else σ j
theorem Rel.fresh (h : Rel X0 σ hp w) : ∀ i g, σ i = some g → upd σ hp.length w.heap.size i = some g := fun i g hi => by
  have := h.dom i g hi
  unfold upd; rw [if_neg (by omega)]; exact hi

theorem own_push (h : Rel X0 σ hp w) {o : AObj} (g' : Nat) : Own (upd σ hp.length w.heap.size) (hp ++ [some o]) g' ↔ (Own σ hp g' ∨ g' = w.heap.size) := by
  constructor
  · rintro ⟨i, x, h1, h2⟩
    by_cases e : i = hp.length
    · subst e; simp [upd] at h2; exact .inr h2.symm
    · have hi : i < hp.length := by
        have := (List.getElem?_eq_some_iff.1 h1).1; simp at this; omega
      rw [List.getElem?_append_left hi] at h1
      unfold upd at h2; rw [if_neg e] at h2
      exact .inl ⟨i, x, h1, h2⟩
  · rintro (⟨i, x, h1, h2⟩ | rfl)
    · have hi := (List.getElem?_eq_some_iff.1 h1).1
      exact ⟨i, x, by rw [List.getElem?_append_left hi]; exact h1, h.fresh i g' h2⟩
    · exact ⟨hp.length, o, by simp, by simp [upd]⟩

theorem alloc_step (Y : Blk) (w : World) (ob : Obj) : Step Y w (w.alloc ob) := by
  refine ⟨by simp, rfl, rfl, rfl, fun g hg _ => RowKit.Below.heap_alloc _ _ _ hg, fun g arr t fr e => ⟨arr, fr, ?_, rfl⟩⟩
  rw [RowKit.Below.heap_alloc _ _ _ (Array.getElem?_eq_some_iff.1 e).1]; exact e

/-- A new object. -/
theorem Rel.push (h : Rel X0 σ hp w) {ob : Obj} {o : AObj} (ho : O (Xof X0 (upd σ hp.length w.heap.size) (hp ++ [some o])) (upd σ hp.length w.heap.size) (w.alloc ob) w.heap.size o) :
    Rel X0 (upd σ hp.length w.heap.size) (hp ++ [some o]) (w.alloc ob) := by
  have hX : ∀ g, g < w.heap.size → Xof X0 (upd σ hp.length w.heap.size) (hp ++ [some o]) g → Xof X0 σ hp g := fun g hg hx => by
    rcases hx with hx | hx
    · exact .inl hx
    · rcases (own_push h g).1 hx with hx | hx
      · exact .inr hx
      · omega
  refine ⟨?_, ?_, fun g hx => by have := h.x0 g hx; simp; omega, ?_, ?_, ?_⟩
  · intro i j x y g hi hj h1 h2
    have key : ∀ i x, (hp ++ [some o])[i]? = some (some x) → (i = hp.length ∨ (i < hp.length ∧ hp[i]? = some (some x))) := by
      intro i x hi
      have hl := (List.getElem?_eq_some_iff.1 hi).1
      simp at hl
      by_cases e : i = hp.length
      · exact .inl e
      · exact .inr ⟨by omega, by rw [List.getElem?_append_left (by omega)] at hi; exact hi⟩
    rcases key i x hi with rfl | ⟨hi1, hi2⟩ <;> rcases key j y hj with rfl | ⟨hj1, hj2⟩
    · rfl
    · exfalso
      unfold upd at h1 h2; rw [if_pos rfl] at h1; rw [if_neg (by omega)] at h2
      have := h.lt j g h2; simp at h1; omega
    · exfalso
      unfold upd at h1 h2; rw [if_pos rfl] at h2; rw [if_neg (by omega)] at h1
      have := h.lt i g h1; simp at h2; omega
    · unfold upd at h1 h2; rw [if_neg (by omega)] at h1 h2
      exact h.inj i j x y g hi2 hj2 h1 h2
  · intro i g hi
    unfold upd at hi; split at hi
    · simp at hi; simp; omega
    · have := h.lt i g hi; simp; omega
  · intro i g hi hx
    unfold upd at hi; split at hi
    · simp at hi; have := h.x0 g hx; omega
    · exact h.sep i g hi hx
  · intro i g hi
    unfold upd at hi; split at hi
    · simp; omega
    · have := h.dom i g hi; simp; omega
  · intro i x hi
    by_cases e : i = hp.length
    · subst e
      simp at hi; subst hi
      exact ⟨w.heap.size, by simp [upd], ho⟩
    · have hl := (List.getElem?_eq_some_iff.1 hi).1
      simp at hl
      rw [List.getElem?_append_left (by omega)] at hi
      obtain ⟨g, h1, h2⟩ := h.obj i x hi
      exact ⟨g, h.fresh i g h1, O_mono h2 (RowKit.Below.heap_alloc _ _ _ (h.lt i g h1)) h.fresh hX (alloc_step _ _ _)⟩
/-- The world turns nothing that is ours. -/
theorem Rel.step (h : Rel X0 σ hp w) {w' : World} (hs : Step (fun _ => False) w w') : Rel X0 σ hp w' := by
  refine ⟨h.inj, fun i g hi => Nat.lt_of_lt_of_le (h.lt i g hi) hs.size, fun g hx => Nat.lt_of_lt_of_le (h.x0 g hx) hs.size, h.sep, h.dom, fun i o hi => ?_⟩
  obtain ⟨g, h1, h2⟩ := h.obj i o hi
  exact ⟨g, h1, O_mono h2 (hs.keep g (h.lt i g h1) (by simp)) (fun _ _ h => h) (fun _ _ h => h) (hs.mono (fun _ _ h => h.elim))⟩
end rel
end Go.Ab
namespace Go.Ab
open Go
set_option linter.unusedVariables false
set_option linter.unusedSimpArgs false

def aconst1 : Value → AV
  | .int k n => if k.min ≤ n ∧ n ≤ k.max then .int k n else .junk
  | .bool b => .bool b
  | .string s => if s.data.size ≤ bnd then .str s.data.toList else .junk
  | .pointer none => .nilp
  | .slice none 0 0 => .nilsl
  | .map none => .nilmap
  | .nilFunc => .nilfn
  | .nilIface => .niliface
  | _ => .junk
def aconst : Value → AV
  | .agg cs => .agg (cs.toList.map aconst1)
  | v => aconst1 v

abbrev Tm := List AV

def aeval (tm : Tm) : Operand → AV
  | .tmp t => tm.getD t .junk
  | .const v => aconst v
  | .global _ => .junk
  | .func f => .fn f []

def aone : AV → Bool
  | .junk | .undef | .agg _ | .tup _ => false
  | _ => true
/-- A plain value, or one of another's memory. -/
def noref0 : AV → Bool
  | .int .. | .bool _ | .str _ | .nilp | .nilsl | .sl .. | .fref .. | .nilfn | .nilmap | .niliface => true
  | _ => false
def noref : AV → Bool
  | .int .. | .bool _ | .str _ | .nilp | .nilsl | .sl .. | .fref .. | .nilfn | .nilmap | .niliface => true
  | .fn _ cap => cap.all noref0
  | .iface _ v => noref v
  | _ => false
def acells : AV → List AV
  | .agg cs => cs
  | v => [v]

def isAggB (P : Program) (t : TypeId) : Option Bool :=
  match P.underlying t with
  | some (.struct _) | some (.array _ _) => some true
  | some _ => some false
  | none => none

section
variable {X : Blk} {w : World} {σ : Sub}
theorem V_aconst1 (v : Value) : V X w σ (aconst1 v) v := by
  unfold aconst1
  split
  · split
    · simp [V]; omega
    · simp [V]
  · simp [V]
  · rename_i s
    split
    · rename_i h
      simp only [V]
      exact ⟨by cases s; simp, by simpa using h⟩
    · simp [V]
  all_goals simp [V]
theorem VL_aconst1 : ∀ l : List Value, VL X w σ (l.map aconst1) l
  | [] => by simp [VL]
  | v :: l => by simp only [VL, List.map_cons]; exact ⟨v, l, rfl, V_aconst1 v, VL_aconst1 l⟩
theorem V_aconst (v : Value) : V X w σ (aconst v) v := by
  unfold aconst
  split
  · simp only [V]; exact ⟨_, rfl, VL_aconst1 _⟩
  · exact V_aconst1 v
theorem V_aeval {tm : Tm} {a : Act} (h : VL X w σ tm a.tmps.toList) (x : Operand) : V X w σ (aeval tm x) (a.eval x) := by
  cases x with
  | tmp t =>
    simp only [aeval, Act.eval]
    cases ht : tm[t]? with
    | none => simp [List.getD, ht, V]
    | some b =>
      obtain ⟨u, h1, h2⟩ := VL_get h t b ht
      simp only [Array.getElem?_toList] at h1
      simp [List.getD, ht, h1, h2]
  | const v => exact V_aconst v
  | global g => simp [aeval, V]
  | func f => simp only [aeval, Act.eval, V]; exact ⟨#[], rfl, by simp [VL]⟩
theorem V_one {a : AV} {v : Value} (h : V X w σ a v) (h1 : aone a = true) : one v = true := by
  cases a <;> simp only [V, aone] at h h1 <;> first
    | (subst h; rfl)
    | (cases h1; done)
    | (obtain ⟨_, (⟨rfl, _⟩ | ⟨g, off, cap, rfl, _⟩)⟩ := h <;> rfl)
    | (obtain ⟨rfl, _⟩ := h; rfl)
    | (obtain ⟨g, _, rfl⟩ := h; rfl)
    | (obtain ⟨g, off, rfl, _⟩ := h; rfl)
    | (obtain ⟨g, rfl, _⟩ := h; rfl)
    | (obtain ⟨_, g, o, cap, arr, t, fr, _, rfl, _⟩ := h; rfl)
theorem V_noref0 {σ' : Sub} {a : AV} {v : Value} (h : V X w σ a v) (h1 : noref0 a = true) : V X w σ' a v := by
  cases a <;> first | (simp [noref0] at h1; done) | simpa only [V] using h
theorem VL_noref00 {σ' : Sub} : ∀ {as : List AV} {vs : List Value}, VL X w σ as vs → as.all noref0 = true → VL X w σ' as vs
  | [], vs, h, h1 => h
  | a :: as, vs, h, h1 => by
    simp only [List.all_cons, Bool.and_eq_true] at h1
    obtain ⟨u, us, rfl, h2, h3⟩ := h
    exact ⟨u, us, rfl, V_noref0 h2 h1.1, VL_noref00 h3 h1.2⟩
theorem V_noref {σ' : Sub} : ∀ {a : AV} {v : Value}, V X w σ a v → noref a = true → V X w σ' a v
  | .int .., _, h, _ | .bool _, _, h, _ | .str _, _, h, _ | .nilp, _, h, _ | .nilsl, _, h, _ | .sl .., _, h, _ | .fref .., _, h, _ | .nilfn, _, h, _ | .nilmap, _, h, _ | .niliface, _, h, _ => by simpa only [V] using h
  | .fn f cap, v, h, h1 => by
    simp only [noref] at h1
    simp only [V] at h ⊢
    obtain ⟨vs, h2, h3⟩ := h
    exact ⟨vs, h2, VL_noref00 h3 h1⟩
  | .iface t a, v, h, h1 => by
    simp only [V, noref] at h h1 ⊢
    obtain ⟨u, h2, h3⟩ := h
    exact ⟨u, h2, V_noref h3 h1⟩
theorem V_noref' {a : AV} {v : Value} (h : V X w (fun _ => none) a v) : V X w σ a v :=
  V_mono (X := X) (X' := X) (w := w) (w' := w) (fun _ _ h => h) (Step.refl _ _) a v _ _ (fun _ _ h => by cases h) h
theorem V_cells {a : AV} {v : Value} (h : V X w σ a v) (h1 : (acells a).all aone = true) : VL X w σ (acells a) v.cells.toList ∧ ∀ u, u ∈ v.cells.toList → one u = true := by
  have key : ∀ as vs, VL X w σ as vs → as.all aone = true → ∀ u, u ∈ vs → one u = true := by
    intro as
    induction as with
    | nil => intro vs h _ u hu; simp only [VL] at h; subst h; simp at hu
    | cons a as ih =>
      intro vs h h1 u hu
      simp only [VL] at h
      obtain ⟨x, xs, rfl, h2, h3⟩ := h
      simp only [List.all_cons, Bool.and_eq_true] at h1
      rcases List.mem_cons.1 hu with rfl | hu
      · exact V_one h2 h1.1
      · exact ih xs h3 h1.2 u hu
  have hv : VL X w σ (acells a) v.cells.toList := by
    cases a with
    | agg cs => simp only [V] at h; obtain ⟨vs, rfl, h2⟩ := h; exact h2
    | _ =>
      simp only [acells, List.all_cons, List.all_nil, Bool.and_true] at h1 ⊢
      have ho := V_one h h1
      have : v.cells = #[v] := by cases v <;> first | rfl | (exfalso; revert ho; simp [one]; done)
      rw [this]; simp only [VL]; exact ⟨v, [], rfl, h, rfl⟩
  exact ⟨hv, key _ _ hv h1⟩
end

/-- The operation's program comes to what is told. -/
def Good (P : Program) (X0 : Blk) (σ : Sub) (hp : Hp) (w : World) (s : Sem Value) (a : AV) (hp' : Hp) : Prop :=
  ∃ v w' σ', s.run P w = .ok v w' ∧ (∀ i g, σ i = some g → σ' i = some g) ∧ (Step (Own σ hp) w w' ∧ ∀ g, g < w.heap.size → Own σ' hp' g → Own σ hp g) ∧ Rel X0 σ' hp' w' ∧ V (Xof X0 σ' hp') w' σ' a v

section
variable {P : Program} {X0 : Blk} {σ : Sub} {hp : Hp} {w : World}
theorem Good.pure' {s : Sem Value} {a : AV} {v : Value} (hR : Rel X0 σ hp w) (hs : s.run P w = .ok v w) (hv : V (Xof X0 σ hp) w σ a v) : Good P X0 σ hp w s a hp :=
  ⟨v, w, σ, hs, fun _ _ h => h, ⟨Step.refl _ _, fun _ _ h => h⟩, hR, hv⟩

/-! ### loads -/
def aload (P : Program) (t : TypeId) (x : AV) (hp : Hp) : Option AV :=
  match isAggB P t with
  | none => none
  | some ag =>
    let n := P.cellsOf t
    match x with
    | .ref b off => match hp[b]? with
      | some (some (.cells cs)) => if off + n ≤ cs.length then (if ag then some (.agg ((cs.drop off).take n)) else cs[off]?) else none
      | some (some (.tcells _ cs)) => if off + n ≤ cs.length then (if ag then some (.agg ((cs.drop off).take n)) else cs[off]?) else none
      | _ => none
    | .eref b sz i c => match hp[b]? with
      | some (some (.row sz' m f)) => if sz = sz' ∧ c + n ≤ sz then (if i < m then (if ag then some (.agg ((List.range n).map fun j => f i (c + j))) else (if c < sz then some (f i c) else none)) else none) else none
      | some (some (.bytes l)) => if sz = 1 ∧ c = 0 ∧ ag = false then (if i < l.length then some (.int .u8 (l.getD i 0).toNat) else none) else none
      | some (some (.cells cs)) => if i * sz + c + n ≤ cs.length then (if ag then some (.agg ((cs.drop (i * sz + c)).take n)) else cs[i * sz + c]?) else none
      | _ => none
    | .fref m f => if n ≤ m then (if ag then some (.agg ((List.range n).map f)) else (if 0 < m then some (f 0) else none)) else none
    | _ => none

theorem run_isAgg (t : TypeId) (ag : Bool) (h : isAggB P t = some ag) : (isAgg t).run P w = .ok ag w := by
  unfold isAggB at h
  simp only [isAgg, underlying, Sem.run_bind, run_program, Result.andThen_ok]
  cases hu : P.underlying t with
  | none => simp [hu] at h
  | some d =>
    simp only [hu, Sem.run_pure, Result.andThen_ok] at h ⊢
    cases d <;> simp_all
theorem run_sizeOf (t : TypeId) (h : P.info? t ≠ none) : (sizeOf t).run P w = .ok (P.cellsOf t) w := by
  simp only [sizeOf, typeInfo, Sem.run_bind, run_program, Result.andThen_ok, Program.cellsOf]
  cases hi : P.info? t with
  | none => exact absurd hi h
  | some i => simp
theorem info_of_isAgg {t : TypeId} {ag : Bool} (h : isAggB P t = some ag) : P.info? t ≠ none := by
  intro hn
  unfold isAggB Program.underlying at h
  rw [hn] at h; simp at h
theorem run_loadVar_cells {g o : Nat} {t : TypeId} {ag : Bool} (hag : isAggB P t = some ag) (vs : List Value) (hn : vs.length = P.cellsOf t) (hc : ∀ (j : Nat) (u : Value), vs[j]? = some u → w.cell? ⟨g, o + j, none⟩ = some u)
    (hs : ag = false → vs ≠ []) : (Instr.loadAt t (.pointer (some ⟨g, o, none⟩))).run P w = .ok (if ag then .agg vs.toArray else vs.headD undef) w := by
  simp only [Instr.loadAt, Instr.sureAddr, loadVar, Sem.run_bind, Sem.run_pure, Result.andThen_ok, run_isAgg t ag hag]
  cases ag with
  | true =>
    simp only [if_true, Sem.run_bind, run_sizeOf t (info_of_isAgg hag), Result.andThen_ok]
    have := run_loadCells_list (P := P) (w := w) ⟨g, o, none⟩ vs (fun j v hj => by rw [add_none]; exact hc j v hj)
    rw [hn] at this
    rw [this]; simp
  | false =>
    cases vs with
    | nil => exact absurd rfl (hs rfl)
    | cons v vs =>
      have := hc 0 v rfl
      simp only [Nat.add_zero] at this
      simp [this]

theorem aload_run {t : TypeId} {x : AV} {v : Value} {a : AV} (hR : Rel X0 σ hp w) (hx : V (Xof X0 σ hp) w σ x v) (h : aload P t x hp = some a) :
    ∃ u, (Instr.loadAt t v).run P w = .ok u w ∧ V (Xof X0 σ hp) w σ a u := by
  unfold aload at h
  split at h
  · simp at h
  · rename_i ag hag
    dsimp only at h
    split at h
    · rename_i b off
      split at h
      · rename_i cs hb
        split at h
        · rename_i hlen
          simp only [V] at hx
          obtain ⟨g, hg, rfl⟩ := hx
          obtain ⟨g', hg', arr, hA, hV⟩ := hR.obj b _ hb
          rw [hg] at hg'; obtain rfl := Option.some.inj hg'
          have hl := VL_length hV
          have hc : ∀ (j : Nat) (u : Value), ((arr.toList.drop off).take (P.cellsOf t))[j]? = some u → w.cell? ⟨g, off + j, none⟩ = some u := by
            intro j u hu
            rw [hA.cell]
            rw [List.getElem?_take] at hu
            split at hu
            · simpa using hu
            · simp at hu
          have hvl : VL (Xof X0 σ hp) w σ ((cs.drop off).take (P.cellsOf t)) ((arr.toList.drop off).take (P.cellsOf t)) := by
            refine VL_of_get (by simp at hl; simp; omega) fun i a u h1 h2 => ?_
            rw [List.getElem?_take] at h1 h2
            split at h1
            · rw [List.getElem?_drop] at h1 h2
              rw [if_pos (by assumption)] at h2
              obtain ⟨u', h3, h4⟩ := VL_get hV _ _ h1
              rw [h3] at h2; simp at h2; subst h2; exact h4
            · simp at h1
          cases ag with
          | true =>
            simp only [if_true, Option.some.injEq] at h
            subst h
            have := run_loadVar_cells (P := P) (w := w) hag _ (by simp at hl; simp; omega) hc (by simp)
            refine ⟨_, this, ?_⟩
            simp only [V, if_true]
            exact ⟨_, rfl, by simpa using hvl⟩
          | false =>
            simp only [Bool.false_eq_true, if_false] at h
            obtain ⟨u, h1, h2⟩ := VL_get hV off a h
            have hrun : (Instr.loadAt t (.pointer (some ⟨g, off, none⟩))).run P w = .ok u w := by
              simp only [Instr.loadAt, Instr.sureAddr, loadVar, Sem.run_bind, Sem.run_pure, Result.andThen_ok, run_isAgg t false hag]
              have : w.cell? ⟨g, off, none⟩ = some u := by rw [hA.cell]; simpa using h1
              simp [this]
            refine ⟨_, hrun, ?_⟩; exact h2
        · simp at h
      · rename_i t' cs hb
        split at h
        · rename_i hlen
          simp only [V] at hx
          obtain ⟨g, hg, rfl⟩ := hx
          obtain ⟨g', hg', arr, hA, hV, hty⟩ := hR.obj b _ hb
          rw [hg] at hg'; obtain rfl := Option.some.inj hg'
          have hl := VL_length hV
          have hc : ∀ (j : Nat) (u : Value), ((arr.toList.drop off).take (P.cellsOf t))[j]? = some u → w.cell? ⟨g, off + j, none⟩ = some u := by
            intro j u hu
            rw [hA.cell]
            rw [List.getElem?_take] at hu
            split at hu
            · simpa using hu
            · simp at hu
          have hvl : VL (Xof X0 σ hp) w σ ((cs.drop off).take (P.cellsOf t)) ((arr.toList.drop off).take (P.cellsOf t)) := by
            refine VL_of_get (by simp at hl; simp; omega) fun i a u h1 h2 => ?_
            rw [List.getElem?_take] at h1 h2
            split at h1
            · rw [List.getElem?_drop] at h1 h2
              rw [if_pos (by assumption)] at h2
              obtain ⟨u', h3, h4⟩ := VL_get hV _ _ h1
              rw [h3] at h2; simp at h2; subst h2; exact h4
            · simp at h1
          cases ag with
          | true =>
            simp only [if_true, Option.some.injEq] at h
            subst h
            have := run_loadVar_cells (P := P) (w := w) hag _ (by simp at hl; simp; omega) hc (by simp)
            refine ⟨_, this, ?_⟩
            simp only [V, if_true]
            exact ⟨_, rfl, by simpa using hvl⟩
          | false =>
            simp only [Bool.false_eq_true, if_false] at h
            obtain ⟨u, h1, h2⟩ := VL_get hV off a h
            have hrun : (Instr.loadAt t (.pointer (some ⟨g, off, none⟩))).run P w = .ok u w := by
              simp only [Instr.loadAt, Instr.sureAddr, loadVar, Sem.run_bind, Sem.run_pure, Result.andThen_ok, run_isAgg t false hag]
              have : w.cell? ⟨g, off, none⟩ = some u := by rw [hA.cell]; simpa using h1
              simp [this]
            refine ⟨_, hrun, ?_⟩; exact h2
        · simp at h
      · simp at h
    · rename_i b sz i c
      split at h
      · rename_i sz' m f hb
        split at h
        · rename_i hsz
          split at h
          · rename_i him
            obtain ⟨rfl, hcn⟩ := hsz
            simp only [V] at hx
            obtain ⟨g, hg, rfl⟩ := hx
            obtain ⟨g', hg', arr, hA, hms, hmb, hV⟩ := hR.obj b _ hb
            rw [hg] at hg'; obtain rfl := Option.some.inj hg'
            have hin : ∀ c', c' < sz → i * sz + c' < arr.size := fun c' hc' => by
              have : i * sz + sz ≤ m * sz := by rw [← Nat.succ_mul]; exact Nat.mul_le_mul_right _ him
              omega
            cases ag with
            | true =>
              simp only [if_true, Option.some.injEq] at h
              subst h
              have hc : ∀ (j : Nat) (u : Value), ((arr.toList.drop (i * sz + c)).take (P.cellsOf t))[j]? = some u → w.cell? ⟨g, i * sz + c + j, none⟩ = some u := by
                intro j u hu
                rw [hA.cell]
                rw [List.getElem?_take] at hu
                split at hu
                · simpa using hu
                · simp at hu
              have hl' : ((arr.toList.drop (i * sz + c)).take (P.cellsOf t)).length = P.cellsOf t := by
                simp
                rcases Nat.eq_zero_or_pos (P.cellsOf t) with h0 | h0
                · omega
                · have := hin (c + P.cellsOf t - 1) (by omega); omega
              have := run_loadVar_cells (P := P) (w := w) hag _ hl' hc (by simp)
              refine ⟨_, this, ?_⟩
              simp only [V, if_true]
              refine ⟨_, rfl, VL_of_get (by simp only [List.length_map, List.length_range]; simpa using hl'.symm) fun j a u h1 h2 => ?_⟩
              have hj : j < P.cellsOf t := by have := (List.getElem?_eq_some_iff.1 h1).1; simpa using this
              simp [hj] at h1
              subst h1
              simp only [List.getElem?_take, hj, if_true, List.getElem?_drop] at h2
              exact V_noref' (hV i (c + j) u him (by omega) (by simpa [Nat.add_assoc] using h2))
            | false =>
              simp only [Bool.false_eq_true, if_false] at h
              split at h
              · rename_i hcs
                simp only [Option.some.injEq] at h
                subst h
                have hu : arr[i * sz + c]? = some (arr[i * sz + c]'(hin c hcs)) := by simp
                have hrun : (Instr.loadAt t (.pointer (some ⟨g, i * sz + c, none⟩))).run P w = .ok (arr[i * sz + c]'(hin c hcs)) w := by
                  simp only [Instr.loadAt, Instr.sureAddr, loadVar, Sem.run_bind, Sem.run_pure, Result.andThen_ok, run_isAgg t false hag]
                  have : w.cell? ⟨g, i * sz + c, none⟩ = some (arr[i * sz + c]'(hin c hcs)) := by rw [hA.cell]; exact hu
                  simp [this]
                refine ⟨_, hrun, ?_⟩; exact (V_noref' (hV i c _ him hcs hu))
              · simp at h
          · simp at h
        · simp at h
      · rename_i l hb
        split at h
        · rename_i hsz
          obtain ⟨rfl, rfl, rfl⟩ := hsz
          split at h
          · rename_i hil
            simp only [Option.some.injEq] at h
            subst h
            simp only [V] at hx
            obtain ⟨g, hg, rfl⟩ := hx
            obtain ⟨g', hg', arr, hA, hms, hmb, hV⟩ := hR.obj b _ hb
            rw [hg] at hg'; obtain rfl := Option.some.inj hg'
            have hu : arr[i]? = some (.int .u8 (l.getD i 0).toNat) := hV i _ (by simp [hil])
            have hrun : (Instr.loadAt t (.pointer (some ⟨g, i * 1 + 0, none⟩))).run P w = .ok (.int .u8 (l.getD i 0).toNat) w := by
              simp only [Instr.loadAt, Instr.sureAddr, loadVar, Sem.run_bind, Sem.run_pure, Result.andThen_ok, run_isAgg t false hag]
              have : w.cell? ⟨g, i * 1 + 0, none⟩ = some (.int .u8 (l.getD i 0).toNat) := by rw [hA.cell]; simpa using hu
              simp only [this, Bool.false_eq_true, if_false, run_load]
            refine ⟨_, hrun, ?_⟩
            simp only [V]
            refine ⟨trivial, ?_⟩
            have : (l.getD i 0).toNat < 256 := UInt8.toNat_lt _
            have e1 : IntKind.min .u8 = 0 := rfl
            have e2 : IntKind.max .u8 = 255 := rfl
            rw [e1, e2]; omega
          · simp at h
        · simp at h
      · rename_i cs hb
        generalize hoff : i * sz + c = off at *
        split at h
        · rename_i hlen
          simp only [V] at hx
          obtain ⟨g, hg, hpv⟩ := hx
          rw [hoff] at hpv; subst hpv
          obtain ⟨g', hg', arr, hA, hV⟩ := hR.obj b _ hb
          rw [hg] at hg'; obtain rfl := Option.some.inj hg'
          have hl := VL_length hV
          have hc : ∀ (j : Nat) (u : Value), ((arr.toList.drop off).take (P.cellsOf t))[j]? = some u → w.cell? ⟨g, off + j, none⟩ = some u := by
            intro j u hu
            rw [hA.cell]
            rw [List.getElem?_take] at hu
            split at hu
            · simpa using hu
            · simp at hu
          have hvl : VL (Xof X0 σ hp) w σ ((cs.drop off).take (P.cellsOf t)) ((arr.toList.drop off).take (P.cellsOf t)) := by
            refine VL_of_get (by simp at hl; simp; omega) fun i a u h1 h2 => ?_
            rw [List.getElem?_take] at h1 h2
            split at h1
            · rw [List.getElem?_drop] at h1 h2
              rw [if_pos (by assumption)] at h2
              obtain ⟨u', h3, h4⟩ := VL_get hV _ _ h1
              rw [h3] at h2; simp at h2; subst h2; exact h4
            · simp at h1
          cases ag with
          | true =>
            simp only [if_true, Option.some.injEq] at h
            subst h
            have := run_loadVar_cells (P := P) (w := w) hag _ (by simp at hl; simp; omega) hc (by simp)
            refine ⟨_, this, ?_⟩
            simp only [V, if_true]
            exact ⟨_, rfl, by simpa using hvl⟩
          | false =>
            simp only [Bool.false_eq_true, if_false] at h
            obtain ⟨u, h1, h2⟩ := VL_get hV off a h
            have hrun : (Instr.loadAt t (.pointer (some ⟨g, off, none⟩))).run P w = .ok u w := by
              simp only [Instr.loadAt, Instr.sureAddr, loadVar, Sem.run_bind, Sem.run_pure, Result.andThen_ok, run_isAgg t false hag]
              have : w.cell? ⟨g, off, none⟩ = some u := by rw [hA.cell]; simpa using h1
              simp [this]
            refine ⟨_, hrun, ?_⟩; exact h2
        · simp at h
      · simp at h
    · rename_i m f
      split at h
      · rename_i hlen
        simp only [V] at hx
        obtain ⟨g, off, rfl, _, _, hc⟩ := hx
        cases ag with
        | true =>
          simp only [if_true, Option.some.injEq] at h
          subst h
          have hex : ∃ vs : List Value, vs.length = P.cellsOf t ∧ (∀ (j : Nat) (u : Value), vs[j]? = some u → w.cell? ⟨g, off + j, none⟩ = some u) ∧ ∀ j u, vs[j]? = some u → V (Xof X0 σ hp) w (fun _ => none) (f j) u := by
            refine ⟨(List.range (P.cellsOf t)).map fun j => (w.cell? ⟨g, off + j, none⟩).getD undef, by simp, ?_, ?_⟩
            all_goals
              intro j u hu
              have hj : j < P.cellsOf t := by have := (List.getElem?_eq_some_iff.1 hu).1; simpa using this
              obtain ⟨u', h1, _, h2⟩ := hc j (by omega)
              simp [hj, h1] at hu
              subst hu
              assumption
          obtain ⟨vs, h1, h2, h3⟩ := hex
          have := run_loadVar_cells (P := P) (w := w) hag vs h1 h2 (by simp)
          refine ⟨_, this, ?_⟩
          simp only [V, if_true]
          refine ⟨_, rfl, VL_of_get (by simp [h1]) fun j a u e1 e2 => ?_⟩
          have hj : j < P.cellsOf t := by have := (List.getElem?_eq_some_iff.1 e1).1; simpa using this
          simp [hj] at e1
          subst e1
          exact V_noref' (h3 j u (by simpa using e2))
        | false =>
          simp only [Bool.false_eq_true, if_false] at h
          split at h
          · rename_i hm
            simp only [Option.some.injEq] at h
            subst h
            obtain ⟨u, h1, _, h2⟩ := hc 0 hm
            have hrun : (Instr.loadAt t (.pointer (some ⟨g, off, none⟩))).run P w = .ok u w := by
              simp only [Instr.loadAt, Instr.sureAddr, loadVar, Sem.run_bind, Sem.run_pure, Result.andThen_ok, run_isAgg t false hag]
              simp only [Nat.add_zero] at h1
              simp [h1]
            refine ⟨_, hrun, ?_⟩; exact (V_noref' h2)
          · simp at h
      · simp at h
    · simp at h
theorem aload_sound {t : TypeId} {x : AV} {v : Value} {a : AV} (hR : Rel X0 σ hp w) (hx : V (Xof X0 σ hp) w σ x v) (h : aload P t x hp = some a) :
    Good P X0 σ hp w (Instr.loadAt t v) a hp := by
  obtain ⟨u, h1, h2⟩ := aload_run hR hx h
  exact Good.pure' hR h1 h2

end
end Go.Ab
namespace Go.Ab
open Go
set_option linter.unusedVariables false
set_option linter.unusedSimpArgs false

def GoodU (P : Program) (X0 : Blk) (σ : Sub) (hp : Hp) (w : World) (s : Sem Unit) (hp' : Hp) : Prop :=
  ∃ w' σ', s.run P w = .ok () w' ∧ (∀ i g, σ i = some g → σ' i = some g) ∧ (Step (Own σ hp) w w' ∧ ∀ g, g < w.heap.size → Own σ' hp' g → Own σ hp g) ∧ Rel X0 σ' hp' w'

def updf (sz : Nat) (f : Nat → Nat → AV) (i c : Nat) (vals : List AV) : Nat → Nat → AV :=
  match Nat.beq vals.length sz with
  | true => match Nat.beq sz 1 with
    | true => fun i' c' => if i' = i then vals.getD 0 .junk else f i' c'
    | false => fun i' c' => if i' = i then vals.getD c' .junk else f i' c'
  | false => fun i' => if i' = i then (fun c' => if c ≤ c' ∧ c' < c + vals.length then vals.getD (c' - c) .junk else f i c') else f i'
theorem updf_get {sz : Nat} {f : Nat → Nat → AV} {i c : Nat} {vals : List AV} (h : c + vals.length ≤ sz) {i' c' : Nat} (hc : c' < sz) :
    updf sz f i c vals i' c' = if i' = i then (if c ≤ c' ∧ c' < c + vals.length then vals.getD (c' - c) .junk else f i c') else f i' c' := by
  unfold updf
  cases h1 : Nat.beq vals.length sz with
  | true =>
    have e := Nat.eq_of_beq_eq_true h1
    have hc0 : c = 0 := by omega
    subst hc0
    cases h2 : Nat.beq sz 1 with
    | true =>
      have e2 := Nat.eq_of_beq_eq_true h2
      have : c' = 0 := by omega
      subst this
      simp only
      split
      · rw [if_pos (by omega)]
      · rfl
    | false =>
      simp only
      split
      · rw [if_pos (by omega), Nat.sub_zero]
      · rfl
  | false =>
    simp only
    split <;> rfl

def astore (P : Program) (t : TypeId) (x v : AV) (hp : Hp) : Option Hp :=
  let vals := acells v
  if vals.all aone = true ∧ vals.length = P.cellsOf t ∧ (P.info? t).isSome = true then
    match x with
    | .ref b off => match hp[b]? with
      | some (some (.cells cs)) => if off + vals.length ≤ cs.length then some (hp.set b (some (.cells (over cs off vals)))) else none
      | some (some (.tcells t' cs)) => if off + vals.length ≤ cs.length then some (hp.set b (some (.tcells t' (over cs off vals)))) else none
      | _ => none
    | .eref b sz i c => match hp[b]? with
      | some (some (.row sz' m f)) => if sz = sz' ∧ c + vals.length ≤ sz ∧ vals.all noref = true then (if i < m then some (hp.set b (some (.row sz' m (updf sz' f i c vals)))) else none) else none
      | some (some (.bytes l)) => match v with
        | .int .u8 n => if sz = 1 ∧ c = 0 then (if i < l.length then some (hp.set b (some (.bytes (l.set i (UInt8.ofNat n.toNat))))) else none) else none
        | _ => none
      | _ => none
    | _ => none
  else none

section
variable {P : Program} {X0 : Blk} {σ : Sub} {hp : Hp} {w : World}
theorem VL_over {X : Blk} {as : List AV} {us : List Value} (h : VL X w σ as us) : ∀ {bs : List AV} {vs : List Value} (o : Nat), VL X w σ bs vs → VL X w σ (over as o bs) (over us o vs)
  | [], vs, o, h' => by simp only [VL] at h'; subst h'; exact h
  | b :: bs, vs, o, h' => by
    simp only [VL] at h'
    obtain ⟨v, vs', rfl, h2, h3⟩ := h'
    exact VL_over (VL_set h o h2) (o + 1) h3
theorem own_mem {b g : Nat} {o : AObj} (hb : hp[b]? = some (some o)) (hg : σ b = some g) : ∀ x, x = g → Own σ hp x := fun x e => by subst e; exact ⟨b, o, hb, hg⟩
theorem xof_set {b : Nat} {o o' : AObj} (hb : hp[b]? = some (some o)) : Xof X0 σ (hp.set b (some o')) = Xof X0 σ hp :=
  funext fun g' => propext (or_congr Iff.rfl (own_set (g := 0) hb g'))

theorem idx_ne {i i' sz c c' : Nat} (hc : c < sz) (hc' : c' < sz) (h : i' * sz + c' = i * sz + c) : i' = i ∧ c' = c := by
  rcases Nat.lt_trichotomy i' i with hl | he | hl
  · have : (i' + 1) * sz ≤ i * sz := Nat.mul_le_mul_right _ hl
    rw [Nat.succ_mul] at this; omega
  · subst he; omega
  · have : (i + 1) * sz ≤ i' * sz := Nat.mul_le_mul_right _ hl
    rw [Nat.succ_mul] at this; omega

theorem astore_sound {t : TypeId} {x y : AV} {v u : Value} {hp' : Hp} (hR : Rel X0 σ hp w) (hx : V (Xof X0 σ hp) w σ x v) (hy : V (Xof X0 σ hp) w σ y u) (h : astore P t x y hp = some hp') :
    GoodU P X0 σ hp w (Instr.storeAt t v u) hp' := by
  unfold astore at h
  dsimp only at h
  split at h
  · rename_i hc
    obtain ⟨hall, hlen, hinfo⟩ := hc
    obtain ⟨hVc, hone⟩ := V_cells hy hall
    have hl := VL_length hVc
    have hinfo' : P.info? t ≠ none := by intro e; rw [e] at hinfo; simp at hinfo
    have hrun : ∀ g o, (Instr.storeAt t (.pointer (some ⟨g, o, none⟩)) u).run P w = (storeCells ⟨g, o, none⟩ u.cells.toList).run P w := by
      intro g o
      simp only [Instr.storeAt, Instr.sureAddr, storeVar, Sem.run_bind, Sem.run_pure, Result.andThen_ok, run_sizeOf t hinfo']
      have : u.cells.size = P.cellsOf t := by rw [← hlen, hl]; simp
      simp [this]
    split at h
    · rename_i b off
      split at h
      · rename_i cs hb
        split at h
        · rename_i hoff
          simp only [Option.some.injEq] at h
          subst h
          simp only [V] at hx
          obtain ⟨g, hg, rfl⟩ := hx
          obtain ⟨g', hg', arr, hA, hV⟩ := hR.obj b _ hb
          rw [hg] at hg'; obtain rfl := Option.some.inj hg'
          have hl2 := VL_length hV
          have hbound : off + 0 + u.cells.toList.length ≤ arr.size := by simp at hl2 hl hoff ⊢; omega
          have hs := run_storeCells_over P g off u.cells.toList 0 w arr hA hbound hone
          simp only [Nat.add_zero] at hs
          have hsz : (over arr.toList off u.cells.toList).toArray.size = arr.size := by simp [over_length]
          have hA' : CellsAt (setArr w g (over arr.toList off u.cells.toList).toArray) g (over arr.toList off u.cells.toList).toArray :=
            setArr_same hA hsz (by simpa using over_one _ _ _ hA.ones hone)
          have hst := setArr_step (arr' := (over arr.toList off u.cells.toList).toArray) hA hsz
          refine ⟨_, σ, (hrun g off).trans hs, fun _ _ h => h, ⟨hst.mono fun x _ e => own_mem hb hg x e, fun q _ h => (own_set (g := 0) hb q).1 h⟩, hR.set hb hg hst ?_⟩
          refine ⟨_, hA', ?_⟩
          have := VL_over hV off hVc
          simp only [List.toList_toArray]
          exact VL_mono (fun _ _ h => h) (hst.mono fun x _ e => .inr (own_mem hb hg x e)) _ _ _ _ (fun _ _ h => h) this
        · simp at h
      · rename_i t' cs hb
        split at h
        · rename_i hoff
          simp only [Option.some.injEq] at h
          subst h
          simp only [V] at hx
          obtain ⟨g, hg, rfl⟩ := hx
          obtain ⟨g', hg', arr, hA, hV, hty⟩ := hR.obj b _ hb
          rw [hg] at hg'; obtain rfl := Option.some.inj hg'
          have hl2 := VL_length hV
          have hbound : off + 0 + u.cells.toList.length ≤ arr.size := by simp at hl2 hl hoff ⊢; omega
          have hs := run_storeCells_over P g off u.cells.toList 0 w arr hA hbound hone
          simp only [Nat.add_zero] at hs
          have hsz : (over arr.toList off u.cells.toList).toArray.size = arr.size := by simp [over_length]
          have hA' : CellsAt (setArr w g (over arr.toList off u.cells.toList).toArray) g (over arr.toList off u.cells.toList).toArray :=
            setArr_same hA hsz (by simpa using over_one _ _ _ hA.ones hone)
          have hst := setArr_step (arr' := (over arr.toList off u.cells.toList).toArray) hA hsz
          refine ⟨_, σ, (hrun g off).trans hs, fun _ _ h => h, ⟨hst.mono fun x _ e => own_mem hb hg x e, fun q _ h => (own_set (g := 0) hb q).1 h⟩, hR.set hb hg hst ?_⟩
          refine ⟨_, hA', ?_, hty.step hst⟩
          have := VL_over hV off hVc
          simp only [List.toList_toArray]
          exact VL_mono (fun _ _ h => h) (hst.mono fun x _ e => .inr (own_mem hb hg x e)) _ _ _ _ (fun _ _ h => h) this
        · simp at h
      · simp at h
    · rename_i b sz i c
      split at h
      · rename_i sz' m f hb
        split at h
        · rename_i hsz
          obtain ⟨rfl, hcl, hnr⟩ := hsz
          split at h
          · rename_i him
            simp only [Option.some.injEq] at h
            subst h
            simp only [V] at hx
            obtain ⟨g, hg, rfl⟩ := hx
            obtain ⟨g', hg', arr, hA, hms, hmb, hV⟩ := hR.obj b _ hb
            rw [hg] at hg'; obtain rfl := Option.some.inj hg'
            have hfit : i * sz + sz ≤ arr.size := by
              have : (i + 1) * sz ≤ m * sz := Nat.mul_le_mul_right _ him
              rw [Nat.succ_mul] at this; omega
            have hbound : i * sz + c + 0 + u.cells.toList.length ≤ arr.size := by rw [← hl]; omega
            have hs := run_storeCells_over P g (i * sz + c) u.cells.toList 0 w arr hA hbound hone
            simp only [Nat.add_zero] at hs
            have hsz' : (over arr.toList (i * sz + c) u.cells.toList).toArray.size = arr.size := by simp [over_length]
            have hA' : CellsAt (setArr w g (over arr.toList (i * sz + c) u.cells.toList).toArray) g (over arr.toList (i * sz + c) u.cells.toList).toArray :=
              setArr_same hA hsz' (by simpa using over_one _ _ _ hA.ones hone)
            have hst := setArr_step (arr' := (over arr.toList (i * sz + c) u.cells.toList).toArray) hA hsz'
            refine ⟨_, σ, (hrun g _).trans hs, fun _ _ h => h, ⟨hst.mono fun x _ e => own_mem hb hg x e, fun q _ h => (own_set (g := 0) hb q).1 h⟩, hR.set hb hg hst ?_⟩
            refine ⟨_, hA', by rw [hsz']; exact hms, hmb, fun i' c' u' hi' hc' hu' => ?_⟩
            refine V_mono (X := Xof X0 σ hp) (w := w) (fun _ _ h => h) (hst.mono fun x _ e => .inr (own_mem hb hg x e)) _ _ (fun _ => none) _ (fun _ _ h => h) ?_
            simp only [List.getElem?_toArray] at hu'
            rw [over_get _ _ _ _ (by simp; rw [← Array.length_toList (xs := u.cells), ← hl]; omega)] at hu'
            rw [updf_get (by omega) hc']
            by_cases hii : i' = i
            · subst hii
              rw [if_pos rfl]
              by_cases hcc : c ≤ c' ∧ c' < c + (acells y).length
              · rw [if_pos hcc]
                rw [if_pos (by rw [← hl]; omega)] at hu'
                have e : i' * sz + c' - (i' * sz + c) = c' - c := by omega
                rw [e] at hu'
                have hlt : c' - c < (acells y).length := by omega
                have ha : (acells y)[c' - c]? = some ((acells y)[c' - c]) := by simp [hlt]
                obtain ⟨u2, h1, h2⟩ := VL_get hVc _ _ ha
                rw [h1] at hu'; simp at hu'; subst hu'
                have hn : noref ((acells y)[c' - c]) = true := List.all_eq_true.1 hnr _ (List.getElem_mem _)
                simp only [List.getD, ha, Option.getD_some]
                exact V_noref h2 hn
              · rw [if_neg hcc]
                rw [if_neg (by rw [← hl]; omega)] at hu'
                exact hV i' c' u' hi' hc' (by simpa using hu')
            · rw [if_neg hii]
              have hno : ¬ (i * sz + c ≤ i' * sz + c' ∧ i' * sz + c' < i * sz + c + u.cells.toList.length) := by
                rintro ⟨q1, q2⟩
                rw [← hl] at q2
                have : i' * sz + c' = i * sz + (i' * sz + c' - i * sz) := by omega
                have := idx_ne (i := i) (i' := i') (sz := sz) (c := i' * sz + c' - i * sz) (c' := c') (by omega) hc' (by omega)
                exact hii this.1
              rw [if_neg hno] at hu'
              exact hV i' c' u' hi' hc' (by simpa using hu')
          · simp at h
        · simp at h
      · rename_i l hb
        split at h
        · rename_i n
          split at h
          · rename_i hsz
            obtain ⟨rfl, rfl⟩ := hsz
            split at h
            · rename_i hil
              simp only [Option.some.injEq] at h
              subst h
              simp only [V] at hx hy
              obtain ⟨g, hg, rfl⟩ := hx
              obtain ⟨rfl, hn1, hn2⟩ := hy
              obtain ⟨g', hg', arr, hA, hms, hmb, hV⟩ := hR.obj b _ hb
              rw [hg] at hg'; obtain rfl := Option.some.inj hg'
              have e1 : IntKind.min .u8 = 0 := rfl
              have e2 : IntKind.max .u8 = 255 := rfl
              rw [e1] at hn1; rw [e2] at hn2
              have hbyte : ((UInt8.ofNat n.toNat).toNat : Int) = n := by
                rw [UInt8.toNat_ofNat']; omega
              have hbound : i * 1 + 0 + 0 + (Value.int IntKind.u8 n).cells.toList.length ≤ arr.size := by simp [Value.cells]; omega
              have hs := run_storeCells_over P g (i * 1 + 0) (Value.int IntKind.u8 n).cells.toList 0 w arr hA hbound (by simp [Value.cells, one])
              simp only [Nat.add_zero] at hs
              have hsz' : (over arr.toList (i * 1) (Value.int IntKind.u8 n).cells.toList).toArray.size = arr.size := by simp [over_length]
              have hone' : ∀ u, u ∈ over arr.toList (i * 1) (Value.int IntKind.u8 n).cells.toList → one u = true := over_one _ _ _ hA.ones (by simp [Value.cells, one])
              have hA' : CellsAt (setArr w g (over arr.toList (i * 1) (Value.int IntKind.u8 n).cells.toList).toArray) g (over arr.toList (i * 1) (Value.int IntKind.u8 n).cells.toList).toArray :=
                setArr_same hA hsz' (by simpa using hone')
              have hst := setArr_step (arr' := (over arr.toList (i * 1) (Value.int IntKind.u8 n).cells.toList).toArray) hA hsz'
              refine ⟨_, σ, (hrun g _).trans hs, fun _ _ h => h, ⟨hst.mono fun x _ e => own_mem hb hg x e, fun q _ h => (own_set (g := 0) hb q).1 h⟩, hR.set hb hg hst ?_⟩
              refine ⟨_, hA', by rw [hsz']; simpa using hms, ⟨by simpa using hmb.1, hmb.2.step hst⟩, fun j b' hj => ?_⟩
              simp only [List.getElem?_toArray]
              rw [over_get _ _ _ _ (by simp [Value.cells]; omega)]
              simp only [Value.cells, List.length_cons, List.length_nil, Nat.mul_one]
              rw [List.getElem?_set] at hj
              by_cases hij : i = j
              · subst hij
                rw [if_pos (by omega)]
                rw [if_pos rfl, if_pos hil] at hj
                injection hj with hj
                subst hj
                rw [hbyte, Nat.sub_self]; rfl
              · rw [if_neg (by omega)]
                rw [if_neg hij] at hj
                simpa using hV j b' hj
            · simp at h
          · simp at h
        · simp at h
      · simp at h
    · simp at h
  · simp at h

/-! ### new objects -/
theorem push_fresh (hR : Rel X0 σ hp w) {o : AObj} : ∀ g, g < w.heap.size → Xof X0 (upd σ hp.length w.heap.size) (hp ++ [some o]) g → Xof X0 σ hp g := fun g hg hx => by
  rcases hx with hx | hx
  · exact .inl hx
  · rcases (own_push hR g).1 hx with hx | hx
    · exact .inr hx
    · omega
theorem push_own (hR : Rel X0 σ hp w) {o : AObj} : ∀ g, g < w.heap.size → Own (upd σ hp.length w.heap.size) (hp ++ [some o]) g → Own σ hp g := fun g hg hx => by
  rcases (own_push hR g).1 hx with hx | hx
  · exact hx
  · omega
theorem cellsAt_new (w : World) (arr : Array Value) (t : TypeId) (h : ∀ u, u ∈ arr.toList → one u = true) : CellsAt (w.alloc (.cells arr t)) w.heap.size arr :=
  ⟨t, (0, 0), by show (w.heap.push _)[_]? = _; simp, fun o _ => by simp, h⟩
theorem push_cells (hR : Rel X0 σ hp w) {cs : List AV} {arr : Array Value} (t : TypeId) (hV : VL (Xof X0 σ hp) w σ cs arr.toList) (h1 : ∀ u, u ∈ arr.toList → one u = true) :
    Rel X0 (upd σ hp.length w.heap.size) (hp ++ [some (.cells cs)]) (w.alloc (.cells arr t)) :=
  hR.push ⟨arr, cellsAt_new w arr t h1, VL_mono (push_fresh hR) (alloc_step _ _ _) _ _ _ _ hR.fresh hV⟩
theorem push_row (hR : Rel X0 σ hp w) {sz n : Nat} {f : Nat → Nat → AV} {arr : Array Value} (t : TypeId) (hn : n * sz ≤ arr.size) (hb : n ≤ bnd) (h1 : ∀ u, u ∈ arr.toList → one u = true)
    (hV : ∀ i c u, i < n → c < sz → arr[i * sz + c]? = some u → V (Xof X0 σ hp) w (fun _ => none) (f i c) u) :
    Rel X0 (upd σ hp.length w.heap.size) (hp ++ [some (.row sz n f)]) (w.alloc (.cells arr t)) :=
  hR.push ⟨arr, cellsAt_new w arr t h1, hn, hb, fun i c u hi hc hu => V_mono (push_fresh hR) (alloc_step _ _ _) _ _ _ _ (fun _ _ h => by cases h) (hV i c u hi hc hu)⟩
theorem V_ref_new {X : Blk} {w' : World} : V X w' (upd σ hp.length w.heap.size) (.ref hp.length 0) (.pointer (some ⟨w.heap.size, 0, none⟩)) := by
  simp only [V]; exact ⟨_, by simp [upd], rfl⟩

def azero (P : Program) (t : TypeId) : Option (List AV) :=
  match P.info? t with
  | some i => match i.zero with
    | some z => if (z.cells.toList.map aconst1).all aone = true then some (z.cells.toList.map aconst1) else none
    | none => none
  | none => none
theorem azero_sound {X : Blk} {t : TypeId} {cs : List AV} (h : azero P t = some cs) : ∃ z, (zeroValue t).run P w = .ok z w ∧ VL X w σ cs z.cells.toList ∧ ∀ u, u ∈ z.cells.toList → one u = true := by
  unfold azero at h
  split at h
  · rename_i i hi
    split at h
    · rename_i z hz
      split at h
      · rename_i hall
        simp only [Option.some.injEq] at h
        subst h
        refine ⟨z, ?_, VL_aconst1 _, ?_⟩
        · simp [zeroValue, typeInfo, hi, hz]
        · intro u hu
          have : aconst1 u ∈ z.cells.toList.map aconst1 := List.mem_map.2 ⟨u, hu, rfl⟩
          exact V_one (X := fun _ => False) (w := w) (σ := fun _ => none) (V_aconst1 u) (List.all_eq_true.1 hall _ this)
      · simp at h
    · simp at h
  · simp at h

/-- A struct that may hold a pointer to itself: its type is kept in mind. -/
def selfT (P : Program) : Nat → TypeId → Bool
  | 0, _ => false
  | n + 1, e => match P.underlying e with
    | some (.struct fs) => fs.toList.any fun f => (match P.underlying f.type with | some (.pointer t) => Nat.beq t e | _ => false) || selfT P n f.type
    | _ => false
def mkCells (P : Program) (e : TypeId) (z : List AV) : AObj := match selfT P 3 e with
  | true => .tcells e z
  | false => .cells z
theorem push_tcells (hR : Rel X0 σ hp w) {cs : List AV} {arr : Array Value} (t : TypeId) (hV : VL (Xof X0 σ hp) w σ cs arr.toList) (h1 : ∀ u, u ∈ arr.toList → one u = true) :
    Rel X0 (upd σ hp.length w.heap.size) (hp ++ [some (.tcells t cs)]) (w.alloc (.cells arr t)) :=
  hR.push ⟨arr, cellsAt_new w arr t h1, VL_mono (push_fresh hR) (alloc_step _ _ _) _ _ _ _ hR.fresh hV, arr, (0, 0), by show (w.heap.push _)[_]? = _; simp⟩
theorem push_mkCells (hR : Rel X0 σ hp w) {cs : List AV} {arr : Array Value} (t : TypeId) (hV : VL (Xof X0 σ hp) w σ cs arr.toList) (h1 : ∀ u, u ∈ arr.toList → one u = true) :
    Rel X0 (upd σ hp.length w.heap.size) (hp ++ [some (mkCells P t cs)]) (w.alloc (.cells arr t)) := by
  unfold mkCells
  split
  · exact push_tcells hR t hV h1
  · exact push_cells hR t hV h1
theorem aalloc_sound {t : TypeId} {cs : List AV} (hR : Rel X0 σ hp w) (h : azero P t = some cs) :
    Good P X0 σ hp w (Instr.alloc t true (.tuple #[])) (.ref hp.length 0) (hp ++ [some (mkCells P t cs)]) := by
  obtain ⟨z, h1, h2, h3⟩ := azero_sound (X := Xof X0 σ hp) (σ := σ) (w := w) h
  refine ⟨.pointer (some ⟨w.heap.size, 0, none⟩), w.alloc (.cells z.cells t), _, ?_, hR.fresh, ⟨alloc_step _ _ _, push_own hR⟩, push_mkCells hR t h2 h3, V_ref_new⟩
  simp [Instr.alloc, h1, newVar, newRow]
theorem abox_sound {t : TypeId} {x : AV} {v : Value} (hR : Rel X0 σ hp w) (hx : V (Xof X0 σ hp) w σ x v) (h : (acells x).all aone = true) :
    Good P X0 σ hp w (Instr.box t v) (.ref hp.length 0) (hp ++ [some (mkCells P t (acells x))]) := by
  obtain ⟨h2, h3⟩ := V_cells hx h
  refine ⟨.pointer (some ⟨w.heap.size, 0, none⟩), w.alloc (.cells v.cells t), _, ?_, hR.fresh, ⟨alloc_step _ _ _, push_own hR⟩, push_mkCells hR t h2 h3, V_ref_new⟩
  simp [Instr.box, newVar, newRow]
end
end Go.Ab
namespace Go.Ab
open Go
set_option linter.unusedVariables false
set_option linter.unusedSimpArgs false

theorem ba_size (s : List UInt8) : (ByteArray.mk ⟨s⟩).size = s.length := rfl
theorem ba_get (s : List UInt8) (i : Nat) : (ByteArray.mk ⟨s⟩)[i]? = s[i]? := by
  simp only [getElem?_def]
  by_cases h : i < s.length
  · rw [dif_pos h, dif_pos (show i < (ByteArray.mk ⟨s⟩).size from h)]; rfl
  · rw [dif_neg h, dif_neg (show ¬ i < (ByteArray.mk ⟨s⟩).size from h)]
theorem ba_append (a b : List UInt8) : (ByteArray.mk ⟨a⟩) ++ (ByteArray.mk ⟨b⟩) = ⟨⟨a ++ b⟩⟩ := by
  apply ByteArray.ext; simp
theorem ba_extract (s : List UInt8) (l h : Nat) : (ByteArray.mk ⟨s⟩).extract l h = ⟨⟨(s.drop l).take (h - l)⟩⟩ := by
  apply ByteArray.ext
  apply Array.ext'
  simp [List.extract]
theorem ba_toList (s : List UInt8) : (ByteArray.mk ⟨s⟩).toList = s := ByteArray.toList_mk s

theorem wrap_range (k : IntKind) (n : Int) : k.min ≤ k.wrap n ∧ k.wrap n ≤ k.max := by
  cases k <;> simp only [IntKind.min, IntKind.max, IntKind.wrap, IntKind.signed, IntKind.bits] <;> (try simp) <;> (try split) <;> omega

/-! ### addresses -/
def afieldAddr (P : Program) (s : TypeId) (x : AV) (i : Nat) : Option AV :=
  match P.underlying s with
  | some (.struct fs) => match fs[i]? with
    | some f => if (P.info? f.type).isSome = true ∧ P.cellsOf f.type ≠ 0 then
        match x with
        | .ref b off => some (.ref b (off + f.offset))
        | .eref b sz i c => some (.eref b sz i (c + f.offset))
        | .fref m g => if f.offset ≤ m then some (.fref (m - f.offset) fun c => g (f.offset + c)) else none
        | _ => none
      else none
    | none => none
  | _ => none
def aindexAddr (P : Program) (t : TypeId) (x ix : AV) : Option AV :=
  match ix with
  | .int k i =>
    match P.underlying t, x with
    | some (.array len e), .ref b off => if (P.info? e).isSome = true then (if 0 ≤ i ∧ i < (len : Int) then some (.ref b (off + i.toNat * P.cellsOf e)) else none) else none
    | some (.array len e), .eref b sz j c => if (P.info? e).isSome = true then (if 0 ≤ i ∧ i < (len : Int) then some (.eref b sz j (c + i.toNat * P.cellsOf e)) else none) else none
    | some (.slice e), .row b sz lo n => if (P.info? e).isSome = true ∧ sz = P.cellsOf e then (if 0 ≤ i ∧ i < (n : Int) then some (.eref b sz (lo + i.toNat) 0) else none) else none
    | some (.slice e), .sl sz n f => if (P.info? e).isSome = true ∧ sz = P.cellsOf e then (if 0 ≤ i ∧ i < (n : Int) then some (.fref sz (f i.toNat)) else none) else none
    | _, _ => none
  | _ => none
def apart (P : Program) (t : TypeId) (cs : List AV) (off : Nat) : Option AV :=
  match isAggB P t with
  | some true => if off + P.cellsOf t ≤ cs.length then some (.agg ((cs.drop off).take (P.cellsOf t))) else none
  | some false => cs[off]?
  | none => none
def afield (P : Program) (t : TypeId) (x : AV) (i : Nat) : Option AV :=
  match P.underlying t with
  | some (.struct fs) => match fs[i]?, x with
    | some f, .agg cs => apart P f.type cs f.offset
    | _, _ => none
  | _ => none
def aindex (P : Program) (t : TypeId) (x ix : AV) : Option AV :=
  match ix with
  | .int k i =>
    match P.underlying t, x with
    | some (.array len e), .agg cs => if (P.info? e).isSome = true then (if 0 ≤ i ∧ i < (len : Int) then apart P e cs (i.toNat * P.cellsOf e) else none) else none
    | some .string, .str s => if 0 ≤ i ∧ i < (s.length : Int) then some (.int .u8 (s.getD i.toNat 0).toNat) else none
    | _, _ => none
  | _ => none
/-- Bounds of a slice expression. -/
def abound (dflt : Nat) : Option AV → Option Int
  | none => some dflt
  | some (.int _ i) => some i
  | some _ => none
def aslice (P : Program) (t : TypeId) (x : AV) (lo hi : Option AV) : Option AV :=
  match P.underlying t, x with
  | some .string, .str s => match lo, hi with
    | none, none => some (.str s)
    | some (.int _ l), none => if 0 ≤ l ∧ l ≤ (s.length : Int) then some (.str (s.drop l.toNat)) else none
    | none, some (.int _ h) => if 0 ≤ h ∧ h ≤ (s.length : Int) then some (.str (s.take h.toNat)) else none
    | some (.int _ l), some (.int _ h) => if 0 ≤ h ∧ h ≤ (s.length : Int) then (if 0 ≤ l ∧ l ≤ h then some (.str ((s.drop l.toNat).take (h.toNat - l.toNat))) else none) else none
    | _, _ => none
  | some (.slice e), .row b sz p n => if (P.info? e).isSome = true ∧ sz = P.cellsOf e then match lo, hi with
    | none, none => some (.row b sz p n)
    | some (.int _ l), none => if 0 ≤ l ∧ l ≤ (n : Int) then some (.row b sz (p + l.toNat) (n - l.toNat)) else none
    | none, some (.int _ h) => if 0 ≤ h ∧ h ≤ (n : Int) then some (.row b sz p h.toNat) else none
    | some (.int _ l), some (.int _ h) => if 0 ≤ h ∧ h ≤ (n : Int) then (if 0 ≤ l ∧ l ≤ h then some (.row b sz (p + l.toNat) (h.toNat - l.toNat)) else none) else none
    | _, _ => none else none
  | some (.slice e), .rowc b sz n c => if (P.info? e).isSome = true ∧ sz = P.cellsOf e then match lo, hi with
    | some (.int _ l), some (.int _ h) => if 0 ≤ h ∧ h ≤ (c : Int) then (if 0 ≤ l ∧ l ≤ h then (if h.toNat - l.toNat ≤ bnd then some (.row b sz l.toNat (h.toNat - l.toNat)) else none) else none) else none
    | _, _ => none else none
  | some (.slice e), .nilsl => if (P.info? e).isSome = true then match lo, hi with
    | none, none => some .nilsl
    | some (.int _ l), none => if l = 0 then some .nilsl else none
    | none, some (.int _ h) => if h = 0 then some .nilsl else none
    | some (.int _ l), some (.int _ h) => if h = 0 ∧ l = 0 then some .nilsl else none
    | _, _ => none else none
  | some (.slice e), .sl sz n f => if (P.info? e).isSome = true ∧ sz = P.cellsOf e then match lo, hi with
    | none, none => some (.sl sz n f)
    | some (.int _ l), none => if 0 ≤ l ∧ l ≤ (n : Int) then some (.sl sz (n - l.toNat) fun i => f (l.toNat + i)) else none
    | none, some (.int _ h) => if 0 ≤ h ∧ h ≤ (n : Int) then some (.sl sz h.toNat f) else none
    | some (.int _ l), some (.int _ h) => if 0 ≤ h ∧ h ≤ (n : Int) then (if 0 ≤ l ∧ l ≤ h then some (.sl sz (h.toNat - l.toNat) fun i => f (l.toNat + i)) else none) else none
    | _, _ => none else none
  | _, _ => none
def aextract : AV → Nat → Option AV
  | .tup vs, i => vs[i]?
  | _, _ => none
def anilCheck : AV → Option AV
  | .ref b off => some (.ref b off)
  | .eref b sz i c => some (.eref b sz i c)
  | .fref m f => some (.fref m f)
  | .fn f cap => some (.fn f cap)
  | _ => none

section
variable {P : Program} {X0 : Blk} {σ : Sub} {hp : Hp} {w : World} {X : Blk}
theorem run_underlying {t : TypeId} {d : TypeDesc} (h : P.underlying t = some d) : (underlying t).run P w = .ok d w := by
  simp [underlying, h]
theorem isSome_ne {α : Type} {o : Option α} (h : o.isSome = true) : o ≠ none := by cases o <;> simp_all
theorem afieldAddr_sound {s : TypeId} {x : AV} {i : Nat} {v : Value} {a : AV} (hx : V X w σ x v) (h : afieldAddr P s x i = some a) :
    ∃ u, (Instr.fieldAt s v i).run P w = .ok u w ∧ V X w σ a u := by
  unfold afieldAddr at h
  split at h
  · rename_i fs hu
    split at h
    · rename_i f hf
      split at h
      · rename_i hc
        obtain ⟨hi, hz⟩ := hc
        have hrun : ∀ g o, (Instr.fieldAt s (.pointer (some ⟨g, o, none⟩)) i).run P w = .ok (.pointer (some ⟨g, o + f.offset, none⟩)) w := by
          intro g o
          simp only [Instr.fieldAt, Sem.run_bind, run_underlying hu, Result.andThen_ok, hf]
          simp [Instr.sureAddr, fieldPlace, run_sizeOf f.type (isSome_ne hi), hz, add_none]
        split at h
        · simp only [Option.some.injEq] at h; subst h
          simp only [V] at hx ⊢
          obtain ⟨g, hg, rfl⟩ := hx
          exact ⟨_, hrun _ _, g, hg, rfl⟩
        · simp only [Option.some.injEq] at h; subst h
          simp only [V] at hx ⊢
          obtain ⟨g, hg, rfl⟩ := hx
          exact ⟨_, hrun _ _, g, hg, by rw [Nat.add_assoc]⟩
        · rename_i m g
          split at h
          · simp only [Option.some.injEq] at h; subst h
            simp only [V] at hx ⊢
            obtain ⟨b, off, rfl, h1, h2, h3⟩ := hx
            refine ⟨_, hrun _ _, b, off + f.offset, rfl, h1, h2, fun c hc => ?_⟩
            obtain ⟨u, e1, e2, e3⟩ := h3 (f.offset + c) (by omega)
            exact ⟨u, by rw [Nat.add_assoc]; exact e1, e2, e3⟩
          · simp at h
        · simp at h
      · simp at h
    · simp at h
  · simp at h
theorem aindexAddr_sound {t : TypeId} {x ix : AV} {v u : Value} {a : AV} (hx : V X w σ x v) (hi : V X w σ ix u) (h : aindexAddr P t x ix = some a) :
    ∃ r, (Instr.indexAt t v u).run P w = .ok r w ∧ V X w σ a r := by
  unfold aindexAddr at h
  split at h
  · rename_i k i
    simp only [V] at hi
    obtain ⟨rfl, _⟩ := hi
    split at h
    · rename_i len e b off hu
      split at h
      · rename_i he
        split at h
        · rename_i hb
          simp only [Option.some.injEq] at h; subst h
          simp only [V] at hx ⊢
          obtain ⟨g, hg, rfl⟩ := hx
          refine ⟨.pointer (some ⟨g, off + i.toNat * P.cellsOf e, none⟩), ?_, g, hg, rfl⟩
          simp [Instr.indexAt, asIntOf, run_underlying hu, Instr.sureAddr, hb, run_sizeOf e (isSome_ne he), add_none]
        · simp at h
      · simp at h
    · rename_i len e b sz j c hu
      split at h
      · rename_i he
        split at h
        · rename_i hb
          simp only [Option.some.injEq] at h; subst h
          simp only [V] at hx ⊢
          obtain ⟨g, hg, rfl⟩ := hx
          refine ⟨.pointer (some ⟨g, j * sz + c + i.toNat * P.cellsOf e, none⟩), ?_, g, hg, by rw [Nat.add_assoc]⟩
          simp [Instr.indexAt, asIntOf, run_underlying hu, Instr.sureAddr, hb, run_sizeOf e (isSome_ne he), add_none]
        · simp at h
      · simp at h
    · rename_i e b sz lo n hu
      split at h
      · rename_i he
        obtain ⟨he, rfl⟩ := he
        split at h
        · rename_i hb
          simp only [Option.some.injEq] at h; subst h
          simp only [V] at hx ⊢
          obtain ⟨_, g, o, cap, arr, t', fr, hg, rfl, hnc, ho, _⟩ := hx
          have ho' : o = lo * P.cellsOf e := by rcases ho with ho | ho <;> omega
          subst ho'
          refine ⟨.pointer (some ⟨g, lo * P.cellsOf e + i.toNat * P.cellsOf e, none⟩), ?_, g, hg, by rw [Nat.add_mul, Nat.add_zero]⟩
          simp [Instr.indexAt, asIntOf, run_underlying hu, hb, run_sizeOf e (isSome_ne he), add_none]
        · simp at h
      · simp at h
    · rename_i e sz n f hu
      split at h
      · rename_i he
        obtain ⟨he, rfl⟩ := he
        split at h
        · rename_i hb
          simp only [Option.some.injEq] at h; subst h
          simp only [V] at hx ⊢
          obtain ⟨_, (⟨rfl, hn⟩ | ⟨g, off, cap, rfl, hcap, h1, h2, h3⟩)⟩ := hx
          · omega
          · refine ⟨.pointer (some ⟨g, off + i.toNat * P.cellsOf e, none⟩), ?_, g, _, rfl, h1, h2, fun c hc => ?_⟩
            · simp [Instr.indexAt, asIntOf, run_underlying hu, hb, run_sizeOf e (isSome_ne he), add_none]
            · obtain ⟨u, e1, e2, e3⟩ := h3 i.toNat c (by omega) hc
              exact ⟨u, by rw [Nat.add_assoc]; exact e1, e2, e3⟩
        · simp at h
      · simp at h
    · simp at h
  · simp at h
theorem apart_sound {t : TypeId} {cs : List AV} {vs : Array Value} {off : Nat} {a : AV} (hx : VL X w σ cs vs.toList) (h : apart P t cs off = some a) :
    ∃ r, (part t vs off).run P w = .ok r w ∧ V X w σ a r := by
  have hl := VL_length hx
  unfold apart at h
  split at h
  · rename_i hag
    split at h
    · simp only [Option.some.injEq] at h; subst h
      refine ⟨.agg (vs.extract off (off + P.cellsOf t)), ?_, ?_⟩
      · simp [part, run_isAgg t true hag, run_sizeOf t (info_of_isAgg hag)]
      · simp only [V]
        refine ⟨_, rfl, VL_of_get (by simp at hl ⊢; omega) fun i a u h1 h2 => ?_⟩
        rw [List.getElem?_take] at h1
        split at h1
        · rename_i hi
          rw [List.getElem?_drop] at h1
          obtain ⟨u', e1, e2⟩ := VL_get hx _ _ h1
          have h3 : vs.toList[off + i]? = some u := by
            have : ((vs.toList.drop off).take (P.cellsOf t))[i]? = some u := by simpa [List.extract] using h2
            rw [List.getElem?_take, if_pos hi, List.getElem?_drop] at this
            exact this
          rw [h3] at e1
          simp only [Option.some.injEq] at e1
          subst e1; exact e2
        · simp at h1
    · simp at h
  · rename_i hag
    obtain ⟨u, e1, e2⟩ := VL_get hx _ _ h
    refine ⟨u, ?_, e2⟩
    simp at e1
    simp [part, run_isAgg t false hag, e1]
  · simp at h
theorem afield_sound {t : TypeId} {x : AV} {i : Nat} {v : Value} {a : AV} (hx : V X w σ x v) (h : afield P t x i = some a) :
    ∃ r, (Instr.field t v i).run P w = .ok r w ∧ V X w σ a r := by
  unfold afield at h
  split at h
  · rename_i fs hu
    split at h
    · rename_i f cs hf
      simp only [V] at hx
      obtain ⟨vs, rfl, hv⟩ := hx
      obtain ⟨r, h1, h2⟩ := apart_sound hv h
      refine ⟨r, ?_, h2⟩
      simp [Instr.field, run_underlying hu, hf, asAgg, h1]
    · simp at h
  · simp at h
theorem aindex_sound {t : TypeId} {x ix : AV} {v u : Value} {a : AV} (hx : V X w σ x v) (hi : V X w σ ix u) (h : aindex P t x ix = some a) :
    ∃ r, (Instr.index t v u).run P w = .ok r w ∧ V X w σ a r := by
  unfold aindex at h
  split at h
  · rename_i k i
    simp only [V] at hi
    obtain ⟨rfl, _⟩ := hi
    split at h
    · rename_i len e cs hu
      split at h
      · rename_i he
        split at h
        · rename_i hb
          simp only [V] at hx
          obtain ⟨vs, rfl, hv⟩ := hx
          obtain ⟨r, h1, h2⟩ := apart_sound hv h
          refine ⟨r, ?_, h2⟩
          simp [Instr.index, asIntOf, run_underlying hu, hb, run_sizeOf e (isSome_ne he), h1]
        · simp at h
      · simp at h
    · rename_i s hu
      split at h
      · rename_i hb
        simp only [Option.some.injEq] at h; subst h
        simp only [V] at hx ⊢
        obtain ⟨rfl, _⟩ := hx
        have hlt : i.toNat < s.length := by omega
        refine ⟨.int .u8 (s.getD i.toNat 0).toNat, ?_, rfl, ?_⟩
        · simp only [Instr.index, Sem.run_bind, asIntOf, Sem.run_pure, Result.andThen_ok, run_underlying hu, ba_get, hb.1, if_true]
          simp [hlt]
        · have : (s.getD i.toNat 0).toNat < 256 := UInt8.toNat_lt _
          have e1 : IntKind.min .u8 = 0 := rfl
          have e2 : IntKind.max .u8 = 255 := rfl
          rw [e1, e2]
          omega
      · simp at h
    · simp at h
  · simp at h
theorem aextract_sound {x : AV} {i : Nat} {v : Value} {a : AV} (hx : V X w σ x v) (h : aextract x i = some a) :
    ∃ r, (Instr.extract v i).run P w = .ok r w ∧ V X w σ a r := by
  cases x <;> simp only [aextract] at h <;> try (simp at h; done)
  simp only [V] at hx
  obtain ⟨vs, rfl, hv⟩ := hx
  obtain ⟨u, h1, h2⟩ := VL_get hv _ _ h
  refine ⟨u, ?_, h2⟩
  simp at h1
  simp [Instr.extract, h1]
end
end Go.Ab
namespace Go.Ab
open Go
set_option linter.unusedVariables false
set_option linter.unusedSimpArgs false

/-! ### arithmetic and comparison -/
def abytesLess : List UInt8 → List UInt8 → Bool
  | _, [] => false
  | [], _ :: _ => true
  | a :: x, b :: y => a < b || (a == b && abytesLess x y)
def abits (op : BinOp) (k : IntKind) (x y : Int) : Option Int :=
  match op with
  | .and => some (k.wrap (BitVec.ofInt k.bits x &&& BitVec.ofInt k.bits y).toNat)
  | .or => some (k.wrap (BitVec.ofInt k.bits x ||| BitVec.ofInt k.bits y).toNat)
  | .xor => some (k.wrap (BitVec.ofInt k.bits x ^^^ BitVec.ofInt k.bits y).toNat)
  | .andNot => some (k.wrap (BitVec.ofInt k.bits x &&& ~~~(BitVec.ofInt k.bits y)).toNat)
  | _ => none
def abinInt (op : BinOp) (k : IntKind) (a b : Int) : Option AV :=
  match op with
  | .add => some (.int k (k.wrap (a + b)))
  | .sub => some (.int k (k.wrap (a - b)))
  | .mul => some (.int k (k.wrap (a * b)))
  | .quo => if b ≠ 0 then some (.int k (k.wrap (a.tdiv b))) else none
  | .rem => if b ≠ 0 then some (.int k (a.tmod b)) else none
  | .eql => some (.bool (a == b))
  | .neq => some (.bool (a != b))
  | .lss => some (.bool (decide (a < b)))
  | .leq => some (.bool (decide (a ≤ b)))
  | .gtr => some (.bool (decide (a > b)))
  | .geq => some (.bool (decide (a ≥ b)))
  | .and | .or | .xor | .andNot => (abits op k a b).map (.int k)
  | _ => none
def abinStr (op : BinOp) (a b : List UInt8) : Option AV :=
  match op with
  | .add => if a.length + b.length ≤ bnd then some (.str (a ++ b)) else none
  | .eql => some (.bool (a == b))
  | .neq => some (.bool !(a == b))
  | .lss => some (.bool (abytesLess a b))
  | .leq => some (.bool (abytesLess a b || a == b))
  | .gtr => some (.bool !(abytesLess a b || a == b))
  | .geq => some (.bool !(abytesLess a b))
  | _ => none
/-- Is it nil? -/
def anil : AV → Option Bool
  | .nilp | .nilsl | .nilfn | .nilmap | .niliface => some true
  | .ref .. | .eref .. | .fref .. | .row .. | .fn .. | .map _ | .iface .. => some false
  | .sl _ n _ => if 0 < n then some false else none
  | _ => none
def aeqCell (P : Program) (t : TypeId) (x y : AV) : Option Bool :=
  match P.underlying t, x, y with
  | some .bool, .bool a, .bool b => some (a == b)
  | some (.int _), .int k a, .int k' b => if k = k' then some (a == b) else none
  | some .string, .str a, .str b => some (a == b)
  | _, _, _ => none
/-- Equality of flat structs, field by field. -/
def aeqFields (P : Program) (cs ds : List AV) : List Field → Option Bool
  | [] => some true
  | f :: fs => if f.name = "_" then none else
    match cs[f.offset]?, ds[f.offset]? with
    | some c, some d => match aeqCell P f.type c d, aeqFields P cs ds fs with
      | some b, some r => some (b && r)
      | _, _ => none
    | _, _ => none
def aeqAgg (P : Program) (t : TypeId) (cs ds : List AV) : Option Bool :=
  match P.underlying t with
  | some (.struct fs) => if P.stoodInHeld t = false ∧ P.eqGuardType P.depth t = false then aeqFields P cs ds fs.toList else none
  | _ => none
def anilTest (P : Program) (t : TypeId) (x y : AV) : Option Bool :=
  match P.underlying t, x, y with
  | some (.pointer _), .nilp, .nilp => some true
  | some (.pointer _), .ref .., .nilp | some (.pointer _), .eref .., .nilp | some (.pointer _), .fref .., .nilp => some false
  | some (.slice _), .nilsl, .nilsl => some true
  | some (.slice _), .row .., .nilsl => some false
  | some (.slice _), .sl _ n _, .nilsl => if 0 < n then some false else none
  | some (.map _ _), .nilmap, .nilmap => some true
  | some (.map _ _), .map _, .nilmap => some false
  | some (.func _ _ _), .nilfn, .nilfn => some true
  | some (.func _ _ _), .fn .., .nilfn => some false
  | some (.interface _), .iface .., .niliface => some false
  | some (.pointer te), .ref b off, .ref b' off' => if Nat.beq b b' = true ∧ Nat.beq off off' = true ∧ (P.info? te).isSome = true then some true else none
  | _, _, _ => none
def isBoolT (P : Program) (t : TypeId) : Bool := match P.underlying t with | some .bool => true | _ => false
def abin (P : Program) (op : BinOp) (t : TypeId) (x y : AV) : Option AV :=
  match op, x, y with
  | .shl, .int k a, .int yk b => if 0 ≤ b then some (.int k (k.wrap (a * 2 ^ min b.toNat k.bits))) else none
  | .shr, .int k a, .int yk b => if 0 ≤ b then some (.int k (a.fdiv (2 ^ min b.toNat k.bits))) else none
  | op, .int k a, .int k' b => if k = k' then abinInt op k a b else none
  | op, .str a, .str b => abinStr op a b
  | .eql, .bool a, .bool b => if isBoolT P t = true then some (.bool (a == b)) else none
  | .neq, .bool a, .bool b => if isBoolT P t = true then some (.bool (!(a == b))) else none
  | .eql, .agg a, .agg b => (aeqAgg P t a b).map .bool
  | .neq, .agg a, .agg b => (aeqAgg P t a b).map fun r => .bool (!r)
  | .eql, x, y => (anilTest P t x y).map .bool
  | .neq, x, y => (anilTest P t x y).map fun r => .bool (!r)
  | _, _, _ => none
def aun (op : UnOp) (x : AV) : Option AV :=
  match op, x with
  | .not, .bool b => some (.bool !b)
  | .neg, .int k n => some (.int k (k.wrap (0 - n)))
  | _, _ => none

section
variable {P : Program} {X0 : Blk} {σ : Sub} {hp : Hp} {w : World} {X : Blk}
theorem abytesLess_eq : ∀ a b : List UInt8, Op.bytesLess a b = abytesLess a b
  | a, [] => by cases a <;> simp [Op.bytesLess, abytesLess]
  | [], b :: y => by simp [Op.bytesLess, abytesLess]
  | a :: x, b :: y => by simp [Op.bytesLess, abytesLess, abytesLess_eq x y]
theorem tmod_le_self {a : Int} (b : Int) (h : 0 ≤ a) : 0 ≤ a.tmod b ∧ a.tmod b ≤ a := by
  obtain ⟨n, rfl⟩ := Int.eq_ofNat_of_zero_le h
  have key : ∀ m : Nat, (0 : Int) ≤ (n : Int).tmod m ∧ (n : Int).tmod m ≤ n := fun m => by
    rw [← Int.ofNat_tmod]
    have := Nat.mod_le n m
    omega
  rcases Int.le_total 0 b with hb | hb
  · obtain ⟨m, rfl⟩ := Int.eq_ofNat_of_zero_le hb; exact key m
  · obtain ⟨m, hm⟩ := Int.eq_ofNat_of_zero_le (show 0 ≤ -b by omega)
    have : b = -(m : Int) := by omega
    subst this; rw [Int.tmod_neg]; exact key m
theorem tmod_range {k : IntKind} {a b : Int} (ha : k.min ≤ a ∧ a ≤ k.max) : k.min ≤ a.tmod b ∧ a.tmod b ≤ k.max := by
  have h0 : k.min ≤ 0 ∧ 0 ≤ k.max := by cases k <;> decide
  rcases Int.le_total 0 a with h | h
  · have := tmod_le_self b h
    omega
  · have := tmod_le_self b (a := -a) (by omega)
    rw [Int.neg_tmod] at this
    omega
theorem fdiv_range {k : IntKind} {a : Int} (n : Nat) (ha : k.min ≤ a ∧ a ≤ k.max) : k.min ≤ a.fdiv (2 ^ n) ∧ a.fdiv (2 ^ n) ≤ k.max := by
  have h0 : k.min ≤ 0 ∧ 0 ≤ k.max := by cases k <;> decide
  have hp : (0 : Int) < 2 ^ n := Int.pow_pos (by decide)
  have e : a.fdiv (2 ^ n) = a / 2 ^ n := Int.fdiv_eq_ediv_of_nonneg _ (by omega)
  rw [e]
  rcases Int.le_total 0 a with h | h
  · have h1 : 0 ≤ a / 2 ^ n := Int.ediv_nonneg h (by omega)
    have h2 : a / 2 ^ n ≤ a := Int.ediv_le_self _ h
    omega
  · have h1 : a / 2 ^ n ≤ 0 := by
      have := Int.ediv_le_ediv hp h
      simpa using this
    have h2 : a ≤ a / 2 ^ n := by
      rw [Int.le_ediv_iff_mul_le hp]
      have : a * 2 ^ n ≤ a * 1 := by
        have := Int.mul_le_mul_of_nonneg_left (show (1 : Int) ≤ 2 ^ n by omega) (show 0 ≤ -a by omega)
        rw [Int.neg_mul, Int.neg_mul] at this
        omega
      omega
    omega
theorem eqGuard_plain {op : BinOp} {t : TypeId} {x y : Operand} {a b : Value} (h : ∀ cs, a ≠ .agg cs) (h' : a ≠ .nilIface) : (eqGuard op t x y a b).run P w = .ok () w := by
  cases a <;> first | exact absurd rfl h' | exact absurd rfl (h _) | (unfold eqGuard; split <;> rfl)
theorem V_int {k : IntKind} {n : Int} (h : k.min ≤ n ∧ n ≤ k.max) : V X w σ (.int k n) (.int k n) := by simp only [V]; exact ⟨trivial, h⟩
theorem V_bool (b : Bool) : V X w σ (.bool b) (.bool b) := by simp only [V]
theorem V_str {s : List UInt8} (h : s.length ≤ bnd) : V X w σ (.str s) (.string ⟨⟨s⟩⟩) := by simp only [V]; exact ⟨trivial, h⟩
theorem abinInt_sound {op : BinOp} {k : IntKind} {a b : Int} {t : TypeId} {r : AV} (ha : k.min ≤ a ∧ a ≤ k.max) (h : abinInt op k a b = some r) :
    ∃ u, (binOp op t (.int k a) (.int k b)).run P w = .ok u w ∧ V X w σ r u := by
  cases op <;> simp only [abinInt, abits, Option.map_some, Option.map_none] at h <;> first
    | (cases h; done)
    | (injection h with h; subst h; refine ⟨.int k _, ?_, V_int (wrap_range _ _)⟩; simp [binOp, Op.intArith]; done)
    | (injection h with h; subst h; refine ⟨.bool _, ?_, V_bool _⟩; simp [binOp, Op.intCmp]; done)
    | (injection h with h; subst h; refine ⟨.int k _, ?_, V_int (wrap_range _ _)⟩; simp only [binOp, ne_eq, not_true_eq_false, if_false]; rfl)
    | (split at h
       · rename_i hb
         injection h with h; subst h
         first
         | exact ⟨.int k _, by simp [binOp, Op.intDiv, hb], V_int (wrap_range _ _)⟩
         | exact ⟨.int k _, by simp [binOp, Op.intDiv, hb], V_int (tmod_range ha)⟩
       · cases h)
theorem abinStr_sound {op : BinOp} {a b : List UInt8} {t : TypeId} {r : AV} (ha : a.length ≤ bnd) (hb : b.length ≤ bnd) (h : abinStr op a b = some r) :
    ∃ u, (binOp op t (.string ⟨⟨a⟩⟩) (.string ⟨⟨b⟩⟩)).run P w = .ok u w ∧ V X w σ r u := by
  have hmax : ¬ (((a.length + b.length : Nat) : Int) > IntKind.i64.max) := by
    have e1 : IntKind.max .i64 = 9223372036854775807 := rfl
    rw [e1]; unfold bnd at ha hb; omega
  cases op <;> simp only [abinStr] at h <;> first
    | (cases h; done)
    | (injection h with h; subst h; exact ⟨.bool _, by simp only [binOp, Op.stringOp, ba_toList, abytesLess_eq, Sem.run_pure], V_bool _⟩)
    | (split at h
       · rename_i hab
         injection h with h; subst h
         refine ⟨.string ⟨⟨a ++ b⟩⟩, ?_, V_str (by simpa using hab)⟩
         simp only [binOp, Op.stringOp, ba_size, Sem.run_ite, if_neg hmax, ba_append, Sem.run_pure]
       · cases h)
theorem ba_beq (a b : List UInt8) : ((ByteArray.mk ⟨a⟩) == (ByteArray.mk ⟨b⟩)) = (a == b) := by
  show ByteArray.beq _ _ = _
  simp [ByteArray.beq]
theorem equalIn_cell {d : Nat} {t : TypeId} {x y : AV} {u v : Value} {b : Bool} (hx : V X w σ x u) (hy : V X w σ y v) (h : aeqCell P t x y = some b) :
    (Op.equalIn (d + 1) t u v).run P w = .ok b w := by
  unfold aeqCell at h
  split at h
  · rename_i hu
    simp only [Option.some.injEq] at h; subst h
    simp only [V] at hx hy; subst hx; subst hy
    simp [Op.equalIn, run_underlying hu]
  · rename_i hu
    split at h
    · rename_i hk
      simp only [Option.some.injEq] at h; subst h
      subst hk
      simp only [V] at hx hy; obtain ⟨rfl, _⟩ := hx; obtain ⟨rfl, _⟩ := hy
      simp [Op.equalIn, run_underlying hu]
    · simp at h
  · rename_i a c hu
    simp only [Option.some.injEq] at h; subst h
    simp only [V] at hx hy; obtain ⟨rfl, _⟩ := hx; obtain ⟨rfl, _⟩ := hy
    simp only [Op.equalIn, Sem.run_bind, run_underlying hu, Result.andThen_ok, Sem.run_pure, ba_beq]
  · simp at h
theorem aun_sound {op : UnOp} {x : AV} {v : Value} {r : AV} (hx : V X w σ x v) (h : aun op x = some r) : ∃ u, (Op.unary op v).run P w = .ok u w ∧ V X w σ r u := by
  unfold aun at h
  split at h
  · simp only [Option.some.injEq] at h; subst h
    simp only [V] at hx; subst hx
    exact ⟨_, rfl, V_bool _⟩
  · simp only [Option.some.injEq] at h; subst h
    simp only [V] at hx; obtain ⟨rfl, _⟩ := hx
    exact ⟨_, rfl, V_int (wrap_range _ _)⟩
  · simp at h
theorem anilTest_core {d : Nat} {t : TypeId} {x y : AV} {u v : Value} {b : Bool} (hx : V X w σ x u) (hy : V X w σ y v) (h : anilTest P t x y = some b) :
    (Op.equalIn (d + 1) t u v).run P w = .ok b w := by
  unfold anilTest at h
  split at h
  · rename_i hu; injection h with h; subst h; simp only [V] at hx hy; subst hy; subst hx; simp only [Op.equalIn, Sem.run_bind, run_underlying hu, Result.andThen_ok, Sem.run_pure, Option.isNone]
  · rename_i hu; injection h with h; subst h; simp only [V] at hx hy; subst hy; obtain ⟨g, _, rfl⟩ := hx; simp only [Op.equalIn, Sem.run_bind, run_underlying hu, Result.andThen_ok, Sem.run_pure, Option.isNone]
  · rename_i hu; injection h with h; subst h; simp only [V] at hx hy; subst hy; obtain ⟨g, _, rfl⟩ := hx; simp only [Op.equalIn, Sem.run_bind, run_underlying hu, Result.andThen_ok, Sem.run_pure, Option.isNone]
  · rename_i hu; injection h with h; subst h; simp only [V] at hx hy; subst hy; obtain ⟨g, off, rfl, _⟩ := hx; simp only [Op.equalIn, Sem.run_bind, run_underlying hu, Result.andThen_ok, Sem.run_pure, Option.isNone]
  · rename_i hu; injection h with h; subst h; simp only [V] at hx hy; subst hy; subst hx; simp only [Op.equalIn, Sem.run_bind, run_underlying hu, Result.andThen_ok, Sem.run_pure, Option.isNone]
  · rename_i hu; injection h with h; subst h; simp only [V] at hx hy; subst hy; obtain ⟨_, g, o, cap, arr, t', fr, _, rfl, _⟩ := hx; simp only [Op.equalIn, Sem.run_bind, run_underlying hu, Result.andThen_ok, Sem.run_pure, Option.isNone]
  · rename_i hu
    simp only [V] at hx hy; subst hy
    split at h
    · injection h with h; subst h
      rcases hx.2 with ⟨rfl, hn⟩ | ⟨g, off, cap, rfl, _⟩
      · omega
      · simp only [Op.equalIn, Sem.run_bind, run_underlying hu, Result.andThen_ok, Sem.run_pure, Option.isNone]
    · cases h
  · rename_i hu; injection h with h; subst h; simp only [V] at hx hy; subst hy; subst hx; simp only [Op.equalIn, Sem.run_bind, run_underlying hu, Result.andThen_ok, Sem.run_pure, Option.isNone]
  · rename_i hu; injection h with h; subst h; simp only [V] at hx hy; subst hy; obtain ⟨g, _, rfl⟩ := hx; simp only [Op.equalIn, Sem.run_bind, run_underlying hu, Result.andThen_ok, Sem.run_pure, Option.isNone]
  · rename_i hu; injection h with h; subst h; simp only [V] at hx hy; subst hy; subst hx; simp only [Op.equalIn, Sem.run_bind, run_underlying hu, Result.andThen_ok, Sem.run_pure, Option.isNone]
  · rename_i hu; injection h with h; subst h; simp only [V] at hx hy; subst hy; obtain ⟨vs, rfl, _⟩ := hx; simp only [Op.equalIn, Sem.run_bind, run_underlying hu, Result.andThen_ok, Sem.run_pure, Option.isNone]
  · rename_i hu; injection h with h; subst h; simp only [V] at hx hy; subst hy; obtain ⟨u', rfl, _⟩ := hx; simp only [Op.equalIn, Sem.run_bind, run_underlying hu, Result.andThen_ok, Sem.run_pure, Option.isNone]
  · rename_i te b1 o1 b2 o2 hu
    split at h
    · rename_i hc
      injection h with h; subst h
      obtain ⟨c1, c2, c3⟩ := hc
      obtain rfl := Nat.eq_of_beq_eq_true c1
      obtain rfl := Nat.eq_of_beq_eq_true c2
      simp only [V] at hx hy
      obtain ⟨g, hg, rfl⟩ := hx
      obtain ⟨g', hg', rfl⟩ := hy
      rw [hg] at hg'; obtain rfl := Option.some.inj hg'
      obtain ⟨j, hj⟩ := Option.isSome_iff_exists.1 c3
      simp [Op.equalIn, run_underlying hu, sizeOf, typeInfo, hj, run_sameAddr_same]
    · cases h
  · cases h
theorem anilTest_sound {t : TypeId} {x y : AV} {u v : Value} {b : Bool} (hx : V X w σ x u) (hy : V X w σ y v) (h : anilTest P t x y = some b) :
    (Op.equal t u v).run P w = .ok b w := anilTest_core (d := 9999) hx hy h
end
end Go.Ab
namespace Go.Ab
open Go
set_option linter.unusedVariables false
set_option linter.unusedSimpArgs false

section
variable {P : Program} {X0 : Blk} {σ : Sub} {hp : Hp} {w : World} {X : Blk}

/-- An optional operand. -/
def VO (X : Blk) (w : World) (σ : Sub) : Option AV → Option Value → Prop
  | none, v => v = none
  | some a, v => ∃ u, v = some u ∧ V X w σ a u

/-- The bounds that come out. -/
def Bnd (d : Nat) (lv : Option Value) (l : Nat) : Prop := (lv = none ∧ l = d) ∨ ∃ k, lv = some (.int k (l : Int))

theorem run_sliceBounds {is : Bool} {len cap l h : Nat} {lv hv : Option Value} (hl : Bnd 0 lv l) (hh : Bnd len hv h) (h1 : l ≤ h) (h2 : h ≤ cap) :
    (Instr.sliceBounds is len cap lv hv none).run P w = .ok (l, h, cap) w := by
  have key : ∀ (k : IntKind) (n y : Nat) (c : BoundsCode), n ≤ y → (Instr.sliceBound (.int k (n : Int)) y c).run P w = .ok n w := by
    intro k n y c hny
    simp [Instr.sliceBound, asIntOf, hny]
  unfold Instr.sliceBounds
  rcases hl with ⟨rfl, rfl⟩ | ⟨k, rfl⟩ <;> rcases hh with ⟨rfl, rfl⟩ | ⟨k', rfl⟩ <;> simp [key, h1, h2]
theorem run_slice_str {t : TypeId} (hu : P.underlying t = some .string) {s : List UInt8} {l h : Nat} {lv hv : Option Value} (hl : Bnd 0 lv l) (hh : Bnd s.length hv h) (h1 : l ≤ h) (h2 : h ≤ s.length) :
    (Instr.sliceAt t (.string ⟨⟨s⟩⟩) lv hv none).run P w = .ok (.string ⟨⟨(s.drop l).take (h - l)⟩⟩) w := by
  have := run_sliceBounds (P := P) (w := w) (is := false) (cap := s.length) hl hh h1 h2
  simp only [Instr.sliceAt, Instr.slice, Sem.run_bind, run_underlying hu, Result.andThen_ok, Option.isSome, Bool.false_eq_true, if_false, ba_size, this, Sem.run_pure, ba_extract]
theorem run_slice_row {t e : TypeId} (hu : P.underlying t = some (.slice e)) (he : P.info? e ≠ none) {a : Option Addr} {len cap l h : Nat} {lv hv : Option Value} (hl : Bnd 0 lv l) (hh : Bnd len hv h) (h1 : l ≤ h) (h2 : h ≤ cap) :
    (Instr.sliceAt t (.slice a len cap) lv hv none).run P w = .ok (.slice (if cap = l then a else a.map (·.add (l * P.cellsOf e))) (h - l) (cap - l)) w := by
  have := run_sliceBounds (P := P) (w := w) (is := true) hl hh h1 h2
  simp only [Instr.sliceAt, Instr.slice, Sem.run_bind, run_underlying hu, Result.andThen_ok, this, Sem.run_pure, run_sizeOf e he]

theorem slice_row_V {b sz p n l h : Nat} {a : Option Addr} {len cap : Nat} (hv : V X w σ (.row b sz p n) (.slice a len cap)) (h1 : l ≤ h) (h2 : h ≤ n) :
    len = n ∧ h ≤ cap ∧ V X w σ (.row b sz (p + l) (h - l)) (.slice (if cap = l then a else a.map (·.add (l * sz))) (h - l) (cap - l)) := by
  simp only [V] at hv ⊢
  obtain ⟨hb, g, o, cap', arr, t, fr, hg, e, hnc, ho, hheap, hsz⟩ := hv
  simp only [Value.slice.injEq] at e
  obtain ⟨rfl, rfl, rfl⟩ := e
  refine ⟨rfl, by omega, by omega, g, (if cap = l then o else o + l * sz), cap - l, arr, t, fr, hg, ?_, by omega, ?_, hheap, ?_⟩
  · by_cases hc : cap = l <;> simp [hc, add_none]
  · by_cases hc : cap = l
    · right; omega
    · left; rw [if_neg hc, Nat.add_mul]; rcases ho with ho | ho <;> omega
  · have : p + l + (cap - l) = p + cap := by omega
    rw [this]; exact hsz
theorem slice_rowc_V {b sz n c l h : Nat} {a : Option Addr} {len cap : Nat} (hv : V X w σ (.rowc b sz n c) (.slice a len cap)) (h1 : l ≤ h) (h2 : h ≤ c) (h3 : h - l ≤ bnd) :
    len = n ∧ h ≤ cap ∧ V X w σ (.row b sz l (h - l)) (.slice (if cap = l then a else a.map (·.add (l * sz))) (h - l) (cap - l)) := by
  simp only [V] at hv ⊢
  obtain ⟨hb, g, o, cap', arr, t, fr, hg, e, hnc, hcc, ho, hheap, hsz⟩ := hv
  simp only [Value.slice.injEq] at e
  obtain ⟨rfl, rfl, rfl⟩ := e
  refine ⟨rfl, by omega, h3, g, (if cap = l then o else o + l * sz), cap - l, arr, t, fr, hg, ?_, by omega, ?_, hheap, ?_⟩
  · by_cases hc : cap = l <;> simp [hc, add_none]
  · by_cases hc : cap = l
    · right; omega
    · left; rw [if_neg hc]; rcases ho with ho | ho <;> omega
  · have : l + (cap - l) = cap := by omega
    rw [this]; exact hsz
theorem slice_sl_V {sz n l h : Nat} {f : Nat → Nat → AV} {a : Option Addr} {len cap : Nat} (hv : V X w σ (.sl sz n f) (.slice a len cap)) (h1 : l ≤ h) (h2 : h ≤ n) :
    len = n ∧ h ≤ cap ∧ V X w σ (.sl sz (h - l) fun i => f (l + i)) (.slice (if cap = l then a else a.map (·.add (l * sz))) (h - l) (cap - l)) := by
  simp only [V] at hv ⊢
  obtain ⟨hb, hv⟩ := hv
  rcases hv with ⟨e, hn⟩ | ⟨g, off, cap', e, hnc, hg, hX, hc⟩
  · simp only [Value.slice.injEq] at e
    obtain ⟨rfl, rfl, rfl⟩ := e
    refine ⟨hn.symm, by omega, by omega, .inl ⟨?_, by omega⟩⟩
    have : l = 0 := by omega
    have : h = 0 := by omega
    subst_vars; rfl
  · simp only [Value.slice.injEq] at e
    obtain ⟨rfl, rfl, rfl⟩ := e
    refine ⟨rfl, by omega, by omega, .inr ⟨g, (if cap = l then off else off + l * sz), cap - l, ?_, by omega, hg, hX, fun i c hi hc' => ?_⟩⟩
    · by_cases hc : cap = l <;> simp [hc, add_none]
    · obtain ⟨u, e1, e2, e3⟩ := hc (l + i) c (by omega) hc'
      refine ⟨u, ?_, e2, e3⟩
      rw [if_neg (by omega), ← e1]
      congr 2
      rw [Nat.add_mul]; omega
theorem sl_f_zero {sz n : Nat} {f : Nat → Nat → AV} {v : Value} (h : V X w σ (.sl sz n fun i => f (0 + i)) v) : V X w σ (.sl sz n f) v := by
  simpa only [Nat.zero_add] using h

theorem aslice_sound {t : TypeId} {x : AV} {lo hi : Option AV} {v : Value} {lv hv : Option Value} {a : AV} (hx : V X w σ x v) (hlo : VO X w σ lo lv) (hhi : VO X w σ hi hv) (h : aslice P t x lo hi = some a) :
    ∃ r, (Instr.sliceAt t v lv hv none).run P w = .ok r w ∧ V X w σ a r := by
  have intB : ∀ {k : IntKind} {i : Int} {ov : Option Value} {d : Nat}, VO X w σ (some (.int k i)) ov → 0 ≤ i → Bnd d ov i.toNat := by
    intro k i ov d h h0
    obtain ⟨u, rfl, hu⟩ := h
    simp only [V] at hu
    obtain ⟨rfl, _⟩ := hu
    exact .inr ⟨k, by rw [Int.toNat_of_nonneg h0]⟩
  have noB : ∀ {ov : Option Value} {d : Nat}, VO X w σ none ov → Bnd d ov d := fun h => .inl ⟨h, rfl⟩
  unfold aslice at h
  split at h
  · rename_i s hu
    simp only [V] at hx
    obtain ⟨rfl, hlen⟩ := hx
    split at h
    · injection h with h; subst h
      have := run_slice_str (P := P) (w := w) (s := s) hu (noB hlo) (noB hhi) (Nat.zero_le _) (Nat.le_refl _)
      exact ⟨_, this, by simpa using V_str hlen⟩
    · rename_i k l
      split at h
      · rename_i hb
        injection h with h; subst h
        have := run_slice_str (P := P) (w := w) (s := s) hu (intB hlo hb.1) (noB hhi) (by omega) (Nat.le_refl _)
        refine ⟨_, this, ?_⟩
        rw [List.take_of_length_le (by simp)]
        exact V_str (by simp; omega)
      · cases h
    · rename_i k q
      split at h
      · rename_i hb
        injection h with h; subst h
        have := run_slice_str (P := P) (w := w) (s := s) hu (noB hlo) (intB hhi hb.1) (Nat.zero_le _) (by omega)
        refine ⟨_, this, ?_⟩
        simp only [List.drop_zero, Nat.sub_zero]
        exact V_str (by simp; omega)
      · cases h
    · rename_i k l k' q
      split at h
      · rename_i hb
        split at h
        · rename_i hb2
          injection h with h; subst h
          have := run_slice_str (P := P) (w := w) (s := s) hu (intB hlo hb2.1) (intB hhi hb.1) (by omega) (by omega)
          exact ⟨_, this, V_str (by simp; omega)⟩
        · cases h
      · cases h
    · cases h
  · rename_i e b sz p n hu
    split at h
    · rename_i hc
      obtain ⟨he, rfl⟩ := hc
      have hx' := hx
      simp only [V] at hx'
      obtain ⟨_, g, o, cap, arr, t', fr, _, rfl, hnc, _⟩ := hx'
      split at h
      · injection h with h; subst h
        have hv' := slice_row_V hx (Nat.zero_le n) (Nat.le_refl n)
        exact ⟨_, run_slice_row (P := P) (w := w) hu (isSome_ne he) (noB hlo) (noB hhi) (Nat.zero_le _) (by omega), by simpa using hv'.2.2⟩
      · rename_i k l
        split at h
        · rename_i hb
          injection h with h; subst h
          have hv' := slice_row_V hx (l := l.toNat) (h := n) (by omega) (Nat.le_refl n)
          exact ⟨_, run_slice_row (P := P) (w := w) hu (isSome_ne he) (intB hlo hb.1) (noB hhi) (by omega) (by omega), hv'.2.2⟩
        · cases h
      · rename_i k q
        split at h
        · rename_i hb
          injection h with h; subst h
          have hv' := slice_row_V hx (l := 0) (h := q.toNat) (by omega) (by omega)
          exact ⟨_, run_slice_row (P := P) (w := w) hu (isSome_ne he) (noB hlo) (intB hhi hb.1) (by omega) (by omega), by simpa using hv'.2.2⟩
        · cases h
      · rename_i k l k' q
        split at h
        · rename_i hb
          split at h
          · rename_i hb2
            injection h with h; subst h
            have hv' := slice_row_V hx (l := l.toNat) (h := q.toNat) (by omega) (by omega)
            exact ⟨_, run_slice_row (P := P) (w := w) hu (isSome_ne he) (intB hlo hb2.1) (intB hhi hb.1) (by omega) (by omega), hv'.2.2⟩
          · cases h
        · cases h
      · cases h
    · cases h
  · rename_i e b sz n c hu
    split at h
    · rename_i hc
      obtain ⟨he, rfl⟩ := hc
      have hx' := hx
      simp only [V] at hx'
      obtain ⟨_, g, o, cap, arr, t', fr, _, rfl, hnc, hcc, _⟩ := hx'
      split at h
      · rename_i k l k' q
        split at h
        · rename_i hb
          split at h
          · rename_i hb2
            split at h
            · rename_i hb3
              injection h with h; subst h
              have hv' := slice_rowc_V hx (l := l.toNat) (h := q.toNat) (by omega) (by omega) hb3
              exact ⟨_, run_slice_row (P := P) (w := w) hu (isSome_ne he) (intB hlo hb2.1) (intB hhi hb.1) (by omega) (by omega), hv'.2.2⟩
            · cases h
          · cases h
        · cases h
      · cases h
    · cases h
  · rename_i e hu
    split at h
    · rename_i he
      simp only [V] at hx
      subst hx
      split at h
      · injection h with h; subst h
        refine ⟨_, run_slice_row (P := P) (w := w) hu (isSome_ne he) (noB hlo) (noB hhi) (Nat.zero_le _) (Nat.le_refl _), ?_⟩
        simp only [V]; rfl
      · rename_i k l
        split at h
        · rename_i hb
          injection h with h; subst h
          refine ⟨_, run_slice_row (P := P) (w := w) hu (isSome_ne he) (intB hlo (by omega)) (noB hhi) (by omega) (Nat.le_refl _), ?_⟩
          subst hb
          simp only [V]; rfl
        · cases h
      · rename_i k q
        split at h
        · rename_i hb
          injection h with h; subst h
          refine ⟨_, run_slice_row (P := P) (w := w) hu (isSome_ne he) (noB hlo) (intB hhi (by omega)) (by omega) (by omega), ?_⟩
          subst hb
          simp only [V]; rfl
        · cases h
      · rename_i k l k' q
        split at h
        · rename_i hb
          injection h with h; subst h
          obtain ⟨hb1, hb2⟩ := hb
          refine ⟨_, run_slice_row (P := P) (w := w) hu (isSome_ne he) (intB hlo (by omega)) (intB hhi (by omega)) (by omega) (by omega), ?_⟩
          subst hb1 hb2
          simp only [V]; rfl
        · cases h
      · cases h
    · cases h
  · rename_i e sz n f hu
    split at h
    · rename_i hc
      obtain ⟨he, rfl⟩ := hc
      obtain ⟨ad, cap, rfl, hnc⟩ : ∃ ad cap, v = .slice ad n cap ∧ n ≤ cap := by
        simp only [V] at hx
        obtain ⟨_, (⟨rfl, hn⟩ | ⟨g, off, cap, rfl, hnc, _⟩)⟩ := hx
        · subst hn; exact ⟨none, 0, rfl, Nat.le_refl _⟩
        · exact ⟨_, cap, rfl, hnc⟩
      split at h
      · injection h with h; subst h
        have hv' := slice_sl_V hx (Nat.zero_le n) (Nat.le_refl n)
        exact ⟨_, run_slice_row (P := P) (w := w) hu (isSome_ne he) (noB hlo) (noB hhi) (Nat.zero_le _) (by omega), sl_f_zero (by simpa only [Nat.sub_zero] using hv'.2.2)⟩
      · rename_i k l
        split at h
        · rename_i hb
          injection h with h; subst h
          have hv' := slice_sl_V hx (l := l.toNat) (h := n) (by omega) (Nat.le_refl n)
          exact ⟨_, run_slice_row (P := P) (w := w) hu (isSome_ne he) (intB hlo hb.1) (noB hhi) (by omega) (by omega), hv'.2.2⟩
        · cases h
      · rename_i k q
        split at h
        · rename_i hb
          injection h with h; subst h
          have hv' := slice_sl_V hx (l := 0) (h := q.toNat) (by omega) (by omega)
          exact ⟨_, run_slice_row (P := P) (w := w) hu (isSome_ne he) (noB hlo) (intB hhi hb.1) (by omega) (by omega), sl_f_zero (by simpa only [Nat.sub_zero] using hv'.2.2)⟩
        · cases h
      · rename_i k l k' q
        split at h
        · rename_i hb
          split at h
          · rename_i hb2
            injection h with h; subst h
            have hv' := slice_sl_V hx (l := l.toNat) (h := q.toNat) (by omega) (by omega)
            exact ⟨_, run_slice_row (P := P) (w := w) hu (isSome_ne he) (intB hlo hb2.1) (intB hhi hb.1) (by omega) (by omega), hv'.2.2⟩
          · cases h
        · cases h
      · cases h
    · cases h
  · cases h

/-- A slice whose room is told: only its bounds are looked at. -/
def aslice3 (P : Program) (t : TypeId) (x : AV) (lo hi : Option AV) (mx : AV) : Option AV :=
  match P.underlying t, x, lo, hi, mx with
  | some (.slice e), .row b sz p n, some (.int _ l), some (.int _ h), .int _ m => if (P.info? e).isSome = true ∧ (0 ≤ l ∧ l ≤ h ∧ h ≤ m ∧ m ≤ (n : Int)) then some .junk else none
  | _, _, _, _, _ => none
theorem run_sliceBounds3 {is : Bool} {len cap l h m : Nat} {k1 k2 k3 : IntKind} (h1 : l ≤ h) (h2 : h ≤ m) (h3 : m ≤ cap) :
    (Instr.sliceBounds is len cap (some (.int k1 (l : Int))) (some (.int k2 (h : Int))) (some (.int k3 (m : Int)))).run P w = .ok (l, h, m) w := by
  have key : ∀ (k : IntKind) (n y : Nat) (c : BoundsCode), n ≤ y → (Instr.sliceBound (.int k (n : Int)) y c).run P w = .ok n w := by
    intro k n y c hny
    simp [Instr.sliceBound, asIntOf, hny]
  unfold Instr.sliceBounds
  simp [key, h1, h2, h3]
theorem aslice3_sound {t : TypeId} {x mx a : AV} {lo hi : Option AV} {v mv : Value} {lv hv : Option Value} (hx : V X w σ x v) (hlo : VO X w σ lo lv) (hhi : VO X w σ hi hv) (hm : V X w σ mx mv) (h : aslice3 P t x lo hi mx = some a) :
    ∃ u, (Instr.sliceAt t v lv hv (some mv)).run P w = .ok u w ∧ V X w σ a u := by
  unfold aslice3 at h
  split at h
  · rename_i e b sz p n k1 l k2 q k3 m hu
    split at h
    · rename_i hc
      obtain ⟨he, h0, h1, h2, h3⟩ := hc
      injection h with h; subst h
      simp only [V] at hx
      obtain ⟨hb, g, o, cap, arr, t', fr, hg, rfl, hnc, ho, hheap, hsz⟩ := hx
      obtain ⟨u1, rfl, hu1⟩ := hlo
      obtain ⟨u2, rfl, hu2⟩ := hhi
      simp only [V] at hu1 hu2 hm
      obtain ⟨rfl, _⟩ := hu1
      obtain ⟨rfl, _⟩ := hu2
      obtain ⟨rfl, _⟩ := hm
      obtain ⟨l', rfl⟩ := Int.eq_ofNat_of_zero_le h0
      obtain ⟨q', rfl⟩ := Int.eq_ofNat_of_zero_le (by omega : 0 ≤ q)
      obtain ⟨m', rfl⟩ := Int.eq_ofNat_of_zero_le (by omega : 0 ≤ m)
      have hbd := run_sliceBounds3 (P := P) (w := w) (is := true) (len := n) (cap := cap) (l := l') (h := q') (m := m') (k1 := k1) (k2 := k2) (k3 := k3) (by omega) (by omega) (by omega)
      have hrun := (show (Instr.sliceAt t (Value.slice (some { block := g, off := o }) n cap) (some (Value.int k1 ↑l')) (some (Value.int k2 ↑q')) (some (Value.int k3 ↑m'))).run P w = .ok (.slice (if m' = l' then some ⟨g, o, none⟩ else (some (⟨g, o, none⟩ : Addr)).map (·.add (l' * P.cellsOf e))) (q' - l') (m' - l')) w by
        simp only [Instr.sliceAt, Instr.slice, Sem.run_bind, run_underlying hu, Result.andThen_ok, hbd, Sem.run_pure, run_sizeOf e (isSome_ne he)])
      exact ⟨_, hrun, by simp only [V]⟩
    · cases h
  · cases h
end
end Go.Ab
namespace Go.Ab
open Go
set_option linter.unusedVariables false
set_option linter.unusedSimpArgs false


section
variable {P : Program} {X0 : Blk} {σ : Sub} {hp : Hp} {w : World} {X : Blk}

theorem aeqFields_sound {d : Nat} {cs ds : List AV} {xs ys : Array Value} (hx : VL X w σ cs xs.toList) (hy : VL X w σ ds ys.toList) :
    ∀ (fs : List Field) (b : Bool), aeqFields P cs ds fs = some b → (Op.eqFields (d + 1) xs ys fs).run P w = .ok b w
  | [], b, h => by simp only [aeqFields, Option.some.injEq] at h; subst h; simp [Op.eqFields]
  | f :: fs, b, h => by
    simp only [aeqFields] at h
    split at h
    · cases h
    · rename_i hn
      split at h
      · rename_i c e hc he
        split at h
        · rename_i b1 r h1 h2
          injection h with h; subst h
          have ih := aeqFields_sound (d := d) hx hy fs r h2
          obtain ⟨u, e1, e2⟩ := VL_get hx _ _ hc
          obtain ⟨v, e3, e4⟩ := VL_get hy _ _ he
          have heq := equalIn_cell (d := d) e2 e4 h1
          have hag : isAggB P f.type = some false := by
            unfold aeqCell at h1
            split at h1
            · rename_i hu; simp [isAggB, hu]
            · rename_i hu; simp [isAggB, hu]
            · rename_i hu; simp [isAggB, hu]
            · cases h1
          have hp1 : (part f.type xs f.offset).run P w = .ok u w := by
            simp only [Array.getElem?_toList] at e1
            simp [part, run_isAgg _ _ hag, e1]
          have hp2 : (part f.type ys f.offset).run P w = .ok v w := by
            simp only [Array.getElem?_toList] at e3
            simp [part, run_isAgg _ _ hag, e3]
          simp only [Op.eqFields, Sem.run_bind, hp1, hp2, Result.andThen_ok, heq, Sem.run_ite]
          rw [if_pos (by simpa using hn)]
          cases b1
          · simp
          · simp [ih]
        · cases h
      · cases h
theorem aeqAgg_sound {d : Nat} {t : TypeId} {cs ds : List AV} {xs ys : Array Value} {b : Bool} (hx : VL X w σ cs xs.toList) (hy : VL X w σ ds ys.toList) (h : aeqAgg P t cs ds = some b) :
    (Op.equalIn (d + 1 + 1) t (.agg xs) (.agg ys)).run P w = .ok b w ∧ P.eqGuardType P.depth t = false := by
  unfold aeqAgg at h
  split at h
  · rename_i fs hu
    split at h
    · rename_i hc
      have hf : P.fieldsOf t = fs := by simp [Program.fieldsOf, hu]
      refine ⟨?_, hc.2⟩
      rw [run_equalIn_struct w (d + 1) t xs ys (by rw [hf]; exact hu) hc.1, hf]
      exact aeqFields_sound hx hy _ _ h
    · cases h
  · cases h
theorem eqGuard_other {op : BinOp} {t : TypeId} {x y : Operand} {a b : Value} (h : op ≠ .eql) (h' : op ≠ .neq) : (eqGuard op t x y a b).run P w = .ok () w := by
  cases op <;> first | exact absurd rfl h | exact absurd rfl h' | rfl
theorem isBoolT_iff {t : TypeId} (h : isBoolT P t = true) : P.underlying t = some .bool := by
  unfold isBoolT at h; split at h <;> simp_all
/-- A value that '==' compares by its type alone, and that asks for no guard. -/
def plainV : Value → Bool
  | .bool _ | .pointer _ | .slice .. | .map _ | .chan _ | .func .. | .nilFunc | .iface .. => true
  | _ => false
theorem binOp_eql {t : TypeId} {u v : Value} (h : plainV u = true) : (binOp .eql t u v).run P w = ((Op.equal t u v).run P w).andThen (fun r w' => .ok (.bool r) w') := by
  cases u <;> simp only [plainV] at h <;> first | (cases h; done) | (simp [binOp])
theorem binOp_neq {t : TypeId} {u v : Value} (h : plainV u = true) : (binOp .neq t u v).run P w = ((Op.equal t u v).run P w).andThen (fun r w' => .ok (.bool (!r)) w') := by
  cases u <;> simp only [plainV] at h <;> first | (cases h; done) | (simp [binOp])
theorem eqGuard_plainV {op : BinOp} {t : TypeId} {x y : Operand} {a b : Value} (h : plainV a = true) : (eqGuard op t x y a b).run P w = .ok () w :=
  eqGuard_plain (by rintro cs rfl; cases h) (by rintro rfl; cases h)
theorem anilTest_plain {t : TypeId} {x y : AV} {b : Bool} (h : anilTest P t x y = some b) {u : Value} (hx : V X w σ x u) : plainV u = true := by
  unfold anilTest at h
  split at h
  · simp only [V] at hx; subst hx; rfl
  · simp only [V] at hx; obtain ⟨g, _, rfl⟩ := hx; rfl
  · simp only [V] at hx; obtain ⟨g, _, rfl⟩ := hx; rfl
  · simp only [V] at hx; obtain ⟨g, off, rfl, _⟩ := hx; rfl
  · simp only [V] at hx; subst hx; rfl
  · simp only [V] at hx; obtain ⟨_, g, o, cap, arr, t', fr, _, rfl, _⟩ := hx; rfl
  · simp only [V] at hx; rcases hx.2 with ⟨rfl, _⟩ | ⟨g, off, cap, rfl, _⟩ <;> rfl
  · simp only [V] at hx; subst hx; rfl
  · simp only [V] at hx; obtain ⟨g, _, rfl⟩ := hx; rfl
  · simp only [V] at hx; subst hx; rfl
  · simp only [V] at hx; obtain ⟨vs, rfl, _⟩ := hx; rfl
  · simp only [V] at hx; obtain ⟨u', rfl, _⟩ := hx; rfl
  · split at h
    · simp only [V] at hx; obtain ⟨g, _, rfl⟩ := hx; rfl
    · cases h
  · cases h
/-- A binary operation, as a whole. -/
theorem abin_sound {op : BinOp} {t : TypeId} {x y : AV} {ox oy : Operand} {u v : Value} {r : AV} (hx : V X w σ x u) (hy : V X w σ y v) (h : abin P op t x y = some r) :
    ∃ z, (do eqGuard op t ox oy u v; binOp op t u v : Sem Value).run P w = .ok z w ∧ V X w σ r z := by
  have nilCase : ∀ (b : Bool), anilTest P t x y = some b →
      (∃ z, (do eqGuard .eql t ox oy u v; binOp .eql t u v : Sem Value).run P w = .ok z w ∧ V X w σ (.bool b) z) ∧
      (∃ z, (do eqGuard .neq t ox oy u v; binOp .neq t u v : Sem Value).run P w = .ok z w ∧ V X w σ (.bool (!b)) z) := by
    intro b hb
    have hp := anilTest_plain hb hx
    have he := anilTest_sound hx hy hb
    constructor
    · refine ⟨.bool b, ?_, V_bool _⟩
      rw [Sem.run_bind, eqGuard_plainV hp, Result.andThen_ok, binOp_eql hp, he]; rfl
    · refine ⟨.bool (!b), ?_, V_bool _⟩
      rw [Sem.run_bind, eqGuard_plainV hp, Result.andThen_ok, binOp_neq hp, he]; rfl
  unfold abin at h
  split at h
  · split at h
    · rename_i k a yk b hb
      injection h with h; subst h
      simp only [V] at hx hy; obtain ⟨rfl, _⟩ := hx; obtain ⟨rfl, _⟩ := hy
      refine ⟨.int k _, ?_, V_int (wrap_range _ _)⟩
      rw [Sem.run_bind, eqGuard_other (by simp) (by simp), Result.andThen_ok]
      simp only [binOp, Op.shift]
      rw [if_neg (by omega)]; rfl
    · cases h
  · split at h
    · rename_i k a yk b hb
      injection h with h; subst h
      simp only [V] at hx hy; obtain ⟨rfl, ha⟩ := hx; obtain ⟨rfl, _⟩ := hy
      refine ⟨.int k _, ?_, V_int (fdiv_range _ ha)⟩
      rw [Sem.run_bind, eqGuard_other (by simp) (by simp), Result.andThen_ok]
      simp only [binOp, Op.shift]
      rw [if_neg (by omega)]; rfl
    · cases h
  · split at h
    · rename_i hk
      subst hk
      simp only [V] at hx hy; obtain ⟨rfl, ha⟩ := hx; obtain ⟨rfl, _⟩ := hy
      obtain ⟨z, h1, h2⟩ := abinInt_sound (P := P) (w := w) (X := X) (σ := σ) (t := t) ha h
      refine ⟨z, ?_, h2⟩
      rw [Sem.run_bind, eqGuard_plain (by simp) (by simp), Result.andThen_ok]; exact h1
    · cases h
  · simp only [V] at hx hy; obtain ⟨rfl, ha⟩ := hx; obtain ⟨rfl, hb⟩ := hy
    obtain ⟨z, h1, h2⟩ := abinStr_sound (P := P) (w := w) (X := X) (σ := σ) (t := t) ha hb h
    refine ⟨z, ?_, h2⟩
    rw [Sem.run_bind, eqGuard_plain (by simp) (by simp), Result.andThen_ok]; exact h1
  · split at h
    · rename_i a b hb
      injection h with h; subst h
      have hb' : P.underlying t = some .bool := isBoolT_iff hb
      simp only [V] at hx hy; subst hx; subst hy
      refine ⟨.bool (a == b), ?_, V_bool _⟩
      rw [Sem.run_bind, eqGuard_plainV rfl, Result.andThen_ok, binOp_eql rfl, run_equal_bool w t a b hb']; rfl
    · cases h
  · split at h
    · rename_i a b hb
      injection h with h; subst h
      have hb' : P.underlying t = some .bool := isBoolT_iff hb
      simp only [V] at hx hy; subst hx; subst hy
      refine ⟨.bool (!(a == b)), ?_, V_bool _⟩
      rw [Sem.run_bind, eqGuard_plainV rfl, Result.andThen_ok, binOp_neq rfl, run_equal_bool w t a b hb']; rfl
    · cases h
  · rename_i cs ds
    cases hb : aeqAgg P t cs ds with
    | none => rw [hb] at h; cases h
    | some b =>
      rw [hb] at h; injection h with h; subst h
      simp only [V] at hx hy; obtain ⟨xs, rfl, hx⟩ := hx; obtain ⟨ys, rfl, hy⟩ := hy
      obtain ⟨e1, e2⟩ := aeqAgg_sound (d := 9998) hx hy hb
      refine ⟨.bool b, ?_, V_bool _⟩
      rw [Sem.run_bind, run_eqGuard_agg w .eql t ox oy xs ys e2, Result.andThen_ok, run_eql_struct]
      exact congrArg (fun r => r.andThen fun b w' => Result.ok (Value.bool b) w') e1
  · rename_i cs ds
    cases hb : aeqAgg P t cs ds with
    | none => rw [hb] at h; cases h
    | some b =>
      rw [hb] at h; injection h with h; subst h
      simp only [V] at hx hy; obtain ⟨xs, rfl, hx⟩ := hx; obtain ⟨ys, rfl, hy⟩ := hy
      obtain ⟨e1, e2⟩ := aeqAgg_sound (d := 9998) hx hy hb
      refine ⟨.bool (!b), ?_, V_bool _⟩
      rw [Sem.run_bind, run_eqGuard_agg w .neq t ox oy xs ys e2, Result.andThen_ok, run_neq_struct]
      exact congrArg (fun r => r.andThen fun b w' => Result.ok (Value.bool (!b)) w') e1
  · cases hb : anilTest P t x y with
    | none => rw [hb] at h; cases h
    | some b => rw [hb] at h; injection h with h; subst h; exact (nilCase b hb).1
  · cases hb : anilTest P t x y with
    | none => rw [hb] at h; cases h
    | some b => rw [hb] at h; injection h with h; subst h; exact (nilCase b hb).2
  · cases h
end
end Go.Ab
namespace Go.Ab
open Go
set_option linter.unusedVariables false
set_option linter.unusedSimpArgs false

def afill (place : Nat → Option (Nat × Nat)) (cells : List AV) : List (Nat × AV) → Option (List AV)
  | [] => some cells
  | (i, v) :: rest =>
    match place i with
    | none => none
    | some (off, size) =>
      if (acells v).length = size ∧ off + (acells v).length ≤ cells.length ∧ (acells v).all aone = true then afill place (over cells off (acells v)) rest else none
def aplaces (P : Program) (fs : List Field) : Option (List (Nat × Nat)) :=
  if fs.all (fun f => (P.info? f.type).isSome) = true then some (fs.map fun f => (f.offset, P.cellsOf f.type)) else none
def abuild (P : Program) (t : TypeId) (parts : List (Nat × AV)) : Option AV :=
  match azero P t with
  | none => none
  | some z =>
    match P.underlying t with
    | some (.struct fs) => match aplaces P fs.toList with
      | some ps => (afill (fun i => ps[i]?) z parts).map .agg
      | none => none
    | some (.array _ e) => if (P.info? e).isSome = true then (afill (fun i => some (i * P.cellsOf e, P.cellsOf e)) z parts).map .agg else none
    | _ => none
/-- The bytes of cells that are all bytes. -/
def abytes : List AV → Option (List UInt8)
  | [] => some []
  | .int .u8 n :: r => (abytes r).map (UInt8.ofNat n.toNat :: ·)
  | _ :: _ => none
def isByteT (P : Program) (t : TypeId) : Bool := match Nat.beq t 5 with
  | true => (match P.underlying t with | some (.int .u8) => true | _ => false)
  | false => false
def astrs : List AV → Option (List (List UInt8))
  | [] => some []
  | .str s :: r => match astrs r with
    | some l => some (s :: l)
    | none => none
  | _ :: _ => none
def aintsK (k : IntKind) : List AV → Option (List Int)
  | [] => some []
  | .int k' n :: r => match k' == k with
    | true => match aintsK k r with
      | some l => some (n :: l)
      | none => none
    | false => none
  | _ :: _ => none
/-- What a list of cells holds at a place: its head laid bare where all are alike. -/
def tabF (cs : List AV) : Nat → AV := match cs with
  | .str s :: r => match astrs (.str s :: r) with
    | some l => fun i => .str (l.getD i [])
    | none => fun i => (.str s :: r).getD i .junk
  | .int k n :: r => match aintsK k (.int k n :: r) with
    | some l => fun i => .int k (l.getD i 0)
    | none => fun i => (.int k n :: r).getD i .junk
  | cs => fun i => cs.getD i .junk
theorem astrs_get : ∀ (cs : List AV) (l : List (List UInt8)), astrs cs = some l → ∀ i, i < cs.length → cs.getD i .junk = .str (l.getD i [])
  | [], l, h, i, hi => by simp at hi
  | a :: r, l, h, i, hi => by
    cases a <;> simp only [astrs] at h <;> first | cases h | skip
    split at h
    · rename_i l' hl
      injection h with h; subst h
      cases i with
      | zero => rfl
      | succ i => simpa using astrs_get r l' hl i (by simpa using hi)
    · cases h
theorem aintsK_get (k : IntKind) : ∀ (cs : List AV) (l : List Int), aintsK k cs = some l → ∀ i, i < cs.length → cs.getD i .junk = .int k (l.getD i 0)
  | [], l, h, i, hi => by simp at hi
  | a :: r, l, h, i, hi => by
    cases a <;> simp only [aintsK] at h <;> first | cases h | skip
    split at h
    · rename_i hk
      have hk := eq_of_beq hk
      split at h
      · rename_i l' hl
        injection h with h; subst h hk
        cases i with
        | zero => rfl
        | succ i => simpa using aintsK_get _ r l' hl i (by simpa using hi)
      · cases h
    · cases h
theorem tabF_get (cs : List AV) (i : Nat) (hi : i < cs.length) : tabF cs i = cs.getD i .junk := by
  cases cs with
  | nil => rfl
  | cons a r =>
    cases a with
    | str s =>
      simp only [tabF]
      cases h : astrs (.str s :: r) with
      | none => rfl
      | some l => exact (astrs_get _ l h i hi).symm
    | int k n =>
      simp only [tabF]
      cases h : aintsK k (.int k n :: r) with
      | none => rfl
      | some l => exact (aintsK_get k _ l h i hi).symm
    | _ => rfl
/-- Rows of cells; of one cell each, the second place plays no part. -/
def rowF (sz : Nat) (cs : List AV) : Nat → Nat → AV := match Nat.beq sz 1 with
  | true => fun i _ => tabF cs i
  | false => match Nat.beq cs.length sz with
    | true => fun _ c => cs.getD c .junk
    | false => fun i c => tabF cs (i * sz + c)
theorem rowF_get (sz : Nat) (cs : List AV) (i c : Nat) (hc : c < sz) (h : i * sz + c < cs.length) : rowF sz cs i c = cs.getD (i * sz + c) .junk := by
  unfold rowF
  cases hb : Nat.beq sz 1 with
  | true =>
    have := Nat.eq_of_beq_eq_true hb
    subst this
    have hc0 : c = 0 := by omega
    subst hc0
    simp only [Nat.mul_one, Nat.add_zero] at h ⊢
    exact tabF_get cs i h
  | false =>
    simp only
    cases hl : Nat.beq cs.length sz with
    | true =>
      have := Nat.eq_of_beq_eq_true hl
      simp only
      rcases Nat.eq_zero_or_pos i with hi | hi
      · subst hi; rw [Nat.zero_mul, Nat.zero_add]
      · have h2 : 1 * sz ≤ i * sz := Nat.mul_le_mul_right _ hi
        omega
    | false => exact tabF_get cs _ h
def abuildSlice (P : Program) (t : TypeId) (len : Nat) (parts : List (Nat × AV)) (hp : Hp) : Option (AV × Hp) :=
  match P.underlying t with
  | some (.slice e) =>
    let sz := P.cellsOf e
    if 0 < sz ∧ (P.info? e).isSome = true ∧ len * sz ≤ 16777216 then
      match azero P e with
      | none => none
      | some z => if z.length = sz then
          match afill (fun i => some (i * sz, sz)) ((List.range (len * sz)).map fun i => z.getD (i % sz) .junk) parts with
          | none => none
          | some cs => if isByteT P e = true ∧ sz = 1 then (abytes cs).map fun l => (.row hp.length 1 0 len, hp ++ [some (.bytes l)])
            else if cs.all noref = true then some (.row hp.length sz 0 len, hp ++ [some (.row sz len (rowF sz cs))]) else some (.row hp.length sz 0 len, hp ++ [some (.cells cs)])
        else none
    else none
  | _ => none

section
variable {P : Program} {X0 : Blk} {σ : Sub} {hp : Hp} {w : World} {X : Blk}
theorem fold_over (off : Nat) : ∀ (vs : List Value) (n : Nat) (cs : Array Value),
    (vs.zipIdx n).foldl (fun (cs : Array Value) (p : Value × Nat) => cs.setIfInBounds (off + p.2) p.1) cs = (over cs.toList (off + n) vs).toArray
  | [], n, cs => by simp [over]
  | v :: vs, n, cs => by
    simp only [List.zipIdx_cons, List.foldl_cons, over]
    rw [fold_over off vs (n + 1)]
    simp [Nat.add_assoc]
theorem afill_sound (place : Nat → Option (Nat × Nat)) : ∀ (parts : List (Nat × AV)) (vparts : List (Nat × Value)) (cells : List AV) (vc : Array Value) (r : List AV),
    VL X w σ cells vc.toList → (∀ u, u ∈ vc.toList → one u = true) → parts.length = vparts.length → (∀ (j : Nat) p q, parts[j]? = some p → vparts[j]? = some q → p.1 = q.1 ∧ V X w σ p.2 q.2) →
    afill place cells parts = some r → ∃ vr, Instr.fill place vc vparts = some vr ∧ VL X w σ r vr.toList ∧ (∀ u, u ∈ vr.toList → one u = true) ∧ r.length = cells.length
  | [], vparts, cells, vc, r, hc, h1, hl, hp, h => by
    simp only [afill, Option.some.injEq] at h; subst h
    have : vparts = [] := List.length_eq_zero_iff.1 hl.symm
    subst this
    exact ⟨vc, by simp [Instr.fill], hc, h1, rfl⟩
  | (i, v) :: parts, [], cells, vc, r, hc, h1, hl, hp, h => by simp at hl
  | (i, v) :: parts, (i', u) :: vparts, cells, vc, r, hc, h1, hl, hp, h => by
    obtain ⟨hi, hv⟩ := hp 0 (i, v) (i', u) rfl rfl
    simp only at hi hv; subst hi
    simp only [afill] at h
    split at h
    · cases h
    · rename_i off size hpl
      split at h
      · rename_i hcond
        obtain ⟨e1, e2, e3⟩ := hcond
        obtain ⟨hVc, hone⟩ := V_cells hv e3
        have hlen := VL_length hVc
        have hlen2 := VL_length hc
        simp at hlen hlen2
        obtain ⟨vr, q1, q2, q3, q4⟩ := afill_sound place parts vparts _ (over vc.toList off u.cells.toList).toArray r (by simpa using VL_over hc off hVc) (by simpa using over_one _ _ _ h1 hone) (by simpa using hl)
          (fun j p q hj hq => hp (j + 1) p q (by simpa using hj) (by simpa using hq)) h
        refine ⟨vr, ?_, q2, q3, by rw [q4, over_length]⟩
        simp only [Instr.fill, hpl]
        rw [if_neg (by simp; omega), ← q1]
        congr 1
        have := fold_over off u.cells.toList 0 vc
        rw [← Array.foldl_toList]
        simpa using this
      · cases h
theorem run_places (fs : Array Field) (h : fs.toList.all (fun f => (P.info? f.type).isSome) = true) :
    (fs.mapM fun f => do pure (f.offset, ← sizeOf f.type) : Sem (Array (Nat × Nat))).run P w = .ok (fs.map fun f => (f.offset, P.cellsOf f.type)) w := by
  rw [Array.mapM_eq_mapM_toList]
  simp only [Sem.run_map]
  have : ∀ l : List Field, l.all (fun f => (P.info? f.type).isSome) = true → (l.mapM fun f => do pure (f.offset, ← sizeOf f.type) : Sem (List (Nat × Nat))).run P w = .ok (l.map fun f => (f.offset, P.cellsOf f.type)) w := by
    intro l
    induction l with
    | nil => intro _; simp
    | cons f l ih =>
      intro hl
      simp only [List.all_cons, Bool.and_eq_true] at hl
      simp only [List.mapM_cons, Sem.run_bind, run_sizeOf f.type (isSome_ne hl.1), Result.andThen_ok, Sem.run_pure, ih hl.2, List.map_cons]
  rw [this _ h]
  simp
  apply Array.ext'; simp
theorem abuild_sound {t : TypeId} {parts : List (Nat × AV)} {vparts : Array (Nat × Value)} {a : AV} (hl : parts.length = vparts.size)
    (hp : ∀ (j : Nat) p q, parts[j]? = some p → vparts.toList[j]? = some q → p.1 = q.1 ∧ V X w σ p.2 q.2) (h : abuild P t parts = some a) :
    ∃ r, (Instr.build t vparts).run P w = .ok r w ∧ V X w σ a r := by
  unfold abuild at h
  split at h
  · cases h
  · rename_i z hz
    obtain ⟨zv, z1, z2, z3⟩ := azero_sound (X := X) (σ := σ) (w := w) hz
    split at h
    · rename_i fs hu
      split at h
      · rename_i ps hps
        unfold aplaces at hps
        split at hps
        · rename_i hall
          injection hps with hps; subst hps
          cases hf : afill (fun i => (fs.toList.map fun f => (f.offset, P.cellsOf f.type))[i]?) z parts with
          | none => rw [hf] at h; cases h
          | some r =>
            rw [hf] at h; injection h with h; subst h
            obtain ⟨vr, q1, q2, q3, _⟩ := afill_sound _ parts vparts.toList z zv.cells r z2 z3 (by simpa using hl) hp hf
            refine ⟨.agg vr, ?_, by simp only [V]; exact ⟨vr, rfl, q2⟩⟩
            have e : (fun (i : Nat) => (fs.map fun f => (f.offset, P.cellsOf f.type))[i]?) = fun i => (fs.toList.map fun f => (f.offset, P.cellsOf f.type))[i]? := by
              funext i; simp
            have q1' : Instr.fill (fun (i : Nat) => (fs.map fun f => (f.offset, P.cellsOf f.type))[i]?) zv.cells vparts.toList = some vr := by rw [e]; exact q1
            simp only [Instr.build, Sem.run_bind, z1, Result.andThen_ok, run_underlying hu, run_places fs hall, q1', Sem.run_pure]
        · cases hps
      · cases h
    · rename_i n e hu
      split at h
      · rename_i he
        cases hf : afill (fun i => some (i * P.cellsOf e, P.cellsOf e)) z parts with
        | none => rw [hf] at h; cases h
        | some r =>
          rw [hf] at h; injection h with h; subst h
          obtain ⟨vr, q1, q2, q3, _⟩ := afill_sound _ parts vparts.toList z zv.cells r z2 z3 (by simpa using hl) hp hf
          refine ⟨.agg vr, ?_, by simp only [V]; exact ⟨vr, rfl, q2⟩⟩
          simp only [Instr.build, Sem.run_bind, z1, Result.andThen_ok, run_underlying hu, run_sizeOf e (isSome_ne he), q1, Sem.run_pure]
      · cases h
    · cases h

theorem abytes_sound : ∀ (cs : List AV) (l : List UInt8) (vs : List Value), abytes cs = some l → VL X w σ cs vs → l.length = vs.length ∧ ∀ (i : Nat) (b : UInt8), l[i]? = some b → vs[i]? = some (.int .u8 b.toNat)
  | [], l, vs, h, hv => by
    simp only [abytes, Option.some.injEq] at h; subst h
    simp only [VL] at hv; subst hv
    exact ⟨rfl, by simp⟩
  | a :: cs, l, vs, h, hv => by
    simp only [VL] at hv
    obtain ⟨u, us, rfl, h2, h3⟩ := hv
    unfold abytes at h
    split at h
    · rename_i e; cases e
    · rename_i n r e
      simp only [List.cons.injEq] at e
      obtain ⟨rfl, rfl⟩ := e
      cases hr : abytes cs with
      | none => rw [hr] at h; cases h
      | some l' =>
        rw [hr] at h; injection h with h; subst h
        obtain ⟨q1, q2⟩ := abytes_sound cs l' us hr h3
        refine ⟨by simp [q1], fun i b hi => ?_⟩
        cases i with
        | zero =>
          simp at hi; subst hi
          simp only [V] at h2
          obtain ⟨rfl, hn1, hn2⟩ := h2
          have e1 : IntKind.min .u8 = 0 := rfl
          have e2 : IntKind.max .u8 = 255 := rfl
          rw [e1] at hn1; rw [e2] at hn2
          have hbyte : ((UInt8.ofNat n.toNat).toNat : Int) = n := by
            rw [UInt8.toNat_ofNat']; omega
          rw [hbyte]; rfl
        | succ i => simp at hi ⊢; exact q2 i b hi
    · cases h
theorem isByteT_iff {t : TypeId} (h : isByteT P t = true) : P.underlying t = some (.int .u8) := by
  unfold isByteT at h
  split at h
  · split at h <;> simp_all
  · cases h
theorem isByteT_five {t : TypeId} (h : isByteT P t = true) : t = 5 := by
  unfold isByteT at h
  split at h
  · rename_i e; exact Nat.eq_of_beq_eq_true e
  · cases h
theorem tyAt_new (w : World) (arr : Array Value) (t : TypeId) : TyAt (w.alloc (.cells arr t)) w.heap.size t := ⟨arr, (0, 0), by show (w.heap.push _)[_]? = _; simp⟩
theorem V_row_new (hR : Rel X0 σ hp w) {X : Blk} {sz n : Nat} {arr : Array Value} {t : TypeId} (hb : n ≤ bnd) (hs : n * sz = arr.size) :
    V X (w.alloc (.cells arr t)) (upd σ hp.length w.heap.size) (.row hp.length sz 0 n) (.slice (some ⟨w.heap.size, 0, none⟩) n n) := by
  simp only [V]
  exact ⟨hb, w.heap.size, 0, n, arr, t, (0, 0), by simp [upd], rfl, Nat.le_refl _, .inl (by simp), by show (w.heap.push _)[_]? = _; simp, by simpa using hs⟩
theorem push_bytes (hR : Rel X0 σ hp w) {l : List UInt8} {arr : Array Value} (t : TypeId) (h5 : t = 5) (hn : l.length ≤ arr.size) (hb : l.length ≤ bnd) (h1 : ∀ u, u ∈ arr.toList → one u = true)
    (hV : ∀ (i : Nat) (b : UInt8), l[i]? = some b → arr[i]? = some (.int .u8 b.toNat)) :
    Rel X0 (upd σ hp.length w.heap.size) (hp ++ [some (.bytes l)]) (w.alloc (.cells arr t)) :=
  hR.push ⟨arr, cellsAt_new w arr t h1, hn, ⟨hb, h5 ▸ tyAt_new w arr t⟩, hV⟩

theorem abuildSlice_sound {t : TypeId} {len : Nat} {parts : List (Nat × AV)} {vparts : Array (Nat × Value)} {a : AV} {hp' : Hp} (hR : Rel X0 σ hp w) (hl : parts.length = vparts.size)
    (hpt : ∀ (j : Nat) p q, parts[j]? = some p → vparts.toList[j]? = some q → p.1 = q.1 ∧ V (Xof X0 σ hp) w σ p.2 q.2) (h : abuildSlice P t len parts hp = some (a, hp')) :
    Good P X0 σ hp w (Instr.buildSlice t len vparts) a hp' := by
  unfold abuildSlice at h
  split at h
  · rename_i e hu
    dsimp only at h
    split at h
    · rename_i hc
      obtain ⟨hsz, he, hbig⟩ := hc
      split at h
      · cases h
      · rename_i z hz
        split at h
        · rename_i hzl
          obtain ⟨zv, z1, z2, z3⟩ := azero_sound (X := Xof X0 σ hp) (σ := σ) (w := w) hz
          have hzl2 := VL_length z2
          simp at hzl2
          split at h
          · cases h
          · rename_i cs hf
            -- the cells ahead of the parts
            have hbase : VL (Xof X0 σ hp) w σ ((List.range (len * P.cellsOf e)).map fun i => z.getD (i % P.cellsOf e) .junk) ((Array.range (len * P.cellsOf e)).map (fun i => zv.cells[i % zv.cells.size]!)).toList := by
              refine VL_of_get (by simp) fun i a u h1 h2 => ?_
              simp only [List.getElem?_map, Array.toList_map, Array.toList_range] at h1 h2
              by_cases hi : i < len * P.cellsOf e
              · simp only [List.getElem?_range hi, Option.map_some, Option.some.injEq] at h1 h2
                subst h1; subst h2
                have hm : i % P.cellsOf e < P.cellsOf e := Nat.mod_lt _ hsz
                have hz1 : z[i % P.cellsOf e]? = some (z[i % P.cellsOf e]'(by omega)) := by simp
                obtain ⟨u, q1, q2⟩ := VL_get z2 _ _ hz1
                have e1 : z.getD (i % P.cellsOf e) .junk = z[i % P.cellsOf e]'(by omega) := by simp [List.getD, hz1]
                have e2 : zv.cells[i % zv.cells.size]! = u := by
                  rw [← hzl2, hzl]
                  simp only [Array.getElem?_toList] at q1
                  rw [getElem!_def, q1]
                rw [e1, e2]; exact q2
              · simp [hi] at h1
            have hone : ∀ u, u ∈ ((Array.range (len * P.cellsOf e)).map (fun i => zv.cells[i % zv.cells.size]!)).toList → one u = true := by
              intro u hu'
              simp only [Array.toList_map, Array.toList_range, List.mem_map, List.mem_range] at hu'
              obtain ⟨i, hi, rfl⟩ := hu'
              have hm : i % zv.cells.size < zv.cells.size := Nat.mod_lt _ (by omega)
              rw [getElem!_pos zv.cells _ hm]
              exact z3 _ (by simp)
            obtain ⟨vr, q1, q2, q3, q4⟩ := afill_sound _ parts vparts.toList _ _ cs hbase hone (by simpa using hl) hpt hf
            have hcl := VL_length q2
            simp at hcl q4
            have hbnd : len ≤ bnd := by
              have : len ≤ len * P.cellsOf e := Nat.le_mul_of_pos_right _ hsz
              unfold bnd; omega
            have hrun : (Instr.buildSlice t len vparts).run P w = .ok (.slice (some ⟨w.heap.size, 0, none⟩) len len) (w.alloc (.cells vr e)) := by
              simp only [Instr.buildSlice, Sem.run_bind, run_underlying hu, Result.andThen_ok, run_sizeOf e (isSome_ne he)]
              rw [if_neg (by omega)]
              by_cases h0 : len * P.cellsOf e = 0
              · rw [if_pos h0]
                have hlen0 : len = 0 := by
                  rcases Nat.mul_eq_zero.1 h0 with h | h
                  · exact h
                  · omega
                subst hlen0
                have hr0 : Array.range (0 * P.cellsOf e) = #[] := by rw [Nat.zero_mul]; rfl
                rw [hr0, Array.map_empty] at q1
                simp only [Sem.run_pure, Result.andThen_ok, hr0, Array.map_empty]
                simp only [q1, newRow, Sem.run_bind, run_newObj, Result.andThen_ok, Sem.run_pure, World.alloc_eq]
              · rw [if_neg h0]
                simp only [Sem.run_bind, z1, Result.andThen_ok, Sem.run_pure, q1, newRow, run_newObj, World.alloc_eq]
            split at h
            · rename_i hby
              obtain ⟨hby, h1⟩ := hby
              cases hb : abytes cs with
              | none => rw [hb] at h; cases h
              | some l =>
                rw [hb] at h
                simp only [Option.map_some, Option.some.injEq, Prod.mk.injEq] at h
                obtain ⟨rfl, rfl⟩ := h
                obtain ⟨b1, b2⟩ := abytes_sound cs l vr.toList hb q2
                simp at b1
                refine ⟨_, _, _, hrun, hR.fresh, ⟨alloc_step _ _ _, push_own hR⟩, push_bytes hR e (isByteT_five hby) (by omega) (by rw [b1, ← hcl, q4, h1]; simpa using hbnd) q3 (by simpa using b2), ?_⟩
                refine V_row_new hR hbnd ?_
                rw [← hcl, q4, h1]
            · split at h
              · rename_i hnr
                simp only [Option.some.injEq, Prod.mk.injEq] at h
                obtain ⟨rfl, rfl⟩ := h
                refine ⟨_, _, _, hrun, hR.fresh, ⟨alloc_step _ _ _, push_own hR⟩, push_row hR e (by omega) hbnd q3 ?_, V_row_new hR hbnd (by omega)⟩
                intro i c u hi hc hu'
                have hlt : i * P.cellsOf e + c < cs.length := by
                  have : (i + 1) * P.cellsOf e ≤ len * P.cellsOf e := Nat.mul_le_mul_right _ hi
                  rw [Nat.succ_mul] at this; omega
                have ha : cs[i * P.cellsOf e + c]? = some (cs[i * P.cellsOf e + c]) := by simp [hlt]
                obtain ⟨u', r1, r2⟩ := VL_get q2 _ _ ha
                simp only [Array.getElem?_toList] at r1
                rw [r1] at hu'; injection hu' with hu'; subst hu'
                rw [rowF_get _ cs i c hc hlt]
                simp only [List.getD, ha, Option.getD_some]
                exact V_noref r2 (List.all_eq_true.1 hnr _ (List.getElem_mem _))
              · simp only [Option.some.injEq, Prod.mk.injEq] at h
                obtain ⟨rfl, rfl⟩ := h
                exact ⟨_, _, _, hrun, hR.fresh, ⟨alloc_step _ _ _, push_own hR⟩, push_cells hR e q2 q3, V_row_new hR hbnd (by omega)⟩
        · cases h
    · cases h
  · cases h
end
end Go.Ab
namespace Go.Ab
open Go
set_option linter.unusedVariables false
set_option linter.unusedSimpArgs false

/-- A rune's bytes. -/
def encU (n : Int) : List UInt8 := (Utf8.encode n).data.toList
theorem encU_le (n : Int) : (encU n).length ≤ 4 := by
  unfold encU Utf8.encode
  simp only
  repeat' split
  all_goals simp
def aconvert (P : Program) (src dst : TypeId) (x : AV) (hp : Hp) : Option (AV × Hp) :=
  match P.underlying src, P.underlying dst, x with
  | some _, some (.int k), .int _ n => some (.int k (k.wrap n), hp)
  | some _, some .string, .str s => some (.str s, hp)
  | some _, some .string, .int _ n => some (.str (encU n), hp)
  | some _, some (.slice e), .str s => if isByteT P e = true ∧ P.cellsOf e = 1 then some (.row hp.length 1 0 s.length, hp ++ [some (.bytes s)]) else none
  | some (.slice e), some .string, .row b sz lo n => if isByteT P e = true ∧ sz = 1 then
      match hp[b]? with
      | some (some (.bytes l)) => if lo + n ≤ l.length then some (.str ((l.drop lo).take n), hp) else none
      | _ => none
    else none
  | some (.slice e), some .string, .nilsl => if isByteT P e = true then some (.str [], hp) else none
  | some (.pointer t), some .unsafePointer, .ref b off => match hp[b]? with
    | some (some (.tcells _ cs)) => if off < cs.length ∧ 0 < P.cellsOf t ∧ (P.info? t).isSome = true then some (.ref b off, hp) else none
    | _ => none
  | some .unsafePointer, some (.pointer u), .ref b off => match hp[b]? with
    | some (some (.tcells t cs)) => if (P.info? u).isSome = true ∧ liesAt P P.depth t (cs.length / P.cellsOf t) off u 1 = true then some (.ref b off, hp) else none
    | _ => none
  | _, _, _ => none
def amakeIface (P : Program) (t : TypeId) (x : AV) : Option AV := if P.concrete t = true then some (.iface t x) else none
def atypeAssert (P : Program) (x : AV) (asserted : TypeId) (ok : Bool) : Option AV :=
  if P.concrete asserted = true then
    match x with
    | .iface t v => if t = asserted then some (if ok then .tup [v, .bool true] else v) else
        if ok then (match P.info? asserted with | some i => i.zero.map fun z => .tup [aconst z, .bool false] | none => none) else none
    | .niliface => if ok then (match P.info? asserted with | some i => i.zero.map fun z => .tup [aconst z, .bool false] | none => none) else none
    | _ => none
  else none

section
variable {P : Program} {X0 : Blk} {σ : Sub} {hp : Hp} {w : World} {X : Blk}

theorem V_bytes_new (hR : Rel X0 σ hp w) {X : Blk} {n : Nat} {arr : Array Value} {t : TypeId} {w' : World} {fr : Nat × Nat} (hb : n ≤ bnd) (hc : n ≤ arr.size) (hh : w'.heap[w.heap.size]? = some (.cells arr t fr)) :
    V X w' (upd σ hp.length w.heap.size) (.row hp.length 1 0 n) (.slice (some ⟨w.heap.size, 0, none⟩) n arr.size) := by
  simp only [V]
  exact ⟨hb, w.heap.size, 0, arr.size, arr, t, fr, by simp [upd], rfl, hc, .inl (by simp), hh, by simp⟩

theorem Rel.push' (h : Rel X0 σ hp w) {w' : World} {o : AObj} (hs : Step (fun _ => False) w w') (hsz : w'.heap.size = w.heap.size + 1)
    (ho : O (Xof X0 (upd σ hp.length w.heap.size) (hp ++ [some o])) (upd σ hp.length w.heap.size) w' w.heap.size o) : Rel X0 (upd σ hp.length w.heap.size) (hp ++ [some o]) w' := by
  -- over the world with a block of any kind
  have h1 : Rel X0 (upd σ hp.length w.heap.size) (hp ++ [none]) w' := by
    refine ⟨?_, ?_, fun g hx => by have := h.x0 g hx; omega, ?_, ?_, ?_⟩
    · intro i j x y g hi hj h1 h2
      have key : ∀ i x, (hp ++ [none])[i]? = some (some x) → i < hp.length ∧ hp[i]? = some (some x) := by
        intro i x hi
        have hl := (List.getElem?_eq_some_iff.1 hi).1
        simp at hl
        by_cases e : i = hp.length
        · subst e; simp at hi
        · exact ⟨by omega, by rw [List.getElem?_append_left (by omega)] at hi; exact hi⟩
      obtain ⟨hi1, hi2⟩ := key i x hi
      obtain ⟨hj1, hj2⟩ := key j y hj
      unfold upd at h1 h2; rw [if_neg (by omega)] at h1 h2
      exact h.inj i j x y g hi2 hj2 h1 h2
    · intro i g hi
      unfold upd at hi; split at hi
      · simp at hi; omega
      · have := h.lt i g hi; omega
    · intro i g hi hx
      unfold upd at hi; split at hi
      · simp at hi; have := h.x0 g hx; omega
      · exact h.sep i g hi hx
    · intro i g hi
      unfold upd at hi; split at hi
      · simp; omega
      · have := h.dom i g hi; simp; omega
    · intro i x hi
      have hl := (List.getElem?_eq_some_iff.1 hi).1
      simp at hl
      by_cases e : i = hp.length
      · subst e; simp at hi
      · rw [List.getElem?_append_left (by omega)] at hi
        obtain ⟨g, h1, h2⟩ := h.obj i x hi
        refine ⟨g, h.fresh i g h1, O_mono h2 (hs.keep g (h.lt i g h1) (by simp)) h.fresh (fun g' hg' hx => ?_) (hs.mono fun _ _ h => h.elim)⟩
        rcases hx with hx | ⟨j, y, q1, q2⟩
        · exact .inl hx
        · have hl := (List.getElem?_eq_some_iff.1 q1).1
          simp at hl
          by_cases e' : j = hp.length
          · subst e'; simp at q1
          · rw [List.getElem?_append_left (by omega)] at q1
            unfold upd at q2; rw [if_neg e'] at q2
            exact .inr ⟨j, y, q1, q2⟩
  refine ⟨?_, h1.lt, h1.x0, h1.sep, fun i g hi => by simpa using h1.dom i g hi, ?_⟩
  · intro i j x y g hi hj q1 q2
    have key : ∀ i x, (hp ++ [some o])[i]? = some (some x) → (i = hp.length ∨ (hp ++ [none])[i]? = some (some x)) := by
      intro i x hi
      have hl := (List.getElem?_eq_some_iff.1 hi).1
      simp at hl
      by_cases e : i = hp.length
      · exact .inl e
      · right; rw [List.getElem?_append_left (by omega)] at hi ⊢; exact hi
    rcases key i x hi with rfl | hi' <;> rcases key j y hj with rfl | hj'
    · rfl
    · exfalso
      have hjl : j < hp.length := by
        have hl := (List.getElem?_eq_some_iff.1 hj').1
        simp at hl
        by_cases e : j = hp.length
        · subst e; simp at hj'
        · omega
      unfold upd at q1 q2; rw [if_pos rfl] at q1; rw [if_neg (by omega)] at q2
      have := h.lt j g q2; simp at q1; omega
    · exfalso
      have hil : i < hp.length := by
        have hl := (List.getElem?_eq_some_iff.1 hi').1
        simp at hl
        by_cases e : i = hp.length
        · subst e; simp at hi'
        · omega
      unfold upd at q1 q2; rw [if_pos rfl] at q2; rw [if_neg (by omega)] at q1
      have := h.lt i g q1; simp at q2; omega
    · exact h1.inj i j x y g hi' hj' q1 q2
  · intro i x hi
    by_cases e : i = hp.length
    · subst e
      simp at hi; subst hi
      exact ⟨w.heap.size, by simp [upd], ho⟩
    · have hl := (List.getElem?_eq_some_iff.1 hi).1
      simp at hl
      rw [List.getElem?_append_left (by omega)] at hi
      obtain ⟨g, h1, h2⟩ := h.obj i x hi
      exact ⟨g, h.fresh i g h1, O_mono h2 (hs.keep g (h.lt i g h1) (by simp)) h.fresh (push_fresh h) (hs.mono fun _ _ h => h.elim)⟩

theorem aconvert_sound {src dst : TypeId} {x : AV} {v : Value} {a : AV} {hp' : Hp} (hR : Rel X0 σ hp w) (hx : V (Xof X0 σ hp) w σ x v) (h : aconvert P src dst x hp = some (a, hp')) :
    Good P X0 σ hp w (convert src dst v) a hp' := by
  unfold aconvert at h
  split at h
  · rename_i d k k' n hs hd
    simp only [Option.some.injEq, Prod.mk.injEq] at h
    obtain ⟨rfl, rfl⟩ := h
    simp only [V] at hx; obtain ⟨rfl, _⟩ := hx
    refine Good.pure' hR (v := .int k (k.wrap n)) ?_ (V_int (wrap_range _ _))
    simp only [convert, Sem.run_bind, run_underlying hs, run_underlying hd, Result.andThen_ok]
    rfl
  · rename_i d s hs hd
    simp only [Option.some.injEq, Prod.mk.injEq] at h
    obtain ⟨rfl, rfl⟩ := h
    have hx' := hx
    simp only [V] at hx'; obtain ⟨rfl, _⟩ := hx'
    refine Good.pure' hR (v := .string ⟨⟨s⟩⟩) ?_ hx
    simp only [convert, Sem.run_bind, run_underlying hs, run_underlying hd, Result.andThen_ok]
    rfl
  · rename_i d k n hs hd
    simp only [Option.some.injEq, Prod.mk.injEq] at h
    obtain ⟨rfl, rfl⟩ := h
    simp only [V] at hx; obtain ⟨rfl, _⟩ := hx
    refine Good.pure' hR (v := .string (Utf8.encode n)) ?_ ?_
    · simp only [convert, Sem.run_bind, run_underlying hs, run_underlying hd, Result.andThen_ok]
      rfl
    · have hl := encU_le n
      simp only [V]
      exact ⟨rfl, by simp only [bnd]; omega⟩
  · rename_i d e s hs hd
    split at h
    · rename_i hc
      simp only [Option.some.injEq, Prod.mk.injEq] at h
      obtain ⟨rfl, rfl⟩ := h
      simp only [V] at hx; obtain ⟨rfl, hb⟩ := hx
      have hrun := Lib.run_convert_string_bytes (P := P) w src dst e ⟨⟨s⟩⟩ hs hd (isByteT_iff hc.1)
      have hcap : s.length ≤ grownCap w s.length 0 e := grownCap_ge w s.length 0 e
      have hsz : (Lib.bytesCells w e ⟨⟨s⟩⟩).size = grownCap w s.length 0 e := by
        simp [Lib.bytesCells, ba_size]; omega
      have hat := Lib.bytesWorld_at_new w e ⟨⟨s⟩⟩
      have hstep : Step (fun _ => False) w (Lib.bytesWorld w e ⟨⟨s⟩⟩) := by
        refine ⟨by rw [Lib.bytesWorld_size]; omega, ?_, ?_, ?_, fun g hg _ => Lib.bytesWorld_at_old w e _ g hg, fun g arr t fr he => ⟨arr, fr, ?_, rfl⟩⟩
        · simp only [Lib.bytesWorld, World.freeze]; rfl
        · simp only [Lib.bytesWorld, World.freeze]; rfl
        · simp only [Lib.bytesWorld, World.freeze]; rfl
        · rw [Lib.bytesWorld_at_old w e _ g (Array.getElem?_eq_some_iff.1 he).1]; exact he
      have hget : ∀ (i : Nat) (b : UInt8), s[i]? = some b → (Lib.bytesCells w e ⟨⟨s⟩⟩)[i]? = some (.int .u8 b.toNat) := by
        intro i b hi
        have hlt := (List.getElem?_eq_some_iff.1 hi).1
        simp [Lib.bytesCells, Array.getElem?_append, hlt]
        rw [(List.getElem?_eq_some_iff.1 hi).2]
      have hone : ∀ u, u ∈ (Lib.bytesCells w e ⟨⟨s⟩⟩).toList → one u = true := by
        intro u hu
        simp [Lib.bytesCells] at hu
        rcases hu with ⟨b, _, rfl⟩ | ⟨_, rfl⟩ <;> rfl
      refine ⟨_, _, _, hrun, hR.fresh, ⟨hstep.mono (fun _ _ h => h.elim), push_own hR⟩, hR.push' hstep (Lib.bytesWorld_size w e _) ⟨_, ⟨e, _, hat, fun o ho => by simp only; omega, hone⟩, by rw [hsz]; exact hcap, ⟨hb, isByteT_five hc.1 ▸ ⟨_, _, hat⟩⟩, hget⟩, ?_⟩
      have := V_bytes_new hR (X := Xof X0 (upd σ hp.length w.heap.size) (hp ++ [some (.bytes s)])) hb (by rw [hsz]; exact hcap) hat
      rw [hsz] at this
      exact this
    · cases h
  · rename_i e b sz lo n hs hd
    split at h
    · rename_i hc
      obtain ⟨he, rfl⟩ := hc
      split at h
      · rename_i l hb
        split at h
        · rename_i hln
          simp only [Option.some.injEq, Prod.mk.injEq] at h
          obtain ⟨rfl, rfl⟩ := h
          simp only [V] at hx
          obtain ⟨hnb, g, o, cap, arr, t, fr, hg, rfl, hnc, ho, hheap, hcs⟩ := hx
          obtain ⟨g', hg', arr', hA, hms, hmb, hV⟩ := hR.obj b _ hb
          rw [hg] at hg'; obtain rfl := Option.some.inj hg'
          have hns : (((l.drop lo).take n).map fun b => (b.toNat : Int)).map (Value.int .u8) = ((l.drop lo).take n).map fun b => Value.int .u8 b.toNat := by rw [List.map_map]; rfl
          have hload : (loadCells ⟨g, o, none⟩ n).run P w = .ok ((((l.drop lo).take n).map fun b => (b.toNat : Int)).map (Value.int .u8)).toArray w := by
            rw [hns]
            have := run_loadCells_list (P := P) (w := w) ⟨g, o, none⟩ (((l.drop lo).take n).map fun b => Value.int .u8 b.toNat) (fun j u hj => ?_)
            · have hl : (((l.drop lo).take n).map fun b => Value.int .u8 b.toNat).length = n := by simp; omega
              rw [hl] at this; exact this
            · rw [add_none, hA.cell]
              simp only [List.getElem?_map, List.getElem?_take, List.getElem?_drop] at hj
              split at hj
              · rename_i hjn
                have ho' : o = lo := by rcases ho with ho | ho <;> omega
                subst ho'
                have hlt : o + j < l.length := by omega
                rw [hV (o + j) (l[o + j]) (by simp [hlt])]
                simp [hlt] at hj
                rw [hj]
              · simp at hj
          have hfold : ∀ (m : List UInt8) (acc : ByteArray), (m.map fun b => (b.toNat : Int)).foldl (fun r n => r.push (UInt8.ofNat n.toNat)) acc = ⟨⟨acc.data.toList ++ m⟩⟩ := by
            intro m
            induction m with
            | nil => intro acc; cases acc; simp
            | cons c m ih =>
              intro acc
              simp only [List.map_cons, List.foldl_cons, ih]
              cases acc
              simp
          refine Good.pure' hR (v := .string ⟨⟨(l.drop lo).take n⟩⟩) ?_ (V_str (by simp; omega))
          rw [run_convert_bytes_string w src dst e _ n cap hs (isByteT_iff he) hd, run_bytesToString w _ n cap _ hload, hfold]
          rfl
        · cases h
      · cases h
    · cases h
  · rename_i e hs hd
    split at h
    · rename_i he
      simp only [Option.some.injEq, Prod.mk.injEq] at h
      obtain ⟨rfl, rfl⟩ := h
      simp only [V] at hx; subst hx
      refine Good.pure' hR (v := .string ⟨⟨[]⟩⟩) ?_ (V_str (by simp))
      simp only [convert, Sem.run_bind, run_underlying hs, run_underlying hd, run_underlying (isByteT_iff he), Result.andThen_ok]
      rfl
    · cases h
  · rename_i t b off hs hd
    split at h
    · rename_i t' cs hb
      split at h
      · rename_i hc
        simp only [Option.some.injEq, Prod.mk.injEq] at h
        obtain ⟨rfl, rfl⟩ := h
        obtain ⟨c1, c2, c3⟩ := hc
        obtain ⟨g, hg, arr, hA, hV, arr2, fr2, hty⟩ := hR.obj b _ hb
        have hx' := hx
        simp only [V] at hx'
        obtain ⟨g', hg', rfl⟩ := hx'
        rw [hg] at hg'; obtain rfl := Option.some.inj hg'
        obtain ⟨j, hj⟩ := Option.isSome_iff_exists.1 c3
        have hl := VL_length hV
        simp at hl
        have harr : arr2 = arr := by
          obtain ⟨t2, fr, e2, _⟩ := hA
          rw [hty] at e2; injection e2 with e2; injection e2
        refine Good.pure' hR (Lib.run_to_unsafe (P := P) w ⟨g, off, none⟩ hs hd hj (by intro e0; simp [Program.cellsOf, hj, e0] at c2) (e := t') (cells := arr2.size) (by simp [World.shape?, hty]) (by rw [harr]; simp only; omega)) hx
      · cases h
    · cases h
  · rename_i u b off hs hd
    split at h
    · rename_i t cs hb
      split at h
      · rename_i hc
        simp only [Option.some.injEq, Prod.mk.injEq] at h
        obtain ⟨rfl, rfl⟩ := h
        obtain ⟨c1, c2⟩ := hc
        obtain ⟨g, hg, arr, hA, hV, arr2, fr2, hty⟩ := hR.obj b _ hb
        have hx' := hx
        simp only [V] at hx'
        obtain ⟨g', hg', rfl⟩ := hx'
        rw [hg] at hg'; obtain rfl := Option.some.inj hg'
        obtain ⟨j, hj⟩ := Option.isSome_iff_exists.1 c1
        have hl := VL_length hV
        simp at hl
        have harr : arr2 = arr := by
          obtain ⟨t2, fr, e2, _⟩ := hA
          rw [hty] at e2; injection e2 with e2; injection e2
        refine Good.pure' hR (Lib.run_from_unsafe (P := P) w ⟨g, off, none⟩ hs hd hj (e := t) (cells := arr2.size) (by simp [World.shape?, hty]) (by rw [harr, ← hl]; exact c2)) hx
      · cases h
    · cases h
  · cases h
end
end Go.Ab

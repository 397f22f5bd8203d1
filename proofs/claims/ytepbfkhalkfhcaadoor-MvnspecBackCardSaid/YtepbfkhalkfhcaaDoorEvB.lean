/- Lemmas for the claims of this seat (a verified symbolic evaluator, and contracts of functions): own work; no condition. -/
import Derived.Test.YtepbfkhalkfhcaaDoorEvA
import Derived.Laws.Append
import Derived.MapKept
import Derived.Orders
namespace Go.Ab
open Go
set_option linter.unusedVariables false
set_option linter.unusedSimpArgs false

/-- Two rows, one behind the other. -/
def appF (n : Nat) (f : Nat → Nat → AV) (g : Nat → Nat → AV) : Nat → Nat → AV := fun i => if i < n then f i else g (i - n)

/-- What is appended: how many, and which. -/
def asrc (sz : Nat) (x : AV) (hp : Hp) : Option (Nat × (Nat → Nat → AV)) :=
  match x with
  | .nilsl => some (0, fun _ _ => .junk)
  | .sl sz' m f => if sz' = sz then some (m, f) else none
  | .row b sz' lo m => match hp[b]? with
    | some (some (.row sz'' N f)) => if sz' = sz ∧ sz'' = sz ∧ lo + m ≤ N then some (m, fun i => f (lo + i)) else none
    | _ => none
  | _ => none
/-- A row with what was appended; nothing was, where that is nil. -/
def appX (x : AV) (n : Nat) (f g : Nat → Nat → AV) : Nat → Nat → AV := match x with
  | .nilsl => f
  | _ => appF n f g
theorem appX_eq {sz : Nat} {x : AV} {hp : Hp} {m n k : Nat} {f g : Nat → Nat → AV} (h : asrc sz x hp = some (m, g)) (hk : k < n + m) : appX x n f g k = appF n f g k := by
  unfold appX
  split
  · unfold asrc at h
    simp only [Option.some.injEq, Prod.mk.injEq] at h
    obtain ⟨rfl, _⟩ := h
    unfold appF
    rw [if_pos (by omega)]
  · rfl
def asrcB (x : AV) (hp : Hp) : Option (List UInt8) :=
  match x with
  | .nilsl => some []
  | .str s => some s
  | .row b sz lo m => match hp[b]? with
    | some (some (.bytes l)) => if sz = 1 ∧ lo + m ≤ l.length then some ((l.drop lo).take m) else none
    | _ => none
  | _ => none
def notIntT (P : Program) (t : TypeId) : Bool := match P.underlying t with | some (.slice _) | some .string => true | _ => false
theorem notIntT_iff {P : Program} {t : TypeId} (h : notIntT P t = true) : (∃ e, P.underlying t = some (.slice e)) ∨ P.underlying t = some .string := by
  unfold notIntT at h; split at h
  · rename_i e he; exact .inl ⟨e, he⟩
  · rename_i he; exact .inr he
  · cases h
def aappend (P : Program) (sT xT : TypeId) (s x : AV) (hp : Hp) : Option (AV × Hp) :=
  match P.underlying sT with
  | some (.slice e) =>
    match P.info? e, azero P e with
    | some i, some z =>
      if 0 < i.size ∧ z.length = i.size ∧ notIntT P xT = true then
        if isByteT P e = true ∧ i.size = 1 then
          match asrcB x hp with
          | none => none
          | some l' => match s with
            | .nilsl => if l'.length = 0 then some (.nilsl, hp) else
                if l'.length * i.bytes ≤ 140737488355328 ∧ l'.length ≤ bnd then some (.row hp.length 1 0 l'.length, hp ++ [some (.bytes l')]) else none
            | .row b sz lo n => match hp[b]? with
              | some (some (.bytes l)) => if sz = 1 ∧ lo = 0 ∧ n = l.length then
                  (if (n + l'.length) * i.bytes ≤ 140737488355328 ∧ n + l'.length ≤ bnd then some (.row hp.length 1 0 (n + l'.length), hp.set b none ++ [some (.bytes (l ++ l'))]) else none) else none
              | _ => none
            | _ => none
        else
          match asrc i.size x hp with
          | none => none
          | some (m, g) => match s with
            | .nilsl => if m = 0 then some (.nilsl, hp) else
                if m * i.bytes ≤ 140737488355328 ∧ m ≤ bnd then some (.row hp.length i.size 0 m, hp ++ [some (.row i.size m g)]) else none
            | .row b sz lo n => match hp[b]? with
              | some (some (.row sz' N f)) => if sz = i.size ∧ sz' = i.size ∧ lo = 0 ∧ n = N then
                  (if (n + m) * i.bytes ≤ 140737488355328 ∧ n + m ≤ bnd then some (.row hp.length i.size 0 (n + m), hp.set b none ++ [some (.row i.size (n + m) (appX x n f g))]) else none) else none
              | _ => none
            | _ => none
      else none
    | _, _ => none
  | _ => none

section
variable {P : Program} {X0 : Blk} {σ : Sub} {hp : Hp} {w : World} {X : Blk}

theorem own_kill {b : Nat} {g' : Nat} (h : Own σ (hp.set b none) g') : Own σ hp g' := by
  obtain ⟨i, x, h1, h2⟩ := h
  rw [List.getElem?_set] at h1
  by_cases e : b = i
  · subst e; simp at h1
  · rw [if_neg e] at h1; exact ⟨i, x, h1, h2⟩
theorem Rel.kill (h : Rel X0 σ hp w) (b : Nat) : Rel X0 σ (hp.set b none) w := by
  have key : ∀ (i : Nat) (o : AObj), (hp.set b none)[i]? = some (some o) → hp[i]? = some (some o) := by
    intro i o hi
    rw [List.getElem?_set] at hi
    by_cases e : b = i
    · subst e; simp at hi
    · rw [if_neg e] at hi; exact hi
  refine ⟨fun i j x y g hi hj => h.inj i j x y g (key i x hi) (key j y hj), h.lt, h.x0, h.sep, fun i g hi => by simpa using h.dom i g hi, fun i o hi => ?_⟩
  obtain ⟨g, h1, h2⟩ := h.obj i o (key i o hi)
  refine ⟨g, h1, O_mono h2 rfl (fun _ _ h => h) (fun g' _ hx => ?_) (Step.refl _ _)⟩
  rcases hx with hx | hx
  · exact .inl hx
  · exact .inr (own_kill hx)
theorem V_kill {b : Nat} {a : AV} {v : Value} (h : V (Xof X0 σ hp) w σ a v) : V (Xof X0 σ (hp.set b none)) w σ a v :=
  V_mono (fun g' _ hx => by rcases hx with hx | hx; exact .inl hx; exact .inr (own_kill hx)) (Step.refl _ _) _ _ _ _ (fun _ _ h => h) h

/-- An object goes over to a new number; its block stays. -/
theorem Rel.move (h : Rel X0 σ hp w) {b g : Nat} {o o' : AObj} {w' : World} (hb : hp[b]? = some (some o)) (hg : σ b = some g) (hs : Step (fun x => x = g) w w')
    (ho : O (Xof X0 (upd σ hp.length g) (hp.set b none ++ [some o'])) (upd σ hp.length g) w' g o') : Rel X0 (upd σ hp.length g) (hp.set b none ++ [some o']) w' := by
  have hfresh : ∀ i g', σ i = some g' → upd σ hp.length g i = some g' := fun i g' hi => by
    have := h.dom i g' hi
    unfold upd; rw [if_neg (by omega)]; exact hi
  have key : ∀ (i : Nat) (x : AObj), (hp.set b none ++ [some o'])[i]? = some (some x) → (i = hp.length ∧ x = o') ∨ (i < hp.length ∧ i ≠ b ∧ hp[i]? = some (some x)) := by
    intro i x hi
    have hl := (List.getElem?_eq_some_iff.1 hi).1
    simp at hl
    by_cases e : i = hp.length
    · subst e
      have : (hp.set b none ++ [some o'])[hp.length]? = some (some o') := by
        rw [List.getElem?_append_right (by simp)]; simp
      rw [this] at hi; simp at hi; exact .inl ⟨rfl, hi.symm⟩
    · rw [List.getElem?_append_left (by simp; omega), List.getElem?_set] at hi
      by_cases e' : b = i
      · subst e'; simp at hi
      · rw [if_neg e'] at hi; exact .inr ⟨by omega, fun q => e' q.symm, hi⟩
  have hXX : ∀ g', Xof X0 (upd σ hp.length g) (hp.set b none ++ [some o']) g' → Xof X0 σ hp g' := by
    rintro g' (hx | ⟨i, x, q1, q2⟩)
    · exact .inl hx
    · rcases key i x q1 with ⟨rfl, _⟩ | ⟨q3, _, q4⟩
      · unfold upd at q2; rw [if_pos rfl] at q2; injection q2 with q2; subst q2; exact .inr ⟨b, o, hb, hg⟩
      · unfold upd at q2; rw [if_neg (by omega)] at q2; exact .inr ⟨i, x, q4, q2⟩
  refine ⟨?_, ?_, fun g' hx => Nat.lt_of_lt_of_le (h.x0 g' hx) hs.size, ?_, ?_, ?_⟩
  · intro i j x y g' hi hj q1 q2
    rcases key i x hi with ⟨rfl, _⟩ | ⟨hi1, hi2, hi3⟩ <;> rcases key j y hj with ⟨rfl, _⟩ | ⟨hj1, hj2, hj3⟩
    · rfl
    · exfalso
      unfold upd at q1 q2; rw [if_pos rfl] at q1; rw [if_neg (by omega)] at q2
      injection q1 with q1; subst q1
      exact hj2 (h.inj j b y o g hj3 hb q2 hg)
    · exfalso
      unfold upd at q1 q2; rw [if_pos rfl] at q2; rw [if_neg (by omega)] at q1
      injection q2 with q2; subst q2
      exact hi2 (h.inj i b x o g hi3 hb q1 hg)
    · unfold upd at q1 q2; rw [if_neg (by omega)] at q1 q2
      exact h.inj i j x y g' hi3 hj3 q1 q2
  · intro i g' hi
    unfold upd at hi; split at hi
    · injection hi with hi; subst hi; exact Nat.lt_of_lt_of_le (h.lt b g hg) hs.size
    · exact Nat.lt_of_lt_of_le (h.lt i g' hi) hs.size
  · intro i g' hi hx
    unfold upd at hi; split at hi
    · injection hi with hi; subst hi; exact h.sep b g hg hx
    · exact h.sep i g' hi hx
  · intro i g' hi
    unfold upd at hi; split at hi
    · simp; omega
    · have := h.dom i g' hi; simp; omega
  · intro i x hi
    rcases key i x hi with ⟨rfl, rfl⟩ | ⟨hi1, hi2, hi3⟩
    · exact ⟨g, by simp [upd], ho⟩
    · obtain ⟨gi, q1, q2⟩ := h.obj i x hi3
      have hne : gi ≠ g := fun e => hi2 (by subst e; exact h.inj i b x o gi hi3 hb q1 hg)
      refine ⟨gi, hfresh i gi q1, O_mono q2 (hs.keep gi (h.lt i gi q1) hne) hfresh (fun g' _ hx => hXX g' hx) (hs.mono fun g' _ e => ?_)⟩
      subst e; exact .inr ⟨b, o, hb, hg⟩
theorem move_X (h : Rel X0 σ hp w) {b g : Nat} {o o' : AObj} (hb : hp[b]? = some (some o)) (hg : σ b = some g) : ∀ g', Xof X0 (upd σ hp.length g) (hp.set b none ++ [some o']) g' → Xof X0 σ hp g' := by
  rintro g' (hx | ⟨i, x, q1, q2⟩)
  · exact .inl hx
  · have hl := (List.getElem?_eq_some_iff.1 q1).1
    simp at hl
    by_cases e : i = hp.length
    · subst e
      unfold upd at q2; rw [if_pos rfl] at q2; injection q2 with q2; subst q2; exact .inr ⟨b, o, hb, hg⟩
    · rw [List.getElem?_append_left (by simp; omega), List.getElem?_set] at q1
      unfold upd at q2; rw [if_neg e] at q2
      by_cases e' : b = i
      · subst e'; simp at q1
      · rw [if_neg e'] at q1; exact .inr ⟨i, x, q1, q2⟩

/-- What append reads of its second operand. -/
structure Src (P : Program) (w : World) (size : Nat) (v : Value) (m : Nat) (news : List Value) : Prop where
  len : (Builtin.lenOf v).run P w = .ok m w
  cells : (Builtin.firstCells size m v).run P w = .ok news.toArray w
  drew : (Builtin.firstCells size m v).run P w.drew = .ok news.toArray w.drew
  length : news.length = m * size
  ones : ∀ u, u ∈ news → one u = true
theorem run_append_in {sT xT e ty : TypeId} {i : TypeInfo} (ht : P.underlying sT = some (.slice e)) (hx : notIntT P xT = true) (hi : P.info? e = some i) {base : Option Addr} {n cap m : Nat} {v : Value} {news : List Value} (hs : Src P w i.size v m news)
    (hroom : n + m ≤ cap) {w' : World} (hst : ∀ a, base = some a → (storeCells (a.add (n * i.size)) news).run P w = .ok () w') (hno : base = none → w' = w) :
    (Builtin.append_ #[sT, xT] ty #[.slice base n cap, v]).run P w = .ok (.slice base (n + m) cap) w' := by
  have hsz : (sizeOf e).run P w = .ok i.size w := by
    simp [sizeOf, typeInfo, hi]
  cases base with
  | none =>
    have := hno rfl; subst this
    rcases notIntT_iff hx with ⟨e', hd⟩ | hd <;> simp [Builtin.append_, run_underlying ht, run_underlying hd, hsz, hs.len, hroom, hs.cells]
  | some a =>
    have := hst a rfl
    rcases notIntT_iff hx with ⟨e', hd⟩ | hd <;> simp [Builtin.append_, run_underlying ht, run_underlying hd, hsz, hs.len, hroom, hs.cells, this]
theorem run_append_out {sT xT e ty : TypeId} {i : TypeInfo} {z : Value} (ht : P.underlying sT = some (.slice e)) (hx : notIntT P xT = true) (hi : P.info? e = some i) (hz : i.zero = some z) {base : Option Addr} {n cap m : Nat} {v : Value} {news olds : List Value} (hs : Src P w i.size v m news)
    (hold : (Builtin.firstCells i.size n (.slice base n cap)).run P w.drew = .ok olds.toArray w.drew)
    (hroom : cap < n + m) (hb : n + m ≤ bnd) (hfit : (n + m) * i.bytes ≤ 140737488355328) :
    (Builtin.append_ #[sT, xT] ty #[.slice base n cap, v]).run P w =
      .ok (.slice (some ⟨w.heap.size, 0, none⟩) (n + m) (grownCap w (n + m) cap e)) (w.drew.alloc (.cells ((olds ++ news).toArray ++ Builtin.zeroCells z.cells (grownCap w (n + m) cap e - (n + m))) e)) := by
  have hn : ¬ (n + m ≤ cap) := by omega
  have h63' : ¬ (9223372036854775807 < ((n : Int) + (m : Int))) := by unfold bnd at hb; omega
  have h48 := growslice_fits (bytes := i.bytes) hroom hfit
  have h48' : ¬ (281474976710656 < Builtin.nextslicecap (n + m) cap * i.bytes) := by omega
  rcases notIntT_iff hx with ⟨e', hd⟩ | hd <;> simp [Builtin.append_, run_underlying ht, run_underlying hd, sizeOf, typeInfo, zeroValue, hi, hz, hs.len, hn, h63', h48', Question.forced, hs.drew, hold, newRow, grownCap] <;> (refine congrArg (fun x => w.drew.alloc (Obj.cells x e)) ?_; apply Array.ext'; simp)

theorem cell_drew' (a : Addr) : w.drew.cell? a = w.cell? a := rfl
theorem src_of_cells {size m cap : Nat} {a : Addr} {news : List Value} (hl : news.length = m * size) (hc : ∀ (j : Nat) (u : Value), news[j]? = some u → w.cell? (a.add j) = some u) (h1 : ∀ u, u ∈ news → one u = true) :
    Src P w size (.slice (some a) m cap) m news :=
  ⟨by simp [Builtin.lenOf], run_firstCells_some w size m a m cap news hl hc, run_firstCells_some w.drew size m a m cap news hl hc, hl, h1⟩
theorem src_nil (size : Nat) : Src P w size (.slice none 0 0) 0 [] :=
  ⟨by simp [Builtin.lenOf], by simp [Builtin.firstCells], by simp [Builtin.firstCells], by simp, by simp⟩
theorem div_mod_idx {j sz : Nat} (hsz : 0 < sz) : j / sz * sz + j % sz = j := by
  rw [Nat.mul_comm]; exact Nat.div_add_mod j sz
theorem asrc_sound {sz : Nat} {x : AV} {v : Value} {m : Nat} {g : Nat → Nat → AV} (hsz : 0 < sz) (hR : Rel X0 σ hp w) (hx : V (Xof X0 σ hp) w σ x v) (h : asrc sz x hp = some (m, g)) :
    ∃ news, Src P w sz v m news ∧ ∀ i c u, i < m → c < sz → news[i * sz + c]? = some u → V (Xof X0 σ hp) w (fun _ => none) (g i c) u := by
  unfold asrc at h
  split at h
  · simp only [Option.some.injEq, Prod.mk.injEq] at h
    obtain ⟨rfl, rfl⟩ := h
    simp only [V] at hx; subst hx
    exact ⟨[], src_nil sz, fun i c u hi => by omega⟩
  · rename_i sz' m' f
    split at h
    · rename_i hs; subst hs
      simp only [Option.some.injEq, Prod.mk.injEq] at h
      obtain ⟨rfl, rfl⟩ := h
      simp only [V] at hx
      obtain ⟨hb, (⟨rfl, hn⟩ | ⟨g', off, cap, rfl, hnc, hg, hX, hc⟩)⟩ := hx
      · subst hn; exact ⟨[], src_nil sz', fun i c u hi => by omega⟩
      · have hex : ∀ j, j < m' * sz' → ∃ u, w.cell? ⟨g', off + j, none⟩ = some u ∧ one u = true ∧ V (Xof X0 σ hp) w (fun _ => none) (f (j / sz') (j % sz')) u := by
          intro j hj
          have h1 : j / sz' < m' := Nat.div_lt_of_lt_mul (by rw [Nat.mul_comm]; exact hj)
          have := hc (j / sz') (j % sz') h1 (Nat.mod_lt _ hsz)
          rw [div_mod_idx hsz] at this; exact this
        refine ⟨(List.range (m' * sz')).map fun j => (w.cell? ⟨g', off + j, none⟩).getD undef, src_of_cells (by simp) ?_ ?_, ?_⟩
        · intro j u hu
          have hj : j < m' * sz' := by have := (List.getElem?_eq_some_iff.1 hu).1; simpa using this
          obtain ⟨u', q1, _⟩ := hex j hj
          simp [hj, q1] at hu
          rw [add_none, q1, hu]
        · intro u hu
          simp only [List.mem_map, List.mem_range] at hu
          obtain ⟨j, hj, rfl⟩ := hu
          obtain ⟨u', q1, q2, _⟩ := hex j hj
          rw [q1]; exact q2
        · intro i c u hi hc' hu
          have hj : i * sz' + c < m' * sz' := by
            have : (i + 1) * sz' ≤ m' * sz' := Nat.mul_le_mul_right _ hi
            rw [Nat.succ_mul] at this; omega
          obtain ⟨u', q1, q2, q3⟩ := hc i c hi hc'
          simp [hj, q1] at hu
          subst hu; exact q3
    · cases h
  · rename_i b sz' lo m'
    split at h
    · rename_i sz'' N f hb
      split at h
      · rename_i hs
        obtain ⟨rfl, rfl, hlm⟩ := hs
        simp only [Option.some.injEq, Prod.mk.injEq] at h
        obtain ⟨rfl, rfl⟩ := h
        simp only [V] at hx
        obtain ⟨hnb, q, o, cap, arr, t, fr, hg, rfl, hnc, ho, hheap, hcs⟩ := hx
        obtain ⟨g', hg', arr', hA, hms, hmb, hV⟩ := hR.obj b _ hb
        rw [hg] at hg'; obtain rfl := Option.some.inj hg'
        have hfit : (lo + m') * sz'' ≤ arr'.size := Nat.le_trans (Nat.mul_le_mul_right _ hlm) hms
        rw [Nat.add_mul] at hfit
        refine ⟨(arr'.toList.drop (lo * sz'')).take (m' * sz''), src_of_cells (by simp; omega) ?_ ?_, ?_⟩
        · intro j u hu
          rw [List.getElem?_take] at hu
          split at hu
          · rename_i hj
            rw [add_none, hA.cell]
            have ho' : o = lo * sz'' := by
              rcases ho with ho | ho
              · exact ho
              · have : m' = 0 := by omega
                subst this; simp at hj
            rw [ho']
            simpa using hu
          · cases hu
        · intro u hu
          exact hA.ones u (List.mem_of_mem_drop (List.mem_of_mem_take hu))
        · intro i c u hi hc' hu
          rw [List.getElem?_take] at hu
          split at hu
          · refine hV (lo + i) c u (by omega) hc' ?_
            rw [List.getElem?_drop] at hu
            rw [Nat.add_mul, Nat.add_assoc]; simpa using hu
          · cases hu
      · cases h
    · cases h
  · cases h
theorem asrcB_sound {x : AV} {v : Value} {l : List UInt8} (hR : Rel X0 σ hp w) (hx : V (Xof X0 σ hp) w σ x v) (h : asrcB x hp = some l) :
    Src P w 1 v l.length (l.map fun b => Value.int .u8 b.toNat) := by
  unfold asrcB at h
  split at h
  · injection h with h; subst h
    simp only [V] at hx; subst hx
    exact src_nil 1
  · rename_i s
    injection h with h; subst h
    simp only [V] at hx; obtain ⟨rfl, _⟩ := hx
    have hf : ∀ w' : World, (Builtin.firstCells 1 s.length (.string ⟨⟨s⟩⟩)).run P w' = .ok (s.map fun b => Value.int .u8 b.toNat).toArray w' := by
      intro w'
      simp only [Builtin.firstCells, Sem.run_pure, ba_extract]
      simp
    exact ⟨by simp [Builtin.lenOf, ba_size], hf w, hf w.drew, by simp, by intro u hu; simp at hu; obtain ⟨b, _, rfl⟩ := hu; rfl⟩
  · rename_i b sz lo m
    split at h
    · rename_i l0 hb
      split at h
      · rename_i hs
        obtain ⟨rfl, hlm⟩ := hs
        injection h with h; subst h
        simp only [V] at hx
        obtain ⟨hnb, q, o, cap, arr, t, fr, hg, rfl, hnc, ho, hheap, hcs⟩ := hx
        obtain ⟨g', hg', arr', hA, hms, hmb, hV⟩ := hR.obj b _ hb
        rw [hg] at hg'; obtain rfl := Option.some.inj hg'
        have hlen : ((l0.drop lo).take m).length = m := by simp; omega
        rw [hlen]
        refine src_of_cells (by simp; omega) ?_ (by intro u hu; obtain ⟨b, _, rfl⟩ := List.mem_map.1 hu; rfl)
        intro j u hu
        simp only [List.getElem?_map, List.getElem?_take, List.getElem?_drop] at hu
        split at hu
        · rename_i hj
          have ho' : o = lo := by rcases ho with ho | ho <;> omega
          have hlt : lo + j < l0.length := by omega
          rw [add_none, hA.cell, ho', hV (lo + j) l0[lo + j] (by simp [hlt])]
          simp [hlt] at hu
          rw [hu]
        · cases hu
      · cases h
    · cases h
  · cases h

theorem firstCells_row {sz n cap : Nat} {g o : Nat} {arr : Array Value} {w' : World} (hA : CellsAt w' g arr) (hfit : n * sz ≤ arr.size) (ho : o = 0 ∨ n = 0) :
    (Builtin.firstCells sz n (.slice (some ⟨g, o, none⟩) n cap)).run P w' = .ok (arr.toList.take (n * sz)).toArray w' := by
  refine run_firstCells_some w' sz n ⟨g, o, none⟩ n cap (arr.toList.take (n * sz)) (by simp; omega) fun j v hj => ?_
  rw [List.getElem?_take] at hj
  split at hj
  · rename_i hjn
    have : o = 0 := by
      rcases ho with ho | ho
      · exact ho
      · subst ho; simp at hjn
    subst this
    rw [add_none, hA.cell]; simpa using hj
  · cases hj
theorem zeroCells_one {z : Array Value} {n : Nat} (hz : ∀ u, u ∈ z.toList → one u = true) : ∀ u, u ∈ (Builtin.zeroCells z n).toList → one u = true := by
  intro u hu
  simp only [Builtin.zeroCells, Array.toList_map, Array.toList_range, List.mem_map, List.mem_range] at hu
  obtain ⟨i, hi, rfl⟩ := hu
  have hp : 0 < z.size := by
    rcases Nat.eq_zero_or_pos z.size with h | h
    · rw [h, Nat.mul_zero] at hi; omega
    · exact h
  have hm : i % z.size < z.size := Nat.mod_lt _ hp
  rw [getElem!_pos z _ hm]
  exact hz _ (by simp)

theorem V_row_at {w' : World} {σ' : Sub} {X : Blk} {b sz lo n g o cap : Nat} {arr : Array Value} (hg : σ' b = some g) (hA : CellsAt w' g arr) (hn : n ≤ bnd) (hc : n ≤ cap) (ho : o = lo * sz ∨ cap = 0) (hsz : (lo + cap) * sz = arr.size) :
    V X w' σ' (.row b sz lo n) (.slice (some ⟨g, o, none⟩) n cap) := by
  obtain ⟨t, fr, e, _⟩ := hA
  simp only [V]
  exact ⟨hn, g, o, cap, arr, t, fr, hg, rfl, hc, ho, e, hsz⟩

/-- What the new object must be: whatever block it gets. -/
def NewObj (Q : Prop) (e : TypeId) (X0 : Blk) (σ : Sub) (hp : Hp) (w : World) (size N : Nat) (all : List Value) (o : AObj) : Prop :=
  ∀ (X' : Blk) (σ' : Sub) (w' : World) (g' : Nat) (arr : Array Value), CellsAt w' g' arr → (Q → TyAt w' g' e) → N * size ≤ arr.size → (∀ j, j < N * size → arr[j]? = all[j]?) →
    (∀ a u, V (Xof X0 σ hp) w (fun _ => none) a u → V X' w' (fun _ => none) a u) → O X' σ' w' g' o

/-- The new block of a row that has grown. -/
theorem grown_push {Q : Prop} {hp0 : Hp} (hR : Rel X0 σ hp w) (hsub : ∀ g, Xof X0 σ hp g → Xof X0 σ hp0 g) {e : TypeId} {i : TypeInfo} {zv : Value} {olds news : List Value} {N cap : Nat} {o : AObj} (hzl : zv.cells.size = i.size) (hz1 : ∀ u, u ∈ zv.cells.toList → one u = true)
    (hol : (olds ++ news).length = N * i.size) (ho1 : ∀ u, u ∈ olds ++ news → one u = true) (hNb : N ≤ bnd) (hO : NewObj Q e X0 σ hp0 w i.size N (olds ++ news) o) :
    ∃ arr : Array Value, arr = (olds ++ news).toArray ++ Builtin.zeroCells zv.cells (grownCap w N cap e - N) ∧
      Rel X0 (upd σ hp.length w.heap.size) (hp ++ [some o]) (w.drew.alloc (.cells arr e)) ∧ Step (fun _ => False) w (w.drew.alloc (.cells arr e)) ∧
      ∀ X, V X (w.drew.alloc (.cells arr e)) (upd σ hp.length w.heap.size) (.row hp.length i.size 0 N) (.slice (some ⟨w.heap.size, 0, none⟩) N (grownCap w N cap e)) := by
  have hge := grownCap_ge w N cap e
  have hsz : ((olds ++ news).toArray ++ Builtin.zeroCells zv.cells (grownCap w N cap e - N)).size = grownCap w N cap e * i.size := by
    rw [Array.size_append, List.size_toArray, hol]
    simp only [Builtin.zeroCells, Array.size_map, Array.size_range, hzl]
    rw [← Nat.add_mul]; congr 1; omega
  have hone : ∀ u, u ∈ ((olds ++ news).toArray ++ Builtin.zeroCells zv.cells (grownCap w N cap e - N)).toList → one u = true := by
    intro u hu
    simp only [Array.toList_append, List.mem_append] at hu
    rcases hu with hu | hu
    · exact ho1 u (by simpa using hu)
    · exact zeroCells_one hz1 u hu
  have hst : Step (fun _ => False) w (w.drew.alloc (.cells ((olds ++ news).toArray ++ Builtin.zeroCells zv.cells (grownCap w N cap e - N)) e)) :=
    (Step.drawn _ w).trans (alloc_step _ w.drew _) (fun _ _ h => h)
  have hN : N * i.size ≤ ((olds ++ news).toArray ++ Builtin.zeroCells zv.cells (grownCap w N cap e - N)).size := by rw [hsz]; exact Nat.mul_le_mul_right _ hge
  have hA : CellsAt (w.drew.alloc (.cells ((olds ++ news).toArray ++ Builtin.zeroCells zv.cells (grownCap w N cap e - N)) e)) w.heap.size ((olds ++ news).toArray ++ Builtin.zeroCells zv.cells (grownCap w N cap e - N)) := cellsAt_new w.drew _ e hone
  refine ⟨_, rfl, hR.push' hst (by simp) (hO _ _ _ _ _ hA (fun _ => tyAt_new w.drew _ e) hN ?_ ?_), hst, fun X => V_row_at (by simp [upd]) hA hNb hge (.inl (by simp)) (by rw [hsz]; simp)⟩
  · intro j hj
    rw [Array.getElem?_append_left (by simpa [hol] using hj)]
    simp
  · intro a u hau
    exact V_mono (fun g hg hx => hsub g (push_fresh hR g hg hx)) (hst.mono fun _ _ h => h.elim) _ _ _ _ (fun _ _ h => h) hau

theorem append_nil_core {Q : Prop} {sT xT e ty : TypeId} {i : TypeInfo} {zv vx : Value} {m : Nat} {news : List Value} {o : AObj} (hR : Rel X0 σ hp w) (ht : P.underlying sT = some (.slice e)) (hxT : notIntT P xT = true) (hi : P.info? e = some i) (hzv : i.zero = some zv)
    (hzl : zv.cells.size = i.size) (hz1 : ∀ u, u ∈ zv.cells.toList → one u = true) (hs : Src P w i.size vx m news) (h0 : m ≠ 0) (hfit : m * i.bytes ≤ 140737488355328) (hb : m ≤ bnd) (hO : NewObj Q e X0 σ hp w i.size m news o) :
    Good P X0 σ hp w (Builtin.append_ #[sT, xT] ty #[.slice none 0 0, vx]) (.row hp.length i.size 0 m) (hp ++ [some o]) := by
  have hrun := run_append_out (P := P) (ty := ty) ht hxT hi hzv (base := none) (n := 0) (cap := 0) (olds := []) hs (by simp [Builtin.firstCells]) (by omega) (by omega) (by simpa using hfit)
  simp only [Nat.zero_add] at hrun
  obtain ⟨arr, rfl, q1, q2, q3⟩ := grown_push hR (fun _ h => h) (N := m) (cap := 0) (e := e) (olds := []) (news := news) (o := o) hzl hz1 (by simpa using hs.length) (by simpa using hs.ones) hb hO
  exact ⟨_, _, _, hrun, hR.fresh, ⟨q2.mono fun _ _ h => h.elim, push_own hR⟩, q1, q3 _⟩

theorem append_row_core {Q : Prop} {sT xT e ty : TypeId} {i : TypeInfo} {zv vs vx : Value} {b n m : Nat} {news : List Value} {o o' : AObj} {arr : Array Value} {g : Nat} (hR : Rel X0 σ hp w) (ht : P.underlying sT = some (.slice e)) (hxT : notIntT P xT = true) (hi : P.info? e = some i) (hzv : i.zero = some zv)
    (hzl : zv.cells.size = i.size) (hz1 : ∀ u, u ∈ zv.cells.toList → one u = true) (hs : Src P w i.size vx m news) (hV : V (Xof X0 σ hp) w σ (.row b i.size 0 n) vs) (hb : hp[b]? = some (some o)) (hg : σ b = some g) (hA : CellsAt w g arr) (hnN : n * i.size ≤ arr.size)
    (hfit : (n + m) * i.bytes ≤ 140737488355328) (hbd : n + m ≤ bnd) (hty : Q → TyAt w g e) (hO : NewObj Q e X0 σ hp w i.size (n + m) (arr.toList.take (n * i.size) ++ news) o') :
    Good P X0 σ hp w (Builtin.append_ #[sT, xT] ty #[vs, vx]) (.row hp.length i.size 0 (n + m)) (hp.set b none ++ [some o']) := by
  simp only [V] at hV
  obtain ⟨hnb, g2, q, cap, arr2, t, fr, hg2, rfl, hnc, ho, hheap, hcs⟩ := hV
  rw [hg] at hg2; obtain rfl := Option.some.inj hg2
  have harr : arr2 = arr := by
    obtain ⟨t2, fr2, e2, _⟩ := hA
    rw [hheap] at e2; injection e2 with e2; injection e2
  subst harr
  have hol : (arr2.toList.take (n * i.size) ++ news).length = (n + m) * i.size := by
    rw [List.length_append, List.length_take, hs.length, Nat.add_mul]; simp; omega
  have hones : ∀ u, u ∈ arr2.toList.take (n * i.size) ++ news → one u = true := by
    intro u hu
    rcases List.mem_append.1 hu with hu | hu
    · exact hA.ones u (List.mem_of_mem_take hu)
    · exact hs.ones u hu
  by_cases hroom : n + m ≤ cap
  · have hnm : (n + m) * i.size ≤ arr2.size := by rw [← hcs, Nat.zero_add]; exact Nat.mul_le_mul_right _ hroom
    have hbound : n * i.size + 0 + news.length ≤ arr2.size := by rw [hs.length]; rw [Nat.add_mul] at hnm; omega
    have hst0 := run_storeCells_over P g (n * i.size) news 0 w arr2 hA hbound hs.ones
    simp only [Nat.add_zero] at hst0
    have hsz' : (over arr2.toList (n * i.size) news).toArray.size = arr2.size := by simp [over_length]
    have hA' := setArr_same hA hsz' (by simpa using over_one _ _ _ hA.ones hs.ones)
    have hst := setArr_step hA hsz'
    have hrun := run_append_in (P := P) (ty := ty) ht hxT hi (base := some ⟨g, q, none⟩) (n := n) (cap := cap) hs hroom (w' := setArr w g (over arr2.toList (n * i.size) news).toArray) (by
      rintro a ha; injection ha with ha; subst ha
      rw [add_none]
      rcases ho with ho | ho
      · rw [ho, Nat.zero_mul, Nat.zero_add]; exact hst0
      · have hm0 : m = 0 := by omega
        have hn0 : n = 0 := by omega
        subst hm0; subst hn0
        have e1 : news = [] := List.eq_nil_of_length_eq_zero (by have := hs.length; omega)
        subst e1
        simp only [storeCells, over] at hst0 ⊢
        exact hst0) (by simp)
    refine ⟨_, _, upd σ hp.length g, hrun, fun j x hj => ?_, ⟨hst.mono fun x _ e => own_mem hb hg x e, fun g' hg' hx => ?_⟩, hR.move hb hg hst (hO _ _ _ _ _ hA' (fun hq => (hty hq).step hst) (by rw [hsz']; exact hnm) ?_ ?_), V_row_at (by simp [upd]) hA' hbd hroom ho (by rw [hsz']; exact hcs)⟩
    · have := hR.dom j x hj; unfold upd; rw [if_neg (by omega)]; exact hj
    · rcases move_X hR hb hg g' (.inr hx) with hx | hx
      · obtain ⟨i, x, q1, q2⟩ := id ‹Own (upd σ hp.length g) _ g'›
        exfalso
        unfold upd at q2
        split at q2
        · injection q2 with q2; subst q2; exact hR.sep b _ hg hx
        · exact hR.sep i g' q2 hx
      · exact hx
    · intro j hj
      simp only [List.getElem?_toArray]
      rw [over_get _ _ _ _ (by simp; rw [hs.length]; rw [Nat.add_mul] at hnm; omega)]
      rw [hs.length, ← Nat.add_mul]
      by_cases hjn : n * i.size ≤ j
      · rw [if_pos ⟨hjn, hj⟩, List.getElem?_append_right (by simp; omega)]
        congr 1
        simp; omega
      · rw [if_neg (by omega), List.getElem?_append_left (by simp; omega), List.getElem?_take, if_pos (by omega)]
    · intro a u hau
      exact V_mono (fun g' _ hx => move_X hR hb hg g' hx) (hst.mono fun x _ e => .inr (own_mem hb hg x e)) _ _ _ _ (fun _ _ h => h) hau
  · have hrun := run_append_out (P := P) (ty := ty) ht hxT hi hzv (base := some ⟨g, q, none⟩) (n := n) (cap := cap) (olds := arr2.toList.take (n * i.size)) hs (by
      refine firstCells_row (w' := w.drew) hA hnN ?_
      rcases ho with ho | ho
      · left; rw [ho, Nat.zero_mul]
      · right; omega) (by omega) hbd hfit
    have hk := hR.kill b
    obtain ⟨arr', rfl, q1, q2, q3⟩ := grown_push hk (hp0 := hp) (fun g' hx => by rcases hx with hx | hx; exact .inl hx; exact .inr (own_kill hx)) (N := n + m) (cap := cap) (e := e) (olds := arr2.toList.take (n * i.size)) (news := news) (o := o') hzl hz1 hol hones hbd hO
    simp only [List.length_set] at q1 q3
    refine ⟨_, _, _, hrun, hR.fresh, ⟨q2.mono fun _ _ h => h.elim, fun g' hg' hx => own_kill (push_own hk (o := o') g' hg' ?_)⟩, q1, q3 _⟩
    simpa using hx

theorem aappend_sound {sT xT ty : TypeId} {s x a : AV} {vs vx : Value} {hp' : Hp} (hR : Rel X0 σ hp w) (hs : V (Xof X0 σ hp) w σ s vs) (hx : V (Xof X0 σ hp) w σ x vx) (h : aappend P sT xT s x hp = some (a, hp')) :
    Good P X0 σ hp w (Builtin.append_ #[sT, xT] ty #[vs, vx]) a hp' := by
  unfold aappend at h
  split at h
  · rename_i e ht
    split at h
    · rename_i i z hi hz
      split at h
      · rename_i hc
        obtain ⟨hsz, hzl, hxT⟩ := hc
        obtain ⟨zv, z1, z2, z3⟩ := azero_sound (X := Xof X0 σ hp) (σ := σ) (w := w) hz
        have hzv : i.zero = some zv := by
          have : (zeroValue e).run P w = .ok zv w := z1
          simp only [zeroValue, typeInfo, Sem.run_bind, run_program, Result.andThen_ok, hi, Sem.run_pure] at this
          cases hz0 : i.zero with
          | none => rw [hz0] at this; simp at this
          | some q => rw [hz0] at this; simp at this; rw [this]
        have hzsz : zv.cells.size = i.size := by have := VL_length z2; simp at this; omega
        split at h
        · -- bytes
          rename_i hby
          obtain ⟨hby, h1⟩ := hby
          split at h
          · cases h
          · rename_i l' hl'
            have hsrc := asrcB_sound (P := P) hR hx hl'
            have hsrc' : Src P w i.size vx l'.length (l'.map fun b => Value.int .u8 b.toNat) := by rw [h1]; exact hsrc
            split at h
            · -- nil
              simp only [V] at hs; subst hs
              split at h
              · rename_i h0
                simp only [Option.some.injEq, Prod.mk.injEq] at h
                obtain ⟨rfl, rfl⟩ := h
                have := run_append_in (P := P) (ty := ty) ht hxT hi (base := none) (n := 0) (cap := 0) hsrc' (by omega) (w' := w) (by simp) (fun _ => rfl)
                rw [h0] at this
                exact Good.pure' hR this (by simp only [V])
              · rename_i h0
                split at h
                · rename_i hfit
                  simp only [Option.some.injEq, Prod.mk.injEq] at h
                  obtain ⟨rfl, rfl⟩ := h
                  have := append_nil_core (Q := True) (P := P) (ty := ty) (o := .bytes l') hR ht hxT hi hzv hzsz z3 hsrc' h0 hfit.1 hfit.2 (fun X' σ' w' g' arr hA hT hN hget _ => ⟨arr, hA, by rw [h1] at hN; omega, ⟨hfit.2, isByteT_five hby ▸ hT trivial⟩, fun j b hj => by
                    have hlt := (List.getElem?_eq_some_iff.1 hj).1
                    rw [hget j (by rw [h1]; omega)]; simp [hj]⟩)
                  rw [h1] at this; exact this
                · cases h
            · -- a row
              rename_i b sz lo n
              split at h
              · rename_i l hb
                split at h
                · rename_i hq
                  obtain ⟨rfl, rfl, rfl⟩ := hq
                  split at h
                  · rename_i hfit
                    simp only [Option.some.injEq, Prod.mk.injEq] at h
                    obtain ⟨rfl, rfl⟩ := h
                    obtain ⟨g, hg, arr, hA, hms, hmb, hV⟩ := hR.obj b _ hb
                    have := append_row_core (P := P) (ty := ty) (n := l.length) (o' := .bytes (l ++ l')) hR ht hxT hi hzv hzsz z3 hsrc' (by rw [h1]; exact hs) hb hg hA (by rw [h1]; omega) hfit.1 hfit.2 (Q := True) (fun _ => (isByteT_five hby).symm ▸ hmb.2) (fun X' σ' w' g' arr' hA' hT hN hget _ => ⟨arr', hA', by rw [h1] at hN; simp; omega, ⟨by simpa using hfit.2, isByteT_five hby ▸ hT trivial⟩, fun j b' hj => by
                      have hlt := (List.getElem?_eq_some_iff.1 hj).1
                      simp at hlt
                      rw [hget j (by rw [h1]; omega)]
                      rw [List.getElem?_append] at hj
                      split at hj
                      · rename_i hjl
                        rw [List.getElem?_append_left (by simp; rw [h1]; omega), List.getElem?_take, if_pos (by rw [h1]; omega)]
                        simpa using hV j b' hj
                      · rename_i hjl
                        have e1 : (arr.toList.take (l.length * i.size)).length = l.length := by simp; rw [h1]; omega
                        rw [List.getElem?_append_right (by omega), e1]
                        simp [hj]⟩)
                    rw [h1] at this; exact this
                  · cases h
                · cases h
              · cases h
            · cases h
        · -- in general
          split at h
          · cases h
          · rename_i m gf hsr
            obtain ⟨news, hsrc, hnV⟩ := asrc_sound (P := P) hsz hR hx hsr
            split at h
            · simp only [V] at hs; subst hs
              split at h
              · rename_i h0
                simp only [Option.some.injEq, Prod.mk.injEq] at h
                obtain ⟨rfl, rfl⟩ := h
                have := run_append_in (P := P) (ty := ty) ht hxT hi (base := none) (n := 0) (cap := 0) hsrc (by omega) (w' := w) (by simp) (fun _ => rfl)
                rw [h0] at this
                exact Good.pure' hR this (by simp only [V])
              · rename_i h0
                split at h
                · rename_i hfit
                  simp only [Option.some.injEq, Prod.mk.injEq] at h
                  obtain ⟨rfl, rfl⟩ := h
                  exact append_nil_core (Q := False) (P := P) (ty := ty) (o := .row i.size m gf) hR ht hxT hi hzv hzsz z3 hsrc h0 hfit.1 hfit.2 (fun X' σ' w' g' arr hA _ hN hget hm => ⟨arr, hA, hN, hfit.2, fun k c u hk hc hu => by
                    have hlt : k * i.size + c < m * i.size := by
                      have : (k + 1) * i.size ≤ m * i.size := Nat.mul_le_mul_right _ hk
                      rw [Nat.succ_mul] at this; omega
                    rw [hget _ hlt] at hu
                    exact hm _ _ (hnV k c u hk hc hu)⟩)
                · cases h
            · rename_i b sz lo n
              split at h
              · rename_i sz' N f hb
                split at h
                · rename_i hq
                  obtain ⟨rfl, rfl, rfl, rfl⟩ := hq
                  split at h
                  · rename_i hfit
                    simp only [Option.some.injEq, Prod.mk.injEq] at h
                    obtain ⟨rfl, rfl⟩ := h
                    obtain ⟨g, hg, arr, hA, hms, hmb, hV⟩ := hR.obj b _ hb
                    exact append_row_core (P := P) (ty := ty) (n := n) (o' := .row i.size (n + m) (appX x n f gf)) hR ht hxT hi hzv hzsz z3 hsrc hs hb hg hA hms hfit.1 hfit.2 (Q := False) False.elim (fun X' σ' w' g' arr' hA' _ hN hget hm => ⟨arr', hA', hN, hfit.2, fun k c u hk hc hu => by
                      have hlt : k * i.size + c < (n + m) * i.size := by
                        have : (k + 1) * i.size ≤ (n + m) * i.size := Nat.mul_le_mul_right _ hk
                        rw [Nat.succ_mul] at this; omega
                      rw [hget _ hlt] at hu
                      have e1 : (arr.toList.take (n * i.size)).length = n * i.size := by simp; omega
                      rw [appX_eq hsr hk]
                      unfold appF
                      by_cases hkn : k < n
                      · rw [if_pos hkn]
                        have hlt2 : k * i.size + c < n * i.size := by
                          have : (k + 1) * i.size ≤ n * i.size := Nat.mul_le_mul_right _ hkn
                          rw [Nat.succ_mul] at this; omega
                        rw [List.getElem?_append_left (by omega), List.getElem?_take, if_pos hlt2] at hu
                        exact hm _ _ (hV k c u hkn hc (by simpa using hu))
                      · rw [if_neg hkn]
                        have hge2 : n * i.size ≤ k * i.size + c := by
                          have : n * i.size ≤ k * i.size := Nat.mul_le_mul_right _ (by omega)
                          omega
                        rw [List.getElem?_append_right (by omega), e1] at hu
                        refine hm _ _ (hnV (k - n) c u (by omega) hc ?_)
                        rw [← hu]; congr 1
                        rw [Nat.sub_mul]
                        have : n * i.size ≤ k * i.size := Nat.mul_le_mul_right _ (by omega)
                        omega⟩)
                  · cases h
                · cases h
              · cases h
            · cases h
      · cases h
    · cases h
  · cases h

/-- Places written over by other ones. -/
def inF (n m : Nat) (f g : Nat → Nat → AV) : Nat → Nat → AV := fun i => bif Nat.ble n i && Nat.blt i (n + m) then g (i - n) else f i
theorem inF_eq (n m : Nat) (f g : Nat → Nat → AV) (i : Nat) : inF n m f g i = if n ≤ i ∧ i < n + m then g (i - n) else f i := by
  unfold inF
  by_cases h1 : n ≤ i <;> by_cases h2 : i < n + m
  · have e1 : Nat.ble n i = true := Nat.ble_eq_true_of_le h1
    have e2 : Nat.blt i (n + m) = true := by rw [Nat.blt_eq]; exact h2
    rw [e1, e2, if_pos ⟨h1, h2⟩]; rfl
  · have e2 : Nat.blt i (n + m) = false := by rw [Bool.eq_false_iff]; intro q; rw [Nat.blt_eq] at q; exact h2 q
    rw [e2, if_neg (fun q => h2 q.2), Bool.and_false]; rfl
  · have e1 : Nat.ble n i = false := by rw [Bool.eq_false_iff]; intro q; exact h1 (Nat.le_of_ble_eq_true q)
    rw [e1, if_neg (fun q => h1 q.1), Bool.false_and]; rfl
  · have e1 : Nat.ble n i = false := by rw [Bool.eq_false_iff]; intro q; exact h1 (Nat.le_of_ble_eq_true q)
    rw [e1, if_neg (fun q => h1 q.1), Bool.false_and]; rfl

/-- Cells written over in a row's own block. -/
theorem over_row {b g sz N lo m : Nat} {f gf : Nat → Nat → AV} {arr : Array Value} {news : List Value} (hR : Rel X0 σ hp w) (hb : hp[b]? = some (some (.row sz N f))) (hg : σ b = some g) (hA : CellsAt w g arr) (hms : N * sz ≤ arr.size) (hmb : N ≤ bnd)
    (hV : ∀ i c u, i < N → c < sz → arr[i * sz + c]? = some u → V (Xof X0 σ hp) w (fun _ => none) (f i c) u) (hlm : lo + m ≤ N) (hl : news.length = m * sz) (h1 : ∀ u, u ∈ news → one u = true)
    (hn : ∀ i c u, i < m → c < sz → news[i * sz + c]? = some u → V (Xof X0 σ hp) w (fun _ => none) (gf i c) u) :
    (storeCells ⟨g, lo * sz, none⟩ news).run P w = .ok () (setArr w g (over arr.toList (lo * sz) news).toArray) ∧ Step (fun x => x = g) w (setArr w g (over arr.toList (lo * sz) news).toArray) ∧
      Rel X0 σ (hp.set b (some (.row sz N (inF lo m f gf)))) (setArr w g (over arr.toList (lo * sz) news).toArray) ∧
      CellsAt (setArr w g (over arr.toList (lo * sz) news).toArray) g (over arr.toList (lo * sz) news).toArray ∧ (over arr.toList (lo * sz) news).toArray.size = arr.size := by
  have hfit : (lo + m) * sz ≤ arr.size := Nat.le_trans (Nat.mul_le_mul_right _ hlm) hms
  rw [Nat.add_mul] at hfit
  have hbound : lo * sz + 0 + news.length ≤ arr.size := by omega
  have hst0 := run_storeCells_over P g (lo * sz) news 0 w arr hA hbound h1
  simp only [Nat.add_zero] at hst0
  have hsz' : (over arr.toList (lo * sz) news).toArray.size = arr.size := by simp [over_length]
  have hA' := setArr_same hA hsz' (by simpa using over_one _ _ _ hA.ones h1)
  have hst := setArr_step hA hsz'
  have hmono : ∀ a u, V (Xof X0 σ hp) w (fun _ => none) a u → V (Xof X0 σ hp) (setArr w g (over arr.toList (lo * sz) news).toArray) (fun _ => none) a u := fun a u hau =>
    V_mono (fun _ _ h => h) (hst.mono fun x _ e => .inr (own_mem hb hg x e)) _ _ _ _ (fun _ _ h => h) hau
  refine ⟨hst0, hst, hR.set hb hg hst ⟨_, hA', by rw [hsz']; exact hms, hmb, fun i c u hi hc hu => ?_⟩, hA', hsz'⟩
  simp only [List.getElem?_toArray] at hu
  rw [over_get _ _ _ _ (by simp; omega)] at hu
  rw [inF_eq]
  by_cases hin : lo ≤ i ∧ i < lo + m
  · rw [if_pos hin]
    have e1 : lo * sz ≤ i * sz := Nat.mul_le_mul_right _ hin.1
    have e2 : (i + 1) * sz ≤ (lo + m) * sz := Nat.mul_le_mul_right _ hin.2
    rw [Nat.succ_mul, Nat.add_mul] at e2
    rw [if_pos ⟨by omega, by omega⟩] at hu
    refine hmono _ _ (hn (i - lo) c u (by omega) hc ?_)
    rw [← hu]; congr 1
    rw [Nat.sub_mul]; omega
  · rw [if_neg hin]
    have e0 : ¬ (lo * sz ≤ i * sz + c ∧ i * sz + c < lo * sz + news.length) := by
      rintro ⟨q1, q2⟩
      apply hin
      constructor
      · rcases Nat.lt_or_ge i lo with hlt | hge
        · exfalso
          have : (i + 1) * sz ≤ lo * sz := Nat.mul_le_mul_right _ hlt
          rw [Nat.succ_mul] at this; omega
        · exact hge
      · rcases Nat.lt_or_ge i (lo + m) with hlt | hge
        · exact hlt
        · exfalso
          have : (lo + m) * sz ≤ i * sz := Nat.mul_le_mul_right _ hge
          rw [Nat.add_mul] at this; omega
    rw [if_neg e0] at hu
    exact hmono _ _ (hV i c u hi hc (by simpa using hu))

/-- Append a row's own tail behind its own head: in place. -/
def sameRow (s x : AV) : Bool := match s, x with
  | .row b _ _ _, .row b' _ _ _ => Nat.beq b b'
  | _, _ => false
def aappendI (P : Program) (sT xT : TypeId) (s x : AV) (hp : Hp) : Option (AV × Hp) :=
  match P.underlying sT with
  | some (.slice e) =>
    match P.info? e with
    | some i => if 0 < i.size ∧ notIntT P xT = true then
        match asrc i.size x hp with
        | some (m, g) => match s with
          | .row b sz lo n => match hp[b]? with
            | some (some (.row sz' N f)) => if sz = i.size ∧ sz' = i.size ∧ lo = 0 ∧ n + m ≤ N then some (.rowc b sz (n + m) N, hp.set b (some (.row sz N (inF n m f g)))) else none
            | _ => none
          | _ => none
        | none => none
      else none
    | none => none
  | _ => none
theorem aappendI_sound {sT xT ty : TypeId} {s x a : AV} {vs vx : Value} {hp' : Hp} (hR : Rel X0 σ hp w) (hs : V (Xof X0 σ hp) w σ s vs) (hx : V (Xof X0 σ hp) w σ x vx) (h : aappendI P sT xT s x hp = some (a, hp')) :
    Good P X0 σ hp w (Builtin.append_ #[sT, xT] ty #[vs, vx]) a hp' := by
  unfold aappendI at h
  split at h
  · rename_i e ht
    split at h
    · rename_i i hi
      split at h
      · rename_i hc
        obtain ⟨hsz, hxT⟩ := hc
        split at h
        · rename_i m gf hsr
          obtain ⟨news, hsrc, hnV⟩ := asrc_sound (P := P) hsz hR hx hsr
          split at h
          · rename_i b sz lo n
            split at h
            · rename_i sz' N f hb
              split at h
              · rename_i hq
                obtain ⟨rfl, rfl, rfl, hnm⟩ := hq
                simp only [Option.some.injEq, Prod.mk.injEq] at h
                obtain ⟨rfl, rfl⟩ := h
                obtain ⟨g, hg, arr, hA, hms, hmb, hV⟩ := hR.obj b _ hb
                simp only [V] at hs
                obtain ⟨hnb, g2, q, cap, arr2, t, fr, hg2, rfl, hnc, ho, hheap, hcs⟩ := hs
                rw [hg] at hg2; obtain rfl := Option.some.inj hg2
                have harr : arr2 = arr := by
                  obtain ⟨t2, fr2, e2, _⟩ := hA
                  rw [hheap] at e2; injection e2 with e2; injection e2
                subst harr
                have hNc : N ≤ cap := by
                  rcases Nat.lt_or_ge cap N with hlt | hge
                  · exfalso
                    have h1 : (cap + 1) * i.size ≤ N * i.size := Nat.mul_le_mul_right _ hlt
                    rw [Nat.succ_mul] at h1
                    rw [Nat.zero_add] at hcs
                    omega
                  · exact hge
                obtain ⟨r1, r2, r3, r4, r5⟩ := over_row (P := P) (lo := n) (m := m) (gf := gf) hR hb hg hA hms hmb hV hnm hsrc.length hsrc.ones hnV
                have hrun := run_append_in (P := P) (ty := ty) ht hxT hi (base := some ⟨g, q, none⟩) (n := n) (cap := cap) hsrc (by omega) (w' := setArr w g (over arr2.toList (n * i.size) news).toArray) (by
                  rintro a ha; injection ha with ha; subst ha
                  rw [add_none]
                  rcases ho with ho | ho
                  · rw [ho, Nat.zero_mul, Nat.zero_add]; exact r1
                  · have hm0 : m = 0 := by omega
                    have hn0 : n = 0 := by omega
                    subst hm0; subst hn0
                    have e1 : news = [] := List.eq_nil_of_length_eq_zero (by have := hsrc.length; omega)
                    subst e1
                    simp only [storeCells, over] at r1 ⊢
                    exact r1) (by simp)
                refine ⟨_, _, σ, hrun, fun _ _ h => h, ⟨r2.mono fun x _ e => own_mem hb hg x e, fun q _ h => (own_set (g := 0) hb q).1 h⟩, r3, ?_⟩
                obtain ⟨t4, fr4, e4, _⟩ := r4
                simp only [V]
                refine ⟨by omega, g, q, cap, _, t4, fr4, hg, rfl, by omega, hNc, ?_, e4, ?_⟩
                · rcases ho with ho | ho
                  · left; rw [ho, Nat.zero_mul]
                  · exact .inr ho
                · rw [r5, ← hcs, Nat.zero_add]
              · cases h
            · cases h
          · cases h
        · cases h
      · cases h
    · cases h
  · cases h
end
end Go.Ab
namespace Go.Ab
open Go Go.MapKept
set_option linter.unusedVariables false
set_option linter.unusedSimpArgs false

/-! ### maps of texts to texts -/
abbrev SMap := List (List UInt8 × List UInt8)
def lookM (k : List UInt8) : SMap → Option (List UInt8)
  | [] => none
  | p :: r => bif k == p.1 then some p.2 else lookM k r
def putM (k v : List UInt8) : SMap → SMap
  | [] => [(k, v)]
  | p :: r => bif k == p.1 then (k, v) :: r else p :: putM k v r
def idxM (k : List UInt8) : SMap → Option Nat
  | [] => none
  | p :: r => bif k == p.1 then some 0 else (idxM k r).map (· + 1)
def strT (P : Program) (t : TypeId) : Bool := match P.underlying t with
  | some .string => true
  | _ => false
def amakeMap (P : Program) (t : TypeId) (hp : Hp) : Option (AV × Hp) :=
  match P.underlying t with
  | some (.map kt et) => if strT P kt = true ∧ strT P et = true then some (.map hp.length, hp ++ [some (.smap [])]) else none
  | _ => none
def strZ (P : Program) (t : TypeId) : Bool := match P.info? t with
  | some i => match i.zero with
    | some (.string s) => s.size == 0
    | _ => false
  | none => false
def alookup (P : Program) (t : TypeId) (x ix : AV) (ok : Bool) (hp : Hp) : Option AV :=
  match P.underlying t, x, ix with
  | some (.map kt et), .map b, .str k => match hp[b]? with
    | some (some (.smap m)) => if strT P kt = true ∧ strT P et = true ∧ strZ P et = true then
        some (match ok with
          | true => .tup [.str ((lookM k m).getD []), .bool (lookM k m).isSome]
          | false => .str ((lookM k m).getD [])) else none
    | _ => none
  | _, _, _ => none
def aupdate (P : Program) (t : TypeId) (x k v : AV) (hp : Hp) : Option Hp :=
  match P.underlying t, x, k, v with
  | some (.map kt et), .map b, .str k, .str v => match hp[b]? with
    | some (some (.smap m)) => if strT P kt = true then some (hp.set b (some (.smap (putM k v m)))) else none
    | _ => none
  | _, _, _, _ => none
theorem strT_iff {P : Program} {t : TypeId} (h : strT P t = true) : P.underlying t = some .string := by
  unfold strT at h; split at h <;> simp_all
theorem strZ_run {P : Program} {t : TypeId} {w : World} (h : strZ P t = true) : (zeroValue t).run P w = .ok (.string ⟨⟨[]⟩⟩) w := by
  unfold strZ at h
  split at h
  · rename_i i hi
    split at h
    · rename_i s hz
      have hs : s = ⟨⟨[]⟩⟩ := by
        have : s.size = 0 := by simpa using h
        obtain ⟨⟨l⟩⟩ := s
        cases l with
        | nil => rfl
        | cons b l => simp [ByteArray.size] at this
      subst hs
      simp [zeroValue, typeInfo, hi, hz]
    · cases h
  · cases h
theorem strs_eq {a b : List UInt8} : ((⟨⟨a⟩⟩ : ByteArray) == ⟨⟨b⟩⟩) = (a == b) := by
  rw [Bool.eq_iff_iff, bytes_beq, beq_iff_eq]
  constructor
  · intro h
    have := congrArg (fun x : ByteArray => x.data.toList) h
    simpa using this
  · rintro rfl; rfl
theorem findNow_map (k : List UInt8) : ∀ (es : List MapEntry) (m : SMap) (i : Nat), es.map (fun e => (e.key, e.val)) = m.map (fun p => (Value.string ⟨⟨p.1⟩⟩, Value.string ⟨⟨p.2⟩⟩)) →
    Instr.findNow .string (.string ⟨⟨k⟩⟩) es i = some (match idxM k m, lookM k m with
      | some j, some v => some (i + j, .string ⟨⟨v⟩⟩)
      | _, _ => none)
  | [], [], i, _ => rfl
  | [], p :: m, i, h => by simp at h
  | e :: es, [], i, h => by simp at h
  | e :: es, p :: m, i, h => by
    simp only [List.map_cons, List.cons.injEq, Prod.mk.injEq] at h
    obtain ⟨⟨h1, h2⟩, h3⟩ := h
    have ih := findNow_map k es m (i + 1) h3
    unfold Instr.findNow
    rw [h1, h2]
    simp only [Instr.sameNow, strs_eq]
    unfold idxM lookM
    cases hk : k == p.1 with
    | true => simp
    | false =>
      simp only [cond_false]
      rw [ih]
      cases idxM k m with
      | none => rfl
      | some j =>
        cases lookM k m with
        | none => rfl
        | some v => simp only [Option.map_some]; congr 3; omega
theorem idx_look (k : List UInt8) : ∀ m : SMap, (idxM k m).isSome = (lookM k m).isSome
  | [] => rfl
  | p :: m => by
    unfold idxM lookM
    cases k == p.1 with
    | true => rfl
    | false => simp only [cond_false, Option.isSome_map]; exact idx_look k m
theorem idx_get (k : List UInt8) : ∀ (m : SMap) (j : Nat), idxM k m = some j → ∃ v, m[j]? = some (k, v) ∧ j < m.length ∧ ∀ v', m.set j (k, v') = putM k v' m
  | [], j, h => by cases h
  | p :: m, j, h => by
    unfold idxM at h
    cases hk : k == p.1 with
    | true =>
      rw [hk, cond_true] at h
      injection h with h; subst h
      have e : p.1 = k := (by simpa using hk : k = p.1).symm
      refine ⟨p.2, by simp [← e], by simp, fun v' => ?_⟩
      unfold putM
      rw [hk]; rfl
    | false =>
      rw [hk, cond_false] at h
      obtain ⟨j', h1, h2⟩ := Option.map_eq_some_iff.1 h
      subst h2
      obtain ⟨v, q1, q2, q3⟩ := idx_get k m j' h1
      refine ⟨v, by simpa using q1, by simp; omega, fun v' => ?_⟩
      unfold putM
      rw [hk, cond_false, ← q3 v']; rfl
theorem idx_none (k : List UInt8) : ∀ (m : SMap), idxM k m = none → ∀ v', m ++ [(k, v')] = putM k v' m
  | [], h, v' => rfl
  | p :: m, h, v' => by
    unfold idxM at h
    unfold putM
    cases hk : k == p.1 with
    | true => rw [hk] at h; cases h
    | false =>
      rw [hk, cond_false] at h
      rw [cond_false, ← idx_none k m (by simpa using h) v']; rfl
theorem look_mem (k : List UInt8) : ∀ (m : SMap) (v : List UInt8), lookM k m = some v → ∃ p, p ∈ m ∧ p.2 = v
  | [], v, h => by cases h
  | p :: m, v, h => by
    unfold lookM at h
    cases hk : k == p.1 with
    | true => rw [hk, cond_true] at h; injection h with h; exact ⟨p, by simp, h⟩
    | false =>
      rw [hk, cond_false] at h
      obtain ⟨q, h1, h2⟩ := look_mem k m v h
      exact ⟨q, by simp [h1], h2⟩
theorem put_mem (k v : List UInt8) : ∀ (m : SMap) (p : List UInt8 × List UInt8), p ∈ putM k v m → p = (k, v) ∨ p ∈ m
  | [], p, h => by simp [putM] at h; exact .inl h
  | q :: m, p, h => by
    unfold putM at h
    cases hk : k == q.1 with
    | true =>
      rw [hk, cond_true] at h
      rcases List.mem_cons.1 h with h | h
      · exact .inl h
      · exact .inr (by simp [h])
    | false =>
      rw [hk, cond_false] at h
      rcases List.mem_cons.1 h with h | h
      · exact .inr (by simp [h])
      · rcases put_mem k v m p h with h | h
        · exact .inl h
        · exact .inr (by simp [h])
/-! ### What a map says -/
theorem look_put (k v k' : List UInt8) : ∀ m : SMap, lookM k' (putM k v m) = bif k' == k then some v else lookM k' m
  | [] => rfl
  | p :: m => by
    unfold putM
    cases hk : k == p.1 with
    | true =>
      have e : k = p.1 := by simpa using hk
      rw [cond_true]
      show (bif k' == k then some v else lookM k' m) = bif k' == k then some v else (bif k' == p.1 then some p.2 else lookM k' m)
      cases hc : k' == k with
      | true => rfl
      | false =>
        rw [cond_false, cond_false, ← e, hc]; rfl
    | false =>
      rw [cond_false]
      show (bif k' == p.1 then some p.2 else lookM k' (putM k v m)) = _
      rw [look_put k v k' m]
      show _ = bif k' == k then some v else (bif k' == p.1 then some p.2 else lookM k' m)
      cases hc : k' == k with
      | true =>
        have e : k' = k := by simpa using hc
        rw [e, hk]; rfl
      | false => rfl
section
variable {P : Program} {X0 : Blk} {σ : Sub} {hp : Hp} {w : World} {X : Blk}
theorem amakeMap_sound {t : TypeId} {a : AV} {hp' : Hp} (hR : Rel X0 σ hp w) (h : amakeMap P t hp = some (a, hp')) : Good P X0 σ hp w (Instr.makeMap t none) a hp' := by
  unfold amakeMap at h
  split at h
  · split at h
    · simp only [Option.some.injEq, Prod.mk.injEq] at h
      obtain ⟨rfl, rfl⟩ := h
      have hnew : (w.alloc (.map #[] 0)).heap[w.heap.size]? = some (.map #[] 0) := by show (w.heap.push _)[_]? = _; simp
      refine ⟨.map (some w.heap.size), w.alloc (.map #[] 0), _, by simp [Instr.makeMap], hR.fresh, ⟨alloc_step _ _ _, push_own hR⟩, hR.push ⟨#[], 0, hnew, rfl, by simp⟩, ?_⟩
      simp only [V]
      exact ⟨_, by simp [upd], rfl⟩
    · cases h
  · cases h
theorem alookup_run {t : TypeId} {x ix a : AV} {v u : Value} {ok : Bool} (hR : Rel X0 σ hp w) (hx : V (Xof X0 σ hp) w σ x v) (hi : V (Xof X0 σ hp) w σ ix u) (h : alookup P t x ix ok hp = some a) :
    ∃ z, (Instr.lookup t v u ok).run P w = .ok z w ∧ V (Xof X0 σ hp) w σ a z := by
  unfold alookup at h
  split at h
  · rename_i kt et b k hu
    split at h
    · rename_i m hb
      split at h
      · rename_i hc
        injection h with h
        obtain ⟨c1, c2, c3⟩ := hc
        simp only [V] at hx hi
        obtain ⟨g, hg, rfl⟩ := hx
        obtain ⟨rfl, _⟩ := hi
        obtain ⟨g', hg', arr, clock, h1, h2, h3⟩ := hR.obj b _ hb
        rw [hg] at hg'; obtain rfl := Option.some.inj hg'
        have hf := findNow_map k arr.toList m 0 h2
        have hl := idx_look k m
        have hk : IsKey .string (.string ⟨⟨k⟩⟩) := by simp [IsKey]
        have hck := run_checkKey (P := P) (w := w) (strT_iff c1) hk arr.isEmpty 9999
        have hfk := run_findKey (P := P) (w := w) (l := arr.toList) (strT_iff c1) hf
        have hz := strZ_run (P := P) (w := w) c3
        have hrun : (Instr.lookup t (.map (some g)) (.string ⟨⟨k⟩⟩) ok).run P w = .ok (if ok then .tuple #[.string ⟨⟨(lookM k m).getD []⟩⟩, .bool (lookM k m).isSome] else .string ⟨⟨(lookM k m).getD []⟩⟩) w := by
          simp only [Instr.lookup, Sem.run_bind, run_underlying hu, Result.andThen_ok, MapKept.run_getObj_map (P := P) h1, Sem.run_pure, hck, hfk]
          cases hix : idxM k m with
          | none =>
            rw [hix] at hl
            have hlk : lookM k m = none := by cases hq : lookM k m with
              | none => rfl
              | some v => rw [hq] at hl; cases hl
            rw [hlk]
            simp only [Sem.run_bind, hz, Result.andThen_ok, Sem.run_pure]
            cases ok <;> rfl
          | some j =>
            rw [hix] at hl
            obtain ⟨v, hv⟩ : ∃ v, lookM k m = some v := by cases hq : lookM k m with
              | none => rw [hq] at hl; cases hl
              | some v => exact ⟨v, rfl⟩
            rw [hv]
            simp only [Sem.run_bind, Result.andThen_ok, Sem.run_pure]
            cases ok <;> rfl
        have hlen : ((lookM k m).getD []).length ≤ bnd := by
          cases hq : lookM k m with
          | none => simp
          | some v =>
            obtain ⟨p, p1, p2⟩ := look_mem k m v hq
            subst p2
            exact h3 p p1
        subst h
        refine ⟨_, hrun, ?_⟩
        cases ok with
        | true =>
          simp only [V, if_true]
          exact ⟨_, rfl, by simp only [VL]; exact ⟨_, _, rfl, V_str hlen, _, _, rfl, V_bool _, rfl⟩⟩
        | false => exact V_str hlen
      · cases h
    · cases h
  · cases h
theorem alookup_eq {t : TypeId} {b : Nat} {y : AV} {ok : Bool} {hp2 : Hp} (he : hp2[b]? = hp[b]?) : alookup P t (.map b) y ok hp2 = alookup P t (.map b) y ok hp := by
  unfold alookup
  cases P.underlying t with
  | none => rfl
  | some d =>
    cases d <;> try rfl
    cases y <;> try rfl
    simp only [he]
theorem alookup_lt {t : TypeId} {b : Nat} {y : AV} {ok : Bool} (he : hp[b]? = none) : alookup P t (.map b) y ok hp = none := by
  unfold alookup
  cases P.underlying t with
  | none => rfl
  | some d =>
    cases d <;> try rfl
    cases y <;> try rfl
    simp only [he]
theorem alookup_sound {t : TypeId} {x ix a : AV} {v u : Value} {ok : Bool} (hR : Rel X0 σ hp w) (hx : V (Xof X0 σ hp) w σ x v) (hi : V (Xof X0 σ hp) w σ ix u) (h : alookup P t x ix ok hp = some a) :
    Good P X0 σ hp w (Instr.lookup t v u ok) a hp := by
  obtain ⟨z, h1, h2⟩ := alookup_run hR hx hi h
  exact Good.pure' hR h1 h2
theorem smapObj_step {g : Nat} {arr : Array MapEntry} {clock : Nat} {o : Obj} (h : w.heap[g]? = some (.map arr clock)) : Step (fun x => x = g) w { w with heap := w.heap.setIfInBounds g o } := by
  refine ⟨by simp, rfl, rfl, rfl, fun g' _ hn => ?_, fun g' a t fr e => ?_⟩
  · simp only [Array.getElem?_setIfInBounds]
    rw [if_neg (fun e => hn e.symm)]
  · refine ⟨a, fr, ?_, rfl⟩
    simp only [Array.getElem?_setIfInBounds]
    rw [if_neg (fun q => by subst q; rw [h] at e; cases e)]
    exact e
theorem aupdate_sound {t : TypeId} {x k y : AV} {v u z : Value} {hp' : Hp} (hR : Rel X0 σ hp w) (hx : V (Xof X0 σ hp) w σ x v) (hk : V (Xof X0 σ hp) w σ k u) (hy : V (Xof X0 σ hp) w σ y z) (h : aupdate P t x k y hp = some hp') :
    GoodU P X0 σ hp w (Instr.mapUpdate t v u z) hp' := by
  unfold aupdate at h
  split at h
  · rename_i kt et b k s hu
    split at h
    · rename_i m hb
      split at h
      · rename_i c1
        simp only [Option.some.injEq] at h
        subst h
        simp only [V] at hx hk hy
        obtain ⟨g, hg, rfl⟩ := hx
        obtain ⟨rfl, _⟩ := hk
        obtain ⟨rfl, hs⟩ := hy
        obtain ⟨g', hg', arr, clock, h1, h2, h3⟩ := hR.obj b _ hb
        rw [hg] at hg'; obtain rfl := Option.some.inj hg'
        have hf := findNow_map k arr.toList m 0 h2
        have hl := idx_look k m
        have hlt : g < w.heap.size := hR.lt b g hg
        have hK : IsKey .string (.string ⟨⟨k⟩⟩) := by simp [IsKey]
        have hck := run_checkKey (P := P) (w := w) (strT_iff c1) hK false 9999
        have hfk := run_findKey (P := P) (w := w) (l := arr.toList) (strT_iff c1) hf
        have h3' : ∀ p, p ∈ putM k s m → p.2.length ≤ bnd := fun p hp => by
          rcases put_mem k s m p hp with rfl | hp
          · exact hs
          · exact h3 p hp
        have hat : ∀ o : Obj, ({ w with heap := w.heap.setIfInBounds g o } : World).heap[g]? = some o := fun o => by
          simp only [Array.getElem?_setIfInBounds, if_true, if_pos hlt]
        cases hix : idxM k m with
        | none =>
          rw [hix] at hl
          have hlk : lookM k m = none := by cases hq : lookM k m with
            | none => rfl
            | some v => rw [hq] at hl; cases hl
          have hrun : (Instr.mapUpdate t (.map (some g)) (.string ⟨⟨k⟩⟩) (.string ⟨⟨s⟩⟩)).run P w = .ok () { w with heap := w.heap.setIfInBounds g (.map (arr.push { key := .string ⟨⟨k⟩⟩, val := .string ⟨⟨s⟩⟩, born := clock }) (clock + 1)) } := by
            simp only [Instr.mapUpdate, Sem.run_bind, run_underlying hu, Result.andThen_ok, MapKept.run_getObj_map (P := P) h1, hck, hfk, hix, hlk, MapKept.run_setObj_map (P := P) _ h1]
          refine ⟨_, σ, hrun, fun _ _ h => h, ⟨(smapObj_step h1).mono fun x _ e => own_mem hb hg x e, fun q _ h => (own_set (g := 0) hb q).1 h⟩, hR.set hb hg (smapObj_step h1) ⟨_, _, hat _, ?_, h3'⟩⟩
          rw [← idx_none k m hix s]
          simp [h2]
        | some j =>
          rw [hix] at hl
          obtain ⟨v, hv⟩ : ∃ v, lookM k m = some v := by cases hq : lookM k m with
            | none => rw [hq] at hl; cases hl
            | some v => exact ⟨v, rfl⟩
          obtain ⟨v0, g1, g2, g3⟩ := idx_get k m j hix
          have hkey : ∃ e, arr[j]? = some e ∧ e.key = .string ⟨⟨k⟩⟩ := by
            have := congrArg (fun l => l[j]?) h2
            simp only [List.getElem?_map, g1, Option.map_some] at this
            obtain ⟨e, e1, e2⟩ := Option.map_eq_some_iff.1 this
            exact ⟨e, by simpa using e1, by simp only [Prod.mk.injEq] at e2; exact e2.1⟩
          obtain ⟨e, e1, e2⟩ := hkey
          have hst : (Instr.keyThatStays (((arr[0 + j]?).map (·.key)).getD (.string ⟨⟨k⟩⟩)) (.string ⟨⟨k⟩⟩)).run P w = .ok (.string ⟨⟨k⟩⟩) w := by
            rw [Nat.zero_add, e1]
            have hs : ((⟨⟨k⟩⟩ : ByteArray) == ⟨⟨k⟩⟩) = true := by rw [strs_eq]; simp
            simp [Instr.keyThatStays, e2, Instr.sameBits, hs]
          have hrun : (Instr.mapUpdate t (.map (some g)) (.string ⟨⟨k⟩⟩) (.string ⟨⟨s⟩⟩)).run P w = .ok () { w with heap := w.heap.setIfInBounds g (.map (arr.modify (0 + j) fun e => { e with key := .string ⟨⟨k⟩⟩, val := .string ⟨⟨s⟩⟩ }) clock) } := by
            simp only [Instr.mapUpdate, Sem.run_bind, run_underlying hu, Result.andThen_ok, MapKept.run_getObj_map (P := P) h1, hck, hfk, hix, hv, hst, MapKept.run_setObj_map (P := P) _ h1]
          refine ⟨_, σ, hrun, fun _ _ h => h, ⟨(smapObj_step h1).mono fun x _ e => own_mem hb hg x e, fun q _ h => (own_set (g := 0) hb q).1 h⟩, hR.set hb hg (smapObj_step h1) ⟨_, _, hat _, ?_, h3'⟩⟩
          rw [← g3 s, Nat.zero_add]
          refine List.ext_getElem? fun i => ?_
          have hi := congrArg (fun l => l[i]?) h2
          simp only [List.getElem?_map, Array.getElem?_toList] at hi
          simp only [List.getElem?_map, Array.getElem?_toList, Array.getElem?_modify, List.getElem?_set]
          by_cases hij : j = i
          · subst hij
            rw [if_pos rfl, if_pos rfl, if_pos g2, e1]
            rfl
          · rw [if_neg hij, if_neg hij]
            exact hi
      · cases h
    · cases h
  · cases h
end
end Go.Ab
namespace Go.Ab
open Go
set_option linter.unusedVariables false
set_option linter.unusedSimpArgs false

def alen (P : Program) (t : TypeId) (x : AV) (hp : Hp) : Option Int :=
  match P.underlying t, x with
  | some .string, .str s => some s.length
  | some (.array n _), _ => if (n : Int) ≤ IntKind.i64.max then some n else none
  | some (.slice _), .nilsl => some 0
  | some (.slice _), .sl _ n _ => some n
  | some (.slice _), .row _ _ _ n => some n
  | some (.slice _), .rowc _ _ n _ => some n
  | some (.map _ _), .nilmap => some 0
  | some (.map _ _), .map m => match hp[m]? with
    | some (some (.map es)) => if es.length ≤ bnd then some es.length else none
    | _ => none
  | _, _ => none
def aminmax (mx : Bool) : AV → List AV → Option AV
  | x, [] => some x
  | .int k x, .int k' y :: r => if k = k' then aminmax mx (.int k (if mx then (if y > x then y else x) else (if y < x then y else x))) r else none
  | _, _ => none
/-- clear, of a row. -/
def aclear (P : Program) (t : TypeId) (x : AV) (hp : Hp) : Option (AV × Hp) :=
  match P.underlying t, x with
  | some (.slice e), .row b sz lo m => match azero P e, hp[b]? with
    | some z, some (some (.row sz' N f)) => if 0 < sz ∧ sz' = sz ∧ z.length = sz ∧ lo + m ≤ N then some (.tup [], hp.set b (some (.row sz N (inF lo m f (fun _ c => z.getD c .junk))))) else none
    | _, _ => none
  | _, _ => none
/-- unsafe.SliceData. -/
def asliceData (x : AV) : Option AV := match x with
  | .nilsl => some .nilp
  | .row b sz lo n => if 0 < n then some (.eref b sz lo 0) else none
  | _ => none
/-- unsafe.String: the bytes at a row's head; the row is frozen, and forgotten. -/
def astring (P : Program) (argTypes : Array TypeId) (x y : AV) (hp : Hp) : Option (AV × Hp) :=
  match argTypes.toList with
  | [pt, _] => match P.underlying pt with
    | some (.pointer e) => if Nat.beq e 5 = true ∧ P.cellsOf e = 1 then
        match x, y with
        | .nilp, .int .i64 k => if k = 0 then some (.str [], hp) else none
        | .eref b sz i c, .int .i64 k => match hp[b]? with
          | some (some (.bytes l)) => if Nat.beq i 0 = true ∧ Nat.beq c 0 = true then
              (if 0 < k ∧ k ≤ (l.length : Int) then some (.str (l.take k.toNat), hp.set b none) else none) else none
          | _ => none
        | _, _ => none
      else none
    | _ => none
  | _ => none
def abuiltin (P : Program) (b : Builtin) (argTypes : Array TypeId) (args : List AV) (hp : Hp) : Option (AV × Hp) :=
  match b, args with
  | .len, [x] => match argTypes[0]? with
    | some t => match alen P t x hp with
      | some n => some (.int .i64 n, hp)
      | none => none
    | none => none
  | .min, .int k x :: r => (aminmax false (.int k x) r).map fun v => (v, hp)
  | .max, .int k x :: r => (aminmax true (.int k x) r).map fun v => (v, hp)
  | .append, [s, x] => match argTypes.toList with
    | [sT, xT] => if sameRow s x = true then aappendI P sT xT s x hp else aappend P sT xT s x hp
    | _ => none
  | .clear, [x] => match argTypes[0]? with
    | some t => aclear P t x hp
    | none => none
  | .unsafeSliceData, [x] => (asliceData x).map fun v => (v, hp)
  | .unsafeString, [x, y] => astring P argTypes x y hp
  | _, _ => none
def aop (P : Program) (o : Op) (tm : Tm) (hp : Hp) : Option (AV × Hp) :=
  match o with
  | .move x | .assign x => some (aeval tm x, hp)
  | .pick c a b => match aeval tm c with
    | .bool q => some (if q then aeval tm a else aeval tm b, hp)
    | _ => none
  | .alloc e => (azero P e).map fun z => (.ref hp.length 0, hp ++ [some (mkCells P e z)])
  | .box e x => if (acells (aeval tm x)).all aone = true then some (.ref hp.length 0, hp ++ [some (mkCells P e (acells (aeval tm x)))]) else none
  | .build t parts => (abuild P t (parts.toList.map fun p => (p.1, aeval tm p.2))).map fun v => (v, hp)
  | .buildSlice t len parts => abuildSlice P t len (parts.toList.map fun p => (p.1, aeval tm p.2)) hp
  | .load t x => (aload P t (aeval tm x) hp).map fun v => (v, hp)
  | .store t x y => (astore P t (aeval tm x) (aeval tm y) hp).map fun hp' => (.junk, hp')
  | .nilCheck x => (anilCheck (aeval tm x)).map fun v => (v, hp)
  | .binOp op t x y _ => (abin P op t (aeval tm x) (aeval tm y)).map fun v => (v, hp)
  | .unOp op _ x => (aun op (aeval tm x)).map fun v => (v, hp)
  | .convert src dst x => aconvert P src dst (aeval tm x) hp
  | .makeInterface t x => (amakeIface P t (aeval tm x)).map fun v => (v, hp)
  | .makeFunc (.func f) first captured => if first.isEmpty then some (.fn f (captured.toList.map (aeval tm)), hp) else none
  | .slice t x lo hi none => (aslice P t (aeval tm x) (lo.map (aeval tm)) (hi.map (aeval tm))).map fun v => (v, hp)
  | .slice t x lo hi (some mx) => (aslice3 P t (aeval tm x) (lo.map (aeval tm)) (hi.map (aeval tm)) (aeval tm mx)).map fun v => (v, hp)
  | .fieldAddr t x i => (afieldAddr P t (aeval tm x) i).map fun v => (v, hp)
  | .field t x i => (afield P t (aeval tm x) i).map fun v => (v, hp)
  | .indexAddr t x i => (aindexAddr P t (aeval tm x) (aeval tm i)).map fun v => (v, hp)
  | .index t x i => (aindex P t (aeval tm x) (aeval tm i)).map fun v => (v, hp)
  | .extract x i => (aextract (aeval tm x) i).map fun v => (v, hp)
  | .makeMap t none => amakeMap P t hp
  | .lookup t x ix ok => (alookup P t (aeval tm x) (aeval tm ix) ok hp).map fun v => (v, hp)
  | .mapUpdate t m k x => (aupdate P t (aeval tm m) (aeval tm k) (aeval tm x) hp).map fun hp' => (.junk, hp')
  | .insert t m k x => (aupdate P t (aeval tm m) (aeval tm k) (aeval tm x) hp).map fun hp' => (.junk, hp')
  | .call { callee := .builtin b, args, argTypes } => abuiltin P b argTypes (args.toList.map (aeval tm)) hp
  | _ => none

/-- What an operation comes to. -/
def GoodN (P : Program) (X0 : Blk) (σ : Sub) (hp : Hp) (w : World) (s : Sem Next) (a : AV) (hp' : Hp) : Prop :=
  ∃ nx v w' σ', s.run P w = .ok nx w' ∧ (nx = .value v ∨ (nx = .skip ∧ v = undef)) ∧ (∀ i g, σ i = some g → σ' i = some g) ∧ (Step (Own σ hp) w w' ∧ ∀ g, g < w.heap.size → Own σ' hp' g → Own σ hp g) ∧ Rel X0 σ' hp' w' ∧ V (Xof X0 σ' hp') w' σ' a v

section
variable {P : Program} {X0 : Blk} {σ : Sub} {hp : Hp} {w : World} {X : Blk}
theorem GoodN.val {s : Sem Value} {a : AV} {hp' : Hp} (h : Good P X0 σ hp w s a hp') : GoodN P X0 σ hp w (do pure (.value (← s))) a hp' := by
  obtain ⟨v, w', σ', h1, h2⟩ := h
  exact ⟨.value v, v, w', σ', by simp [h1], .inl rfl, h2⟩
theorem GoodN.unit {s : Sem Unit} {hp' : Hp} (h : GoodU P X0 σ hp w s hp') : GoodN P X0 σ hp w (do s; pure .skip) .junk hp' := by
  obtain ⟨w', σ', h1, h2, h3, h4⟩ := h
  exact ⟨.skip, undef, w', σ', by simp [h1], .inr ⟨rfl, rfl⟩, h2, h3, h4, by simp only [V]⟩
theorem GoodN.of_run {s : Sem Value} {a : AV} (hR : Rel X0 σ hp w) (h : ∃ v, s.run P w = .ok v w ∧ V (Xof X0 σ hp) w σ a v) : GoodN P X0 σ hp w (do pure (.value (← s))) a hp := by
  obtain ⟨v, h1, h2⟩ := h
  exact GoodN.val (Good.pure' hR h1 h2)
theorem VL_map {tm : Tm} {a : Act} (hT : VL X w σ tm a.tmps.toList) : ∀ l : List Operand, VL X w σ (l.map (aeval tm)) (l.map a.eval)
  | [] => by simp [VL]
  | x :: l => by simp only [List.map_cons, VL]; exact ⟨_, _, rfl, V_aeval hT x, VL_map hT l⟩
theorem alen_rng {t : TypeId} {x : AV} {v : Value} {n : Int} (hx : V X w σ x v) (h : alen P t x hp = some n) : IntKind.i64.min ≤ n ∧ n ≤ IntKind.i64.max := by
  have hm : IntKind.i64.min = -9223372036854775808 := by rfl
  have hM : IntKind.i64.max = 9223372036854775807 := by rfl
  unfold alen at h
  split at h
  · injection h with h; subst h
    simp only [V] at hx; have := hx.2; simp only [bnd] at this; omega
  · split at h
    · rename_i hle; injection h with h; subst h; omega
    · cases h
  · injection h with h; subst h; omega
  · injection h with h; subst h
    simp only [V] at hx; have := hx.1; simp only [bnd] at this; omega
  · injection h with h; subst h
    simp only [V] at hx; have := hx.1; simp only [bnd] at this; omega
  · injection h with h; subst h
    simp only [V] at hx; have := hx.1; simp only [bnd] at this; omega
  · injection h with h; subst h; omega
  · split at h
    · split at h
      · rename_i hle; injection h with h; subst h; simp only [bnd] at hle; omega
      · cases h
    · cases h
  · cases h
theorem alen_sound {t : TypeId} {ty : TypeId} {x : AV} {v : Value} {n : Int} (hR : Rel X0 σ hp w) (hx : V (Xof X0 σ hp) w σ x v) {argTypes : Array TypeId} (ht : argTypes[0]? = some t) (h : alen P t x hp = some n) :
    (Builtin.len_ argTypes ty #[v]).run P w = .ok (.int .i64 n) w := by
  unfold alen at h
  split at h
  · rename_i s hu
    injection h with h; subst h
    simp only [V] at hx; obtain ⟨rfl, _⟩ := hx
    simp [Builtin.len_, ht, run_underlying hu, ba_size, goInt]
  · rename_i n e y hu
    split at h
    · injection h with h; subst h
      simp [Builtin.len_, ht, run_underlying hu, goInt]
    · cases h
  · rename_i e hu
    injection h with h; subst h
    simp only [V] at hx; subst hx
    simp [Builtin.len_, ht, run_underlying hu, goInt]
  · rename_i e sz n f hu
    injection h with h; subst h
    simp only [V] at hx
    obtain ⟨_, (⟨rfl, hn⟩ | ⟨g, off, cap, rfl, _⟩)⟩ := hx
    · subst hn; simp [Builtin.len_, ht, run_underlying hu, goInt]
    · simp [Builtin.len_, ht, run_underlying hu, goInt]
  · rename_i e b sz lo n hu
    injection h with h; subst h
    simp only [V] at hx
    obtain ⟨_, g, o, cap, arr, t', fr, _, rfl, _⟩ := hx
    simp [Builtin.len_, ht, run_underlying hu, goInt]
  · rename_i e b sz n c hu
    injection h with h; subst h
    simp only [V] at hx
    obtain ⟨_, g, o, cap, arr, t', fr, _, rfl, _⟩ := hx
    simp [Builtin.len_, ht, run_underlying hu, goInt]
  · rename_i k e hu
    injection h with h; subst h
    simp only [V] at hx; subst hx
    simp [Builtin.len_, ht, run_underlying hu, goInt]
  · rename_i k e m hu
    split at h
    · rename_i es hm
      split at h
      · injection h with h; subst h
        simp only [V] at hx; obtain ⟨g, hg, rfl⟩ := hx
        obtain ⟨g', hg', arr, clock, h1, h2, h3⟩ := hR.obj m _ hm
        rw [hg] at hg'; obtain rfl := Option.some.inj hg'
        have hl := VL_length h2
        simp at hl
        have hget : (getObj g).run P w = .ok (.map arr clock) w := by simp [getObj, Sem.run, h1]
        simp [Builtin.len_, ht, run_underlying hu, hget, goInt, hl]
      · cases h
    · cases h
  · cases h
theorem aminmax_sound (mx : Bool) : ∀ (r : List AV) (vr : List Value) (x : AV) (v : Value) (a : AV), VL X w σ r vr → V X w σ x v → aminmax mx x r = some a →
    ∃ u, (vr.foldlM (if mx then Builtin.max2 else Builtin.min2) v : Sem Value).run P w = .ok u w ∧ V X w σ a u
  | [], vr, x, v, a, hr, hx, h => by
    simp only [VL] at hr; subst hr
    simp only [aminmax, Option.some.injEq] at h; subst h
    exact ⟨v, by simp, hx⟩
  | y :: r, vr, x, v, a, hr, hx, h => by
    simp only [VL] at hr
    obtain ⟨u, us, rfl, hy, hr'⟩ := hr
    unfold aminmax at h
    split at h
    · rename_i e; cases e
    · rename_i k n k' n' r0 e
      injection e with e1 e2; subst e1; subst e2
      split at h
      · rename_i hk; subst hk
        have hx' := hx; have hy' := hy
        simp only [V] at hx' hy'
        obtain ⟨rfl, hx1⟩ := hx'; obtain ⟨rfl, hy1⟩ := hy'
        have hV : V X w σ (.int k (if mx then (if n' > n then n' else n) else (if n' < n then n' else n))) (.int k (if mx then (if n' > n then n' else n) else (if n' < n then n' else n))) := by
          refine V_int ?_
          cases mx <;> simp <;> split <;> assumption
        obtain ⟨z, z1, z2⟩ := aminmax_sound mx r us _ _ a hr' hV h
        refine ⟨z, ?_, z2⟩
        cases mx <;> simpa [List.foldlM_cons, Builtin.max2, Builtin.min2] using z1
      · cases h
    · cases h
theorem zeroCells_get {z : Array Value} {m i c : Nat} (hz : c < z.size) (hi : i < m) : (Builtin.zeroCells z m).toList[i * z.size + c]? = some z[c] := by
  have hlt : i * z.size + c < m * z.size := by
    have : (i + 1) * z.size ≤ m * z.size := Nat.mul_le_mul_right _ hi
    rw [Nat.succ_mul] at this; omega
  have hm : (i * z.size + c) % z.size = c := by rw [Nat.mul_comm, Nat.mul_add_mod, Nat.mod_eq_of_lt hz]
  simp only [Builtin.zeroCells, Array.toList_map, Array.toList_range, List.getElem?_map]
  rw [List.getElem?_range (by omega)]
  simp only [Option.map_some, hm]
  rw [getElem!_pos z c hz]
theorem aclear_sound {t ty : TypeId} {x a : AV} {v : Value} {hp' : Hp} {argTypes : Array TypeId} (hR : Rel X0 σ hp w) (hx : V (Xof X0 σ hp) w σ x v) (ht : argTypes[0]? = some t) (h : aclear P t x hp = some (a, hp')) :
    Good P X0 σ hp w (Builtin.clear_ argTypes ty #[v]) a hp' := by
  unfold aclear at h
  split at h
  · rename_i e b sz lo m hu
    split at h
    · rename_i z sz' N f hz hb
      split at h
      · rename_i hq
        obtain ⟨hsz, rfl, hzl, hlm⟩ := hq
        simp only [Option.some.injEq, Prod.mk.injEq] at h
        obtain ⟨rfl, rfl⟩ := h
        obtain ⟨zv, z1, z2, z3⟩ := azero_sound (X := Xof X0 σ hp) (σ := fun _ => none) (w := w) hz
        have hzs : zv.cells.size = sz' := by have := VL_length z2; simp at this; omega
        obtain ⟨g, hg, arr, hA, hms, hmb, hV⟩ := hR.obj b _ hb
        simp only [V] at hx
        obtain ⟨hnb, g2, o, cap, arr2, t2, fr, hg2, rfl, hnc, ho, hheap, hcs⟩ := hx
        rw [hg] at hg2; obtain rfl := Option.some.inj hg2
        have hlen : (Builtin.zeroCells zv.cells m).toList.length = m * sz' := by
          simp only [Builtin.zeroCells, Array.toList_map, Array.toList_range, List.length_map, List.length_range, hzs]
          try exact Nat.mul_comm _ _
        obtain ⟨r1, r2, r3, r4, r5⟩ := over_row (P := P) (lo := lo) (m := m) (gf := fun _ c => z.getD c .junk) hR hb hg hA hms hmb hV hlm hlen (zeroCells_one z3) (by
          intro i c u hi hc hcu
          rw [← hzs] at hcu hc
          rw [zeroCells_get hc hi] at hcu
          injection hcu with hcu
          have := VL_get z2 (i := c) (a := z.getD c .junk) (by rw [List.getD_eq_getElem?_getD, List.getElem?_eq_getElem (by omega)]; simp)
          obtain ⟨u', q1, q2⟩ := this
          have : u' = u := by
            rw [← hcu]
            have e1 : zv.cells.toList[c]? = some zv.cells[c] := by simp [hc]
            rw [q1] at e1; injection e1
          subst this; exact q2)
        by_cases hm : m = 0
        · subst hm
          have hnil : (Builtin.zeroCells zv.cells 0).toList = [] := List.eq_nil_of_length_eq_zero (by omega)
          rw [hnil] at r1 r3
          have hw : setArr w g (over arr.toList (lo * sz') []).toArray = w := by
            simp only [storeCells, Sem.run_pure] at r1
            injection r1 with _ r1; exact r1.symm
          rw [hw] at r3
          refine ⟨.tuple #[], w, σ, ?_, fun _ _ h => h, ⟨Step.refl _ _, fun q _ h => (own_set (g := 0) hb q).1 h⟩, r3, ?_⟩
          · simp [Builtin.clear_, ht, run_underlying hu]
          · simp only [V]; exact ⟨#[], rfl, by simp [VL]⟩
        · have hon : o = lo * sz' := by
            rcases ho with ho | ho
            · exact ho
            · omega
          subst hon
          refine ⟨.tuple #[], _, σ, ?_, fun _ _ h => h, ⟨r2.mono fun x _ e => own_mem hb hg x e, fun q _ h => (own_set (g := 0) hb q).1 h⟩, r3, ?_⟩
          · obtain ⟨k, rfl⟩ := Nat.exists_eq_succ_of_ne_zero hm
            have := r1
            simp only [Builtin.clear_, ht]
            simp [run_underlying hu, z1, r1]
          · simp only [V]; exact ⟨#[], rfl, by simp [VL]⟩
      · cases h
    · cases h
  · cases h
theorem asliceData_sound {x a : AV} {v : Value} {argTypes : Array TypeId} {ty : TypeId} (hR : Rel X0 σ hp w) (hx : V (Xof X0 σ hp) w σ x v) (h : asliceData x = some a) :
    ∃ u, (Builtin.unsafeSliceData_ argTypes ty #[v]).run P w = .ok u w ∧ V (Xof X0 σ hp) w σ a u := by
  unfold asliceData at h
  split at h
  · injection h with h; subst h
    simp only [V] at hx; subst hx
    exact ⟨_, Lib.run_unsafeSliceData_nil (P := P) w _ _ _ _, by simp only [V]⟩
  · split at h
    · rename_i b sz lo n hn
      injection h with h; subst h
      simp only [V] at hx
      obtain ⟨_, g, o, cap, arr, t', fr, hg, rfl, hnc, ho, _, _⟩ := hx
      refine ⟨_, Lib.run_unsafeSliceData_row (P := P) w _ _ _ _ _ (by omega), ?_⟩
      simp only [V]
      refine ⟨g, hg, ?_⟩
      rcases ho with ho | ho
      · rw [ho, Nat.add_zero]
      · omega
    · cases h
  · cases h
theorem freeze_step {w : World} {g : Nat} (n : Nat) : Step (fun x => x = g) w (w.freeze ⟨g, 0, none⟩ n) := by
  unfold World.freeze
  split
  · exact Step.refl _ _
  · refine ⟨by simp, rfl, rfl, rfl, fun g' _ hn => ?_, fun g' arr t fr e => ?_⟩
    · simp only [Array.getElem?_modify]
      rw [if_neg (fun e => hn e.symm)]
    · simp only [Array.getElem?_modify]
      by_cases hg : g = g'
      · rw [if_pos hg, e]
        exact ⟨arr, _, rfl, rfl⟩
      · rw [if_neg hg]
        exact ⟨arr, fr, e, rfl⟩
/-- An object that is forgotten may turn. -/
theorem Rel.killStep (h : Rel X0 σ hp w) {b g : Nat} {o : AObj} {w' : World} (hb : hp[b]? = some (some o)) (hg : σ b = some g) (hs : Step (fun x => x = g) w w') : Rel X0 σ (hp.set b none) w' := by
  have hk := h.kill b
  refine ⟨hk.inj, fun i g' hi => Nat.lt_of_lt_of_le (h.lt i g' hi) hs.size, fun g' hx => Nat.lt_of_lt_of_le (h.x0 g' hx) hs.size, h.sep, hk.dom, fun i o' hi => ?_⟩
  have hi' : hp[i]? = some (some o') ∧ i ≠ b := by
    rw [List.getElem?_set] at hi
    by_cases e : b = i
    · subst e; simp at hi
    · rw [if_neg e] at hi; exact ⟨hi, fun q => e q.symm⟩
  obtain ⟨gi, h1, h2⟩ := h.obj i o' hi'.1
  have hne : gi ≠ g := fun e => hi'.2 (h.inj i b o' o gi hi'.1 hb h1 (e ▸ hg))
  refine ⟨gi, h1, O_mono h2 (hs.keep gi (h.lt i gi h1) hne) (fun _ _ h => h) (fun g' _ hx => ?_) (hs.mono fun x _ e => .inr (own_mem hb hg x e))⟩
  rcases hx with hx | hx
  · exact .inl hx
  · exact .inr (own_kill hx)
theorem astring_sound {x y a : AV} {v u : Value} {hp' : Hp} {argTypes : Array TypeId} {ty : TypeId} (hR : Rel X0 σ hp w) (hx : V (Xof X0 σ hp) w σ x v) (hy : V (Xof X0 σ hp) w σ y u) (h : astring P argTypes x y hp = some (a, hp')) :
    Good P X0 σ hp w (Builtin.unsafeString_ argTypes ty #[v, u]) a hp' := by
  unfold astring at h
  split at h
  · rename_i pt it hT
    have hta : argTypes = #[pt, it] := by apply Array.ext'; simpa using hT
    subst hta
    split at h
    · rename_i e hp5
      split at h
      · rename_i hc
        obtain ⟨c1, c2⟩ := hc
        obtain rfl := Nat.eq_of_beq_eq_true c1
        split at h
        · rename_i k
          split at h
          · rename_i hk
            subst hk
            simp only [Option.some.injEq, Prod.mk.injEq] at h
            obtain ⟨rfl, rfl⟩ := h
            simp only [V] at hx hy
            subst hx
            obtain ⟨rfl, _⟩ := hy
            exact Good.pure' hR (Lib.run_unsafeString_none (P := P) w _ _ _ _) (V_str (by simp))
          · cases h
        · rename_i b sz i c k
          split at h
          · rename_i l hb
            split at h
            · rename_i hic
              obtain ⟨i1, i2⟩ := hic
              obtain rfl := Nat.eq_of_beq_eq_true i1
              obtain rfl := Nat.eq_of_beq_eq_true i2
              split at h
              · rename_i hk
                simp only [Option.some.injEq, Prod.mk.injEq] at h
                obtain ⟨rfl, rfl⟩ := h
                simp only [V] at hx hy
                obtain ⟨g, hg, rfl⟩ := hx
                obtain ⟨rfl, _⟩ := hy
                obtain ⟨g', hg', arr, hA, hms, hmb, hV⟩ := hR.obj b _ hb
                rw [hg] at hg'; obtain rfl := Option.some.inj hg'
                obtain ⟨hmb, arr2, fr2, hty⟩ := hmb
                have harr : arr2 = arr := by
                  obtain ⟨t2, fr, e2, _⟩ := hA
                  rw [hty] at e2; injection e2 with e2; injection e2
                subst harr
                have hlen : (l.take k.toNat).length = k.toNat := by simp; omega
                have hne : l.take k.toNat ≠ [] := by intro e; rw [e] at hlen; simp at hlen; omega
                have hk' : ((l.take k.toNat).length : Int) = k := by rw [hlen]; omega
                have hmb' := hmb
                simp only [bnd] at hmb'
                have := Lib.run_unsafeString_row (P := P) w pt it ty 5 hp5 c2 g arr2.size (by simp [World.shape?, hty]) (l.take k.toNat) hne (by rw [hlen]; omega) (by rw [hlen]; omega) (fun j x hj => by
                  rw [add_none, hA.cell, Nat.zero_add]
                  rw [List.getElem?_take] at hj
                  split at hj
                  · exact hV j x hj
                  · cases hj)
                rw [hk'] at this
                rw [Nat.zero_mul, Nat.zero_add]
                refine ⟨_, _, σ, this, fun _ _ h => h, ⟨(freeze_step _).mono fun x _ e => own_mem hb hg x e, fun g' _ h => own_kill h⟩, hR.killStep hb hg (freeze_step _), V_str (by rw [hlen]; omega)⟩
              · cases h
            · cases h
          · cases h
        · cases h
      · cases h
    · cases h
  · cases h
theorem abuiltin_sound {b : Builtin} {argTypes : Array TypeId} {ty : TypeId} {consts : Array Bool} {args : List AV} {vargs : Array Value} {a : AV} {hp' : Hp} (hR : Rel X0 σ hp w) (hx : VL (Xof X0 σ hp) w σ args vargs.toList)
    (h : abuiltin P b argTypes args hp = some (a, hp')) : GoodN P X0 σ hp w (builtin b argTypes ty consts vargs) a hp' := by
  unfold abuiltin at h
  split at h
  · rename_i x
    split at h
    · rename_i t ht
      split at h
      · rename_i n hn
        simp only [Option.some.injEq, Prod.mk.injEq] at h
        obtain ⟨rfl, rfl⟩ := h
        simp only [VL] at hx
        obtain ⟨u, us, hu, hux, rfl⟩ := hx
        have hva : vargs = #[u] := by apply Array.ext'; simpa using hu
        subst hva
        exact GoodN.val (Good.pure' hR (alen_sound hR hux ht hn) (V_int (alen_rng hux hn)))
      · cases h
    · cases h
  · rename_i k x r
    cases hm : aminmax false (.int k x) r with
    | none => rw [hm] at h; cases h
    | some v =>
      rw [hm] at h
      simp only [Option.map_some, Option.some.injEq, Prod.mk.injEq] at h
      obtain ⟨rfl, rfl⟩ := h
      simp only [VL] at hx
      obtain ⟨u, us, hu, hux, hr⟩ := hx
      obtain ⟨z, z1, z2⟩ := aminmax_sound (P := P) false r us _ u v hr hux hm
      refine GoodN.of_run hR ⟨z, ?_, z2⟩
      simp only [Builtin.min_, hu]
      simpa using z1
  · rename_i k x r
    cases hm : aminmax true (.int k x) r with
    | none => rw [hm] at h; cases h
    | some v =>
      rw [hm] at h
      simp only [Option.map_some, Option.some.injEq, Prod.mk.injEq] at h
      obtain ⟨rfl, rfl⟩ := h
      simp only [VL] at hx
      obtain ⟨u, us, hu, hux, hr⟩ := hx
      obtain ⟨z, z1, z2⟩ := aminmax_sound (P := P) true r us _ u v hr hux hm
      refine GoodN.of_run hR ⟨z, ?_, z2⟩
      simp only [Builtin.max_, hu]
      simpa using z1
  · rename_i s x
    split at h
    · rename_i sT xT hT
      simp only [VL] at hx
      obtain ⟨u, us, hu, hux, u2, us2, rfl, hux2, rfl⟩ := hx
      have hva : vargs = #[u, u2] := by apply Array.ext'; simpa using hu
      subst hva
      have hta : argTypes = #[sT, xT] := by apply Array.ext'; simpa using hT
      subst hta
      split at h
      · exact GoodN.val (aappendI_sound hR hux hux2 h)
      · exact GoodN.val (aappend_sound hR hux hux2 h)
    · cases h
  · rename_i x
    split at h
    · rename_i t ht
      simp only [VL] at hx
      obtain ⟨u, us, hu, hux, rfl⟩ := hx
      have hva : vargs = #[u] := by apply Array.ext'; simpa using hu
      subst hva
      exact GoodN.val (aclear_sound hR hux ht h)
    · cases h
  · rename_i x
    cases hm : asliceData x with
    | none => rw [hm] at h; cases h
    | some v =>
      rw [hm] at h
      simp only [Option.map_some, Option.some.injEq, Prod.mk.injEq] at h
      obtain ⟨rfl, rfl⟩ := h
      simp only [VL] at hx
      obtain ⟨u, us, hu, hux, rfl⟩ := hx
      have hva : vargs = #[u] := by apply Array.ext'; simpa using hu
      subst hva
      exact GoodN.of_run hR (asliceData_sound hR hux hm)
  · rename_i x y
    simp only [VL] at hx
    obtain ⟨u, us, hu, hux, u2, us2, rfl, hux2, rfl⟩ := hx
    have hva : vargs = #[u, u2] := by apply Array.ext'; simpa using hu
    subst hva
    exact GoodN.val (astring_sound hR hux hux2 h)
  · cases h
end
end Go.Ab
namespace Go.Ab
open Go
set_option linter.unusedVariables false
set_option linter.unusedSimpArgs false
section
variable {P : Program} {X0 : Blk} {σ : Sub} {hp : Hp} {w : World} {X : Blk}
theorem amap_inv {α : Type} {o : Option α} {f : α → AV × Hp} {r : AV × Hp} (h : o.map f = some r) : ∃ v, o = some v ∧ f v = r := by
  cases o with
  | none => cases h
  | some v => injection h with h; exact ⟨v, rfl, h⟩
theorem VO_map {tm : Tm} {a : Act} (hT : VL X w σ tm a.tmps.toList) : ∀ o : Option Operand, VO X w σ (o.map (aeval tm)) (o.map a.eval)
  | none => rfl
  | some x => ⟨_, rfl, V_aeval hT x⟩
theorem parts_map {tm : Tm} {a : Act} (hT : VL X w σ tm a.tmps.toList) (parts : Array (Nat × Operand)) : ∀ (j : Nat) p q, (parts.toList.map fun p => (p.1, aeval tm p.2))[j]? = some p →
    (parts.map fun (i, x) => (i, a.eval x)).toList[j]? = some q → p.1 = q.1 ∧ V X w σ p.2 q.2 := by
  intro j p q hp hq
  simp only [Array.toList_map, List.getElem?_map] at hp hq
  cases hx : parts.toList[j]? with
  | none => rw [hx] at hp; cases hp
  | some x =>
    rw [hx] at hp hq
    simp only [Option.map_some, Option.some.injEq] at hp hq
    subst hp; subst hq
    exact ⟨rfl, V_aeval hT x.2⟩
/-- EVERY OPERATION THAT CALLS NO FUNCTION. -/
theorem aop_sound {o : Oper} {tm : Tm} {a : Act} {r : AV} {hp' : Hp} (hR : Rel X0 σ hp w) (hT : VL (Xof X0 σ hp) w σ tm a.tmps.toList) (h : aop P o.op tm hp = some (r, hp')) :
    GoodN P X0 σ hp w (execOp a.eval o) r hp' := by
  unfold aop at h
  unfold execOp
  split at h
  · rename_i x e
    simp only [Option.some.injEq, Prod.mk.injEq] at h; obtain ⟨rfl, rfl⟩ := h
    rw [e]
    exact ⟨_, _, w, σ, rfl, .inl rfl, fun _ _ h => h, ⟨Step.refl _ _, fun _ _ h => h⟩, hR, V_aeval hT x⟩
  · rename_i x e
    simp only [Option.some.injEq, Prod.mk.injEq] at h; obtain ⟨rfl, rfl⟩ := h
    rw [e]
    exact ⟨_, _, w, σ, rfl, .inl rfl, fun _ _ h => h, ⟨Step.refl _ _, fun _ _ h => h⟩, hR, V_aeval hT x⟩
  · rename_i c x y e
    split at h
    · rename_i q hq
      simp only [Option.some.injEq, Prod.mk.injEq] at h; obtain ⟨rfl, rfl⟩ := h
      rw [e]
      have hc := V_aeval hT c
      rw [hq] at hc
      simp only [V] at hc
      refine ⟨.value (if q then a.eval x else a.eval y), _, w, σ, ?_, .inl rfl, fun _ _ h => h, ⟨Step.refl _ _, fun _ _ h => h⟩, hR, ?_⟩
      · simp [hc, asBool]
      · cases q
        · exact V_aeval hT y
        · exact V_aeval hT x
    · cases h
  · rename_i t e
    obtain ⟨z, hz, h⟩ := amap_inv h
    simp only [Prod.mk.injEq] at h; obtain ⟨rfl, rfl⟩ := h
    rw [e]
    exact GoodN.val (aalloc_sound hR hz)
  · rename_i t x e
    split at h
    · rename_i hc
      simp only [Option.some.injEq, Prod.mk.injEq] at h; obtain ⟨rfl, rfl⟩ := h
      rw [e]
      exact GoodN.val (abox_sound hR (V_aeval hT x) hc)
    · cases h
  · rename_i t parts e
    obtain ⟨z, hz, h⟩ := amap_inv h
    simp only [Prod.mk.injEq] at h; obtain ⟨rfl, rfl⟩ := h
    rw [e]
    exact GoodN.of_run hR (abuild_sound (by simp) (parts_map hT parts) hz)
  · rename_i t len parts e
    rw [e]
    exact GoodN.val (abuildSlice_sound hR (by simp) (parts_map hT parts) h)
  · rename_i t x e
    obtain ⟨z, hz, h⟩ := amap_inv h
    simp only [Prod.mk.injEq] at h; obtain ⟨rfl, rfl⟩ := h
    rw [e]
    exact GoodN.val (aload_sound hR (V_aeval hT x) hz)
  · rename_i t x y e
    obtain ⟨z, hz, h⟩ := amap_inv h
    simp only [Prod.mk.injEq] at h; obtain ⟨rfl, rfl⟩ := h
    rw [e]
    exact GoodN.unit (astore_sound hR (V_aeval hT x) (V_aeval hT y) hz)
  · rename_i x e
    obtain ⟨z, hz, h⟩ := amap_inv h
    simp only [Prod.mk.injEq] at h; obtain ⟨rfl, rfl⟩ := h
    rw [e]
    have hx := V_aeval hT x
    cases hv : aeval tm x <;> rw [hv] at hx hz <;> simp only [anilCheck] at hz <;> try (cases hz; done)
    · injection hz with hz; subst hz
      have hx' := hx
      simp only [V] at hx; obtain ⟨g, hg, he⟩ := hx
      refine ⟨.value (a.eval x), a.eval x, w, σ, ?_, .inl rfl, fun _ _ h => h, ⟨Step.refl _ _, fun _ _ h => h⟩, hR, hx'⟩
      simp [he]
    · injection hz with hz; subst hz
      have hx' := hx
      simp only [V] at hx; obtain ⟨g, hg, he⟩ := hx
      refine ⟨.value (a.eval x), a.eval x, w, σ, ?_, .inl rfl, fun _ _ h => h, ⟨Step.refl _ _, fun _ _ h => h⟩, hR, hx'⟩
      simp [he]
    · injection hz with hz; subst hz
      have hx' := hx
      simp only [V] at hx; obtain ⟨g, off, he, _⟩ := hx
      refine ⟨.value (a.eval x), a.eval x, w, σ, ?_, .inl rfl, fun _ _ h => h, ⟨Step.refl _ _, fun _ _ h => h⟩, hR, hx'⟩
      simp [he]
    · injection hz with hz; subst hz
      have hx' := hx
      simp only [V] at hx; obtain ⟨vs, he, _⟩ := hx
      refine ⟨.value (a.eval x), a.eval x, w, σ, ?_, .inl rfl, fun _ _ h => h, ⟨Step.refl _ _, fun _ _ h => h⟩, hR, hx'⟩
      simp [he]
  · rename_i op t x y yt e
    obtain ⟨z, hz, h⟩ := amap_inv h
    simp only [Prod.mk.injEq] at h; obtain ⟨rfl, rfl⟩ := h
    rw [e]
    exact GoodN.of_run hR (abin_sound (V_aeval hT x) (V_aeval hT y) hz)
  · rename_i op t x e
    obtain ⟨z, hz, h⟩ := amap_inv h
    simp only [Prod.mk.injEq] at h; obtain ⟨rfl, rfl⟩ := h
    rw [e]
    exact GoodN.of_run hR (aun_sound (V_aeval hT x) hz)
  · rename_i src dst x e
    rw [e]
    exact GoodN.val (aconvert_sound hR (V_aeval hT x) h)
  · rename_i t x e
    obtain ⟨z, hz, h⟩ := amap_inv h
    simp only [Prod.mk.injEq] at h; obtain ⟨rfl, rfl⟩ := h
    rw [e]
    unfold amakeIface at hz
    split at hz
    · rename_i hc
      injection hz with hz; subst hz
      exact GoodN.of_run hR ⟨_, run_makeInterface w t _ hc, by simp only [V]; exact ⟨_, rfl, V_aeval hT x⟩⟩
    · cases hz
  · rename_i f first captured e
    split at h
    · rename_i hc
      simp only [Option.some.injEq, Prod.mk.injEq] at h; obtain ⟨rfl, rfl⟩ := h
      rw [e]
      have hf : first = #[] := by simpa using hc
      subst hf
      refine GoodN.of_run hR ⟨_, rfl, ?_⟩
      simp only [V]
      exact ⟨captured.map a.eval, by simp, by simpa using VL_map hT captured.toList⟩
    · cases h
  · rename_i t x lo hi e
    obtain ⟨z, hz, h⟩ := amap_inv h
    simp only [Prod.mk.injEq] at h; obtain ⟨rfl, rfl⟩ := h
    rw [e]
    exact GoodN.of_run hR (aslice_sound (V_aeval hT x) (VO_map hT lo) (VO_map hT hi) hz)
  · rename_i t x lo hi mx e
    obtain ⟨z, hz, h⟩ := amap_inv h
    simp only [Prod.mk.injEq] at h; obtain ⟨rfl, rfl⟩ := h
    rw [e]
    exact GoodN.of_run hR (aslice3_sound (V_aeval hT x) (VO_map hT lo) (VO_map hT hi) (V_aeval hT mx) hz)
  · rename_i t x i e
    obtain ⟨z, hz, h⟩ := amap_inv h
    simp only [Prod.mk.injEq] at h; obtain ⟨rfl, rfl⟩ := h
    rw [e]
    exact GoodN.of_run hR (afieldAddr_sound (V_aeval hT x) hz)
  · rename_i t x i e
    obtain ⟨z, hz, h⟩ := amap_inv h
    simp only [Prod.mk.injEq] at h; obtain ⟨rfl, rfl⟩ := h
    rw [e]
    exact GoodN.of_run hR (afield_sound (V_aeval hT x) hz)
  · rename_i t x i e
    obtain ⟨z, hz, h⟩ := amap_inv h
    simp only [Prod.mk.injEq] at h; obtain ⟨rfl, rfl⟩ := h
    rw [e]
    exact GoodN.of_run hR (aindexAddr_sound (V_aeval hT x) (V_aeval hT i) hz)
  · rename_i t x i e
    obtain ⟨z, hz, h⟩ := amap_inv h
    simp only [Prod.mk.injEq] at h; obtain ⟨rfl, rfl⟩ := h
    rw [e]
    exact GoodN.of_run hR (aindex_sound (V_aeval hT x) (V_aeval hT i) hz)
  · rename_i x i e
    obtain ⟨z, hz, h⟩ := amap_inv h
    simp only [Prod.mk.injEq] at h; obtain ⟨rfl, rfl⟩ := h
    rw [e]
    exact GoodN.of_run hR (aextract_sound (V_aeval hT x) hz)
  · rename_i t e
    rw [e]
    exact GoodN.val (amakeMap_sound hR h)
  · rename_i t x ix ok e
    obtain ⟨z, hz, h⟩ := amap_inv h
    simp only [Prod.mk.injEq] at h; obtain ⟨rfl, rfl⟩ := h
    rw [e]
    exact GoodN.val (alookup_sound hR (V_aeval hT x) (V_aeval hT ix) hz)
  · rename_i t m k x e
    obtain ⟨z, hz, h⟩ := amap_inv h
    simp only [Prod.mk.injEq] at h; obtain ⟨rfl, rfl⟩ := h
    rw [e]
    exact GoodN.unit (aupdate_sound hR (V_aeval hT m) (V_aeval hT k) (V_aeval hT x) hz)
  · rename_i t m k x e
    obtain ⟨z, hz, h⟩ := amap_inv h
    simp only [Prod.mk.injEq] at h; obtain ⟨rfl, rfl⟩ := h
    rw [e]
    exact GoodN.unit (aupdate_sound hR (V_aeval hT m) (V_aeval hT k) (V_aeval hT x) hz)
  · rename_i b args argTypes e
    rw [e]
    have := abuiltin_sound (P := P) (ty := o.type) (consts := args.map fun | .const _ => true | _ => false) (vargs := args.map a.eval) hR (by simpa using VL_map hT args.toList) h
    simp only [resolve, invoke, pure_bind]
    exact this
  · cases h
end
end Go.Ab
namespace Go.Ab
open Go
set_option linter.unusedVariables false
set_option linter.unusedSimpArgs false

/-- What is called. -/
inductive ATgt where
  | fn (f : FuncId)
  | yield (l : Nat)

abbrev Hd := ATgt → List AV → Hp → Option (AV × Hp)

inductive AX where
  | normal
  | exit (id : Nat)
  | goto (l : Nat)
  | ret
  deriving DecidableEq

def AX.out : AX → Exit
  | .normal => .normal
  | .exit id => .exit id
  | .goto l => .goto l
  | .ret => .ret

/-- The static part: what stays of the temporaries behind a region; which are live at a loop's head (by the loop's number). -/
structure Hint where
  keep : List Nat
  live : List (List Nat)

def aput (tm : Tm) (dst : Option Tmp) (v : AV) : Tm :=
  match dst with
  | some d => tm.set d v
  | none => tm
def aguard (ops : Array Oper) (o : Oper) (tm : Tm) : Option Bool :=
  match o.guard with
  | none => some true
  | some (j, want) => match (ops[j]?).bind (·.dst) with
    | some t => match tm.getD t .junk with
      | .bool b => some (b == want)
      | .undef => some false
      | _ => none
    | none => none
def evOp (P : Program) (H : Hd) (o : Oper) (tm : Tm) (hp : Hp) : Option (AV × Hp) :=
  match o.op with
  | .call { callee := .value f, args, argTypes } => match aeval tm f with
    | .fn g cap => H (.fn g) (args.toList.map (aeval tm) ++ cap) hp
    | .yield l => H (.yield l) (args.toList.map (aeval tm)) hp
    | _ => none
  | op => aop P op tm hp
def evOps (P : Program) (H : Hd) (ops : Array Oper) : List Nat → Tm → Hp → Option (Tm × Hp)
  | [], tm, hp => some (tm, hp)
  | i :: rest, tm, hp => match ops[i]? with
    | none => evOps P H ops rest tm hp
    | some o => match aguard ops o tm with
      | none => none
      | some false => evOps P H ops rest (aput tm o.dst .undef) hp
      | some true => match evOp P H o tm hp with
        | none => none
        | some (v, hp') => evOps P H ops rest (aput tm o.dst v) hp'

/-- A call comes to a value. -/
def CallOk (P : Program) (f : FuncId) (vargs : Array Value) (w : World) (R : Value → World → Prop) : Prop :=
  ((callFunc f vargs).run P w = .ok (.enter f vargs) w ∧ CallsIn Fence.wide 0 P f vargs w fun e w' => ∃ v, e = .returned v ∧ R v w') ∨
  (∃ v w', (callFunc f vargs).run P w = .ok (.value v) w' ∧ R v w')

/-- What a call leaves. -/
def Left (X0 : Blk) (σ : Sub) (hp : Hp) (w : World) (r : AV) (hp' : Hp) (v : Value) (w' : World) : Prop :=
  ∃ σ', (∀ i g, σ i = some g → σ' i = some g) ∧ (Step (Own σ hp) w w' ∧ ∀ g, g < w.heap.size → Own σ' hp' g → Own σ hp g) ∧ Rel X0 σ' hp' w' ∧ V (Xof X0 σ' hp') w' σ' r v

def SoundH (P : Program) (H : Hd) : Prop :=
  ∀ t args hp r hp', H t args hp = some (r, hp') → ∀ X0 σ w (vargs : Array Value), Rel X0 σ hp w → VL (Xof X0 σ hp) w σ args vargs.toList →
    match t with
    | .fn f => CallOk P f vargs w (Left X0 σ hp w r hp')
    | .yield l => ∃ g f tmps assign body, σ l = some g ∧ (Instr.yield g vargs).run P w = .ok (.round g f tmps assign body) w ∧
        RoundIn Fence.wide 0 P g f tmps assign body w fun e w' => ∃ v, e = .returned v ∧ Left X0 σ hp w r hp' v w'

/-- The fence: any function, any depth; in a round or not. -/
def FR (r : Option Nat) : Fence := { Fence.wide with round := r }
theorem FR_fn (r : Option Nat) (f : FuncId) : (FR r).fn f := trivial
theorem FR_depth (r : Option Nat) : ((FR r).depth.isSome = true → 1 ≤ 0) := by intro h; simp [FR, Fence.wide] at h
theorem callsIn_FR {r : Option Nat} {n : Nat} {P : Program} {f : FuncId} {args : Array Value} {w : World} {R : Ending → World → Prop} (h : CallsIn Fence.wide n P f args w R) : CallsIn (FR r) n P f args w R := h
theorem roundIn_FR {r : Option Nat} {n : Nat} {P : Program} {l : Nat} {f : FuncId} {tmps : Array Value} {a b : Code} {w : World} {R : Ending → World → Prop} (h : RoundIn Fence.wide n P l f tmps a b w R) : RoundIn (FR r) n P l f tmps a b w R := h

section
variable {P : Program} {H : Hd}

theorem VL_put {X : Blk} {σ : Sub} {w : World} {tm : Tm} {a : Act} (hT : VL X w σ tm a.tmps.toList) (dst : Option Tmp) {v : AV} {u : Value} (hv : V X w σ v u) : VL X w σ (aput tm dst v) (a.put dst u).tmps.toList := by
  cases dst with
  | none => exact hT
  | some d => simpa [aput, Act.put] using VL_set hT d hv
theorem put_defers (a : Act) (dst : Option Tmp) (u : Value) : (a.put dst u).defers = a.defers := by cases dst <;> rfl
theorem yielded_of {X : Blk} {σ : Sub} {w : World} {tm : Tm} {a : Act} {ops : Array Oper} {o : Oper} {b : Bool} (hT : VL X w σ tm a.tmps.toList) (h : aguard ops o tm = some b) : Region.wanted o (yielded ops a.tmps) = b := by
  unfold aguard at h
  unfold Region.wanted
  split at h
  · rename_i e; rw [e]; injection h
  · rename_i j want e
    rw [e]
    split at h
    · rename_i t ht
      split at h
      · rename_i q hq
        injection h with h; subst h
        have := V_aeval hT (.tmp t)
        simp only [aeval, hq, V, Act.eval] at this
        have h2 : a.tmps[t]? = some (.bool q) := by
          cases hx : a.tmps[t]? with
          | none => simp [Array.getD, hx] at this; simp [Array.getElem?_eq_none_iff] at hx; rw [dif_neg (by omega)] at this; cases this
          | some x => simp [Array.getD] at this; obtain ⟨hlt, e1⟩ := Array.getElem?_eq_some_iff.1 hx; rw [dif_pos hlt] at this; rw [← this, e1]
        simp only [yielded, ht, Option.bind_some, h2]
        cases q <;> cases want <;> rfl
      · rename_i hq
        injection h with h; subst h
        have := V_aeval hT (.tmp t)
        simp only [aeval, hq, V, Act.eval] at this
        simp only [yielded, ht, Option.bind_some]
        cases hx : a.tmps[t]? with
        | none => rfl
        | some x =>
          have e1 : x = undef := by simp [Array.getD] at this; obtain ⟨hlt, e1⟩ := Array.getElem?_eq_some_iff.1 hx; rw [← e1]; exact this hlt
          subst e1; rfl
      · cases h
    · cases h

/-- From one state to another. -/
structure Ext (σ : Sub) (hp : Hp) (w : World) (σ' : Sub) (hp' : Hp) (w' : World) : Prop where
  sub : ∀ i g, σ i = some g → σ' i = some g
  step : Step (Own σ hp) w w'
  own : ∀ g, g < w.heap.size → Own σ' hp' g → Own σ hp g
theorem Ext.refl (σ : Sub) (hp : Hp) (w : World) : Ext σ hp w σ hp w := ⟨fun _ _ h => h, Step.refl _ _, fun _ _ h => h⟩
theorem Ext.trans {σ σ' σ'' : Sub} {hp hp' hp'' : Hp} {w w' w'' : World} (h : Ext σ hp w σ' hp' w') (h' : Ext σ' hp' w' σ'' hp'' w'') : Ext σ hp w σ'' hp'' w'' :=
  ⟨fun i g hi => h'.sub i g (h.sub i g hi), h.step.trans h'.step h.own, fun g hg hx => h.own g hg (h'.own g (Nat.lt_of_lt_of_le hg h.step.size) hx)⟩
theorem Ext.drawn (σ : Sub) (hp : Hp) (w : World) : Ext σ hp w σ hp { w with drawn := w.drawn + 1 } := ⟨fun _ _ h => h, Step.drawn _ _, fun _ _ h => h⟩
/-- What an old value becomes. -/
theorem Ext.X {X0 : Blk} {σ σ' : Sub} {hp hp' : Hp} {w w' : World} (h : Ext σ hp w σ' hp' w') : ∀ g, g < w.heap.size → Xof X0 σ' hp' g → Xof X0 σ hp g := fun g hg hx => by
  rcases hx with hx | hx
  · exact .inl hx
  · exact .inr (h.own g hg hx)
theorem Ext.xstep {X0 : Blk} {σ σ' : Sub} {hp hp' : Hp} {w w' : World} (h : Ext σ hp w σ' hp' w') : Step (Xof X0 σ hp) w w' := h.step.mono fun _ _ h => .inr h
theorem Ext.VL {X0 : Blk} {σ σ' : Sub} {hp hp' : Hp} {w w' : World} (h : Ext σ hp w σ' hp' w') {as : List AV} {vs : List Value} (hV : VL (Xof X0 σ hp) w σ as vs) : VL (Xof X0 σ' hp') w' σ' as vs :=
  VL_mono h.X h.xstep _ _ _ _ h.sub hV
theorem Ext.V {X0 : Blk} {σ σ' : Sub} {hp hp' : Hp} {w w' : World} (h : Ext σ hp w σ' hp' w') {a : AV} {v : Value} (hV : V (Xof X0 σ hp) w σ a v) : V (Xof X0 σ' hp') w' σ' a v :=
  V_mono h.X h.xstep _ _ _ _ h.sub hV

/-- The state behind a run: related, and reached. -/
def After (X0 : Blk) (σ : Sub) (hp : Hp) (w : World) (ds : List Deferred) (tm' : Tm) (hp' : Hp) (a' : Act) (w' : World) : Prop :=
  ∃ σ', Ext σ hp w σ' hp' w' ∧ Rel X0 σ' hp' w' ∧ VL (Xof X0 σ' hp') w' σ' tm' a'.tmps.toList ∧ a'.defers = ds
theorem After.mono {X0 : Blk} {σ σ1 : Sub} {hp hp1 : Hp} {w w1 : World} {ds : List Deferred} {tm' : Tm} {hp' : Hp} {a' : Act} {w' : World} (h : Ext σ hp w σ1 hp1 w1) (h' : After X0 σ1 hp1 w1 ds tm' hp' a' w') : After X0 σ hp w ds tm' hp' a' w' := by
  obtain ⟨σ', e, r⟩ := h'
  exact ⟨σ', h.trans e, r⟩

theorem op_wp (hH : SoundH P H) {r : Option Nat} {o : Oper} {tm : Tm} {hp hp' : Hp} {v : AV} {X0 : Blk} {σ : Sub} {w : World} {a : Act} {next : Act → World → Prop} {Q : Exit → Act → World → Prop}
    (hR : Rel X0 σ hp w) (hT : VL (Xof X0 σ hp) w σ tm a.tmps.toList) (h : evOp P H o tm hp = some (v, hp'))
    (hn : ∀ a' w', After X0 σ hp w a.defers (aput tm o.dst v) hp' a' w' → next a' w') : o.wpIn (FR r) 0 P a w next Q := by
  refine ⟨fun f _ => FR_fn r f, ?_⟩
  -- an operation that is no call of a function value
  have plain : ∀ (hh : aop P o.op tm hp = some (v, hp')), (∀ c, o.op ≠ .defer c) → o.uponIn (FR r) 0 P a next Q ((o.semAt (FR r).round a.eval).run P w) := by
    intro hh hnd
    rw [Oper.semAt_eq _ _ _ hnd]
    obtain ⟨nx, u, w', σ', h1, h2, h3, h4, h5, h6⟩ := aop_sound hR hT hh
    have hE : Ext σ hp w σ' hp' w' := ⟨h3, h4.1, h4.2⟩
    have hA : After X0 σ hp w a.defers (aput tm o.dst v) hp' (a.put o.dst u) w' := ⟨σ', hE, h5, VL_put (hE.VL hT) o.dst h6, put_defers a o.dst u⟩
    rw [h1]
    rcases h2 with rfl | ⟨rfl, rfl⟩
    · rw [Oper.uponIn_value]; exact hn _ _ hA
    · rw [Oper.uponIn_skip]; exact hn _ _ hA
  unfold evOp at h
  split at h
  · rename_i f args argTypes e
    have hnd : ∀ c, o.op ≠ .defer c := by intro c; rw [e]; simp
    rw [Oper.semAt_eq _ _ _ hnd]
    have hargs : VL (Xof X0 σ hp) w σ (args.toList.map (aeval tm)) (args.map a.eval).toList := by simpa using VL_map hT args.toList
    split at h
    · rename_i g cap hf
      have hfv := V_aeval hT f
      rw [hf] at hfv
      simp only [V] at hfv
      obtain ⟨vs, hfe, hcap⟩ := hfv
      have hall : VL (Xof X0 σ hp) w σ (args.toList.map (aeval tm) ++ cap) (args.map a.eval ++ vs).toList := by
        rw [Array.toList_append]; exact VL_append hargs hcap
      have hexec : (execOp a.eval o).run P w = (callFunc g (args.map a.eval ++ vs)).run P w := by
        unfold execOp
        rw [e]
        simp only [resolve, hfe, Deferred.ofValue, pure_bind, invoke]
        simp
      rw [hexec]
      have hc := hH (.fn g) _ _ _ _ h X0 σ w _ hR hall
      have fin : ∀ u w', Left X0 σ hp w v hp' u w' → next (a.put o.dst u) w' := by
        rintro u w' ⟨σ', h3, h4, h5, h6⟩
        have hE : Ext σ hp w σ' hp' w' := ⟨h3, h4.1, h4.2⟩
        exact hn _ _ ⟨σ', hE, h5, VL_put (hE.VL hT) o.dst h6, put_defers a o.dst u⟩
      rcases hc with ⟨h1, h2⟩ | ⟨u, w', h1, h2⟩
      · rw [h1, Oper.uponIn_enter]
        refine ⟨FR_depth r, callsIn_FR (h2.mono ?_)⟩
        rintro e' w' ⟨u, rfl, hL⟩
        exact fin u w' hL
      · rw [h1, Oper.uponIn_value]; exact fin u w' h2
    · rename_i l hf
      have hfv := V_aeval hT f
      rw [hf] at hfv
      simp only [V] at hfv
      obtain ⟨g0, hg0, hfe⟩ := hfv
      obtain ⟨g, fn, tmps, assign, body, hg, hy, hround⟩ := hH (.yield l) _ _ _ _ h X0 σ w _ hR hargs
      rw [hg0] at hg; injection hg with hg; subst hg
      have hexec : (execOp a.eval o).run P w = (Instr.yield g0 (args.map a.eval)).run P w := by
        unfold execOp
        rw [e]
        simp only [resolve, hfe, Deferred.ofValue, pure_bind, invoke]
        simp
      rw [hexec, hy, Oper.uponIn_round]
      refine ⟨FR_depth r, roundIn_FR (hround.mono ?_)⟩
      rintro e' w' ⟨u, rfl, σ', h3, h4, h5, h6⟩
      have hE : Ext σ hp w σ' hp' w' := ⟨h3, h4.1, h4.2⟩
      exact hn _ _ ⟨σ', hE, h5, VL_put (hE.VL hT) o.dst h6, put_defers a o.dst u⟩
    · cases h
  · refine plain h fun c hc => ?_
    rw [hc] at h
    simp [aop] at h

theorem ops_wp (hH : SoundH P H) {r : Option Nat} {ops : Array Oper} {X0 : Blk} {Q : Exit → Act → World → Prop} : ∀ (l : List Nat) (tm : Tm) (hp : Hp) (σ : Sub) (w : World) (a : Act) (tm' : Tm) (hp' : Hp),
    Rel X0 σ hp w → VL (Xof X0 σ hp) w σ tm a.tmps.toList → evOps P H ops l tm hp = some (tm', hp') → (∀ a' w', After X0 σ hp w a.defers tm' hp' a' w' → Q .normal a' w') → wpOpsIn (FR r) 0 P ops Q l a w
  | [], tm, hp, σ, w, a, tm', hp', hR, hT, h, hQ => by
    simp only [evOps, Option.some.injEq, Prod.mk.injEq] at h
    obtain ⟨rfl, rfl⟩ := h
    exact hQ a w ⟨σ, Ext.refl _ _ _, hR, hT, rfl⟩
  | i :: rest, tm, hp, σ, w, a, tm', hp', hR, hT, h, hQ => by
    simp only [evOps] at h
    simp only [wpOpsIn]
    cases ho : ops[i]? with
    | none =>
      rw [ho] at h
      exact ops_wp hH rest tm hp σ w a tm' hp' hR hT h hQ
    | some o =>
      rw [ho] at h
      simp only at h ⊢
      cases hg : aguard ops o tm with
      | none => rw [hg] at h; cases h
      | some b =>
        rw [hg] at h
        rw [yielded_of hT hg]
        cases b with
        | false =>
          simp only at h
          rw [if_neg (by simp)]
          exact ⟨fun f _ => FR_fn r f, ops_wp hH rest (aput tm o.dst .undef) hp σ w (a.put o.dst undef) tm' hp' hR (VL_put hT o.dst (by simp only [V])) h (by rw [put_defers]; exact hQ)⟩
        | true =>
          simp only at h
          rw [if_pos rfl]
          split at h
          · cases h
          · rename_i v hp1 hv
            refine op_wp hH hR hT hv ?_
            rintro a1 w1 ⟨σ1, hE, hR1, hT1, hd⟩
            exact ops_wp hH rest _ hp1 σ1 w1 a1 tm' hp' hR1 hT1 h (fun a' w' hA => hQ a' w' (by rw [hd] at hA; exact hA.mono hE))
end
end Go.Ab
namespace Go.Ab
open Go
set_option linter.unusedVariables false
set_option linter.unusedSimpArgs false

/-! ### renumbering the objects of one activation -/
mutual
def ids : AV → List Nat
  | .ref b _ => [b]
  | .eref b _ _ _ => [b]
  | .row b _ _ _ => [b]
  | .rowc b _ _ _ => [b]
  | .fn _ cap => idsL cap
  | .yield l => [l]
  | .map m => [m]
  | .iface _ v => ids v
  | .agg cs => idsL cs
  | .tup vs => idsL vs
  | _ => []
def idsL : List AV → List Nat
  | [] => []
  | a :: as => ids a ++ idsL as
end
def objIds : AObj → List Nat
  | .cells cs => idsL cs
  | .tcells _ cs => idsL cs
  | .loop _ _ _ tm _ _ _ d => d :: idsL tm
  | _ => []
def reach (hp : Hp) (base : Nat) : Nat → List Nat → List Nat → List Nat
  | 0, _, acc => acc
  | _ + 1, [], acc => acc
  | n + 1, i :: todo, acc => if i < base then reach hp base n todo acc else if acc.contains i then reach hp base n todo acc else
      reach hp base n ((match hp[i]? with | some (some o) => objIds o | _ => []) ++ todo) (acc ++ [i])
def pos (i : Nat) : List Nat → Nat → Option Nat
  | [], _ => none
  | j :: l, k => if i = j then some k else pos i l (k + 1)
def ren (base : Nat) (L : List Nat) (i : Nat) : Option Nat := if i < base then some i else pos i L base
mutual
def renAV (base : Nat) (L : List Nat) : AV → AV
  | .ref b off => match ren base L b with | some b' => .ref b' off | none => .junk
  | .eref b sz i c => match ren base L b with | some b' => .eref b' sz i c | none => .junk
  | .row b sz lo n => match ren base L b with | some b' => .row b' sz lo n | none => .junk
  | .rowc b sz n c => match ren base L b with | some b' => .rowc b' sz n c | none => .junk
  | .fn f cap => .fn f (renL base L cap)
  | .yield l => match ren base L l with | some l' => .yield l' | none => .junk
  | .map m => match ren base L m with | some m' => .map m' | none => .junk
  | .iface t v => .iface t (renAV base L v)
  | .agg cs => .agg (renL base L cs)
  | .tup vs => .tup (renL base L vs)
  | a => a
def renL (base : Nat) (L : List Nat) : List AV → List AV
  | [] => []
  | a :: as => renAV base L a :: renL base L as
end
def renObj (base : Nat) (L : List Nat) : Option AObj → Option AObj
  | some (.cells cs) => some (.cells (renL base L cs))
  | some (.tcells t cs) => some (.tcells t (renL base L cs))
  | some (.loop h st pe tm ps as bo d) => match ren base L d with
    | some d' => some (.loop h st pe (renL base L tm) ps as bo d')
    | none => none
  | o => o
def nodupB : List Nat → Bool
  | [] => true
  | i :: l => !l.contains i && nodupB l
def renHp (base : Nat) (L : List Nat) (hp : Hp) : Hp := (hp.take base).map (renObj base L) ++ L.map fun i => renObj base L (hp.getD i none)
def renσ (base : Nat) (L : List Nat) (σ : Sub) : Sub := fun j => if j < base then σ j else (L[j - base]?).bind σ
/-- The numbers in use. -/
def used (base : Nat) (tm : Tm) (hp : Hp) : List Nat :=
  reach hp base 200 (idsL tm ++ (hp.take base).flatMap fun o => match o with | some o => objIds o | none => []) []
def compact (base : Nat) (tm : Tm) (hp : Hp) : Tm × Hp :=
  if base ≤ hp.length ∧ nodupB (used base tm hp) = true then (renL base (used base tm hp) tm, renHp base (used base tm hp) hp) else (tm, hp)

/-- Some temporaries are forgotten. -/
def mask : List Bool → Tm → Tm
  | b :: bs, v :: vs => (if b then v else .junk) :: mask bs vs
  | _, vs => vs

structure ExtB (b : Nat) (σ : Sub) (hp : Hp) (w : World) (σ' : Sub) (hp' : Hp) (w' : World) : Prop where
  sub : ∀ i g, i < b → σ i = some g → σ' i = some g
  step : Step (Own σ hp) w w'
  own : ∀ g, g < w.heap.size → Own σ' hp' g → Own σ hp g
  len : b ≤ hp'.length

section
variable {P : Program} {X0 : Blk} {σ : Sub} {hp : Hp} {w : World} {X : Blk}
theorem ExtB.refl (b : Nat) (σ : Sub) (hp : Hp) (w : World) (h : b ≤ hp.length) : ExtB b σ hp w σ hp w := ⟨fun _ _ _ h => h, Step.refl _ _, fun _ _ h => h, h⟩
theorem ExtB.trans {b : Nat} {σ σ' σ'' : Sub} {hp hp' hp'' : Hp} {w w' w'' : World} (h : ExtB b σ hp w σ' hp' w') (h' : ExtB b σ' hp' w' σ'' hp'' w'') : ExtB b σ hp w σ'' hp'' w'' :=
  ⟨fun i g hb hi => h'.sub i g hb (h.sub i g hb hi), h.step.trans h'.step h.own, fun g hg hx => h.own g hg (h'.own g (Nat.lt_of_lt_of_le hg h.step.size) hx), h'.len⟩
theorem ExtB.full {σ σ' : Sub} {hp hp' : Hp} {w w' : World} (hR : Rel X0 σ hp w) (h : ExtB hp.length σ hp w σ' hp' w') : Ext σ hp w σ' hp' w' :=
  ⟨fun i g hi => h.sub i g (hR.dom i g hi) hi, h.step, h.own⟩

theorem pos_spec (i : Nat) : ∀ (L : List Nat) (k j : Nat), pos i L k = some j → k ≤ j ∧ L[j - k]? = some i
  | [], k, j, h => by cases h
  | x :: L, k, j, h => by
    simp only [pos] at h
    split at h
    · rename_i e; injection h with h; subst h; subst e
      exact ⟨Nat.le_refl _, by simp⟩
    · obtain ⟨h1, h2⟩ := pos_spec i L (k + 1) j h
      refine ⟨by omega, ?_⟩
      have : j - k = (j - (k + 1)) + 1 := by omega
      rw [this]; simpa using h2
theorem ren_spec {base : Nat} {L : List Nat} {i j g : Nat} (h : ren base L i = some j) (hg : σ i = some g) : renσ base L σ j = some g := by
  unfold ren at h
  split at h
  · rename_i hb; injection h with h; subst h
    unfold renσ; rw [if_pos hb]; exact hg
  · obtain ⟨h1, h2⟩ := pos_spec i L base j h
    unfold renσ; rw [if_neg (by omega), h2]; exact hg
mutual
theorem V_ren {X' : Blk} {base : Nat} {L : List Nat} (hX : ∀ g, X' g → X g) : ∀ (a : AV) (v : Value), V X w σ a v → V X' w (renσ base L σ) (renAV base L a) v
  | .junk, v, h => by simp only [renAV, V]
  | .undef, v, h => by simpa only [renAV, V] using h
  | .int k n, v, h => by simpa only [renAV, V] using h
  | .bool b, v, h => by simpa only [renAV, V] using h
  | .str s, v, h => by simpa only [renAV, V] using h
  | .nilp, v, h => by simpa only [renAV, V] using h
  | .ref b off, v, h => by
    simp only [V] at h; obtain ⟨g, h1, h2⟩ := h
    simp only [renAV]; split
    · rename_i b' hb; simp only [V]; exact ⟨g, ren_spec hb h1, h2⟩
    · simp only [V]
  | .eref b sz i c, v, h => by
    simp only [V] at h; obtain ⟨g, h1, h2⟩ := h
    simp only [renAV]; split
    · rename_i b' hb; simp only [V]; exact ⟨g, ren_spec hb h1, h2⟩
    · simp only [V]
  | .fref m f, v, h => by
    simp only [renAV]
    exact V_mono (fun g _ => hX g) (Step.refl _ _) (.fref m f) v σ _ (fun _ _ h => h) h |> V_noref (σ' := renσ base L σ) |> fun q => q rfl
  | .nilsl, v, h => by simpa only [renAV, V] using h
  | .sl sz n f, v, h => by
    simp only [renAV]
    exact V_mono (fun g _ => hX g) (Step.refl _ _) (.sl sz n f) v σ _ (fun _ _ h => h) h |> V_noref (σ' := renσ base L σ) |> fun q => q rfl
  | .row b sz lo n, v, h => by
    simp only [V] at h; obtain ⟨hb0, g, o, cap, arr, t, fr, h1, h2⟩ := h
    simp only [renAV]; split
    · rename_i b' hb; simp only [V]; exact ⟨hb0, g, o, cap, arr, t, fr, ren_spec hb h1, h2⟩
    · simp only [V]
  | .rowc b sz n c, v, h => by
    simp only [V] at h; obtain ⟨hb0, g, o, cap, arr, t, fr, h1, h2⟩ := h
    simp only [renAV]; split
    · rename_i b' hb; simp only [V]; exact ⟨hb0, g, o, cap, arr, t, fr, ren_spec hb h1, h2⟩
    · simp only [V]
  | .fn f cap, v, h => by
    simp only [V] at h; obtain ⟨vs, h1, h2⟩ := h
    simp only [renAV, V]; exact ⟨vs, h1, VL_ren hX cap _ h2⟩
  | .yield l, v, h => by
    simp only [V] at h; obtain ⟨g, h1, h2⟩ := h
    simp only [renAV]; split
    · rename_i b' hb; simp only [V]; exact ⟨g, ren_spec hb h1, h2⟩
    · simp only [V]
  | .nilfn, v, h => by simpa only [renAV, V] using h
  | .map m, v, h => by
    simp only [V] at h; obtain ⟨g, h1, h2⟩ := h
    simp only [renAV]; split
    · rename_i b' hb; simp only [V]; exact ⟨g, ren_spec hb h1, h2⟩
    · simp only [V]
  | .nilmap, v, h => by simpa only [renAV, V] using h
  | .iface t a, v, h => by
    simp only [V] at h; obtain ⟨u, h1, h2⟩ := h
    simp only [renAV, V]; exact ⟨u, h1, V_ren hX a u h2⟩
  | .niliface, v, h => by simpa only [renAV, V] using h
  | .agg cs, v, h => by
    simp only [V] at h; obtain ⟨vs, h1, h2⟩ := h
    simp only [renAV, V]; exact ⟨vs, h1, VL_ren hX cs _ h2⟩
  | .tup cs, v, h => by
    simp only [V] at h; obtain ⟨vs, h1, h2⟩ := h
    simp only [renAV, V]; exact ⟨vs, h1, VL_ren hX cs _ h2⟩
theorem VL_ren {X' : Blk} {base : Nat} {L : List Nat} (hX : ∀ g, X' g → X g) : ∀ (as : List AV) (vs : List Value), VL X w σ as vs → VL X' w (renσ base L σ) (renL base L as) vs
  | [], vs, h => by simpa only [renL, VL] using h
  | a :: as, vs, h => by
    simp only [VL] at h; obtain ⟨u, us, h1, h2, h3⟩ := h
    simp only [renL, VL]; exact ⟨u, us, h1, V_ren hX a u h2, VL_ren hX as us h3⟩
end
theorem VL_mask {tm : Tm} : ∀ (m : List Bool) (tm : Tm) (vs : List Value), VL X w σ tm vs → VL X w σ (mask m tm) vs
  | [], tm, vs, h => by simpa only [mask] using h
  | b :: bs, [], vs, h => by simpa only [mask] using h
  | b :: bs, v :: tm, vs, h => by
    simp only [VL] at h; obtain ⟨u, us, h1, h2, h3⟩ := h
    simp only [mask, VL]
    refine ⟨u, us, h1, ?_, VL_mask (tm := tm) bs tm us h3⟩
    cases b
    · simp only [Bool.false_eq_true, if_false, V]
    · simpa using h2

theorem renHp_get {base : Nat} {L : List Nat} (hb : base ≤ hp.length) {j : Nat} {o' : AObj} (h : (renHp base L hp)[j]? = some (some o')) :
    ∃ i o, hp[i]? = some (some o) ∧ renObj base L (some o) = some o' ∧ renσ base L σ j = σ i ∧ ((j < base ∧ i = j) ∨ (base ≤ j ∧ L[j - base]? = some i)) := by
  unfold renHp at h
  have hl : ((hp.take base).map (renObj base L)).length = base := by simp; omega
  by_cases hj : j < base
  · rw [List.getElem?_append_left (by omega), List.getElem?_map, List.getElem?_take, if_pos hj] at h
    have hlt : j < hp.length := by omega
    simp [hlt] at h
    cases hx : hp[j] with
    | none => rw [hx] at h; simp [renObj] at h
    | some o =>
      rw [hx] at h
      exact ⟨j, o, by simp [hlt, hx], h, by unfold renσ; rw [if_pos hj], .inl ⟨hj, rfl⟩⟩
  · rw [List.getElem?_append_right (by omega), hl, List.getElem?_map] at h
    cases hL : L[j - base]? with
    | none => rw [hL] at h; cases h
    | some i =>
      rw [hL] at h
      simp only [Option.map_some, Option.some.injEq] at h
      cases hx : hp[i]? with
      | none => simp [List.getD, hx, renObj] at h
      | some x =>
        simp only [List.getD, hx, Option.getD_some] at h
        cases x with
        | none => simp [renObj] at h
        | some o => exact ⟨i, o, hx, h, by unfold renσ; rw [if_neg hj, hL]; rfl, .inr ⟨by omega, rfl⟩⟩
theorem nodupB_inj : ∀ {L : List Nat}, nodupB L = true → ∀ (i j x : Nat), L[i]? = some x → L[j]? = some x → i = j
  | [], _, i, j, x, h, _ => by simp at h
  | y :: L, hn, i, j, x, hi, hj => by
    simp only [nodupB, Bool.and_eq_true, Bool.not_eq_true'] at hn
    have hmem : ∀ k : Nat, L[k]? = some y → False := by
      intro k hk
      have : y ∈ L := List.mem_of_getElem? hk
      have := hn.1
      simp at this; contradiction
    cases i with
    | zero =>
      cases j with
      | zero => rfl
      | succ j => simp at hi hj; subst hi; exact (hmem j hj).elim
    | succ i =>
      cases j with
      | zero => simp at hi hj; subst hj; exact (hmem i hi).elim
      | succ j => simp at hi hj; rw [nodupB_inj hn.2 i j x hi hj]

theorem Rel.ren (h : Rel X0 σ hp w) {base : Nat} {L : List Nat} (hb : base ≤ hp.length) (hL : nodupB L = true) (hLb : ∀ i, i ∈ L → base ≤ i) :
    Rel X0 (renσ base L σ) (renHp base L hp) w ∧ ExtB base σ hp w (renσ base L σ) (renHp base L hp) w ∧ ∀ g, Xof X0 (renσ base L σ) (renHp base L hp) g → Xof X0 σ hp g := by
  have hown : ∀ g, Own (renσ base L σ) (renHp base L hp) g → Own σ hp g := by
    rintro g ⟨j, o', h1, h2⟩
    obtain ⟨i, o, q1, q2, q3, _⟩ := renHp_get (σ := σ) hb h1
    rw [q3] at h2; exact ⟨i, o, q1, h2⟩
  have hX : ∀ g, Xof X0 (renσ base L σ) (renHp base L hp) g → Xof X0 σ hp g := fun g hx => hx.imp id (hown g)
  have hlen : (renHp base L hp).length = base + L.length := by simp [renHp]; omega
  have hσ : ∀ j g, renσ base L σ j = some g → ∃ i, σ i = some g ∧ j < base + L.length := by
    intro j g hj
    unfold renσ at hj
    split at hj
    · exact ⟨j, hj, by omega⟩
    · cases hq : L[j - base]? with
      | none => rw [hq] at hj; cases hj
      | some i =>
        rw [hq] at hj
        have := (List.getElem?_eq_some_iff.1 hq).1
        exact ⟨i, hj, by omega⟩
  refine ⟨⟨?_, ?_, h.x0, ?_, ?_, ?_⟩, ⟨fun i g hi hg => by unfold renσ; rw [if_pos hi]; exact hg, Step.refl _ _, fun g _ hx => hown g hx, by omega⟩, hX⟩
  · intro i j x y g hi hj h1 h2
    obtain ⟨i0, o, q1, q2, q3, q4⟩ := renHp_get (σ := σ) hb hi
    obtain ⟨j0, o2, r1, r2, r3, r4⟩ := renHp_get (σ := σ) hb hj
    rw [q3] at h1; rw [r3] at h2
    have he := h.inj i0 j0 o o2 g q1 r1 h1 h2
    subst he
    rcases q4 with ⟨a1, a2⟩ | ⟨a1, a2⟩ <;> rcases r4 with ⟨b1, b2⟩ | ⟨b1, b2⟩
    · omega
    · have := hLb i0 (List.mem_of_getElem? b2); omega
    · have := hLb i0 (List.mem_of_getElem? a2); omega
    · have := nodupB_inj hL _ _ _ a2 b2; omega
  · intro j g hj
    obtain ⟨i, hi, _⟩ := hσ j g hj
    exact h.lt i g hi
  · intro j g hj
    obtain ⟨i, hi, _⟩ := hσ j g hj
    exact h.sep i g hi
  · intro j g hj
    obtain ⟨i, hi, hlt⟩ := hσ j g hj
    omega
  · intro j o' hj
    obtain ⟨i, o, q1, q2, q3, _⟩ := renHp_get (σ := σ) hb hj
    obtain ⟨g, h1, h2⟩ := h.obj i o q1
    refine ⟨g, by rw [q3]; exact h1, ?_⟩
    cases o with
    | cells cs =>
      simp only [renObj, Option.some.injEq] at q2; subst q2
      obtain ⟨arr, e1, e2⟩ := h2
      exact ⟨arr, e1, VL_ren hX _ _ e2⟩
    | tcells t cs =>
      simp only [renObj, Option.some.injEq] at q2; subst q2
      obtain ⟨arr, e1, e2, e3⟩ := h2
      exact ⟨arr, e1, VL_ren hX _ _ e2, e3⟩
    | row sz n f =>
      simp only [renObj, Option.some.injEq] at q2; subst q2
      exact O_mono h2 rfl (σ' := σ) (fun _ _ h => h) (fun g' _ hx => hX g' hx) (Step.refl _ _)
    | bytes l =>
      simp only [renObj, Option.some.injEq] at q2; subst q2
      exact h2
    | loop hid st pe tm ps as bo d =>
      simp only [renObj] at q2
      split at q2
      · rename_i d' hd
        injection q2 with q2; subst q2
        obtain ⟨Lo, gd, e1, e2, e3, e4, e5, e6, e7, e8, e9⟩ := h2
        exact ⟨Lo, gd, e1, e2, e3, VL_ren hX _ _ e4, e5, e6, e7, ren_spec hd e8, e9⟩
      · cases q2
    | dfr =>
      simp only [renObj, Option.some.injEq] at q2; subst q2
      exact h2
    | map es =>
      simp only [renObj, Option.some.injEq] at q2; subst q2
      exact O_mono h2 rfl (σ' := σ) (fun _ _ h => h) (fun g' _ hx => hX g' hx) (Step.refl _ _)
    | smap m =>
      simp only [renObj, Option.some.injEq] at q2; subst q2
      exact h2
theorem reach_base (hp : Hp) (base : Nat) : ∀ (n : Nat) (todo acc : List Nat), (∀ i, i ∈ acc → base ≤ i) → ∀ i, i ∈ reach hp base n todo acc → base ≤ i
  | 0, _, acc, h, i, hi => h i hi
  | n + 1, [], acc, h, i, hi => h i hi
  | n + 1, x :: todo, acc, h, i, hi => by
    simp only [reach] at hi
    split at hi
    · exact reach_base hp base n todo acc h i hi
    · split at hi
      · exact reach_base hp base n todo acc h i hi
      · refine reach_base hp base n _ _ ?_ i hi
        intro j hj
        rcases List.mem_append.1 hj with hj | hj
        · exact h j hj
        · simp at hj; omega
theorem compact_sound (h : Rel X0 σ hp w) {base : Nat} {tm : Tm} {vs : List Value} (hT : VL (Xof X0 σ hp) w σ tm vs) (hb : base ≤ hp.length) :
    ∃ σ', Rel X0 σ' (compact base tm hp).2 w ∧ ExtB base σ hp w σ' (compact base tm hp).2 w ∧ VL (Xof X0 σ' (compact base tm hp).2) w σ' (compact base tm hp).1 vs := by
  unfold compact
  split
  · rename_i hc
    obtain ⟨h1, h2, h3⟩ := h.ren hc.1 hc.2 (reach_base hp base 200 _ [] (by simp))
    exact ⟨_, h1, h2, VL_ren h3 _ _ hT⟩
  · exact ⟨σ, h, ExtB.refl base σ hp w hb, hT⟩
end
end Go.Ab
namespace Go.Ab
open Go
set_option linter.unusedVariables false
set_option linter.unusedSimpArgs false

/-! ### A region that draws its order -/
def baseOf : AV → Option Nat
  | .ref b _ => some b
  | .eref b _ _ _ => some b
  | _ => none
def isFref : AV → Bool
  | .fref _ _ => true
  | .undef => true
  | _ => false
def isMapV : AV → Bool
  | .map _ => true
  | _ => false
/-- What an operation and its guard look at. -/
def looks (ops : Array Oper) (o : Oper) : List Tmp :=
  (o.op.operands.toList.filterMap fun | .tmp t => some t | _ => none) ++
  (match o.guard with
   | some (g, _) => ((ops[g]?).bind (·.dst)).toList
   | none => [])
/-- It neither reads nor writes memory. -/
def freeB (P : Program) (pf : FuncId → Bool) (ev : Operand → AV) : Op → Bool
  | .move _ | .assign _ | .pick .. | .build .. | .nilCheck _ | .binOp .. | .unOp .. | .makeInterface .. | .makeFunc .. | .slice .. | .fieldAddr .. | .field .. | .indexAddr .. | .index .. | .extract .. => true
  | .load _ x => isFref (ev x)
  | .convert _ dst x => match P.underlying dst, ev x with
    | some (.int _), .int _ _ => true
    | some .string, .str _ => true
    | _, .undef => true
    | _, _ => false
  | .call { callee := .builtin .len, args, .. } => match args.toList with
    | [x] => !(isMapV (ev x))
    | _ => false
  | .call { callee := .builtin .min, .. } | .call { callee := .builtin .max, .. } | .call { callee := .builtin .unsafeSliceData, .. } => true
  | .call { callee := .value y, .. } => match ev y with
    | .fn f [] => pf f
    | _ => false
  | _ => false
def mbaseOf : AV → Option Nat
  | .map b => some b
  | _ => none
def loadB (ev : Operand → AV) : Op → Option Nat
  | .load _ x => baseOf (ev x)
  | .lookup _ x _ _ => mbaseOf (ev x)
  | _ => none
def storeB (ev : Operand → AV) : Op → Option Nat
  | .store _ x _ => baseOf (ev x)
  | _ => none
/-- A new object. -/
def buildB : Op → Bool
  | .buildSlice .. => true
  | .alloc _ => true
  | _ => false
/-- A load ahead of a new object. -/
def aheadB (ev : Operand → AV) (a x : Op) : Bool := match loadB ev a with
  | some _ => buildB x
  | none => false
/-- May they stand either way round? -/
def apartB (P : Program) (pf : FuncId → Bool) (ev : Operand → AV) (a x : Op) : Bool :=
  freeB P pf ev a || freeB P pf ev x || aheadB ev a x ||
  match loadB ev a, loadB ev x, storeB ev a, storeB ev x with
  | some _, some _, _, _ => true
  | some b, none, _, some c => b != c
  | none, some b, some c, _ => b != c
  | _, _, _, _ => false
/-- It neither reads nor writes memory, whatever its operands are. -/
def statB : Op → Bool
  | .move _ | .assign _ | .pick .. | .build .. | .nilCheck _ | .binOp .. | .unOp .. | .makeInterface .. | .makeFunc .. | .slice .. | .fieldAddr .. | .field .. | .indexAddr .. | .index .. | .extract .. => true
  | _ => false
def tmB (ops : Array Oper) (be : Array Nat) (i k : Nat) : Bool :=
  match ops[i]?, ops[k]? with
  | some o, some q => match q.dst with
    | some d => !(looks ops o).contains d || (be.getD i 0).testBit k || (be.getD k 0).testBit i && statB o.op
    | none => true
  | _, _ => true
def pairB (P : Program) (pf : FuncId → Bool) (ops : Array Oper) (ev : Operand → AV) (be : Array Nat) (i j : Nat) : Bool :=
  (be.getD j 0).testBit i || match ops[i]?, ops[j]? with
    | some a, some x => (match a.dst, x.dst with | some d, some e => d != e | _, _ => true) && apartB P pf ev a.op x.op
    | _, _ => true
def drawE (P : Program) (pf : FuncId → Bool) (ops : Array Oper) (ev : Operand → AV) : Bool :=
  P.follows .mixedOrders &&
  (List.range ops.size).all fun i =>
    ((ops[i]?).map (·.after.all fun e => !Region.binds .any e || decide (e.on < i))).getD true &&
    (List.range ops.size).all (fun k => tmB ops (Region.before ops) i k) &&
    (List.range i).all (fun k => pairB P pf ops ev (Region.before ops) k i)
def drawOK (P : Program) (pf : FuncId → Bool) (ops : Array Oper) (fin : Tm) : Bool := drawE P pf ops (aeval fin)

/-- Functions whose contract is of no memory at all. -/
def PureH (pf : FuncId → Bool) (H : Hd) : Prop := ∀ f, pf f = true → ∀ args hp r hp', H (.fn f) args hp = some (r, hp') → hp' = hp ∧ ∀ hp2, H (.fn f) args hp2 = some (r, hp2)

section
variable {P : Program} {H : Hd} {pf : FuncId → Bool} {ops : Array Oper} {fin : Tm}

def SameAt (tm tm' : Tm) (l : List Tmp) : Prop := ∀ t, t ∈ l → tm.getD t .junk = tm'.getD t .junk
theorem aeval_same {tm tm' : Tm} {l : List Tmp} {x : Operand} (h : SameAt tm tm' l) (hx : ∀ t, x = .tmp t → t ∈ l) : aeval tm x = aeval tm' x := by
  cases x with
  | tmp t => exact h t (hx t rfl)
  | _ => rfl
theorem mem_looks {o : Oper} {x : Operand} {t : Tmp} (hx : x ∈ o.op.operands.toList) (e : x = .tmp t) : t ∈ looks ops o := by
  unfold looks
  refine List.mem_append_left _ (List.mem_filterMap.2 ⟨x, hx, by rw [e]⟩)
theorem aeval_looks {tm tm' : Tm} {o : Oper} (h : SameAt tm tm' (looks ops o)) {x : Operand} (hx : x ∈ o.op.operands.toList) : aeval tm x = aeval tm' x :=
  aeval_same h fun t e => mem_looks hx e
theorem aguard_same {tm tm' : Tm} {o : Oper} (h : SameAt tm tm' (looks ops o)) : aguard ops o tm = aguard ops o tm' := by
  unfold aguard
  split
  · rfl
  · rename_i j want e
    split
    · rename_i t ht
      have : tm.getD t .junk = tm'.getD t .junk := h t (by unfold looks; rw [e]; simp only; rw [ht]; simp)
      rw [this]
    · rfl
theorem map_looks {tm tm' : Tm} {o : Oper} (h : SameAt tm tm' (looks ops o)) : ∀ (l : List Operand), (∀ x, x ∈ l → x ∈ o.op.operands.toList) → l.map (aeval tm) = l.map (aeval tm')
  | [], _ => rfl
  | x :: l, hl => by
    simp only [List.map_cons, List.cons.injEq]
    exact ⟨aeval_looks h (hl x (by simp)), map_looks h l fun y hy => hl y (by simp [hy])⟩
theorem evOp_same {tm tm' : Tm} {o : Oper} (h : SameAt tm tm' (looks ops o)) (hp : Hp) : evOp P H o tm hp = evOp P H o tm' hp := by
  have hA : ∀ x, x ∈ o.op.operands.toList → aeval tm x = aeval tm' x := fun x hx => aeval_looks h hx
  have hM : ∀ (l : List Operand), (∀ x, x ∈ l → x ∈ o.op.operands.toList) → l.map (aeval tm) = l.map (aeval tm') := map_looks h
  obtain ⟨dst, op, ty, pos, after, guard⟩ := o
  simp only [evOp] at *
  cases op with
  | call c =>
    obtain ⟨callee, args, at_⟩ := c
    cases callee with
    | value f =>
      simp only
      rw [hA f (by simp [Op.operands, Call.operands]), hM args.toList (fun x hx => by simp [Op.operands, Call.operands]; right; simpa using hx)]
    | builtin b =>
      simp only [aop]
      rw [hM args.toList (fun x hx => by simp [Op.operands, Call.operands]; simpa using hx)]
    | _ => rfl
  | build t ps =>
    simp only [aop]
    have : ps.toList.map (fun p => (p.1, aeval tm p.2)) = ps.toList.map (fun p => (p.1, aeval tm' p.2)) := by
      refine List.map_congr_left fun p hp => ?_
      rw [hA p.2 (by simp only [Op.operands]; simp; exact ⟨p.1, by simpa using hp⟩)]
    rw [this]
  | buildSlice t n ps =>
    simp only [aop]
    have : ps.toList.map (fun p => (p.1, aeval tm p.2)) = ps.toList.map (fun p => (p.1, aeval tm' p.2)) := by
      refine List.map_congr_left fun p hp => ?_
      rw [hA p.2 (by simp only [Op.operands]; simp; exact ⟨p.1, by simpa using hp⟩)]
    rw [this]
  | makeFunc fn first captured =>
    cases fn with
    | func f =>
      simp only [aop]
      rw [hM captured.toList (fun x hx => by simp only [Op.operands, Array.toList_append]; exact List.mem_append_right _ hx)]
    | _ => rfl
  | slice t x lo hi mx =>
    cases mx with
    | some m =>
      simp only [aop]
      rw [hA x (by simp [Op.operands]), hA m (by simp [Op.operands])]
      have h1 : lo.map (aeval tm) = lo.map (aeval tm') := by cases lo with
        | none => rfl
        | some l => simp only [Option.map_some]; rw [hA l (by simp [Op.operands])]
      have h2 : hi.map (aeval tm) = hi.map (aeval tm') := by cases hi with
        | none => rfl
        | some l => simp only [Option.map_some]; rw [hA l (by simp [Op.operands])]
      rw [h1, h2]
    | none =>
      simp only [aop]
      rw [hA x (by simp [Op.operands])]
      have h1 : lo.map (aeval tm) = lo.map (aeval tm') := by cases lo with
        | none => rfl
        | some l => simp only [Option.map_some]; rw [hA l (by simp [Op.operands])]
      have h2 : hi.map (aeval tm) = hi.map (aeval tm') := by cases hi with
        | none => rfl
        | some l => simp only [Option.map_some]; rw [hA l (by simp [Op.operands])]
      rw [h1, h2]
  | pick c a b => simp only [aop]; rw [hA c (by simp [Op.operands]), hA a (by simp [Op.operands]), hA b (by simp [Op.operands])]
  | store t x y => simp only [aop]; rw [hA x (by simp [Op.operands]), hA y (by simp [Op.operands])]
  | binOp op t x y u => simp only [aop]; rw [hA x (by simp [Op.operands]), hA y (by simp [Op.operands])]
  | indexAddr t x y => simp only [aop]; rw [hA x (by simp [Op.operands]), hA y (by simp [Op.operands])]
  | index t x y => simp only [aop]; rw [hA x (by simp [Op.operands]), hA y (by simp [Op.operands])]
  | move x => simp only [aop]; rw [hA x (by simp [Op.operands])]
  | assign x => simp only [aop]; rw [hA x (by simp [Op.operands])]
  | box e x => simp only [aop]; rw [hA x (by simp [Op.operands])]
  | load t x => simp only [aop]; rw [hA x (by simp [Op.operands])]
  | nilCheck x => simp only [aop]; rw [hA x (by simp [Op.operands])]
  | unOp op t x => simp only [aop]; rw [hA x (by simp [Op.operands])]
  | convert s d x => simp only [aop]; rw [hA x (by simp [Op.operands])]
  | makeInterface t x => simp only [aop]; rw [hA x (by simp [Op.operands])]
  | fieldAddr t x i => simp only [aop]; rw [hA x (by simp [Op.operands])]
  | field t x i => simp only [aop]; rw [hA x (by simp [Op.operands])]
  | extract x i => simp only [aop]; rw [hA x (by simp [Op.operands])]
  | lookup t x y ok => simp only [aop]; rw [hA x (by simp [Op.operands]), hA y (by simp [Op.operands])]
  | mapUpdate t m k x => simp only [aop]; rw [hA m (by simp [Op.operands]), hA k (by simp [Op.operands]), hA x (by simp [Op.operands])]
  | insert t m k x => simp only [aop]; rw [hA m (by simp [Op.operands]), hA k (by simp [Op.operands]), hA x (by simp [Op.operands])]
  | makeMap t r => cases r <;> rfl
  | _ => rfl

theorem free_aop {o : Op} {tm : Tm} {hp hp' : Hp} {v : AV} (hS : ∀ x, x ∈ o.operands.toList → aeval tm x = aeval fin x) (hf : freeB P pf (aeval fin) o = true) (hc : ∀ f args at_, o ≠ .call { callee := .value f, args, argTypes := at_ })
    (h : aop P o tm hp = some (v, hp')) : hp' = hp ∧ ∀ hp2, aop P o tm hp2 = some (v, hp2) := by
  unfold aop at h
  have key : ∀ {q : Option AV} {v hp hp'}, q.map (fun v => (v, hp)) = some (v, hp') → hp' = (hp : Hp) ∧ ∀ hp2 : Hp, q.map (fun v => (v, hp2)) = some (v, hp2) := by
    intro q v hp hp' h
    cases q with
    | none => cases h
    | some a => simp only [Option.map_some, Option.some.injEq, Prod.mk.injEq] at h; obtain ⟨rfl, rfl⟩ := h; exact ⟨rfl, fun _ => rfl⟩
  split at h
  · simp only [Option.some.injEq, Prod.mk.injEq] at h; obtain ⟨rfl, rfl⟩ := h; exact ⟨rfl, fun _ => rfl⟩
  · simp only [Option.some.injEq, Prod.mk.injEq] at h; obtain ⟨rfl, rfl⟩ := h; exact ⟨rfl, fun _ => rfl⟩
  · rename_i c a b
    simp only [aop]
    split at h
    · simp only [Option.some.injEq, Prod.mk.injEq] at h; obtain ⟨rfl, rfl⟩ := h; exact ⟨rfl, fun _ => rfl⟩
    · cases h
  · simp [freeB] at hf
  · simp [freeB] at hf
  · exact key h
  · simp [freeB] at hf
  · rename_i t x
    have hx := hS x (by simp [Op.operands])
    simp only [freeB] at hf
    rw [← hx] at hf
    simp only [aop]
    cases hv : aeval tm x with
    | fref m f =>
      rw [hv] at h
      have : ∀ hp2, aload P t (.fref m f) hp2 = aload P t (.fref m f) hp := by intro hp2; unfold aload; rfl
      cases ha : aload P t (.fref m f) hp with
      | none => rw [ha] at h; cases h
      | some a =>
        rw [ha] at h
        simp only [Option.map_some, Option.some.injEq, Prod.mk.injEq] at h
        obtain ⟨rfl, rfl⟩ := h
        exact ⟨rfl, fun hp2 => by rw [this hp2, ha]; rfl⟩
    | undef =>
      rw [hv] at h
      have : aload P t .undef hp = none := by unfold aload; split <;> rfl
      rw [this] at h; cases h
    | _ => rw [hv] at hf; cases hf
  · simp [freeB] at hf
  · exact key h
  · exact key h
  · exact key h
  · rename_i s d x
    have hx := hS x (by simp [Op.operands])
    simp only [freeB] at hf
    rw [← hx] at hf
    simp only [aop]
    unfold aconvert at h ⊢
    split at hf
    · rename_i k k' n e1 e2
      rw [e1, e2] at h
      rw [e1, e2]
      cases hs : P.underlying s with
      | none => rw [hs] at h; cases h
      | some ds =>
        rw [hs] at h
        simp only [Option.some.injEq, Prod.mk.injEq] at h
        obtain ⟨rfl, rfl⟩ := h
        exact ⟨rfl, fun _ => rfl⟩
    · rename_i l e1 e2
      rw [e1, e2] at h
      rw [e1, e2]
      cases hs : P.underlying s with
      | none => rw [hs] at h; cases h
      | some ds =>
        rw [hs] at h
        simp only [Option.some.injEq, Prod.mk.injEq] at h
        obtain ⟨rfl, rfl⟩ := h
        exact ⟨rfl, fun _ => rfl⟩
    · rename_i e2
      rw [e2] at h
      split at h <;> first | contradiction | (exact absurd h (by simp))
    · cases hf
  · exact key h
  · split at h
    · rename_i e
      simp only [aop, e, if_true]
      simp only [Option.some.injEq, Prod.mk.injEq] at h; obtain ⟨rfl, rfl⟩ := h; exact ⟨rfl, fun _ => rfl⟩
    · cases h
  · exact key h
  · exact key h
  · exact key h
  · exact key h
  · exact key h
  · exact key h
  · exact key h
  · simp [freeB] at hf
  · simp [freeB] at hf
  · simp [freeB] at hf
  · simp [freeB] at hf
  · rename_i b args at_
    simp only [aop]
    unfold abuiltin at h ⊢
    split at h
    · rename_i x hl
      simp only [freeB] at hf
      split at hf
      · rename_i y hy
        rw [hy] at hl
        simp only [List.map_cons, List.map_nil, List.cons.injEq, and_true] at hl
        have hyx := hS y (by simp [Op.operands, Call.operands, hy])
        rw [← hyx, hl] at hf
        split at h
        · rename_i t ht
          have hal : ∀ hp2, alen P t x hp2 = alen P t x hp := by
            intro hp2
            unfold alen
            split <;> first | rfl | (simp [isMapV] at hf)
          split at h
          · rename_i n hn
            simp only [Option.some.injEq, Prod.mk.injEq] at h; obtain ⟨rfl, rfl⟩ := h
            refine ⟨rfl, fun hp2 => ?_⟩
            simp only [hy, List.map_cons, List.map_nil, hl, ht, hal hp2, hn]
          · cases h
        · cases h
      · cases hf
    · rename_i k x r hl
      have := key h
      exact ⟨this.1, fun hp2 => this.2 hp2⟩
    · rename_i k x r hl
      have := key h
      exact ⟨this.1, fun hp2 => this.2 hp2⟩
    · simp [freeB] at hf
    · simp [freeB] at hf
    · rename_i x hl
      have := key h
      exact ⟨this.1, fun hp2 => this.2 hp2⟩
    · simp [freeB] at hf
    · cases h
  · cases h
theorem free_spec (hpf : PureH pf H) {o : Oper} {tm : Tm} {hp hp' : Hp} {v : AV} (hS : SameAt tm fin (looks ops o)) (hf : freeB P pf (aeval fin) o.op = true)
    (h : evOp P H o tm hp = some (v, hp')) : hp' = hp ∧ ∀ hp2, evOp P H o tm hp2 = some (v, hp2) := by
  have hA : ∀ x, x ∈ o.op.operands.toList → aeval tm x = aeval fin x := fun x hx => aeval_looks hS hx
  unfold evOp at h ⊢
  split at h
  · rename_i f args at_ e
    rw [e] at hf
    simp only [freeB] at hf
    have hy := hA f (by rw [e]; simp [Op.operands, Call.operands])
    split at hf
    · rename_i g hg
      rw [hg] at hy
      simp only [hy, e] at h ⊢
      exact hpf g hf _ _ _ _ h
    · cases hf
  · rename_i hne
    have := free_aop hA hf (fun f args at_ e => hne f args at_ e) h
    refine ⟨this.1, fun hp2 => ?_⟩
    exact this.2 hp2
theorem load_spec {o : Oper} {tm : Tm} {hp hp' : Hp} {v : AV} {b : Nat} (hS : SameAt tm fin (looks ops o)) (hf : loadB (aeval fin) o.op = some b)
    (h : evOp P H o tm hp = some (v, hp')) : hp' = hp ∧ ∀ hp2, hp2[b]? = hp[b]? → evOp P H o tm hp2 = some (v, hp2) := by
  unfold loadB at hf
  split at hf
  · rename_i t x e
    have hx := aeval_looks hS (x := x) (by rw [e]; simp [Op.operands])
    rw [← hx] at hf
    unfold evOp at h ⊢
    simp only [e, aop] at h ⊢
    cases ha : aload P t (aeval tm x) hp with
    | none => rw [ha] at h; cases h
    | some a =>
      rw [ha] at h
      simp only [Option.map_some, Option.some.injEq, Prod.mk.injEq] at h
      obtain ⟨rfl, rfl⟩ := h
      refine ⟨rfl, fun hp2 he => ?_⟩
      have : aload P t (aeval tm x) hp2 = aload P t (aeval tm x) hp := by
        unfold baseOf at hf
        split at hf
        · rename_i b' off hv; injection hf with hf; subst hf; rw [hv]; unfold aload; simp only [he]
        · rename_i b' sz i c hv; injection hf with hf; subst hf; rw [hv]; unfold aload; simp only [he]
        · cases hf
      rw [this, ha]; rfl
  · rename_i t x y ok e
    have hx := aeval_looks hS (x := x) (by rw [e]; simp [Op.operands])
    rw [← hx] at hf
    unfold evOp at h ⊢
    simp only [e, aop] at h ⊢
    cases ha : alookup P t (aeval tm x) (aeval tm y) ok hp with
    | none => rw [ha] at h; cases h
    | some a =>
      rw [ha] at h
      simp only [Option.map_some, Option.some.injEq, Prod.mk.injEq] at h
      obtain ⟨rfl, rfl⟩ := h
      refine ⟨rfl, fun hp2 he => ?_⟩
      have : alookup P t (aeval tm x) (aeval tm y) ok hp2 = alookup P t (aeval tm x) (aeval tm y) ok hp := by
        unfold mbaseOf at hf
        split at hf
        · rename_i b' hv; injection hf with hf; subst hf; rw [hv]; exact alookup_eq he
        · cases hf
      rw [this, ha]; rfl
  · cases hf
theorem store_spec {o : Oper} {tm : Tm} {hp hp' : Hp} {v : AV} {b : Nat} (hS : SameAt tm fin (looks ops o)) (hf : storeB (aeval fin) o.op = some b)
    (h : evOp P H o tm hp = some (v, hp')) : ∃ ob, hp' = hp.set b ob := by
  unfold storeB at hf
  split at hf
  · rename_i t x y e
    have hx := aeval_looks hS (x := x) (by rw [e]; simp [Op.operands])
    rw [← hx] at hf
    unfold evOp at h
    simp only [e, aop] at h
    cases ha : astore P t (aeval tm x) (aeval tm y) hp with
    | none => rw [ha] at h; cases h
    | some a =>
      rw [ha] at h
      simp only [Option.map_some, Option.some.injEq, Prod.mk.injEq] at h
      obtain ⟨rfl, rfl⟩ := h
      unfold baseOf at hf
      unfold astore at ha
      dsimp only at ha
      split at ha
      · split at hf
        · rename_i b' off hv; injection hf with hf; subst hf; rw [hv] at ha
          simp only at ha
          (repeat' split at ha) <;> first | (cases ha; done) | (injection ha with ha; exact ⟨_, ha.symm⟩)
        · rename_i b' sz i c hv; injection hf with hf; subst hf; rw [hv] at ha
          simp only at ha
          (repeat' split at ha) <;> first | (cases ha; done) | (injection ha with ha; exact ⟨_, ha.symm⟩)
        · cases hf
      · cases ha
  · cases hf

theorem load_lt {o : Oper} {tm : Tm} {hp hp' : Hp} {v : AV} {b : Nat} (hS : SameAt tm fin (looks ops o)) (hf : loadB (aeval fin) o.op = some b)
    (h : evOp P H o tm hp = some (v, hp')) : b < hp.length := by
  unfold loadB at hf
  split at hf
  · rename_i t x e
    have hx := aeval_looks hS (x := x) (by rw [e]; simp [Op.operands])
    rw [← hx] at hf
    unfold evOp at h
    simp only [e, aop] at h
    cases ha : aload P t (aeval tm x) hp with
    | none => rw [ha] at h; cases h
    | some a =>
      have key : hp[b]? ≠ none := by
        intro hn
        unfold baseOf at hf
        split at hf
        · rename_i b' off hv; injection hf with hf; subst hf; rw [hv] at ha; unfold aload at ha; simp only [hn] at ha; split at ha <;> cases ha
        · rename_i b' sz i c hv; injection hf with hf; subst hf; rw [hv] at ha; unfold aload at ha; simp only [hn] at ha; split at ha <;> cases ha
        · cases hf
      rcases Nat.lt_or_ge b hp.length with hl | hg
      · exact hl
      · exact absurd (List.getElem?_eq_none hg) key
  · rename_i t x y ok e
    have hx := aeval_looks hS (x := x) (by rw [e]; simp [Op.operands])
    rw [← hx] at hf
    unfold evOp at h
    simp only [e, aop] at h
    cases ha : alookup P t (aeval tm x) (aeval tm y) ok hp with
    | none => rw [ha] at h; cases h
    | some a =>
      have key : hp[b]? ≠ none := by
        intro hn
        unfold mbaseOf at hf
        split at hf
        · rename_i b' hv; injection hf with hf; subst hf; rw [hv, alookup_lt hn] at ha; cases ha
        · cases hf
      rcases Nat.lt_or_ge b hp.length with hl | hg
      · exact hl
      · exact absurd (List.getElem?_eq_none hg) key
  · cases hf
theorem build_spec {o : Oper} {tm : Tm} {hp hp' : Hp} {v : AV} (hf : buildB o.op = true) (h : evOp P H o tm hp = some (v, hp')) : ∃ ob, hp' = hp ++ [ob] := by
  unfold buildB at hf
  split at hf
  · rename_i t n ps e
    unfold evOp at h
    simp only [e, aop] at h
    unfold abuildSlice at h
    dsimp only at h
    (repeat' split at h) <;> first
      | (cases h; done)
      | (obtain ⟨l, _, h⟩ := Option.map_eq_some_iff.1 h; simp only [Prod.mk.injEq] at h; exact ⟨_, h.2.symm⟩)
      | (simp only [Option.some.injEq, Prod.mk.injEq] at h; exact ⟨_, h.2.symm⟩)
  · rename_i t e
    unfold evOp at h
    simp only [e, aop] at h
    obtain ⟨z, _, h⟩ := Option.map_eq_some_iff.1 h
    simp only [Prod.mk.injEq] at h
    exact ⟨_, h.2.symm⟩
  · cases hf

/-- Two operations, either way round. -/
theorem stat_free {o : Op} (h : statB o = true) (ev : Operand → AV) : freeB P pf ev o = true := by
  cases o <;> first | rfl | (simp [statB] at h)
theorem free_spec' (hpf : PureH pf H) {o : Oper} {tm : Tm} {hp hp' : Hp} {v : AV} (hS : statB o.op = false → SameAt tm fin (looks ops o)) (hf : freeB P pf (aeval fin) o.op = true)
    (h : evOp P H o tm hp = some (v, hp')) : hp' = hp ∧ ∀ hp2, evOp P H o tm hp2 = some (v, hp2) := by
  cases hs : statB o.op with
  | true => exact free_spec (ops := ops) (fin := tm) hpf (fun _ _ => rfl) (stat_free hs _) h
  | false => exact free_spec hpf (hS hs) hf h
theorem load_dyn {ev : Operand → AV} {o : Op} {b : Nat} (h : loadB ev o = some b) : statB o = false := by
  cases o <;> first | rfl | (simp [loadB] at h)
theorem store_dyn {ev : Operand → AV} {o : Op} {b : Nat} (h : storeB ev o = some b) : statB o = false := by
  cases o <;> first | rfl | (simp [storeB] at h)
theorem apart_swap (hpf : PureH pf H) {a x : Oper} {tm : Tm} {hp hp1 hp2 : Hp} {v u : AV} (hSa : statB a.op = false → SameAt tm fin (looks ops a)) (hSx : statB x.op = false → SameAt tm fin (looks ops x)) (hap : apartB P pf (aeval fin) a.op x.op = true)
    (h1 : evOp P H a tm hp = some (v, hp1)) (h2 : evOp P H x tm hp1 = some (u, hp2)) : ∃ hp1', evOp P H x tm hp = some (u, hp1') ∧ evOp P H a tm hp1' = some (v, hp2) := by
  unfold apartB at hap
  simp only [Bool.or_eq_true] at hap
  rcases hap with ((hap | hap) | hap) | hap
  · obtain ⟨rfl, hfa⟩ := free_spec' hpf hSa hap h1
    exact ⟨hp2, h2, hfa hp2⟩
  · obtain ⟨rfl, hfx⟩ := free_spec' hpf hSx hap h2
    exact ⟨hp, hfx hp, h1⟩
  · unfold aheadB at hap
    split at hap
    · rename_i b e1
      obtain ⟨rfl, hl⟩ := load_spec (hSa (load_dyn e1)) e1 h1
      obtain ⟨ob, rfl⟩ := build_spec hap h2
      refine ⟨_, h2, hl _ ?_⟩
      rw [List.getElem?_append_left (load_lt (hSa (load_dyn e1)) e1 h1)]
    · cases hap
  · split at hap
    · rename_i b c e1 e2
      obtain ⟨rfl, _⟩ := load_spec (hSa (load_dyn e1)) e1 h1
      obtain ⟨rfl, _⟩ := load_spec (hSx (load_dyn e2)) e2 h2
      exact ⟨hp2, h2, h1⟩
    · rename_i b c e1 e2 e3
      obtain ⟨rfl, hl⟩ := load_spec (hSa (load_dyn e1)) e1 h1
      obtain ⟨ob, rfl⟩ := store_spec (hSx (store_dyn e3)) e3 h2
      refine ⟨_, h2, hl _ ?_⟩
      rw [List.getElem?_set_ne]
      simp only [bne_iff_ne, ne_eq] at hap
      exact fun e => hap e.symm
    · rename_i b c e1 e2 e3
      obtain ⟨rfl, hl⟩ := load_spec (hSx (load_dyn e2)) e2 h2
      obtain ⟨ob, rfl⟩ := store_spec (hSa (store_dyn e3)) e3 h1
      refine ⟨hp, hl _ ?_, h1⟩
      rw [List.getElem?_set_ne]
      simp only [bne_iff_ne, ne_eq] at hap
      exact fun e => hap e.symm
    · cases hap
end
end Go.Ab
namespace Go.Ab
open Go
set_option linter.unusedVariables false
set_option linter.unusedSimpArgs false
section
variable {P : Program} {H : Hd} {pf : FuncId → Bool} {ops : Array Oper}

theorem getD_aput {tm : Tm} {d : Option Tmp} {v : AV} {t : Tmp} (h : d ≠ some t) : (aput tm d v).getD t .junk = tm.getD t .junk := by
  cases d with
  | none => rfl
  | some d =>
    have : d ≠ t := fun e => h (by rw [e])
    simp only [aput, List.getD_eq_getElem?_getD, List.getElem?_set_ne this]
theorem aput_comm {tm : Tm} {d e : Option Tmp} {v u : AV} (h : ∀ t, d = some t → e ≠ some t) : aput (aput tm d v) e u = aput (aput tm e u) d v := by
  cases d with
  | none => rfl
  | some d =>
    cases e with
    | none => rfl
    | some e =>
      have : d ≠ e := fun q => h d rfl (by rw [q])
      simp only [aput]
      exact List.set_comm _ _ this
/-- The temporaries that none of these sets stay. -/
theorem evOps_frame : ∀ (l : List Nat) (tm : Tm) (hp : Hp) (tm' : Tm) (hp' : Hp) (t : Tmp), evOps P H ops l tm hp = some (tm', hp') → (∀ k, k ∈ l → ∀ o, ops[k]? = some o → o.dst ≠ some t) → tm'.getD t .junk = tm.getD t .junk
  | [], tm, hp, tm', hp', t, h, hk => by simp only [evOps, Option.some.injEq, Prod.mk.injEq] at h; rw [h.1]
  | i :: l, tm, hp, tm', hp', t, h, hk => by
    simp only [evOps] at h
    split at h
    · exact evOps_frame l _ _ _ _ t h fun k hk' => hk k (by simp [hk'])
    · rename_i o ho
      have hd := hk i (by simp) o ho
      split at h
      · cases h
      · rw [evOps_frame l _ _ _ _ t h fun k hk' => hk k (by simp [hk']), getD_aput hd]
      · split at h
        · cases h
        · rw [evOps_frame l _ _ _ _ t h fun k hk' => hk k (by simp [hk']), getD_aput hd]

/-- One step. -/
def step1 (P : Program) (H : Hd) (ops : Array Oper) (i : Nat) (tm : Tm) (hp : Hp) : Option (Tm × Hp) :=
  match ops[i]? with
  | none => some (tm, hp)
  | some o => match aguard ops o tm with
    | none => none
    | some false => some (aput tm o.dst .undef, hp)
    | some true => match evOp P H o tm hp with
      | none => none
      | some (v, hp') => some (aput tm o.dst v, hp')
theorem evOps_cons (i : Nat) (l : List Nat) (tm : Tm) (hp : Hp) : evOps P H ops (i :: l) tm hp = (step1 P H ops i tm hp).bind fun r => evOps P H ops l r.1 r.2 := by
  simp only [evOps, step1]
  cases ops[i]? with
  | none => rfl
  | some o =>
    simp only
    cases aguard ops o tm with
    | none => rfl
    | some b =>
      cases b
      · rfl
      · simp only
        cases evOp P H o tm hp with
        | none => rfl
        | some r => rfl

/-- What the check says of two operations. -/
structure Pair (P : Program) (pf : FuncId → Bool) (ops : Array Oper) (fin : Tm) (a x : Oper) : Prop where
  dst : ∀ t, a.dst = some t → x.dst ≠ some t
  ap : apartB P pf (aeval fin) a.op x.op = true
  ax : ∀ t, a.dst = some t → t ∉ looks ops x
  xa : ∀ t, x.dst = some t → t ∉ looks ops a

theorem swap_one (hpf : PureH pf H) {fin : Tm} {a x : Oper} {i j : Nat} (hi : ops[i]? = some a) (hj : ops[j]? = some x) (hP : Pair P pf ops fin a x) {tm : Tm} {hp : Hp} {r : Tm × Hp}
    (hSa : statB a.op = false → SameAt tm fin (looks ops a)) (hSx : statB x.op = false → SameAt tm fin (looks ops x)) (h : (step1 P H ops i tm hp).bind (fun r => step1 P H ops j r.1 r.2) = some r) :
    (step1 P H ops j tm hp).bind (fun r => step1 P H ops i r.1 r.2) = some r := by
  have hx : ∀ v, SameAt (aput tm a.dst v) tm (looks ops x) := fun v t ht => getD_aput fun e => hP.ax t e ht
  have ha : ∀ v, SameAt (aput tm x.dst v) tm (looks ops a) := fun v t ht => getD_aput fun e => hP.xa t e ht
  have hc : ∀ v u, aput (aput tm x.dst u) a.dst v = aput (aput tm a.dst v) x.dst u := fun v u => (aput_comm hP.dst).symm
  simp only [step1, hi, hj] at h ⊢
  cases hga : aguard ops a tm with
  | none => rw [hga] at h; cases h
  | some ga =>
    rw [hga] at h
    have hga' : ∀ u, aguard ops a (aput tm x.dst u) = some ga := fun u => by rw [aguard_same (ha u), hga]
    have hgx' : ∀ v, aguard ops x (aput tm a.dst v) = aguard ops x tm := fun v => aguard_same (hx v)
    cases hgx : aguard ops x tm with
    | none =>
      exfalso
      cases ga
      · simp only [Option.bind_some, hgx', hgx] at h; cases h
      · simp only at h
        cases hv : evOp P H a tm hp with
        | none => rw [hv] at h; cases h
        | some vh => rw [hv] at h; simp only [Option.bind_some, hgx', hgx] at h; cases h
    | some gx =>
      cases ga <;> cases gx
      · simp only [Option.bind_some, hgx', hgx, hga'] at h ⊢
        rw [hc]; exact h
      · simp only [Option.bind_some, hgx', hgx, hga'] at h ⊢
        rw [evOp_same (hx .undef)] at h
        cases hu : evOp P H x tm hp with
        | none => rw [hu] at h; cases h
        | some uh =>
          rw [hu] at h
          obtain ⟨u, hp'⟩ := uh
          simp only [Option.bind_some, hga'] at h ⊢
          rw [hc]; exact h
      · simp only at h
        cases hv : evOp P H a tm hp with
        | none => rw [hv] at h; cases h
        | some vh =>
          obtain ⟨v, hp'⟩ := vh
          rw [hv] at h
          simp only [Option.bind_some, hgx', hgx, hga'] at h ⊢
          rw [evOp_same (ha .undef), hv]
          simp only
          rw [hc]; exact h
      · simp only at h
        cases hv : evOp P H a tm hp with
        | none => rw [hv] at h; cases h
        | some vh =>
          obtain ⟨v, hp1⟩ := vh
          rw [hv] at h
          simp only [Option.bind_some, hgx', hgx, hga'] at h ⊢
          rw [evOp_same (hx v)] at h
          cases hu : evOp P H x tm hp1 with
          | none => rw [hu] at h; cases h
          | some uh =>
            obtain ⟨u, hp2⟩ := uh
            rw [hu] at h
            obtain ⟨hp1', q1, q2⟩ := apart_swap hpf hSa hSx hP.ap hv hu
            rw [q1]
            simp only [Option.bind_some, hga']
            rw [evOp_same (ha u), q2]
            simp only
            rw [hc]; exact h

/-- What is asked of a region. -/
structure DrawOK (P : Program) (pf : FuncId → Bool) (ops : Array Oper) (fin : Tm) (be : Nat → Nat → Prop) : Prop where
  edge : ∀ i o e, ops[i]? = some o → e ∈ o.after.toList → Region.binds .any e = true → e.on < i
  trans : ∀ i k, be i k → ∃ o e, ops[i]? = some o ∧ e ∈ o.after.toList ∧ Region.binds .any e = true ∧ (k = e.on ∨ be e.on k)
  tms : ∀ i k o q d, ops[i]? = some o → ops[k]? = some q → q.dst = some d → d ∈ looks ops o → be i k ∨ (be k i ∧ statB o.op = true)
  pairs : ∀ i j a x, i < j → ops[i]? = some a → ops[j]? = some x → be j i ∨ ((∀ t, a.dst = some t → x.dst ≠ some t) ∧ apartB P pf (aeval fin) a.op x.op = true)
theorem DrawOK.lt {fin : Tm} {be : Nat → Nat → Prop} (h : DrawOK P pf ops fin be) : ∀ (n i k : Nat), i ≤ n → be i k → k < i := by
  intro n
  induction n with
  | zero =>
    intro i k hi hb
    obtain ⟨o, e, h1, h2, h3, h4⟩ := h.trans i k hb
    have := h.edge i o e h1 h2 h3
    omega
  | succ n ih =>
    intro i k hi hb
    obtain ⟨o, e, h1, h2, h3, h4⟩ := h.trans i k hb
    have := h.edge i o e h1 h2 h3
    rcases h4 with rfl | h4
    · exact this
    · have := ih e.on k (by omega) h4; omega

/-- The one that is drawn goes ahead of all. -/
theorem move_front (hpf : PureH pf H) {fin : Tm} {hpF : Hp} {be : Nat → Nat → Prop} (hD : DrawOK P pf ops fin be) {j : Nat} {x : Oper} (hj : ops[j]? = some x) {Z : List Nat} (hZ : ∀ k, k ∈ Z → j < k) (hbj : ∀ k, k ∈ Z → ¬ be j k) :
    ∀ (A : List Nat) (tm : Tm) (hp : Hp), (A ++ j :: Z).Pairwise (· < ·) → (∀ k, k ∈ A → ¬ be j k) → evOps P H ops (A ++ j :: Z) tm hp = some (fin, hpF) → evOps P H ops (j :: (A ++ Z)) tm hp = some (fin, hpF)
  | [], tm, hp, hs, hb, h => h
  | a :: A, tm, hp, hs, hb, h => by
    simp only [List.cons_append] at h hs ⊢
    rw [evOps_cons] at h
    cases h1 : step1 P H ops a tm hp with
    | none => rw [h1] at h; cases h
    | some s1 =>
      rw [h1] at h
      simp only [Option.bind_some] at h
      have hs' := (List.pairwise_cons.1 hs)
      have ih := move_front hpf hD hj hZ hbj A s1.1 s1.2 hs'.2 (fun k hk => hb k (by simp [hk])) h
      have haj : a < j := hs'.1 j (by simp)
      cases ha : ops[a]? with
      | none =>
        have hs1 : s1 = (tm, hp) := by simp only [step1, ha, Option.some.injEq] at h1; exact h1.symm
        subst hs1
        have : ops.size ≤ a := by simpa using ha
        have : j < ops.size := by have := Array.getElem?_eq_some_iff.1 hj; exact this.1
        omega
      | some o =>
        have hall : ∀ k, k ∈ a :: j :: (A ++ Z) → k = a ∨ a < k := by
          intro k hk
          simp only [List.mem_cons, List.mem_append] at hk
          rcases hk with rfl | rfl | hk | hk
          · exact .inl rfl
          · exact .inr haj
          · exact .inr (hs'.1 k (by simp [hk]))
          · exact .inr (Nat.lt_trans haj (hZ k hk))
        have hrun : evOps P H ops (a :: j :: (A ++ Z)) tm hp = some (fin, hpF) := by rw [evOps_cons, h1]; exact ih
        have hSa : statB o.op = false → SameAt tm fin (looks ops o) := by
          intro hst t ht
          refine (evOps_frame _ _ _ _ _ t hrun ?_).symm
          intro k hk q hq hd
          have hbe := (hD.tms a k o q t ha hq hd ht).resolve_right (fun h => by rw [hst] at h; cases h.2)
          have := hD.lt a a k (Nat.le_refl _) hbe
          rcases hall k hk with rfl | h'
          · omega
          · omega
        have hSx : statB x.op = false → SameAt tm fin (looks ops x) := by
          intro hst t ht
          refine (evOps_frame _ _ _ _ _ t hrun ?_).symm
          intro k hk q hq hd
          have hbe := (hD.tms j k x q t hj hq hd ht).resolve_right (fun h => by rw [hst] at h; cases h.2)
          have hlt := hD.lt j j k (Nat.le_refl _) hbe
          simp only [List.mem_cons, List.mem_append] at hk
          rcases hk with rfl | rfl | hk | hk
          · exact hb k (by simp) hbe
          · omega
          · exact hb k (by simp [hk]) hbe
          · have := hZ k hk; omega
        have hP : Pair P pf ops fin o x := by
          have hp' := (hD.pairs a j o x haj ha hj).resolve_left (hb a (by simp))
          refine ⟨hp'.1, hp'.2, fun t ht hl => ?_, fun t ht hl => ?_⟩
          · rcases hD.tms j a x o t hj ha ht hl with h' | ⟨h', _⟩
            · exact hb a (by simp) h'
            · have := hD.lt a a j (Nat.le_refl _) h'; omega
          · rcases hD.tms a j o x t ha hj ht hl with h' | ⟨h', _⟩
            · have := hD.lt a a j (Nat.le_refl _) h'; omega
            · exact hb a (by simp) h'
        rw [evOps_cons] at hrun
        have hrun2 : ((step1 P H ops a tm hp).bind (fun r => step1 P H ops j r.1 r.2)).bind (fun r => evOps P H ops (A ++ Z) r.1 r.2) = some (fin, hpF) := by
          rw [Option.bind_assoc]
          rw [← hrun]
          congr 1
          funext r
          rw [evOps_cons]
        cases hab : (step1 P H ops a tm hp).bind (fun r => step1 P H ops j r.1 r.2) with
        | none => rw [hab] at hrun2; cases hrun2
        | some r =>
          rw [hab] at hrun2
          have hba := swap_one hpf ha hj hP hSa hSx hab
          rw [evOps_cons]
          have : ((step1 P H ops j tm hp).bind (fun r => step1 P H ops a r.1 r.2)).bind (fun r => evOps P H ops (A ++ Z) r.1 r.2) = some (fin, hpF) := by rw [hba]; exact hrun2
          rw [Option.bind_assoc] at this
          rw [← this]
          congr 1
          funext r
          rw [evOps_cons]

/-- What is still to be done. -/
def todo (n : Nat) (listed : Array Bool) : List Nat := (List.range n).filter fun i => !listed.getD i true
theorem todo_pair (n : Nat) (listed : Array Bool) : (todo n listed).Pairwise (· < ·) := List.Pairwise.filter _ List.pairwise_lt_range
theorem go_any (hpf : PureH pf H) {fin : Tm} {hpF : Hp} {be : Nat → Nat → Prop} (hD : DrawOK P pf ops fin be) : ∀ (fuel t : Nat) (listed : Array Bool) (tm : Tm) (hp : Hp), listed.size = ops.size → (todo ops.size listed).length ≤ fuel →
    (∀ i k, listed.getD i true = true → i < ops.size → be i k → listed.getD k true = true) →
    evOps P H ops (todo ops.size listed) tm hp = some (fin, hpF) → evOps P H ops (Region.linearise.go .any ops fuel t listed []) tm hp = some (fin, hpF)
  | 0, t, listed, tm, hp, hsz, hlen, hdown, h => by
    have : todo ops.size listed = [] := List.eq_nil_of_length_eq_zero (by omega)
    rw [this] at h
    simpa [Region.linearise.go] using h
  | fuel + 1, t, listed, tm, hp, hsz, hlen, hdown, h => by
    simp only [Region.linearise.go]
    generalize hrs : (List.range ops.size).filter (fun i => !listed.getD i true && ((ops[i]?).map (·.after.all fun e => !Region.binds .any e || listed.getD e.on false)).getD false) = rs
    cases hi : rs[t % rs.length]? with
    | none =>
      -- nothing is ready: nothing is left
      have hnil : rs = [] := by
        cases rs with
        | nil => rfl
        | cons y ys =>
          have hlt : t % (y :: ys).length < (y :: ys).length := Nat.mod_lt _ (by simp)
          rw [List.getElem?_eq_none_iff] at hi
          omega
      have hempty : todo ops.size listed = [] := by
        cases htodo : todo ops.size listed with
        | nil => rfl
        | cons m ms =>
          exfalso
          have hm : m ∈ todo ops.size listed := by rw [htodo]; simp
          have hpw := todo_pair ops.size listed
          rw [htodo] at hpw
          have hmin := (List.pairwise_cons.1 hpw).1
          simp only [todo, List.mem_filter, List.mem_range] at hm
          have : m ∈ rs := by
            rw [← hrs]
            refine List.mem_filter.2 ⟨List.mem_range.2 hm.1, ?_⟩
            simp only [hm.2, Bool.true_and]
            rw [Array.getElem?_eq_getElem hm.1]
            simp only [Option.map_some, Option.getD_some, Array.all_eq_true']
            intro e he
            cases hb : Region.binds .any e with
            | false => rfl
            | true =>
              have hlt := hD.edge m _ e (Array.getElem?_eq_getElem hm.1) (by simpa using he) hb
              simp only [Bool.not_true, Bool.false_or]
              cases hle : listed.getD e.on true with
              | true =>
                have : e.on < listed.size := by omega
                simp only [Array.getD, this, dif_pos] at hle ⊢; exact hle
              | false =>
                exfalso
                have : e.on ∈ todo ops.size listed := by
                  simp only [todo, List.mem_filter, List.mem_range]
                  exact ⟨by omega, by rw [hle]; rfl⟩
                rw [htodo] at this
                rcases List.mem_cons.1 this with h' | h'
                · omega
                · have := hmin _ h'; omega
          rw [hnil] at this; cases this
      rw [hempty] at h
      simpa using h
    | some i =>
      simp only
      rw [linearise_go_acc, List.reverse_singleton, List.singleton_append, evOps_cons]
      have hmem : i ∈ rs := List.mem_of_getElem? hi
      rw [← hrs] at hmem
      obtain ⟨hir, hready⟩ := List.mem_filter.1 hmem
      have hin : i < ops.size := List.mem_range.1 hir
      simp only [Bool.and_eq_true] at hready
      obtain ⟨hun, hall⟩ := hready
      rw [Array.getElem?_eq_getElem hin] at hall
      simp only [Option.map_some, Option.getD_some, Array.all_eq_true'] at hall
      have hdirect : ∀ e, e ∈ (ops[i]'hin).after.toList → Region.binds .any e = true → listed.getD e.on true = true := by
        intro e he hb
        have := hall e (by simpa using he)
        rw [hb] at this
        simp only [Bool.not_true, Bool.false_or] at this
        unfold Array.getD at this ⊢
        split at this
        · rename_i hl; rw [dif_pos hl]; exact this
        · cases this
      have hanc : ∀ k, be i k → listed.getD k true = true := by
        intro k hb
        obtain ⟨o, e, h1, h2, h3, h4⟩ := hD.trans i k hb
        rw [Array.getElem?_eq_getElem hin] at h1
        injection h1 with h1; subst h1
        have hd := hdirect e h2 h3
        rcases h4 with rfl | h4
        · exact hd
        · have hlt := hD.edge i _ e (Array.getElem?_eq_getElem hin) h2 h3
          exact hdown e.on k hd (by omega) h4
      have hmem2 : i ∈ todo ops.size listed := List.mem_filter.2 ⟨hir, hun⟩
      obtain ⟨A, Z, hAZ⟩ := List.append_of_mem hmem2
      have hpw := todo_pair ops.size listed
      rw [hAZ] at hpw h
      have hunl : ∀ k, k ∈ A ++ i :: Z → listed.getD k true = false := by
        intro k hk
        rw [← hAZ] at hk
        have := (List.mem_filter.1 hk).2
        simpa using this
      have hnb : ∀ k, k ∈ A ++ i :: Z → ¬ be i k := fun k hk hb => by
        have := hunl k hk
        rw [hanc k hb] at this; cases this
      have hpw2 := List.pairwise_append.1 hpw
      have hZ : ∀ k, k ∈ Z → i < k := (List.pairwise_cons.1 hpw2.2.1).1
      have hA : ∀ k, k ∈ A → k < i := fun k hk => hpw2.2.2 k hk i (by simp)
      have hfront := move_front hpf hD (Array.getElem?_eq_getElem hin) hZ (fun k hk => hnb k (by simp [hk])) A tm hp hpw (fun k hk => hnb k (by simp [hk])) h
      rw [evOps_cons] at hfront
      cases hs : step1 P H ops i tm hp with
      | none => rw [hs] at hfront; cases hfront
      | some s1 =>
        rw [hs] at hfront
        simp only [Option.bind_some] at hfront ⊢
        have hget : ∀ k, (listed.setIfInBounds i true).getD k true = if k = i then true else listed.getD k true := by
          intro k
          simp only [Array.getD, Array.size_setIfInBounds]
          by_cases hk : k = i
          · subst hk
            rw [if_pos rfl, dif_pos (by omega)]
            simp
          · rw [if_neg hk]
            split
            · rename_i hl
              show (listed.setIfInBounds i true)[k]'(by simpa using hl) = listed[k]
              rw [Array.getElem_setIfInBounds]
              rw [if_neg (fun e => hk e.symm)]
            · rfl
        have htodo : todo ops.size (listed.setIfInBounds i true) = A ++ Z := by
          have h1 : todo ops.size (listed.setIfInBounds i true) = (todo ops.size listed).filter (fun k => !(k == i)) := by
            unfold todo
            rw [List.filter_filter]
            refine List.filter_congr fun k hk => ?_
            rw [hget k]
            by_cases hk : k = i
            · subst hk; simp
            · simp [hk]
          rw [h1, hAZ, List.filter_append, List.filter_cons]
          rw [if_neg (by simp)]
          congr 1
          · refine List.filter_eq_self.2 fun k hk => ?_
            have := hA k hk; simp; omega
          · refine List.filter_eq_self.2 fun k hk => ?_
            have := hZ k hk; simp; omega
        refine go_any hpf hD fuel _ _ _ _ (by simpa using hsz) ?_ ?_ ?_
        · rw [htodo]
          rw [hAZ] at hlen
          simp only [List.length_append, List.length_cons] at hlen ⊢
          omega
        · intro a k ha han hb
          rw [hget] at ha ⊢
          split
          · rfl
          · by_cases hai : a = i
            · subst hai; exact hanc k hb
            · rw [if_neg hai] at ha; exact hdown a k ha han hb
        · rw [htodo]; exact hfront

def inner (acc : Array Nat) (l : List Edge) (s : Nat) : Nat := l.foldl (fun s e => if Region.binds .any e then s ||| 2 ^ e.on ||| acc.getD e.on 0 else s) s
theorem inner_bit {acc : Array Nat} {k : Nat} : ∀ (l : List Edge) (s : Nat), (inner acc l s).testBit k = true → s.testBit k = true ∨ ∃ e, e ∈ l ∧ Region.binds .any e = true ∧ (k = e.on ∨ (acc.getD e.on 0).testBit k = true)
  | [], s, h => .inl h
  | e :: l, s, h => by
    simp only [inner, List.foldl_cons] at h
    rcases inner_bit l _ h with h' | ⟨e', h1, h2, h3⟩
    · by_cases hb : Region.binds .any e = true
      · rw [if_pos hb] at h'
        simp only [Nat.testBit_or, Bool.or_eq_true, Nat.testBit_two_pow, decide_eq_true_eq] at h'
        rcases h' with (h' | h') | h'
        · exact .inl h'
        · exact .inr ⟨e, by simp, hb, .inl h'.symm⟩
        · exact .inr ⟨e, by simp, hb, .inr h'⟩
      · rw [if_neg hb] at h'; exact .inl h'
    · exact .inr ⟨e', by simp [h1], h2, h3⟩
def befF (acc : Array Nat) (o : Oper) : Array Nat := acc.push (inner acc o.after.toList 0)
theorem before_eq (ops : Array Oper) : Region.before ops = ops.toList.foldl befF #[] := by
  unfold Region.before
  rw [← Array.foldl_toList]
  congr 1
  funext acc o
  simp only [befF, inner, Array.foldl_toList]
theorem befF_fold : ∀ (l : List Oper) (acc : Array Nat), (l.foldl befF acc).size = acc.size + l.length ∧ (∀ i, i < acc.size → (l.foldl befF acc).getD i 0 = acc.getD i 0) ∧
    ∀ (i : Nat) (o : Oper), l[i]? = some o → ∃ acc' : Array Nat, (l.foldl befF acc).getD (acc.size + i) 0 = inner acc' o.after.toList 0 ∧ ∀ m, acc'.getD m 0 = 0 ∨ acc'.getD m 0 = (l.foldl befF acc).getD m 0
  | [], acc => ⟨by simp, fun _ _ => rfl, fun i o h => by simp at h⟩
  | o :: l, acc => by
    obtain ⟨h1, h2, h3⟩ := befF_fold l (befF acc o)
    have hs : (befF acc o).size = acc.size + 1 := by simp [befF]
    have hg : ∀ i, i < acc.size → (befF acc o).getD i 0 = acc.getD i 0 := by
      intro i hi
      have e1 : (befF acc o)[i]? = acc[i]? := by unfold befF; rw [Array.getElem?_push_lt (h := hi)]; simp [hi]
      rw [Array.getD_eq_getD_getElem?, Array.getD_eq_getD_getElem?, e1]
    simp only [List.foldl_cons]
    refine ⟨by rw [h1, hs]; simp; omega, fun i hi => by rw [h2 i (by omega), hg i hi], fun i q hq => ?_⟩
    cases i with
    | zero =>
      simp only [List.getElem?_cons_zero, Option.some.injEq] at hq
      subst hq
      refine ⟨acc, ?_, fun m => ?_⟩
      · rw [Nat.add_zero, h2 _ (by omega)]
        simp [befF, Array.getD]
      · by_cases hm : m < acc.size
        · right; rw [h2 m (by omega), hg m hm]
        · left; simp [Array.getD, hm]
    | succ i =>
      simp only [List.getElem?_cons_succ] at hq
      obtain ⟨acc', q1, q2⟩ := h3 i q hq
      refine ⟨acc', ?_, q2⟩
      rw [← q1, hs]
      congr 1
      omega
theorem before_bit {ops : Array Oper} {i k : Nat} (h : ((Region.before ops).getD i 0).testBit k = true) : ∃ o e, ops[i]? = some o ∧ e ∈ o.after.toList ∧ Region.binds .any e = true ∧ (k = e.on ∨ ((Region.before ops).getD e.on 0).testBit k = true) := by
  rw [before_eq] at h ⊢
  obtain ⟨h1, h2, h3⟩ := befF_fold ops.toList #[]
  cases ho : ops[i]? with
  | none =>
    exfalso
    have : ops.size ≤ i := by simpa using ho
    rw [Array.getD, dif_neg (by rw [h1]; simp; omega)] at h
    simp at h
  | some o =>
    obtain ⟨acc', q1, q2⟩ := h3 i o (by simpa using ho)
    have q1' : (ops.toList.foldl befF #[]).getD i 0 = inner acc' o.after.toList 0 := by simpa using q1
    rw [q1'] at h
    rcases inner_bit _ _ h with h' | ⟨e, e1, e2, e3⟩
    · simp at h'
    · refine ⟨o, e, rfl, e1, e2, ?_⟩
      rcases e3 with e3 | e3
      · exact .inl e3
      · rcases q2 e.on with q | q
        · rw [q] at e3; simp at e3
        · rw [q] at e3; exact .inr e3

theorem drawOK_spec {fin : Tm} (h : drawOK P pf ops fin = true) : P.follows .mixedOrders = true ∧ DrawOK P pf ops fin (fun i k => ((Region.before ops).getD i 0).testBit k = true) := by
  unfold drawOK drawE at h
  simp only [Bool.and_eq_true, List.all_eq_true, List.mem_range] at h
  obtain ⟨h0, h⟩ := h
  refine ⟨h0, ⟨fun i o e h1 h2 h3 => ?_, fun i k hb => before_bit hb, fun i k o q d h1 h2 h3 h4 => ?_, fun i j a x hij h1 h2 => ?_⟩⟩
  · have hi : i < ops.size := (Array.getElem?_eq_some_iff.1 h1).1
    have := ((h i hi).1).1
    rw [h1] at this
    simp only [Option.map_some, Option.getD_some, Array.all_eq_true'] at this
    have := this e (by simpa using h2)
    simpa [h3] using this
  · have hi : i < ops.size := (Array.getElem?_eq_some_iff.1 h1).1
    have hk : k < ops.size := (Array.getElem?_eq_some_iff.1 h2).1
    have := ((h i hi).1).2 k hk
    simp only [tmB, h1, h2, h3, Bool.or_eq_true, Bool.not_eq_true'] at this
    simp only [Bool.and_eq_true] at this
    rcases this with (this | this) | this
    · exfalso
      rw [List.contains_iff_mem.2 h4] at this; cases this
    · exact .inl this
    · exact .inr this
  · have hj : j < ops.size := (Array.getElem?_eq_some_iff.1 h2).1
    have := (h j hj).2 i hij
    simp only [pairB, h1, h2, Bool.or_eq_true, Bool.and_eq_true] at this
    rcases this with this | ⟨q1, q2⟩
    · exact .inl this
    · refine .inr ⟨fun t ha hx => ?_, q2⟩
      rw [ha, hx] at q1
      simp at q1

/-- **ANY ORDER THAT MAY BE DRAWN COMES TO THE SAME.** -/
theorem draw_any (hpf : PureH pf H) {tm tm' : Tm} {hp hp' : Hp} (h : evOps P H ops (List.range ops.size) tm hp = some (tm', hp')) (hd : drawOK P pf ops tm' = true) (t : Nat) :
    evOps P H ops (Region.schedule (P.follows .mixedOrders) ops t) tm hp = some (tm', hp') := by
  obtain ⟨h0, hD⟩ := drawOK_spec hd
  simp only [Region.schedule, h0, Bool.true_or, if_true]
  have hno : ∀ k, k < ops.size → (Array.replicate ops.size false).getD k true = false := by
    intro k hk
    simp [Array.getD, hk]
  have htodo : todo ops.size (Array.replicate ops.size false) = List.range ops.size := by
    unfold todo
    refine List.filter_eq_self.2 fun k hk => ?_
    rw [hno k (List.mem_range.1 hk)]; rfl
  unfold Region.linearise
  refine go_any hpf hD _ _ _ _ _ (by simp) (by rw [htodo]; simp) (fun i k hi hin _ => ?_) (by rw [htodo]; exact h)
  rw [hno i hin] at hi; cases hi
end
end Go.Ab

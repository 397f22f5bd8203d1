/- Lemmas for the claims of this seat (a verified symbolic evaluator, and contracts of functions): own work; no condition. -/
import Derived.Test.YtdkmbohpmfakkaaDoorFnH
namespace Go.Mvn

open Go Go.Proofs Go.Ab

set_option maxRecDepth 100000

set_option linter.unusedVariables false

set_option linter.unusedSimpArgs false

/-! ### What trim hands out, as a list -/

theorem delR_list (r : R57) {j : Nat} (h : j < r.n) : listOf (delR r j).f (delR r j).n = (listOf r.f r.n).eraseIdx j := by
  have key : listOf (delG r.f j) (r.n - 1) = (listOf r.f r.n).eraseIdx j := listOf_del _ h (fun i hi => by unfold delG; rw [if_pos hi]) (fun i hi h2 => by
    unfold delG
    rw [if_neg (by omega), show j + 1 + (i - j) = i + 1 by omega])
  rw [← key]
  unfold delR
  split
  · rename_i h0
    rw [h0]; rfl
  · rfl

theorem trimO_list : ∀ (K : Nat) (r : R57), r.n < K → listOf (trimO K r).f (trimO K r).n = normT (listOf r.f r.n)
  | 0, r, h => by omega
  | K + 1, r, h => by
    have hs := scanR_spec r r.n
    unfold trimO
    cases hb : (scanR r r.n).2.1 with
    | true =>
      obtain ⟨j, h1, h2, h3⟩ := hs.1 hb
      rw [cond_true, trimO_list K _ (by rw [h3, delR_n]; omega), h3, delR_list r h1]
      exact normT_erase _ _ (by rw [← goesF_L h1]; exact h2)
    | false =>
      obtain ⟨h1, h2⟩ := hs.2 hb
      rw [cond_false, h1]
      refine (normT_fix _ fun i hi => ?_).symm
      rw [listOf_length] at hi
      rw [← goesF_L hi]
      exact h2 i hi

theorem t57R_list (n : Nat) (f : Nat → Tok) : listOf (t57R n f).f (t57R n f).n = normT (listOf f n) := trimO_list (n + 1) (.a n f) (Nat.lt_succ_self n)

noncomputable def tabX4 : Tab := ⟨57, false, gcon c57⟩ :: tabX3

theorem all_tabX4 : ∀ e, e ∈ tabX4 → Sound1 Tryd.prog e := (sound_mem_tab s57 all_tabX3)

theorem ok_tabX4 : SoundTab Tryd.prog tabX4 := soundTab_of all_tabX4

/-! ### The reference's split -/

/-- A list as a row that grows: behind its end its last one. -/
def fnL (L : List Tok) (k : Nat) : Tok := L.getD k (L.getLastD zeroT)

theorem fnL_push (L : List Tok) (t : Tok) : (fun k => if k < L.length then fnL L k else t) = fnL (L ++ [t]) := by
  funext k
  unfold fnL
  by_cases h : k < L.length
  · rw [if_pos h, List.getD_eq_getElem?_getD, List.getD_eq_getElem?_getD, List.getElem?_append_left h, List.getElem?_eq_getElem h]; rfl
  · rw [if_neg h, List.getD_eq_getElem?_getD, List.getElem?_append_right (by omega)]
    by_cases h2 : k = L.length
    · subst h2; simp
    · rw [List.getElem?_eq_none (by simp; omega)]; simp

theorem fnL_list (L : List Tok) : listOf (fnL L) L.length = L := listOf_of fun i t h => by
  unfold fnL
  rw [List.getD_eq_getElem?_getD, h]; rfl

theorem appF_row {n : Nat} {f : Nat → Tok} {t : Tok} {l : List AV} (hl : l = [.bool t.dash, .bool t.num, .str t.text]) : appF n (rowT f) (fun i => rowF 3 l (0 + i)) = rowT (fun k => if k < n then f k else t) := by
  subst hl
  funext k c
  unfold appF
  by_cases h : k < n
  · rw [if_pos h]
    match c with
    | 0 => simp only [rowT, if_pos h]
    | 1 => simp only [rowT, if_pos h]
    | 2 => simp only [rowT, if_pos h]
    | c + 3 => rfl
  · rw [if_neg h]
    match c with
    | 0 => simp only [rowT, if_neg h]; rfl
    | 1 => simp only [rowT, if_neg h]; rfl
    | 2 => simp only [rowT, if_neg h]; rfl
    | c + 3 => rfl

theorem rowF_one {t : Tok} {l : List AV} (hl : l = [.bool t.dash, .bool t.num, .str t.text]) : (fun i => rowF 3 l (0 + i)) = rowT (fnL [t]) := by
  subst hl
  have e : fnL [t] = fun _ => t := by
    funext k
    unfold fnL
    cases k <;> rfl
  rw [e]
  funext k c
  match c with
  | 0 => rfl
  | 1 => rfl
  | 2 => rfl
  | c + 3 => rfl

def rAL : List Tok → AV
  | [] => .nilsl
  | t :: r => .row 0 3 0 (r.length + 1)

def rHL : List Tok → Hp
  | [] => []
  | t :: r => [some (.row 3 (r.length + 1) (rowT (fnL (t :: r))))]

def unHL : Hp → List Tok
  | [some (.row _ n g)] => listOf (unT g) n
  | _ => []

theorem unHL_rHL (L : List Tok) : unHL (rHL L) = L := by
  cases L with
  | nil => rfl
  | cons t r => exact fnL_list (t :: r)

theorem qA58 (s : List UInt8) (i fr : Nat) (d : Bool) : (rdn tabX4 h58 noLoops 58 0 0 { tm := encGo (mbits 121 84) [.str s, .nilsl, .bool d, .int .i64 fr, .int .i64 i], ms := [], hp := [] }).run =
  bif decide ((↑i : Int) ≤ (↑s.length : Int)) then
   bif (↑i : Int) == (↑s.length : Int) then
    bif decide ((0 : Int) ≤ (↑fr : Int) ∧ (↑fr : Int) ≤ (↑i : Int) ∧ (↑i : Int) ≤ (↑s.length : Int)) then
     bif decide ((↑i : Int) < (↑s.length : Int)) then
      bif decide ((0 : Int) ≤ (↑i : Int) ∧ (↑i : Int) < (↑s.length : Int)) then
       some ((AX.normal, { tm := tmOf 84 [(0, AV.str s), (3, AV.row 0 3 0 1), (4, AV.bool ((↑(s.getD (↑i : Int).toNat (0 : UInt8)).toNat : Int) == (45 : Int))), (5, AV.int IntKind.i64 (IntKind.i64.wrap ((↑i : Int) + (1 : Int)))), (6, AV.int IntKind.i64 (IntKind.i64.wrap ((↑i : Int) + (1 : Int))))], ms := [], hp := [some (AObj.row 3 1 fun i_1 => rowF 3 (over (List.map (fun i => (List.map aconst1 (Value.agg #[Value.bool false, Value.bool false, Value.string { data := #[] }]).cells.toList).getD (i % 3) AV.junk) (List.range 3)) 0 [AV.bool d, AV.bool (tokN (List.take ((↑i : Int).toNat - (↑fr : Int).toNat) (List.drop (↑fr : Int).toNat s))), AV.str (tokS (List.take ((↑i : Int).toNat - (↑fr : Int).toNat) (List.drop (↑fr : Int).toNat s)) false)]) (0 + i_1))] }))
      else
       none
     else
      some ((AX.normal, { tm := tmOf 84 [(0, AV.str s), (3, AV.row 0 3 0 1), (4, AV.bool false), (5, AV.int IntKind.i64 (IntKind.i64.wrap ((↑i : Int) + (1 : Int)))), (6, AV.int IntKind.i64 (IntKind.i64.wrap ((↑i : Int) + (1 : Int))))], ms := [], hp := [some (AObj.row 3 1 fun i_1 => rowF 3 (over (List.map (fun i => (List.map aconst1 (Value.agg #[Value.bool false, Value.bool false, Value.string { data := #[] }]).cells.toList).getD (i % 3) AV.junk) (List.range 3)) 0 [AV.bool d, AV.bool (tokN (List.take ((↑i : Int).toNat - (↑fr : Int).toNat) (List.drop (↑fr : Int).toNat s))), AV.str (tokS (List.take ((↑i : Int).toNat - (↑fr : Int).toNat) (List.drop (↑fr : Int).toNat s)) false)]) (0 + i_1))] }))
    else
     none
   else
    bif decide ((0 : Int) ≤ (↑i : Int) ∧ (↑i : Int) < (↑s.length : Int)) then
     bif !partB (↑(s.getD (↑i : Int).toNat (0 : UInt8)).toNat : Int) then
      bif decide ((↑i : Int) > (↑fr : Int)) then
       bif decide ((0 : Int) ≤ (↑i : Int) ∧ (↑i : Int) < (↑s.length : Int)) then
        bif decide ((0 : Int) ≤ IntKind.i64.wrap ((↑i : Int) - (1 : Int)) ∧ IntKind.i64.wrap ((↑i : Int) - (1 : Int)) < (↑s.length : Int)) then
         bif !partB (↑(s.getD (↑i : Int).toNat (0 : UInt8)).toNat : Int) then
          bif !!dig (↑(s.getD (↑i : Int).toNat (0 : UInt8)).toNat : Int) == dig (↑(s.getD (IntKind.i64.wrap ((↑i : Int) - (1 : Int))).toNat (0 : UInt8)).toNat : Int) then
           some ((AX.normal, { tm := tmOf 84 [(0, AV.str s), (3, AV.nilsl), (4, AV.bool d), (5, AV.int IntKind.i64 (↑fr : Int)), (6, AV.int IntKind.i64 (IntKind.i64.wrap ((↑i : Int) + (1 : Int))))], ms := [], hp := [] }))
          else
           bif decide ((0 : Int) ≤ (↑fr : Int) ∧ (↑fr : Int) ≤ (↑i : Int) ∧ (↑i : Int) ≤ (↑s.length : Int)) then
            bif !dig (↑(s.getD (↑i : Int).toNat (0 : UInt8)).toNat : Int) == dig (↑(s.getD (IntKind.i64.wrap ((↑i : Int) - (1 : Int))).toNat (0 : UInt8)).toNat : Int) then
             bif decide ((0 : Int) ≤ (↑i : Int) ∧ (↑i : Int) < (↑s.length : Int)) then
              bif !dig (↑(s.getD (↑i : Int).toNat (0 : UInt8)).toNat : Int) == dig (↑(s.getD (IntKind.i64.wrap ((↑i : Int) - (1 : Int))).toNat (0 : UInt8)).toNat : Int) then
               bif partB (↑(s.getD (↑i : Int).toNat (0 : UInt8)).toNat : Int) then
                some ((AX.normal, { tm := tmOf 84 [(0, AV.str s), (3, AV.row 0 3 0 1), (4, AV.bool true), (5, AV.int IntKind.i64 (IntKind.i64.wrap ((↑i : Int) + (1 : Int)))), (6, AV.int IntKind.i64 (IntKind.i64.wrap ((↑i : Int) + (1 : Int))))], ms := [], hp := [some (AObj.row 3 1 fun i_1 => rowF 3 (over (List.map (fun i => (List.map aconst1 (Value.agg #[Value.bool false, Value.bool false, Value.string { data := #[] }]).cells.toList).getD (i % 3) AV.junk) (List.range 3)) 0 [AV.bool d, AV.bool (tokN (List.take ((↑i : Int).toNat - (↑fr : Int).toNat) (List.drop (↑fr : Int).toNat s))), AV.str (tokS (List.take ((↑i : Int).toNat - (↑fr : Int).toNat) (List.drop (↑fr : Int).toNat s)) (dig (↑(s.getD (↑i : Int).toNat (0 : UInt8)).toNat : Int)))]) (0 + i_1))] }))
               else
                some ((AX.normal, { tm := tmOf 84 [(0, AV.str s), (3, AV.row 0 3 0 1), (4, AV.bool true), (5, AV.int IntKind.i64 (↑i : Int)), (6, AV.int IntKind.i64 (IntKind.i64.wrap ((↑i : Int) + (1 : Int))))], ms := [], hp := [some (AObj.row 3 1 fun i_1 => rowF 3 (over (List.map (fun i => (List.map aconst1 (Value.agg #[Value.bool false, Value.bool false, Value.string { data := #[] }]).cells.toList).getD (i % 3) AV.junk) (List.range 3)) 0 [AV.bool d, AV.bool (tokN (List.take ((↑i : Int).toNat - (↑fr : Int).toNat) (List.drop (↑fr : Int).toNat s))), AV.str (tokS (List.take ((↑i : Int).toNat - (↑fr : Int).toNat) (List.drop (↑fr : Int).toNat s)) (dig (↑(s.getD (↑i : Int).toNat (0 : UInt8)).toNat : Int)))]) (0 + i_1))] }))
              else
               bif decide ((↑i : Int) < (↑s.length : Int)) then
                bif decide ((0 : Int) ≤ (↑i : Int) ∧ (↑i : Int) < (↑s.length : Int)) then
                 bif partB (↑(s.getD (↑i : Int).toNat (0 : UInt8)).toNat : Int) then
                  some ((AX.normal, { tm := tmOf 84 [(0, AV.str s), (3, AV.row 0 3 0 1), (4, AV.bool ((↑(s.getD (↑i : Int).toNat (0 : UInt8)).toNat : Int) == (45 : Int))), (5, AV.int IntKind.i64 (IntKind.i64.wrap ((↑i : Int) + (1 : Int)))), (6, AV.int IntKind.i64 (IntKind.i64.wrap ((↑i : Int) + (1 : Int))))], ms := [], hp := [some (AObj.row 3 1 fun i_1 => rowF 3 (over (List.map (fun i => (List.map aconst1 (Value.agg #[Value.bool false, Value.bool false, Value.string { data := #[] }]).cells.toList).getD (i % 3) AV.junk) (List.range 3)) 0 [AV.bool d, AV.bool (tokN (List.take ((↑i : Int).toNat - (↑fr : Int).toNat) (List.drop (↑fr : Int).toNat s))), AV.str (tokS (List.take ((↑i : Int).toNat - (↑fr : Int).toNat) (List.drop (↑fr : Int).toNat s)) (dig (↑(s.getD (↑i : Int).toNat (0 : UInt8)).toNat : Int)))]) (0 + i_1))] }))
                 else
                  some ((AX.normal, { tm := tmOf 84 [(0, AV.str s), (3, AV.row 0 3 0 1), (4, AV.bool ((↑(s.getD (↑i : Int).toNat (0 : UInt8)).toNat : Int) == (45 : Int))), (5, AV.int IntKind.i64 (↑i : Int)), (6, AV.int IntKind.i64 (IntKind.i64.wrap ((↑i : Int) + (1 : Int))))], ms := [], hp := [some (AObj.row 3 1 fun i_1 => rowF 3 (over (List.map (fun i => (List.map aconst1 (Value.agg #[Value.bool false, Value.bool false, Value.string { data := #[] }]).cells.toList).getD (i % 3) AV.junk) (List.range 3)) 0 [AV.bool d, AV.bool (tokN (List.take ((↑i : Int).toNat - (↑fr : Int).toNat) (List.drop (↑fr : Int).toNat s))), AV.str (tokS (List.take ((↑i : Int).toNat - (↑fr : Int).toNat) (List.drop (↑fr : Int).toNat s)) (dig (↑(s.getD (↑i : Int).toNat (0 : UInt8)).toNat : Int)))]) (0 + i_1))] }))
                else
                 none
               else
                bif partB (↑(s.getD (↑i : Int).toNat (0 : UInt8)).toNat : Int) then
                 some ((AX.normal, { tm := tmOf 84 [(0, AV.str s), (3, AV.row 0 3 0 1), (4, AV.bool false), (5, AV.int IntKind.i64 (IntKind.i64.wrap ((↑i : Int) + (1 : Int)))), (6, AV.int IntKind.i64 (IntKind.i64.wrap ((↑i : Int) + (1 : Int))))], ms := [], hp := [some (AObj.row 3 1 fun i_1 => rowF 3 (over (List.map (fun i => (List.map aconst1 (Value.agg #[Value.bool false, Value.bool false, Value.string { data := #[] }]).cells.toList).getD (i % 3) AV.junk) (List.range 3)) 0 [AV.bool d, AV.bool (tokN (List.take ((↑i : Int).toNat - (↑fr : Int).toNat) (List.drop (↑fr : Int).toNat s))), AV.str (tokS (List.take ((↑i : Int).toNat - (↑fr : Int).toNat) (List.drop (↑fr : Int).toNat s)) (dig (↑(s.getD (↑i : Int).toNat (0 : UInt8)).toNat : Int)))]) (0 + i_1))] }))
                else
                 some ((AX.normal, { tm := tmOf 84 [(0, AV.str s), (3, AV.row 0 3 0 1), (4, AV.bool false), (5, AV.int IntKind.i64 (↑i : Int)), (6, AV.int IntKind.i64 (IntKind.i64.wrap ((↑i : Int) + (1 : Int))))], ms := [], hp := [some (AObj.row 3 1 fun i_1 => rowF 3 (over (List.map (fun i => (List.map aconst1 (Value.agg #[Value.bool false, Value.bool false, Value.string { data := #[] }]).cells.toList).getD (i % 3) AV.junk) (List.range 3)) 0 [AV.bool d, AV.bool (tokN (List.take ((↑i : Int).toNat - (↑fr : Int).toNat) (List.drop (↑fr : Int).toNat s))), AV.str (tokS (List.take ((↑i : Int).toNat - (↑fr : Int).toNat) (List.drop (↑fr : Int).toNat s)) (dig (↑(s.getD (↑i : Int).toNat (0 : UInt8)).toNat : Int)))]) (0 + i_1))] }))
             else
              none
            else
             bif !dig (↑(s.getD (↑i : Int).toNat (0 : UInt8)).toNat : Int) == dig (↑(s.getD (IntKind.i64.wrap ((↑i : Int) - (1 : Int))).toNat (0 : UInt8)).toNat : Int) then
              bif partB (↑(s.getD (↑i : Int).toNat (0 : UInt8)).toNat : Int) then
               some ((AX.normal, { tm := tmOf 84 [(0, AV.str s), (3, AV.row 0 3 0 1), (4, AV.bool true), (5, AV.int IntKind.i64 (IntKind.i64.wrap ((↑i : Int) + (1 : Int)))), (6, AV.int IntKind.i64 (IntKind.i64.wrap ((↑i : Int) + (1 : Int))))], ms := [], hp := [some (AObj.row 3 1 fun i_1 => rowF 3 (over (List.map (fun i => (List.map aconst1 (Value.agg #[Value.bool false, Value.bool false, Value.string { data := #[] }]).cells.toList).getD (i % 3) AV.junk) (List.range 3)) 0 [AV.bool d, AV.bool (tokN (List.take ((↑i : Int).toNat - (↑fr : Int).toNat) (List.drop (↑fr : Int).toNat s))), AV.str (tokS (List.take ((↑i : Int).toNat - (↑fr : Int).toNat) (List.drop (↑fr : Int).toNat s)) false)]) (0 + i_1))] }))
              else
               some ((AX.normal, { tm := tmOf 84 [(0, AV.str s), (3, AV.row 0 3 0 1), (4, AV.bool true), (5, AV.int IntKind.i64 (↑i : Int)), (6, AV.int IntKind.i64 (IntKind.i64.wrap ((↑i : Int) + (1 : Int))))], ms := [], hp := [some (AObj.row 3 1 fun i_1 => rowF 3 (over (List.map (fun i => (List.map aconst1 (Value.agg #[Value.bool false, Value.bool false, Value.string { data := #[] }]).cells.toList).getD (i % 3) AV.junk) (List.range 3)) 0 [AV.bool d, AV.bool (tokN (List.take ((↑i : Int).toNat - (↑fr : Int).toNat) (List.drop (↑fr : Int).toNat s))), AV.str (tokS (List.take ((↑i : Int).toNat - (↑fr : Int).toNat) (List.drop (↑fr : Int).toNat s)) false)]) (0 + i_1))] }))
             else
              bif decide ((↑i : Int) < (↑s.length : Int)) then
               bif decide ((0 : Int) ≤ (↑i : Int) ∧ (↑i : Int) < (↑s.length : Int)) then
                bif partB (↑(s.getD (↑i : Int).toNat (0 : UInt8)).toNat : Int) then
                 some ((AX.normal, { tm := tmOf 84 [(0, AV.str s), (3, AV.row 0 3 0 1), (4, AV.bool ((↑(s.getD (↑i : Int).toNat (0 : UInt8)).toNat : Int) == (45 : Int))), (5, AV.int IntKind.i64 (IntKind.i64.wrap ((↑i : Int) + (1 : Int)))), (6, AV.int IntKind.i64 (IntKind.i64.wrap ((↑i : Int) + (1 : Int))))], ms := [], hp := [some (AObj.row 3 1 fun i_1 => rowF 3 (over (List.map (fun i => (List.map aconst1 (Value.agg #[Value.bool false, Value.bool false, Value.string { data := #[] }]).cells.toList).getD (i % 3) AV.junk) (List.range 3)) 0 [AV.bool d, AV.bool (tokN (List.take ((↑i : Int).toNat - (↑fr : Int).toNat) (List.drop (↑fr : Int).toNat s))), AV.str (tokS (List.take ((↑i : Int).toNat - (↑fr : Int).toNat) (List.drop (↑fr : Int).toNat s)) false)]) (0 + i_1))] }))
                else
                 some ((AX.normal, { tm := tmOf 84 [(0, AV.str s), (3, AV.row 0 3 0 1), (4, AV.bool ((↑(s.getD (↑i : Int).toNat (0 : UInt8)).toNat : Int) == (45 : Int))), (5, AV.int IntKind.i64 (↑i : Int)), (6, AV.int IntKind.i64 (IntKind.i64.wrap ((↑i : Int) + (1 : Int))))], ms := [], hp := [some (AObj.row 3 1 fun i_1 => rowF 3 (over (List.map (fun i => (List.map aconst1 (Value.agg #[Value.bool false, Value.bool false, Value.string { data := #[] }]).cells.toList).getD (i % 3) AV.junk) (List.range 3)) 0 [AV.bool d, AV.bool (tokN (List.take ((↑i : Int).toNat - (↑fr : Int).toNat) (List.drop (↑fr : Int).toNat s))), AV.str (tokS (List.take ((↑i : Int).toNat - (↑fr : Int).toNat) (List.drop (↑fr : Int).toNat s)) false)]) (0 + i_1))] }))
               else
                none
              else
               bif partB (↑(s.getD (↑i : Int).toNat (0 : UInt8)).toNat : Int) then
                some ((AX.normal, { tm := tmOf 84 [(0, AV.str s), (3, AV.row 0 3 0 1), (4, AV.bool false), (5, AV.int IntKind.i64 (IntKind.i64.wrap ((↑i : Int) + (1 : Int)))), (6, AV.int IntKind.i64 (IntKind.i64.wrap ((↑i : Int) + (1 : Int))))], ms := [], hp := [some (AObj.row 3 1 fun i_1 => rowF 3 (over (List.map (fun i => (List.map aconst1 (Value.agg #[Value.bool false, Value.bool false, Value.string { data := #[] }]).cells.toList).getD (i % 3) AV.junk) (List.range 3)) 0 [AV.bool d, AV.bool (tokN (List.take ((↑i : Int).toNat - (↑fr : Int).toNat) (List.drop (↑fr : Int).toNat s))), AV.str (tokS (List.take ((↑i : Int).toNat - (↑fr : Int).toNat) (List.drop (↑fr : Int).toNat s)) false)]) (0 + i_1))] }))
               else
                some ((AX.normal, { tm := tmOf 84 [(0, AV.str s), (3, AV.row 0 3 0 1), (4, AV.bool false), (5, AV.int IntKind.i64 (↑i : Int)), (6, AV.int IntKind.i64 (IntKind.i64.wrap ((↑i : Int) + (1 : Int))))], ms := [], hp := [some (AObj.row 3 1 fun i_1 => rowF 3 (over (List.map (fun i => (List.map aconst1 (Value.agg #[Value.bool false, Value.bool false, Value.string { data := #[] }]).cells.toList).getD (i % 3) AV.junk) (List.range 3)) 0 [AV.bool d, AV.bool (tokN (List.take ((↑i : Int).toNat - (↑fr : Int).toNat) (List.drop (↑fr : Int).toNat s))), AV.str (tokS (List.take ((↑i : Int).toNat - (↑fr : Int).toNat) (List.drop (↑fr : Int).toNat s)) false)]) (0 + i_1))] }))
           else
            none
         else
          bif decide ((0 : Int) ≤ (↑fr : Int) ∧ (↑fr : Int) ≤ (↑i : Int) ∧ (↑i : Int) ≤ (↑s.length : Int)) then
           bif !dig (↑(s.getD (↑i : Int).toNat (0 : UInt8)).toNat : Int) == dig (↑(s.getD (IntKind.i64.wrap ((↑i : Int) - (1 : Int))).toNat (0 : UInt8)).toNat : Int) then
            bif decide ((0 : Int) ≤ (↑i : Int) ∧ (↑i : Int) < (↑s.length : Int)) then
             bif !dig (↑(s.getD (↑i : Int).toNat (0 : UInt8)).toNat : Int) == dig (↑(s.getD (IntKind.i64.wrap ((↑i : Int) - (1 : Int))).toNat (0 : UInt8)).toNat : Int) then
              bif partB (↑(s.getD (↑i : Int).toNat (0 : UInt8)).toNat : Int) then
               some ((AX.normal, { tm := tmOf 84 [(0, AV.str s), (3, AV.row 0 3 0 1), (4, AV.bool true), (5, AV.int IntKind.i64 (IntKind.i64.wrap ((↑i : Int) + (1 : Int)))), (6, AV.int IntKind.i64 (IntKind.i64.wrap ((↑i : Int) + (1 : Int))))], ms := [], hp := [some (AObj.row 3 1 fun i_1 => rowF 3 (over (List.map (fun i => (List.map aconst1 (Value.agg #[Value.bool false, Value.bool false, Value.string { data := #[] }]).cells.toList).getD (i % 3) AV.junk) (List.range 3)) 0 [AV.bool d, AV.bool (tokN (List.take ((↑i : Int).toNat - (↑fr : Int).toNat) (List.drop (↑fr : Int).toNat s))), AV.str (tokS (List.take ((↑i : Int).toNat - (↑fr : Int).toNat) (List.drop (↑fr : Int).toNat s)) (dig (↑(s.getD (↑i : Int).toNat (0 : UInt8)).toNat : Int)))]) (0 + i_1))] }))
              else
               some ((AX.normal, { tm := tmOf 84 [(0, AV.str s), (3, AV.row 0 3 0 1), (4, AV.bool true), (5, AV.int IntKind.i64 (↑i : Int)), (6, AV.int IntKind.i64 (IntKind.i64.wrap ((↑i : Int) + (1 : Int))))], ms := [], hp := [some (AObj.row 3 1 fun i_1 => rowF 3 (over (List.map (fun i => (List.map aconst1 (Value.agg #[Value.bool false, Value.bool false, Value.string { data := #[] }]).cells.toList).getD (i % 3) AV.junk) (List.range 3)) 0 [AV.bool d, AV.bool (tokN (List.take ((↑i : Int).toNat - (↑fr : Int).toNat) (List.drop (↑fr : Int).toNat s))), AV.str (tokS (List.take ((↑i : Int).toNat - (↑fr : Int).toNat) (List.drop (↑fr : Int).toNat s)) (dig (↑(s.getD (↑i : Int).toNat (0 : UInt8)).toNat : Int)))]) (0 + i_1))] }))
             else
              bif decide ((↑i : Int) < (↑s.length : Int)) then
               bif decide ((0 : Int) ≤ (↑i : Int) ∧ (↑i : Int) < (↑s.length : Int)) then
                bif partB (↑(s.getD (↑i : Int).toNat (0 : UInt8)).toNat : Int) then
                 some ((AX.normal, { tm := tmOf 84 [(0, AV.str s), (3, AV.row 0 3 0 1), (4, AV.bool ((↑(s.getD (↑i : Int).toNat (0 : UInt8)).toNat : Int) == (45 : Int))), (5, AV.int IntKind.i64 (IntKind.i64.wrap ((↑i : Int) + (1 : Int)))), (6, AV.int IntKind.i64 (IntKind.i64.wrap ((↑i : Int) + (1 : Int))))], ms := [], hp := [some (AObj.row 3 1 fun i_1 => rowF 3 (over (List.map (fun i => (List.map aconst1 (Value.agg #[Value.bool false, Value.bool false, Value.string { data := #[] }]).cells.toList).getD (i % 3) AV.junk) (List.range 3)) 0 [AV.bool d, AV.bool (tokN (List.take ((↑i : Int).toNat - (↑fr : Int).toNat) (List.drop (↑fr : Int).toNat s))), AV.str (tokS (List.take ((↑i : Int).toNat - (↑fr : Int).toNat) (List.drop (↑fr : Int).toNat s)) (dig (↑(s.getD (↑i : Int).toNat (0 : UInt8)).toNat : Int)))]) (0 + i_1))] }))
                else
                 some ((AX.normal, { tm := tmOf 84 [(0, AV.str s), (3, AV.row 0 3 0 1), (4, AV.bool ((↑(s.getD (↑i : Int).toNat (0 : UInt8)).toNat : Int) == (45 : Int))), (5, AV.int IntKind.i64 (↑i : Int)), (6, AV.int IntKind.i64 (IntKind.i64.wrap ((↑i : Int) + (1 : Int))))], ms := [], hp := [some (AObj.row 3 1 fun i_1 => rowF 3 (over (List.map (fun i => (List.map aconst1 (Value.agg #[Value.bool false, Value.bool false, Value.string { data := #[] }]).cells.toList).getD (i % 3) AV.junk) (List.range 3)) 0 [AV.bool d, AV.bool (tokN (List.take ((↑i : Int).toNat - (↑fr : Int).toNat) (List.drop (↑fr : Int).toNat s))), AV.str (tokS (List.take ((↑i : Int).toNat - (↑fr : Int).toNat) (List.drop (↑fr : Int).toNat s)) (dig (↑(s.getD (↑i : Int).toNat (0 : UInt8)).toNat : Int)))]) (0 + i_1))] }))
               else
                none
              else
               bif partB (↑(s.getD (↑i : Int).toNat (0 : UInt8)).toNat : Int) then
                some ((AX.normal, { tm := tmOf 84 [(0, AV.str s), (3, AV.row 0 3 0 1), (4, AV.bool false), (5, AV.int IntKind.i64 (IntKind.i64.wrap ((↑i : Int) + (1 : Int)))), (6, AV.int IntKind.i64 (IntKind.i64.wrap ((↑i : Int) + (1 : Int))))], ms := [], hp := [some (AObj.row 3 1 fun i_1 => rowF 3 (over (List.map (fun i => (List.map aconst1 (Value.agg #[Value.bool false, Value.bool false, Value.string { data := #[] }]).cells.toList).getD (i % 3) AV.junk) (List.range 3)) 0 [AV.bool d, AV.bool (tokN (List.take ((↑i : Int).toNat - (↑fr : Int).toNat) (List.drop (↑fr : Int).toNat s))), AV.str (tokS (List.take ((↑i : Int).toNat - (↑fr : Int).toNat) (List.drop (↑fr : Int).toNat s)) (dig (↑(s.getD (↑i : Int).toNat (0 : UInt8)).toNat : Int)))]) (0 + i_1))] }))
               else
                some ((AX.normal, { tm := tmOf 84 [(0, AV.str s), (3, AV.row 0 3 0 1), (4, AV.bool false), (5, AV.int IntKind.i64 (↑i : Int)), (6, AV.int IntKind.i64 (IntKind.i64.wrap ((↑i : Int) + (1 : Int))))], ms := [], hp := [some (AObj.row 3 1 fun i_1 => rowF 3 (over (List.map (fun i => (List.map aconst1 (Value.agg #[Value.bool false, Value.bool false, Value.string { data := #[] }]).cells.toList).getD (i % 3) AV.junk) (List.range 3)) 0 [AV.bool d, AV.bool (tokN (List.take ((↑i : Int).toNat - (↑fr : Int).toNat) (List.drop (↑fr : Int).toNat s))), AV.str (tokS (List.take ((↑i : Int).toNat - (↑fr : Int).toNat) (List.drop (↑fr : Int).toNat s)) (dig (↑(s.getD (↑i : Int).toNat (0 : UInt8)).toNat : Int)))]) (0 + i_1))] }))
            else
             none
           else
            bif !dig (↑(s.getD (↑i : Int).toNat (0 : UInt8)).toNat : Int) == dig (↑(s.getD (IntKind.i64.wrap ((↑i : Int) - (1 : Int))).toNat (0 : UInt8)).toNat : Int) then
             bif partB (↑(s.getD (↑i : Int).toNat (0 : UInt8)).toNat : Int) then
              some ((AX.normal, { tm := tmOf 84 [(0, AV.str s), (3, AV.row 0 3 0 1), (4, AV.bool true), (5, AV.int IntKind.i64 (IntKind.i64.wrap ((↑i : Int) + (1 : Int)))), (6, AV.int IntKind.i64 (IntKind.i64.wrap ((↑i : Int) + (1 : Int))))], ms := [], hp := [some (AObj.row 3 1 fun i_1 => rowF 3 (over (List.map (fun i => (List.map aconst1 (Value.agg #[Value.bool false, Value.bool false, Value.string { data := #[] }]).cells.toList).getD (i % 3) AV.junk) (List.range 3)) 0 [AV.bool d, AV.bool (tokN (List.take ((↑i : Int).toNat - (↑fr : Int).toNat) (List.drop (↑fr : Int).toNat s))), AV.str (tokS (List.take ((↑i : Int).toNat - (↑fr : Int).toNat) (List.drop (↑fr : Int).toNat s)) false)]) (0 + i_1))] }))
             else
              some ((AX.normal, { tm := tmOf 84 [(0, AV.str s), (3, AV.row 0 3 0 1), (4, AV.bool true), (5, AV.int IntKind.i64 (↑i : Int)), (6, AV.int IntKind.i64 (IntKind.i64.wrap ((↑i : Int) + (1 : Int))))], ms := [], hp := [some (AObj.row 3 1 fun i_1 => rowF 3 (over (List.map (fun i => (List.map aconst1 (Value.agg #[Value.bool false, Value.bool false, Value.string { data := #[] }]).cells.toList).getD (i % 3) AV.junk) (List.range 3)) 0 [AV.bool d, AV.bool (tokN (List.take ((↑i : Int).toNat - (↑fr : Int).toNat) (List.drop (↑fr : Int).toNat s))), AV.str (tokS (List.take ((↑i : Int).toNat - (↑fr : Int).toNat) (List.drop (↑fr : Int).toNat s)) false)]) (0 + i_1))] }))
            else
             bif decide ((↑i : Int) < (↑s.length : Int)) then
              bif decide ((0 : Int) ≤ (↑i : Int) ∧ (↑i : Int) < (↑s.length : Int)) then
               bif partB (↑(s.getD (↑i : Int).toNat (0 : UInt8)).toNat : Int) then
                some ((AX.normal, { tm := tmOf 84 [(0, AV.str s), (3, AV.row 0 3 0 1), (4, AV.bool ((↑(s.getD (↑i : Int).toNat (0 : UInt8)).toNat : Int) == (45 : Int))), (5, AV.int IntKind.i64 (IntKind.i64.wrap ((↑i : Int) + (1 : Int)))), (6, AV.int IntKind.i64 (IntKind.i64.wrap ((↑i : Int) + (1 : Int))))], ms := [], hp := [some (AObj.row 3 1 fun i_1 => rowF 3 (over (List.map (fun i => (List.map aconst1 (Value.agg #[Value.bool false, Value.bool false, Value.string { data := #[] }]).cells.toList).getD (i % 3) AV.junk) (List.range 3)) 0 [AV.bool d, AV.bool (tokN (List.take ((↑i : Int).toNat - (↑fr : Int).toNat) (List.drop (↑fr : Int).toNat s))), AV.str (tokS (List.take ((↑i : Int).toNat - (↑fr : Int).toNat) (List.drop (↑fr : Int).toNat s)) false)]) (0 + i_1))] }))
               else
                some ((AX.normal, { tm := tmOf 84 [(0, AV.str s), (3, AV.row 0 3 0 1), (4, AV.bool ((↑(s.getD (↑i : Int).toNat (0 : UInt8)).toNat : Int) == (45 : Int))), (5, AV.int IntKind.i64 (↑i : Int)), (6, AV.int IntKind.i64 (IntKind.i64.wrap ((↑i : Int) + (1 : Int))))], ms := [], hp := [some (AObj.row 3 1 fun i_1 => rowF 3 (over (List.map (fun i => (List.map aconst1 (Value.agg #[Value.bool false, Value.bool false, Value.string { data := #[] }]).cells.toList).getD (i % 3) AV.junk) (List.range 3)) 0 [AV.bool d, AV.bool (tokN (List.take ((↑i : Int).toNat - (↑fr : Int).toNat) (List.drop (↑fr : Int).toNat s))), AV.str (tokS (List.take ((↑i : Int).toNat - (↑fr : Int).toNat) (List.drop (↑fr : Int).toNat s)) false)]) (0 + i_1))] }))
              else
               none
             else
              bif partB (↑(s.getD (↑i : Int).toNat (0 : UInt8)).toNat : Int) then
               some ((AX.normal, { tm := tmOf 84 [(0, AV.str s), (3, AV.row 0 3 0 1), (4, AV.bool false), (5, AV.int IntKind.i64 (IntKind.i64.wrap ((↑i : Int) + (1 : Int)))), (6, AV.int IntKind.i64 (IntKind.i64.wrap ((↑i : Int) + (1 : Int))))], ms := [], hp := [some (AObj.row 3 1 fun i_1 => rowF 3 (over (List.map (fun i => (List.map aconst1 (Value.agg #[Value.bool false, Value.bool false, Value.string { data := #[] }]).cells.toList).getD (i % 3) AV.junk) (List.range 3)) 0 [AV.bool d, AV.bool (tokN (List.take ((↑i : Int).toNat - (↑fr : Int).toNat) (List.drop (↑fr : Int).toNat s))), AV.str (tokS (List.take ((↑i : Int).toNat - (↑fr : Int).toNat) (List.drop (↑fr : Int).toNat s)) false)]) (0 + i_1))] }))
              else
               some ((AX.normal, { tm := tmOf 84 [(0, AV.str s), (3, AV.row 0 3 0 1), (4, AV.bool false), (5, AV.int IntKind.i64 (↑i : Int)), (6, AV.int IntKind.i64 (IntKind.i64.wrap ((↑i : Int) + (1 : Int))))], ms := [], hp := [some (AObj.row 3 1 fun i_1 => rowF 3 (over (List.map (fun i => (List.map aconst1 (Value.agg #[Value.bool false, Value.bool false, Value.string { data := #[] }]).cells.toList).getD (i % 3) AV.junk) (List.range 3)) 0 [AV.bool d, AV.bool (tokN (List.take ((↑i : Int).toNat - (↑fr : Int).toNat) (List.drop (↑fr : Int).toNat s))), AV.str (tokS (List.take ((↑i : Int).toNat - (↑fr : Int).toNat) (List.drop (↑fr : Int).toNat s)) false)]) (0 + i_1))] }))
          else
           none
        else
         none
       else
        none
      else
       bif !partB (↑(s.getD (↑i : Int).toNat (0 : UInt8)).toNat : Int) then
        some ((AX.normal, { tm := tmOf 84 [(0, AV.str s), (3, AV.nilsl), (4, AV.bool d), (5, AV.int IntKind.i64 (↑fr : Int)), (6, AV.int IntKind.i64 (IntKind.i64.wrap ((↑i : Int) + (1 : Int))))], ms := [], hp := [] }))
       else
        bif decide ((0 : Int) ≤ (↑fr : Int) ∧ (↑fr : Int) ≤ (↑i : Int) ∧ (↑i : Int) ≤ (↑s.length : Int)) then
         bif decide ((↑i : Int) < (↑s.length : Int)) then
          bif decide ((0 : Int) ≤ (↑i : Int) ∧ (↑i : Int) < (↑s.length : Int)) then
           bif partB (↑(s.getD (↑i : Int).toNat (0 : UInt8)).toNat : Int) then
            some ((AX.normal, { tm := tmOf 84 [(0, AV.str s), (3, AV.row 0 3 0 1), (4, AV.bool ((↑(s.getD (↑i : Int).toNat (0 : UInt8)).toNat : Int) == (45 : Int))), (5, AV.int IntKind.i64 (IntKind.i64.wrap ((↑i : Int) + (1 : Int)))), (6, AV.int IntKind.i64 (IntKind.i64.wrap ((↑i : Int) + (1 : Int))))], ms := [], hp := [some (AObj.row 3 1 fun i_1 => rowF 3 (over (List.map (fun i => (List.map aconst1 (Value.agg #[Value.bool false, Value.bool false, Value.string { data := #[] }]).cells.toList).getD (i % 3) AV.junk) (List.range 3)) 0 [AV.bool d, AV.bool (tokN (List.take ((↑i : Int).toNat - (↑fr : Int).toNat) (List.drop (↑fr : Int).toNat s))), AV.str (tokS (List.take ((↑i : Int).toNat - (↑fr : Int).toNat) (List.drop (↑fr : Int).toNat s)) false)]) (0 + i_1))] }))
           else
            some ((AX.normal, { tm := tmOf 84 [(0, AV.str s), (3, AV.row 0 3 0 1), (4, AV.bool ((↑(s.getD (↑i : Int).toNat (0 : UInt8)).toNat : Int) == (45 : Int))), (5, AV.int IntKind.i64 (↑i : Int)), (6, AV.int IntKind.i64 (IntKind.i64.wrap ((↑i : Int) + (1 : Int))))], ms := [], hp := [some (AObj.row 3 1 fun i_1 => rowF 3 (over (List.map (fun i => (List.map aconst1 (Value.agg #[Value.bool false, Value.bool false, Value.string { data := #[] }]).cells.toList).getD (i % 3) AV.junk) (List.range 3)) 0 [AV.bool d, AV.bool (tokN (List.take ((↑i : Int).toNat - (↑fr : Int).toNat) (List.drop (↑fr : Int).toNat s))), AV.str (tokS (List.take ((↑i : Int).toNat - (↑fr : Int).toNat) (List.drop (↑fr : Int).toNat s)) false)]) (0 + i_1))] }))
          else
           none
         else
          bif partB (↑(s.getD (↑i : Int).toNat (0 : UInt8)).toNat : Int) then
           some ((AX.normal, { tm := tmOf 84 [(0, AV.str s), (3, AV.row 0 3 0 1), (4, AV.bool false), (5, AV.int IntKind.i64 (IntKind.i64.wrap ((↑i : Int) + (1 : Int)))), (6, AV.int IntKind.i64 (IntKind.i64.wrap ((↑i : Int) + (1 : Int))))], ms := [], hp := [some (AObj.row 3 1 fun i_1 => rowF 3 (over (List.map (fun i => (List.map aconst1 (Value.agg #[Value.bool false, Value.bool false, Value.string { data := #[] }]).cells.toList).getD (i % 3) AV.junk) (List.range 3)) 0 [AV.bool d, AV.bool (tokN (List.take ((↑i : Int).toNat - (↑fr : Int).toNat) (List.drop (↑fr : Int).toNat s))), AV.str (tokS (List.take ((↑i : Int).toNat - (↑fr : Int).toNat) (List.drop (↑fr : Int).toNat s)) false)]) (0 + i_1))] }))
          else
           some ((AX.normal, { tm := tmOf 84 [(0, AV.str s), (3, AV.row 0 3 0 1), (4, AV.bool false), (5, AV.int IntKind.i64 (↑i : Int)), (6, AV.int IntKind.i64 (IntKind.i64.wrap ((↑i : Int) + (1 : Int))))], ms := [], hp := [some (AObj.row 3 1 fun i_1 => rowF 3 (over (List.map (fun i => (List.map aconst1 (Value.agg #[Value.bool false, Value.bool false, Value.string { data := #[] }]).cells.toList).getD (i % 3) AV.junk) (List.range 3)) 0 [AV.bool d, AV.bool (tokN (List.take ((↑i : Int).toNat - (↑fr : Int).toNat) (List.drop (↑fr : Int).toNat s))), AV.str (tokS (List.take ((↑i : Int).toNat - (↑fr : Int).toNat) (List.drop (↑fr : Int).toNat s)) false)]) (0 + i_1))] }))
        else
         none
     else
      bif !partB (↑(s.getD (↑i : Int).toNat (0 : UInt8)).toNat : Int) then
       some ((AX.normal, { tm := tmOf 84 [(0, AV.str s), (3, AV.nilsl), (4, AV.bool d), (5, AV.int IntKind.i64 (↑fr : Int)), (6, AV.int IntKind.i64 (IntKind.i64.wrap ((↑i : Int) + (1 : Int))))], ms := [], hp := [] }))
      else
       bif decide ((0 : Int) ≤ (↑fr : Int) ∧ (↑fr : Int) ≤ (↑i : Int) ∧ (↑i : Int) ≤ (↑s.length : Int)) then
        bif decide ((↑i : Int) < (↑s.length : Int)) then
         bif decide ((0 : Int) ≤ (↑i : Int) ∧ (↑i : Int) < (↑s.length : Int)) then
          bif partB (↑(s.getD (↑i : Int).toNat (0 : UInt8)).toNat : Int) then
           some ((AX.normal, { tm := tmOf 84 [(0, AV.str s), (3, AV.row 0 3 0 1), (4, AV.bool ((↑(s.getD (↑i : Int).toNat (0 : UInt8)).toNat : Int) == (45 : Int))), (5, AV.int IntKind.i64 (IntKind.i64.wrap ((↑i : Int) + (1 : Int)))), (6, AV.int IntKind.i64 (IntKind.i64.wrap ((↑i : Int) + (1 : Int))))], ms := [], hp := [some (AObj.row 3 1 fun i_1 => rowF 3 (over (List.map (fun i => (List.map aconst1 (Value.agg #[Value.bool false, Value.bool false, Value.string { data := #[] }]).cells.toList).getD (i % 3) AV.junk) (List.range 3)) 0 [AV.bool d, AV.bool (tokN (List.take ((↑i : Int).toNat - (↑fr : Int).toNat) (List.drop (↑fr : Int).toNat s))), AV.str (tokS (List.take ((↑i : Int).toNat - (↑fr : Int).toNat) (List.drop (↑fr : Int).toNat s)) false)]) (0 + i_1))] }))
          else
           some ((AX.normal, { tm := tmOf 84 [(0, AV.str s), (3, AV.row 0 3 0 1), (4, AV.bool ((↑(s.getD (↑i : Int).toNat (0 : UInt8)).toNat : Int) == (45 : Int))), (5, AV.int IntKind.i64 (↑i : Int)), (6, AV.int IntKind.i64 (IntKind.i64.wrap ((↑i : Int) + (1 : Int))))], ms := [], hp := [some (AObj.row 3 1 fun i_1 => rowF 3 (over (List.map (fun i => (List.map aconst1 (Value.agg #[Value.bool false, Value.bool false, Value.string { data := #[] }]).cells.toList).getD (i % 3) AV.junk) (List.range 3)) 0 [AV.bool d, AV.bool (tokN (List.take ((↑i : Int).toNat - (↑fr : Int).toNat) (List.drop (↑fr : Int).toNat s))), AV.str (tokS (List.take ((↑i : Int).toNat - (↑fr : Int).toNat) (List.drop (↑fr : Int).toNat s)) false)]) (0 + i_1))] }))
         else
          none
        else
         bif partB (↑(s.getD (↑i : Int).toNat (0 : UInt8)).toNat : Int) then
          some ((AX.normal, { tm := tmOf 84 [(0, AV.str s), (3, AV.row 0 3 0 1), (4, AV.bool false), (5, AV.int IntKind.i64 (IntKind.i64.wrap ((↑i : Int) + (1 : Int)))), (6, AV.int IntKind.i64 (IntKind.i64.wrap ((↑i : Int) + (1 : Int))))], ms := [], hp := [some (AObj.row 3 1 fun i_1 => rowF 3 (over (List.map (fun i => (List.map aconst1 (Value.agg #[Value.bool false, Value.bool false, Value.string { data := #[] }]).cells.toList).getD (i % 3) AV.junk) (List.range 3)) 0 [AV.bool d, AV.bool (tokN (List.take ((↑i : Int).toNat - (↑fr : Int).toNat) (List.drop (↑fr : Int).toNat s))), AV.str (tokS (List.take ((↑i : Int).toNat - (↑fr : Int).toNat) (List.drop (↑fr : Int).toNat s)) false)]) (0 + i_1))] }))
         else
          some ((AX.normal, { tm := tmOf 84 [(0, AV.str s), (3, AV.row 0 3 0 1), (4, AV.bool false), (5, AV.int IntKind.i64 (↑i : Int)), (6, AV.int IntKind.i64 (IntKind.i64.wrap ((↑i : Int) + (1 : Int))))], ms := [], hp := [some (AObj.row 3 1 fun i_1 => rowF 3 (over (List.map (fun i => (List.map aconst1 (Value.agg #[Value.bool false, Value.bool false, Value.string { data := #[] }]).cells.toList).getD (i % 3) AV.junk) (List.range 3)) 0 [AV.bool d, AV.bool (tokN (List.take ((↑i : Int).toNat - (↑fr : Int).toNat) (List.drop (↑fr : Int).toNat s))), AV.str (tokS (List.take ((↑i : Int).toNat - (↑fr : Int).toNat) (List.drop (↑fr : Int).toNat s)) false)]) (0 + i_1))] }))
       else
        none
    else
     none
  else
   some ((AX.exit 0, { tm := tmOf 84 [(0, AV.str s), (3, AV.nilsl), (4, AV.bool d), (5, AV.int IntKind.i64 (↑fr : Int)), (6, AV.int IntKind.i64 (↑i : Int)), (12, AV.bool false)], ms := [], hp := [] })) := by kernel_rfl

theorem qB58 (s : List UInt8) (n i fr : Nat) (d : Bool) (f : Nat → Tok) : (rdn tabX4 h58 noLoops 58 0 0 { tm := encGo (mbits 121 84) [.str s, .row 0 3 0 n, .bool d, .int .i64 fr, .int .i64 i], ms := [], hp := [some (.row 3 n (rowT f))] }).run =
  bif decide ((↑i : Int) ≤ (↑s.length : Int)) then
   bif (↑i : Int) == (↑s.length : Int) then
    bif decide ((0 : Int) ≤ (↑fr : Int) ∧ (↑fr : Int) ≤ (↑i : Int) ∧ (↑i : Int) ≤ (↑s.length : Int)) then
     bif decide (n = n) then
      bif decide ((n + 1) * 24 ≤ 140737488355328 ∧ n + 1 ≤ 4611686018427387903) then
       bif decide ((↑i : Int) < (↑s.length : Int)) then
        bif decide ((0 : Int) ≤ (↑i : Int) ∧ (↑i : Int) < (↑s.length : Int)) then
         some ((AX.normal, { tm := tmOf 84 [(0, AV.str s), (3, AV.row 0 3 0 (n + 1)), (4, AV.bool ((↑(s.getD (↑i : Int).toNat (0 : UInt8)).toNat : Int) == (45 : Int))), (5, AV.int IntKind.i64 (IntKind.i64.wrap ((↑i : Int) + (1 : Int)))), (6, AV.int IntKind.i64 (IntKind.i64.wrap ((↑i : Int) + (1 : Int))))], ms := [], hp := [some (AObj.row 3 (n + 1) (appF n (rowT f) fun i_1 => rowF 3 (over (List.map (fun i => (List.map aconst1 (Value.agg #[Value.bool false, Value.bool false, Value.string { data := #[] }]).cells.toList).getD (i % 3) AV.junk) (List.range 3)) 0 [AV.bool d, AV.bool (tokN (List.take ((↑i : Int).toNat - (↑fr : Int).toNat) (List.drop (↑fr : Int).toNat s))), AV.str (tokS (List.take ((↑i : Int).toNat - (↑fr : Int).toNat) (List.drop (↑fr : Int).toNat s)) false)]) (0 + i_1)))] }))
        else
         none
       else
        some ((AX.normal, { tm := tmOf 84 [(0, AV.str s), (3, AV.row 0 3 0 (n + 1)), (4, AV.bool false), (5, AV.int IntKind.i64 (IntKind.i64.wrap ((↑i : Int) + (1 : Int)))), (6, AV.int IntKind.i64 (IntKind.i64.wrap ((↑i : Int) + (1 : Int))))], ms := [], hp := [some (AObj.row 3 (n + 1) (appF n (rowT f) fun i_1 => rowF 3 (over (List.map (fun i => (List.map aconst1 (Value.agg #[Value.bool false, Value.bool false, Value.string { data := #[] }]).cells.toList).getD (i % 3) AV.junk) (List.range 3)) 0 [AV.bool d, AV.bool (tokN (List.take ((↑i : Int).toNat - (↑fr : Int).toNat) (List.drop (↑fr : Int).toNat s))), AV.str (tokS (List.take ((↑i : Int).toNat - (↑fr : Int).toNat) (List.drop (↑fr : Int).toNat s)) false)]) (0 + i_1)))] }))
      else
       none
     else
      none
    else
     none
   else
    bif decide ((0 : Int) ≤ (↑i : Int) ∧ (↑i : Int) < (↑s.length : Int)) then
     bif !partB (↑(s.getD (↑i : Int).toNat (0 : UInt8)).toNat : Int) then
      bif decide ((↑i : Int) > (↑fr : Int)) then
       bif decide ((0 : Int) ≤ (↑i : Int) ∧ (↑i : Int) < (↑s.length : Int)) then
        bif decide ((0 : Int) ≤ IntKind.i64.wrap ((↑i : Int) - (1 : Int)) ∧ IntKind.i64.wrap ((↑i : Int) - (1 : Int)) < (↑s.length : Int)) then
         bif !partB (↑(s.getD (↑i : Int).toNat (0 : UInt8)).toNat : Int) then
          bif !!dig (↑(s.getD (↑i : Int).toNat (0 : UInt8)).toNat : Int) == dig (↑(s.getD (IntKind.i64.wrap ((↑i : Int) - (1 : Int))).toNat (0 : UInt8)).toNat : Int) then
           some ((AX.normal, { tm := tmOf 84 [(0, AV.str s), (3, AV.row 0 3 0 n), (4, AV.bool d), (5, AV.int IntKind.i64 (↑fr : Int)), (6, AV.int IntKind.i64 (IntKind.i64.wrap ((↑i : Int) + (1 : Int))))], ms := [], hp := [some (AObj.row 3 n (rowT f))] }))
          else
           bif decide ((0 : Int) ≤ (↑fr : Int) ∧ (↑fr : Int) ≤ (↑i : Int) ∧ (↑i : Int) ≤ (↑s.length : Int)) then
            bif !dig (↑(s.getD (↑i : Int).toNat (0 : UInt8)).toNat : Int) == dig (↑(s.getD (IntKind.i64.wrap ((↑i : Int) - (1 : Int))).toNat (0 : UInt8)).toNat : Int) then
             bif decide ((0 : Int) ≤ (↑i : Int) ∧ (↑i : Int) < (↑s.length : Int)) then
              bif decide (n = n) then
               bif decide ((n + 1) * 24 ≤ 140737488355328 ∧ n + 1 ≤ 4611686018427387903) then
                bif !dig (↑(s.getD (↑i : Int).toNat (0 : UInt8)).toNat : Int) == dig (↑(s.getD (IntKind.i64.wrap ((↑i : Int) - (1 : Int))).toNat (0 : UInt8)).toNat : Int) then
                 bif partB (↑(s.getD (↑i : Int).toNat (0 : UInt8)).toNat : Int) then
                  some ((AX.normal, { tm := tmOf 84 [(0, AV.str s), (3, AV.row 0 3 0 (n + 1)), (4, AV.bool true), (5, AV.int IntKind.i64 (IntKind.i64.wrap ((↑i : Int) + (1 : Int)))), (6, AV.int IntKind.i64 (IntKind.i64.wrap ((↑i : Int) + (1 : Int))))], ms := [], hp := [some (AObj.row 3 (n + 1) (appF n (rowT f) fun i_1 => rowF 3 (over (List.map (fun i => (List.map aconst1 (Value.agg #[Value.bool false, Value.bool false, Value.string { data := #[] }]).cells.toList).getD (i % 3) AV.junk) (List.range 3)) 0 [AV.bool d, AV.bool (tokN (List.take ((↑i : Int).toNat - (↑fr : Int).toNat) (List.drop (↑fr : Int).toNat s))), AV.str (tokS (List.take ((↑i : Int).toNat - (↑fr : Int).toNat) (List.drop (↑fr : Int).toNat s)) (dig (↑(s.getD (↑i : Int).toNat (0 : UInt8)).toNat : Int)))]) (0 + i_1)))] }))
                 else
                  some ((AX.normal, { tm := tmOf 84 [(0, AV.str s), (3, AV.row 0 3 0 (n + 1)), (4, AV.bool true), (5, AV.int IntKind.i64 (↑i : Int)), (6, AV.int IntKind.i64 (IntKind.i64.wrap ((↑i : Int) + (1 : Int))))], ms := [], hp := [some (AObj.row 3 (n + 1) (appF n (rowT f) fun i_1 => rowF 3 (over (List.map (fun i => (List.map aconst1 (Value.agg #[Value.bool false, Value.bool false, Value.string { data := #[] }]).cells.toList).getD (i % 3) AV.junk) (List.range 3)) 0 [AV.bool d, AV.bool (tokN (List.take ((↑i : Int).toNat - (↑fr : Int).toNat) (List.drop (↑fr : Int).toNat s))), AV.str (tokS (List.take ((↑i : Int).toNat - (↑fr : Int).toNat) (List.drop (↑fr : Int).toNat s)) (dig (↑(s.getD (↑i : Int).toNat (0 : UInt8)).toNat : Int)))]) (0 + i_1)))] }))
                else
                 bif decide ((↑i : Int) < (↑s.length : Int)) then
                  bif decide ((0 : Int) ≤ (↑i : Int) ∧ (↑i : Int) < (↑s.length : Int)) then
                   bif partB (↑(s.getD (↑i : Int).toNat (0 : UInt8)).toNat : Int) then
                    some ((AX.normal, { tm := tmOf 84 [(0, AV.str s), (3, AV.row 0 3 0 (n + 1)), (4, AV.bool ((↑(s.getD (↑i : Int).toNat (0 : UInt8)).toNat : Int) == (45 : Int))), (5, AV.int IntKind.i64 (IntKind.i64.wrap ((↑i : Int) + (1 : Int)))), (6, AV.int IntKind.i64 (IntKind.i64.wrap ((↑i : Int) + (1 : Int))))], ms := [], hp := [some (AObj.row 3 (n + 1) (appF n (rowT f) fun i_1 => rowF 3 (over (List.map (fun i => (List.map aconst1 (Value.agg #[Value.bool false, Value.bool false, Value.string { data := #[] }]).cells.toList).getD (i % 3) AV.junk) (List.range 3)) 0 [AV.bool d, AV.bool (tokN (List.take ((↑i : Int).toNat - (↑fr : Int).toNat) (List.drop (↑fr : Int).toNat s))), AV.str (tokS (List.take ((↑i : Int).toNat - (↑fr : Int).toNat) (List.drop (↑fr : Int).toNat s)) (dig (↑(s.getD (↑i : Int).toNat (0 : UInt8)).toNat : Int)))]) (0 + i_1)))] }))
                   else
                    some ((AX.normal, { tm := tmOf 84 [(0, AV.str s), (3, AV.row 0 3 0 (n + 1)), (4, AV.bool ((↑(s.getD (↑i : Int).toNat (0 : UInt8)).toNat : Int) == (45 : Int))), (5, AV.int IntKind.i64 (↑i : Int)), (6, AV.int IntKind.i64 (IntKind.i64.wrap ((↑i : Int) + (1 : Int))))], ms := [], hp := [some (AObj.row 3 (n + 1) (appF n (rowT f) fun i_1 => rowF 3 (over (List.map (fun i => (List.map aconst1 (Value.agg #[Value.bool false, Value.bool false, Value.string { data := #[] }]).cells.toList).getD (i % 3) AV.junk) (List.range 3)) 0 [AV.bool d, AV.bool (tokN (List.take ((↑i : Int).toNat - (↑fr : Int).toNat) (List.drop (↑fr : Int).toNat s))), AV.str (tokS (List.take ((↑i : Int).toNat - (↑fr : Int).toNat) (List.drop (↑fr : Int).toNat s)) (dig (↑(s.getD (↑i : Int).toNat (0 : UInt8)).toNat : Int)))]) (0 + i_1)))] }))
                  else
                   none
                 else
                  bif partB (↑(s.getD (↑i : Int).toNat (0 : UInt8)).toNat : Int) then
                   some ((AX.normal, { tm := tmOf 84 [(0, AV.str s), (3, AV.row 0 3 0 (n + 1)), (4, AV.bool false), (5, AV.int IntKind.i64 (IntKind.i64.wrap ((↑i : Int) + (1 : Int)))), (6, AV.int IntKind.i64 (IntKind.i64.wrap ((↑i : Int) + (1 : Int))))], ms := [], hp := [some (AObj.row 3 (n + 1) (appF n (rowT f) fun i_1 => rowF 3 (over (List.map (fun i => (List.map aconst1 (Value.agg #[Value.bool false, Value.bool false, Value.string { data := #[] }]).cells.toList).getD (i % 3) AV.junk) (List.range 3)) 0 [AV.bool d, AV.bool (tokN (List.take ((↑i : Int).toNat - (↑fr : Int).toNat) (List.drop (↑fr : Int).toNat s))), AV.str (tokS (List.take ((↑i : Int).toNat - (↑fr : Int).toNat) (List.drop (↑fr : Int).toNat s)) (dig (↑(s.getD (↑i : Int).toNat (0 : UInt8)).toNat : Int)))]) (0 + i_1)))] }))
                  else
                   some ((AX.normal, { tm := tmOf 84 [(0, AV.str s), (3, AV.row 0 3 0 (n + 1)), (4, AV.bool false), (5, AV.int IntKind.i64 (↑i : Int)), (6, AV.int IntKind.i64 (IntKind.i64.wrap ((↑i : Int) + (1 : Int))))], ms := [], hp := [some (AObj.row 3 (n + 1) (appF n (rowT f) fun i_1 => rowF 3 (over (List.map (fun i => (List.map aconst1 (Value.agg #[Value.bool false, Value.bool false, Value.string { data := #[] }]).cells.toList).getD (i % 3) AV.junk) (List.range 3)) 0 [AV.bool d, AV.bool (tokN (List.take ((↑i : Int).toNat - (↑fr : Int).toNat) (List.drop (↑fr : Int).toNat s))), AV.str (tokS (List.take ((↑i : Int).toNat - (↑fr : Int).toNat) (List.drop (↑fr : Int).toNat s)) (dig (↑(s.getD (↑i : Int).toNat (0 : UInt8)).toNat : Int)))]) (0 + i_1)))] }))
               else
                none
              else
               none
             else
              none
            else
             bif decide (n = n) then
              bif decide ((n + 1) * 24 ≤ 140737488355328 ∧ n + 1 ≤ 4611686018427387903) then
               bif !dig (↑(s.getD (↑i : Int).toNat (0 : UInt8)).toNat : Int) == dig (↑(s.getD (IntKind.i64.wrap ((↑i : Int) - (1 : Int))).toNat (0 : UInt8)).toNat : Int) then
                bif partB (↑(s.getD (↑i : Int).toNat (0 : UInt8)).toNat : Int) then
                 some ((AX.normal, { tm := tmOf 84 [(0, AV.str s), (3, AV.row 0 3 0 (n + 1)), (4, AV.bool true), (5, AV.int IntKind.i64 (IntKind.i64.wrap ((↑i : Int) + (1 : Int)))), (6, AV.int IntKind.i64 (IntKind.i64.wrap ((↑i : Int) + (1 : Int))))], ms := [], hp := [some (AObj.row 3 (n + 1) (appF n (rowT f) fun i_1 => rowF 3 (over (List.map (fun i => (List.map aconst1 (Value.agg #[Value.bool false, Value.bool false, Value.string { data := #[] }]).cells.toList).getD (i % 3) AV.junk) (List.range 3)) 0 [AV.bool d, AV.bool (tokN (List.take ((↑i : Int).toNat - (↑fr : Int).toNat) (List.drop (↑fr : Int).toNat s))), AV.str (tokS (List.take ((↑i : Int).toNat - (↑fr : Int).toNat) (List.drop (↑fr : Int).toNat s)) false)]) (0 + i_1)))] }))
                else
                 some ((AX.normal, { tm := tmOf 84 [(0, AV.str s), (3, AV.row 0 3 0 (n + 1)), (4, AV.bool true), (5, AV.int IntKind.i64 (↑i : Int)), (6, AV.int IntKind.i64 (IntKind.i64.wrap ((↑i : Int) + (1 : Int))))], ms := [], hp := [some (AObj.row 3 (n + 1) (appF n (rowT f) fun i_1 => rowF 3 (over (List.map (fun i => (List.map aconst1 (Value.agg #[Value.bool false, Value.bool false, Value.string { data := #[] }]).cells.toList).getD (i % 3) AV.junk) (List.range 3)) 0 [AV.bool d, AV.bool (tokN (List.take ((↑i : Int).toNat - (↑fr : Int).toNat) (List.drop (↑fr : Int).toNat s))), AV.str (tokS (List.take ((↑i : Int).toNat - (↑fr : Int).toNat) (List.drop (↑fr : Int).toNat s)) false)]) (0 + i_1)))] }))
               else
                bif decide ((↑i : Int) < (↑s.length : Int)) then
                 bif decide ((0 : Int) ≤ (↑i : Int) ∧ (↑i : Int) < (↑s.length : Int)) then
                  bif partB (↑(s.getD (↑i : Int).toNat (0 : UInt8)).toNat : Int) then
                   some ((AX.normal, { tm := tmOf 84 [(0, AV.str s), (3, AV.row 0 3 0 (n + 1)), (4, AV.bool ((↑(s.getD (↑i : Int).toNat (0 : UInt8)).toNat : Int) == (45 : Int))), (5, AV.int IntKind.i64 (IntKind.i64.wrap ((↑i : Int) + (1 : Int)))), (6, AV.int IntKind.i64 (IntKind.i64.wrap ((↑i : Int) + (1 : Int))))], ms := [], hp := [some (AObj.row 3 (n + 1) (appF n (rowT f) fun i_1 => rowF 3 (over (List.map (fun i => (List.map aconst1 (Value.agg #[Value.bool false, Value.bool false, Value.string { data := #[] }]).cells.toList).getD (i % 3) AV.junk) (List.range 3)) 0 [AV.bool d, AV.bool (tokN (List.take ((↑i : Int).toNat - (↑fr : Int).toNat) (List.drop (↑fr : Int).toNat s))), AV.str (tokS (List.take ((↑i : Int).toNat - (↑fr : Int).toNat) (List.drop (↑fr : Int).toNat s)) false)]) (0 + i_1)))] }))
                  else
                   some ((AX.normal, { tm := tmOf 84 [(0, AV.str s), (3, AV.row 0 3 0 (n + 1)), (4, AV.bool ((↑(s.getD (↑i : Int).toNat (0 : UInt8)).toNat : Int) == (45 : Int))), (5, AV.int IntKind.i64 (↑i : Int)), (6, AV.int IntKind.i64 (IntKind.i64.wrap ((↑i : Int) + (1 : Int))))], ms := [], hp := [some (AObj.row 3 (n + 1) (appF n (rowT f) fun i_1 => rowF 3 (over (List.map (fun i => (List.map aconst1 (Value.agg #[Value.bool false, Value.bool false, Value.string { data := #[] }]).cells.toList).getD (i % 3) AV.junk) (List.range 3)) 0 [AV.bool d, AV.bool (tokN (List.take ((↑i : Int).toNat - (↑fr : Int).toNat) (List.drop (↑fr : Int).toNat s))), AV.str (tokS (List.take ((↑i : Int).toNat - (↑fr : Int).toNat) (List.drop (↑fr : Int).toNat s)) false)]) (0 + i_1)))] }))
                 else
                  none
                else
                 bif partB (↑(s.getD (↑i : Int).toNat (0 : UInt8)).toNat : Int) then
                  some ((AX.normal, { tm := tmOf 84 [(0, AV.str s), (3, AV.row 0 3 0 (n + 1)), (4, AV.bool false), (5, AV.int IntKind.i64 (IntKind.i64.wrap ((↑i : Int) + (1 : Int)))), (6, AV.int IntKind.i64 (IntKind.i64.wrap ((↑i : Int) + (1 : Int))))], ms := [], hp := [some (AObj.row 3 (n + 1) (appF n (rowT f) fun i_1 => rowF 3 (over (List.map (fun i => (List.map aconst1 (Value.agg #[Value.bool false, Value.bool false, Value.string { data := #[] }]).cells.toList).getD (i % 3) AV.junk) (List.range 3)) 0 [AV.bool d, AV.bool (tokN (List.take ((↑i : Int).toNat - (↑fr : Int).toNat) (List.drop (↑fr : Int).toNat s))), AV.str (tokS (List.take ((↑i : Int).toNat - (↑fr : Int).toNat) (List.drop (↑fr : Int).toNat s)) false)]) (0 + i_1)))] }))
                 else
                  some ((AX.normal, { tm := tmOf 84 [(0, AV.str s), (3, AV.row 0 3 0 (n + 1)), (4, AV.bool false), (5, AV.int IntKind.i64 (↑i : Int)), (6, AV.int IntKind.i64 (IntKind.i64.wrap ((↑i : Int) + (1 : Int))))], ms := [], hp := [some (AObj.row 3 (n + 1) (appF n (rowT f) fun i_1 => rowF 3 (over (List.map (fun i => (List.map aconst1 (Value.agg #[Value.bool false, Value.bool false, Value.string { data := #[] }]).cells.toList).getD (i % 3) AV.junk) (List.range 3)) 0 [AV.bool d, AV.bool (tokN (List.take ((↑i : Int).toNat - (↑fr : Int).toNat) (List.drop (↑fr : Int).toNat s))), AV.str (tokS (List.take ((↑i : Int).toNat - (↑fr : Int).toNat) (List.drop (↑fr : Int).toNat s)) false)]) (0 + i_1)))] }))
              else
               none
             else
              none
           else
            none
         else
          bif decide ((0 : Int) ≤ (↑fr : Int) ∧ (↑fr : Int) ≤ (↑i : Int) ∧ (↑i : Int) ≤ (↑s.length : Int)) then
           bif !dig (↑(s.getD (↑i : Int).toNat (0 : UInt8)).toNat : Int) == dig (↑(s.getD (IntKind.i64.wrap ((↑i : Int) - (1 : Int))).toNat (0 : UInt8)).toNat : Int) then
            bif decide ((0 : Int) ≤ (↑i : Int) ∧ (↑i : Int) < (↑s.length : Int)) then
             bif decide (n = n) then
              bif decide ((n + 1) * 24 ≤ 140737488355328 ∧ n + 1 ≤ 4611686018427387903) then
               bif !dig (↑(s.getD (↑i : Int).toNat (0 : UInt8)).toNat : Int) == dig (↑(s.getD (IntKind.i64.wrap ((↑i : Int) - (1 : Int))).toNat (0 : UInt8)).toNat : Int) then
                bif partB (↑(s.getD (↑i : Int).toNat (0 : UInt8)).toNat : Int) then
                 some ((AX.normal, { tm := tmOf 84 [(0, AV.str s), (3, AV.row 0 3 0 (n + 1)), (4, AV.bool true), (5, AV.int IntKind.i64 (IntKind.i64.wrap ((↑i : Int) + (1 : Int)))), (6, AV.int IntKind.i64 (IntKind.i64.wrap ((↑i : Int) + (1 : Int))))], ms := [], hp := [some (AObj.row 3 (n + 1) (appF n (rowT f) fun i_1 => rowF 3 (over (List.map (fun i => (List.map aconst1 (Value.agg #[Value.bool false, Value.bool false, Value.string { data := #[] }]).cells.toList).getD (i % 3) AV.junk) (List.range 3)) 0 [AV.bool d, AV.bool (tokN (List.take ((↑i : Int).toNat - (↑fr : Int).toNat) (List.drop (↑fr : Int).toNat s))), AV.str (tokS (List.take ((↑i : Int).toNat - (↑fr : Int).toNat) (List.drop (↑fr : Int).toNat s)) (dig (↑(s.getD (↑i : Int).toNat (0 : UInt8)).toNat : Int)))]) (0 + i_1)))] }))
                else
                 some ((AX.normal, { tm := tmOf 84 [(0, AV.str s), (3, AV.row 0 3 0 (n + 1)), (4, AV.bool true), (5, AV.int IntKind.i64 (↑i : Int)), (6, AV.int IntKind.i64 (IntKind.i64.wrap ((↑i : Int) + (1 : Int))))], ms := [], hp := [some (AObj.row 3 (n + 1) (appF n (rowT f) fun i_1 => rowF 3 (over (List.map (fun i => (List.map aconst1 (Value.agg #[Value.bool false, Value.bool false, Value.string { data := #[] }]).cells.toList).getD (i % 3) AV.junk) (List.range 3)) 0 [AV.bool d, AV.bool (tokN (List.take ((↑i : Int).toNat - (↑fr : Int).toNat) (List.drop (↑fr : Int).toNat s))), AV.str (tokS (List.take ((↑i : Int).toNat - (↑fr : Int).toNat) (List.drop (↑fr : Int).toNat s)) (dig (↑(s.getD (↑i : Int).toNat (0 : UInt8)).toNat : Int)))]) (0 + i_1)))] }))
               else
                bif decide ((↑i : Int) < (↑s.length : Int)) then
                 bif decide ((0 : Int) ≤ (↑i : Int) ∧ (↑i : Int) < (↑s.length : Int)) then
                  bif partB (↑(s.getD (↑i : Int).toNat (0 : UInt8)).toNat : Int) then
                   some ((AX.normal, { tm := tmOf 84 [(0, AV.str s), (3, AV.row 0 3 0 (n + 1)), (4, AV.bool ((↑(s.getD (↑i : Int).toNat (0 : UInt8)).toNat : Int) == (45 : Int))), (5, AV.int IntKind.i64 (IntKind.i64.wrap ((↑i : Int) + (1 : Int)))), (6, AV.int IntKind.i64 (IntKind.i64.wrap ((↑i : Int) + (1 : Int))))], ms := [], hp := [some (AObj.row 3 (n + 1) (appF n (rowT f) fun i_1 => rowF 3 (over (List.map (fun i => (List.map aconst1 (Value.agg #[Value.bool false, Value.bool false, Value.string { data := #[] }]).cells.toList).getD (i % 3) AV.junk) (List.range 3)) 0 [AV.bool d, AV.bool (tokN (List.take ((↑i : Int).toNat - (↑fr : Int).toNat) (List.drop (↑fr : Int).toNat s))), AV.str (tokS (List.take ((↑i : Int).toNat - (↑fr : Int).toNat) (List.drop (↑fr : Int).toNat s)) (dig (↑(s.getD (↑i : Int).toNat (0 : UInt8)).toNat : Int)))]) (0 + i_1)))] }))
                  else
                   some ((AX.normal, { tm := tmOf 84 [(0, AV.str s), (3, AV.row 0 3 0 (n + 1)), (4, AV.bool ((↑(s.getD (↑i : Int).toNat (0 : UInt8)).toNat : Int) == (45 : Int))), (5, AV.int IntKind.i64 (↑i : Int)), (6, AV.int IntKind.i64 (IntKind.i64.wrap ((↑i : Int) + (1 : Int))))], ms := [], hp := [some (AObj.row 3 (n + 1) (appF n (rowT f) fun i_1 => rowF 3 (over (List.map (fun i => (List.map aconst1 (Value.agg #[Value.bool false, Value.bool false, Value.string { data := #[] }]).cells.toList).getD (i % 3) AV.junk) (List.range 3)) 0 [AV.bool d, AV.bool (tokN (List.take ((↑i : Int).toNat - (↑fr : Int).toNat) (List.drop (↑fr : Int).toNat s))), AV.str (tokS (List.take ((↑i : Int).toNat - (↑fr : Int).toNat) (List.drop (↑fr : Int).toNat s)) (dig (↑(s.getD (↑i : Int).toNat (0 : UInt8)).toNat : Int)))]) (0 + i_1)))] }))
                 else
                  none
                else
                 bif partB (↑(s.getD (↑i : Int).toNat (0 : UInt8)).toNat : Int) then
                  some ((AX.normal, { tm := tmOf 84 [(0, AV.str s), (3, AV.row 0 3 0 (n + 1)), (4, AV.bool false), (5, AV.int IntKind.i64 (IntKind.i64.wrap ((↑i : Int) + (1 : Int)))), (6, AV.int IntKind.i64 (IntKind.i64.wrap ((↑i : Int) + (1 : Int))))], ms := [], hp := [some (AObj.row 3 (n + 1) (appF n (rowT f) fun i_1 => rowF 3 (over (List.map (fun i => (List.map aconst1 (Value.agg #[Value.bool false, Value.bool false, Value.string { data := #[] }]).cells.toList).getD (i % 3) AV.junk) (List.range 3)) 0 [AV.bool d, AV.bool (tokN (List.take ((↑i : Int).toNat - (↑fr : Int).toNat) (List.drop (↑fr : Int).toNat s))), AV.str (tokS (List.take ((↑i : Int).toNat - (↑fr : Int).toNat) (List.drop (↑fr : Int).toNat s)) (dig (↑(s.getD (↑i : Int).toNat (0 : UInt8)).toNat : Int)))]) (0 + i_1)))] }))
                 else
                  some ((AX.normal, { tm := tmOf 84 [(0, AV.str s), (3, AV.row 0 3 0 (n + 1)), (4, AV.bool false), (5, AV.int IntKind.i64 (↑i : Int)), (6, AV.int IntKind.i64 (IntKind.i64.wrap ((↑i : Int) + (1 : Int))))], ms := [], hp := [some (AObj.row 3 (n + 1) (appF n (rowT f) fun i_1 => rowF 3 (over (List.map (fun i => (List.map aconst1 (Value.agg #[Value.bool false, Value.bool false, Value.string { data := #[] }]).cells.toList).getD (i % 3) AV.junk) (List.range 3)) 0 [AV.bool d, AV.bool (tokN (List.take ((↑i : Int).toNat - (↑fr : Int).toNat) (List.drop (↑fr : Int).toNat s))), AV.str (tokS (List.take ((↑i : Int).toNat - (↑fr : Int).toNat) (List.drop (↑fr : Int).toNat s)) (dig (↑(s.getD (↑i : Int).toNat (0 : UInt8)).toNat : Int)))]) (0 + i_1)))] }))
              else
               none
             else
              none
            else
             none
           else
            bif decide (n = n) then
             bif decide ((n + 1) * 24 ≤ 140737488355328 ∧ n + 1 ≤ 4611686018427387903) then
              bif !dig (↑(s.getD (↑i : Int).toNat (0 : UInt8)).toNat : Int) == dig (↑(s.getD (IntKind.i64.wrap ((↑i : Int) - (1 : Int))).toNat (0 : UInt8)).toNat : Int) then
               bif partB (↑(s.getD (↑i : Int).toNat (0 : UInt8)).toNat : Int) then
                some ((AX.normal, { tm := tmOf 84 [(0, AV.str s), (3, AV.row 0 3 0 (n + 1)), (4, AV.bool true), (5, AV.int IntKind.i64 (IntKind.i64.wrap ((↑i : Int) + (1 : Int)))), (6, AV.int IntKind.i64 (IntKind.i64.wrap ((↑i : Int) + (1 : Int))))], ms := [], hp := [some (AObj.row 3 (n + 1) (appF n (rowT f) fun i_1 => rowF 3 (over (List.map (fun i => (List.map aconst1 (Value.agg #[Value.bool false, Value.bool false, Value.string { data := #[] }]).cells.toList).getD (i % 3) AV.junk) (List.range 3)) 0 [AV.bool d, AV.bool (tokN (List.take ((↑i : Int).toNat - (↑fr : Int).toNat) (List.drop (↑fr : Int).toNat s))), AV.str (tokS (List.take ((↑i : Int).toNat - (↑fr : Int).toNat) (List.drop (↑fr : Int).toNat s)) false)]) (0 + i_1)))] }))
               else
                some ((AX.normal, { tm := tmOf 84 [(0, AV.str s), (3, AV.row 0 3 0 (n + 1)), (4, AV.bool true), (5, AV.int IntKind.i64 (↑i : Int)), (6, AV.int IntKind.i64 (IntKind.i64.wrap ((↑i : Int) + (1 : Int))))], ms := [], hp := [some (AObj.row 3 (n + 1) (appF n (rowT f) fun i_1 => rowF 3 (over (List.map (fun i => (List.map aconst1 (Value.agg #[Value.bool false, Value.bool false, Value.string { data := #[] }]).cells.toList).getD (i % 3) AV.junk) (List.range 3)) 0 [AV.bool d, AV.bool (tokN (List.take ((↑i : Int).toNat - (↑fr : Int).toNat) (List.drop (↑fr : Int).toNat s))), AV.str (tokS (List.take ((↑i : Int).toNat - (↑fr : Int).toNat) (List.drop (↑fr : Int).toNat s)) false)]) (0 + i_1)))] }))
              else
               bif decide ((↑i : Int) < (↑s.length : Int)) then
                bif decide ((0 : Int) ≤ (↑i : Int) ∧ (↑i : Int) < (↑s.length : Int)) then
                 bif partB (↑(s.getD (↑i : Int).toNat (0 : UInt8)).toNat : Int) then
                  some ((AX.normal, { tm := tmOf 84 [(0, AV.str s), (3, AV.row 0 3 0 (n + 1)), (4, AV.bool ((↑(s.getD (↑i : Int).toNat (0 : UInt8)).toNat : Int) == (45 : Int))), (5, AV.int IntKind.i64 (IntKind.i64.wrap ((↑i : Int) + (1 : Int)))), (6, AV.int IntKind.i64 (IntKind.i64.wrap ((↑i : Int) + (1 : Int))))], ms := [], hp := [some (AObj.row 3 (n + 1) (appF n (rowT f) fun i_1 => rowF 3 (over (List.map (fun i => (List.map aconst1 (Value.agg #[Value.bool false, Value.bool false, Value.string { data := #[] }]).cells.toList).getD (i % 3) AV.junk) (List.range 3)) 0 [AV.bool d, AV.bool (tokN (List.take ((↑i : Int).toNat - (↑fr : Int).toNat) (List.drop (↑fr : Int).toNat s))), AV.str (tokS (List.take ((↑i : Int).toNat - (↑fr : Int).toNat) (List.drop (↑fr : Int).toNat s)) false)]) (0 + i_1)))] }))
                 else
                  some ((AX.normal, { tm := tmOf 84 [(0, AV.str s), (3, AV.row 0 3 0 (n + 1)), (4, AV.bool ((↑(s.getD (↑i : Int).toNat (0 : UInt8)).toNat : Int) == (45 : Int))), (5, AV.int IntKind.i64 (↑i : Int)), (6, AV.int IntKind.i64 (IntKind.i64.wrap ((↑i : Int) + (1 : Int))))], ms := [], hp := [some (AObj.row 3 (n + 1) (appF n (rowT f) fun i_1 => rowF 3 (over (List.map (fun i => (List.map aconst1 (Value.agg #[Value.bool false, Value.bool false, Value.string { data := #[] }]).cells.toList).getD (i % 3) AV.junk) (List.range 3)) 0 [AV.bool d, AV.bool (tokN (List.take ((↑i : Int).toNat - (↑fr : Int).toNat) (List.drop (↑fr : Int).toNat s))), AV.str (tokS (List.take ((↑i : Int).toNat - (↑fr : Int).toNat) (List.drop (↑fr : Int).toNat s)) false)]) (0 + i_1)))] }))
                else
                 none
               else
                bif partB (↑(s.getD (↑i : Int).toNat (0 : UInt8)).toNat : Int) then
                 some ((AX.normal, { tm := tmOf 84 [(0, AV.str s), (3, AV.row 0 3 0 (n + 1)), (4, AV.bool false), (5, AV.int IntKind.i64 (IntKind.i64.wrap ((↑i : Int) + (1 : Int)))), (6, AV.int IntKind.i64 (IntKind.i64.wrap ((↑i : Int) + (1 : Int))))], ms := [], hp := [some (AObj.row 3 (n + 1) (appF n (rowT f) fun i_1 => rowF 3 (over (List.map (fun i => (List.map aconst1 (Value.agg #[Value.bool false, Value.bool false, Value.string { data := #[] }]).cells.toList).getD (i % 3) AV.junk) (List.range 3)) 0 [AV.bool d, AV.bool (tokN (List.take ((↑i : Int).toNat - (↑fr : Int).toNat) (List.drop (↑fr : Int).toNat s))), AV.str (tokS (List.take ((↑i : Int).toNat - (↑fr : Int).toNat) (List.drop (↑fr : Int).toNat s)) false)]) (0 + i_1)))] }))
                else
                 some ((AX.normal, { tm := tmOf 84 [(0, AV.str s), (3, AV.row 0 3 0 (n + 1)), (4, AV.bool false), (5, AV.int IntKind.i64 (↑i : Int)), (6, AV.int IntKind.i64 (IntKind.i64.wrap ((↑i : Int) + (1 : Int))))], ms := [], hp := [some (AObj.row 3 (n + 1) (appF n (rowT f) fun i_1 => rowF 3 (over (List.map (fun i => (List.map aconst1 (Value.agg #[Value.bool false, Value.bool false, Value.string { data := #[] }]).cells.toList).getD (i % 3) AV.junk) (List.range 3)) 0 [AV.bool d, AV.bool (tokN (List.take ((↑i : Int).toNat - (↑fr : Int).toNat) (List.drop (↑fr : Int).toNat s))), AV.str (tokS (List.take ((↑i : Int).toNat - (↑fr : Int).toNat) (List.drop (↑fr : Int).toNat s)) false)]) (0 + i_1)))] }))
             else
              none
            else
             none
          else
           none
        else
         none
       else
        none
      else
       bif !partB (↑(s.getD (↑i : Int).toNat (0 : UInt8)).toNat : Int) then
        some ((AX.normal, { tm := tmOf 84 [(0, AV.str s), (3, AV.row 0 3 0 n), (4, AV.bool d), (5, AV.int IntKind.i64 (↑fr : Int)), (6, AV.int IntKind.i64 (IntKind.i64.wrap ((↑i : Int) + (1 : Int))))], ms := [], hp := [some (AObj.row 3 n (rowT f))] }))
       else
        bif decide ((0 : Int) ≤ (↑fr : Int) ∧ (↑fr : Int) ≤ (↑i : Int) ∧ (↑i : Int) ≤ (↑s.length : Int)) then
         bif decide (n = n) then
          bif decide ((n + 1) * 24 ≤ 140737488355328 ∧ n + 1 ≤ 4611686018427387903) then
           bif decide ((↑i : Int) < (↑s.length : Int)) then
            bif decide ((0 : Int) ≤ (↑i : Int) ∧ (↑i : Int) < (↑s.length : Int)) then
             bif partB (↑(s.getD (↑i : Int).toNat (0 : UInt8)).toNat : Int) then
              some ((AX.normal, { tm := tmOf 84 [(0, AV.str s), (3, AV.row 0 3 0 (n + 1)), (4, AV.bool ((↑(s.getD (↑i : Int).toNat (0 : UInt8)).toNat : Int) == (45 : Int))), (5, AV.int IntKind.i64 (IntKind.i64.wrap ((↑i : Int) + (1 : Int)))), (6, AV.int IntKind.i64 (IntKind.i64.wrap ((↑i : Int) + (1 : Int))))], ms := [], hp := [some (AObj.row 3 (n + 1) (appF n (rowT f) fun i_1 => rowF 3 (over (List.map (fun i => (List.map aconst1 (Value.agg #[Value.bool false, Value.bool false, Value.string { data := #[] }]).cells.toList).getD (i % 3) AV.junk) (List.range 3)) 0 [AV.bool d, AV.bool (tokN (List.take ((↑i : Int).toNat - (↑fr : Int).toNat) (List.drop (↑fr : Int).toNat s))), AV.str (tokS (List.take ((↑i : Int).toNat - (↑fr : Int).toNat) (List.drop (↑fr : Int).toNat s)) false)]) (0 + i_1)))] }))
             else
              some ((AX.normal, { tm := tmOf 84 [(0, AV.str s), (3, AV.row 0 3 0 (n + 1)), (4, AV.bool ((↑(s.getD (↑i : Int).toNat (0 : UInt8)).toNat : Int) == (45 : Int))), (5, AV.int IntKind.i64 (↑i : Int)), (6, AV.int IntKind.i64 (IntKind.i64.wrap ((↑i : Int) + (1 : Int))))], ms := [], hp := [some (AObj.row 3 (n + 1) (appF n (rowT f) fun i_1 => rowF 3 (over (List.map (fun i => (List.map aconst1 (Value.agg #[Value.bool false, Value.bool false, Value.string { data := #[] }]).cells.toList).getD (i % 3) AV.junk) (List.range 3)) 0 [AV.bool d, AV.bool (tokN (List.take ((↑i : Int).toNat - (↑fr : Int).toNat) (List.drop (↑fr : Int).toNat s))), AV.str (tokS (List.take ((↑i : Int).toNat - (↑fr : Int).toNat) (List.drop (↑fr : Int).toNat s)) false)]) (0 + i_1)))] }))
            else
             none
           else
            bif partB (↑(s.getD (↑i : Int).toNat (0 : UInt8)).toNat : Int) then
             some ((AX.normal, { tm := tmOf 84 [(0, AV.str s), (3, AV.row 0 3 0 (n + 1)), (4, AV.bool false), (5, AV.int IntKind.i64 (IntKind.i64.wrap ((↑i : Int) + (1 : Int)))), (6, AV.int IntKind.i64 (IntKind.i64.wrap ((↑i : Int) + (1 : Int))))], ms := [], hp := [some (AObj.row 3 (n + 1) (appF n (rowT f) fun i_1 => rowF 3 (over (List.map (fun i => (List.map aconst1 (Value.agg #[Value.bool false, Value.bool false, Value.string { data := #[] }]).cells.toList).getD (i % 3) AV.junk) (List.range 3)) 0 [AV.bool d, AV.bool (tokN (List.take ((↑i : Int).toNat - (↑fr : Int).toNat) (List.drop (↑fr : Int).toNat s))), AV.str (tokS (List.take ((↑i : Int).toNat - (↑fr : Int).toNat) (List.drop (↑fr : Int).toNat s)) false)]) (0 + i_1)))] }))
            else
             some ((AX.normal, { tm := tmOf 84 [(0, AV.str s), (3, AV.row 0 3 0 (n + 1)), (4, AV.bool false), (5, AV.int IntKind.i64 (↑i : Int)), (6, AV.int IntKind.i64 (IntKind.i64.wrap ((↑i : Int) + (1 : Int))))], ms := [], hp := [some (AObj.row 3 (n + 1) (appF n (rowT f) fun i_1 => rowF 3 (over (List.map (fun i => (List.map aconst1 (Value.agg #[Value.bool false, Value.bool false, Value.string { data := #[] }]).cells.toList).getD (i % 3) AV.junk) (List.range 3)) 0 [AV.bool d, AV.bool (tokN (List.take ((↑i : Int).toNat - (↑fr : Int).toNat) (List.drop (↑fr : Int).toNat s))), AV.str (tokS (List.take ((↑i : Int).toNat - (↑fr : Int).toNat) (List.drop (↑fr : Int).toNat s)) false)]) (0 + i_1)))] }))
          else
           none
         else
          none
        else
         none
     else
      bif !partB (↑(s.getD (↑i : Int).toNat (0 : UInt8)).toNat : Int) then
       some ((AX.normal, { tm := tmOf 84 [(0, AV.str s), (3, AV.row 0 3 0 n), (4, AV.bool d), (5, AV.int IntKind.i64 (↑fr : Int)), (6, AV.int IntKind.i64 (IntKind.i64.wrap ((↑i : Int) + (1 : Int))))], ms := [], hp := [some (AObj.row 3 n (rowT f))] }))
      else
       bif decide ((0 : Int) ≤ (↑fr : Int) ∧ (↑fr : Int) ≤ (↑i : Int) ∧ (↑i : Int) ≤ (↑s.length : Int)) then
        bif decide (n = n) then
         bif decide ((n + 1) * 24 ≤ 140737488355328 ∧ n + 1 ≤ 4611686018427387903) then
          bif decide ((↑i : Int) < (↑s.length : Int)) then
           bif decide ((0 : Int) ≤ (↑i : Int) ∧ (↑i : Int) < (↑s.length : Int)) then
            bif partB (↑(s.getD (↑i : Int).toNat (0 : UInt8)).toNat : Int) then
             some ((AX.normal, { tm := tmOf 84 [(0, AV.str s), (3, AV.row 0 3 0 (n + 1)), (4, AV.bool ((↑(s.getD (↑i : Int).toNat (0 : UInt8)).toNat : Int) == (45 : Int))), (5, AV.int IntKind.i64 (IntKind.i64.wrap ((↑i : Int) + (1 : Int)))), (6, AV.int IntKind.i64 (IntKind.i64.wrap ((↑i : Int) + (1 : Int))))], ms := [], hp := [some (AObj.row 3 (n + 1) (appF n (rowT f) fun i_1 => rowF 3 (over (List.map (fun i => (List.map aconst1 (Value.agg #[Value.bool false, Value.bool false, Value.string { data := #[] }]).cells.toList).getD (i % 3) AV.junk) (List.range 3)) 0 [AV.bool d, AV.bool (tokN (List.take ((↑i : Int).toNat - (↑fr : Int).toNat) (List.drop (↑fr : Int).toNat s))), AV.str (tokS (List.take ((↑i : Int).toNat - (↑fr : Int).toNat) (List.drop (↑fr : Int).toNat s)) false)]) (0 + i_1)))] }))
            else
             some ((AX.normal, { tm := tmOf 84 [(0, AV.str s), (3, AV.row 0 3 0 (n + 1)), (4, AV.bool ((↑(s.getD (↑i : Int).toNat (0 : UInt8)).toNat : Int) == (45 : Int))), (5, AV.int IntKind.i64 (↑i : Int)), (6, AV.int IntKind.i64 (IntKind.i64.wrap ((↑i : Int) + (1 : Int))))], ms := [], hp := [some (AObj.row 3 (n + 1) (appF n (rowT f) fun i_1 => rowF 3 (over (List.map (fun i => (List.map aconst1 (Value.agg #[Value.bool false, Value.bool false, Value.string { data := #[] }]).cells.toList).getD (i % 3) AV.junk) (List.range 3)) 0 [AV.bool d, AV.bool (tokN (List.take ((↑i : Int).toNat - (↑fr : Int).toNat) (List.drop (↑fr : Int).toNat s))), AV.str (tokS (List.take ((↑i : Int).toNat - (↑fr : Int).toNat) (List.drop (↑fr : Int).toNat s)) false)]) (0 + i_1)))] }))
           else
            none
          else
           bif partB (↑(s.getD (↑i : Int).toNat (0 : UInt8)).toNat : Int) then
            some ((AX.normal, { tm := tmOf 84 [(0, AV.str s), (3, AV.row 0 3 0 (n + 1)), (4, AV.bool false), (5, AV.int IntKind.i64 (IntKind.i64.wrap ((↑i : Int) + (1 : Int)))), (6, AV.int IntKind.i64 (IntKind.i64.wrap ((↑i : Int) + (1 : Int))))], ms := [], hp := [some (AObj.row 3 (n + 1) (appF n (rowT f) fun i_1 => rowF 3 (over (List.map (fun i => (List.map aconst1 (Value.agg #[Value.bool false, Value.bool false, Value.string { data := #[] }]).cells.toList).getD (i % 3) AV.junk) (List.range 3)) 0 [AV.bool d, AV.bool (tokN (List.take ((↑i : Int).toNat - (↑fr : Int).toNat) (List.drop (↑fr : Int).toNat s))), AV.str (tokS (List.take ((↑i : Int).toNat - (↑fr : Int).toNat) (List.drop (↑fr : Int).toNat s)) false)]) (0 + i_1)))] }))
           else
            some ((AX.normal, { tm := tmOf 84 [(0, AV.str s), (3, AV.row 0 3 0 (n + 1)), (4, AV.bool false), (5, AV.int IntKind.i64 (↑i : Int)), (6, AV.int IntKind.i64 (IntKind.i64.wrap ((↑i : Int) + (1 : Int))))], ms := [], hp := [some (AObj.row 3 (n + 1) (appF n (rowT f) fun i_1 => rowF 3 (over (List.map (fun i => (List.map aconst1 (Value.agg #[Value.bool false, Value.bool false, Value.string { data := #[] }]).cells.toList).getD (i % 3) AV.junk) (List.range 3)) 0 [AV.bool d, AV.bool (tokN (List.take ((↑i : Int).toNat - (↑fr : Int).toNat) (List.drop (↑fr : Int).toNat s))), AV.str (tokS (List.take ((↑i : Int).toNat - (↑fr : Int).toNat) (List.drop (↑fr : Int).toNat s)) false)]) (0 + i_1)))] }))
         else
          none
        else
         none
       else
        none
    else
     none
  else
   some ((AX.exit 0, { tm := tmOf 84 [(0, AV.str s), (3, AV.row 0 3 0 n), (4, AV.bool d), (5, AV.int IntKind.i64 (↑fr : Int)), (6, AV.int IntKind.i64 (↑i : Int)), (12, AV.bool false)], ms := [], hp := [some (AObj.row 3 n (rowT f))] })) := by kernel_rfl

theorem w64d {i : Nat} (h : 0 < i) (h2 : i < 9223372036854775807) : IntKind.i64.wrap ((i : Int) - 1) = ((i - 1 : Nat) : Int) := by rw [w64 (by omega) (by omega)]; omega

theorem w64t {i : Nat} (h : i < 9223372036854775807) : IntKind.i64.wrap ((i : Int) + 1) = ((i + 1 : Nat) : Int) := w64n h

def st58 (s : List UInt8) (L : List Tok) (d : Bool) (fr i : Nat) : St := { tm := encGo (mbits 121 84) [.str s, rAL L, .bool d, .int .i64 fr, .int .i64 i], ms := [], hp := rHL L }

def next58 (s : List UInt8) (L : List Tok) (d : Bool) (fr i : Nat) : St :=
  if i < kN s fr then st58 s L d fr (i + 1) else
  if kN s fr < s.length then st58 s (L ++ [tokAt s d fr]) (nextB s (kN s fr)) (nextA s (kN s fr)) (kN s fr + 1)
  else st58 s (L ++ [tokAt s d fr]) false (s.length + 1) (s.length + 1)

theorem rAL_push (L : List Tok) (t : Tok) : rAL (L ++ [t]) = .row 0 3 0 (L.length + 1) := by
  cases L with
  | nil => rfl
  | cons u r => show AV.row 0 3 0 ((r ++ [t]).length + 1) = _; rw [List.length_append]; rfl

theorem rHL_push (L : List Tok) (t : Tok) : rHL (L ++ [t]) = [some (.row 3 (L.length + 1) (rowT (fnL (L ++ [t]))))] := by
  cases L with
  | nil => rfl
  | cons u r => show [some (AObj.row 3 ((r ++ [t]).length + 1) (rowT (fnL (u :: (r ++ [t])))))] = _; rw [List.length_append]; rfl

theorem len_ne {i n : Nat} (h : i ≠ n) : ((i : Int) == (n : Int)) = false := by rw [nat_beqI]; simpa using h

theorem len_eq (n : Nat) : ((n : Int) == (n : Int)) = true := by simp

theorem round58 (s : List UInt8) (L : List Tok) (d : Bool) (fr i : Nat) (h0 : fr ≤ i) (h1 : i ≤ kN s fr) (h2 : fr ≤ s.length) (h3 : s.length ≤ 1000) (h4 : L.length ≤ 2000) :
    (rdn tabX4 h58 noLoops 58 0 0 (st58 s L d fr i)).run = some (.normal, next58 s L d fr i) := by
  have hk := kN_le' h2
  have hg := goOn_kN h0 h1
  have hround : (rdn tabX4 h58 noLoops 58 0 0 (st58 s L d fr i)).run = match L with
    | [] => (rdn tabX4 h58 noLoops 58 0 0 { tm := encGo (mbits 121 84) [.str s, .nilsl, .bool d, .int .i64 fr, .int .i64 i], ms := [], hp := [] }).run
    | t :: r => (rdn tabX4 h58 noLoops 58 0 0 { tm := encGo (mbits 121 84) [.str s, .row 0 3 0 (r.length + 1), .bool d, .int .i64 fr, .int .i64 i], ms := [], hp := [some (.row 3 (r.length + 1) (rowT (fnL (t :: r))))] }).run := by
    cases L <;> rfl
  rw [hround]
  have hrow : ∀ (t0 : Tok) (r : List Tok) (t : Tok) (l : List AV), l = [.bool t.dash, .bool t.num, .str t.text] → appF (r.length + 1) (rowT (fnL (t0 :: r))) (fun i => rowF 3 l (0 + i)) = rowT (fnL ((t0 :: r) ++ [t])) := fun t0 r t l hl => by
    rw [appF_row hl, ← fnL_push]; rfl
  by_cases hi : i < kN s fr
  · rw [decide_eq_true hi] at hg
    unfold goOn at hg
    simp only [Bool.and_eq_true, decide_eq_true_eq, Bool.not_eq_true', Bool.and_eq_false_iff, decide_eq_false_iff_not] at hg
    obtain ⟨hl, hp, hd⟩ := hg
    have hp' : partB ((s.getD i 0).toNat : Int) = false := hp
    have hn : next58 s L d fr i = st58 s L d fr (i + 1) := by unfold next58; rw [if_pos hi]
    rw [hn]
    by_cases hf : fr < i
    · have hd' : (dig ((s.getD i 0).toNat : Int) == dig ((s.getD (i - 1) 0).toNat : Int)) = true := by
        rcases hd with hd | hd
        · exact absurd hf hd
        · have hd : (digC (s.getD i 0) == digC (s.getD (i - 1) 0)) = true := by simpa using hd
          exact hd
      cases L with
      | nil =>
        refine (qA58 s i fr d).trans ?_
        simp (disch := omega) only [decT, decF, cond_true, cond_false, len_ne, hp', Bool.not_false, Int.toNat_natCast, w64d, w64t, hd', Bool.not_true]
        rfl
      | cons t r =>
        refine (qB58 s (r.length + 1) i fr d (fnL (t :: r))).trans ?_
        simp (disch := omega) only [decT, decF, cond_true, cond_false, len_ne, hp', Bool.not_false, Int.toNat_natCast, w64d, w64t, hd', Bool.not_true]
        rfl
    · cases L with
      | nil =>
        refine (qA58 s i fr d).trans ?_
        simp (disch := omega) only [decT, decF, cond_true, cond_false, len_ne, hp', Bool.not_false, Int.toNat_natCast, w64t, Bool.not_true]
        rfl
      | cons t r =>
        refine (qB58 s (r.length + 1) i fr d (fnL (t :: r))).trans ?_
        simp (disch := omega) only [decT, decF, cond_true, cond_false, len_ne, hp', Bool.not_false, Int.toNat_natCast, w64t, Bool.not_true]
        rfl
  · obtain rfl : i = kN s fr := by omega
    rw [decide_eq_false hi] at hg
    by_cases hl : kN s fr < s.length
    · have hn : next58 s L d fr (kN s fr) = st58 s (L ++ [tokAt s d fr]) (nextB s (kN s fr)) (nextA s (kN s fr)) (kN s fr + 1) := by unfold next58; rw [if_neg hi, if_pos hl]
      rw [hn]
      unfold st58
      rw [rAL_push, rHL_push]
      cases hp : partC (s.getD (kN s fr) 0) with
      | true =>
        have hp' : partB ((s.getD (kN s fr) 0).toNat : Int) = true := hp
        have hnr : nearN s (kN s fr) = false := by
          have := part_dig (s.getD (kN s fr) 0)
          rw [hp, Bool.true_and] at this
          unfold nearN
          rw [this, Bool.and_false]
        have eB : nextB s (kN s fr) = (((s.getD (kN s fr) 0).toNat : Int) == 45) := by unfold nextB; rw [hp]; rfl
        have eA : nextA s (kN s fr) = kN s fr + 1 := by unfold nextA; rw [hp]; rfl
        rw [eB, eA]
        cases L with
        | nil =>
          refine (qA58 s (kN s fr) fr d).trans ?_
          simp (disch := omega) only [decT, decF, cond_true, cond_false, len_ne, hp', Bool.not_false, Int.toNat_natCast, w64t, Bool.not_true]
          rw [rowF_one (t := tokAt s d fr) (by unfold tokAt; rw [hnr]; rfl)]
          rfl
        | cons t r =>
          refine (qB58 s (r.length + 1) (kN s fr) fr d (fnL (t :: r))).trans ?_
          simp only [List.length_cons] at h4
          simp (disch := omega) only [decT, decF, cond_true, cond_false, len_ne, hp', Bool.not_false, Int.toNat_natCast, w64t, Bool.not_true]
          rw [hrow t r (tokAt s d fr) _ (by unfold tokAt; rw [hnr]; rfl)]
          rfl
      | false =>
        have hp' : partB ((s.getD (kN s fr) 0).toNat : Int) = false := hp
        unfold goOn at hg
        rw [decide_eq_true hl, hp, Bool.true_and, Bool.not_false, Bool.true_and, Bool.not_eq_false', Bool.and_eq_true, decide_eq_true_eq] at hg
        obtain ⟨hf, hd⟩ := hg
        have hd' : (dig ((s.getD (kN s fr) 0).toNat : Int) == dig ((s.getD (kN s fr - 1) 0).toNat : Int)) = false := by
          have hd : (digC (s.getD (kN s fr) 0) == digC (s.getD (kN s fr - 1) 0)) = false := by simpa using hd
          exact hd
        have hnr : nearN s (kN s fr) = dig ((s.getD (kN s fr) 0).toNat : Int) := by
          unfold nearN
          rw [decide_eq_true hl]; rfl
        have eB : nextB s (kN s fr) = true := by unfold nextB; rw [hp]; rfl
        have eA : nextA s (kN s fr) = kN s fr := by unfold nextA; rw [hp]; rfl
        rw [eB, eA]
        cases L with
        | nil =>
          refine (qA58 s (kN s fr) fr d).trans ?_
          simp (disch := omega) only [decT, decF, cond_true, cond_false, len_ne, hp', Bool.not_false, Int.toNat_natCast, w64t, w64d, hd', Bool.not_true]
          rw [rowF_one (t := tokAt s d fr) (by unfold tokAt; rw [hnr]; rfl)]
          rfl
        | cons t r =>
          refine (qB58 s (r.length + 1) (kN s fr) fr d (fnL (t :: r))).trans ?_
          simp only [List.length_cons] at h4
          simp (disch := omega) only [decT, decF, cond_true, cond_false, len_ne, hp', Bool.not_false, Int.toNat_natCast, w64t, w64d, hd', Bool.not_true]
          rw [hrow t r (tokAt s d fr) _ (by unfold tokAt; rw [hnr]; rfl)]
          rfl
    · have hn : next58 s L d fr (kN s fr) = st58 s (L ++ [tokAt s d fr]) false (s.length + 1) (s.length + 1) := by unfold next58; rw [if_neg hi, if_neg hl]
      rw [hn]
      have he : kN s fr = s.length := by omega
      unfold st58
      rw [rAL_push, rHL_push]
      have hnr : nearN s (kN s fr) = false := by
        unfold nearN
        rw [decide_eq_false hl]; rfl
      cases L with
      | nil =>
        refine (qA58 s (kN s fr) fr d).trans ?_
        rw [he] at hnr h0 h1 ⊢
        simp (disch := omega) only [decT, decF, cond_true, cond_false, len_eq, Bool.not_false, Int.toNat_natCast, w64t, Bool.not_true]
        rw [rowF_one (t := tokAt s d fr) (by unfold tokAt; rw [he, hnr]; rfl)]
        rfl
      | cons t r =>
        refine (qB58 s (r.length + 1) (kN s fr) fr d (fnL (t :: r))).trans ?_
        simp only [List.length_cons] at h4
        rw [he] at hnr h0 h1 ⊢
        simp (disch := omega) only [decT, decF, cond_true, cond_false, len_eq, Bool.not_false, Int.toNat_natCast, w64t, Bool.not_true]
        rw [hrow t r (tokAt s d fr) _ (by unfold tokAt; rw [he, hnr]; rfl)]
        rfl
end Go.Mvn
namespace Go.Mvn

open Go Go.Proofs Go.Ab

set_option maxRecDepth 100000

set_option linter.unusedVariables false

set_option linter.unusedSimpArgs false

/-! ### split, tokens, Tokens of the reference -/

structure Y58 where
  s : List UInt8
  L : List Tok
  d : Bool
  fr : Nat
  i : Nat

def eL58 : Y58 → List AV × Hp := fun ⟨s, L, d, fr, i⟩ => ([.str s, rAL L, .bool d, .int .i64 fr, .int .i64 i], rHL L)

def dL58 : List AV × Hp → Y58
  | ([.str s, _, .bool d, .int _ fr, .int _ i], hp) => ⟨s, unHL hp, d, fr.toNat, i.toNat⟩
  | _ => ⟨[], [], false, 0, 0⟩

theorem iL58 : ∀ x, dL58 (eL58 x) = x := by
  rintro ⟨s, L, d, fr, i⟩
  simp only [eL58, dL58, unHL_rHL, Int.toNat_natCast]

def pL58 : Y58 → Prop := fun ⟨s, L, d, fr, i⟩ => s.length ≤ 1000 ∧ L.length ≤ i ∧ ((fr ≤ i ∧ i ≤ kN s fr ∧ fr ≤ s.length) ∨ (i = s.length + 1 ∧ fr = s.length + 1 ∧ d = false ∧ L ≠ []))

def out58 (s : List UInt8) (L : List Tok) : AX × St := (.exit 0, { tm := tmOf 84 [(0, .str s), (3, .row 0 3 0 L.length), (4, .bool false), (5, .int .i64 ((s.length + 1 : Nat) : Int)), (6, .int .i64 ((s.length + 1 : Nat) : Int)), (12, .bool false)], ms := [], hp := [some (.row 3 L.length (rowT (fnL L)))] })

noncomputable def rL58 : Y58 → T (AX × St)
  | ⟨s, [], d, fr, i⟩ => .leaf (out58 s (if i = s.length + 1 then [] else splS s d fr))
  | ⟨s, t :: r, d, fr, i⟩ => .leaf (out58 s (if i = s.length + 1 then t :: r else t :: r ++ splS s d fr))

theorem rL58_run (s : List UInt8) (L : List Tok) (d : Bool) (fr i : Nat) : (rL58 ⟨s, L, d, fr, i⟩).run = some (out58 s (if i = s.length + 1 then L else L ++ splS s d fr)) := by cases L <;> rfl

noncomputable def L58 : LoopT := fun k => match Nat.beq k 500111 with
  | true => some (lccon (mbits 121 84) eL58 dL58 pL58 rL58)
  | false => none

theorem end58 (s : List UInt8) (L : List Tok) (hL : L ≠ []) : (rdn tabX4 h58 noLoops 58 0 0 (st58 s L false (s.length + 1) (s.length + 1))).run = some (out58 s L) := by
  cases L with
  | nil => exact absurd rfl hL
  | cons t r =>
    refine (qB58 s (r.length + 1) (s.length + 1) (s.length + 1) false (fnL (t :: r))).trans ?_
    simp (disch := omega) only [decF, cond_false]
    rfl

theorem rd58 (s : List UInt8) (L : List Tok) (d : Bool) (fr i : Nat) : (rdn tabX4 h58 L58 58 0 0 (st58 s L d fr i)).run = (rdn tabX4 h58 noLoops 58 0 0 (st58 s L d fr i)).run := by
  cases L <;> kernel_rfl

theorem l58 : LoopOk Tryd.prog tabX4.pf (fun n => hd Tryd.prog tabX4.pf tabX4.con.run (fun f => (H0 f).to) n 9) h58.to 58 0 none L58 (loopAt Tryd.prog 58 0) := by
  rw [show loopAt Tryd.prog 58 0 = .loop (lbody Tryd.prog 58 0) by kernel_rfl]
  refine loop_c (hdT_le (m := 20) 9) (m := 20) (lv := mbits 121 84) (p := pL58) (res := rL58) iL58 (within_of _ (by rw [show loopsOf (lbody Tryd.prog 58 0) = [] by kernel_rfl]; simp)) (by kernel_rfl) (fun ⟨s, L, d, fr, i⟩ => s.length + 2 - i) ?_
  rintro ⟨s, L, d, fr, i⟩ ⟨h1, h2, h3⟩
  rcases h3 with ⟨h3, h4, h5⟩ | ⟨rfl, rfl, rfl, hL⟩
  · left
    have ht := round58 s L d fr i h3 h4 h5 h1 (by have := kN_le' h5; omega)
    have hk := kN_le' h5
    have hs := splS_step (d := d) h5
    unfold next58 at ht
    by_cases hi : i < kN s fr
    · rw [if_pos hi] at ht
      refine ⟨⟨s, L, d, fr, i + 1⟩, ⟨h1, by omega, .inl ⟨by omega, by omega, h5⟩⟩, by simp only; omega, ?_, (rd58 _ _ _ _ _).trans ht⟩
      refine (rL58_run _ _ _ _ _).trans (Eq.trans ?_ (rL58_run _ _ _ _ _).symm)
      show some (out58 s (if i + 1 = s.length + 1 then L else L ++ splS s d fr)) = some (out58 s (if i = s.length + 1 then L else L ++ splS s d fr))
      rw [if_neg (by omega), if_neg (by omega)]
    · have hi' : i = kN s fr := by omega
      rw [if_neg hi] at ht
      by_cases hl : kN s fr < s.length
      · rw [if_pos hl] at ht
        have hn := next_lt h5 (show ¬ s.length ≤ kN s fr by omega)
        have hA : nextA s (kN s fr) ≤ kN s fr + 1 ∧ kN s fr + 1 ≤ kN s (nextA s (kN s fr)) := by
          cases hp : partC (s.getD (kN s fr) 0) with
          | true =>
            have eA : nextA s (kN s fr) = kN s fr + 1 := by unfold nextA; rw [hp]; rfl
            rw [eA]
            exact ⟨Nat.le_refl _, (kN_le' (by omega)).1⟩
          | false =>
            have eA : nextA s (kN s fr) = kN s fr := by unfold nextA; rw [hp]; rfl
            rw [eA]
            have hg := goOn_kN (s := s) (Nat.le_refl (kN s fr)) (kN_le' (show kN s fr ≤ s.length by omega)).1
            unfold goOn at hg
            rw [hp, decide_eq_true hl, decide_eq_false (Nat.lt_irrefl _)] at hg
            have := of_decide_eq_true hg.symm
            omega
        refine ⟨⟨s, L ++ [tokAt s d fr], nextB s (kN s fr), nextA s (kN s fr), kN s fr + 1⟩, ⟨h1, by rw [List.length_append]; simp only [List.length_cons, List.length_nil]; omega, .inl ⟨hA.1, hA.2, hn.1⟩⟩, by simp only; omega, ?_, (rd58 _ _ _ _ _).trans ht⟩
        refine (rL58_run _ _ _ _ _).trans (Eq.trans ?_ (rL58_run _ _ _ _ _).symm)
        show some (out58 s (if kN s fr + 1 = s.length + 1 then _ else _)) = some (out58 s (if i = s.length + 1 then L else L ++ splS s d fr))
        rw [if_neg (by omega), if_neg (by omega), hs, if_neg (by omega), List.append_assoc]
        rfl
      · rw [if_neg hl] at ht
        refine ⟨⟨s, L ++ [tokAt s d fr], false, s.length + 1, s.length + 1⟩, ⟨h1, by rw [List.length_append]; simp only [List.length_cons, List.length_nil]; omega, .inr ⟨rfl, rfl, rfl, by simp⟩⟩, by simp only; omega, ?_, (rd58 _ _ _ _ _).trans ht⟩
        refine (rL58_run _ _ _ _ _).trans (Eq.trans ?_ (rL58_run _ _ _ _ _).symm)
        show some (out58 s (if s.length + 1 = s.length + 1 then _ else _)) = some (out58 s (if i = s.length + 1 then L else L ++ splS s d fr))
        rw [if_pos rfl, if_neg (by omega), hs, if_pos (by omega)]
  · right
    refine ⟨out58 s L, by simp [out58], ?_, (rd58 _ _ _ _ _).trans (end58 s L hL)⟩
    refine (rL58_run _ _ _ _ _).trans ?_
    rw [if_pos rfl]

theorem t58 (s : List UInt8) : (evn tabX4 h58 L58 58 [.str s] []).run =
  bif isEn eL58 pL58 ([AV.str s, AV.nilsl, AV.bool false, AV.int IntKind.i64 (0 : Int), AV.int IntKind.i64 (0 : Int)], []) then
   some ((AV.row 0 3 0 (if 0 = s.length + 1 then [] else splS s false 0).length, [some (AObj.row 3 (if 0 = s.length + 1 then [] else splS s false 0).length (rowT (fnL (if 0 = s.length + 1 then [] else splS s false 0))))]))
  else
   none := by kernel_rfl

structure X58 where
  s : List UInt8

def en58 : X58 → List AV × Hp := fun ⟨s⟩ => ([.str s], [])

def de58 : List AV × Hp → X58
  | ([.str s], []) => ⟨s⟩
  | _ => ⟨default⟩

def p58 : X58 → Prop := fun ⟨s⟩ => s.length ≤ 1000

def rs58 : X58 → T (AV × Hp) := fun ⟨s⟩ => .leaf (.row 0 3 0 (splS s false 0).length, [some (.row 3 (splS s false 0).length (rowT (fnL (splS s false 0))))])

noncomputable def c58 : List AV → Hp → T (AV × Hp) := mcon en58 de58 p58 rs58

theorem in58 : ∀ x, de58 (en58 x) = x := by
  rintro ⟨s⟩
  rfl

theorem k58 (s : List UInt8) (h : s.length ≤ 1000) : isEn en58 p58 ([.str s], []) = true := isEn_true (enc := en58) (p := p58) ⟨s⟩ h

theorem e58 (s : List UInt8) (hF : FitsL [.str s]) (hH : FitsH []) (hp : s.length ≤ 1000) : (evn tabX4 h58 L58 58 [.str s] []).run = (.leaf (.row 0 3 0 (splS s false 0).length, [some (.row 3 (splS s false 0).length (rowT (fnL (splS s false 0))))]) : T (AV × Hp)).run := by
  refine (t58 s).trans ?_
  refine (cond_chk (isEn_true (enc := eL58) (p := pL58) ⟨s, [], false, 0, 0⟩ ⟨hp, Nat.zero_le _, .inl ⟨Nat.le_refl _, Nat.zero_le _, Nat.zero_le _⟩⟩)).trans ?_
  rw [if_neg (show ¬ 0 = s.length + 1 by omega)]
  rfl

theorem s58 : Sound1 Tryd.prog ⟨58, false, gcon c58⟩ := by
  refine sound_cm (soundTab_of all_tabX4) in58 (hn := h58) (m := 20) (k := 9) (Λ := L58) (fun _ _ => oneLoop (by kernel_rfl) l58) ?_
  rintro ⟨s⟩ hp hF hH
  exact e58 s hF hH hp

noncomputable def tabX5 : Tab := ⟨58, false, gcon c58⟩ :: tabX4

theorem all_tabX5 : ∀ e, e ∈ tabX5 → Sound1 Tryd.prog e := (sound_mem_tab s58 all_tabX4)

theorem ok_tabX5 : SoundTab Tryd.prog tabX5 := soundTab_of all_tabX5
end Go.Mvn
namespace Go.Mvn

open Go Go.Proofs Go.Ab

set_option maxRecDepth 100000

set_option linter.unusedVariables false

set_option linter.unusedSimpArgs false

/-! ### Lists of tokens as slices -/

def fnT (L : List Tok) (k : Nat) : Tok := L.getD k zeroT

def unL (n : Nat) (g : Nat → Nat → AV) : List Tok := listOf (unT g) n

theorem fnT_list (L : List Tok) : listOf (fnT L) L.length = L := listOf_of fun i t h => by
  unfold fnT
  rw [List.getD_eq_getElem?_getD, h]; rfl

theorem unL_fnT (L : List Tok) : unL L.length (rowT (fnT L)) = L := fnT_list L

/-- A row that holds a list, told as the list. -/
theorem row_aw {g : Nat → Tok} {n : Nat} {L : List Tok} (h : listOf g n = L) : AW (.sl 3 n (rowT g)) (.sl 3 L.length (rowT (fnT L))) := by
  have hn : L.length = n := by rw [← h, listOf_length]
  rw [hn]
  refine AW.slice fun i c hi hc => ?_
  have : g i = fnT L i := by
    unfold fnT
    rw [List.getD_eq_getElem?_getD, ← h, listOf_get hi]; rfl
  unfold rowT
  rw [this]

theorem spl_len : ∀ (m : Nat) (s : List UInt8) (d : Bool) (a : Nat), (spl m s d a).length ≤ m + 1
  | 0, s, d, a => Nat.le_refl _
  | m + 1, s, d, a => by
    unfold spl
    split
    · simp
    · have := spl_len m s (nextB s (kN s a)) (nextA s (kN s a))
      simp only [List.length_cons]; omega

def errE (s : List UInt8) : Int := bif decide ((s.length : Int) > 64) then 12 else bif s == [] then 11 else bif decide (fxN vb s 0 < s.length) then 10 else 0

def atE (s : List UInt8) : Int := bif decide ((s.length : Int) > 64) then 64 else bif s == [] then 0 else bif decide (fxN vb s 0 < s.length) then (fxN vb s 0 : Int) else 0

def toksE (s : List UInt8) : List Tok := bif okT s then toks s else []

theorem okT_err (s : List UInt8) : okT s = (errE s == 0) := by
  unfold okT errE
  cases decide ((s.length : Int) > 64) <;> cases (s == []) <;> cases decide (fxN vb s 0 < s.length) <;> rfl

/-! ### The program's Tokens, by lists -/

noncomputable def c8L : List AV → T AV
  | [.str s] => .leaf (.tup [.sl 3 (toksE s).length (rowT (fnT (toksE s))), .agg [.int .i64 (errE s), .int .i64 (atE s)]])
  | _ => .fail

theorem nil_aw (f : Nat → Nat → AV) : AW (.sl 3 0 f) (.sl 3 ([] : List Tok).length (rowT (fnT []))) := AW.slice fun i c hi hc => by omega

theorem s8L : Sound1 Tryd.prog ⟨8, true, pcon c8L⟩ := by
  refine sound_aw s8 fun args r' h => ?_
  unfold c8L at h
  split at h
  · rename_i s
    simp only [T.run_leaf, Option.some.injEq] at h
    subst h
    unfold c8 toksE errE atE okT
    simp only [T.run_br]
    cases h1 : decide ((s.length : Int) > 64) with
    | true => exact ⟨_, rfl, rfl, AW.tup2 (nil_aw _) (AW.rfl' _)⟩
    | false =>
      cases h2 : s == [] with
      | true => exact ⟨_, rfl, rfl, AW.tup2 (nil_aw _) (AW.rfl' _)⟩
      | false =>
        cases h3 : decide (fxN vb s 0 < s.length) with
        | true => exact ⟨_, rfl, rfl, AW.tup2 (nil_aw _) (AW.rfl' _)⟩
        | false => exact ⟨_, rfl, rfl, AW.tup2 (row_aw rfl) (AW.rfl' _)⟩
  · cases h

structure Y31 where
  s : List UInt8
  i : Nat

def eL31 : Y31 → List AV × Hp := fun ⟨s, i⟩ => ([.str s, .int .i64 i], [])

def dL31 : List AV × Hp → Y31
  | ([.str s, .int .i64 i], []) => ⟨s, i.toNat⟩
  | _ => ⟨default, default⟩

def pL31 : Y31 → Prop := fun ⟨s, i⟩ => i ≤ s.length ∧ s.length ≤ bnd

def rL31 : Y31 → T (AX × St) := fun ⟨s, i⟩ => .br (decide (fxN vb s i < s.length)) (.leaf (.ret, { tm := tmOf 46 [(2, .nilsl), (3, .int .i64 10), (4, .int .i64 (fxN vb s i : Nat))], ms := [], hp := [] })) (.leaf (.exit 0, { tm := tmOf 46 [(0, .str s), (5, .int .i64 s.length), (15, .bool false)], ms := [], hp := [] }))

noncomputable def L31 : LoopT := fun k => match Nat.beq k 600054 with
  | true => some (lccon (mbits 33 46) eL31 dL31 pL31 rL31)
  | false => none

theorem iL31 : ∀ x, dL31 (eL31 x) = x := by
  rintro ⟨s, i⟩
  simp only [eL31, dL31, Int.toNat_natCast]

theorem kL31 (s : List UInt8) (i : Nat) (h : i ≤ s.length ∧ s.length ≤ bnd) : isEn eL31 pL31 ([.str s, .int .i64 i], []) = true := isEn_true (enc := eL31) (p := pL31) ⟨s, i⟩ h

theorem zL31 (s : List UInt8) (h : pL31 ⟨s, 0⟩) : isEn eL31 pL31 ([.str s, .int .i64 (0 : Int)], []) = true := isEn_true (enc := eL31) (p := pL31) ⟨s, 0⟩ h

theorem q31 (s : List UInt8) (i : Nat) : (rdn tabX5 h31 L31 31 0 0 { tm := encGo (mbits 33 46) [.str s, .int .i64 i], ms := [], hp := [] }).run =
  bif decide ((↑i : Int) < (↑s.length : Int)) then
   bif decide ((0 : Int) ≤ (↑i : Int) ∧ (↑i : Int) < (↑s.length : Int)) then
    bif !dig (↑(s.getD (↑i : Int).toNat (0 : UInt8)).toNat : Int) then
     bif !let_ (↑(s.getD (↑i : Int).toNat (0 : UInt8)).toNat : Int) then
      bif !partB (↑(s.getD (↑i : Int).toNat (0 : UInt8)).toNat : Int) then
       bif (↑(s.getD (↑i : Int).toNat (0 : UInt8)).toNat : Int) != (95 : Int) then
        bif (↑(s.getD (↑i : Int).toNat (0 : UInt8)).toNat : Int) != (43 : Int) then
         some ((AX.ret, { tm := tmOf 46 [(2, AV.nilsl), (3, AV.int IntKind.i64 (10 : Int)), (4, AV.int IntKind.i64 (↑i : Int))], ms := [], hp := [] }))
        else
         some ((AX.normal, { tm := tmOf 46 [(0, AV.str s), (5, AV.int IntKind.i64 (IntKind.i64.wrap ((↑i : Int) + (1 : Int))))], ms := [], hp := [] }))
       else
        some ((AX.normal, { tm := tmOf 46 [(0, AV.str s), (5, AV.int IntKind.i64 (IntKind.i64.wrap ((↑i : Int) + (1 : Int))))], ms := [], hp := [] }))
      else
       some ((AX.normal, { tm := tmOf 46 [(0, AV.str s), (5, AV.int IntKind.i64 (IntKind.i64.wrap ((↑i : Int) + (1 : Int))))], ms := [], hp := [] }))
     else
      some ((AX.normal, { tm := tmOf 46 [(0, AV.str s), (5, AV.int IntKind.i64 (IntKind.i64.wrap ((↑i : Int) + (1 : Int))))], ms := [], hp := [] }))
    else
     some ((AX.normal, { tm := tmOf 46 [(0, AV.str s), (5, AV.int IntKind.i64 (IntKind.i64.wrap ((↑i : Int) + (1 : Int))))], ms := [], hp := [] }))
   else
    none
  else
   some ((AX.exit 0, { tm := tmOf 46 [(0, AV.str s), (5, AV.int IntKind.i64 (↑i : Int)), (15, AV.bool false)], ms := [], hp := [] })) := by kernel_rfl

theorem l31 : LoopOk Tryd.prog tabX5.pf (fun n => hd Tryd.prog tabX5.pf tabX5.con.run (fun f => (H0 f).to) n 9) h31.to 31 0 none L31 (loopAt Tryd.prog 31 0) := by
  rw [show loopAt Tryd.prog 31 0 = .loop (lbody Tryd.prog 31 0) by kernel_rfl]
  refine loop_c (hdT_le (m := 20) 9) (m := 20) (lv := mbits 33 46) (p := pL31) (res := rL31) iL31 (within_of _ (by rw [show loopsOf (lbody Tryd.prog 31 0) = [] by kernel_rfl]; simp)) (by kernel_rfl) (fun ⟨s, i⟩ => s.length - i) ?_
  rintro ⟨s, i⟩ hp
  have ht := q31 s i
  obtain ⟨h1, h2⟩ := hp
  have hb := h2
  simp only [bnd] at hb
  by_cases hl : i < s.length
  · have hd := fxN_step (q := vb) 0 hl
    simp (disch := omega) only [decT, cond_true, Int.toNat_natCast, w64n] at ht
    have key : (rdn tabX5 h31 L31 31 0 0 { tm := encGo (mbits 33 46) [.str s, .int .i64 i], ms := [], hp := [] }).run = bif vb (s.getD i 0) then some (.normal, { tm := encGo (mbits 33 46) [.str s, .int .i64 (i + 1 : Nat)], ms := [], hp := [] }) else some (.ret, { tm := tmOf 46 [(2, .nilsl), (3, .int .i64 10), (4, .int .i64 i)], ms := [], hp := [] }) := by
      refine ht.trans ?_
      unfold vb vB alnum
      cases dig ((s.getD i 0).toNat : Int) <;> cases let_ ((s.getD i 0).toNat : Int) <;> try rfl
      unfold partB
      cases h46 : ((s.getD i 0).toNat : Int) == 46 <;> cases h45 : ((s.getD i 0).toNat : Int) == 45 <;> cases h95 : ((s.getD i 0).toNat : Int) == 95 <;> cases h43 : ((s.getD i 0).toNat : Int) == 43 <;> simp only [bne, h95, h43, Bool.or_false, Bool.or_true, Bool.not_false, Bool.not_true, cond_true, cond_false] <;> rfl
    cases hq : vb (s.getD i 0) with
    | true =>
      rw [hq, cond_true] at hd key
      left
      refine ⟨⟨s, i + 1⟩, ⟨hl, h2⟩, by simp only; omega, ?_, key⟩
      simp only [rL31, T.run_br, hd]
    | false =>
      rw [hq, cond_false] at hd key
      right
      refine ⟨_, ?_, ?_, key⟩
      · simp
      · simp only [rL31, T.run_br, hd, decide_eq_true hl] <;> rfl
  · have he : i = s.length := by omega
    right
    subst he
    rw [decide_eq_false (show ¬ ((s.length : Nat) : Int) < s.length by omega)] at ht
    refine ⟨_, ?_, ?_, ht⟩
    · simp
    · simp only [rL31, T.run_br, fxN_end (Nat.le_refl _), decide_eq_false (Nat.lt_irrefl _)] <;> rfl

theorem t31 (s : List UInt8) : (evn tabX5 h31 L31 31 [.str s] []).run =
  bif decide ((↑s.length : Int) > (64 : Int)) then
   some ((AV.tup [AV.nilsl, AV.int IntKind.i64 (12 : Int), AV.int IntKind.i64 (64 : Int)], []))
  else
   bif s == [] then
    some ((AV.tup [AV.nilsl, AV.int IntKind.i64 (11 : Int), AV.int IntKind.i64 (0 : Int)], []))
   else
    bif isEn eL31 pL31 ([AV.str s, AV.int IntKind.i64 (0 : Int)], []) then
     bif decide (fxN vb s 0 < s.length) then
      some ((AV.tup [AV.nilsl, AV.int IntKind.i64 (10 : Int), AV.int IntKind.i64 (↑(fxN vb s 0) : Int)], []))
     else
      bif isEn en58 p58 ([AV.str s], []) then
       bif isEn en57 p57 ([AV.row 0 3 0 (splS s false 0).length], [some (AObj.row 3 (splS s false 0).length (rowT (fnL (splS s false 0))))]) then
        bif (t57R (splS s false 0).length (unT (rowT (fnL (splS s false 0))))).n.beq 0 then
         some ((AV.tup [AV.row 0 3 0 1, AV.int IntKind.i64 (0 : Int), AV.int IntKind.i64 (0 : Int)], [some (AObj.row 3 1 (rowT fun x => { dash := false, num := true, text := [(48 : UInt8)] }))]))
        else
         bif (t57R (splS s false 0).length (unT (rowT (fnL (splS s false 0))))).kind.beq 0 then
          some ((AV.tup [AV.row 0 3 0 (t57R (splS s false 0).length (unT (rowT (fnL (splS s false 0))))).n, AV.int IntKind.i64 (0 : Int), AV.int IntKind.i64 (0 : Int)], [some (AObj.row 3 (t57R (splS s false 0).length (unT (rowT (fnL (splS s false 0))))).n (rowT (undash (t57R (splS s false 0).length (unT (rowT (fnL (splS s false 0))))).f)))]))
         else
          some ((AV.tup [AV.row 0 3 0 (t57R (splS s false 0).length (unT (rowT (fnL (splS s false 0))))).n, AV.int IntKind.i64 (0 : Int), AV.int IntKind.i64 (0 : Int)], [some (AObj.row 3 (t57R (splS s false 0).length (unT (rowT (fnL (splS s false 0))))).n (rowT (undash (t57R (splS s false 0).length (unT (rowT (fnL (splS s false 0))))).f)))]))
       else
        none
      else
       none
    else
     none := by kernel_rfl
end Go.Mvn

/- Lemmas for the claims of this seat (a verified symbolic evaluator, and contracts of functions): own work; no condition. -/
import Derived.Test.YtibanfkcemnifaaDoorFnB
import Derived.Test.YtibanfkcemnifaaDoorEvE
import Derived.Room.Shelf.Join48
namespace Go.Sem

open Go Go.Proofs Go.Ab

set_option maxRecDepth 100000

set_option linter.unusedVariables false

set_option linter.unusedSimpArgs false

/-! ### semver.Parse -/

structure Ver where
  mj : List UInt8
  mn : List UInt8
  pt : List UInt8
  pre : List (List UInt8)
  bu : List (List UInt8)

abbrev PR := Ver ⊕ (Int × Int)

def numR (s : List UInt8) (a : Int) (k : List UInt8 → Int → PR) : PR :=
  bif numT s a == [] then .inr (errAt s (runD s a) 10, runD s a) else bif numB (numT s a) then k (numT s a) (runD s a) else .inr (14, a + 1)

def dotR (s : List UInt8) (a : Int) (k : PR) : PR := bif isAt s a 46 then k else .inr (errAt s a 10, a)

def idsP (s : List UInt8) (p : Bool) (a : Int) (k : List (List UInt8) → Int → PR) : PR := match (idR s p (a + 1)).2 with
  | some er => .inr (er, idF s p (a + 1))
  | none => k (idL s p (a + 1)) (idF s p (a + 1))

def endP (s : List UInt8) (a : Int) (v : Ver) : PR := bif decide (a < (s.length : Int)) then .inr (10, a) else .inl v

def buP (s : List UInt8) (a : Int) (k : List (List UInt8) → Ver) : PR := bif isAt s a 43 then idsP s false a (fun l b => endP s b (k l)) else endP s a (k [])

def parseS (s : List UInt8) : PR := bif decide (s.length > 64) then .inr (12, 64) else
  numR s 0 fun d0 a0 => dotR s a0 (numR s (a0 + 1) fun d1 a1 => dotR s a1 (numR s (a1 + 1) fun d2 a2 =>
    bif isAt s a2 45 then idsP s true a2 (fun l b => buP s b fun l2 => ⟨d0, d1, d2, l, l2⟩) else buP s a2 fun l2 => ⟨d0, d1, d2, [], l2⟩))

/-- A list of texts in a heap of its own. -/
def verT (v : Ver) (k : AV → AV → Hp → T (AV × Hp)) : T (AV × Hp) :=
  .br v.pre.isEmpty (.br v.bu.isEmpty (k .nilsl .nilsl []) (k .nilsl (.row 0 1 0 v.bu.length) [some (.row 1 v.bu.length (strF v.bu))]))
    (.br v.bu.isEmpty (k (.row 0 1 0 v.pre.length) .nilsl [some (.row 1 v.pre.length (strF v.pre))]) (k (.row 0 1 0 v.pre.length) (.row 1 1 0 v.bu.length) [some (.row 1 v.pre.length (strF v.pre)), some (.row 1 v.bu.length (strF v.bu))]))

def noVer : AV := .agg [.str [], .str [], .str [], .nilsl, .nilsl]

def verAV (v : Ver) (p b : AV) : AV := .agg [.str v.mj, .str v.mn, .str v.pt, p, b]

def prErr (r : PR) : Int := match r with
  | .inl _ => 0
  | .inr x => x.1

def prAt (r : PR) : Int := match r with
  | .inl _ => 0
  | .inr x => x.2

def prVer (r : PR) : Ver := match r with
  | .inl v => v
  | .inr _ => ⟨[], [], [], [], []⟩

def badP (e a : Int) : T (AV × Hp) := .leaf (.tup [noVer, .agg [.int .i64 e, .int .i64 a]], [])

def c10 : List AV → Hp → T (AV × Hp)
  | [.str s], [] =>
    .br (decide (prErr (parseS s) = 0)) (verT (prVer (parseS s)) fun p b h => .leaf (.tup [verAV (prVer (parseS s)) p b, .agg [.int .i64 0, .int .i64 0]], h))
      (.br (decide (prErr (parseS s) = 10)) (badP 10 (prAt (parseS s))) (.br (decide (prErr (parseS s) = 11)) (badP 11 (prAt (parseS s))) (.br (decide (prErr (parseS s) = 14)) (badP 14 (prAt (parseS s))) (badP 12 (prAt (parseS s))))))
  | _, _ => .fail

theorem t10 (s : List UInt8) : (evn tabL h10 L10 10 [.str s] []).run =
  bif decide ((↑s.length : Int) > (64 : Int)) then
   some ((AV.tup [AV.agg [AV.str [], AV.str [], AV.str [], AV.nilsl, AV.nilsl], AV.agg [AV.int IntKind.i64 (12 : Int), AV.int IntKind.i64 (64 : Int)]], []))
  else
   bif decide ((0 : Int) = (0 : Int) ∧ (0 : Int) = (0 : Int) ∧ (0 : Int) = (0 : Int) ∧ s = s ∧ (0 : Int) = (0 : Int) ∧ (0 : Int) = (0 : Int) ∧ (0 : Int) = (0 : Int) ∧ s.length ≤ 64) then
    bif numT s (0 : Int) == [] then
     bif decide (runD s (0 : Int) ≥ (↑s.length : Int)) then
      some ((AV.tup [AV.agg [AV.str [], AV.str [], AV.str [], AV.nilsl, AV.nilsl], AV.agg [AV.int IntKind.i64 (11 : Int), AV.int IntKind.i64 (runD s (0 : Int))]], []))
     else
      some ((AV.tup [AV.agg [AV.str [], AV.str [], AV.str [], AV.nilsl, AV.nilsl], AV.agg [AV.int IntKind.i64 (10 : Int), AV.int IntKind.i64 (runD s (0 : Int))]], []))
    else
     bif numB (numT s (0 : Int)) then
      bif isAt s (runD s (0 : Int)) (46 : Int) then
       bif numT s (runD s (0 : Int) + (1 : Int)) == [] then
        bif decide (runD s (runD s (0 : Int) + (1 : Int)) ≥ (↑s.length : Int)) then
         some ((AV.tup [AV.agg [AV.str [], AV.str [], AV.str [], AV.nilsl, AV.nilsl], AV.agg [AV.int IntKind.i64 (11 : Int), AV.int IntKind.i64 (runD s (runD s (0 : Int) + (1 : Int)))]], []))
        else
         some ((AV.tup [AV.agg [AV.str [], AV.str [], AV.str [], AV.nilsl, AV.nilsl], AV.agg [AV.int IntKind.i64 (10 : Int), AV.int IntKind.i64 (runD s (runD s (0 : Int) + (1 : Int)))]], []))
       else
        bif numB (numT s (runD s (0 : Int) + (1 : Int))) then
         bif isAt s (runD s (runD s (0 : Int) + (1 : Int))) (46 : Int) then
          bif numT s (runD s (runD s (0 : Int) + (1 : Int)) + (1 : Int)) == [] then
           bif decide (runD s (runD s (runD s (0 : Int) + (1 : Int)) + (1 : Int)) ≥ (↑s.length : Int)) then
            some ((AV.tup [AV.agg [AV.str [], AV.str [], AV.str [], AV.nilsl, AV.nilsl], AV.agg [AV.int IntKind.i64 (11 : Int), AV.int IntKind.i64 (runD s (runD s (runD s (0 : Int) + (1 : Int)) + (1 : Int)))]], []))
           else
            some ((AV.tup [AV.agg [AV.str [], AV.str [], AV.str [], AV.nilsl, AV.nilsl], AV.agg [AV.int IntKind.i64 (10 : Int), AV.int IntKind.i64 (runD s (runD s (runD s (0 : Int) + (1 : Int)) + (1 : Int)))]], []))
          else
           bif numB (numT s (runD s (runD s (0 : Int) + (1 : Int)) + (1 : Int))) then
            bif decide ((0 : Int) ≤ runD s (runD s (runD s (0 : Int) + (1 : Int)) + (1 : Int))) then
             bif isAt s (runD s (runD s (runD s (0 : Int) + (1 : Int)) + (1 : Int))) (45 : Int) then
              bif decide ((0 : Int) = (0 : Int) ∧ (0 : Int) = (0 : Int) ∧ (0 : Int) ≤ runD s (runD s (runD s (0 : Int) + (1 : Int)) + (1 : Int)) ∧ runD s (runD s (runD s (0 : Int) + (1 : Int)) + (1 : Int)) + (1 : Int) ≤ (↑s.length : Int) ∧ s.length ≤ 1073741824) then
               bif (idR s true (runD s (runD s (runD s (0 : Int) + (1 : Int)) + (1 : Int)) + (1 : Int))).snd.isSome then
                bif decide ((idR s true (runD s (runD s (runD s (0 : Int) + (1 : Int)) + (1 : Int)) + (1 : Int))).snd = some (10 : Int)) then
                 some ((AV.tup [AV.agg [AV.str [], AV.str [], AV.str [], AV.nilsl, AV.nilsl], AV.agg [AV.int IntKind.i64 (10 : Int), AV.int IntKind.i64 (idF s true (runD s (runD s (runD s (0 : Int) + (1 : Int)) + (1 : Int)) + (1 : Int)))]], []))
                else
                 bif decide ((idR s true (runD s (runD s (runD s (0 : Int) + (1 : Int)) + (1 : Int)) + (1 : Int))).snd = some (11 : Int)) then
                  some ((AV.tup [AV.agg [AV.str [], AV.str [], AV.str [], AV.nilsl, AV.nilsl], AV.agg [AV.int IntKind.i64 (11 : Int), AV.int IntKind.i64 (idF s true (runD s (runD s (runD s (0 : Int) + (1 : Int)) + (1 : Int)) + (1 : Int)))]], []))
                 else
                  bif decide ((idR s true (runD s (runD s (runD s (0 : Int) + (1 : Int)) + (1 : Int)) + (1 : Int))).snd = some (14 : Int)) then
                   some ((AV.tup [AV.agg [AV.str [], AV.str [], AV.str [], AV.nilsl, AV.nilsl], AV.agg [AV.int IntKind.i64 (14 : Int), AV.int IntKind.i64 (idF s true (runD s (runD s (runD s (0 : Int) + (1 : Int)) + (1 : Int)) + (1 : Int)))]], []))
                  else
                   none
               else
                bif decide ((0 : Int) ≤ idF s true (runD s (runD s (runD s (0 : Int) + (1 : Int)) + (1 : Int)) + (1 : Int))) then
                 bif isAt s (idF s true (runD s (runD s (runD s (0 : Int) + (1 : Int)) + (1 : Int)) + (1 : Int))) (43 : Int) then
                  bif decide ((0 : Int) = (0 : Int) ∧ (0 : Int) = (0 : Int) ∧ (0 : Int) ≤ idF s true (runD s (runD s (runD s (0 : Int) + (1 : Int)) + (1 : Int)) + (1 : Int)) ∧ idF s true (runD s (runD s (runD s (0 : Int) + (1 : Int)) + (1 : Int)) + (1 : Int)) + (1 : Int) ≤ (↑s.length : Int) ∧ s.length ≤ 1073741824) then
                   bif (idR s false (idF s true (runD s (runD s (runD s (0 : Int) + (1 : Int)) + (1 : Int)) + (1 : Int)) + (1 : Int))).snd.isSome then
                    bif decide ((idR s false (idF s true (runD s (runD s (runD s (0 : Int) + (1 : Int)) + (1 : Int)) + (1 : Int)) + (1 : Int))).snd = some (10 : Int)) then
                     some ((AV.tup [AV.agg [AV.str [], AV.str [], AV.str [], AV.nilsl, AV.nilsl], AV.agg [AV.int IntKind.i64 (10 : Int), AV.int IntKind.i64 (idF s false (idF s true (runD s (runD s (runD s (0 : Int) + (1 : Int)) + (1 : Int)) + (1 : Int)) + (1 : Int)))]], []))
                    else
                     bif decide ((idR s false (idF s true (runD s (runD s (runD s (0 : Int) + (1 : Int)) + (1 : Int)) + (1 : Int)) + (1 : Int))).snd = some (11 : Int)) then
                      some ((AV.tup [AV.agg [AV.str [], AV.str [], AV.str [], AV.nilsl, AV.nilsl], AV.agg [AV.int IntKind.i64 (11 : Int), AV.int IntKind.i64 (idF s false (idF s true (runD s (runD s (runD s (0 : Int) + (1 : Int)) + (1 : Int)) + (1 : Int)) + (1 : Int)))]], []))
                     else
                      bif decide ((idR s false (idF s true (runD s (runD s (runD s (0 : Int) + (1 : Int)) + (1 : Int)) + (1 : Int)) + (1 : Int))).snd = some (14 : Int)) then
                       some ((AV.tup [AV.agg [AV.str [], AV.str [], AV.str [], AV.nilsl, AV.nilsl], AV.agg [AV.int IntKind.i64 (14 : Int), AV.int IntKind.i64 (idF s false (idF s true (runD s (runD s (runD s (0 : Int) + (1 : Int)) + (1 : Int)) + (1 : Int)) + (1 : Int)))]], []))
                      else
                       none
                   else
                    bif decide (idF s false (idF s true (runD s (runD s (runD s (0 : Int) + (1 : Int)) + (1 : Int)) + (1 : Int)) + (1 : Int)) < (↑s.length : Int)) then
                     bif decide (idF s false (idF s true (runD s (runD s (runD s (0 : Int) + (1 : Int)) + (1 : Int)) + (1 : Int)) + (1 : Int)) ≥ (↑s.length : Int)) then
                      some ((AV.tup [AV.agg [AV.str [], AV.str [], AV.str [], AV.nilsl, AV.nilsl], AV.agg [AV.int IntKind.i64 (11 : Int), AV.int IntKind.i64 (idF s false (idF s true (runD s (runD s (runD s (0 : Int) + (1 : Int)) + (1 : Int)) + (1 : Int)) + (1 : Int)))]], []))
                     else
                      some ((AV.tup [AV.agg [AV.str [], AV.str [], AV.str [], AV.nilsl, AV.nilsl], AV.agg [AV.int IntKind.i64 (10 : Int), AV.int IntKind.i64 (idF s false (idF s true (runD s (runD s (runD s (0 : Int) + (1 : Int)) + (1 : Int)) + (1 : Int)) + (1 : Int)))]], []))
                    else
                     some ((AV.tup [AV.agg [AV.str (numT s (0 : Int)), AV.str (numT s (runD s (0 : Int) + (1 : Int))), AV.str (numT s (runD s (runD s (0 : Int) + (1 : Int)) + (1 : Int))), AV.row 0 1 0 (idL s true (runD s (runD s (runD s (0 : Int) + (1 : Int)) + (1 : Int)) + (1 : Int))).length, AV.row 1 1 0 (idL s false (idF s true (runD s (runD s (runD s (0 : Int) + (1 : Int)) + (1 : Int)) + (1 : Int)) + (1 : Int))).length], AV.agg [AV.int IntKind.i64 (0 : Int), AV.int IntKind.i64 (0 : Int)]], [some (AObj.row 1 (idL s true (runD s (runD s (runD s (0 : Int) + (1 : Int)) + (1 : Int)) + (1 : Int))).length (strF (idL s true (runD s (runD s (runD s (0 : Int) + (1 : Int)) + (1 : Int)) + (1 : Int))))), some (AObj.row 1 (idL s false (idF s true (runD s (runD s (runD s (0 : Int) + (1 : Int)) + (1 : Int)) + (1 : Int)) + (1 : Int))).length (strF (idL s false (idF s true (runD s (runD s (runD s (0 : Int) + (1 : Int)) + (1 : Int)) + (1 : Int)) + (1 : Int)))))]))
                  else
                   none
                 else
                  bif decide (idF s true (runD s (runD s (runD s (0 : Int) + (1 : Int)) + (1 : Int)) + (1 : Int)) < (↑s.length : Int)) then
                   bif decide (idF s true (runD s (runD s (runD s (0 : Int) + (1 : Int)) + (1 : Int)) + (1 : Int)) ≥ (↑s.length : Int)) then
                    some ((AV.tup [AV.agg [AV.str [], AV.str [], AV.str [], AV.nilsl, AV.nilsl], AV.agg [AV.int IntKind.i64 (11 : Int), AV.int IntKind.i64 (idF s true (runD s (runD s (runD s (0 : Int) + (1 : Int)) + (1 : Int)) + (1 : Int)))]], []))
                   else
                    some ((AV.tup [AV.agg [AV.str [], AV.str [], AV.str [], AV.nilsl, AV.nilsl], AV.agg [AV.int IntKind.i64 (10 : Int), AV.int IntKind.i64 (idF s true (runD s (runD s (runD s (0 : Int) + (1 : Int)) + (1 : Int)) + (1 : Int)))]], []))
                  else
                   some ((AV.tup [AV.agg [AV.str (numT s (0 : Int)), AV.str (numT s (runD s (0 : Int) + (1 : Int))), AV.str (numT s (runD s (runD s (0 : Int) + (1 : Int)) + (1 : Int))), AV.row 0 1 0 (idL s true (runD s (runD s (runD s (0 : Int) + (1 : Int)) + (1 : Int)) + (1 : Int))).length, AV.nilsl], AV.agg [AV.int IntKind.i64 (0 : Int), AV.int IntKind.i64 (0 : Int)]], [some (AObj.row 1 (idL s true (runD s (runD s (runD s (0 : Int) + (1 : Int)) + (1 : Int)) + (1 : Int))).length (strF (idL s true (runD s (runD s (runD s (0 : Int) + (1 : Int)) + (1 : Int)) + (1 : Int)))))]))
                else
                 none
              else
               none
             else
              bif decide ((0 : Int) ≤ runD s (runD s (runD s (0 : Int) + (1 : Int)) + (1 : Int))) then
               bif isAt s (runD s (runD s (runD s (0 : Int) + (1 : Int)) + (1 : Int))) (43 : Int) then
                bif decide ((0 : Int) = (0 : Int) ∧ (0 : Int) = (0 : Int) ∧ (0 : Int) ≤ runD s (runD s (runD s (0 : Int) + (1 : Int)) + (1 : Int)) ∧ runD s (runD s (runD s (0 : Int) + (1 : Int)) + (1 : Int)) + (1 : Int) ≤ (↑s.length : Int) ∧ s.length ≤ 1073741824) then
                 bif (idR s false (runD s (runD s (runD s (0 : Int) + (1 : Int)) + (1 : Int)) + (1 : Int))).snd.isSome then
                  bif decide ((idR s false (runD s (runD s (runD s (0 : Int) + (1 : Int)) + (1 : Int)) + (1 : Int))).snd = some (10 : Int)) then
                   some ((AV.tup [AV.agg [AV.str [], AV.str [], AV.str [], AV.nilsl, AV.nilsl], AV.agg [AV.int IntKind.i64 (10 : Int), AV.int IntKind.i64 (idF s false (runD s (runD s (runD s (0 : Int) + (1 : Int)) + (1 : Int)) + (1 : Int)))]], []))
                  else
                   bif decide ((idR s false (runD s (runD s (runD s (0 : Int) + (1 : Int)) + (1 : Int)) + (1 : Int))).snd = some (11 : Int)) then
                    some ((AV.tup [AV.agg [AV.str [], AV.str [], AV.str [], AV.nilsl, AV.nilsl], AV.agg [AV.int IntKind.i64 (11 : Int), AV.int IntKind.i64 (idF s false (runD s (runD s (runD s (0 : Int) + (1 : Int)) + (1 : Int)) + (1 : Int)))]], []))
                   else
                    bif decide ((idR s false (runD s (runD s (runD s (0 : Int) + (1 : Int)) + (1 : Int)) + (1 : Int))).snd = some (14 : Int)) then
                     some ((AV.tup [AV.agg [AV.str [], AV.str [], AV.str [], AV.nilsl, AV.nilsl], AV.agg [AV.int IntKind.i64 (14 : Int), AV.int IntKind.i64 (idF s false (runD s (runD s (runD s (0 : Int) + (1 : Int)) + (1 : Int)) + (1 : Int)))]], []))
                    else
                     none
                 else
                  bif decide (idF s false (runD s (runD s (runD s (0 : Int) + (1 : Int)) + (1 : Int)) + (1 : Int)) < (↑s.length : Int)) then
                   bif decide (idF s false (runD s (runD s (runD s (0 : Int) + (1 : Int)) + (1 : Int)) + (1 : Int)) ≥ (↑s.length : Int)) then
                    some ((AV.tup [AV.agg [AV.str [], AV.str [], AV.str [], AV.nilsl, AV.nilsl], AV.agg [AV.int IntKind.i64 (11 : Int), AV.int IntKind.i64 (idF s false (runD s (runD s (runD s (0 : Int) + (1 : Int)) + (1 : Int)) + (1 : Int)))]], []))
                   else
                    some ((AV.tup [AV.agg [AV.str [], AV.str [], AV.str [], AV.nilsl, AV.nilsl], AV.agg [AV.int IntKind.i64 (10 : Int), AV.int IntKind.i64 (idF s false (runD s (runD s (runD s (0 : Int) + (1 : Int)) + (1 : Int)) + (1 : Int)))]], []))
                  else
                   some ((AV.tup [AV.agg [AV.str (numT s (0 : Int)), AV.str (numT s (runD s (0 : Int) + (1 : Int))), AV.str (numT s (runD s (runD s (0 : Int) + (1 : Int)) + (1 : Int))), AV.nilsl, AV.row 0 1 0 (idL s false (runD s (runD s (runD s (0 : Int) + (1 : Int)) + (1 : Int)) + (1 : Int))).length], AV.agg [AV.int IntKind.i64 (0 : Int), AV.int IntKind.i64 (0 : Int)]], [some (AObj.row 1 (idL s false (runD s (runD s (runD s (0 : Int) + (1 : Int)) + (1 : Int)) + (1 : Int))).length (strF (idL s false (runD s (runD s (runD s (0 : Int) + (1 : Int)) + (1 : Int)) + (1 : Int)))))]))
                else
                 none
               else
                bif decide (runD s (runD s (runD s (0 : Int) + (1 : Int)) + (1 : Int)) < (↑s.length : Int)) then
                 bif decide (runD s (runD s (runD s (0 : Int) + (1 : Int)) + (1 : Int)) ≥ (↑s.length : Int)) then
                  some ((AV.tup [AV.agg [AV.str [], AV.str [], AV.str [], AV.nilsl, AV.nilsl], AV.agg [AV.int IntKind.i64 (11 : Int), AV.int IntKind.i64 (runD s (runD s (runD s (0 : Int) + (1 : Int)) + (1 : Int)))]], []))
                 else
                  some ((AV.tup [AV.agg [AV.str [], AV.str [], AV.str [], AV.nilsl, AV.nilsl], AV.agg [AV.int IntKind.i64 (10 : Int), AV.int IntKind.i64 (runD s (runD s (runD s (0 : Int) + (1 : Int)) + (1 : Int)))]], []))
                else
                 some ((AV.tup [AV.agg [AV.str (numT s (0 : Int)), AV.str (numT s (runD s (0 : Int) + (1 : Int))), AV.str (numT s (runD s (runD s (0 : Int) + (1 : Int)) + (1 : Int))), AV.nilsl, AV.nilsl], AV.agg [AV.int IntKind.i64 (0 : Int), AV.int IntKind.i64 (0 : Int)]], []))
              else
               none
            else
             none
           else
            some ((AV.tup [AV.agg [AV.str [], AV.str [], AV.str [], AV.nilsl, AV.nilsl], AV.agg [AV.int IntKind.i64 (14 : Int), AV.int IntKind.i64 (runD s (runD s (0 : Int) + (1 : Int)) + (1 : Int) + (1 : Int))]], []))
         else
          bif decide (runD s (runD s (0 : Int) + (1 : Int)) ≥ (↑s.length : Int)) then
           some ((AV.tup [AV.agg [AV.str [], AV.str [], AV.str [], AV.nilsl, AV.nilsl], AV.agg [AV.int IntKind.i64 (11 : Int), AV.int IntKind.i64 (runD s (runD s (0 : Int) + (1 : Int)))]], []))
          else
           some ((AV.tup [AV.agg [AV.str [], AV.str [], AV.str [], AV.nilsl, AV.nilsl], AV.agg [AV.int IntKind.i64 (10 : Int), AV.int IntKind.i64 (runD s (runD s (0 : Int) + (1 : Int)))]], []))
        else
         some ((AV.tup [AV.agg [AV.str [], AV.str [], AV.str [], AV.nilsl, AV.nilsl], AV.agg [AV.int IntKind.i64 (14 : Int), AV.int IntKind.i64 (runD s (0 : Int) + (1 : Int) + (1 : Int))]], []))
      else
       bif decide (runD s (0 : Int) ≥ (↑s.length : Int)) then
        some ((AV.tup [AV.agg [AV.str [], AV.str [], AV.str [], AV.nilsl, AV.nilsl], AV.agg [AV.int IntKind.i64 (11 : Int), AV.int IntKind.i64 (runD s (0 : Int))]], []))
       else
        some ((AV.tup [AV.agg [AV.str [], AV.str [], AV.str [], AV.nilsl, AV.nilsl], AV.agg [AV.int IntKind.i64 (10 : Int), AV.int IntKind.i64 (runD s (0 : Int))]], []))
     else
      some ((AV.tup [AV.agg [AV.str [], AV.str [], AV.str [], AV.nilsl, AV.nilsl], AV.agg [AV.int IntKind.i64 (14 : Int), AV.int IntKind.i64 (1 : Int)]], []))
   else
    none := by kernel_rfl

def resP (r : PR) : Option (AV × Hp) := match r with
  | .inl v => (verT v fun p b h => .leaf (.tup [verAV v p b, .agg [.int .i64 0, .int .i64 0]], h)).run
  | .inr x => some (.tup [noVer, .agg [.int .i64 x.1, .int .i64 x.2]], [])

def eP (e a : Int) : Option (AV × Hp) := some (AV.tup [AV.agg [AV.str [], AV.str [], AV.str [], AV.nilsl, AV.nilsl], AV.agg [AV.int IntKind.i64 e, AV.int IntKind.i64 a]], [])

theorem errLeaf (s : List UInt8) (a x b : Int) : (bif decide (a ≥ (s.length : Int)) then eP 11 b else eP x b) = resP (.inr (errAt s a x, b)) := by
  unfold errAt
  by_cases h : a ≥ (s.length : Int)
  · rw [decide_eq_true h, if_pos h]; rfl
  · rw [decide_eq_false h, if_neg h]; rfl

theorem numLeaf {s : List UInt8} {a : Int} {k : List UInt8 → Int → PR} {Z : Option (AV × Hp)} (h : Z = resP (k (numT s a) (runD s a))) :
    (bif numT s a == [] then (bif decide (runD s a ≥ (s.length : Int)) then eP 11 (runD s a) else eP 10 (runD s a)) else bif numB (numT s a) then Z else eP 14 (a + 1)) = resP (numR s a k) := by
  unfold numR
  cases (numT s a == [])
  · cases numB (numT s a)
    · rfl
    · exact h
  · exact errLeaf s (runD s a) 10 (runD s a)

theorem dotLeaf {s : List UInt8} {a : Int} {k : PR} {Z : Option (AV × Hp)} (h : isAt s a 46 = true → Z = resP k) :
    (bif isAt s a 46 then Z else bif decide (a ≥ (s.length : Int)) then eP 11 a else eP 10 a) = resP (dotR s a k) := by
  unfold dotR
  cases hi : isAt s a 46
  · exact errLeaf s a 10 a
  · exact h hi

theorem endLeaf {s : List UInt8} {a : Int} {v : Ver} {Z : Option (AV × Hp)} (h : Z = resP (.inl v)) :
    (bif decide (a < (s.length : Int)) then bif decide (a ≥ (s.length : Int)) then eP 11 a else eP 10 a else Z) = resP (endP s a v) := by
  unfold endP
  by_cases hi : a < (s.length : Int)
  · rw [decide_eq_true hi, decide_eq_false (by omega)]; rfl
  · rw [decide_eq_false hi]; exact h

theorem badT_val {s : List UInt8} {p : Bool} {a er : Int} (h : badT s p a = some er) : er = 10 ∨ er = 11 ∨ er = 14 := by
  unfold badT errAt at h
  simp only [Bool.cond_eq_ite] at h
  (repeat' split at h) <;> first | (cases h; done) | (injection h with h; omega)

theorem idsR_val : ∀ (n : Nat) (y : X32) (er : Int), inv32 y → (y.s.length - y.a).toNat < n → (idsR n y).2 = some er → er = 10 ∨ er = 11 ∨ er = 14
  | 0, y, er, hi, hn, h => by omega
  | n + 1, y, er, hi, hn, h => by
    unfold idsR at h
    cases hb : badT y.s y.p y.a with
    | some e =>
      rw [hb] at h
      simp only at h
      injection h with h; subst h
      exact badT_val hb
    | none =>
      rw [hb] at h
      cases hd : isAt y.s (firstX idB y.s y.a) 46 with
      | false => rw [hd] at h; cases h
      | true =>
        rw [hd] at h
        obtain ⟨hi2, hlt⟩ := nxt_inv y hi hd
        have e : (nxt y).s = y.s := rfl
        have := hi2.2.1
        exact idsR_val n (nxt y) er hi2 (by rw [e] at *; omega) h

theorem idsR_inv : ∀ (n : Nat) (y : X32), inv32 y → inv32 (idsR n y).1 ∧ y.a ≤ (idsR n y).1.a
  | 0, y, hi => ⟨hi, Int.le_refl _⟩
  | n + 1, y, hi => by
    unfold idsR
    cases badT y.s y.p y.a with
    | some e => exact ⟨hi, Int.le_refl _⟩
    | none =>
      cases hd : isAt y.s (firstX idB y.s y.a) 46 with
      | false => exact ⟨hi, Int.le_refl _⟩
      | true =>
        obtain ⟨hi2, hlt⟩ := nxt_inv y hi hd
        obtain ⟨q1, q2⟩ := idsR_inv n (nxt y) hi2
        exact ⟨q1, by simp only [cond_true]; omega⟩

theorem idF_ge {s : List UInt8} {p : Bool} {a : Int} (h0 : 0 ≤ a) (h1 : a ≤ s.length) (h2 : s.length ≤ 64) : a ≤ idF s p a ∧ idF s p a ≤ s.length := by
  obtain ⟨q1, q2⟩ := idsR_inv ((s.length - a).toNat + 1) ⟨s, p, 0, 0, a, []⟩ ⟨h0, h1, by simp only [bnd2]; omega, by simpa using h0⟩
  obtain ⟨k1, _⟩ := idsR_keep ((s.length - a).toNat + 1) ⟨s, p, 0, 0, a, []⟩
  have k1 : (idR s p a).1.s = s := k1
  have q1 : inv32 (idR s p a).1 := q1
  have q2 : a ≤ (idR s p a).1.a := q2
  obtain ⟨r1, r2, _, _⟩ := q1
  rw [k1] at r2
  have := firstX_le (q := idB) (s := s) r1 r2
  unfold idF
  omega

theorem idL_ne (s : List UInt8) (p : Bool) (a : Int) : (idL s p a).isEmpty = false := by
  unfold idL
  cases (idR s p a).1.L <;> rfl

theorem idsLeaf {s : List UInt8} {p : Bool} {a : Int} {k : List (List UInt8) → Int → PR} {Z : Option (AV × Hp)} (h0 : 0 ≤ a) (h1 : a + 1 ≤ s.length) (h2 : s.length ≤ 64) (h : Z = resP (k (idL s p (a + 1)) (idF s p (a + 1)))) :
    (bif decide ((0 : Int) = 0 ∧ (0 : Int) = 0 ∧ 0 ≤ a ∧ a + 1 ≤ (s.length : Int) ∧ s.length ≤ 1073741824) then
      bif (idR s p (a + 1)).2.isSome then
       bif decide ((idR s p (a + 1)).2 = some 10) then eP 10 (idF s p (a + 1)) else bif decide ((idR s p (a + 1)).2 = some 11) then eP 11 (idF s p (a + 1)) else bif decide ((idR s p (a + 1)).2 = some 14) then eP 14 (idF s p (a + 1)) else none
      else Z
     else none) = resP (idsP s p a k) := by
  rw [decide_eq_true (show ((0 : Int) = 0 ∧ (0 : Int) = 0 ∧ 0 ≤ a ∧ a + 1 ≤ (s.length : Int) ∧ s.length ≤ 1073741824) from ⟨rfl, rfl, h0, h1, by omega⟩)]
  unfold idsP
  cases ho : (idR s p (a + 1)).2 with
  | none => exact h
  | some er =>
    have hv := idsR_val ((s.length - (a + 1)).toNat + 1) ⟨s, p, 0, 0, a + 1, []⟩ er ⟨by simp only; omega, h1, by simp only [bnd2]; omega, by simp only [List.length_nil]; omega⟩ (by simp only; omega) ho
    rcases hv with rfl | rfl | rfl <;> rfl

theorem buLeaf {s : List UInt8} {a : Int} {k : List (List UInt8) → Ver} {Z1 Z2 : Option (AV × Hp)} (h0 : 0 ≤ a) (h1 : a ≤ s.length) (h2 : s.length ≤ 64) (hz1 : Z1 = resP (.inl (k (idL s false (a + 1))))) (hz2 : Z2 = resP (.inl (k []))) :
    (bif decide (0 ≤ a) then
      bif isAt s a 43 then
       (bif decide ((0 : Int) = 0 ∧ (0 : Int) = 0 ∧ 0 ≤ a ∧ a + 1 ≤ (s.length : Int) ∧ s.length ≤ 1073741824) then
        bif (idR s false (a + 1)).2.isSome then
         bif decide ((idR s false (a + 1)).2 = some 10) then eP 10 (idF s false (a + 1)) else bif decide ((idR s false (a + 1)).2 = some 11) then eP 11 (idF s false (a + 1)) else bif decide ((idR s false (a + 1)).2 = some 14) then eP 14 (idF s false (a + 1)) else none
        else (bif decide (idF s false (a + 1) < (s.length : Int)) then bif decide (idF s false (a + 1) ≥ (s.length : Int)) then eP 11 (idF s false (a + 1)) else eP 10 (idF s false (a + 1)) else Z1)
       else none)
      else (bif decide (a < (s.length : Int)) then bif decide (a ≥ (s.length : Int)) then eP 11 a else eP 10 a else Z2)
     else none) = resP (buP s a k) := by
  rw [decide_eq_true h0]
  unfold buP
  cases hi : isAt s a 43 with
  | true =>
    have := isAt_lt hi
    exact idsLeaf (k := fun l b => endP s b (k l)) h0 (by omega) h2 (endLeaf hz1)
  | false => exact endLeaf hz2

theorem buLeaf2 {s : List UInt8} {a : Int} {k : List (List UInt8) → Ver} {Z1 Z2 : Option (AV × Hp)} (h0 : 0 ≤ a) (h1 : a ≤ s.length) (h2 : s.length ≤ 64) (hz1 : Z1 = resP (.inl (k (idL s false (a + 1))))) (hz2 : Z2 = resP (.inl (k []))) :
    (bif isAt s a 43 then
       (bif decide ((0 : Int) = 0 ∧ (0 : Int) = 0 ∧ 0 ≤ a ∧ a + 1 ≤ (s.length : Int) ∧ s.length ≤ 1073741824) then
        bif (idR s false (a + 1)).2.isSome then
         bif decide ((idR s false (a + 1)).2 = some 10) then eP 10 (idF s false (a + 1)) else bif decide ((idR s false (a + 1)).2 = some 11) then eP 11 (idF s false (a + 1)) else bif decide ((idR s false (a + 1)).2 = some 14) then eP 14 (idF s false (a + 1)) else none
        else (bif decide (idF s false (a + 1) < (s.length : Int)) then bif decide (idF s false (a + 1) ≥ (s.length : Int)) then eP 11 (idF s false (a + 1)) else eP 10 (idF s false (a + 1)) else Z1)
       else none)
      else (bif decide (a < (s.length : Int)) then bif decide (a ≥ (s.length : Int)) then eP 11 a else eP 10 a else Z2)) = resP (buP s a k) := by
  have := buLeaf h0 h1 h2 hz1 hz2
  rw [decide_eq_true h0] at this
  exact this

theorem tree10 (s : List UInt8) : (evn tabL h10 L10 10 [.str s] []).run = resP (parseS s) := by
  refine (t10 s).trans ?_
  unfold parseS
  by_cases hl : s.length > 64
  · have hl' : (s.length : Int) > 64 := by omega
    rw [decide_eq_true hl, decide_eq_true hl']
    rfl
  have hl' : ¬ (s.length : Int) > 64 := by omega
  have hle : s.length ≤ 64 := by omega
  rw [decide_eq_false hl, decide_eq_false hl', decide_eq_true (show ((0 : Int) = 0 ∧ (0 : Int) = 0 ∧ (0 : Int) = 0 ∧ s = s ∧ (0 : Int) = 0 ∧ (0 : Int) = 0 ∧ (0 : Int) = 0 ∧ s.length ≤ 64) from ⟨rfl, rfl, rfl, rfl, rfl, rfl, rfl, hle⟩)]
  dsimp only [cond_true, cond_false]
  obtain ⟨a1, a2⟩ := runD_ge (s := s) (a := 0) (by omega) (by omega)
  refine numLeaf (k := _) ?_
  refine dotLeaf fun i1 => ?_
  have i1' := isAt_lt i1
  obtain ⟨b1, b2⟩ := runD_ge (s := s) (a := runD s 0 + 1) (by omega) (by omega)
  refine numLeaf (k := _) ?_
  refine dotLeaf fun i2 => ?_
  have i2' := isAt_lt i2
  obtain ⟨c1, c2⟩ := runD_ge (s := s) (a := runD s (runD s 0 + 1) + 1) (by omega) (by omega)
  refine numLeaf (k := _) ?_
  have g0 : (0 : Int) ≤ runD s (runD s (runD s 0 + 1) + 1) := by omega
  rw [decide_eq_true g0]
  dsimp only [cond_true]
  cases hm : isAt s (runD s (runD s (runD s 0 + 1) + 1)) 45 with
  | true =>
    have hm' := isAt_lt hm
    dsimp only [cond_true]
    refine idsLeaf (k := _) g0 (by omega) hle ?_
    obtain ⟨e1, e2⟩ := idF_ge (s := s) (p := true) (a := runD s (runD s (runD s 0 + 1) + 1) + 1) (by omega) (by omega) hle
    refine buLeaf (k := _) (by omega) e2 hle ?_ ?_
    · simp only [resP, verT, T.run, idL_ne, cond_false]; rfl
    · simp only [resP, verT, T.run, idL_ne, cond_false]; rfl
  | false =>
    dsimp only [cond_false]
    refine buLeaf2 (k := _) g0 c2 hle ?_ ?_
    · simp only [resP, verT, T.run, idL_ne, cond_false]; rfl
    · rfl

end Go.Sem
namespace Go.Sem

open Go Go.Proofs Go.Ab

set_option maxRecDepth 100000

set_option linter.unusedVariables false

set_option linter.unusedSimpArgs false

theorem badT_pos {s : List UInt8} {p : Bool} {a er : Int} (h : badT s p a = some er) : er = 10 ∨ er = 11 ∨ er = 14 := badT_val h

def okPR (r : PR) : Prop := match r with
  | .inl _ => True
  | .inr x => x.1 = 10 ∨ x.1 = 11 ∨ x.1 = 12 ∨ x.1 = 14

theorem ok_err {s : List UInt8} {a b : Int} : okPR (.inr (errAt s a 10, b)) := by
  show errAt s a 10 = 10 ∨ errAt s a 10 = 11 ∨ errAt s a 10 = 12 ∨ errAt s a 10 = 14
  unfold errAt
  split <;> simp

theorem ok_num {s : List UInt8} {a : Int} {k : List UInt8 → Int → PR} (h : okPR (k (numT s a) (runD s a))) : okPR (numR s a k) := by
  unfold numR
  cases (numT s a == [])
  · cases numB (numT s a)
    · exact .inr (.inr (.inr rfl))
    · exact h
  · exact ok_err

theorem ok_dot {s : List UInt8} {a : Int} {k : PR} (h : isAt s a 46 = true → okPR k) : okPR (dotR s a k) := by
  unfold dotR
  cases hi : isAt s a 46
  · exact ok_err
  · exact h hi

theorem ok_end {s : List UInt8} {a : Int} {v : Ver} : okPR (endP s a v) := by
  unfold endP
  cases decide (a < (s.length : Int))
  · trivial
  · exact .inl rfl

theorem ok_ids {s : List UInt8} {p : Bool} {a : Int} {k : List (List UInt8) → Int → PR} (h0 : 0 ≤ a) (h1 : a + 1 ≤ s.length) (h2 : s.length ≤ 64) (h : okPR (k (idL s p (a + 1)) (idF s p (a + 1)))) : okPR (idsP s p a k) := by
  unfold idsP
  cases ho : (idR s p (a + 1)).2 with
  | none => exact h
  | some er =>
    have hv := idsR_val ((s.length - (a + 1)).toNat + 1) ⟨s, p, 0, 0, a + 1, []⟩ er ⟨by simp only; omega, h1, by simp only [bnd2]; omega, by simp only [List.length_nil]; omega⟩ (by simp only; omega) ho
    rcases hv with rfl | rfl | rfl
    · exact .inl rfl
    · exact .inr (.inl rfl)
    · exact .inr (.inr (.inr rfl))

theorem ok_bu {s : List UInt8} {a : Int} {k : List (List UInt8) → Ver} (h0 : 0 ≤ a) (h1 : a ≤ s.length) (h2 : s.length ≤ 64) : okPR (buP s a k) := by
  unfold buP
  cases hi : isAt s a 43 with
  | true =>
    have := isAt_lt hi
    exact ok_ids (k := fun l b => endP s b (k l)) h0 (by omega) h2 ok_end
  | false => exact ok_end

theorem parse_ok (s : List UInt8) : okPR (parseS s) := by
  unfold parseS
  by_cases hl : s.length > 64
  · rw [decide_eq_true hl]; exact .inr (.inr (.inl rfl))
  have hle : s.length ≤ 64 := by omega
  rw [decide_eq_false hl]
  dsimp only [cond_false]
  obtain ⟨a1, a2⟩ := runD_ge (s := s) (a := 0) (by omega) (by omega)
  refine ok_num (ok_dot fun i1 => ?_)
  have i1' := isAt_lt i1
  obtain ⟨b1, b2⟩ := runD_ge (s := s) (a := runD s 0 + 1) (by omega) (by omega)
  refine ok_num (ok_dot fun i2 => ?_)
  have i2' := isAt_lt i2
  obtain ⟨c1, c2⟩ := runD_ge (s := s) (a := runD s (runD s 0 + 1) + 1) (by omega) (by omega)
  refine ok_num ?_
  have g0 : (0 : Int) ≤ runD s (runD s (runD s 0 + 1) + 1) := by omega
  cases hm : isAt s (runD s (runD s (runD s 0 + 1) + 1)) 45 with
  | true =>
    rw [cond_true]
    have hm' := isAt_lt hm
    obtain ⟨e1, e2⟩ := idF_ge (s := s) (p := true) (a := runD s (runD s (runD s 0 + 1) + 1) + 1) (by omega) (by omega) hle
    refine ok_ids (k := _) g0 (by omega) hle ?_
    exact ok_bu (k := _) (by omega) e2 hle
  | false => exact ok_bu g0 c2 hle

def verS (v : Ver) : AV := .agg [.str v.mj, .str v.mn, .str v.pt, .sl 1 v.pre.length (strF v.pre), .sl 1 v.bu.length (strF v.bu)]

def c10p : List AV → T AV
  | [.str s] => .leaf (.tup [verS (prVer (parseS s)), .agg [.int .i64 (prErr (parseS s)), .int .i64 (prAt (parseS s))]])
  | _ => .fail

def fz10 : Fz := .tup [.agg [.any, .any, .any, .rows 1, .rows 1], .any]

theorem frz_ver (v : Ver) (p b : AV) (h : Hp) (e a : Int) : (verT v fun p b h => .leaf (.tup [verAV v p b, .agg [.int .i64 e, .int .i64 a]], h)).run.bind (fun r => frz fz10 r.2 r.1) = some (.tup [verS v, .agg [.int .i64 e, .int .i64 a]]) := by
  obtain ⟨a1, a2, a3, l, r⟩ := v
  cases l with
  | nil =>
    cases r with
    | nil => rfl
    | cons y r => simp [verT, T.run, verAV, frz, frzL, fz10, norefA, noref, verS, fromF]
  | cons x l =>
    cases r with
    | nil => simp [verT, T.run, verAV, frz, frzL, fz10, norefA, noref, verS, fromF]
    | cons y r => simp [verT, T.run, verAV, frz, frzL, fz10, norefA, noref, verS, fromF]

theorem s10 : Sound1 Tryd.prog ⟨10, true, pcon c10p⟩ := by
  refine sound_frz okL (hs := H0) (hn := h10) (m := 20) (k := 9) (Λ := L10) fz10 (oneLoop (by kernel_rfl) l10) fun args r hF h => ?_
  unfold c10p at h
  split at h
  · rename_i s
    simp only [T.run_leaf, Option.some.injEq] at h; subst h
    have ht := tree10 s
    cases hp : parseS s with
    | inl v =>
      rw [hp] at ht
      have := frz_ver v .nilsl .nilsl [] 0 0
      obtain ⟨x, h1, h2⟩ := Option.bind_eq_some_iff.1 this
      exact ⟨x.1, x.2, ht.trans h1, h2⟩
    | inr x =>
      rw [hp] at ht
      exact ⟨_, _, ht, rfl⟩
  · cases h

def tabN : Tab := ⟨10, true, pcon c10p⟩ :: tabL

theorem allN : ∀ e, e ∈ tabN → Sound1 Tryd.prog e := sound_mem_tab s10 allL

theorem okN : SoundTab Tryd.prog tabN := soundTab_of allN

theorem t34 (p : Bool) : (evn tabL h34 noLoops 34 [.bool p] []).run =
  some ((AV.fn 35 [AV.ref 0 0], [some (AObj.cells [AV.bool p])])) := by kernel_rfl

def bd (p : Bool) : AV := .fn 35 [.fref 1 fun _ => .bool p]

def c34 : List AV → T AV
  | [.bool p] => .leaf (bd p)
  | _ => .fail

theorem s34 : Sound1 Tryd.prog ⟨34, true, pcon c34⟩ := by
  refine sound_frz okL (hs := H0) (hn := h34) (m := 20) (k := 9) (Λ := noLoops) .cap (fun i hi => anyLoops) fun args r hF h => ?_
  unfold c34 at h
  split at h
  · rename_i p
    simp only [T.run_leaf, Option.some.injEq] at h; subst h
    exact ⟨_, _, t34 p, rfl⟩
  · cases h

def tabN2 : Tab := ⟨34, true, pcon c34⟩ :: tabN

theorem allN2 : ∀ e, e ∈ tabN2 → Sound1 Tryd.prog e := sound_mem_tab s34 allN

theorem okN2 : SoundTab Tryd.prog tabN2 := soundTab_of allN2

/-! ### slices.IndexFunc of texts that are no identifiers -/

noncomputable instance decStrs (f : Nat → Nat → AV) (n : Nat) : Decidable (IsStrs f n) := Classical.propDecidable _

def IsBd (g : Nat → AV) (p : Bool) : Prop := g = fun _ => .bool p

noncomputable instance decBd (g : Nat → AV) (p : Bool) : Decidable (IsBd g p) := Classical.propDecidable _

structure Y58 where
  l : List (List UInt8)
  p : Bool
  i : Int

def en58 (y : Y58) : List AV × Hp := ([.sl 1 y.l.length (strF y.l), bd y.p, .int .i64 y.l.length, .int .i64 y.i], [])

def badI (p : Bool) (l : List (List UInt8)) : Nat := (l.takeWhile (identB p)).length

def o58 (y : Y58) : AX × St := bif (y.l.drop y.i.toNat).all (identB y.p) then
    (.exit 0, { tm := tmOf 19 [(0, .sl 1 y.l.length (strF y.l)), (1, bd y.p), (7, .int .i64 y.l.length), (8, .int .i64 y.l.length), (9, .bool false)], ms := [], hp := [] })
  else (.ret, { tm := tmOf 19 [(4, .int .i64 (y.i + badI y.p (y.l.drop y.i.toNat)))], ms := [], hp := [] })

noncomputable def D58 : List AV → Hp → T (AX × St)
  | [.sl 1 n f, .fn 35 [.fref 1 g], .int .i64 m, .int .i64 i], [] => match g 0 with
    | .bool p => .chk (decide (IsStrs f n ∧ m = n ∧ i = 0 ∧ n ≤ bnd ∧ IsBd g p)) (.br ((strsOf f n).all (identB p))
      (.leaf (.exit 0, { tm := tmOf 19 [(0, .sl 1 n f), (1, .fn 35 [.fref 1 g]), (7, .int .i64 n), (8, .int .i64 n), (9, .bool false)], ms := [], hp := [] }))
      (.leaf (.ret, { tm := tmOf 19 [(4, .int .i64 (badI p (strsOf f n)))], ms := [], hp := [] })))
    | _ => .fail
  | _, _ => .fail

noncomputable def L58 : LoopT := fun k => match Nat.beq k 200031 with
  | true => some (lcon (mbits 387 19) D58)
  | false => none

theorem r58 (y : Y58) : (rdn tabN2 h58 L58 58 0 0 { tm := encGo (mbits 387 19) (en58 y).1, ms := [], hp := (en58 y).2 }).run =
  bif decide (y.i < (↑y.l.length : Int)) then
   bif decide ((0 : Int) ≤ y.i ∧ y.i < (↑y.l.length : Int)) then
    bif !identB y.p (y.l.getD y.i.toNat []) then
     some ((AX.ret, { tm := tmOf 19 [(4, AV.int IntKind.i64 y.i)], ms := [], hp := [] }))
    else
     some ((AX.normal, { tm := tmOf 19 [(0, AV.sl 1 y.l.length (strF y.l)), (1, AV.fn 35 [AV.fref 1 fun x => AV.bool y.p]), (7, AV.int IntKind.i64 (↑y.l.length : Int)), (8, AV.int IntKind.i64 (IntKind.i64.wrap (y.i + (1 : Int))))], ms := [], hp := [] }))
   else
    none
  else
   some ((AX.exit 0, { tm := tmOf 19 [(0, AV.sl 1 y.l.length (strF y.l)), (1, AV.fn 35 [AV.fref 1 fun x => AV.bool y.p]), (7, AV.int IntKind.i64 (↑y.l.length : Int)), (8, AV.int IntKind.i64 y.i), (9, AV.bool false)], ms := [], hp := [] })) := by kernel_rfl

theorem drop_getD {α : Type} {l : List α} {i : Nat} (d : α) (h : i < l.length) : l.drop i = l.getD i d :: l.drop (i + 1) := by
  rw [List.drop_eq_getElem_cons h, List.getD_eq_getElem?_getD, List.getElem?_eq_getElem h]; rfl

theorem rec58 (l : List (List UInt8)) (p : Bool) (r : AX × St) (h3 : l.length ≤ bnd) (h : (T.br (l.all (identB p))
      (.leaf (.exit 0, { tm := tmOf 19 [(0, .sl 1 l.length (strF l)), (1, .fn 35 [.fref 1 fun _ => .bool p]), (7, .int .i64 l.length), (8, .int .i64 l.length), (9, .bool false)], ms := [], hp := [] }))
      (.leaf (.ret, { tm := tmOf 19 [(4, .int .i64 (badI p l))], ms := [], hp := [] }))).run = some r) :
    ∃ y : Y58, (([.sl 1 l.length (strF l), .fn 35 [.fref 1 fun _ => .bool p], .int .i64 l.length, .int .i64 0], []) : List AV × Hp) = en58 y ∧ (0 ≤ y.i ∧ y.i ≤ y.l.length ∧ y.l.length ≤ bnd) ∧ r = o58 y := by
  refine ⟨⟨l, p, 0⟩, rfl, ⟨Int.le_refl _, by simp only; omega, h3⟩, ?_⟩
  rw [T.run_br] at h
  unfold o58
  simp only [Int.toNat_zero, List.drop_zero]
  cases hq : l.all (identB p)
  · rw [hq] at h
    simp only [Int.zero_add]
    exact (Option.some.inj h).symm
  · rw [hq] at h
    exact (Option.some.inj h).symm

theorem l58 : LoopOk Tryd.prog tabN2.pf (fun n => hd Tryd.prog tabN2.pf tabN2.con.run (fun f => (H0 f).to) n 9) h58.to 58 0 none L58 (loopAt Tryd.prog 58 0) := by
  rw [show loopAt Tryd.prog 58 0 = .loop (lbody Tryd.prog 58 0) by kernel_rfl]
  refine loop_con (hdT_le (m := 20) 9) (m := 20) (within_of _ (by rw [show loopsOf (lbody Tryd.prog 58 0) = [] by kernel_rfl]; simp)) (D := D58) (lv := mbits 387 19) (by kernel_rfl)
    en58 o58 (fun y => 0 ≤ y.i ∧ y.i ≤ y.l.length ∧ y.l.length ≤ bnd) (fun y => (y.l.length - y.i).toNat) ?_ ?_
  · intro vs hp r h
    unfold D58 at h
    split at h
    · rename_i n f g m i
      split at h
      · rename_i p hp
        rw [T.run_chk] at h
        split at h
        · rename_i hc
          obtain ⟨h1, rfl, rfl, h3, h4⟩ := of_decide_eq_true hc
          unfold IsBd at h4
          subst h4
          obtain ⟨l, rfl, rfl⟩ := h1
          rw [strsOf_strF] at h
          exact rec58 l p r h3 h
        · cases h
      · cases h
    · cases h
  · rintro ⟨l, p, i⟩ ⟨h0, h1, h2⟩
    simp only at h0 h1 h2
    simp only [bnd] at h2
    have ht := r58 ⟨l, p, i⟩
    simp only at ht
    by_cases hl : i < (l.length : Int)
    · have g1 : decide (i < (l.length : Int)) = true := by simpa using hl
      have g2 : decide ((0 : Int) ≤ i ∧ i < (l.length : Int)) = true := by simp; omega
      rw [g1, g2, w64 (n := i + 1) (by omega) (by omega)] at ht
      simp only [cond_true] at ht
      have hd := drop_getD (l := l) (i := i.toNat) [] (by omega)
      cases hi : identB p (l.getD i.toNat []) with
      | true =>
        left
        rw [hi] at ht
        simp only [Bool.not_true, cond_false] at ht
        refine ⟨⟨l, p, i + 1⟩, ⟨by simp only; omega, by simp only; omega, by simpa only [bnd] using h2⟩, by simp only; omega, ?_, ht⟩
        unfold o58
        simp only
        rw [show (i + 1).toNat = i.toNat + 1 by omega, hd, List.all_cons, hi, Bool.true_and]
        have e : ((i + 1) + (badI p (l.drop (i.toNat + 1)) : Int)) = i + (badI p (l.getD i.toNat [] :: l.drop (i.toNat + 1)) : Int) := by
          unfold badI
          rw [List.takeWhile_cons, hi]
          simp only [if_true, List.length_cons]
          omega
        rw [e]
      | false =>
        right
        rw [hi] at ht
        simp only [Bool.not_false, cond_true] at ht
        have e : o58 ⟨l, p, i⟩ = (AX.ret, { tm := tmOf 19 [(4, AV.int IntKind.i64 i)], ms := [], hp := [] }) := by
          unfold o58
          simp only
          rw [hd, List.all_cons, hi, Bool.false_and]
          unfold badI
          rw [List.takeWhile_cons, hi]
          simp
        rw [e]
        exact ⟨ht, by simp⟩
    · right
      have hi : i = l.length := by omega
      subst hi
      rw [decide_eq_false (Int.lt_irrefl _)] at ht
      simp only [cond_false] at ht
      have e : o58 ⟨l, p, l.length⟩ = (AX.exit 0, { tm := tmOf 19 [(0, AV.sl 1 l.length (strF l)), (1, bd p), (7, AV.int IntKind.i64 l.length), (8, AV.int IntKind.i64 l.length), (9, AV.bool false)], ms := [], hp := [] }) := by
        unfold o58
        simp
      rw [e]
      exact ⟨ht, by simp⟩

theorem t58 (l : List (List UInt8)) (p : Bool) : (evn tabN2 h58 L58 58 [.sl 1 l.length (strF l), bd p] []).run =
  bif decide (IsStrs (strF l) l.length ∧ (↑l.length : Int) = (↑l.length : Int) ∧ (0 : Int) = (0 : Int) ∧ l.length ≤ 4611686018427387903 ∧ IsBd (fun x => AV.bool p) p) then
   bif (strsOf (strF l) l.length).all (identB p) then
    some ((AV.int IntKind.i64 (-1 : Int), []))
   else
    some ((AV.int IntKind.i64 (↑(badI p (strsOf (strF l) l.length)) : Int), []))
  else
   none := by kernel_rfl

def ixB (p : Bool) (l : List (List UInt8)) : Int := bif l.all (identB p) then -1 else badI p l

noncomputable def c58 : List AV → T AV
  | [.sl 1 n f, .fn 35 [.fref 1 g]] => match g 0 with
    | .bool p => .chk (decide (IsStrs f n ∧ IsBd g p)) (.leaf (.int .i64 (ixB p (strsOf f n))))
    | _ => .fail
  | _ => .fail

theorem run58 (l : List (List UInt8)) (p : Bool) (hb : l.length ≤ bnd) : (evn tabN2 h58 L58 58 [.sl 1 l.length (strF l), bd p] []).run = some (.int .i64 (ixB p l), []) := by
  refine (t58 l p).trans ?_
  rw [decide_eq_true (show IsStrs (strF l) l.length ∧ (l.length : Int) = l.length ∧ (0 : Int) = 0 ∧ l.length ≤ 4611686018427387903 ∧ IsBd (fun _ => .bool p) p from ⟨isStrs_strF l, rfl, rfl, hb, rfl⟩), strsOf_strF]
  unfold ixB
  cases l.all (identB p) <;> rfl

theorem s58 : Sound1 Tryd.prog ⟨58, true, pcon c58⟩ := by
  refine sound_pure okN2 (hn := h58) (m := 20) (k := 9) (Λ := L58) (oneLoop (by kernel_rfl) l58) fun args r hF h => ?_
  unfold c58 at h
  split at h
  · rename_i n f g
    split at h
    · rename_i p hp
      rw [T.run_chk] at h
      split at h
      · rename_i hc
        obtain ⟨⟨l, rfl, rfl⟩, hg⟩ := of_decide_eq_true hc
        unfold IsBd at hg
        subst hg
        rw [strsOf_strF] at h
        simp only [T.run_leaf, Option.some.injEq] at h; subst h
        exact run58 l p hF.1.1
      · cases h
    · cases h
  · cases h

def fitL (p : Bool) (l : List (List UInt8)) : Bool := l.all (identB p)

theorem ixB_ge (p : Bool) (l : List (List UInt8)) : decide (ixB p l ≥ 0) = !fitL p l := by
  unfold ixB fitL
  cases l.all (identB p) <;> simp <;> omega

theorem t38 (l : List (List UInt8)) (p : Bool) : (evn (⟨58, true, pcon c58⟩ :: tabN2) h38 noLoops 38 [.sl 1 l.length (strF l), bd p] []).run =
  bif decide (IsStrs (strF l) l.length ∧ IsBd (fun x => AV.bool p) p) then
   some ((AV.bool (decide (ixB p (strsOf (strF l) l.length) ≥ (0 : Int))), []))
  else
   none := by kernel_rfl

noncomputable def c38 : List AV → T AV
  | [.sl 1 n f, .fn 35 [.fref 1 g]] => match g 0 with
    | .bool p => .chk (decide (IsStrs f n ∧ IsBd g p)) (.leaf (.bool (!fitL p (strsOf f n))))
    | _ => .fail
  | _ => .fail

theorem s38 : Sound1 Tryd.prog ⟨38, true, pcon c38⟩ := by
  refine sound_pure (soundTab_of (sound_mem_tab s58 allN2)) (hn := h38) (m := 20) (k := 9) (Λ := noLoops) (fun i hi => anyLoops) fun args r hF h => ?_
  unfold c38 at h
  split at h
  · rename_i n f g
    split at h
    · rename_i p hp
      rw [T.run_chk] at h
      split at h
      · rename_i hc
        obtain ⟨⟨l, rfl, rfl⟩, hg⟩ := of_decide_eq_true hc
        unfold IsBd at hg
        subst hg
        rw [strsOf_strF] at h
        simp only [T.run_leaf, Option.some.injEq] at h; subst h
        refine (t38 l p).trans ?_
        rw [decide_eq_true (show IsStrs (strF l) l.length ∧ IsBd (fun _ => .bool p) p from ⟨isStrs_strF l, rfl⟩), strsOf_strF, ixB_ge]
        rfl
      · cases h
    · cases h
  · cases h

noncomputable def tabN3 : Tab := ⟨38, true, pcon c38⟩ :: tabN2

theorem allN3 : ∀ e, e ∈ tabN3 → Sound1 Tryd.prog e := sound_mem_tab s38 allN2

theorem okN3 : SoundTab Tryd.prog tabN3 := soundTab_of allN3

end Go.Sem
namespace Go.Sem
open Go Go.Proofs Go.Ab
set_option maxRecDepth 100000
set_option linter.unusedVariables false

/-! ### strings.Join: the kit's shelf -/
def renF : Nat → Nat
  | 156 => 57
  | 165 => 78
  | 166 => 79
  | 169 => 80
  | 240 => 89
  | 241 => 90
  | 276 => 96
  | 277 => 97
  | n => n
def renT : Nat → Nat
  | 31 => 25
  | 37 => 67
  | 70 => 81
  | 72 => 83
  | 75 => 85
  | 76 => 86
  | 80 => 52
  | 127 => 93
  | 164 => 102
  | n => n
def renJ : Go.Shelf.Ren := ⟨renF, renT, fun n => n⟩
theorem laysJ : Go.Proofs.Lays.n156 Tryd.prog renJ where
  mixed := by kernel_rfl
  f156 := by kernel_rfl
  f165 := by kernel_rfl
  f166 := by kernel_rfl
  f169 := by kernel_rfl
  f240 := by kernel_rfl
  f241 := by kernel_rfl
  f276 := by kernel_rfl
  f277 := by kernel_rfl
  t0 := by kernel_rfl
  a0 := fun w => by kernel_rfl
  z0 := fun w => by kernel_rfl
  v0 := fun w => by kernel_rfl
  t3 := by kernel_rfl
  a3 := fun w => by kernel_rfl
  z3 := fun w => by kernel_rfl
  v3 := fun w => by kernel_rfl
  t4 := by kernel_rfl
  a4 := fun w => by kernel_rfl
  z4 := fun w => by kernel_rfl
  v4 := fun w => by kernel_rfl
  t9 := by kernel_rfl
  a9 := fun w => by kernel_rfl
  z9 := fun w => by kernel_rfl
  v9 := fun w => by kernel_rfl
  t20 := by kernel_rfl
  a20 := fun w => by kernel_rfl
  z20 := fun w => by kernel_rfl
  v20 := fun w => by kernel_rfl
  t31 := by kernel_rfl
  a31 := fun w => by kernel_rfl
  z31 := fun w => by kernel_rfl
  v31 := fun w => by kernel_rfl
  t37 := by kernel_rfl
  a37 := fun w => by kernel_rfl
  z37 := fun w => by kernel_rfl
  v37 := fun w => by kernel_rfl
  t70 := by kernel_rfl
  a70 := fun w => by kernel_rfl
  z70 := fun w => by kernel_rfl
  v70 := fun w => by kernel_rfl
  t72 := by kernel_rfl
  a72 := fun w => by kernel_rfl
  z72 := fun w => by kernel_rfl
  v72 := fun w => by kernel_rfl
  t75 := by kernel_rfl
  a75 := fun w => by kernel_rfl
  z75 := fun w => by kernel_rfl
  v75 := fun w => by kernel_rfl
  t76 := by kernel_rfl
  a76 := fun w => by kernel_rfl
  z76 := fun w => by kernel_rfl
  v76 := fun w => by kernel_rfl
  t127 := by kernel_rfl
  a127 := fun w => by kernel_rfl
  z127 := fun w => by kernel_rfl
  v127 := fun w => by kernel_rfl
  t164 := by kernel_rfl
  a164 := fun w => by kernel_rfl
  z164 := fun w => by kernel_rfl
  v164 := fun w => by kernel_rfl
theorem extraJ : Builder.Extra Tryd.prog renJ where
  sizeBuilder := by kernel_rfl
  liesBuilder := by kernel_rfl
  t5 := by kernel_rfl
  a5 := fun w => by kernel_rfl
  z5 := fun w => by kernel_rfl
  v5 := fun w => by kernel_rfl
  infoByte := by kernel_rfl
  cellsByte := by kernel_rfl
  sizeByte := by kernel_rfl
  neB5 := by decide

def joinS (l : List (List UInt8)) (sep : List UInt8) : List UInt8 := Go.Lib.join l sep
noncomputable def c57 : List AV → T AV
  | [.sl 1 n f, .str sep] => .chk (decide (IsStrs f n ∧ n ≤ 140737488355328 ∧ (joinS (strsOf f n) sep).length ≤ 281474976710656)) (.leaf (.str (joinS (strsOf f n) sep)))
  | _ => .fail
theorem s57 : Sound1 Tryd.prog ⟨57, true, pcon c57⟩ := by
  refine sound_shelf (by kernel_rfl) fun args r hF h => ?_
  unfold c57 at h
  split at h
  · rename_i n f sep
    rw [T.run_chk] at h
    split at h
    · rename_i hc
      simp only [T.run_leaf, Option.some.injEq] at h; subst h
      obtain ⟨⟨l, rfl, rfl⟩, hn, hj⟩ := of_decide_eq_true hc
      rw [strsOf_strF] at hj ⊢
      refine ⟨rfl, fun X σ w vargs hV => ?_⟩
      obtain ⟨u, us, hu, h1, u2, us2, hu2, h2, h3⟩ := hV
      have hb : (joinS l sep).length ≤ bnd := by simp only [bnd]; omega
      refine ⟨.string ⟨⟨joinS l sep⟩⟩, by simp only [V]; exact ⟨by first | trivial | rfl, hb⟩, ?_⟩
      simp only [V] at h1 h2
      obtain ⟨rfl, hs⟩ := h2
      subst h3
      have hva : vargs = #[u, .string ⟨⟨sep⟩⟩] := by
        rw [hu2] at hu
        exact Array.toList_inj.1 (by simpa using hu)
      subst hva
      have key : ∀ s : List UInt8, (⟨⟨s⟩⟩ : ByteArray).data.toList = s := fun s => rfl
      have hmap : (l.map fun s => (⟨⟨s⟩⟩ : ByteArray)).map (·.data.toList) = l := by
        rw [List.map_map]
        exact (List.map_congr_left fun s _ => rfl).trans (List.map_id l)
      rcases h1.2 with ⟨rfl, hz⟩ | ⟨g, off, cap, rfl, hcap, hg, _, hcells⟩
      · cases l with
        | cons _ _ => simp at hz
        | nil =>
          refine (Any.strings_Join_none laysJ extraJ none 0 ⟨⟨sep⟩⟩ w).mono ?_
          rintro e w' ⟨rfl, rfl⟩
          exact ⟨rfl, Go.RowKit.Below.refl _ _⟩
      · have := Any.strings_Join_48 laysJ extraJ g off cap (l.map fun s => (⟨⟨s⟩⟩ : ByteArray)) ⟨⟨sep⟩⟩ w (strs_cells hcells) hg (by simpa using hn) (by simpa using hcap) (by rw [hmap]; exact hj)
        rw [hmap, List.length_map] at this
        exact this
    · cases h
  · cases h
noncomputable def tabO : Tab := ⟨57, true, pcon c57⟩ :: tabN3
theorem allO : ∀ e, e ∈ tabO → Sound1 Tryd.prog e := sound_mem_tab s57 allN3
theorem okO : SoundTab Tryd.prog tabO := soundTab_of allO
end Go.Sem
namespace Go.Sem

open Go Go.Proofs Go.Ab

set_option maxRecDepth 100000

set_option linter.unusedVariables false

set_option linter.unusedSimpArgs false

/-! ### semver.preOrder -/

def tm41 (l r : List (List UInt8)) : Tm := tmOf 49 [(0, .sl 1 l.length (strF l)), (1, .sl 1 r.length (strF r)), (4, .ref 0 0), (27, .fn 83 [.ref 1 0, .ref 2 0])]

noncomputable def lo41 (st : LoopState) (pe : Option Code) (tm : Tm) : AObj := match loopAt Tryd.prog 41 0 with
  | .rangeFunc _ ps ag bo => .loop 41 st pe tm ps ag bo 3
  | _ => .dfr

noncomputable def hp41 (l r : List (List UInt8)) (o : Int) (st : LoopState) (pe : Option Code) : Hp :=
  [some (.cells [.int .i64 o]), some (.cells [.sl 1 l.length (strF l)]), some (.cells [.sl 1 r.length (strF r)]), some .dfr, some (lo41 st pe (tm41 l r))]

def hs41 : FuncId → HintsT := fun f => match Nat.beq f 83 with
  | true => h83
  | false => ⟨0, [], []⟩

noncomputable abbrev hd41 (k : Nat) : HdT := hdT Tryd.prog tabN.pf tabN.con hs41 20 k

/-- The first place at which two rows of identifiers are not alike, and their order there. -/
def difI : List (List UInt8) → List (List UInt8) → Option (Nat × Int)
  | a :: l, b :: r => bif idO a b != 0 then some (0, idO a b) else (difI l r).map fun x => (x.1 + 1, x.2)
  | _, _ => none

def mnI (l r : List (List UInt8)) : Int := if (r.length : Int) < l.length then r.length else l.length

structure Y83 where
  l : List (List UInt8)
  r : List (List UInt8)
  i : Int

noncomputable def e83 (y : Y83) : List AV × Hp := ([.yield 4, .ref 1 0, .ref 2 0, .int .i64 (mnI y.l y.r), .int .i64 y.i], hp41 y.l y.r 0 .ready none)

noncomputable def oR83 (l r : List (List UInt8)) (n j d : Int) : AX × St := (.ret, { tm := tmOf 25 [(0, .yield 4), (1, .ref 1 0), (2, .ref 2 0), (9, .int .i64 n), (10, .int .i64 j), (23, .bool true)], ms := [], hp := hp41 l r d .done (some .ret) })

noncomputable def oE83 (l r : List (List UInt8)) (n : Int) : AX × St := (.exit 0, { tm := tmOf 25 [(0, .yield 4), (1, .ref 1 0), (2, .ref 2 0), (9, .int .i64 n), (10, .int .i64 n), (11, .bool false)], ms := [], hp := hp41 l r 0 .ready none })

theorem r83 (l r : List (List UInt8)) (i n o : Int) : (roundT Tryd.prog tabN.pf (hd41 8) h83 83 5 none 20 noLoops (lbody Tryd.prog 83 0) { tm := encGo (mbits 1543 25) [.yield 4, .ref 1 0, .ref 2 0, .int .i64 n, .int .i64 i], ms := [], hp := hp41 l r 0 .ready none }).run =
  bif decide (i < n) then
   bif decide ((0 : Int) ≤ i ∧ i < (l.length : Int)) then
    bif decide ((0 : Int) ≤ i ∧ i < (r.length : Int)) then
     bif idO (l.getD i.toNat []) (r.getD i.toNat []) != (0 : Int) then some (oR83 l r n i (idO (l.getD i.toNat []) (r.getD i.toNat [])))
     else some (.normal, { tm := encGo (mbits 1543 25) [.yield 4, .ref 1 0, .ref 2 0, .int .i64 n, .int .i64 (IntKind.i64.wrap (i + 1))], ms := [], hp := hp41 l r 0 .ready none })
    else none
   else none
  else some (.exit 0, { tm := tmOf 25 [(0, .yield 4), (1, .ref 1 0), (2, .ref 2 0), (9, .int .i64 n), (10, .int .i64 i), (11, .bool false)], ms := [], hp := hp41 l r 0 .ready none }) := by kernel_rfl

noncomputable def o83 (y : Y83) : AX × St := match difI (y.l.drop y.i.toNat) (y.r.drop y.i.toNat) with
  | some x => oR83 y.l y.r (mnI y.l y.r) (y.i + x.1) x.2
  | none => oE83 y.l y.r (mnI y.l y.r)

open Classical in
noncomputable def D83 : List AV → Hp → T (AX × St)
  | vs, a :: some (.cells [.sl 1 n f]) :: some (.cells [.sl 1 m g]) :: rest =>
    .chk (decide ((vs, a :: some (.cells [.sl 1 n f]) :: some (.cells [.sl 1 m g]) :: rest) = e83 ⟨strsOf f n, strsOf g m, 0⟩ ∧ (strsOf f n).length ≤ bnd ∧ (strsOf g m).length ≤ bnd))
      (.br (difI (strsOf f n) (strsOf g m)).isSome (.leaf (oR83 (strsOf f n) (strsOf g m) (mnI (strsOf f n) (strsOf g m)) ((difI (strsOf f n) (strsOf g m)).getD (0, 0)).1 ((difI (strsOf f n) (strsOf g m)).getD (0, 0)).2))
        (.leaf (oE83 (strsOf f n) (strsOf g m) (mnI (strsOf f n) (strsOf g m)))))
  | _, _ => .fail

noncomputable def L83 : LoopT := fun k => match Nat.beq k 100032 with
  | true => some (lcon (mbits 1543 25) D83)
  | false => none

theorem mnI_le (l r : List (List UInt8)) : mnI l r ≤ l.length ∧ mnI l r ≤ r.length ∧ (mnI l r = l.length ∨ mnI l r = r.length) := by
  unfold mnI
  split <;> omega

theorem difI_nil {l r : List (List UInt8)} (h : l = [] ∨ r = []) : difI l r = none := by
  rcases h with rfl | rfl
  · rfl
  · cases l <;> rfl

theorem r83' (l r : List (List UInt8)) (i n o : Int) : (roundT Tryd.prog tabN.pf (hd41 8) h83 83 5 none 20 L83 (lbody Tryd.prog 83 0) { tm := encGo (mbits 1543 25) [.yield 4, .ref 1 0, .ref 2 0, .int .i64 n, .int .i64 i], ms := [], hp := hp41 l r 0 .ready none }).run = (roundT Tryd.prog tabN.pf (hd41 8) h83 83 5 none 20 noLoops (lbody Tryd.prog 83 0) { tm := encGo (mbits 1543 25) [.yield 4, .ref 1 0, .ref 2 0, .int .i64 n, .int .i64 i], ms := [], hp := hp41 l r 0 .ready none }).run := by kernel_rfl

theorem l83 : LoopOk Tryd.prog tabN.pf (fun n => hd Tryd.prog tabN.pf tabN.con.run (fun f => (hs41 f).to) n 8) h83.to 83 5 none L83 (loopAt Tryd.prog 83 0) := by
  rw [show loopAt Tryd.prog 83 0 = .loop (lbody Tryd.prog 83 0) by kernel_rfl]
  refine loop_con (hdT_le (m := 20) 8) (m := 20) (within_of _ (by rw [show loopsOf (lbody Tryd.prog 83 0) = [] by kernel_rfl]; simp)) (D := D83) (lv := mbits 1543 25) (by kernel_rfl)
    e83 o83 (fun y => 0 ≤ y.i ∧ y.i ≤ mnI y.l y.r ∧ y.l.length ≤ bnd ∧ y.r.length ≤ bnd) (fun y => (mnI y.l y.r - y.i).toNat) ?_ ?_
  · intro vs hp r h
    unfold D83 at h
    split at h
    · rename_i a n f m g rest
      rw [T.run_chk] at h
      split at h
      · rename_i hc
        simp only [decide_eq_true_eq] at hc
        obtain ⟨h1, h2, h3⟩ := hc
        refine ⟨⟨strsOf f n, strsOf g m, 0⟩, h1, ⟨Int.le_refl _, ?_, h2, h3⟩, ?_⟩
        · have := mnI_le (strsOf f n) (strsOf g m)
          simp only; omega
        · rw [T.run_br] at h
          unfold o83
          simp only [Int.toNat_zero, List.drop_zero]
          cases hq : difI (strsOf f n) (strsOf g m) with
          | none => rw [hq] at h; exact (Option.some.inj h).symm
          | some x =>
            rw [hq] at h
            simp only [Int.zero_add]
            exact (Option.some.inj h).symm
      · cases h
    · cases h
  · rintro ⟨l, r, i⟩ ⟨h0, h1, h2, h3⟩
    simp only at h0 h1 h2 h3
    simp only [bnd] at h2 h3
    obtain ⟨m1, m2, m3⟩ := mnI_le l r
    have ht := (r83' l r i (mnI l r) 0).trans (r83 l r i (mnI l r) 0)
    by_cases hl : i < mnI l r
    · have g1 : decide ((0 : Int) ≤ i ∧ i < (l.length : Int)) = true := by simp; omega
      have g2 : decide ((0 : Int) ≤ i ∧ i < (r.length : Int)) = true := by simp; omega
      rw [decide_eq_true hl, g1, g2, w64 (n := i + 1) (by omega) (by omega)] at ht
      simp only [cond_true] at ht
      have hd1 := drop_getD (l := l) (i := i.toNat) [] (by omega)
      have hd2 := drop_getD (l := r) (i := i.toNat) [] (by omega)
      cases hq : (idO (l.getD i.toNat []) (r.getD i.toNat []) != (0 : Int)) with
      | true =>
        right
        rw [hq] at ht
        simp only [cond_true] at ht
        have e : o83 ⟨l, r, i⟩ = oR83 l r (mnI l r) i (idO (l.getD i.toNat []) (r.getD i.toNat [])) := by
          unfold o83
          simp only [hd1, hd2, difI, hq, cond_true, Int.add_zero, Int.natCast_zero, Int.ofNat_zero]
        rw [e]
        exact ⟨ht, by simp [oR83]⟩
      | false =>
        left
        rw [hq] at ht
        simp only [cond_false] at ht
        refine ⟨⟨l, r, i + 1⟩, ⟨by simp only; omega, by simp only; omega, by simpa only [bnd] using h2, by simpa only [bnd] using h3⟩, by simp only; omega, ?_, ht⟩
        unfold o83
        simp only
        rw [show (i + 1).toNat = i.toNat + 1 by omega, hd1, hd2, difI, hq, cond_false]
        cases difI (l.drop (i.toNat + 1)) (r.drop (i.toNat + 1)) with
        | none => rfl
        | some x =>
          simp only [Option.map_some]
          rw [show (i + 1 + (x.1 : Int)) = i + ((x.1 + 1 : Nat) : Int) by omega]
    · right
      have hi : i = mnI l r := by omega
      rw [decide_eq_false hl] at ht
      simp only [cond_false] at ht
      have e : o83 ⟨l, r, i⟩ = oE83 l r (mnI l r) := by
        unfold o83
        simp only
        rw [difI_nil (by rcases m3 with m3 | m3
                         · left; exact List.drop_eq_nil_of_le (by omega)
                         · right; exact List.drop_eq_nil_of_le (by omega))]
      rw [e]
      rw [hi] at ht
      rw [hi]
      exact ⟨ht, by simp [oE83]⟩

open Classical in
theorem t83 (l r : List (List UInt8)) : (evFnT Tryd.prog tabN.pf (hd41 8) h83 20 L83 83 [.yield 4, .ref 1 0, .ref 2 0] (hp41 l r 0 .ready none)).run =
  bif decide (([.yield 4, .ref 1 0, .ref 2 0, .int .i64 (mnI l r), .int .i64 0], hp41 l r 0 .ready none) = e83 ⟨strsOf (strF l) l.length, strsOf (strF r) r.length, 0⟩ ∧ (strsOf (strF l) l.length).length ≤ bnd ∧ (strsOf (strF r) r.length).length ≤ bnd) then
    bif (difI (strsOf (strF l) l.length) (strsOf (strF r) r.length)).isSome then some (.tup [], hp41 (strsOf (strF l) l.length) (strsOf (strF r) r.length) ((difI (strsOf (strF l) l.length) (strsOf (strF r) r.length)).getD (0, 0)).2 .done (some .ret))
    else some (.tup [], hp41 (strsOf (strF l) l.length) (strsOf (strF r) r.length) 0 .ready none)
  else none := by kernel_rfl

theorem t83' (l r : List (List UInt8)) (h1 : l.length ≤ bnd) (h2 : r.length ≤ bnd) : (evFnT Tryd.prog tabN.pf (hd41 8) h83 20 L83 83 [.yield 4, .ref 1 0, .ref 2 0] (hp41 l r 0 .ready none)).run =
    bif (difI l r).isSome then some (.tup [], hp41 l r ((difI l r).getD (0, 0)).2 .done (some .ret)) else some (.tup [], hp41 l r 0 .ready none) := by
  have h := t83 l r
  rw [Bool.cond_eq_ite, if_pos (by simp only [decide_eq_true_eq, strsOf_strF]; exact ⟨rfl, h1, h2⟩), strsOf_strF, strsOf_strF] at h
  exact h

def st41 (l r : List (List UInt8)) : St := { tm := tm41 l r, ms := [], hp := [some (.cells [.int .i64 0]), some (.cells [.sl 1 l.length (strF l)]), some (.cells [.sl 1 r.length (strF r)])] }

def o41 (l r : List (List UInt8)) (x : AX) (d : Int) : AX × St := (x, { tm := tm41 l r, ms := [3], hp := [some (.cells [.int .i64 d]), some (.cells [.sl 1 l.length (strF l)]), some (.cells [.sl 1 r.length (strF r)]), some .dfr, none] })

open Classical in
noncomputable def D41 (st : St) : T (AX × St) := match st.hp with
  | _ :: some (.cells [.sl 1 n f]) :: some (.cells [.sl 1 m g]) :: _ => .chk (decide (st = st41 (strsOf f n) (strsOf g m) ∧ (strsOf f n).length ≤ bnd ∧ (strsOf g m).length ≤ bnd))
      (.br (difI (strsOf f n) (strsOf g m)).isSome (.leaf (o41 (strsOf f n) (strsOf g m) .ret ((difI (strsOf f n) (strsOf g m)).getD (0, 0)).2)) (.leaf (o41 (strsOf f n) (strsOf g m) .normal 0)))
  | _ => .fail

noncomputable def L41 : LoopT := fun k => match Nat.beq k 650018 with
  | true => some D41
  | false => none

def rfF : Code → Operand
  | .rangeFunc f _ _ _ => f
  | _ => .tmp 0

def rfP : Code → Array Tmp
  | .rangeFunc _ ps _ _ => ps
  | _ => #[]

def rfA : Code → Code
  | .rangeFunc _ _ ag _ => ag
  | _ => .skip

def rfB : Code → Code
  | .rangeFunc _ _ _ bo => bo
  | _ => .skip

theorem rf41 : loopAt Tryd.prog 41 0 = .rangeFunc (rfF (loopAt Tryd.prog 41 0)) (rfP (loopAt Tryd.prog 41 0)) (rfA (loopAt Tryd.prog 41 0)) (rfB (loopAt Tryd.prog 41 0)) := by kernel_rfl

theorem rk41 : rkey (rfB (loopAt Tryd.prog 41 0)) = 650018 := by kernel_rfl

theorem rv41 (l r : List (List UInt8)) : aeval (tm41 l r) (rfF (loopAt Tryd.prog 41 0)) = .fn 83 [.ref 1 0, .ref 2 0] := by kernel_rfl

theorem rh41 (l r : List (List UInt8)) : (st41 l r).hp ++ [some .dfr] ++ [some (.loop 41 .ready none (tm41 l r) (rfP (loopAt Tryd.prog 41 0)) (rfA (loopAt Tryd.prog 41 0)) (rfB (loopAt Tryd.prog 41 0)) (st41 l r).hp.length)] = hp41 l r 0 .ready none := by kernel_rfl

theorem re41a (l r : List (List UInt8)) (d : Int) : rangeEnd ((st41 l r).hp.length + 1) ((st41 l r).hp.length :: (st41 l r).ms) (tm41 l r) (hp41 l r d .done (some .ret)) = some (o41 l r .ret d) := by kernel_rfl

theorem re41b (l r : List (List UInt8)) : rangeEnd ((st41 l r).hp.length + 1) ((st41 l r).hp.length :: (st41 l r).ms) (tm41 l r) (hp41 l r 0 .ready none) = some (o41 l r .normal 0) := by kernel_rfl

theorem l41 : LoopOk Tryd.prog tabN.pf (fun n => hd Tryd.prog tabN.pf tabN.con.run (fun f => (hs41 f).to) n 9) h41.to 41 0 none L41 (loopAt Tryd.prog 41 0) := by
  rw [rf41]
  intro l hl s r hr
  have hl' : l = D41 := by
    rw [rk41] at hl
    simp only [L41] at hl
    exact (Option.some.inj hl).symm
  subst hl'
  unfold D41 at hr
  split at hr
  · rename_i a n f m g rest hs
    rw [T.run_chk] at hr
    split at hr
    · rename_i hc
      simp only [decide_eq_true_eq] at hc
      obtain ⟨hst, hb1, hb2⟩ := hc
      generalize strsOf f n = x at *
      generalize strsOf g m = y at *
      subst hst
      have ht := t83' x y hb1 hb2
      rw [T.run_br] at hr
      have he : enterable Tryd.prog 83 = true := by kernel_rfl
      have hcon : tabN.con.run 83 = none := by kernel_rfl
      cases hq : (difI x y).isSome with
      | true =>
        rw [hq] at ht hr
        simp only [cond_true, if_true, T.run_leaf, Option.some.injEq] at ht hr
        subst hr
        obtain ⟨n0, h0⟩ := evFnT_le (H := fun n => hd Tryd.prog tabN.pf tabN.con.run (fun f => (hs41 f).to) n 8) (hdT_le (m := 20) 8) (within_at (oneLoop (by kernel_rfl) l83)) ht
        refine ⟨n0, fun n hn => ?_⟩
        have h0 := h0 n hn
        unfold evRange
        simp only [show (st41 x y).tm = tm41 x y from rfl, rv41, he, if_true, rh41, hd, hcon]
        have h1 : evFn Tryd.prog tabN.pf (hd Tryd.prog tabN.pf tabN.con.run (fun f => (hs41 f).to) n 8) (hs41 83).to n 83 [AV.yield ((st41 x y).hp.length + 1), AV.ref 1 0, AV.ref 2 0] (hp41 x y 0 .ready none) = _ := h0
        rw [h1]
        exact re41a x y _
      | false =>
        rw [hq] at ht hr
        simp only [cond_false, Bool.false_eq_true, if_false, T.run_leaf, Option.some.injEq] at ht hr
        subst hr
        obtain ⟨n0, h0⟩ := evFnT_le (H := fun n => hd Tryd.prog tabN.pf tabN.con.run (fun f => (hs41 f).to) n 8) (hdT_le (m := 20) 8) (within_at (oneLoop (by kernel_rfl) l83)) ht
        refine ⟨n0, fun n hn => ?_⟩
        have h0 := h0 n hn
        unfold evRange
        simp only [show (st41 x y).tm = tm41 x y from rfl, rv41, he, if_true, rh41, hd, hcon]
        have h1 : evFn Tryd.prog tabN.pf (hd Tryd.prog tabN.pf tabN.con.run (fun f => (hs41 f).to) n 8) (hs41 83).to n 83 [AV.yield ((st41 x y).hp.length + 1), AV.ref 1 0, AV.ref 2 0] (hp41 x y 0 .ready none) = _ := h0
        rw [h1]
        exact re41b x y
    · cases hr
  · cases hr

open Classical in
theorem t41 (l r : List (List UInt8)) : (evFnT Tryd.prog tabN.pf (hd41 9) h41 20 L41 41 [.sl 1 l.length (strF l), .sl 1 r.length (strF r)] []).run =
  bif (l.length : Int) == 0 then some (.int .i64 (IntKind.i64.wrap (truthZ ((l.length : Int) == 0) - truthZ ((r.length : Int) == 0))), [])
  else bif (r.length : Int) == 0 then some (.int .i64 (IntKind.i64.wrap (truthZ ((l.length : Int) == 0) - truthZ ((r.length : Int) == 0))), [])
  else bif decide (st41 l r = st41 (strsOf (strF l) l.length) (strsOf (strF r) r.length) ∧ (strsOf (strF l) l.length).length ≤ bnd ∧ (strsOf (strF r) r.length).length ≤ bnd) then
    bif (difI (strsOf (strF l) l.length) (strsOf (strF r) r.length)).isSome then some (.int .i64 ((difI (strsOf (strF l) l.length) (strsOf (strF r) r.length)).getD (0, 0)).2, [])
    else some (.int .i64 (IntKind.i64.wrap (truthZ (decide (((strsOf (strF l) l.length).length : Int) > ((strsOf (strF r) r.length).length : Int))) - truthZ (decide (((strsOf (strF l) l.length).length : Int) < ((strsOf (strF r) r.length).length : Int))))), [])
  else none := by kernel_rfl

/-- The order of two prereleases. -/
def preO (l r : List (List UInt8)) : Int :=
  bif (l.length : Int) == 0 || (r.length : Int) == 0 then truthZ ((l.length : Int) == 0) - truthZ ((r.length : Int) == 0)
  else bif (difI l r).isSome then ((difI l r).getD (0, 0)).2
  else truthZ (decide ((l.length : Int) > r.length)) - truthZ (decide ((l.length : Int) < r.length))

theorem truthZ_wrap (a b : Bool) : IntKind.i64.wrap (truthZ a - truthZ b) = truthZ a - truthZ b := by cases a <;> cases b <;> rfl

noncomputable def c41 : List AV → T AV
  | [.sl 1 n f, .sl 1 m g] => .chk (decide (IsStrs f n ∧ IsStrs g m)) (.leaf (.int .i64 (preO (strsOf f n) (strsOf g m))))
  | _ => .fail

theorem s41 : Sound1 Tryd.prog ⟨41, true, pcon c41⟩ := by
  refine sound_pureH okN hs41 (hn := h41) (m := 20) (k := 9) (Λ := L41) (oneLoop (by kernel_rfl) l41) fun args r hF h => ?_
  unfold c41 at h
  split at h
  · rename_i n f m g
    rw [T.run_chk] at h
    split at h
    · rename_i hc
      simp only [T.run_leaf, Option.some.injEq] at h; subst h
      obtain ⟨⟨l, rfl, rfl⟩, ⟨r, rfl, rfl⟩⟩ := of_decide_eq_true hc
      have hb1 : l.length ≤ bnd := hF.1.1
      have hb2 : r.length ≤ bnd := hF.2.1.1
      have ht := t41 l r
      rw [strsOf_strF, strsOf_strF]
      refine ht.trans ?_
      clear ht
      unfold preO
      cases e1 : ((l.length : Int) == 0)
      · cases e2 : ((r.length : Int) == 0)
        · simp only [cond_false, Bool.or_self]
          rw [Bool.cond_eq_ite, if_pos (by simp only [decide_eq_true_eq, strsOf_strF]; exact ⟨trivial, hb1, hb2⟩)]
          simp only [strsOf_strF, truthZ_wrap]
          cases (difI l r).isSome <;> rfl
        · rfl
      · cases ((r.length : Int) == 0) <;> rfl
    · cases h
  · cases h

end Go.Sem
namespace Go.Sem

open Go Go.Proofs Go.Ab

set_option maxRecDepth 100000

set_option linter.unusedVariables false

set_option linter.unusedSimpArgs false

/-! ### text, Fit -/

theorem t33 (a b c : List UInt8) (l r : List (List UInt8)) : (evn tabO h33 noLoops 33 [.agg [.str a, .str b, .str c, .sl 1 l.length (strF l), .sl 1 r.length (strF r)]] []).run =
  bif decide (a.length + 1 ≤ 4611686018427387903) then
   bif decide ((a ++ [(46 : UInt8)]).length + b.length ≤ 4611686018427387903) then
    bif decide ((a ++ [(46 : UInt8)] ++ b).length + 1 ≤ 4611686018427387903) then
     bif decide ((a ++ [(46 : UInt8)] ++ b ++ [(46 : UInt8)]).length + c.length ≤ 4611686018427387903) then
      bif decide ((↑l.length : Int) > (0 : Int)) then
       bif decide (IsStrs (strF l) l.length ∧ l.length ≤ 140737488355328 ∧ (joinS (strsOf (strF l) l.length) [(46 : UInt8)]).length ≤ 281474976710656) then
        bif decide (1 + (joinS (strsOf (strF l) l.length) [(46 : UInt8)]).length ≤ 4611686018427387903) then
         bif decide ((a ++ [(46 : UInt8)] ++ b ++ [(46 : UInt8)] ++ c).length + ([(45 : UInt8)] ++ joinS (strsOf (strF l) l.length) [(46 : UInt8)]).length ≤ 4611686018427387903) then
          bif decide ((↑r.length : Int) > (0 : Int)) then
           bif decide (IsStrs (strF r) r.length ∧ r.length ≤ 140737488355328 ∧ (joinS (strsOf (strF r) r.length) [(46 : UInt8)]).length ≤ 281474976710656) then
            bif decide (1 + (joinS (strsOf (strF r) r.length) [(46 : UInt8)]).length ≤ 4611686018427387903) then
             bif decide ((a ++ [(46 : UInt8)] ++ b ++ [(46 : UInt8)] ++ c ++ ([(45 : UInt8)] ++ joinS (strsOf (strF l) l.length) [(46 : UInt8)])).length + ([(43 : UInt8)] ++ joinS (strsOf (strF r) r.length) [(46 : UInt8)]).length ≤ 4611686018427387903) then
              some ((AV.str (a ++ [(46 : UInt8)] ++ b ++ [(46 : UInt8)] ++ c ++ ([(45 : UInt8)] ++ joinS (strsOf (strF l) l.length) [(46 : UInt8)]) ++ ([(43 : UInt8)] ++ joinS (strsOf (strF r) r.length) [(46 : UInt8)])), []))
             else
              none
            else
             none
           else
            none
          else
           some ((AV.str (a ++ [(46 : UInt8)] ++ b ++ [(46 : UInt8)] ++ c ++ ([(45 : UInt8)] ++ joinS (strsOf (strF l) l.length) [(46 : UInt8)])), []))
         else
          none
        else
         none
       else
        none
      else
       bif decide ((↑r.length : Int) > (0 : Int)) then
        bif decide (IsStrs (strF r) r.length ∧ r.length ≤ 140737488355328 ∧ (joinS (strsOf (strF r) r.length) [(46 : UInt8)]).length ≤ 281474976710656) then
         bif decide (1 + (joinS (strsOf (strF r) r.length) [(46 : UInt8)]).length ≤ 4611686018427387903) then
          bif decide ((a ++ [(46 : UInt8)] ++ b ++ [(46 : UInt8)] ++ c).length + ([(43 : UInt8)] ++ joinS (strsOf (strF r) r.length) [(46 : UInt8)]).length ≤ 4611686018427387903) then
           some ((AV.str (a ++ [(46 : UInt8)] ++ b ++ [(46 : UInt8)] ++ c ++ ([(43 : UInt8)] ++ joinS (strsOf (strF r) r.length) [(46 : UInt8)])), []))
          else
           none
         else
          none
        else
         none
       else
        some ((AV.str (a ++ [(46 : UInt8)] ++ b ++ [(46 : UInt8)] ++ c), []))
     else
      none
    else
     none
   else
    none
  else
   none := by kernel_rfl

def sufP (m : UInt8) (l : List (List UInt8)) : List UInt8 := if l = [] then [] else [m] ++ joinS l [46]

def textV (v : Ver) : List UInt8 := v.mj ++ [46] ++ v.mn ++ [46] ++ v.pt ++ sufP 45 v.pre ++ sufP 43 v.bu

def roomL (l : List (List UInt8)) : Prop := l.length ≤ 140737488355328 ∧ (joinS l [46]).length ≤ 281474976710656

instance decRoomL (l : List (List UInt8)) : Decidable (roomL l) := inferInstanceAs (Decidable (_ ∧ _))

def room3 (v : Ver) : Prop := v.mj.length ≤ 281474976710656 ∧ v.mn.length ≤ 281474976710656 ∧ v.pt.length ≤ 281474976710656

instance decRoom3 (v : Ver) : Decidable (room3 v) := inferInstanceAs (Decidable (_ ∧ _ ∧ _))

def roomV (v : Ver) : Prop := room3 v ∧ roomL v.pre ∧ roomL v.bu

instance decRoomV (v : Ver) : Decidable (roomV v) := inferInstanceAs (Decidable (_ ∧ _ ∧ _))

def vOf (a b c : List UInt8) (n : Nat) (f : Nat → Nat → AV) (m : Nat) (g : Nat → Nat → AV) : Ver := ⟨a, b, c, strsOf f n, strsOf g m⟩

theorem t33n (a b c : List UInt8) (l : List (List UInt8)) : (evn tabO h33 noLoops 33 [.agg [.str a, .str b, .str c, .sl 1 l.length (strF l), .nilsl]] []).run =
  bif decide (a.length + 1 ≤ 4611686018427387903) then
   bif decide ((a ++ [(46 : UInt8)]).length + b.length ≤ 4611686018427387903) then
    bif decide ((a ++ [(46 : UInt8)] ++ b).length + 1 ≤ 4611686018427387903) then
     bif decide ((a ++ [(46 : UInt8)] ++ b ++ [(46 : UInt8)]).length + c.length ≤ 4611686018427387903) then
      bif decide ((↑l.length : Int) > (0 : Int)) then
       bif decide (IsStrs (strF l) l.length ∧ l.length ≤ 140737488355328 ∧ (joinS (strsOf (strF l) l.length) [(46 : UInt8)]).length ≤ 281474976710656) then
        bif decide (1 + (joinS (strsOf (strF l) l.length) [(46 : UInt8)]).length ≤ 4611686018427387903) then
         bif decide ((a ++ [(46 : UInt8)] ++ b ++ [(46 : UInt8)] ++ c).length + ([(45 : UInt8)] ++ joinS (strsOf (strF l) l.length) [(46 : UInt8)]).length ≤ 4611686018427387903) then
          some ((AV.str (a ++ [(46 : UInt8)] ++ b ++ [(46 : UInt8)] ++ c ++ ([(45 : UInt8)] ++ joinS (strsOf (strF l) l.length) [(46 : UInt8)])), []))
         else
          none
        else
         none
       else
        none
      else
       some ((AV.str (a ++ [(46 : UInt8)] ++ b ++ [(46 : UInt8)] ++ c), []))
     else
      none
    else
     none
   else
    none
  else
   none := by kernel_rfl

noncomputable def c33 : List AV → T AV
  | [.agg [.str a, .str b, .str c, .sl 1 n f, .nilsl]] => .chk (decide (IsStrs f n ∧ roomV (vOf a b c n f 0 (strF [])))) (.leaf (.str (textV (vOf a b c n f 0 (strF [])))))
  | [.agg [.str a, .str b, .str c, .sl 1 n f, .sl 1 m g]] => .chk (decide (IsStrs f n ∧ IsStrs g m ∧ roomV (vOf a b c n f m g))) (.leaf (.str (textV (vOf a b c n f m g))))
  | _ => .fail

theorem s33 : Sound1 Tryd.prog ⟨33, true, pcon c33⟩ := by
  refine sound_pure okO (hn := h33) (m := 20) (k := 9) (Λ := noLoops) (fun i hi => anyLoops) fun args r hF h => ?_
  unfold c33 at h
  split at h
  · rename_i a b c n f
    rw [T.run_chk] at h
    split at h
    · rename_i hc
      simp only [T.run_leaf, Option.some.injEq] at h; subst h
      obtain ⟨⟨l, rfl, rfl⟩, ⟨⟨q1, q2, q3⟩, ⟨q4, q5⟩, _⟩⟩ := of_decide_eq_true hc
      have e0 : strsOf (strF ([] : List (List UInt8))) 0 = [] := rfl
      simp only [vOf, strsOf_strF, e0] at q1 q2 q3 q4 q5 ⊢
      have ht := t33n a b c l
      have el : (List.length (joinS (strsOf (strF l) l.length) [46])) = (joinS l [46]).length := by rw [strsOf_strF]
      have jl : decide (IsStrs (strF l) l.length ∧ l.length ≤ 140737488355328 ∧ (joinS (strsOf (strF l) l.length) [(46 : UInt8)]).length ≤ 281474976710656) = true := decide_eq_true ⟨isStrs_strF l, q4, by rw [el]; exact q5⟩
      rw [jl] at ht
      rw [strsOf_strF] at ht
      have gl : decide ((l.length : Int) > 0) = !decide (l = []) := by cases l <;> simp <;> omega
      rw [gl] at ht
      simp only [List.length_append, List.length_singleton] at ht
      refine ht.trans ?_
      unfold textV sufP
      clear ht
      by_cases hl : l = []
      all_goals
        simp only [hl, decide_true, decide_false, Bool.not_true, Bool.not_false, cond_true, cond_false, if_true, if_false]
        repeat rw [decide_eq_true (show _ ≤ 4611686018427387903 by omega), cond_true]
        try (first | rfl | simp only [List.append_assoc, List.append_nil])
    · cases h
  · rename_i a b c n f m g
    rw [T.run_chk] at h
    split at h
    · rename_i hc
      simp only [T.run_leaf, Option.some.injEq] at h; subst h
      obtain ⟨⟨l, rfl, rfl⟩, ⟨r, rfl, rfl⟩, ⟨⟨q1, q2, q3⟩, ⟨q4, q5⟩, ⟨q6, q7⟩⟩⟩ := of_decide_eq_true hc
      simp only [vOf, strsOf_strF] at q1 q2 q3 q4 q5 q6 q7 ⊢
      have ht := t33 a b c l r
      have el : (List.length (joinS (strsOf (strF l) l.length) [46])) = (joinS l [46]).length := by rw [strsOf_strF]
      have er : (List.length (joinS (strsOf (strF r) r.length) [46])) = (joinS r [46]).length := by rw [strsOf_strF]
      have jl : decide (IsStrs (strF l) l.length ∧ l.length ≤ 140737488355328 ∧ (joinS (strsOf (strF l) l.length) [(46 : UInt8)]).length ≤ 281474976710656) = true := decide_eq_true ⟨isStrs_strF l, q4, by rw [el]; exact q5⟩
      have jr : decide (IsStrs (strF r) r.length ∧ r.length ≤ 140737488355328 ∧ (joinS (strsOf (strF r) r.length) [(46 : UInt8)]).length ≤ 281474976710656) = true := decide_eq_true ⟨isStrs_strF r, q6, by rw [er]; exact q7⟩
      rw [jl, jr] at ht
      rw [strsOf_strF, strsOf_strF] at ht
      have gl : decide ((l.length : Int) > 0) = !decide (l = []) := by cases l <;> simp <;> omega
      have gr : decide ((r.length : Int) > 0) = !decide (r = []) := by cases r <;> simp <;> omega
      rw [gl, gr] at ht
      simp only [List.length_append, List.length_singleton] at ht
      refine ht.trans ?_
      unfold textV sufP
      clear ht
      by_cases hl : l = [] <;> by_cases hr : r = []
      all_goals
        simp only [hl, hr, decide_true, decide_false, Bool.not_true, Bool.not_false, cond_true, cond_false, if_true, if_false]
        repeat rw [decide_eq_true (show _ ≤ 4611686018427387903 by omega), cond_true]
        try (first | rfl | simp only [List.append_assoc, List.append_nil])
    · cases h
  · cases h

noncomputable def tabQ : Tab := ⟨33, true, pcon c33⟩ :: tabO

theorem allQ : ∀ e, e ∈ tabQ → Sound1 Tryd.prog e := sound_mem_tab s33 allO

theorem okQ : SoundTab Tryd.prog tabQ := soundTab_of allQ

theorem t12 (a b c : List UInt8) (l r : List (List UInt8)) : (evn tabQ h12 noLoops 12 [.agg [.str a, .str b, .str c, .sl 1 l.length (strF l), .sl 1 r.length (strF r)]] []).run =
  bif numB a then
   bif numB b then
    bif numB c then
     bif decide (IsStrs (strF l) l.length ∧ IsBd (fun x => AV.bool true) true) then
      bif !!fitL true (strsOf (strF l) l.length) then
       bif decide (IsStrs (strF r) r.length ∧ IsBd (fun x => AV.bool false) false) then
        bif !!fitL false (strsOf (strF r) r.length) then
         bif decide (IsStrs (strF l) l.length ∧ IsStrs (strF r) r.length ∧ roomV (vOf a b c l.length (strF l) r.length (strF r))) then
          some ((AV.bool (decide ((↑(textV (vOf a b c l.length (strF l) r.length (strF r))).length : Int) ≤ (64 : Int))), []))
         else
          none
        else
         some ((AV.bool false, []))
       else
        none
      else
       some ((AV.bool false, []))
     else
      none
    else
     some ((AV.bool false, []))
   else
    some ((AV.bool false, []))
  else
   some ((AV.bool false, [])) := by kernel_rfl

/-- Is a version one? -/
def fitV (v : Ver) : Bool := numB v.mj && numB v.mn && numB v.pt && fitL true v.pre && fitL false v.bu && decide (((textV v).length : Int) ≤ 64)

noncomputable def c12 : List AV → T AV
  | [.agg [.str a, .str b, .str c, .sl 1 n f, .sl 1 m g]] => .chk (decide (IsStrs f n ∧ IsStrs g m ∧ roomV (vOf a b c n f m g))) (.leaf (.bool (fitV (vOf a b c n f m g))))
  | _ => .fail

theorem s12 : Sound1 Tryd.prog ⟨12, true, pcon c12⟩ := by
  refine sound_pure okQ (hn := h12) (m := 20) (k := 9) (Λ := noLoops) (fun i hi => anyLoops) fun args r hF h => ?_
  unfold c12 at h
  split at h
  · rename_i a b c n f m g
    rw [T.run_chk] at h
    split at h
    · rename_i hc
      simp only [T.run_leaf, Option.some.injEq] at h; subst h
      obtain ⟨⟨l, rfl, rfl⟩, ⟨r, rfl, rfl⟩, hr⟩ := of_decide_eq_true hc
      refine (t12 a b c l r).trans ?_
      rw [decide_eq_true (show IsStrs (strF l) l.length ∧ IsBd (fun x => AV.bool true) true from ⟨isStrs_strF l, rfl⟩), decide_eq_true (show IsStrs (strF r) r.length ∧ IsBd (fun x => AV.bool false) false from ⟨isStrs_strF r, rfl⟩),
        decide_eq_true (show IsStrs (strF l) l.length ∧ IsStrs (strF r) r.length ∧ roomV (vOf a b c l.length (strF l) r.length (strF r)) from ⟨isStrs_strF l, isStrs_strF r, hr⟩)]
      unfold fitV
      simp only [vOf, strsOf_strF]
      cases numB a <;> cases numB b <;> cases numB c <;> cases fitL true l <;> cases fitL false r <;> rfl
    · cases h
  · cases h

noncomputable def tabR : Tab := ⟨12, true, pcon c12⟩ :: tabQ

theorem allR : ∀ e, e ∈ tabR → Sound1 Tryd.prog e := sound_mem_tab s12 allQ

theorem okR : SoundTab Tryd.prog tabR := soundTab_of allR

theorem t11 (a b c : List UInt8) (l r : List (List UInt8)) : (evn tabR h11 noLoops 11 [.agg [.str a, .str b, .str c, .sl 1 l.length (strF l), .sl 1 r.length (strF r)]] []).run =
  bif decide (IsStrs (strF l) l.length ∧ IsStrs (strF r) r.length ∧ roomV (vOf a b c l.length (strF l) r.length (strF r))) then
   bif !fitV (vOf a b c l.length (strF l) r.length (strF r)) then
    some ((AV.str [], []))
   else
    bif decide (IsStrs (strF l) l.length ∧ IsStrs (strF r) r.length ∧ roomV (vOf a b c l.length (strF l) r.length (strF r))) then
     some ((AV.str (textV (vOf a b c l.length (strF l) r.length (strF r))), []))
    else
     none
  else
   none := by kernel_rfl

end Go.Sem

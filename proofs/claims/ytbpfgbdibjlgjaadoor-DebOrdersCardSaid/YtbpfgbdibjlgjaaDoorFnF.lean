/- Lemmas for the claims of this seat (a verified symbolic evaluator, and contracts of functions): own work; no condition. -/
import Derived.Test.YtbpfgbdibjlgjaaDoorFnD
namespace Go.Deb

open Go Go.Proofs Go.Ab

set_option linter.unusedVariables false

set_option linter.unusedSimpArgs false

/-! ### dovetailref04.parse -/

structure Y35 where
  s : List UInt8
  be : Int
  ep : Bool
  da : Int
  op : Bool
  i : Int

def byt (s : List UInt8) (i : Int) : Int := ((s.getD i.toNat 0).toNat : Int)

def isSp (y : Y35) : Bool := byt y.s y.i == 58 && !y.ep && decide (y.da < 0) && adg (y.s.take y.i.toNat)

def nextY (y : Y35) : Option Y35 :=
  bif y.i == y.be && !dig (byt y.s y.i) then none
  else bif isSp y then some { y with be := y.i + 1, ep := true, i := y.i + 1 }
  else bif byt y.s y.i == 58 && y.ep then some { y with op := true, i := y.i + 1 }
  else bif byt y.s y.i == 45 then some { y with da := y.i, op := false, i := y.i + 1 }
  else bif prtB (byt y.s y.i) then some { y with i := y.i + 1 }
  else none

def scanR : Nat → Y35 → Option Int × Y35
  | 0, y => (none, y)
  | n + 1, y => match nextY y with
    | some y' => scanR n y'
    | none => (some y.i, y)

def hp35 : Hp := [some (.cells [.str [], .str [], .str []])]

def e35 (y : Y35) : List AV × Hp := ([.str y.s, .ref 0 0, .int .i64 y.be, .bool y.ep, .int .i64 y.da, .bool y.op, .int .i64 y.i], hp35)

def bad35 (i : Int) : AX × St := (.ret, { tm := tmOf 116 [(2, .ref 0 0), (3, .int .i64 10), (4, .int .i64 i)], ms := [], hp := hp35 })

def dn35 (y : Y35) : AX × St := (.exit 0, { tm := tmOf 116 [(0, .str y.s), (2, .ref 0 0), (5, .int .i64 y.be), (6, .bool y.ep), (7, .int .i64 y.da), (8, .bool y.op), (9, .int .i64 y.s.length), (19, .bool false)], ms := [], hp := hp35 })

def o35 (r : Option Int × Y35) : AX × St := match r.1 with
  | some i => bad35 i
  | none => dn35 r.2

def end35 (y : Y35) : Option Int × Y35 := scanR (y.s.length - y.i).toNat y

def D35 : List AV → Hp → T (AX × St)
  | [.str s, .ref 0 0, .int .i64 be, .bool ep, .int .i64 da, .bool op, .int .i64 i], [some (.cells [.str [], .str [], .str []])] =>
    .chk (decide (0 ≤ i ∧ i ≤ s.length ∧ s.length ≤ bnd)) (.br (end35 ⟨s, be, ep, da, op, i⟩).1.isSome (.leaf (bad35 ((end35 ⟨s, be, ep, da, op, i⟩).1.getD 0))) (.leaf (dn35 (end35 ⟨s, be, ep, da, op, i⟩).2)))
  | _, _ => .fail

def L35 : LoopT := fun k => match Nat.beq k 800109 with
  | true => some (lcon (mbits 997 116) D35)
  | false => none

theorem r35 (y : Y35) : (rdn tabW h35 L35 35 0 0 { tm := encGo (mbits 997 116) (e35 y).1, ms := [], hp := (e35 y).2 }).run =
  bif decide (y.i < (↑y.s.length : Int)) then
   bif decide ((0 : Int) ≤ y.i ∧ y.i < (↑y.s.length : Int)) then
    bif y.i == y.be then
     bif !dig (↑(y.s.getD y.i.toNat (0 : UInt8)).toNat : Int) then
      some ((AX.ret, { tm := tmOf 116 [(2, AV.ref 0 0), (3, AV.int IntKind.i64 (10 : Int)), (4, AV.int IntKind.i64 y.i)], ms := [], hp := [some (AObj.cells [AV.str [], AV.str [], AV.str []])] }))
     else
      bif (↑(y.s.getD y.i.toNat (0 : UInt8)).toNat : Int) == (58 : Int) then
       bif !y.ep then
        bif decide (y.da < (0 : Int)) then
         bif decide ((0 : Int) ≤ y.i ∧ y.i ≤ (↑y.s.length : Int)) then
          bif adg (List.take y.i.toNat y.s) then
           some ((AX.normal, { tm := tmOf 116 [(0, AV.str y.s), (2, AV.ref 0 0), (5, AV.int IntKind.i64 (IntKind.i64.wrap (y.i + (1 : Int)))), (6, AV.bool true), (7, AV.int IntKind.i64 y.da), (8, AV.bool y.op), (9, AV.int IntKind.i64 (IntKind.i64.wrap (y.i + (1 : Int))))], ms := [], hp := [some (AObj.cells [AV.str [], AV.str [], AV.str []])] }))
          else
           bif (↑(y.s.getD y.i.toNat (0 : UInt8)).toNat : Int) == (58 : Int) then
            bif y.ep then
             some ((AX.normal, { tm := tmOf 116 [(0, AV.str y.s), (2, AV.ref 0 0), (5, AV.int IntKind.i64 y.be), (6, AV.bool y.ep), (7, AV.int IntKind.i64 y.da), (8, AV.bool true), (9, AV.int IntKind.i64 (IntKind.i64.wrap (y.i + (1 : Int))))], ms := [], hp := [some (AObj.cells [AV.str [], AV.str [], AV.str []])] }))
            else
             bif (↑(y.s.getD y.i.toNat (0 : UInt8)).toNat : Int) == (45 : Int) then
              some ((AX.normal, { tm := tmOf 116 [(0, AV.str y.s), (2, AV.ref 0 0), (5, AV.int IntKind.i64 y.be), (6, AV.bool y.ep), (7, AV.int IntKind.i64 y.i), (8, AV.bool false), (9, AV.int IntKind.i64 (IntKind.i64.wrap (y.i + (1 : Int))))], ms := [], hp := [some (AObj.cells [AV.str [], AV.str [], AV.str []])] }))
             else
              bif !prtB (↑(y.s.getD y.i.toNat (0 : UInt8)).toNat : Int) then
               some ((AX.ret, { tm := tmOf 116 [(2, AV.ref 0 0), (3, AV.int IntKind.i64 (10 : Int)), (4, AV.int IntKind.i64 y.i)], ms := [], hp := [some (AObj.cells [AV.str [], AV.str [], AV.str []])] }))
              else
               some ((AX.normal, { tm := tmOf 116 [(0, AV.str y.s), (2, AV.ref 0 0), (5, AV.int IntKind.i64 y.be), (6, AV.bool y.ep), (7, AV.int IntKind.i64 y.da), (8, AV.bool y.op), (9, AV.int IntKind.i64 (IntKind.i64.wrap (y.i + (1 : Int))))], ms := [], hp := [some (AObj.cells [AV.str [], AV.str [], AV.str []])] }))
           else
            bif (↑(y.s.getD y.i.toNat (0 : UInt8)).toNat : Int) == (45 : Int) then
             some ((AX.normal, { tm := tmOf 116 [(0, AV.str y.s), (2, AV.ref 0 0), (5, AV.int IntKind.i64 y.be), (6, AV.bool y.ep), (7, AV.int IntKind.i64 y.i), (8, AV.bool false), (9, AV.int IntKind.i64 (IntKind.i64.wrap (y.i + (1 : Int))))], ms := [], hp := [some (AObj.cells [AV.str [], AV.str [], AV.str []])] }))
            else
             bif !prtB (↑(y.s.getD y.i.toNat (0 : UInt8)).toNat : Int) then
              some ((AX.ret, { tm := tmOf 116 [(2, AV.ref 0 0), (3, AV.int IntKind.i64 (10 : Int)), (4, AV.int IntKind.i64 y.i)], ms := [], hp := [some (AObj.cells [AV.str [], AV.str [], AV.str []])] }))
             else
              some ((AX.normal, { tm := tmOf 116 [(0, AV.str y.s), (2, AV.ref 0 0), (5, AV.int IntKind.i64 y.be), (6, AV.bool y.ep), (7, AV.int IntKind.i64 y.da), (8, AV.bool y.op), (9, AV.int IntKind.i64 (IntKind.i64.wrap (y.i + (1 : Int))))], ms := [], hp := [some (AObj.cells [AV.str [], AV.str [], AV.str []])] }))
         else
          none
        else
         bif (↑(y.s.getD y.i.toNat (0 : UInt8)).toNat : Int) == (58 : Int) then
          bif y.ep then
           some ((AX.normal, { tm := tmOf 116 [(0, AV.str y.s), (2, AV.ref 0 0), (5, AV.int IntKind.i64 y.be), (6, AV.bool y.ep), (7, AV.int IntKind.i64 y.da), (8, AV.bool true), (9, AV.int IntKind.i64 (IntKind.i64.wrap (y.i + (1 : Int))))], ms := [], hp := [some (AObj.cells [AV.str [], AV.str [], AV.str []])] }))
          else
           bif (↑(y.s.getD y.i.toNat (0 : UInt8)).toNat : Int) == (45 : Int) then
            some ((AX.normal, { tm := tmOf 116 [(0, AV.str y.s), (2, AV.ref 0 0), (5, AV.int IntKind.i64 y.be), (6, AV.bool y.ep), (7, AV.int IntKind.i64 y.i), (8, AV.bool false), (9, AV.int IntKind.i64 (IntKind.i64.wrap (y.i + (1 : Int))))], ms := [], hp := [some (AObj.cells [AV.str [], AV.str [], AV.str []])] }))
           else
            bif !prtB (↑(y.s.getD y.i.toNat (0 : UInt8)).toNat : Int) then
             some ((AX.ret, { tm := tmOf 116 [(2, AV.ref 0 0), (3, AV.int IntKind.i64 (10 : Int)), (4, AV.int IntKind.i64 y.i)], ms := [], hp := [some (AObj.cells [AV.str [], AV.str [], AV.str []])] }))
            else
             some ((AX.normal, { tm := tmOf 116 [(0, AV.str y.s), (2, AV.ref 0 0), (5, AV.int IntKind.i64 y.be), (6, AV.bool y.ep), (7, AV.int IntKind.i64 y.da), (8, AV.bool y.op), (9, AV.int IntKind.i64 (IntKind.i64.wrap (y.i + (1 : Int))))], ms := [], hp := [some (AObj.cells [AV.str [], AV.str [], AV.str []])] }))
         else
          bif (↑(y.s.getD y.i.toNat (0 : UInt8)).toNat : Int) == (45 : Int) then
           some ((AX.normal, { tm := tmOf 116 [(0, AV.str y.s), (2, AV.ref 0 0), (5, AV.int IntKind.i64 y.be), (6, AV.bool y.ep), (7, AV.int IntKind.i64 y.i), (8, AV.bool false), (9, AV.int IntKind.i64 (IntKind.i64.wrap (y.i + (1 : Int))))], ms := [], hp := [some (AObj.cells [AV.str [], AV.str [], AV.str []])] }))
          else
           bif !prtB (↑(y.s.getD y.i.toNat (0 : UInt8)).toNat : Int) then
            some ((AX.ret, { tm := tmOf 116 [(2, AV.ref 0 0), (3, AV.int IntKind.i64 (10 : Int)), (4, AV.int IntKind.i64 y.i)], ms := [], hp := [some (AObj.cells [AV.str [], AV.str [], AV.str []])] }))
           else
            some ((AX.normal, { tm := tmOf 116 [(0, AV.str y.s), (2, AV.ref 0 0), (5, AV.int IntKind.i64 y.be), (6, AV.bool y.ep), (7, AV.int IntKind.i64 y.da), (8, AV.bool y.op), (9, AV.int IntKind.i64 (IntKind.i64.wrap (y.i + (1 : Int))))], ms := [], hp := [some (AObj.cells [AV.str [], AV.str [], AV.str []])] }))
       else
        bif (↑(y.s.getD y.i.toNat (0 : UInt8)).toNat : Int) == (58 : Int) then
         bif y.ep then
          some ((AX.normal, { tm := tmOf 116 [(0, AV.str y.s), (2, AV.ref 0 0), (5, AV.int IntKind.i64 y.be), (6, AV.bool y.ep), (7, AV.int IntKind.i64 y.da), (8, AV.bool true), (9, AV.int IntKind.i64 (IntKind.i64.wrap (y.i + (1 : Int))))], ms := [], hp := [some (AObj.cells [AV.str [], AV.str [], AV.str []])] }))
         else
          bif (↑(y.s.getD y.i.toNat (0 : UInt8)).toNat : Int) == (45 : Int) then
           some ((AX.normal, { tm := tmOf 116 [(0, AV.str y.s), (2, AV.ref 0 0), (5, AV.int IntKind.i64 y.be), (6, AV.bool y.ep), (7, AV.int IntKind.i64 y.i), (8, AV.bool false), (9, AV.int IntKind.i64 (IntKind.i64.wrap (y.i + (1 : Int))))], ms := [], hp := [some (AObj.cells [AV.str [], AV.str [], AV.str []])] }))
          else
           bif !prtB (↑(y.s.getD y.i.toNat (0 : UInt8)).toNat : Int) then
            some ((AX.ret, { tm := tmOf 116 [(2, AV.ref 0 0), (3, AV.int IntKind.i64 (10 : Int)), (4, AV.int IntKind.i64 y.i)], ms := [], hp := [some (AObj.cells [AV.str [], AV.str [], AV.str []])] }))
           else
            some ((AX.normal, { tm := tmOf 116 [(0, AV.str y.s), (2, AV.ref 0 0), (5, AV.int IntKind.i64 y.be), (6, AV.bool y.ep), (7, AV.int IntKind.i64 y.da), (8, AV.bool y.op), (9, AV.int IntKind.i64 (IntKind.i64.wrap (y.i + (1 : Int))))], ms := [], hp := [some (AObj.cells [AV.str [], AV.str [], AV.str []])] }))
        else
         bif (↑(y.s.getD y.i.toNat (0 : UInt8)).toNat : Int) == (45 : Int) then
          some ((AX.normal, { tm := tmOf 116 [(0, AV.str y.s), (2, AV.ref 0 0), (5, AV.int IntKind.i64 y.be), (6, AV.bool y.ep), (7, AV.int IntKind.i64 y.i), (8, AV.bool false), (9, AV.int IntKind.i64 (IntKind.i64.wrap (y.i + (1 : Int))))], ms := [], hp := [some (AObj.cells [AV.str [], AV.str [], AV.str []])] }))
         else
          bif !prtB (↑(y.s.getD y.i.toNat (0 : UInt8)).toNat : Int) then
           some ((AX.ret, { tm := tmOf 116 [(2, AV.ref 0 0), (3, AV.int IntKind.i64 (10 : Int)), (4, AV.int IntKind.i64 y.i)], ms := [], hp := [some (AObj.cells [AV.str [], AV.str [], AV.str []])] }))
          else
           some ((AX.normal, { tm := tmOf 116 [(0, AV.str y.s), (2, AV.ref 0 0), (5, AV.int IntKind.i64 y.be), (6, AV.bool y.ep), (7, AV.int IntKind.i64 y.da), (8, AV.bool y.op), (9, AV.int IntKind.i64 (IntKind.i64.wrap (y.i + (1 : Int))))], ms := [], hp := [some (AObj.cells [AV.str [], AV.str [], AV.str []])] }))
      else
       bif (↑(y.s.getD y.i.toNat (0 : UInt8)).toNat : Int) == (58 : Int) then
        bif y.ep then
         some ((AX.normal, { tm := tmOf 116 [(0, AV.str y.s), (2, AV.ref 0 0), (5, AV.int IntKind.i64 y.be), (6, AV.bool y.ep), (7, AV.int IntKind.i64 y.da), (8, AV.bool true), (9, AV.int IntKind.i64 (IntKind.i64.wrap (y.i + (1 : Int))))], ms := [], hp := [some (AObj.cells [AV.str [], AV.str [], AV.str []])] }))
        else
         bif (↑(y.s.getD y.i.toNat (0 : UInt8)).toNat : Int) == (45 : Int) then
          some ((AX.normal, { tm := tmOf 116 [(0, AV.str y.s), (2, AV.ref 0 0), (5, AV.int IntKind.i64 y.be), (6, AV.bool y.ep), (7, AV.int IntKind.i64 y.i), (8, AV.bool false), (9, AV.int IntKind.i64 (IntKind.i64.wrap (y.i + (1 : Int))))], ms := [], hp := [some (AObj.cells [AV.str [], AV.str [], AV.str []])] }))
         else
          bif !prtB (↑(y.s.getD y.i.toNat (0 : UInt8)).toNat : Int) then
           some ((AX.ret, { tm := tmOf 116 [(2, AV.ref 0 0), (3, AV.int IntKind.i64 (10 : Int)), (4, AV.int IntKind.i64 y.i)], ms := [], hp := [some (AObj.cells [AV.str [], AV.str [], AV.str []])] }))
          else
           some ((AX.normal, { tm := tmOf 116 [(0, AV.str y.s), (2, AV.ref 0 0), (5, AV.int IntKind.i64 y.be), (6, AV.bool y.ep), (7, AV.int IntKind.i64 y.da), (8, AV.bool y.op), (9, AV.int IntKind.i64 (IntKind.i64.wrap (y.i + (1 : Int))))], ms := [], hp := [some (AObj.cells [AV.str [], AV.str [], AV.str []])] }))
       else
        bif (↑(y.s.getD y.i.toNat (0 : UInt8)).toNat : Int) == (45 : Int) then
         some ((AX.normal, { tm := tmOf 116 [(0, AV.str y.s), (2, AV.ref 0 0), (5, AV.int IntKind.i64 y.be), (6, AV.bool y.ep), (7, AV.int IntKind.i64 y.i), (8, AV.bool false), (9, AV.int IntKind.i64 (IntKind.i64.wrap (y.i + (1 : Int))))], ms := [], hp := [some (AObj.cells [AV.str [], AV.str [], AV.str []])] }))
        else
         bif !prtB (↑(y.s.getD y.i.toNat (0 : UInt8)).toNat : Int) then
          some ((AX.ret, { tm := tmOf 116 [(2, AV.ref 0 0), (3, AV.int IntKind.i64 (10 : Int)), (4, AV.int IntKind.i64 y.i)], ms := [], hp := [some (AObj.cells [AV.str [], AV.str [], AV.str []])] }))
         else
          some ((AX.normal, { tm := tmOf 116 [(0, AV.str y.s), (2, AV.ref 0 0), (5, AV.int IntKind.i64 y.be), (6, AV.bool y.ep), (7, AV.int IntKind.i64 y.da), (8, AV.bool y.op), (9, AV.int IntKind.i64 (IntKind.i64.wrap (y.i + (1 : Int))))], ms := [], hp := [some (AObj.cells [AV.str [], AV.str [], AV.str []])] }))
    else
     bif (↑(y.s.getD y.i.toNat (0 : UInt8)).toNat : Int) == (58 : Int) then
      bif !y.ep then
       bif decide (y.da < (0 : Int)) then
        bif decide ((0 : Int) ≤ y.i ∧ y.i ≤ (↑y.s.length : Int)) then
         bif adg (List.take y.i.toNat y.s) then
          some ((AX.normal, { tm := tmOf 116 [(0, AV.str y.s), (2, AV.ref 0 0), (5, AV.int IntKind.i64 (IntKind.i64.wrap (y.i + (1 : Int)))), (6, AV.bool true), (7, AV.int IntKind.i64 y.da), (8, AV.bool y.op), (9, AV.int IntKind.i64 (IntKind.i64.wrap (y.i + (1 : Int))))], ms := [], hp := [some (AObj.cells [AV.str [], AV.str [], AV.str []])] }))
         else
          bif (↑(y.s.getD y.i.toNat (0 : UInt8)).toNat : Int) == (58 : Int) then
           bif y.ep then
            some ((AX.normal, { tm := tmOf 116 [(0, AV.str y.s), (2, AV.ref 0 0), (5, AV.int IntKind.i64 y.be), (6, AV.bool y.ep), (7, AV.int IntKind.i64 y.da), (8, AV.bool true), (9, AV.int IntKind.i64 (IntKind.i64.wrap (y.i + (1 : Int))))], ms := [], hp := [some (AObj.cells [AV.str [], AV.str [], AV.str []])] }))
           else
            bif (↑(y.s.getD y.i.toNat (0 : UInt8)).toNat : Int) == (45 : Int) then
             some ((AX.normal, { tm := tmOf 116 [(0, AV.str y.s), (2, AV.ref 0 0), (5, AV.int IntKind.i64 y.be), (6, AV.bool y.ep), (7, AV.int IntKind.i64 y.i), (8, AV.bool false), (9, AV.int IntKind.i64 (IntKind.i64.wrap (y.i + (1 : Int))))], ms := [], hp := [some (AObj.cells [AV.str [], AV.str [], AV.str []])] }))
            else
             bif !prtB (↑(y.s.getD y.i.toNat (0 : UInt8)).toNat : Int) then
              some ((AX.ret, { tm := tmOf 116 [(2, AV.ref 0 0), (3, AV.int IntKind.i64 (10 : Int)), (4, AV.int IntKind.i64 y.i)], ms := [], hp := [some (AObj.cells [AV.str [], AV.str [], AV.str []])] }))
             else
              some ((AX.normal, { tm := tmOf 116 [(0, AV.str y.s), (2, AV.ref 0 0), (5, AV.int IntKind.i64 y.be), (6, AV.bool y.ep), (7, AV.int IntKind.i64 y.da), (8, AV.bool y.op), (9, AV.int IntKind.i64 (IntKind.i64.wrap (y.i + (1 : Int))))], ms := [], hp := [some (AObj.cells [AV.str [], AV.str [], AV.str []])] }))
          else
           bif (↑(y.s.getD y.i.toNat (0 : UInt8)).toNat : Int) == (45 : Int) then
            some ((AX.normal, { tm := tmOf 116 [(0, AV.str y.s), (2, AV.ref 0 0), (5, AV.int IntKind.i64 y.be), (6, AV.bool y.ep), (7, AV.int IntKind.i64 y.i), (8, AV.bool false), (9, AV.int IntKind.i64 (IntKind.i64.wrap (y.i + (1 : Int))))], ms := [], hp := [some (AObj.cells [AV.str [], AV.str [], AV.str []])] }))
           else
            bif !prtB (↑(y.s.getD y.i.toNat (0 : UInt8)).toNat : Int) then
             some ((AX.ret, { tm := tmOf 116 [(2, AV.ref 0 0), (3, AV.int IntKind.i64 (10 : Int)), (4, AV.int IntKind.i64 y.i)], ms := [], hp := [some (AObj.cells [AV.str [], AV.str [], AV.str []])] }))
            else
             some ((AX.normal, { tm := tmOf 116 [(0, AV.str y.s), (2, AV.ref 0 0), (5, AV.int IntKind.i64 y.be), (6, AV.bool y.ep), (7, AV.int IntKind.i64 y.da), (8, AV.bool y.op), (9, AV.int IntKind.i64 (IntKind.i64.wrap (y.i + (1 : Int))))], ms := [], hp := [some (AObj.cells [AV.str [], AV.str [], AV.str []])] }))
        else
         none
       else
        bif (↑(y.s.getD y.i.toNat (0 : UInt8)).toNat : Int) == (58 : Int) then
         bif y.ep then
          some ((AX.normal, { tm := tmOf 116 [(0, AV.str y.s), (2, AV.ref 0 0), (5, AV.int IntKind.i64 y.be), (6, AV.bool y.ep), (7, AV.int IntKind.i64 y.da), (8, AV.bool true), (9, AV.int IntKind.i64 (IntKind.i64.wrap (y.i + (1 : Int))))], ms := [], hp := [some (AObj.cells [AV.str [], AV.str [], AV.str []])] }))
         else
          bif (↑(y.s.getD y.i.toNat (0 : UInt8)).toNat : Int) == (45 : Int) then
           some ((AX.normal, { tm := tmOf 116 [(0, AV.str y.s), (2, AV.ref 0 0), (5, AV.int IntKind.i64 y.be), (6, AV.bool y.ep), (7, AV.int IntKind.i64 y.i), (8, AV.bool false), (9, AV.int IntKind.i64 (IntKind.i64.wrap (y.i + (1 : Int))))], ms := [], hp := [some (AObj.cells [AV.str [], AV.str [], AV.str []])] }))
          else
           bif !prtB (↑(y.s.getD y.i.toNat (0 : UInt8)).toNat : Int) then
            some ((AX.ret, { tm := tmOf 116 [(2, AV.ref 0 0), (3, AV.int IntKind.i64 (10 : Int)), (4, AV.int IntKind.i64 y.i)], ms := [], hp := [some (AObj.cells [AV.str [], AV.str [], AV.str []])] }))
           else
            some ((AX.normal, { tm := tmOf 116 [(0, AV.str y.s), (2, AV.ref 0 0), (5, AV.int IntKind.i64 y.be), (6, AV.bool y.ep), (7, AV.int IntKind.i64 y.da), (8, AV.bool y.op), (9, AV.int IntKind.i64 (IntKind.i64.wrap (y.i + (1 : Int))))], ms := [], hp := [some (AObj.cells [AV.str [], AV.str [], AV.str []])] }))
        else
         bif (↑(y.s.getD y.i.toNat (0 : UInt8)).toNat : Int) == (45 : Int) then
          some ((AX.normal, { tm := tmOf 116 [(0, AV.str y.s), (2, AV.ref 0 0), (5, AV.int IntKind.i64 y.be), (6, AV.bool y.ep), (7, AV.int IntKind.i64 y.i), (8, AV.bool false), (9, AV.int IntKind.i64 (IntKind.i64.wrap (y.i + (1 : Int))))], ms := [], hp := [some (AObj.cells [AV.str [], AV.str [], AV.str []])] }))
         else
          bif !prtB (↑(y.s.getD y.i.toNat (0 : UInt8)).toNat : Int) then
           some ((AX.ret, { tm := tmOf 116 [(2, AV.ref 0 0), (3, AV.int IntKind.i64 (10 : Int)), (4, AV.int IntKind.i64 y.i)], ms := [], hp := [some (AObj.cells [AV.str [], AV.str [], AV.str []])] }))
          else
           some ((AX.normal, { tm := tmOf 116 [(0, AV.str y.s), (2, AV.ref 0 0), (5, AV.int IntKind.i64 y.be), (6, AV.bool y.ep), (7, AV.int IntKind.i64 y.da), (8, AV.bool y.op), (9, AV.int IntKind.i64 (IntKind.i64.wrap (y.i + (1 : Int))))], ms := [], hp := [some (AObj.cells [AV.str [], AV.str [], AV.str []])] }))
      else
       bif (↑(y.s.getD y.i.toNat (0 : UInt8)).toNat : Int) == (58 : Int) then
        bif y.ep then
         some ((AX.normal, { tm := tmOf 116 [(0, AV.str y.s), (2, AV.ref 0 0), (5, AV.int IntKind.i64 y.be), (6, AV.bool y.ep), (7, AV.int IntKind.i64 y.da), (8, AV.bool true), (9, AV.int IntKind.i64 (IntKind.i64.wrap (y.i + (1 : Int))))], ms := [], hp := [some (AObj.cells [AV.str [], AV.str [], AV.str []])] }))
        else
         bif (↑(y.s.getD y.i.toNat (0 : UInt8)).toNat : Int) == (45 : Int) then
          some ((AX.normal, { tm := tmOf 116 [(0, AV.str y.s), (2, AV.ref 0 0), (5, AV.int IntKind.i64 y.be), (6, AV.bool y.ep), (7, AV.int IntKind.i64 y.i), (8, AV.bool false), (9, AV.int IntKind.i64 (IntKind.i64.wrap (y.i + (1 : Int))))], ms := [], hp := [some (AObj.cells [AV.str [], AV.str [], AV.str []])] }))
         else
          bif !prtB (↑(y.s.getD y.i.toNat (0 : UInt8)).toNat : Int) then
           some ((AX.ret, { tm := tmOf 116 [(2, AV.ref 0 0), (3, AV.int IntKind.i64 (10 : Int)), (4, AV.int IntKind.i64 y.i)], ms := [], hp := [some (AObj.cells [AV.str [], AV.str [], AV.str []])] }))
          else
           some ((AX.normal, { tm := tmOf 116 [(0, AV.str y.s), (2, AV.ref 0 0), (5, AV.int IntKind.i64 y.be), (6, AV.bool y.ep), (7, AV.int IntKind.i64 y.da), (8, AV.bool y.op), (9, AV.int IntKind.i64 (IntKind.i64.wrap (y.i + (1 : Int))))], ms := [], hp := [some (AObj.cells [AV.str [], AV.str [], AV.str []])] }))
       else
        bif (↑(y.s.getD y.i.toNat (0 : UInt8)).toNat : Int) == (45 : Int) then
         some ((AX.normal, { tm := tmOf 116 [(0, AV.str y.s), (2, AV.ref 0 0), (5, AV.int IntKind.i64 y.be), (6, AV.bool y.ep), (7, AV.int IntKind.i64 y.i), (8, AV.bool false), (9, AV.int IntKind.i64 (IntKind.i64.wrap (y.i + (1 : Int))))], ms := [], hp := [some (AObj.cells [AV.str [], AV.str [], AV.str []])] }))
        else
         bif !prtB (↑(y.s.getD y.i.toNat (0 : UInt8)).toNat : Int) then
          some ((AX.ret, { tm := tmOf 116 [(2, AV.ref 0 0), (3, AV.int IntKind.i64 (10 : Int)), (4, AV.int IntKind.i64 y.i)], ms := [], hp := [some (AObj.cells [AV.str [], AV.str [], AV.str []])] }))
         else
          some ((AX.normal, { tm := tmOf 116 [(0, AV.str y.s), (2, AV.ref 0 0), (5, AV.int IntKind.i64 y.be), (6, AV.bool y.ep), (7, AV.int IntKind.i64 y.da), (8, AV.bool y.op), (9, AV.int IntKind.i64 (IntKind.i64.wrap (y.i + (1 : Int))))], ms := [], hp := [some (AObj.cells [AV.str [], AV.str [], AV.str []])] }))
     else
      bif (↑(y.s.getD y.i.toNat (0 : UInt8)).toNat : Int) == (58 : Int) then
       bif y.ep then
        some ((AX.normal, { tm := tmOf 116 [(0, AV.str y.s), (2, AV.ref 0 0), (5, AV.int IntKind.i64 y.be), (6, AV.bool y.ep), (7, AV.int IntKind.i64 y.da), (8, AV.bool true), (9, AV.int IntKind.i64 (IntKind.i64.wrap (y.i + (1 : Int))))], ms := [], hp := [some (AObj.cells [AV.str [], AV.str [], AV.str []])] }))
       else
        bif (↑(y.s.getD y.i.toNat (0 : UInt8)).toNat : Int) == (45 : Int) then
         some ((AX.normal, { tm := tmOf 116 [(0, AV.str y.s), (2, AV.ref 0 0), (5, AV.int IntKind.i64 y.be), (6, AV.bool y.ep), (7, AV.int IntKind.i64 y.i), (8, AV.bool false), (9, AV.int IntKind.i64 (IntKind.i64.wrap (y.i + (1 : Int))))], ms := [], hp := [some (AObj.cells [AV.str [], AV.str [], AV.str []])] }))
        else
         bif !prtB (↑(y.s.getD y.i.toNat (0 : UInt8)).toNat : Int) then
          some ((AX.ret, { tm := tmOf 116 [(2, AV.ref 0 0), (3, AV.int IntKind.i64 (10 : Int)), (4, AV.int IntKind.i64 y.i)], ms := [], hp := [some (AObj.cells [AV.str [], AV.str [], AV.str []])] }))
         else
          some ((AX.normal, { tm := tmOf 116 [(0, AV.str y.s), (2, AV.ref 0 0), (5, AV.int IntKind.i64 y.be), (6, AV.bool y.ep), (7, AV.int IntKind.i64 y.da), (8, AV.bool y.op), (9, AV.int IntKind.i64 (IntKind.i64.wrap (y.i + (1 : Int))))], ms := [], hp := [some (AObj.cells [AV.str [], AV.str [], AV.str []])] }))
      else
       bif (↑(y.s.getD y.i.toNat (0 : UInt8)).toNat : Int) == (45 : Int) then
        some ((AX.normal, { tm := tmOf 116 [(0, AV.str y.s), (2, AV.ref 0 0), (5, AV.int IntKind.i64 y.be), (6, AV.bool y.ep), (7, AV.int IntKind.i64 y.i), (8, AV.bool false), (9, AV.int IntKind.i64 (IntKind.i64.wrap (y.i + (1 : Int))))], ms := [], hp := [some (AObj.cells [AV.str [], AV.str [], AV.str []])] }))
       else
        bif !prtB (↑(y.s.getD y.i.toNat (0 : UInt8)).toNat : Int) then
         some ((AX.ret, { tm := tmOf 116 [(2, AV.ref 0 0), (3, AV.int IntKind.i64 (10 : Int)), (4, AV.int IntKind.i64 y.i)], ms := [], hp := [some (AObj.cells [AV.str [], AV.str [], AV.str []])] }))
        else
         some ((AX.normal, { tm := tmOf 116 [(0, AV.str y.s), (2, AV.ref 0 0), (5, AV.int IntKind.i64 y.be), (6, AV.bool y.ep), (7, AV.int IntKind.i64 y.da), (8, AV.bool y.op), (9, AV.int IntKind.i64 (IntKind.i64.wrap (y.i + (1 : Int))))], ms := [], hp := [some (AObj.cells [AV.str [], AV.str [], AV.str []])] }))
   else
    none
  else
   some ((AX.exit 0, { tm := tmOf 116 [(0, AV.str y.s), (2, AV.ref 0 0), (5, AV.int IntKind.i64 y.be), (6, AV.bool y.ep), (7, AV.int IntKind.i64 y.da), (8, AV.bool y.op), (9, AV.int IntKind.i64 y.i), (19, AV.bool false)], ms := [], hp := [some (AObj.cells [AV.str [], AV.str [], AV.str []])] })) := by kernel_rfl

theorem round35 (y : Y35) (h0 : 0 ≤ y.i) (h1 : y.i < y.s.length) (hw : IntKind.i64.wrap (y.i + 1) = y.i + 1) : (rdn tabW h35 L35 35 0 0 { tm := encGo (mbits 997 116) (e35 y).1, ms := [], hp := (e35 y).2 }).run =
    match nextY y with
    | some y' => some (.normal, { tm := encGo (mbits 997 116) (e35 y').1, ms := [], hp := (e35 y').2 })
    | none => some (bad35 y.i) := by
  refine (r35 y).trans ?_
  have g1 : decide (y.i < (y.s.length : Int)) = true := by simpa using h1
  have g2 : decide ((0 : Int) ≤ y.i ∧ y.i < (y.s.length : Int)) = true := by simp; omega
  have g3 : decide ((0 : Int) ≤ y.i ∧ y.i ≤ (y.s.length : Int)) = true := by simp; omega
  rw [g1, g2, g3, hw]
  obtain ⟨s, be, ep, da, op, i⟩ := y
  simp only [nextY, isSp, byt, cond_true]
  cases ep
  · cases (i == be) <;> cases dig ((s.getD i.toNat 0).toNat : Int) <;> cases (((s.getD i.toNat 0).toNat : Int) == 58) <;> cases (((s.getD i.toNat 0).toNat : Int) == 45) <;> cases prtB ((s.getD i.toNat 0).toNat : Int) <;> first | rfl | (cases decide (da < 0) <;> cases adg (s.take i.toNat) <;> rfl)
  · cases (i == be) <;> cases dig ((s.getD i.toNat 0).toNat : Int) <;> cases (((s.getD i.toNat 0).toNat : Int) == 58) <;> cases (((s.getD i.toNat 0).toNat : Int) == 45) <;> cases prtB ((s.getD i.toNat 0).toNat : Int) <;> rfl

theorem nextY_i {y y' : Y35} (h : nextY y = some y') : y'.i = y.i + 1 ∧ y'.s = y.s := by
  unfold nextY at h
  simp only [Bool.cond_eq_ite] at h
  (repeat' split at h) <;> first | (cases h; done) | (injection h with h; subst h; exact ⟨rfl, rfl⟩)

theorem end35_step {y : Y35} (h0 : 0 ≤ y.i) (h1 : y.i < y.s.length) : end35 y = match nextY y with
    | some y' => end35 y'
    | none => (some y.i, y) := by
  unfold end35
  obtain ⟨n, hn⟩ : ∃ n, (y.s.length - y.i).toNat = n + 1 := ⟨(y.s.length - y.i).toNat - 1, by omega⟩
  rw [hn]
  simp only [scanR]
  cases h : nextY y with
  | none => rfl
  | some y' =>
    obtain ⟨h2, h3⟩ := nextY_i h
    have : (y'.s.length - y'.i).toNat = n := by rw [h2, h3]; omega
    simp only [this]

theorem l35 : LoopOk Tryd.prog tabW.pf (fun n => hd Tryd.prog tabW.pf tabW.con.run (fun f => (H0 f).to) n 9) h35.to 35 0 none L35 (loopAt Tryd.prog 35 0) := by
  rw [show loopAt Tryd.prog 35 0 = .loop (lbody Tryd.prog 35 0) by kernel_rfl]
  refine loop_con (hdT_le (m := 20) 9) (m := 20) (within_of _ (by rw [show loopsOf (lbody Tryd.prog 35 0) = [] by kernel_rfl]; simp)) (D := D35) (lv := mbits 997 116) (by kernel_rfl)
    e35 (fun y => o35 (end35 y)) (fun y => 0 ≤ y.i ∧ y.i ≤ y.s.length ∧ y.s.length ≤ bnd) (fun y => ((y.s.length : Int) - y.i).toNat) ?_ ?_
  · intro vs hp r h
    unfold D35 at h
    split at h
    · rename_i s be ep da op i
      rw [T.run_chk] at h
      split at h
      · rename_i hc
        have hc := of_decide_eq_true hc
        refine ⟨⟨s, be, ep, da, op, i⟩, rfl, hc, ?_⟩
        rw [T.run_br] at h
        unfold o35
        cases hq : (end35 ⟨s, be, ep, da, op, i⟩).1 with
        | none => rw [hq] at h; exact (Option.some.inj h).symm
        | some k => rw [hq] at h; exact (Option.some.inj h).symm
      · cases h
    · cases h
  · rintro y ⟨h1, h2, h3⟩
    simp only [bnd] at h3
    by_cases hlt : y.i < y.s.length
    · have hr := round35 y h1 hlt (w64 (by omega) (by omega))
      have hs := end35_step h1 hlt
      cases hn : nextY y with
      | some y' =>
        rw [hn] at hr hs
        simp only at hr hs
        obtain ⟨q1, q2⟩ := nextY_i hn
        left
        refine ⟨y', ⟨by omega, by rw [q1, q2]; omega, by rw [q2]; simp only [bnd]; omega⟩, by rw [q1, q2]; omega, by rw [hs], hr⟩
      | none =>
        rw [hn] at hr hs
        simp only at hr hs
        right
        rw [hs]
        exact ⟨hr, by simp [o35, bad35]⟩
    · right
      have hi : y.i = y.s.length := by omega
      have he : end35 y = (none, y) := by
        unfold end35
        have : (y.s.length - y.i).toNat = 0 := by omega
        rw [this]; rfl
      rw [he]
      have hr := r35 y
      rw [show decide (y.i < (y.s.length : Int)) = false by simp; omega] at hr
      simp only [cond_false] at hr
      rw [hi] at hr
      exact ⟨hr.trans rfl, by simp [o35, dn35]⟩

theorem t35 (s : List UInt8) : (evn tabW h35 L35 35 [.str s] []).run =
  bif decide ((↑s.length : Int) > (64 : Int)) then
   some ((AV.tup [AV.agg [AV.str [], AV.str [], AV.str []], AV.int IntKind.i64 (12 : Int), AV.int IntKind.i64 (64 : Int)], []))
  else
   bif decide ((0 : Int) ≤ (0 : Int) ∧ (0 : Int) ≤ (↑s.length : Int) ∧ s.length ≤ 4611686018427387903) then
    bif (end35 { s := s, be := (0 : Int), ep := false, da := (-1 : Int), op := false, i := (0 : Int) }).fst.isSome then
     some ((AV.tup [AV.agg [AV.str [], AV.str [], AV.str []], AV.int IntKind.i64 (10 : Int), AV.int IntKind.i64 ((end35 { s := s, be := (0 : Int), ep := false, da := (-1 : Int), op := false, i := (0 : Int) }).fst.getD (0 : Int))], []))
    else
     bif (↑(end35 { s := s, be := (0 : Int), ep := false, da := (-1 : Int), op := false, i := (0 : Int) }).snd.s.length : Int) == (end35 { s := s, be := (0 : Int), ep := false, da := (-1 : Int), op := false, i := (0 : Int) }).snd.be then
      some ((AV.tup [AV.agg [AV.str [], AV.str [], AV.str []], AV.int IntKind.i64 (11 : Int), AV.int IntKind.i64 (↑(end35 { s := s, be := (0 : Int), ep := false, da := (-1 : Int), op := false, i := (0 : Int) }).snd.s.length : Int)], []))
     else
      bif (end35 { s := s, be := (0 : Int), ep := false, da := (-1 : Int), op := false, i := (0 : Int) }).snd.da == IntKind.i64.wrap ((↑(end35 { s := s, be := (0 : Int), ep := false, da := (-1 : Int), op := false, i := (0 : Int) }).snd.s.length : Int) - (1 : Int)) then
       some ((AV.tup [AV.agg [AV.str [], AV.str [], AV.str []], AV.int IntKind.i64 (11 : Int), AV.int IntKind.i64 (↑(end35 { s := s, be := (0 : Int), ep := false, da := (-1 : Int), op := false, i := (0 : Int) }).snd.s.length : Int)], []))
      else
       bif decide ((end35 { s := s, be := (0 : Int), ep := false, da := (-1 : Int), op := false, i := (0 : Int) }).snd.da ≥ (0 : Int)) then
        bif (end35 { s := s, be := (0 : Int), ep := false, da := (-1 : Int), op := false, i := (0 : Int) }).snd.op then
         some ((AV.tup [AV.agg [AV.str [], AV.str [], AV.str []], AV.int IntKind.i64 (11 : Int), AV.int IntKind.i64 (↑(end35 { s := s, be := (0 : Int), ep := false, da := (-1 : Int), op := false, i := (0 : Int) }).snd.s.length : Int)], []))
        else
         bif decide ((0 : Int) ≤ (end35 { s := s, be := (0 : Int), ep := false, da := (-1 : Int), op := false, i := (0 : Int) }).snd.be ∧ (end35 { s := s, be := (0 : Int), ep := false, da := (-1 : Int), op := false, i := (0 : Int) }).snd.be ≤ (↑(end35 { s := s, be := (0 : Int), ep := false, da := (-1 : Int), op := false, i := (0 : Int) }).snd.s.length : Int)) then
          bif (end35 { s := s, be := (0 : Int), ep := false, da := (-1 : Int), op := false, i := (0 : Int) }).snd.ep then
           bif decide ((0 : Int) ≤ IntKind.i64.wrap ((end35 { s := s, be := (0 : Int), ep := false, da := (-1 : Int), op := false, i := (0 : Int) }).snd.be - (1 : Int)) ∧ IntKind.i64.wrap ((end35 { s := s, be := (0 : Int), ep := false, da := (-1 : Int), op := false, i := (0 : Int) }).snd.be - (1 : Int)) ≤ (↑(end35 { s := s, be := (0 : Int), ep := false, da := (-1 : Int), op := false, i := (0 : Int) }).snd.s.length : Int)) then
            bif decide ((end35 { s := s, be := (0 : Int), ep := false, da := (-1 : Int), op := false, i := (0 : Int) }).snd.da ≥ (0 : Int)) then
             bif decide ((0 : Int) ≤ (end35 { s := s, be := (0 : Int), ep := false, da := (-1 : Int), op := false, i := (0 : Int) }).snd.be ∧ (end35 { s := s, be := (0 : Int), ep := false, da := (-1 : Int), op := false, i := (0 : Int) }).snd.be ≤ (end35 { s := s, be := (0 : Int), ep := false, da := (-1 : Int), op := false, i := (0 : Int) }).snd.da ∧ (end35 { s := s, be := (0 : Int), ep := false, da := (-1 : Int), op := false, i := (0 : Int) }).snd.da ≤ (↑(end35 { s := s, be := (0 : Int), ep := false, da := (-1 : Int), op := false, i := (0 : Int) }).snd.s.length : Int)) then
              bif decide ((0 : Int) ≤ IntKind.i64.wrap ((end35 { s := s, be := (0 : Int), ep := false, da := (-1 : Int), op := false, i := (0 : Int) }).snd.da + (1 : Int)) ∧ IntKind.i64.wrap ((end35 { s := s, be := (0 : Int), ep := false, da := (-1 : Int), op := false, i := (0 : Int) }).snd.da + (1 : Int)) ≤ (↑(end35 { s := s, be := (0 : Int), ep := false, da := (-1 : Int), op := false, i := (0 : Int) }).snd.s.length : Int)) then
               some ((AV.tup [AV.agg [AV.str (trimD (List.take (IntKind.i64.wrap ((end35 { s := s, be := (0 : Int), ep := false, da := (-1 : Int), op := false, i := (0 : Int) }).snd.be - (1 : Int))).toNat (end35 { s := s, be := (0 : Int), ep := false, da := (-1 : Int), op := false, i := (0 : Int) }).snd.s)), AV.str (List.take ((end35 { s := s, be := (0 : Int), ep := false, da := (-1 : Int), op := false, i := (0 : Int) }).snd.da.toNat - (end35 { s := s, be := (0 : Int), ep := false, da := (-1 : Int), op := false, i := (0 : Int) }).snd.be.toNat) (List.drop (end35 { s := s, be := (0 : Int), ep := false, da := (-1 : Int), op := false, i := (0 : Int) }).snd.be.toNat (end35 { s := s, be := (0 : Int), ep := false, da := (-1 : Int), op := false, i := (0 : Int) }).snd.s)), AV.str (List.drop (IntKind.i64.wrap ((end35 { s := s, be := (0 : Int), ep := false, da := (-1 : Int), op := false, i := (0 : Int) }).snd.da + (1 : Int))).toNat (end35 { s := s, be := (0 : Int), ep := false, da := (-1 : Int), op := false, i := (0 : Int) }).snd.s)], AV.int IntKind.i64 (0 : Int), AV.int IntKind.i64 (0 : Int)], []))
              else
               none
             else
              none
            else
             some ((AV.tup [AV.agg [AV.str (trimD (List.take (IntKind.i64.wrap ((end35 { s := s, be := (0 : Int), ep := false, da := (-1 : Int), op := false, i := (0 : Int) }).snd.be - (1 : Int))).toNat (end35 { s := s, be := (0 : Int), ep := false, da := (-1 : Int), op := false, i := (0 : Int) }).snd.s)), AV.str (List.drop (end35 { s := s, be := (0 : Int), ep := false, da := (-1 : Int), op := false, i := (0 : Int) }).snd.be.toNat (end35 { s := s, be := (0 : Int), ep := false, da := (-1 : Int), op := false, i := (0 : Int) }).snd.s), AV.str []], AV.int IntKind.i64 (0 : Int), AV.int IntKind.i64 (0 : Int)], []))
           else
            none
          else
           bif decide ((end35 { s := s, be := (0 : Int), ep := false, da := (-1 : Int), op := false, i := (0 : Int) }).snd.da ≥ (0 : Int)) then
            bif decide ((0 : Int) ≤ (end35 { s := s, be := (0 : Int), ep := false, da := (-1 : Int), op := false, i := (0 : Int) }).snd.be ∧ (end35 { s := s, be := (0 : Int), ep := false, da := (-1 : Int), op := false, i := (0 : Int) }).snd.be ≤ (end35 { s := s, be := (0 : Int), ep := false, da := (-1 : Int), op := false, i := (0 : Int) }).snd.da ∧ (end35 { s := s, be := (0 : Int), ep := false, da := (-1 : Int), op := false, i := (0 : Int) }).snd.da ≤ (↑(end35 { s := s, be := (0 : Int), ep := false, da := (-1 : Int), op := false, i := (0 : Int) }).snd.s.length : Int)) then
             bif decide ((0 : Int) ≤ IntKind.i64.wrap ((end35 { s := s, be := (0 : Int), ep := false, da := (-1 : Int), op := false, i := (0 : Int) }).snd.da + (1 : Int)) ∧ IntKind.i64.wrap ((end35 { s := s, be := (0 : Int), ep := false, da := (-1 : Int), op := false, i := (0 : Int) }).snd.da + (1 : Int)) ≤ (↑(end35 { s := s, be := (0 : Int), ep := false, da := (-1 : Int), op := false, i := (0 : Int) }).snd.s.length : Int)) then
              some ((AV.tup [AV.agg [AV.str [(48 : UInt8)], AV.str (List.take ((end35 { s := s, be := (0 : Int), ep := false, da := (-1 : Int), op := false, i := (0 : Int) }).snd.da.toNat - (end35 { s := s, be := (0 : Int), ep := false, da := (-1 : Int), op := false, i := (0 : Int) }).snd.be.toNat) (List.drop (end35 { s := s, be := (0 : Int), ep := false, da := (-1 : Int), op := false, i := (0 : Int) }).snd.be.toNat (end35 { s := s, be := (0 : Int), ep := false, da := (-1 : Int), op := false, i := (0 : Int) }).snd.s)), AV.str (List.drop (IntKind.i64.wrap ((end35 { s := s, be := (0 : Int), ep := false, da := (-1 : Int), op := false, i := (0 : Int) }).snd.da + (1 : Int))).toNat (end35 { s := s, be := (0 : Int), ep := false, da := (-1 : Int), op := false, i := (0 : Int) }).snd.s)], AV.int IntKind.i64 (0 : Int), AV.int IntKind.i64 (0 : Int)], []))
             else
              none
            else
             none
           else
            some ((AV.tup [AV.agg [AV.str [(48 : UInt8)], AV.str (List.drop (end35 { s := s, be := (0 : Int), ep := false, da := (-1 : Int), op := false, i := (0 : Int) }).snd.be.toNat (end35 { s := s, be := (0 : Int), ep := false, da := (-1 : Int), op := false, i := (0 : Int) }).snd.s), AV.str []], AV.int IntKind.i64 (0 : Int), AV.int IntKind.i64 (0 : Int)], []))
         else
          none
       else
        bif decide ((0 : Int) ≤ (end35 { s := s, be := (0 : Int), ep := false, da := (-1 : Int), op := false, i := (0 : Int) }).snd.be ∧ (end35 { s := s, be := (0 : Int), ep := false, da := (-1 : Int), op := false, i := (0 : Int) }).snd.be ≤ (↑(end35 { s := s, be := (0 : Int), ep := false, da := (-1 : Int), op := false, i := (0 : Int) }).snd.s.length : Int)) then
         bif (end35 { s := s, be := (0 : Int), ep := false, da := (-1 : Int), op := false, i := (0 : Int) }).snd.ep then
          bif decide ((0 : Int) ≤ IntKind.i64.wrap ((end35 { s := s, be := (0 : Int), ep := false, da := (-1 : Int), op := false, i := (0 : Int) }).snd.be - (1 : Int)) ∧ IntKind.i64.wrap ((end35 { s := s, be := (0 : Int), ep := false, da := (-1 : Int), op := false, i := (0 : Int) }).snd.be - (1 : Int)) ≤ (↑(end35 { s := s, be := (0 : Int), ep := false, da := (-1 : Int), op := false, i := (0 : Int) }).snd.s.length : Int)) then
           bif decide ((end35 { s := s, be := (0 : Int), ep := false, da := (-1 : Int), op := false, i := (0 : Int) }).snd.da ≥ (0 : Int)) then
            bif decide ((0 : Int) ≤ (end35 { s := s, be := (0 : Int), ep := false, da := (-1 : Int), op := false, i := (0 : Int) }).snd.be ∧ (end35 { s := s, be := (0 : Int), ep := false, da := (-1 : Int), op := false, i := (0 : Int) }).snd.be ≤ (end35 { s := s, be := (0 : Int), ep := false, da := (-1 : Int), op := false, i := (0 : Int) }).snd.da ∧ (end35 { s := s, be := (0 : Int), ep := false, da := (-1 : Int), op := false, i := (0 : Int) }).snd.da ≤ (↑(end35 { s := s, be := (0 : Int), ep := false, da := (-1 : Int), op := false, i := (0 : Int) }).snd.s.length : Int)) then
             bif decide ((0 : Int) ≤ IntKind.i64.wrap ((end35 { s := s, be := (0 : Int), ep := false, da := (-1 : Int), op := false, i := (0 : Int) }).snd.da + (1 : Int)) ∧ IntKind.i64.wrap ((end35 { s := s, be := (0 : Int), ep := false, da := (-1 : Int), op := false, i := (0 : Int) }).snd.da + (1 : Int)) ≤ (↑(end35 { s := s, be := (0 : Int), ep := false, da := (-1 : Int), op := false, i := (0 : Int) }).snd.s.length : Int)) then
              some ((AV.tup [AV.agg [AV.str (trimD (List.take (IntKind.i64.wrap ((end35 { s := s, be := (0 : Int), ep := false, da := (-1 : Int), op := false, i := (0 : Int) }).snd.be - (1 : Int))).toNat (end35 { s := s, be := (0 : Int), ep := false, da := (-1 : Int), op := false, i := (0 : Int) }).snd.s)), AV.str (List.take ((end35 { s := s, be := (0 : Int), ep := false, da := (-1 : Int), op := false, i := (0 : Int) }).snd.da.toNat - (end35 { s := s, be := (0 : Int), ep := false, da := (-1 : Int), op := false, i := (0 : Int) }).snd.be.toNat) (List.drop (end35 { s := s, be := (0 : Int), ep := false, da := (-1 : Int), op := false, i := (0 : Int) }).snd.be.toNat (end35 { s := s, be := (0 : Int), ep := false, da := (-1 : Int), op := false, i := (0 : Int) }).snd.s)), AV.str (List.drop (IntKind.i64.wrap ((end35 { s := s, be := (0 : Int), ep := false, da := (-1 : Int), op := false, i := (0 : Int) }).snd.da + (1 : Int))).toNat (end35 { s := s, be := (0 : Int), ep := false, da := (-1 : Int), op := false, i := (0 : Int) }).snd.s)], AV.int IntKind.i64 (0 : Int), AV.int IntKind.i64 (0 : Int)], []))
             else
              none
            else
             none
           else
            some ((AV.tup [AV.agg [AV.str (trimD (List.take (IntKind.i64.wrap ((end35 { s := s, be := (0 : Int), ep := false, da := (-1 : Int), op := false, i := (0 : Int) }).snd.be - (1 : Int))).toNat (end35 { s := s, be := (0 : Int), ep := false, da := (-1 : Int), op := false, i := (0 : Int) }).snd.s)), AV.str (List.drop (end35 { s := s, be := (0 : Int), ep := false, da := (-1 : Int), op := false, i := (0 : Int) }).snd.be.toNat (end35 { s := s, be := (0 : Int), ep := false, da := (-1 : Int), op := false, i := (0 : Int) }).snd.s), AV.str []], AV.int IntKind.i64 (0 : Int), AV.int IntKind.i64 (0 : Int)], []))
          else
           none
         else
          bif decide ((end35 { s := s, be := (0 : Int), ep := false, da := (-1 : Int), op := false, i := (0 : Int) }).snd.da ≥ (0 : Int)) then
           bif decide ((0 : Int) ≤ (end35 { s := s, be := (0 : Int), ep := false, da := (-1 : Int), op := false, i := (0 : Int) }).snd.be ∧ (end35 { s := s, be := (0 : Int), ep := false, da := (-1 : Int), op := false, i := (0 : Int) }).snd.be ≤ (end35 { s := s, be := (0 : Int), ep := false, da := (-1 : Int), op := false, i := (0 : Int) }).snd.da ∧ (end35 { s := s, be := (0 : Int), ep := false, da := (-1 : Int), op := false, i := (0 : Int) }).snd.da ≤ (↑(end35 { s := s, be := (0 : Int), ep := false, da := (-1 : Int), op := false, i := (0 : Int) }).snd.s.length : Int)) then
            bif decide ((0 : Int) ≤ IntKind.i64.wrap ((end35 { s := s, be := (0 : Int), ep := false, da := (-1 : Int), op := false, i := (0 : Int) }).snd.da + (1 : Int)) ∧ IntKind.i64.wrap ((end35 { s := s, be := (0 : Int), ep := false, da := (-1 : Int), op := false, i := (0 : Int) }).snd.da + (1 : Int)) ≤ (↑(end35 { s := s, be := (0 : Int), ep := false, da := (-1 : Int), op := false, i := (0 : Int) }).snd.s.length : Int)) then
             some ((AV.tup [AV.agg [AV.str [(48 : UInt8)], AV.str (List.take ((end35 { s := s, be := (0 : Int), ep := false, da := (-1 : Int), op := false, i := (0 : Int) }).snd.da.toNat - (end35 { s := s, be := (0 : Int), ep := false, da := (-1 : Int), op := false, i := (0 : Int) }).snd.be.toNat) (List.drop (end35 { s := s, be := (0 : Int), ep := false, da := (-1 : Int), op := false, i := (0 : Int) }).snd.be.toNat (end35 { s := s, be := (0 : Int), ep := false, da := (-1 : Int), op := false, i := (0 : Int) }).snd.s)), AV.str (List.drop (IntKind.i64.wrap ((end35 { s := s, be := (0 : Int), ep := false, da := (-1 : Int), op := false, i := (0 : Int) }).snd.da + (1 : Int))).toNat (end35 { s := s, be := (0 : Int), ep := false, da := (-1 : Int), op := false, i := (0 : Int) }).snd.s)], AV.int IntKind.i64 (0 : Int), AV.int IntKind.i64 (0 : Int)], []))
            else
             none
           else
            none
          else
           some ((AV.tup [AV.agg [AV.str [(48 : UInt8)], AV.str (List.drop (end35 { s := s, be := (0 : Int), ep := false, da := (-1 : Int), op := false, i := (0 : Int) }).snd.be.toNat (end35 { s := s, be := (0 : Int), ep := false, da := (-1 : Int), op := false, i := (0 : Int) }).snd.s), AV.str []], AV.int IntKind.i64 (0 : Int), AV.int IntKind.i64 (0 : Int)], []))
        else
         none
   else
    none := by kernel_rfl

/-! ### the scan, told -/

def lastFrom (s : List UInt8) (da i : Int) : Int := if i ≤ lastN s 45 s.length then lastN s 45 s.length else da

/-- No colon parts an epoch at i or behind it, whatever the last dash. -/
def NoSp (s : List UInt8) (ep : Bool) (i : Int) : Prop := ep = true ∨ ∀ j : Int, i ≤ j → byt s j = 58 → adg (s.take j.toNat) = false

def opFrom (s : List UInt8) (ep op : Bool) (i : Int) : Bool := if i ≤ lastN s 45 s.length then ep && decide ((58 : UInt8) ∈ s.drop (lastN s 45 s.length + 1).toNat) else op || (ep && decide ((58 : UInt8) ∈ s.drop i.toNat))

theorem byt58 {s : List UInt8} {i : Int} : byt s i = 58 ↔ s.getD i.toNat 0 = 58 := b58

theorem byt45 {s : List UInt8} {i : Int} : byt s i = 45 ↔ s.getD i.toNat 0 = 45 := b45

theorem last_le (s : List UInt8) : lastN s 45 s.length < s.length := (lastN_ge s 45 s.length).2

theorem last_is {s : List UInt8} {i : Int} (h0 : 0 ≤ i) (h1 : i < s.length) (h : byt s i = 45) : i ≤ lastN s 45 s.length := by
  rcases lastN_spec s 45 s.length with ⟨g1, g2⟩ | ⟨k, g1, g2, g3, g4⟩
  · exact absurd h (g2 i.toNat (by omega))
  · rw [g2]
    apply Classical.byContradiction
    intro hc
    exact absurd h (g4 i.toNat (by omega) (by omega))

theorem last_not {s : List UInt8} {i : Int} (h0 : 0 ≤ i) (h1 : i < s.length) (h : byt s i ≠ 45) : (i ≤ lastN s 45 s.length) ↔ (i + 1 ≤ lastN s 45 s.length) := by
  rcases lastN_spec s 45 s.length with ⟨g1, g2⟩ | ⟨k, g1, g2, g3, g4⟩
  · rw [g1]; omega
  · rw [g2]
    constructor
    · intro hi
      apply Classical.byContradiction
      intro hc
      have : i.toNat = k := by omega
      apply h
      unfold byt
      rw [this]; exact g3
    · intro hi; omega

theorem scan_past : ∀ (n : Nat) (y : Y35), (y.s.length - y.i).toNat = n → 0 ≤ y.i → y.i ≤ y.s.length → y.be < y.i → NoSp y.s y.ep y.i →
    end35 y = if firstX (upB y.ep true) y.s y.i = y.s.length then (none, { y with da := lastFrom y.s y.da y.i, op := opFrom y.s y.ep y.op y.i, i := y.s.length }) else (some (firstX (upB y.ep true) y.s y.i), (end35 y).2)
  | 0, y, hn, h0, h1, hb, hs => by
    have hi : y.i = y.s.length := by omega
    have he : end35 y = (none, y) := by unfold end35; rw [hn]; rfl
    have hf : firstX (upB y.ep true) y.s y.i = y.s.length := by rw [firstX_end (by omega)]; exact hi
    rw [if_pos hf, he]
    have hl := last_le y.s
    have h2 : ¬ y.i ≤ lastN y.s 45 y.s.length := by omega
    have h3 : y.s.drop y.i.toNat = [] := List.drop_of_length_le (by omega)
    unfold lastFrom opFrom
    rw [if_neg h2, if_neg h2, h3, ← hi]
    simp
  | n + 1, y, hn, h0, h1, hb, hs => by
    have hlt : y.i < y.s.length := by omega
    have hst := end35_step h0 hlt
    have hf := firstX_step (q := upB y.ep true) h0 hlt
    have hfb : ((y.s.getD y.i.toNat 0).toNat : Int) = byt y.s y.i := rfl
    rw [hfb] at hf
    have hne : (y.i == y.be) = false := by simp; omega
    have hsp : isSp y = false := by
      unfold isSp
      rcases hs with hs | hs
      · rw [hs]; simp
      · by_cases hc : byt y.s y.i = 58
        · rw [hs y.i (Int.le_refl _) hc]; simp
        · have : (byt y.s y.i == 58) = false := by simpa using hc
          rw [this]; simp
    have hdrop : y.s.drop y.i.toNat = y.s.getD y.i.toNat 0 :: y.s.drop (y.i + 1).toNat := drop_at h0 hlt
    have hl1 : (58 : UInt8) ∈ y.s.drop y.i.toNat ↔ byt y.s y.i = 58 ∨ (58 : UInt8) ∈ y.s.drop (y.i + 1).toNat := by
      rw [hdrop, List.mem_cons, byt58]
      exact ⟨fun h => h.imp Eq.symm id, fun h => h.imp Eq.symm id⟩
    have nos : ∀ e, e = y.ep → NoSp y.s e (y.i + 1) := by
      rintro e rfl
      rcases hs with hs | hs
      · exact .inl hs
      · exact .inr fun j hj => hs j (by omega)
    unfold nextY at hst
    rw [hne, hsp] at hst
    simp only [Bool.false_and, cond_false] at hst
    by_cases c58 : byt y.s y.i = 58
    · have c58' : (byt y.s y.i == 58) = true := by simpa using c58
      have c45 : byt y.s y.i ≠ 45 := by omega
      have c45' : (byt y.s y.i == 45) = false := by simpa using c45
      rcases Bool.eq_false_or_eq_true y.ep with hep | hep
      · have hcd : (byt y.s y.i == 58 && y.ep) = true := by rw [c58', hep]; rfl
        rw [hcd] at hst
        simp only [cond_true] at hst
        have hu : upB y.ep true (byt y.s y.i) = true := (up_iff _ _ _).2 (.inr (.inl ⟨c58, hep⟩))
        rw [hu, if_pos rfl] at hf
        have ih := scan_past n { y with op := true, i := y.i + 1 } (by simp only; omega) (by simp only; omega) (by simp only; omega) (by simp only; omega) (nos _ rfl)
        have e1 : lastFrom y.s y.da (y.i + 1) = lastFrom y.s y.da y.i := by unfold lastFrom; simp only [last_not h0 hlt c45]
        have e2 : opFrom y.s y.ep true (y.i + 1) = opFrom y.s y.ep y.op y.i := by
          unfold opFrom
          simp only [last_not h0 hlt c45, hl1, c58, true_or, decide_true, Bool.true_and, Bool.or_true, Bool.true_or, hep]
        refine hst.trans (ih.trans ?_)
        rw [hst, hf, ← e1, ← e2]
      · have hcd : (byt y.s y.i == 58 && y.ep) = false := by rw [hep]; simp
        rw [hcd, c45'] at hst
        have hp : prtB (byt y.s y.i) = false := by rw [c58]; exact prt58
        rw [hp] at hst
        simp only [cond_false] at hst
        have hu : upB y.ep true (byt y.s y.i) = false := by
          cases hq : upB y.ep true (byt y.s y.i) with
          | false => rfl
          | true =>
            rcases (up_iff _ _ _).1 hq with q | ⟨_, q⟩ | ⟨q, _⟩
            · rw [hp] at q; cases q
            · rw [hep] at q; cases q
            · exact absurd q c45
        rw [hu, if_neg (by simp)] at hf
        rw [hst, hf, if_neg (by omega)]
    · have c58' : (byt y.s y.i == 58) = false := by simpa using c58
      rw [c58'] at hst
      simp only [Bool.false_and, cond_false] at hst
      by_cases c45 : byt y.s y.i = 45
      · have c45' : (byt y.s y.i == 45) = true := by simpa using c45
        rw [c45'] at hst
        simp only [cond_true] at hst
        have hu : upB y.ep true (byt y.s y.i) = true := (up_iff _ _ _).2 (.inr (.inr ⟨c45, rfl⟩))
        rw [hu, if_pos rfl] at hf
        have ih := scan_past n { y with da := y.i, op := false, i := y.i + 1 } (by simp only; omega) (by simp only; omega) (by simp only; omega) (by simp only; omega) (nos _ rfl)
        have hge := last_is h0 hlt c45
        have e1 : lastFrom y.s y.i (y.i + 1) = lastFrom y.s y.da y.i := by
          unfold lastFrom
          rw [if_pos hge]
          split <;> omega
        have e2 : opFrom y.s y.ep false (y.i + 1) = opFrom y.s y.ep y.op y.i := by
          unfold opFrom
          rw [if_pos hge]
          split
          · rfl
          · have : lastN y.s 45 y.s.length = y.i := by omega
            rw [this]; simp
        refine hst.trans (ih.trans ?_)
        rw [hst, hf, ← e1, ← e2]
      · have c45' : (byt y.s y.i == 45) = false := by simpa using c45
        rw [c45'] at hst
        simp only [cond_false] at hst
        cases hp : prtB (byt y.s y.i) with
        | true =>
          rw [hp] at hst
          simp only [cond_true] at hst
          have hu : upB y.ep true (byt y.s y.i) = true := (up_iff _ _ _).2 (.inl hp)
          rw [hu, if_pos rfl] at hf
          have ih := scan_past n { y with i := y.i + 1 } (by simp only; omega) (by simp only; omega) (by simp only; omega) (by simp only; omega) (nos _ rfl)
          have e1 : lastFrom y.s y.da (y.i + 1) = lastFrom y.s y.da y.i := by unfold lastFrom; simp only [last_not h0 hlt c45]
          have e2 : opFrom y.s y.ep y.op (y.i + 1) = opFrom y.s y.ep y.op y.i := by
            unfold opFrom
            simp only [last_not h0 hlt c45, hl1, c58, false_or]
          refine hst.trans (ih.trans ?_)
          rw [hst, hf, ← e1, ← e2]
        | false =>
          rw [hp] at hst
          simp only [cond_false] at hst
          have hu : upB y.ep true (byt y.s y.i) = false := by
            cases hq : upB y.ep true (byt y.s y.i) with
            | false => rfl
            | true =>
              rcases (up_iff _ _ _).1 hq with q | ⟨q, _⟩ | ⟨q, _⟩
              · rw [hp] at q; cases q
              · exact absurd q c58
              · exact absurd q c45
          rw [hu, if_neg (by simp)] at hf
          rw [hst, hf, if_neg (by omega)]

theorem dig_facts {c : Int} (h : dig c = true) : c ≠ 58 ∧ c ≠ 45 ∧ prtB c = true := by
  have h' : 48 ≤ c ∧ c ≤ 57 := by simpa [dig] using h
  exact ⟨by omega, by omega, by unfold prtB; rw [h]; rfl⟩

theorem split_tw (s : List UInt8) : s = s.takeWhile digB ++ s.dropWhile digB := (List.takeWhile_append_dropWhile).symm

theorem firstX_skip {q : Int → Bool} {s : List UInt8} : ∀ (n : Nat) (i j : Int), (j - i).toNat = n → 0 ≤ i → i ≤ j → j ≤ s.length → (∀ k : Int, i ≤ k → k < j → q (byt s k) = true) → firstX q s i = firstX q s j
  | 0, i, j, hn, h0, h1, h2, h => by
    have : i = j := by omega
    rw [this]
  | n + 1, i, j, hn, h0, h1, h2, h => by
    have hf := firstX_step (q := q) h0 (s := s) (i := i) (by omega)
    rw [show q ((s.getD i.toNat 0).toNat : Int) = true from h i (Int.le_refl _) (by omega), if_pos rfl] at hf
    rw [hf]
    exact firstX_skip n (i + 1) j (by omega) (by omega) (by omega) h2 fun k hk => h k (by omega)

def y0 (s : List UInt8) (i : Int) : Y35 := ⟨s, 0, false, -1, false, i⟩

theorem next_dig {y : Y35} (hd : dig (byt y.s y.i) = true) : nextY y = some { y with i := y.i + 1 } := by
  obtain ⟨h1, h2, h3⟩ := dig_facts hd
  have h1' : (byt y.s y.i == 58) = false := by simpa using h1
  have h2' : (byt y.s y.i == 45) = false := by simpa using h2
  unfold nextY isSp
  rw [hd, h1', h2', h3]
  simp

theorem scan_dig : ∀ (n : Nat) (y : Y35) (j : Int), (j - y.i).toNat = n → 0 ≤ y.i → y.i ≤ j → j ≤ y.s.length → (∀ k : Int, y.i ≤ k → k < j → dig (byt y.s k) = true) → end35 y = end35 { y with i := j }
  | 0, y, j, hn, h0, h1, h2, h => by
    have : y.i = j := by omega
    rw [← this]
  | n + 1, y, j, hn, h0, h1, h2, h => by
    have hs := end35_step h0 (show y.i < y.s.length by omega)
    rw [next_dig (h y.i (Int.le_refl _) (by omega))] at hs
    rw [hs]
    exact scan_dig n { y with i := y.i + 1 } j (by simp only; omega) (by simp only; omega) (by simp only; omega) h2 fun k hk => h k (by simp only at hk; omega)

def finR (s : List UInt8) (E : Option Int × Y35) : VF := match E.1 with
  | some k => (([], [], []), (10, k))
  | none => if (s.length : Int) = E.2.be ∨ E.2.da = s.length - 1 ∨ (E.2.da ≥ 0 ∧ E.2.op = true) then (([], [], []), (11, s.length))
    else ((if E.2.ep = true then trimD (s.take (E.2.be - 1).toNat) else [48], if E.2.da ≥ 0 then (s.drop E.2.be.toNat).take (E.2.da.toNat - E.2.be.toNat) else s.drop E.2.be.toNat, if E.2.da ≥ 0 then s.drop (E.2.da + 1).toNat else []), (0, 0))

/-- What the scan comes to, once a body is begun. -/
def bodyE (s : List UInt8) (fr : Int) (co : Bool) (g : Y35) : Option Int × Y35 :=
  if firstX (upB co true) s fr = s.length then (none, ⟨s, fr, co, lastFrom s (-1) fr, opFrom s co false fr, s.length⟩) else (some (firstX (upB co true) s fr), g)

theorem fin_body {s ep : List UInt8} {fr : Int} {co : Bool} {g : Y35} (h0 : 0 ≤ fr) (h1 : fr < s.length) (hep : ep = if co = true then trimD (s.take (fr - 1).toNat) else [48]) : finR s (bodyE s fr co g) = bodyD s ep fr co := by
  unfold bodyE bodyD
  by_cases hf : firstX (upB co true) s fr = s.length
  · rw [if_pos hf, if_pos hf]
    have hall := (firstX_all h0 (by omega)).1 hf
    have hl := last_le s
    have hlb := (lastN_ge s 45 s.length).1
    simp only [finR]
    unfold lastFrom opFrom
    by_cases hlt : lastN s 45 s.length < fr
    · have h2 : ¬ fr ≤ lastN s 45 s.length := by omega
      rw [if_pos hlt]
      simp only [if_neg h2]
      rw [if_neg (by
        rintro (q | q | q)
        · omega
        · omega
        · exact absurd q.1 (by omega))]
      simp [hep]
    · have h2 : fr ≤ lastN s 45 s.length := by omega
      rw [if_neg hlt]
      simp only [if_pos h2]
      have hge : lastN s 45 s.length ≥ 0 := by omega
      have hmem := indexByte_mem 58 (s.drop (lastN s 45 s.length + 1).toNat)
      have hnil : s.drop (lastN s 45 s.length + 1).toNat = [] ↔ lastN s 45 s.length = s.length - 1 := by
        rw [List.drop_eq_nil_iff]; omega
      have hop : (co && decide ((58 : UInt8) ∈ s.drop (lastN s 45 s.length + 1).toNat)) = true ↔ (58 : UInt8) ∈ s.drop (lastN s 45 s.length + 1).toNat := by
        cases co with
        | true => simp
        | false =>
          simp only [Bool.false_and, Bool.false_eq_true, false_iff]
          intro hm
          have hm2 : (58 : UInt8) ∈ s.drop fr.toNat := by
            have : s.drop (lastN s 45 s.length + 1).toNat = (s.drop fr.toNat).drop ((lastN s 45 s.length + 1).toNat - fr.toNat) := by rw [List.drop_drop]; congr 1; omega
            rw [this] at hm
            exact List.mem_of_mem_drop hm
          have := List.all_eq_true.1 hall _ hm2
          rcases (up_iff _ _ _).1 this with q | ⟨_, q⟩ | ⟨q, _⟩
          · rw [show (((58 : UInt8).toNat : Nat) : Int) = 58 from rfl, prt58] at q; cases q
          · cases q
          · simp at q
      have hiff : ((s.length : Int) = fr ∨ lastN s 45 s.length = s.length - 1 ∨ lastN s 45 s.length ≥ 0 ∧ (co && decide ((58 : UInt8) ∈ s.drop (lastN s 45 s.length + 1).toNat)) = true) ↔ (s.drop (lastN s 45 s.length + 1).toNat = [] ∨ Lib.indexByte (s.drop (lastN s 45 s.length + 1).toNat) 58 ≥ 0) := by
        rw [hop, hnil, hmem]
        constructor
        · rintro (q | q | q)
          · omega
          · exact .inl q
          · exact .inr q.2
        · rintro (q | q)
          · exact .inr (.inl q)
          · exact .inr (.inr ⟨hge, q⟩)
      have hw : wrongAt s s.length = (11, (s.length : Int)) := by unfold wrongAt; rw [if_pos (by omega)]
      by_cases hq : s.drop (lastN s 45 s.length + 1).toNat = [] ∨ Lib.indexByte (s.drop (lastN s 45 s.length + 1).toNat) 58 ≥ 0
      · rw [if_pos hq, if_pos (hiff.2 hq), hw]
      · rw [if_neg hq, if_neg fun q => hq (hiff.1 q), if_pos hge, if_pos hge, hep]
  · rw [if_neg hf, if_neg hf]
    have hle := firstX_le (q := upB co true) (s := s) h0 (by omega)
    simp only [finR]
    unfold wrongAt
    rw [if_neg (by omega)]

theorem start35 (s : List UInt8) (hl : ¬ s.length > 64) : (∃ k, (end35 (y0 s 0)).1 = some k ∧ parseD s = (([], [], []), (10, k))) ∨ (end35 (y0 s 0) = (none, y0 s 0) ∧ s = []) ∨ (end35 (y0 s 0) = (none, ⟨s, s.length, true, -1, false, s.length⟩) ∧ parseD s = (([], [], []), (11, (s.length : Int))) ∧ 0 < s.length) ∨
    ∃ (fr : Int) (co : Bool) (g : Y35) (ep : List UInt8), 0 ≤ fr ∧ fr < s.length ∧ end35 (y0 s 0) = bodyE s fr co g ∧ (ep = if co = true then trimD (s.take (fr - 1).toNat) else [48]) ∧ (co = true → 1 ≤ fr) ∧ parseD s = bodyD s ep fr co := by
  have hd := takeWhile_le digB s
  have hr := runD_len s
  unfold parseD
  rw [if_neg hl, hr]
  cases s with
  | nil => exact .inr (.inl ⟨rfl, rfl⟩)
  | cons b l =>
    generalize hs : b :: l = s at *
    have hlen : 0 < s.length := by rw [← hs]; simp
    by_cases hb : digB b = true
    · -- digits ahead
      have hpos : 0 < (s.takeWhile digB).length := by rw [← hs, List.takeWhile_cons, hb]; simp
      have hdig : ∀ k : Int, 0 ≤ k → k < (s.takeWhile digB).length → dig (byt s k) = true := by
        intro k h0 h1
        have hk : k.toNat < (s.takeWhile digB).length := by omega
        have : s.getD k.toNat 0 = (s.takeWhile digB).getD k.toNat 0 := by
          have e := split_tw s
          conv => lhs; rw [e]
          rw [List.getD_eq_getElem?_getD, List.getElem?_append_left hk, List.getD_eq_getElem?_getD]
        show digB (s.getD k.toNat 0) = true
        rw [this]
        exact tw_ok (getD_mem hk)
      generalize hdd : (s.takeWhile digB).length = d at *
      have h1 : end35 (y0 s 0) = end35 (y0 s d) := scan_dig (n := d) (y0 s 0) d (by simp [y0]) (by simp [y0]) (by simp [y0]) (by simp [y0]; omega) (by intro k; exact hdig k)
      rw [if_neg (by omega)]
      have lastSame : ∀ j : Int, 0 ≤ j → j ≤ d → (j ≤ lastN s 45 s.length ↔ (d : Int) ≤ lastN s 45 s.length) := by
        intro j hj1 hj2
        constructor
        · intro h
          rcases lastN_spec s 45 s.length with ⟨g1, g2⟩ | ⟨k, g1, g2, g3, g4⟩
          · omega
          · rw [g2]
            apply Classical.byContradiction
            intro hc
            have := (dig_facts (hdig k (by omega) (by omega))).2.1
            exact this g3
        · intro h; omega
      by_cases hc : ((d : Int) < s.length ∧ ((s.getD (d : Int).toNat 0).toNat : Int) = 58)
      · rw [if_pos hc]
        obtain ⟨c1, c2⟩ := hc
        have c2' : byt s d = 58 := c2
        -- the epoch's colon
        have hst := end35_step (y := y0 s d) (by simp [y0]) (by simpa [y0] using c1)
        have hadg : adg (s.take (d : Int).toNat) = true := by
          have : s.take (d : Int).toNat = s.takeWhile digB := by rw [Int.toNat_natCast, ← hdd]; exact take_tw s
          rw [this]
          unfold adg
          rw [allD_zero]
          have h2 : (s.takeWhile digB).all (fun b => dig (b.toNat : Int)) = true := List.all_eq_true.2 fun b hb => tw_ok (p := digB) hb
          rw [h2]
          cases hh : s.takeWhile digB with
          | nil => rw [hh] at hdd; simp at hdd; omega
          | cons _ _ => rfl
        have hn : nextY (y0 s d) = some ⟨s, d + 1, true, -1, false, d + 1⟩ := by
          unfold nextY isSp y0
          simp only
          rw [c2', hadg]
          have : ((d : Int) == 0) = false := by simp; omega
          rw [this]
          rfl
        rw [hn] at hst
        simp only at hst
        rw [h1, hst]
        by_cases hend : (d : Int) + 1 ≥ s.length
        · rw [if_pos (.inl hend)]
          have hi : (s.length : Int) = d + 1 := by omega
          refine .inr (.inr (.inl ⟨?_, ?_, hlen⟩))
          · rw [hi]
            unfold end35
            have : ((s.length : Int) - (d + 1)).toNat = 0 := by omega
            simp only [this]
            rfl
          · unfold wrongAt; rw [if_pos hend]
        · have hst2 := end35_step (y := ⟨s, d + 1, true, -1, false, d + 1⟩) (by simp only; omega) (by simp only; omega)
          cases hdg : dig (byt s (d + 1)) with
          | false =>
            have hn2 : nextY ⟨s, d + 1, true, -1, false, d + 1⟩ = none := by
              unfold nextY
              simp only
              rw [hdg]
              simp
            rw [hn2] at hst2
            simp only at hst2
            have hx : ((d : Int) + 1 ≥ s.length ∨ isC 1 ((s.getD ((d : Int) + 1).toNat 0).toNat : Int) = false) := by
              right
              have : dig ((s.getD ((d : Int) + 1).toNat 0).toNat : Int) = false := hdg
              simpa [isC] using this
            rw [if_pos hx]
            refine .inl ⟨d + 1, by rw [hst2], ?_⟩
            unfold wrongAt; rw [if_neg hend]
          | true =>
            rw [next_dig (y := ⟨s, d + 1, true, -1, false, d + 1⟩) hdg] at hst2
            simp only at hst2
            have hx : ¬ ((d : Int) + 1 ≥ s.length ∨ isC 1 ((s.getD ((d : Int) + 1).toNat 0).toNat : Int) = false) := by
              rintro (q | q)
              · exact hend q
              · have : dig ((s.getD ((d : Int) + 1).toNat 0).toNat : Int) = true := hdg
                have h3 : isC 1 ((s.getD ((d : Int) + 1).toNat 0).toNat : Int) = true := by simpa [isC] using this
                rw [h3] at q; cases q
            rw [if_neg hx, hst2]
            have hsp := scan_past _ ⟨s, d + 1, true, -1, false, d + 1 + 1⟩ rfl (by simp only; omega) (by simp only; omega) (by simp only; omega) (.inl rfl)
            simp only at hsp
            have hfs : firstX (upB true true) s (d + 1) = firstX (upB true true) s (d + 1 + 1) := firstX_skip 1 _ _ (by omega) (by omega) (by omega) (by omega) (by
              intro k k1 k2
              have : k = d + 1 := by omega
              rw [this]
              exact (up_iff _ _ _).2 (.inl (dig_facts hdg).2.2))
            have hls := last_not (s := s) (i := d + 1) (by omega) (by omega) (dig_facts hdg).2.1
            refine .inr (.inr (.inr ⟨d + 1, true, (end35 ⟨s, d + 1, true, -1, false, d + 1 + 1⟩).2, _, by omega, by omega, ?_, rfl, fun _ => by omega, ?_⟩))
            · have e1 : lastFrom s (-1) (d + 1 + 1) = lastFrom s (-1) (d + 1) := by unfold lastFrom; simp only [hls]
              have e2 : opFrom s true false (d + 1 + 1) = opFrom s true false (d + 1) := by
                unfold opFrom
                have hdr : s.drop ((d : Int) + 1).toNat = s.getD ((d : Int) + 1).toNat 0 :: s.drop ((d : Int) + 1 + 1).toNat := drop_at (by omega) (by omega)
                have hne : ¬ (58 : UInt8) = s.getD ((d : Int) + 1).toNat 0 := fun q => (dig_facts hdg).1 (byt58.2 q.symm)
                simp only [hls, hdr, List.mem_cons, hne, false_or]
              refine hsp.trans ?_
              unfold bodyE
              rw [hfs, e1, e2]
            · have : ((d : Int) + 1 - 1).toNat = (d : Int).toNat := by congr 1; omega
              rw [if_pos rfl, this]
      · rw [if_neg hc]
        have hns : NoSp s false d := by
          right
          intro j hj h58
          by_cases hjd : j = d
          · subst hjd
            exfalso
            by_cases hlt : (d : Int) < s.length
            · exact hc ⟨hlt, h58⟩
            · have : s.getD (d : Int).toNat 0 = 0 := by
                rw [List.getD_eq_getElem?_getD, List.getElem?_eq_none (by omega)]; rfl
              unfold byt at h58
              rw [this] at h58
              simp at h58
          · cases hh : adg (s.take j.toNat) with
            | false => rfl
            | true =>
              exfalso
              unfold adg at hh
              rw [allD_zero, Bool.and_eq_true] at hh
              have hall := List.all_eq_true.1 hh.1
              by_cases hlt : (d : Int) < s.length
              · have hnd : digB (s.getD d 0) = false := by
                  have := tw_next (p := digB) (l := s) (by omega)
                  rwa [hdd] at this
                have hm : s.getD d 0 ∈ s.take j.toNat := by
                  have : s.getD d 0 = (s.take j.toNat).getD d 0 := by
                    rw [List.getD_eq_getElem?_getD, List.getD_eq_getElem?_getD, List.getElem?_take, if_pos (by omega)]
                  rw [this]
                  exact getD_mem (by rw [List.length_take]; omega)
                have := hall _ hm
                have h5 : digB (s.getD d 0) = true := this
                rw [hnd] at h5; cases h5
              · have : s.getD j.toNat 0 = 0 := by
                  rw [List.getD_eq_getElem?_getD, List.getElem?_eq_none (by omega)]; rfl
                unfold byt at h58
                rw [this] at h58
                simp at h58
        have hsp := scan_past _ (y0 s d) rfl (by simp [y0]) (by simp [y0]; omega) (by simp [y0]; omega) hns
        simp only [y0] at hsp
        have hfs : firstX (upB false true) s 0 = firstX (upB false true) s d := firstX_skip d _ _ (by omega) (by omega) (by omega) (by omega) (by
          intro k k1 k2
          exact (up_iff _ _ _).2 (.inl (dig_facts (hdig k k1 k2)).2.2))
        have hls := lastSame 0 (by omega) (by omega)
        refine .inr (.inr (.inr ⟨0, false, (end35 ⟨s, 0, false, -1, false, d⟩).2, [48], by omega, by omega, ?_, by simp, by simp, rfl⟩))
        rw [h1]
        unfold y0
        have e1 : lastFrom s (-1) d = lastFrom s (-1) 0 := by unfold lastFrom; simp only [hls]
        have e2 : opFrom s false false d = opFrom s false false 0 := by unfold opFrom; simp only [hls, Bool.false_and]
        refine hsp.trans ?_
        unfold bodyE
        rw [hfs, e1, e2]
        rfl
    · -- no digit
      have hb' : digB b = false := by simpa using hb
      have h0 : (s.takeWhile digB).length = 0 := by rw [← hs, List.takeWhile_cons, hb']; rfl
      rw [h0, if_pos (show ((0 : Nat) : Int) = 0 from rfl)]
      have hst := end35_step (y := y0 s 0) (by simp [y0]) (by simp [y0]; omega)
      have hdg : dig (byt s 0) = false := by rw [← hs]; exact hb'
      have hn : nextY (y0 s 0) = none := by
        unfold nextY y0
        simp only
        rw [hdg]
        rfl
      rw [hn] at hst
      simp only at hst
      refine .inl ⟨0, by rw [hst]; rfl, ?_⟩
      unfold wrongAt
      rw [if_neg (by omega)]

theorem fin35 (s : List UInt8) (hl : ¬ s.length > 64) : (∃ k, (end35 (y0 s 0)).1 = some k ∧ parseD s = (([], [], []), (10, k))) ∨ (∃ Y, end35 (y0 s 0) = (none, Y) ∧ Y.s = s ∧ 0 ≤ Y.be ∧ Y.be ≤ s.length ∧ (Y.ep = true → 1 ≤ Y.be ∨ (s.length : Int) = Y.be) ∧ (Y.da ≥ 0 → Y.be ≤ Y.da ∧ Y.da < s.length) ∧ parseD s = finR s (none, Y)) := by
  rcases start35 s hl with h | ⟨h1, h2⟩ | ⟨h1, h2, h3⟩ | ⟨fr, co, g, ep, h1, h2, h3, h4, h5, h6⟩
  · exact .inl h
  · subst h2
    exact .inr ⟨_, h1, rfl, by simp [y0], by simp [y0], by simp [y0], by simp [y0], rfl⟩
  · refine .inr ⟨_, h1, rfl, by simp, by simp, by simp, by simp, ?_⟩
    rw [h2]
    simp only [finR]
    rw [if_pos (.inl trivial)]
  · have hb := fin_body (g := g) h1 h2 h4
    rw [h6, ← hb, h3]
    by_cases hf : firstX (upB co true) s fr = s.length
    · right
      have he : bodyE s fr co g = (none, ⟨s, fr, co, lastFrom s (-1) fr, opFrom s co false fr, s.length⟩) := by unfold bodyE; rw [if_pos hf]
      rw [he]
      refine ⟨_, rfl, rfl, h1, by simp only; omega, fun q => .inl (h5 q), fun q => ?_, rfl⟩
      simp only at q ⊢
      have hl := last_le s
      unfold lastFrom at q ⊢
      split at q
      · rename_i hc; rw [if_pos hc]; omega
      · omega
    · left
      have he : bodyE s fr co g = (some (firstX (upB co true) s fr), g) := by unfold bodyE; rw [if_neg hf]
      rw [he]
      exact ⟨_, rfl, rfl⟩

def c35 : List AV → T AV
  | [.str s] => .leaf (.tup [verAV (parseD s).1.1 (parseD s).1.2.1 (parseD s).1.2.2, .int .i64 (parseD s).2.1, .int .i64 (parseD s).2.2])
  | _ => .fail

theorem s35 : Sound1 Tryd.prog ⟨35, true, pcon c35⟩ := by
  refine sound_pure okW (hn := h35) (m := 20) (k := 9) (Λ := L35) (oneLoop (by kernel_rfl) l35) fun args r hF h => ?_
  unfold c35 at h
  split at h
  · rename_i s
    simp only [T.run_leaf, Option.some.injEq] at h; subst h
    refine (t35 s).trans ?_
    by_cases hl : s.length > 64
    · have : (s.length : Int) > 64 := by omega
      simp [parseD, hl, this, verAV]
    have hl' : ¬ (s.length : Int) > 64 := by omega
    have g0 : decide ((0 : Int) ≤ 0 ∧ (0 : Int) ≤ (s.length : Int) ∧ s.length ≤ 4611686018427387903) = true := by simp; omega
    rw [show decide ((s.length : Int) > 64) = false by simpa using hl', g0]
    simp only [cond_false, cond_true]
    have hy : (⟨s, 0, false, -1, false, 0⟩ : Y35) = y0 s 0 := rfl
    simp only [hy]
    rcases fin35 s hl with ⟨k, h1, h2⟩ | ⟨Y, h1, h2, h3, h4, h5, h6, h7⟩
    · rw [h1, h2]; rfl
    · rw [h1, h7]
      simp only [h2, Option.isSome_none, cond_false, finR]
      rw [w64 (n := (s.length : Int) - 1) (by omega) (by omega), w64 (n := Y.be - 1) (by omega) (by omega)]
      by_cases q1 : (s.length : Int) = Y.be
      · have q1' : ((s.length : Int) == Y.be) = true := by simpa using q1
        rw [q1', if_pos (.inl q1)]
        rfl
      · have q1' : ((s.length : Int) == Y.be) = false := by simpa using q1
        rw [q1']
        simp only [cond_false]
        by_cases q2 : Y.da = (s.length : Int) - 1
        · have q2' : (Y.da == (s.length : Int) - 1) = true := by simpa using q2
          rw [q2', if_pos (.inr (.inl q2))]
          rfl
        · have q2' : (Y.da == (s.length : Int) - 1) = false := by simpa using q2
          rw [q2']
          simp only [cond_false]
          have g1 : decide ((0 : Int) ≤ Y.be ∧ Y.be ≤ (s.length : Int)) = true := by simp; omega
          by_cases q3 : Y.da ≥ 0
          · have h6 := h6 q3
            rw [w64 (n := Y.da + 1) (by omega) (by omega)]
            have g2 : decide ((0 : Int) ≤ Y.be ∧ Y.be ≤ Y.da ∧ Y.da ≤ (s.length : Int)) = true := by simp; omega
            have g3 : decide ((0 : Int) ≤ Y.da + 1 ∧ Y.da + 1 ≤ (s.length : Int)) = true := by simp; omega
            rw [decide_eq_true q3, g1, g2, g3]
            simp only [cond_true]
            cases q4 : Y.op with
            | true =>
              rw [if_pos (.inr (.inr ⟨q3, rfl⟩))]
              rfl
            | false =>
              rw [if_neg (by
                rintro (q | q | q)
                · exact q1 q
                · exact q2 q
                · cases q.2), if_pos q3, if_pos q3]
              cases q5 : Y.ep with
              | true =>
                have g4 : decide ((0 : Int) ≤ Y.be - 1 ∧ Y.be - 1 ≤ (s.length : Int)) = true := by
                  rcases h5 q5 with q | q
                  · simp; omega
                  · exact absurd q q1
                rw [g4]
                rfl
              | false => rfl
          · have q3' : decide (Y.da ≥ 0) = false := by simpa using q3
            rw [q3', g1, if_neg (by
              rintro (q | q | q)
              · exact q1 q
              · exact q2 q
              · exact q3 q.1), if_neg q3, if_neg q3]
            simp only [cond_true, cond_false]
            cases q5 : Y.ep with
            | true =>
              have g4 : decide ((0 : Int) ≤ Y.be - 1 ∧ Y.be - 1 ≤ (s.length : Int)) = true := by
                rcases h5 q5 with q | q
                · simp; omega
                · exact absurd q q1
              rw [g4]
              rfl
            | false => rfl
  · cases h

def tabBB : Tab := ⟨35, true, pcon c35⟩ :: tabW

theorem allBB : ∀ e, e ∈ tabBB → Sound1 Tryd.prog e := sound_mem_tab s35 allW

theorem okBB : SoundTab Tryd.prog tabBB := soundTab_of allBB

theorem t3 (s : List UInt8) : (evn tabBB h3 noLoops 3 [.str s] []).run =
  bif (parseD s).fst.fst == (parseD s).fst.fst && ((parseD s).fst.snd.fst == (parseD s).fst.snd.fst && ((parseD s).fst.snd.snd == (parseD s).fst.snd.snd && true)) then
   bif (parseD s).snd.fst == (parseD s).snd.fst && ((parseD s).snd.snd == (parseD s).snd.snd && true) then
    some ((AV.bool true, []))
   else
    some ((AV.bool false, []))
  else
   some ((AV.bool false, [])) := by kernel_rfl

theorem tree3 (s : List UInt8) : (evn tabBB h3 noLoops 3 [.str s] []).run = some (.bool true, []) := by
  refine (t3 s).trans ?_
  simp

end Go.Deb

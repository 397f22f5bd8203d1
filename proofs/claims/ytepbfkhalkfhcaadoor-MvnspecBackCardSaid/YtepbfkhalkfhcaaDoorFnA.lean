/- Lemmas for the claims of this seat (a verified symbolic evaluator, and contracts of functions): own work; no condition. -/
import Derived.Test.YtepbfkhalkfhcaaDoorEvF
import Derived.Test.YtepbfkhalkfhcaaDoorProg
import Derived.KernelRfl
import Derived.Laws.Externs
import Derived.Lib.Bytealg
import Derived.Laws.BitsLemmas
namespace Go.Mvs
open Go Go.Proofs Go.Ab
def h3 : HintsT := ⟨40, [(6, 16), (5, 132), (4, 16), (3, 16777222), (2, 102), (1, 518), (0, 6)], []⟩
def h4 : HintsT := ⟨104, [(14, 4), (13, 3074), (12, 1970324836974594), (11, 4), (10, 77371252457306592018169858), (9, 1970324836975330), (8, 1970324836974690), (7, 4222124650659842), (6, 1970324836974594), (5, 4), (4, 70368744177666), (3, 4), (2, 26), (1, 32770), (0, 2)], [(7, 1970324836974594)]⟩
def h5 : HintsT := ⟨59, [(15, 12), (14, 12), (13, 18014398509482092), (12, 0), (11, 17592186044652), (10, 236), (9, 236), (8, 824633720940), (7, 549755814013), (6, 549755813949), (5, 12), (4, 550829555741), (3, 549755813917), (2, 12), (1, 549755814925), (0, 549755813901)], []⟩
def h6 : HintsT := ⟨8, [(3, 4), (2, 4), (1, 34), (0, 2)], []⟩
def h7 : HintsT := ⟨38, [(8, 16), (5, 44), (7, 16), (6, 137438953516), (4, 16777260), (3, 44), (2, 16), (1, 524300), (0, 12)], [(4, 44)]⟩
def h8 : HintsT := ⟨38, [(3, 1), (2, 20), (1, 4), (0, 0)], []⟩
def h9 : HintsT := ⟨182, [(29, 112), (28, 112), (27, 11972621413014756705924586149611790497021399392059858), (26, 4562), (25, 11417981541647679048466287755595961091061973458), (24, 466), (23, 112), (22, 696898287454081973172991196020261297062354), (21, 85070591730234615865843651857942053330), (20, 2514), (19, 112), (18, 20769187434139310514121985316882899), (17, 2515), (16, 2515), (15, 112), (14, 154742504910672534362394579), (13, 4051), (12, 18889465931478580858323), (11, 3539), (10, 1491), (9, 1491), (8, 112), (7, 4503599627372499), (6, 2003), (5, 467), (4, 467), (3, 112), (2, 268435667), (1, 211), (0, 83)], []⟩
def h10 : HintsT := ⟨74, [(17, 4), (16, 117440520), (15, 117440520), (14, 117440968), (13, 1152921504724287976), (12, 117441000), (11, 117440744), (10, 8707375336), (9, 117440744), (8, 2264924392), (7, 117440744), (6, 117440552), (5, 251658248), (4, 117440520), (3, 10), (2, 131082), (1, 10), (0, 2)], [(5, 117440520)]⟩
def h11 : HintsT := ⟨34, [(4, 16), (3, 44), (2, 16), (1, 8204), (0, 12)], []⟩
def h12 : HintsT := ⟨26, [(9, 16), (8, 12291), (7, 16), (6, 16789507), (5, 12323), (4, 28675), (3, 12291), (2, 16), (1, 1027), (0, 3)], [(4, 12291)]⟩
def h13 : HintsT := ⟨8, [(1, 16), (0, 19)], []⟩
def h14 : HintsT := ⟨8, [(1, 16), (0, 3)], []⟩
def h15 : HintsT := ⟨43, [(9, 48), (8, 48), (7, 34359738609), (6, 241), (3, 48), (5, 48), (4, 4194547), (2, 66035), (1, 499), (0, 51)], []⟩
def h16 : HintsT := ⟨6, [(1, 16), (0, 12)], []⟩
def h17 : HintsT := ⟨20, [(2, 16), (1, 98), (0, 3)], []⟩
def h18 : HintsT := ⟨14, [(3, 16), (2, 16), (1, 275), (0, 19)], []⟩
def h19 : HintsT := ⟨36, [(8, 112), (7, 112), (6, 536871362), (5, 1474), (4, 112), (3, 524738), (2, 450), (1, 195), (0, 67)], []⟩
def h20 : HintsT := ⟨47, [(8, 16), (5, 16), (7, 16), (6, 34359739907), (4, 134219427), (3, 1699), (2, 483), (1, 99), (0, 3)], []⟩
def h21 : HintsT := ⟨75, [(27, 16), (26, 64563604257983430914), (25, 64563604257983430914), (24, 64563604257983431938), (23, 64563604257983431938), (22, 138350580552821637378), (21, 64563604257983430914), (20, 259), (19, 259), (18, 291), (17, 3848290697251), (16, 3848290697251), (15, 3848290697379), (14, 566798244118691), (13, 3848290697379), (12, 8246337208355), (11, 3848290697251), (10, 35), (9, 35), (8, 536870947), (7, 4194339), (6, 35), (3, 16), (5, 16), (4, 32771), (2, 12291), (1, 4099), (0, 3)], [(22, 64563604257983430914), (12, 3848290697251)]⟩
def h22 : HintsT := ⟨38, [(9, 64), (8, 3145735), (7, 64), (6, 2150629511), (5, 3145863), (4, 7340039), (3, 3145735), (2, 64), (1, 32775), (0, 7)], [(4, 3145735)]⟩
def h23 : HintsT := ⟨91, [(2, 55), (14, 55), (13, 0), (12, 1208925819614629174706231), (11, 75557863725914323419191), (10, 55), (9, 183), (8, 295147905179352826103), (7, 503), (6, 36028797018964471), (5, 503), (4, 0), (3, 1073741879), (1, 55), (0, 23)], [(3, 55)]⟩
def h24 : HintsT := ⟨29, [(4, 16), (3, 16), (2, 524300), (1, 76), (0, 12)], []⟩
def h25 : HintsT := ⟨20, [(3, 16), (2, 3), (1, 65539), (0, 3)], [(1, 3)]⟩
def h26 : HintsT := ⟨38, [(15, 12), (14, 0), (13, 96), (12, 805306412), (11, 536870957), (10, 536969229), (9, 12), (8, 545357853), (7, 536969245), (6, 537100301), (5, 536969229), (4, 12), (3, 536875021), (2, 12), (1, 536871437), (0, 536870925)], [(6, 536969229)]⟩
def h27 : HintsT := ⟨50, [(15, 16), (14, 6291459), (13, 16), (12, 140737494647043), (11, 6291715), (10, 6291683), (9, 68725768419), (8, 6291683), (7, 274727139), (6, 6291683), (5, 6291491), (4, 14680067), (3, 6291459), (2, 16), (1, 65539), (0, 3)], [(4, 6291459)]⟩
def h28 : HintsT := ⟨4, [(3, 4), (2, 4), (1, 8), (0, 1)], []⟩
def h29 : HintsT := ⟨8, [(1, 16), (0, 3)], []⟩
def h30 : HintsT := ⟨25, [(4, 0), (3, 2097155), (2, 3), (1, 131), (0, 3)], []⟩
def h31 : HintsT := ⟨19, [(3, 48), (2, 2), (1, 3), (0, 3)], []⟩
def h32 : HintsT := ⟨14, [(1, 4), (0, 1)], []⟩
def h33 : HintsT := ⟨72, [(18, 16), (5, 16), (7, 16), (9, 16), (11, 16), (13, 16), (15, 16), (17, 16), (16, 2305843009213694209), (14, 288230384741646593), (12, 562958543356385), (10, 8804682957281), (8, 1108101562849), (6, 146028888545), (4, 25769804257), (3, 8589935073), (2, 483), (1, 227), (0, 3)], []⟩
def h34 : HintsT := ⟨9, [(1, 16), (0, 3)], []⟩
def h35 : HintsT := ⟨7, [(1, 8), (0, 6)], []⟩
def h36 : HintsT := ⟨41, [(9, 16), (8, 16), (7, 1099511627776), (6, 68), (5, 33554438), (4, 16), (3, 8388614), (2, 38), (1, 262), (0, 6)], []⟩
def h37 : HintsT := ⟨9, [(1, 16), (0, 3)], []⟩
def h38 : HintsT := ⟨21, [(1, 4), (0, 1)], []⟩
def h39 : HintsT := ⟨4, [(1, 4), (0, 2)], []⟩
def h40 : HintsT := ⟨42, [(19, 4), (14, 14), (18, 14), (17, 17179869198), (16, 19327352846), (15, 19327352846), (13, 6442450958), (12, 2147483662), (7, 14), (9, 14), (11, 14), (10, 536870926), (8, 150994958), (6, 50331662), (5, 16777230), (4, 8388622), (3, 14), (2, 4), (1, 4102), (0, 6)], []⟩
def h41 : HintsT := ⟨41, [(14, 4), (13, 1), (12, 4), (11, 17179869185), (8, 17), (10, 4), (9, 536870929), (7, 16777233), (6, 17), (3, 9), (5, 9), (4, 16393), (2, 521), (1, 9), (0, 1)], [(7, 17), (2, 9)]⟩
def h42 : HintsT := ⟨70, [(11, 4), (10, 114689), (9, 4), (8, 295147905179352940545), (7, 4), (6, 36028797019078681), (5, 114713), (4, 245761), (3, 114689), (2, 4), (1, 8193), (0, 1)], [(4, 114689)]⟩
def h43 : HintsT := ⟨55, [(9, 64), (8, 64), (7, 35184372090392), (6, 1560), (3, 64), (5, 64), (4, 33554456), (2, 131480), (1, 408), (0, 28)], []⟩
def h44 : HintsT := ⟨8, [(1, 16), (0, 3)], []⟩
def h45 : HintsT := ⟨20, [(1, 0), (2, 1048575), (0, 16383)], []⟩
def h46 : HintsT := ⟨30, [(2, 0), (1, 17), (0, 17)], []⟩
def h47 : HintsT := ⟨19, [(7, 16), (6, 387), (5, 16), (4, 65955), (3, 419), (2, 899), (1, 387), (0, 3)], [(2, 387)]⟩
def h48 : HintsT := ⟨187, [(35, 16), (42, 16), (41, 16), (40, 3112881567383836743540392398899065529225563841935441952), (39, 47890485652059026823698344598447161988085597568237664), (38, 335233399564413187765888412189130133916599182977662976), (37, 47890485652059026823698344598447161988085597568237568), (44, 16), (33, 16), (22, 16), (21, 324518553658426726783156020585216), (20, 8960), (26, 50049), (32, 16), (30, 115585), (31, 91343852333181432387730302044767688728495899521), (29, 11150372599265311570767859136324180753105793), (28, 115585), (27, 696898287454081973172991196020261297111937), (25, 21267647932558653966460912964485563265), (24, 50049), (23, 17281), (19, 16), (18, 196159429230833773869868419475239575503198607639501078527), (17, 196159429230833773869868418841414280111450389760794689535), (16, 196159429230833773869868418841414276569675527608560779263), (15, 16), (13, 196159429230833773869868419475239575466318911765940797439), (14, 196159429230833773869868419475239575503198607639501078527), (12, 196159429230833773869868419475239575466323133890591457279), (11, 196159429230833773869868419475239575466318911765940797439), (10, 196159429230833773869868419475239575466318911765940793343), (9, 16), (8, 196159429230833773869868419475239575466318647883150127103), (7, 196159429230833773869868419475239575466318634689010593791), (6, 196159429230833773869868419475239575466318911765940793343), (5, 196159429230833773869868419475239575466318911748895141887), (4, 196159429230833773869868419475239575466318911748769312767), (3, 196159429230833773869868419475239575466318911748769311743), (2, 196159429230833773869868419475239575466318911748765116927), (1, 196159429230833773869868419475239575466318911748761446655), (43, 196159429230833773869868419475239575466318911748761053311), (36, 12259964326927110866866776217202473432070217086728792191), (34, 12239012239454335042631408191440652798700429637792688255), (0, 12238826628746394017960796323466897830756933334359730303)], [(38, 47890485652059026823698344598447161988085597568237568), (29, 115585), (25, 50049), (12, 196159429230833773869868419475239575466318911765940797439), (5, 196159429230833773869868419475239575466318911748769312767)]⟩
def h49 : HintsT := ⟨78, [(10, 27), (9, 2361183241434822606907), (8, 59), (7, 73786976294838206499), (6, 99), (3, 59), (5, 59), (4, 274877907003), (2, 131131), (1, 59), (0, 27)], [(4, 59), (1, 27)]⟩
def h50 : HintsT := ⟨9, [(1, 4), (0, 1)], []⟩
def h51 : HintsT := ⟨8, [(4, 4), (3, 4), (2, 65), (1, 1), (0, 1)], []⟩
def h52 : HintsT := ⟨25, [(8, 4), (7, 1800), (6, 1800), (5, 67384), (4, 1848), (3, 3848), (2, 1800), (1, 8), (0, 1)], [(3, 1800)]⟩
def h53 : HintsT := ⟨34, [(1, 16), (0, 3)], []⟩
def h54 : HintsT := ⟨33, [(7, 64), (6, 1), (5, 129), (4, 135), (3, 64), (2, 65543), (1, 7), (0, 7)], []⟩
def h55 : HintsT := ⟨41, [(7, 4), (6, 97), (5, 4), (4, 33554529), (3, 105), (2, 225), (1, 97), (0, 1)], [(2, 97)]⟩
def h56 : HintsT := ⟨16, [(5, 16), (2, 16), (4, 16), (3, 512), (1, 38), (0, 6)], []⟩
def h57 : HintsT := ⟨6, [(1, 4), (0, 1)], []⟩
def h58 : HintsT := ⟨19, [(2, 16), (1, 3), (0, 3)], []⟩
def h59 : HintsT := ⟨11, [(4, 4), (3, 4), (2, 264), (1, 8), (0, 1)], []⟩
def h63 : HintsT := ⟨8, [(1, 16), (0, 3)], []⟩
def h64 : HintsT := ⟨17, [(5, 4), (2, 4), (4, 4), (3, 1024), (1, 9), (0, 1)], []⟩
def h65 : HintsT := ⟨6, [(1, 4), (0, 1)], []⟩
def h67 : HintsT := ⟨37, [(8, 16), (7, 16), (6, 2147483683), (5, 99), (4, 16), (3, 2097155), (2, 16), (1, 4099), (0, 3)], []⟩
def h68 : HintsT := ⟨20, [(1, 4), (0, 2)], []⟩
def h69 : HintsT := ⟨18, [(8, 4), (7, 456), (6, 4), (5, 16872), (4, 488), (3, 968), (2, 456), (1, 9), (0, 1)], [(3, 456)]⟩
def h70 : HintsT := ⟨20, [(13, 16), (12, 16), (11, 524288), (10, 16), (9, 65539), (8, 16), (7, 8195), (6, 16), (5, 16), (4, 4096), (3, 2115), (2, 99), (1, 35), (0, 3)], []⟩
def h71 : HintsT := ⟨19, [(7, 16), (6, 387), (5, 16), (4, 65955), (3, 419), (2, 899), (1, 387), (0, 3)], [(2, 387)]⟩
def h72 : HintsT := ⟨8, [(1, 16), (0, 3)], []⟩
def h73 : HintsT := ⟨17, [(3, 16), (2, 3), (1, 8195), (0, 3)], [(1, 3)]⟩
def h74 : HintsT := ⟨21, [(8, 12), (3, 21), (7, 21), (6, 12), (5, 65589), (4, 53), (2, 533), (1, 21), (0, 5)], [(2, 21)]⟩
def h75 : HintsT := ⟨16, [(4, 16), (3, 3), (2, 4099), (1, 131), (0, 3)], [(1, 3)]⟩
def h76 : HintsT := ⟨23, [(5, 16), (4, 3), (3, 262211), (2, 99), (1, 515), (0, 3)], [(1, 3)]⟩
def h77 : HintsT := ⟨6, [(1, 4), (0, 1)], []⟩
def h79 : HintsT := ⟨10, [(1, 16), (0, 3)], []⟩
def h80 : HintsT := ⟨19, [(2, 12), (3, 12), (1, 1025), (0, 1)], []⟩
def h81 : HintsT := ⟨117, [(26, 12), (25, 12), (24, 316912650057057350374175808544), (23, 7200), (22, 12), (21, 151115727451828646841377), (20, 12), (19, 37778931862957161712929), (18, 3361), (17, 12), (16, 576460752303424801), (15, 12), (14, 144115188075857185), (13, 1825), (12, 12), (11, 35184372089633), (10, 817), (9, 369), (8, 12), (7, 129), (6, 8388721), (5, 113), (4, 49), (3, 12), (2, 65553), (1, 17), (0, 1)], []⟩
noncomputable abbrev evn (t : Tab) (hn : HintsT) (Λ : LoopT) (f : FuncId) (args : List AV) (hp : Hp) : T (AV × Hp) := evFnT Tryd.prog t.pf (hdT Tryd.prog t.pf t.con H0 20 9) hn 20 Λ f args hp
noncomputable abbrev rdn (t : Tab) (hn : HintsT) (Λ : LoopT) (f : FuncId) (base i : Nat) (st : St) : T (AX × St) := roundT Tryd.prog t.pf (hdT Tryd.prog t.pf t.con H0 20 9) hn f base none 20 Λ (lbody Tryd.prog f i) st
end Go.Mvs
namespace Go.Mvs

open Go Go.Proofs Go.Ab

set_option maxRecDepth 100000
set_option linter.unusedVariables false
set_option linter.unusedSimpArgs false


/-! ### scan.Is -/

def dig (c : Int) : Bool := decide (c ≥ 48) && decide (c ≤ 57)

def let_ (c : Int) : Bool := decide (c ≥ 97) && decide (c ≤ 122) || decide (c ≥ 65) && decide (c ≤ 90)

def alnum (c : Int) : Bool := dig c || let_ c

def low_ (c : Int) : Bool := decide (c ≥ 97) && decide (c ≤ 122)

def upp (c : Int) : Bool := decide (c ≥ 65) && decide (c ≤ 90)

def isC (k c : Int) : Bool := if k = 1 then dig c else if k = 4 then let_ c else if k = 2 then low_ c else if k = 3 then upp c else alnum c

theorem t33_2 (c : Int) : (evn [] h33 noLoops 33 [.int .u8 c, .int .i64 2] []).run =
  bif decide (c ≥ (48 : Int)) then
   bif decide (c ≥ (97 : Int)) then
    bif decide (c ≥ (65 : Int)) then
     bif c == (32 : Int) then
      some ((AV.bool (decide (c ≤ (122 : Int))), []))
     else
      some ((AV.bool (decide (c ≤ (122 : Int))), []))
    else
     bif c == (32 : Int) then
      some ((AV.bool (decide (c ≤ (122 : Int))), []))
     else
      some ((AV.bool (decide (c ≤ (122 : Int))), []))
   else
    bif decide (c ≥ (65 : Int)) then
     bif c == (32 : Int) then
      some ((AV.bool false, []))
     else
      some ((AV.bool false, []))
    else
     bif c == (32 : Int) then
      some ((AV.bool false, []))
     else
      some ((AV.bool false, []))
  else
   bif decide (c ≥ (97 : Int)) then
    bif decide (c ≥ (65 : Int)) then
     bif c == (32 : Int) then
      some ((AV.bool (decide (c ≤ (122 : Int))), []))
     else
      some ((AV.bool (decide (c ≤ (122 : Int))), []))
    else
     bif c == (32 : Int) then
      some ((AV.bool (decide (c ≤ (122 : Int))), []))
     else
      some ((AV.bool (decide (c ≤ (122 : Int))), []))
   else
    bif decide (c ≥ (65 : Int)) then
     bif c == (32 : Int) then
      some ((AV.bool false, []))
     else
      some ((AV.bool false, []))
    else
     bif c == (32 : Int) then
      some ((AV.bool false, []))
     else
      some ((AV.bool false, [])) := by kernel_rfl

theorem t33_3 (c : Int) : (evn [] h33 noLoops 33 [.int .u8 c, .int .i64 3] []).run =
  bif decide (c ≥ (48 : Int)) then
   bif decide (c ≥ (97 : Int)) then
    bif decide (c ≥ (65 : Int)) then
     bif c == (32 : Int) then
      some ((AV.bool (decide (c ≤ (90 : Int))), []))
     else
      some ((AV.bool (decide (c ≤ (90 : Int))), []))
    else
     bif c == (32 : Int) then
      some ((AV.bool false, []))
     else
      some ((AV.bool false, []))
   else
    bif decide (c ≥ (65 : Int)) then
     bif c == (32 : Int) then
      some ((AV.bool (decide (c ≤ (90 : Int))), []))
     else
      some ((AV.bool (decide (c ≤ (90 : Int))), []))
    else
     bif c == (32 : Int) then
      some ((AV.bool false, []))
     else
      some ((AV.bool false, []))
  else
   bif decide (c ≥ (97 : Int)) then
    bif decide (c ≥ (65 : Int)) then
     bif c == (32 : Int) then
      some ((AV.bool (decide (c ≤ (90 : Int))), []))
     else
      some ((AV.bool (decide (c ≤ (90 : Int))), []))
    else
     bif c == (32 : Int) then
      some ((AV.bool false, []))
     else
      some ((AV.bool false, []))
   else
    bif decide (c ≥ (65 : Int)) then
     bif c == (32 : Int) then
      some ((AV.bool (decide (c ≤ (90 : Int))), []))
     else
      some ((AV.bool (decide (c ≤ (90 : Int))), []))
    else
     bif c == (32 : Int) then
      some ((AV.bool false, []))
     else
      some ((AV.bool false, [])) := by kernel_rfl

theorem t33_1 (c : Int) : (evn [] h33 noLoops 33 [.int .u8 c, .int .i64 1] []).run =
  bif decide (c ≥ (48 : Int)) then
   bif decide (c ≥ (97 : Int)) then
    bif decide (c ≥ (65 : Int)) then
     bif c == (32 : Int) then
      some ((AV.bool (decide (c ≤ (57 : Int))), []))
     else
      some ((AV.bool (decide (c ≤ (57 : Int))), []))
    else
     bif c == (32 : Int) then
      some ((AV.bool (decide (c ≤ (57 : Int))), []))
     else
      some ((AV.bool (decide (c ≤ (57 : Int))), []))
   else
    bif decide (c ≥ (65 : Int)) then
     bif c == (32 : Int) then
      some ((AV.bool (decide (c ≤ (57 : Int))), []))
     else
      some ((AV.bool (decide (c ≤ (57 : Int))), []))
    else
     bif c == (32 : Int) then
      some ((AV.bool (decide (c ≤ (57 : Int))), []))
     else
      some ((AV.bool (decide (c ≤ (57 : Int))), []))
  else
   bif decide (c ≥ (97 : Int)) then
    bif decide (c ≥ (65 : Int)) then
     bif c == (32 : Int) then
      some ((AV.bool false, []))
     else
      some ((AV.bool false, []))
    else
     bif c == (32 : Int) then
      some ((AV.bool false, []))
     else
      some ((AV.bool false, []))
   else
    bif decide (c ≥ (65 : Int)) then
     bif c == (32 : Int) then
      some ((AV.bool false, []))
     else
      some ((AV.bool false, []))
    else
     bif c == (32 : Int) then
      some ((AV.bool false, []))
     else
      some ((AV.bool false, [])) := by kernel_rfl

theorem t33_4 (c : Int) : (evn [] h33 noLoops 33 [.int .u8 c, .int .i64 4] []).run =
  bif decide (c ≥ (48 : Int)) then
   bif decide (c ≥ (97 : Int)) then
    bif decide (c ≥ (65 : Int)) then
     bif c == (32 : Int) then
      bif decide (c ≤ (122 : Int)) then
       some ((AV.bool true, []))
      else
       some ((AV.bool (decide (c ≤ (90 : Int))), []))
     else
      bif decide (c ≤ (122 : Int)) then
       some ((AV.bool true, []))
      else
       some ((AV.bool (decide (c ≤ (90 : Int))), []))
    else
     bif c == (32 : Int) then
      bif decide (c ≤ (122 : Int)) then
       some ((AV.bool true, []))
      else
       some ((AV.bool false, []))
     else
      bif decide (c ≤ (122 : Int)) then
       some ((AV.bool true, []))
      else
       some ((AV.bool false, []))
   else
    bif decide (c ≥ (65 : Int)) then
     bif c == (32 : Int) then
      some ((AV.bool (decide (c ≤ (90 : Int))), []))
     else
      some ((AV.bool (decide (c ≤ (90 : Int))), []))
    else
     bif c == (32 : Int) then
      some ((AV.bool false, []))
     else
      some ((AV.bool false, []))
  else
   bif decide (c ≥ (97 : Int)) then
    bif decide (c ≥ (65 : Int)) then
     bif c == (32 : Int) then
      bif decide (c ≤ (122 : Int)) then
       some ((AV.bool true, []))
      else
       some ((AV.bool (decide (c ≤ (90 : Int))), []))
     else
      bif decide (c ≤ (122 : Int)) then
       some ((AV.bool true, []))
      else
       some ((AV.bool (decide (c ≤ (90 : Int))), []))
    else
     bif c == (32 : Int) then
      bif decide (c ≤ (122 : Int)) then
       some ((AV.bool true, []))
      else
       some ((AV.bool false, []))
     else
      bif decide (c ≤ (122 : Int)) then
       some ((AV.bool true, []))
      else
       some ((AV.bool false, []))
   else
    bif decide (c ≥ (65 : Int)) then
     bif c == (32 : Int) then
      some ((AV.bool (decide (c ≤ (90 : Int))), []))
     else
      some ((AV.bool (decide (c ≤ (90 : Int))), []))
    else
     bif c == (32 : Int) then
      some ((AV.bool false, []))
     else
      some ((AV.bool false, [])) := by kernel_rfl

theorem t33_5 (c : Int) : (evn [] h33 noLoops 33 [.int .u8 c, .int .i64 5] []).run =
  bif decide (c ≥ (48 : Int)) then
   bif decide (c ≥ (97 : Int)) then
    bif decide (c ≥ (65 : Int)) then
     bif c == (32 : Int) then
      bif decide (c ≤ (57 : Int)) then
       some ((AV.bool true, []))
      else
       bif decide (c ≤ (122 : Int)) then
        some ((AV.bool true, []))
       else
        some ((AV.bool (decide (c ≤ (90 : Int))), []))
     else
      bif decide (c ≤ (57 : Int)) then
       some ((AV.bool true, []))
      else
       bif decide (c ≤ (122 : Int)) then
        some ((AV.bool true, []))
       else
        some ((AV.bool (decide (c ≤ (90 : Int))), []))
    else
     bif c == (32 : Int) then
      bif decide (c ≤ (57 : Int)) then
       some ((AV.bool true, []))
      else
       bif decide (c ≤ (122 : Int)) then
        some ((AV.bool true, []))
       else
        some ((AV.bool false, []))
     else
      bif decide (c ≤ (57 : Int)) then
       some ((AV.bool true, []))
      else
       bif decide (c ≤ (122 : Int)) then
        some ((AV.bool true, []))
       else
        some ((AV.bool false, []))
   else
    bif decide (c ≥ (65 : Int)) then
     bif c == (32 : Int) then
      bif decide (c ≤ (57 : Int)) then
       some ((AV.bool true, []))
      else
       some ((AV.bool (decide (c ≤ (90 : Int))), []))
     else
      bif decide (c ≤ (57 : Int)) then
       some ((AV.bool true, []))
      else
       some ((AV.bool (decide (c ≤ (90 : Int))), []))
    else
     bif c == (32 : Int) then
      bif decide (c ≤ (57 : Int)) then
       some ((AV.bool true, []))
      else
       some ((AV.bool false, []))
     else
      bif decide (c ≤ (57 : Int)) then
       some ((AV.bool true, []))
      else
       some ((AV.bool false, []))
  else
   bif decide (c ≥ (97 : Int)) then
    bif decide (c ≥ (65 : Int)) then
     bif c == (32 : Int) then
      bif decide (c ≤ (122 : Int)) then
       some ((AV.bool true, []))
      else
       some ((AV.bool (decide (c ≤ (90 : Int))), []))
     else
      bif decide (c ≤ (122 : Int)) then
       some ((AV.bool true, []))
      else
       some ((AV.bool (decide (c ≤ (90 : Int))), []))
    else
     bif c == (32 : Int) then
      bif decide (c ≤ (122 : Int)) then
       some ((AV.bool true, []))
      else
       some ((AV.bool false, []))
     else
      bif decide (c ≤ (122 : Int)) then
       some ((AV.bool true, []))
      else
       some ((AV.bool false, []))
   else
    bif decide (c ≥ (65 : Int)) then
     bif c == (32 : Int) then
      some ((AV.bool (decide (c ≤ (90 : Int))), []))
     else
      some ((AV.bool (decide (c ≤ (90 : Int))), []))
    else
     bif c == (32 : Int) then
      some ((AV.bool false, []))
     else
      some ((AV.bool false, [])) := by kernel_rfl


theorem is1 (c : Int) : (evn [] h33 noLoops 33 [.int .u8 c, .int .i64 1] []).run = some (.bool (dig c), []) := by
  rw [t33_1]; simp only [Bool.cond_eq_ite, decide_eq_true_eq, dig]
  (repeat' split) <;> grind

theorem is4 (c : Int) : (evn [] h33 noLoops 33 [.int .u8 c, .int .i64 4] []).run = some (.bool (let_ c), []) := by
  rw [t33_4]; simp only [Bool.cond_eq_ite, decide_eq_true_eq, let_]
  (repeat' split) <;> grind

theorem is5 (c : Int) : (evn [] h33 noLoops 33 [.int .u8 c, .int .i64 5] []).run = some (.bool (alnum c), []) := by
  rw [t33_5]; simp only [Bool.cond_eq_ite, decide_eq_true_eq, alnum, let_, dig]
  (repeat' split) <;> grind

theorem is2 (c : Int) : (evn [] h33 noLoops 33 [.int .u8 c, .int .i64 2] []).run = some (.bool (low_ c), []) := by
  rw [t33_2]; simp only [Bool.cond_eq_ite, decide_eq_true_eq, low_]
  (repeat' split) <;> grind

theorem is3 (c : Int) : (evn [] h33 noLoops 33 [.int .u8 c, .int .i64 3] []).run = some (.bool (upp c), []) := by
  rw [t33_3]; simp only [Bool.cond_eq_ite, decide_eq_true_eq, upp]
  (repeat' split) <;> grind

def cIs : List AV → T AV
  | [.int .u8 c, .int .i64 k] => .br (decide (k = 1)) (.leaf (.bool (isC 1 c))) (.br (decide (k = 4)) (.leaf (.bool (isC 4 c))) (.br (decide (k = 2)) (.leaf (.bool (isC 2 c))) (.br (decide (k = 3)) (.leaf (.bool (isC 3 c))) (.chk (decide (k = 5)) (.leaf (.bool (isC 5 c)))))))
  | _ => .fail

theorem s33 : Sound1 Tryd.prog ⟨33, true, pcon cIs⟩ := by
  refine sound_pure (SoundTab.nil _) (hn := h33) (m := 20) (k := 9) (Λ := noLoops) (fun i hi => ?_) fun args r hF h => ?_
  · rw [show (loopsOf (bodyOf Tryd.prog 33)).length = 0 by kernel_rfl] at hi; omega
  · unfold cIs at h
    split at h
    · rename_i c k
      rw [T.run_br] at h
      split at h
      · rename_i hk
        obtain rfl : k = 1 := by simpa using hk
        simp only [T.run_leaf, Option.some.injEq] at h; subst h
        exact is1 c
      · rw [T.run_br] at h
        split at h
        · rename_i hk
          obtain rfl : k = 4 := by simpa using hk
          simp only [T.run_leaf, Option.some.injEq] at h; subst h
          exact is4 c
        · rw [T.run_br] at h
          split at h
          · rename_i hk
            obtain rfl : k = 2 := by simpa using hk
            simp only [T.run_leaf, Option.some.injEq] at h; subst h
            exact is2 c
          · rw [T.run_br] at h
            split at h
            · rename_i hk
              obtain rfl : k = 3 := by simpa using hk
              simp only [T.run_leaf, Option.some.injEq] at h; subst h
              exact is3 c
            · rw [T.run_chk] at h
              split at h
              · rename_i hk
                obtain rfl : k = 5 := by simpa using hk
                simp only [T.run_leaf, Option.some.injEq] at h; subst h
                exact is5 c
              · cases h
    · cases h

def tabA : Tab := [⟨33, true, pcon cIs⟩]

theorem okA : SoundTab Tryd.prog tabA := soundTab_of (by simp only [tabA, List.mem_cons, List.not_mem_nil, or_false]; rintro e rfl; exact s33)

end Go.Mvs
namespace Go.Mvs
open Go Go.Proofs Go.Ab
set_option maxRecDepth 100000
set_option linter.unusedVariables false
set_option linter.unusedSimpArgs false
/-! ### strings.trimLeftByte -/
def dropB (c : Int) (s : List UInt8) : List UInt8 := s.dropWhile fun b => (b.toNat : Int) == c
def o73 (x : List UInt8 × Int) : AX × St := (.exit 0, { tm := tmOf 17 [(0, .str (dropB x.2 x.1)), (1, .int .u8 x.2), (13, .bool false)], ms := [], hp := [] })
def D73 : List AV → Hp → T (AX × St)
  | [.str s, .int .u8 c], [] => .leaf (o73 (s, c))
  | _, _ => .fail
def L73 : LoopT := fun k => match Nat.beq k 100020 with
  | true => some (lcon (mbits 3 17) D73)
  | false => none
theorem r73 (s : List UInt8) (c : Int) : (rdn tabA h73 L73 73 0 0 { tm := encGo (mbits 3 17) [.str s, .int .u8 c], ms := [], hp := [] }).run =
  bif decide ((↑s.length : Int) > (0 : Int)) then
   bif decide ((0 : Int) ≤ (0 : Int) ∧ (0 : Int) < (↑s.length : Int)) then
    bif (↑(s.getD (Int.toNat (0 : Int)) (0 : UInt8)).toNat : Int) == c then
     bif decide ((0 : Int) ≤ (1 : Int) ∧ (1 : Int) ≤ (↑s.length : Int)) then
      some ((AX.normal, { tm := tmOf 17 [(0, AV.str (List.drop (Int.toNat (1 : Int)) s)), (1, AV.int IntKind.u8 c)], ms := [], hp := [] }))
     else
      none
    else
     some ((AX.exit 0, { tm := tmOf 17 [(0, AV.str s), (1, AV.int IntKind.u8 c), (13, AV.bool false)], ms := [], hp := [] }))
   else
    none
  else
   some ((AX.exit 0, { tm := tmOf 17 [(0, AV.str s), (1, AV.int IntKind.u8 c), (13, AV.bool false)], ms := [], hp := [] })) := by kernel_rfl
theorem l73 : LoopOk Tryd.prog tabA.pf (fun n => hd Tryd.prog tabA.pf tabA.con.run (fun f => (H0 f).to) n 9) h73.to 73 0 none L73 (loopAt Tryd.prog 73 0) := by
  rw [show loopAt Tryd.prog 73 0 = .loop (lbody Tryd.prog 73 0) by kernel_rfl]
  refine loop_con (hdT_le (m := 20) 9) (m := 20) (within_of _ (by rw [show loopsOf (lbody Tryd.prog 73 0) = [] by kernel_rfl]; simp)) (D := D73) (lv := mbits 3 17) (by kernel_rfl)
    (X := List UInt8 × Int) (fun x => ([.str x.1, .int .u8 x.2], [])) o73 (fun _ => True) (fun x => x.1.length) ?_ ?_
  · intro vs hp r h
    unfold D73 at h
    split at h
    · rename_i s c
      simp only [T.run_leaf, Option.some.injEq] at h
      exact ⟨(s, c), rfl, trivial, h.symm⟩
    · cases h
  · rintro ⟨s, c⟩ -
    have ht := r73 s c
    cases s with
    | nil => right; exact ⟨by kernel_rfl, by simp [o73]⟩
    | cons b s =>
      by_cases hb : ((b.toNat : Int) == c) = true
      · left
        refine ⟨(s, c), trivial, by simp, ?_, ?_⟩
        · simp [o73, dropB, List.dropWhile_cons, hb]
        · refine ht.trans ?_
          have h1 : decide ((((b :: s).length : Nat) : Int) > 0) = true := by simp <;> omega
          have h2 : decide ((0 : Int) ≤ 0 ∧ (0 : Int) < (((b :: s).length : Nat) : Int)) = true := by simp <;> omega
          have h3 : ((((b :: s).getD (Int.toNat 0) 0).toNat : Int) == c) = true := hb
          have h4 : decide ((0 : Int) ≤ 1 ∧ (1 : Int) ≤ (((b :: s).length : Nat) : Int)) = true := by simp <;> omega
          rw [h1, h2, h3, h4]
          rfl
      · right
        refine ⟨?_, by simp [o73]⟩
        refine ht.trans ?_
        have h1 : decide ((((b :: s).length : Nat) : Int) > 0) = true := by simp <;> omega
        have h2 : decide ((0 : Int) ≤ 0 ∧ (0 : Int) < (((b :: s).length : Nat) : Int)) = true := by simp <;> omega
        have h3 : ((((b :: s).getD (Int.toNat 0) 0).toNat : Int) == c) = false := by simpa using hb
        rw [h1, h2, h3]
        have : dropB c (b :: s) = b :: s := by simp [dropB, List.dropWhile_cons, hb]
        simp only [o73, this]
        rfl
def c73 : List AV → T AV
  | [.str s, .int .u8 c] => .leaf (.str (dropB c s))
  | _ => .fail
theorem s73 : Sound1 Tryd.prog ⟨73, true, pcon c73⟩ := by
  refine sound_pure okA (hn := h73) (m := 20) (k := 9) (Λ := L73) (fun i hi => ?_) fun args r hF h => ?_
  · rw [show (loopsOf (bodyOf Tryd.prog 73)).length = 1 by kernel_rfl] at hi
    obtain rfl : i = 0 := by omega
    exact l73
  · unfold c73 at h
    split at h
    · simp only [T.run_leaf, Option.some.injEq] at h; subst h
      kernel_rfl
    · cases h
end Go.Mvs
namespace Go.Mvs
open Go Go.Proofs Go.Ab
set_option maxRecDepth 100000
set_option linter.unusedVariables false
set_option linter.unusedSimpArgs false

/-! ### functions without a body -/
theorem ext_sound {P : Program} {f : FuncId} {fn : Func} {e : Array Value → Sem Value} (hf : P.funcs[f]? = some fn) (hname : (fn.name == "runtime.NumGoroutine") = false)
    (hb : fn.body.isNone = true) (hn : Extern.findNext fn = none) (he : Extern.find fn = some e) {c : List AV → T AV}
    (h : ∀ args r, (c args).run = some r → ∀ X w σ (vargs : Array Value), VL X w σ args vargs.toList → ∃ v, (e vargs).run P w = .ok v w ∧ V X w σ r v) : Sound1 P ⟨f, true, pcon c⟩ where
  ok args hp r hp' hr X0 σ w vargs hR hV := by
    obtain ⟨h1, h2, h3, rfl, h4⟩ := pcon_run hr
    obtain ⟨v, h5, h6⟩ := h args r h2 _ w σ vargs hV
    refine .inr ⟨v, w, ?_, σ, fun _ _ h => h, ⟨Step.refl _ _, fun _ _ h => h⟩, hR, h6⟩
    rw [run_callFunc_extern hf hname hb hn he, h5]
    rfl
  len args hp r hp' hr := by
    obtain ⟨_, _, _, rfl, _⟩ := pcon_run hr; exact Nat.le_refl _
  pure _ args hp r hp' hr := by
    obtain ⟨_, _, _, rfl, h4⟩ := pcon_run hr; exact ⟨rfl, h4⟩
def c60 : List AV → T AV
  | [.str a, .str b] => .leaf (.int .i64 (Lib.compareBytes a b))
  | _ => .fail
theorem compareBytes_range : ∀ a b : List UInt8, -1 ≤ Lib.compareBytes a b ∧ Lib.compareBytes a b ≤ 1
  | [], [] => by simp [Lib.compareBytes]
  | [], _ :: _ => by simp [Lib.compareBytes]
  | _ :: _, [] => by simp [Lib.compareBytes]
  | a :: x, b :: y => by
    unfold Lib.compareBytes
    split
    · omega
    · split
      · omega
      · exact compareBytes_range x y
theorem s60 : Sound1 Tryd.prog ⟨60, true, pcon c60⟩ := by
  refine ext_sound Tryd.func60 (by kernel_rfl) (by kernel_rfl) (by kernel_rfl) (e := Extern.BytealgCompare.compare) (by kernel_rfl) fun args r hr X w σ vargs hV => ?_
  unfold c60 at hr
  split at hr
  · rename_i a b
    simp only [T.run_leaf, Option.some.injEq] at hr; subst hr
    simp only [VL, V] at hV
    obtain ⟨u, us, h1, ⟨rfl, ha⟩, u2, us2, rfl, ⟨rfl, hb⟩, rfl⟩ := hV
    have : vargs = #[.string ⟨⟨a⟩⟩, .string ⟨⟨b⟩⟩] := by apply Array.ext'; simpa using h1
    subst this
    refine ⟨_, Lib.run_compareString _ _ w, ?_⟩
    simp only [V]
    have := compareBytes_range a b
    refine ⟨trivial, ?_, ?_⟩
    · show IntKind.i64.min ≤ Lib.compareBytes a b
      have : IntKind.i64.min = -9223372036854775808 := rfl
      omega
    · show Lib.compareBytes a b ≤ IntKind.i64.max
      have : IntKind.i64.max = 9223372036854775807 := rfl
      omega
  · cases hr
def c78 : List AV → T AV
  | [.str a, .int .u8 c] => .leaf (.int .i64 (Lib.indexByte a c.toNat.toUInt8))
  | _ => .fail
theorem indexByte_le : ∀ (l : List UInt8) (c : UInt8), Lib.indexByte l c ≤ l.length
  | [], c => by simp [Lib.indexByte]
  | b :: l, c => by
    have := indexByte_le l c
    unfold Lib.indexByte
    split
    · simp; omega
    · split
      · simp; omega
      · simp; omega
theorem s78 : Sound1 Tryd.prog ⟨78, true, pcon c78⟩ := by
  refine ext_sound Tryd.func78 (by kernel_rfl) (by kernel_rfl) (by kernel_rfl) (e := Extern.BytealgIndexByte.indexByte) (by kernel_rfl) fun args r hr X w σ vargs hV => ?_
  unfold c78 at hr
  split at hr
  · rename_i a b
    simp only [T.run_leaf, Option.some.injEq] at hr; subst hr
    simp only [VL, V] at hV
    obtain ⟨u, us, h1, ⟨rfl, ha⟩, u2, us2, rfl, ⟨rfl, hb⟩, rfl⟩ := hV
    have : vargs = #[.string ⟨⟨a⟩⟩, .int .u8 b] := by apply Array.ext'; simpa using h1
    subst this
    refine ⟨_, Lib.run_indexByteString _ _ w, ?_⟩
    simp only [V]
    have h1 := Lib.indexByte_ge a b.toNat.toUInt8
    have h2 := indexByte_le a b.toNat.toUInt8
    simp only [bnd] at ha
    refine ⟨trivial, ?_, ?_⟩
    · show IntKind.i64.min ≤ Lib.indexByte a _
      have : IntKind.i64.min = -9223372036854775808 := rfl
      omega
    · show Lib.indexByte a _ ≤ IntKind.i64.max
      have : IntKind.i64.max = 9223372036854775807 := rfl
      omega
  · cases hr
def tabC : Tab := [⟨60, true, pcon c60⟩, ⟨78, true, pcon c78⟩, ⟨73, true, pcon c73⟩, ⟨33, true, pcon cIs⟩]
theorem okC : SoundTab Tryd.prog tabC := soundTab_of (by
  simp only [tabC, List.mem_cons, List.not_mem_nil, or_false]
  rintro e (rfl | rfl | rfl | rfl)
  · exact s60
  · exact s78
  · exact s73
  · exact s33)
end Go.Mvs
namespace Go.Mvs

open Go Go.Proofs Go.Ab

set_option maxRecDepth 100000
set_option linter.unusedVariables false

set_option linter.unusedSimpArgs false

def trimD (d : List UInt8) : List UInt8 := if dropB 48 d = [] then [48] else dropB 48 d

theorem t51 (s : List UInt8) : (evn tabC h51 noLoops 51 [.str s] []).run =
  bif s == [] then
   bif s == [] then
    some ((AV.str [(48 : UInt8)], []))
   else
    some ((AV.str s, []))
  else
   bif dropB (48 : Int) s == [] then
    some ((AV.str [(48 : UInt8)], []))
   else
    some ((AV.str (dropB (48 : Int) s), [])) := by kernel_rfl

def c51 : List AV → T AV
  | [.str d] => .leaf (.str (trimD d))
  | _ => .fail

theorem noLoop {f : FuncId} {Φ : Nat → Prop} (h : (loopsOf (bodyOf Tryd.prog f)).length = 0) : ∀ i, i < (loopsOf (bodyOf Tryd.prog f)).length → Φ i := fun i hi => by omega

theorem s51 : Sound1 Tryd.prog ⟨51, true, pcon c51⟩ := by
  refine sound_pure okC (hn := h51) (m := 20) (k := 9) (Λ := noLoops) (noLoop (by kernel_rfl)) fun args r hF h => ?_
  unfold c51 at h
  split at h
  · rename_i s
    simp only [T.run_leaf, Option.some.injEq] at h; subst h
    refine (t51 s).trans ?_
    simp only [trimD]
    by_cases h1 : s = []
    · subst h1; rfl
    · have h2 : (s == []) = false := by simpa using h1
      rw [h2]
      by_cases h3 : dropB 48 s = []
      · rw [h3]; rfl
      · have h4 : (dropB 48 s == []) = false := by simpa using h3
        rw [h4, if_neg h3]; rfl
  · cases h

def cmpI (x y : Int) : Int := if x < y then -1 else if y < x then 1 else 0

theorem t70 (x y : Int) : (evn tabC h70 noLoops 70 [.int .i64 x, .int .i64 y] []).run =
  bif x != x then
   bif y != y then
    some ((AV.int IntKind.i64 (0 : Int), []))
   else
    some ((AV.int IntKind.i64 (-1 : Int), []))
  else
   bif y != y then
    some ((AV.int IntKind.i64 (1 : Int), []))
   else
    bif decide (x < y) then
     some ((AV.int IntKind.i64 (-1 : Int), []))
    else
     bif decide (x > y) then
      some ((AV.int IntKind.i64 (1 : Int), []))
     else
      some ((AV.int IntKind.i64 (0 : Int), [])) := by kernel_rfl

def c70 : List AV → T AV
  | [.int .i64 x, .int .i64 y] => .leaf (.int .i64 (cmpI x y))
  | _ => .fail

theorem s70 : Sound1 Tryd.prog ⟨70, true, pcon c70⟩ := by
  refine sound_pure okC (hn := h70) (m := 20) (k := 9) (Λ := noLoops) (noLoop (by kernel_rfl)) fun args r hF h => ?_
  unfold c70 at h
  split at h
  · rename_i x y
    simp only [T.run_leaf, Option.some.injEq] at h; subst h
    refine (t70 x y).trans ?_
    simp only [cmpI, Bool.cond_eq_ite]
    (repeat' split) <;> grind
  · cases h

def tabD : Tab := [⟨51, true, pcon c51⟩, ⟨70, true, pcon c70⟩, ⟨60, true, pcon c60⟩, ⟨78, true, pcon c78⟩, ⟨73, true, pcon c73⟩, ⟨33, true, pcon cIs⟩]

theorem okD : SoundTab Tryd.prog tabD := soundTab_of (by
  simp only [tabD, List.mem_cons, List.not_mem_nil, or_false]
  rintro e (rfl | rfl | rfl | rfl | rfl | rfl)
  · exact s51
  · exact s70
  · exact s60
  · exact s78
  · exact s73
  · exact s33)

theorem t58 (a b : List UInt8) : (evn tabD h58 noLoops 58 [.str a, .str b] []).run =
  bif cmpI (↑(trimD a).length : Int) (↑(trimD b).length : Int) != (0 : Int) then
   some ((AV.int IntKind.i64 (cmpI (↑(trimD a).length : Int) (↑(trimD b).length : Int)), []))
  else
   bif Lib.compareBytes (trimD a) (trimD b) != (0 : Int) then
    some ((AV.int IntKind.i64 (Lib.compareBytes (trimD a) (trimD b)), []))
   else
    some ((AV.int IntKind.i64 (0 : Int), [])) := by kernel_rfl

def cmpD (a b : List UInt8) : Int := if cmpI (trimD a).length (trimD b).length ≠ 0 then cmpI (trimD a).length (trimD b).length else Lib.compareBytes (trimD a) (trimD b)

def c58 : List AV → T AV
  | [.str a, .str b] => .leaf (.int .i64 (cmpD a b))
  | _ => .fail

theorem s58 : Sound1 Tryd.prog ⟨58, true, pcon c58⟩ := by
  refine sound_pure okD (hn := h58) (m := 20) (k := 9) (Λ := noLoops) (noLoop (by kernel_rfl)) fun args r hF h => ?_
  unfold c58 at h
  split at h
  · rename_i x y
    simp only [T.run_leaf, Option.some.injEq] at h; subst h
    refine (t58 x y).trans ?_
    simp only [cmpD, Bool.cond_eq_ite]
    (repeat' split) <;> grind
  · cases h

end Go.Mvs
namespace Go.Mvs

open Go Go.Proofs Go.Ab

set_option maxRecDepth 100000
set_option linter.unusedVariables false

set_option linter.unusedSimpArgs false

theorem w64 {n : Int} (h1 : -9223372036854775808 ≤ n) (h2 : n < 9223372036854775808) : IntKind.i64.wrap n = n := by
  rw [IntKind.wrap_i64]; omega

def digB (b : UInt8) : Bool := dig (b.toNat : Int)

def runL (l : List UInt8) : Nat := (l.takeWhile digB).length

def runX (s : List UInt8) (a i : Int) : Nat := runL (s.drop (a + i).toNat)

def oA22 (s : List UInt8) (a i : Int) : AX × St := (.ret, { tm := tmOf 38 [(6, .int .i64 (a + i + runX s a i))], ms := [], hp := [] })

def oB22 (s : List UInt8) (a i : Int) : AX × St := (.exit 0, { tm := tmOf 38 [(0, AV.str s), (1, .int .i64 a), (2, .int .i64 1), (20, .int .i64 ((s.length : Int) - a)), (21, .int .i64 ((s.length : Int) - a)), (22, .bool false)], ms := [], hp := [] })

def o22 (x : List UInt8 × Int × Int) : AX × St := if x.2.1 + x.2.2 + runX x.1 x.2.1 x.2.2 < x.1.length then oA22 x.1 x.2.1 x.2.2 else oB22 x.1 x.2.1 x.2.2

def p22 (x : List UInt8 × Int × Int) : Prop := 0 ≤ x.2.1 ∧ 0 ≤ x.2.2 ∧ x.2.1 + x.2.2 ≤ x.1.length ∧ x.1.length ≤ bnd

def e22 (x : List UInt8 × Int × Int) : List AV × Hp := ([.str x.1, .int .i64 x.2.1, .int .i64 1, .int .i64 ((x.1.length : Int) - x.2.1), .int .i64 x.2.2], [])

def D22 : List AV → Hp → T (AX × St)
  | [.str s, .int .i64 a, .int .i64 k, .int .i64 n, .int .i64 i], [] => .chk (decide (k = 1 ∧ n = (s.length : Int) - a ∧ 0 ≤ a ∧ 0 ≤ i ∧ a + i ≤ s.length ∧ s.length ≤ bnd))
    (.br (decide (a + i + runX s a i < s.length)) (.leaf (oA22 s a i)) (.leaf (oB22 s a i)))
  | _, _ => .fail

def L22 : LoopT := fun k => match Nat.beq k 400035 with
  | true => some (lcon (mbits 3145735 38) D22)
  | false => none

theorem r22 (s : List UInt8) (a i n : Int) : (rdn tabD h22 L22 22 0 0 { tm := encGo (mbits 3145735 38) [.str s, .int .i64 a, .int .i64 1, .int .i64 n, .int .i64 i], ms := [], hp := [] }).run =
  bif decide (i < n) then
   bif decide ((0 : Int) ≤ IntKind.i64.wrap (a + i) ∧ IntKind.i64.wrap (a + i) < (↑s.length : Int)) then
    bif !isC (1 : Int) (↑(s.getD (IntKind.i64.wrap (a + i)).toNat (0 : UInt8)).toNat : Int) then
     some ((AX.ret, { tm := tmOf 38 [(6, AV.int IntKind.i64 (IntKind.i64.wrap (a + i)))], ms := [], hp := [] }))
    else
     some ((AX.normal, { tm := tmOf 38 [(0, AV.str s), (1, AV.int IntKind.i64 a), (2, AV.int IntKind.i64 (1 : Int)), (20, AV.int IntKind.i64 n), (21, AV.int IntKind.i64 (IntKind.i64.wrap (i + (1 : Int))))], ms := [], hp := [] }))
   else
    none
  else
   some ((AX.exit 0, { tm := tmOf 38 [(0, AV.str s), (1, AV.int IntKind.i64 a), (2, AV.int IntKind.i64 (1 : Int)), (20, AV.int IntKind.i64 n), (21, AV.int IntKind.i64 i), (22, AV.bool false)], ms := [], hp := [] })) := by kernel_rfl

theorem drop_cons {s : List UInt8} {k : Nat} (h : k < s.length) : s.drop k = s.getD k 0 :: s.drop (k + 1) := by
  rw [List.drop_eq_getElem_cons h, List.getD_eq_getElem?_getD, List.getElem?_eq_getElem h]; rfl

theorem runL_le : ∀ (l : List UInt8), runL l ≤ l.length
  | [] => by simp [runL]
  | b :: l => by
    have := runL_le l
    simp only [runL, List.takeWhile_cons] at this ⊢
    split <;> simp <;> omega

theorem runX_lt {s : List UInt8} {a i : Int} (h0 : 0 ≤ a + i) (h : a + i < s.length) : runX s a i = if dig ((s.getD (a + i).toNat 0).toNat : Int) = true then runX s a (i + 1) + 1 else 0 := by
  unfold runX runL
  have e : (a + (i + 1)).toNat = (a + i).toNat + 1 := by omega
  rw [drop_cons (k := (a + i).toNat) (by omega), e, List.takeWhile_cons]
  have hd : digB (s.getD (a + i).toNat 0) = dig ((s.getD (a + i).toNat 0).toNat : Int) := rfl
  rw [hd]
  cases dig ((s.getD (a + i).toNat 0).toNat : Int) <;> rfl

theorem runX_end {s : List UInt8} {a i : Int} (h0 : 0 ≤ a + i) (h : a + i = s.length) : runX s a i = 0 := by
  unfold runX runL
  rw [List.drop_of_length_le (by omega)]; rfl

theorem l22 : LoopOk Tryd.prog tabD.pf (fun n => hd Tryd.prog tabD.pf tabD.con.run (fun f => (H0 f).to) n 9) h22.to 22 0 none L22 (loopAt Tryd.prog 22 0) := by
  rw [show loopAt Tryd.prog 22 0 = .loop (lbody Tryd.prog 22 0) by kernel_rfl]
  refine loop_con (hdT_le (m := 20) 9) (m := 20) (within_of _ (by rw [show loopsOf (lbody Tryd.prog 22 0) = [] by kernel_rfl]; simp)) (D := D22) (lv := mbits 3145735 38) (by kernel_rfl)
    e22 o22 p22 (fun x => ((x.1.length : Int) - x.2.1 - x.2.2).toNat) ?_ ?_
  · intro vs hp r h
    unfold D22 at h
    split at h
    · rename_i s a k n i
      rw [T.run_chk] at h
      split at h
      · rename_i hc
        simp only [decide_eq_true_eq] at hc
        obtain ⟨rfl, rfl, h1, h2, h3, h4⟩ := hc
        refine ⟨(s, a, i), rfl, ⟨h1, h2, h3, h4⟩, ?_⟩
        rw [run_brd] at h
        simp only [T.run_leaf] at h
        unfold o22
        split at h
        · rename_i hlt; rw [if_pos hlt]; injection h with h; exact h.symm
        · rename_i hlt; rw [if_neg hlt]; injection h with h; exact h.symm
      · cases h
    · cases h
  · rintro ⟨s, a, i⟩ ⟨h1, h2, h3, h4⟩
    simp only at h1 h2 h3 h4
    simp only [bnd] at h4
    have ht := r22 s a i ((s.length : Int) - a)
    have hw : IntKind.i64.wrap (a + i) = a + i := w64 (by omega) (by omega)
    have hw2 : IntKind.i64.wrap (i + 1) = i + 1 := w64 (by omega) (by omega)
    rw [hw, hw2] at ht
    by_cases hlt : a + i < s.length
    · have c1 : decide (i < (s.length : Int) - a) = true := by simp; omega
      have c2 : decide (0 ≤ a + i ∧ a + i < (s.length : Int)) = true := by simp; omega
      rw [c1, c2] at ht
      have hr := runX_lt (s := s) (a := a) (i := i) (by omega) hlt
      cases hd : dig ((s.getD (a + i).toNat 0).toNat : Int) with
      | true =>
        rw [if_pos hd] at hr
        left
        refine ⟨(s, a, i + 1), ⟨h1, by simp only; omega, by simp only; omega, by simp only [bnd]; omega⟩, by simp only; omega, ?_, ?_⟩
        · simp only [o22, hr]
          have e1 : a + (i + 1) + (runX s a (i + 1) : Int) = a + i + ((runX s a (i + 1) + 1 : Nat) : Int) := by omega
          rw [e1]
          simp only [oA22, oB22, hr, e1]
        · refine ht.trans ?_
          simp only [isC, if_true, hd]
          rfl
      | false =>
        rw [if_neg (by rw [hd]; simp)] at hr
        right
        simp only [o22, hr]
        rw [if_pos (by omega)]
        refine ⟨?_, by simp [oA22]⟩
        refine ht.trans ?_
        simp only [isC, if_true, hd]
        simp only [oA22, hr, Int.natCast_zero, Int.add_zero]
        rfl
    · have hn : a + i = s.length := by omega
      have hi : i = (s.length : Int) - a := by omega
      have c1 : decide (i < (s.length : Int) - a) = false := by simp; omega
      rw [c1] at ht
      right
      simp only [o22, runX_end (s := s) (a := a) (i := i) (by omega) hn]
      rw [if_neg (by omega)]
      refine ⟨?_, by simp [oB22]⟩
      refine ht.trans ?_
      simp only [oB22]
      rw [hi]
      rfl

theorem t22 (s : List UInt8) (a : Int) : (evn tabD h22 L22 22 [.str s, .int .i64 a, .int .i64 1] []).run =
  bif decide (a < (0 : Int)) then
   some ((AV.int IntKind.i64 a, []))
  else
   bif decide (a > (↑s.length : Int)) then
    some ((AV.int IntKind.i64 a, []))
   else
    bif decide ((1 : Int) = (1 : Int) ∧ IntKind.i64.wrap ((↑s.length : Int) - a) = (↑s.length : Int) - a ∧ (0 : Int) ≤ a ∧ (0 : Int) ≤ (0 : Int) ∧ a + (0 : Int) ≤ (↑s.length : Int) ∧ s.length ≤ 4611686018427387903) then
     bif decide (a + (0 : Int) + (↑(runX s a (0 : Int)) : Int) < (↑s.length : Int)) then
      some ((AV.int IntKind.i64 (a + (0 : Int) + (↑(runX s a (0 : Int)) : Int)), []))
     else
      some ((AV.int IntKind.i64 (↑s.length : Int), []))
    else
     none := by kernel_rfl

def runD (s : List UInt8) (a : Int) : Int := if a < 0 ∨ a > s.length then a else a + runL (s.drop a.toNat)

def c22 : List AV → T AV
  | [.str s, .int .i64 a, .int .i64 k] => .chk (decide (k = 1)) (.leaf (.int .i64 (runD s a)))
  | _ => .fail

theorem oneLoop {f : FuncId} {Φ : Nat → Prop} (h : (loopsOf (bodyOf Tryd.prog f)).length = 1) (h0 : Φ 0) : ∀ i, i < (loopsOf (bodyOf Tryd.prog f)).length → Φ i := fun i hi => by
  obtain rfl : i = 0 := by omega
  exact h0

theorem s22 : Sound1 Tryd.prog ⟨22, true, pcon c22⟩ := by
  refine sound_pure okD (hn := h22) (m := 20) (k := 9) (Λ := L22) (oneLoop (by kernel_rfl) l22) fun args r hF h => ?_
  unfold c22 at h
  split at h
  · rename_i s a k
    rw [T.run_chk] at h
    split at h
    · rename_i hk
      obtain rfl : k = 1 := by simpa using hk
      simp only [T.run_leaf, Option.some.injEq] at h; subst h
      have hb : s.length ≤ bnd := hF.1
      simp only [bnd] at hb
      refine (t22 s a).trans ?_
      unfold runD
      by_cases h1 : a < 0
      · rw [if_pos (.inl h1)]
        simp only [h1, decide_true, cond_true]
      · by_cases h2 : a > s.length
        · rw [if_pos (.inr h2)]
          simp only [h1, h2, decide_true, decide_false, cond_true, cond_false]
        · rw [if_neg (by omega)]
          have hw : IntKind.i64.wrap ((s.length : Int) - a) = (s.length : Int) - a := w64 (by omega) (by omega)
          simp only [h1, h2, decide_false, cond_false, hw]
          have e : runX s a 0 = runL (s.drop a.toNat) := by simp [runX]
          have hle := runL_le (s.drop a.toNat)
          simp only [List.length_drop] at hle
          simp only [bnd, e, Bool.cond_eq_ite, decide_eq_true_eq]
          (repeat' split) <;> grind
    · cases h
  · cases h

end Go.Mvs
namespace Go.Mvs
open Go Go.Proofs Go.Ab
set_option maxRecDepth 100000
set_option linter.unusedVariables false
set_option linter.unusedSimpArgs false

theorem sound_mem_tab {P : Program} {e : Con} {t : Tab} (he : Sound1 P e) (ht : ∀ x, x ∈ t → Sound1 P x) : ∀ x, x ∈ e :: t → Sound1 P x := by
  intro x hx
  rcases List.mem_cons.1 hx with rfl | hx
  · exact he
  · exact ht x hx

theorem anyLoops {t : Tab} {H : Nat → Hd} {hn : HintsT} {f : FuncId} {i : Nat} : LoopOk Tryd.prog t.pf H hn.to f 0 none noLoops (loopAt Tryd.prog f i) := by
  generalize loopAt Tryd.prog f i = c
  cases c with
  | loop c => exact fun l hl => by cases hl
  | rangeFunc _ _ _ _ => exact fun l hl => by cases hl
  | _ => trivial

def tabE : Tab := ⟨22, true, pcon c22⟩ :: ⟨58, true, pcon c58⟩ :: tabD

theorem all_tabE : ∀ e, e ∈ tabE → Sound1 Tryd.prog e := by
  refine sound_mem_tab s22 (sound_mem_tab s58 ?_)
  simp only [tabD, List.mem_cons, List.not_mem_nil, or_false]
  rintro e (rfl | rfl | rfl | rfl | rfl | rfl)
  · exact s51
  · exact s70
  · exact s60
  · exact s78
  · exact s73
  · exact s33

theorem ok_tabE : SoundTab Tryd.prog tabE := soundTab_of all_tabE
end Go.Mvs

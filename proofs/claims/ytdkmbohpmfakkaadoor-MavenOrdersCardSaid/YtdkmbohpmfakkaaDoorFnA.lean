/- Lemmas for the claims of this seat (a verified symbolic evaluator, and contracts of functions): own work; no condition. -/
import Derived.Test.YtdkmbohpmfakkaaDoorEvF
import Derived.Test.YtdkmbohpmfakkaaDoorProg
import Derived.KernelRfl
import Derived.Laws.Externs
import Derived.Lib.Bytealg
import Derived.Laws.BitsLemmas
namespace Go.Mvn
open Go Go.Proofs Go.Ab
def h3 : HintsT := ⟨49, [(3, 4), (2, 121), (1, 25), (0, 1)], []⟩
def h4 : HintsT := ⟨74, [(6, 64), (5, 64), (4, 274877907840), (3, 899), (2, 391), (1, 135), (0, 7)], []⟩
def h5 : HintsT := ⟨63, [(8, 4), (7, 233), (6, 4), (5, 33554473), (4, 4), (3, 131113), (2, 57), (1, 25), (0, 1)], []⟩
def h6 : HintsT := ⟨97, [(11, 64), (10, 15489), (9, 18446744073709583489), (8, 31873), (7, 15493), (6, 7301), (5, 64), (4, 137438954629), (3, 1413), (2, 903), (1, 391), (0, 7)], []⟩
def h7 : HintsT := ⟨62, [(3, 1024), (2, 6175), (1, 2079), (0, 31)], []⟩
def h8 : HintsT := ⟨38, [(15, 12), (14, 0), (13, 96), (12, 805306412), (11, 536870957), (10, 536969229), (9, 12), (8, 545357853), (7, 536969245), (6, 537100301), (5, 536969229), (4, 12), (3, 536875021), (2, 12), (1, 536871437), (0, 536870925)], [(6, 536969229)]⟩
def h9 : HintsT := ⟨17, [(2, 12), (1, 120), (0, 9)], []⟩
def h10 : HintsT := ⟨26, [(8, 16), (5, 35), (7, 16), (6, 33554467), (4, 16419), (3, 35), (2, 16), (1, 1027), (0, 3)], [(4, 35)]⟩
def h11 : HintsT := ⟨42, [(16, 4), (15, 458784), (14, 458784), (13, 458912), (12, 34360197280), (9, 458912), (11, 458912), (10, 2147942560), (8, 268894432), (7, 458976), (6, 983072), (5, 458784), (4, 40), (3, 4), (2, 32776), (1, 24), (0, 1)], [(6, 458784)]⟩
def h12 : HintsT := ⟨53, [(15, 4), (7, 200), (14, 200), (13, 200), (12, 4398046511304), (9, 200), (11, 200), (10, 17179869384), (8, 1073742024), (6, 524488), (5, 200), (4, 72), (3, 4), (2, 32776), (1, 24), (0, 1)], [(6, 200)]⟩
def h13 : HintsT := ⟨33, [(2, 4), (1, 24), (0, 1)], []⟩
def h14 : HintsT := ⟨31, [(2, 4), (1, 24), (0, 1)], []⟩
def h15 : HintsT := ⟨11, [(4, 4), (3, 4), (2, 264), (1, 8), (0, 1)], []⟩
def h16 : HintsT := ⟨20, [(7, 4), (4, 25), (6, 4), (5, 131097), (3, 537), (2, 25), (1, 9), (0, 1)], [(3, 25)]⟩
def h17 : HintsT := ⟨42, [(7, 1), (4, 6), (6, 1), (5, 1048582), (3, 134), (2, 6), (1, 2), (0, 0)], [(3, 6)]⟩
def h18 : HintsT := ⟨47, [(8, 16), (5, 16), (7, 16), (6, 34359739907), (4, 134219427), (3, 1699), (2, 483), (1, 99), (0, 3)], []⟩
def h19 : HintsT := ⟨70, [(11, 4), (10, 114689), (9, 4), (8, 295147905179352940545), (7, 4), (6, 36028797019078681), (5, 114713), (4, 245761), (3, 114689), (2, 4), (1, 8193), (0, 1)], [(4, 114689)]⟩
def h20 : HintsT := ⟨131, [(17, 4), (7, 9), (16, 4), (15, 1361129467683753853853498429727072845833), (11, 57), (14, 4), (13, 77371252455336267181195321), (12, 121), (10, 70368744177721), (9, 57), (8, 25), (6, 34359738377), (5, 9), (4, 4), (3, 2147483649), (2, 4), (1, 32769), (0, 1)], [(10, 57), (6, 9)]⟩
def h21 : HintsT := ⟨50, [(15, 16), (14, 6291459), (13, 16), (12, 140737494647043), (11, 6291715), (10, 6291683), (9, 68725768419), (8, 6291683), (7, 274727139), (6, 6291683), (5, 6291491), (4, 14680067), (3, 6291459), (2, 16), (1, 65539), (0, 3)], [(4, 6291459)]⟩
def h22 : HintsT := ⟨55, [(15, 16), (5, 35), (14, 16), (13, 9007199254741283), (12, 291), (11, 227), (10, 4398046511331), (9, 227), (8, 17179869411), (7, 227), (6, 99), (4, 67108899), (3, 35), (2, 16), (1, 65539), (0, 3)], [(4, 35)]⟩
def h23 : HintsT := ⟨54, [(7, 16), (6, 16), (5, 16), (4, 17179869763), (3, 268436323), (2, 867), (1, 99), (0, 3)], []⟩
def h24 : HintsT := ⟨26, [(8, 16), (5, 35), (7, 16), (6, 33554467), (4, 16419), (3, 35), (2, 16), (1, 1027), (0, 3)], [(4, 35)]⟩
def h25 : HintsT := ⟨9, [(3, 4), (2, 8), (1, 8), (0, 1)], []⟩
def h26 : HintsT := ⟨50, [(12, 4), (4, 25), (11, 25), (10, 121), (9, 121), (8, 121), (7, 57), (6, 536870969), (5, 57), (3, 1049), (2, 25), (1, 9), (0, 1)], [(6, 57), (3, 25)]⟩
def h27 : HintsT := ⟨21, [(1, 4), (0, 1)], []⟩
def h28 : HintsT := ⟨4, [(1, 4), (0, 2)], []⟩
def h29 : HintsT := ⟨42, [(19, 4), (14, 14), (18, 14), (17, 17179869198), (16, 19327352846), (15, 19327352846), (13, 6442450958), (12, 2147483662), (7, 14), (9, 14), (11, 14), (10, 536870926), (8, 150994958), (6, 50331662), (5, 16777230), (4, 8388622), (3, 14), (2, 4), (1, 4102), (0, 6)], []⟩
def h30 : HintsT := ⟨41, [(14, 4), (13, 1), (12, 4), (11, 17179869185), (8, 17), (10, 4), (9, 536870929), (7, 16777233), (6, 17), (3, 9), (5, 9), (4, 16393), (2, 521), (1, 9), (0, 1)], [(7, 17), (2, 9)]⟩
def h31 : HintsT := ⟨46, [(11, 28), (7, 33), (10, 28), (9, 2199023255585), (8, 97), (6, 32801), (5, 33), (4, 28), (3, 2049), (2, 28), (1, 513), (0, 1)], [(6, 33)]⟩
def h32 : HintsT := ⟨17, [(3, 16), (2, 0), (1, 3), (0, 3)], []⟩
def h33 : HintsT := ⟨19, [(3, 48), (2, 2), (1, 3), (0, 3)], []⟩
def h34 : HintsT := ⟨14, [(1, 4), (0, 1)], []⟩
def h35 : HintsT := ⟨19, [(7, 16), (6, 387), (5, 16), (4, 65955), (3, 419), (2, 899), (1, 387), (0, 3)], [(2, 387)]⟩
def h36 : HintsT := ⟨4, [(3, 4), (2, 4), (1, 8), (0, 1)], []⟩
def h37 : HintsT := ⟨8, [(1, 16), (0, 3)], []⟩
def h38 : HintsT := ⟨38, [(9, 64), (8, 3145735), (7, 64), (6, 2150629511), (5, 3145863), (4, 7340039), (3, 3145735), (2, 64), (1, 32775), (0, 7)], [(4, 3145735)]⟩
def h39 : HintsT := ⟨8, [(4, 4), (3, 4), (2, 65), (1, 1), (0, 1)], []⟩
def h40 : HintsT := ⟨41, [(7, 4), (6, 97), (5, 4), (4, 33554529), (3, 105), (2, 225), (1, 97), (0, 1)], [(2, 97)]⟩
def h41 : HintsT := ⟨34, [(1, 16), (0, 3)], []⟩
def h42 : HintsT := ⟨9, [(1, 4), (0, 1)], []⟩
def h43 : HintsT := ⟨23, [(6, 4), (5, 4), (4, 524297), (3, 9), (2, 8201), (1, 9), (0, 1)], [(2, 9)]⟩
def h44 : HintsT := ⟨34, [(1, 16), (0, 3)], []⟩
def h45 : HintsT := ⟨55, [(9, 64), (8, 64), (7, 35184372090392), (6, 1560), (3, 64), (5, 64), (4, 33554456), (2, 131480), (1, 408), (0, 28)], []⟩
def h46 : HintsT := ⟨60, [(10, 64), (9, 64), (8, 35184372089368), (7, 536), (6, 64), (5, 16777240), (4, 64), (3, 262552), (2, 408), (1, 156), (0, 28)], []⟩
def h47 : HintsT := ⟨4, [(3, 4), (2, 4), (1, 8), (0, 1)], []⟩
def h48 : HintsT := ⟨8, [(3, 4), (2, 4), (1, 17), (0, 1)], []⟩
def h49 : HintsT := ⟨9, [(0, 0)], []⟩
def h50 : HintsT := ⟨72, [(18, 16), (5, 16), (7, 16), (9, 16), (11, 16), (13, 16), (15, 16), (17, 16), (16, 2305843009213694209), (14, 288230384741646593), (12, 562958543356385), (10, 8804682957281), (8, 1108101562849), (6, 146028888545), (4, 25769804257), (3, 8589935073), (2, 483), (1, 227), (0, 3)], []⟩
def h51 : HintsT := ⟨78, [(10, 27), (9, 2361183241434822606907), (8, 59), (7, 73786976294838206499), (6, 99), (3, 59), (5, 59), (4, 274877907003), (2, 131131), (1, 59), (0, 27)], [(4, 59), (1, 27)]⟩
def h52 : HintsT := ⟨9, [(1, 4), (0, 1)], []⟩
def h53 : HintsT := ⟨25, [(8, 4), (7, 1800), (6, 1800), (5, 67384), (4, 1848), (3, 3848), (2, 1800), (1, 8), (0, 1)], [(3, 1800)]⟩
def h54 : HintsT := ⟨33, [(7, 64), (6, 1), (5, 129), (4, 135), (3, 64), (2, 65543), (1, 7), (0, 7)], []⟩
def h55 : HintsT := ⟨17, [(1, 4), (0, 1)], []⟩
def h56 : HintsT := ⟨9, [(1, 4), (0, 1)], []⟩
def h57 : HintsT := ⟨41, [(15, 4), (14, 1), (13, 4), (12, 17179869185), (6, 25), (11, 25), (10, 17), (9, 49), (8, 49), (7, 1048601), (5, 32793), (4, 25), (3, 9), (2, 65), (1, 9), (0, 1)], [(5, 25), (2, 9)]⟩
def h58 : HintsT := ⟨84, [(15, 4), (6, 121), (14, 121), (13, 1208925819614629174706297), (12, 249), (11, 217), (10, 457), (9, 562949953421817), (8, 505), (7, 249), (5, 4217), (4, 121), (3, 57), (2, 25), (1, 9), (0, 1)], [(5, 121)]⟩
def h59 : HintsT := ⟨20, [(1, 0), (2, 1048575), (0, 16383)], []⟩
def h60 : HintsT := ⟨8, [(1, 16), (0, 3)], []⟩
def h61 : HintsT := ⟨37, [(8, 16), (7, 16), (6, 2147483683), (5, 99), (4, 16), (3, 2097155), (2, 16), (1, 4099), (0, 3)], []⟩
def h62 : HintsT := ⟨20, [(1, 4), (0, 2)], []⟩
def h63 : HintsT := ⟨20, [(1, 4), (0, 2)], []⟩
def h64 : HintsT := ⟨16, [(5, 16), (2, 16), (4, 16), (3, 512), (1, 38), (0, 6)], []⟩
def h65 : HintsT := ⟨6, [(1, 4), (0, 1)], []⟩
def h66 : HintsT := ⟨19, [(2, 16), (1, 3), (0, 3)], []⟩
def h67 : HintsT := ⟨16, [(5, 16), (2, 16), (4, 16), (3, 512), (1, 38), (0, 6)], []⟩
def h68 : HintsT := ⟨10, [(1, 4), (0, 1)], []⟩
def h69 : HintsT := ⟨26, [(7, 16), (4, 16), (6, 16), (5, 131168), (3, 2144), (2, 96), (1, 34), (0, 3)], []⟩
def h70 : HintsT := ⟨63, [(16, 71), (15, 71), (14, 18014398509482695), (13, 711), (12, 455), (11, 455), (10, 327), (9, 34359738823), (8, 455), (7, 1073741895), (6, 71), (5, 455), (4, 455), (3, 327), (2, 8647), (1, 455), (0, 71)], [(9, 455), (7, 71), (2, 455)]⟩
def h71 : HintsT := ⟨70, [(17, 64), (8, 192), (10, 192), (12, 192), (14, 192), (16, 192), (15, 18014398509482176), (13, 562949953421504), (11, 2199023255744), (9, 8589934788), (7, 33554628), (6, 196), (5, 64), (4, 192), (3, 194), (2, 65734), (1, 198), (0, 71)], []⟩
def h74 : HintsT := ⟨17, [(3, 16), (2, 3), (1, 8195), (0, 3)], [(1, 3)]⟩
def h75 : HintsT := ⟨21, [(8, 12), (3, 21), (7, 21), (6, 12), (5, 65589), (4, 53), (2, 533), (1, 21), (0, 5)], [(2, 21)]⟩
def h76 : HintsT := ⟨16, [(4, 16), (3, 3), (2, 4099), (1, 131), (0, 3)], [(1, 3)]⟩
def h77 : HintsT := ⟨23, [(5, 16), (4, 3), (3, 262211), (2, 99), (1, 515), (0, 3)], [(1, 3)]⟩
def h78 : HintsT := ⟨18, [(8, 4), (7, 456), (6, 4), (5, 16872), (4, 488), (3, 968), (2, 456), (1, 9), (0, 1)], [(3, 456)]⟩
def h79 : HintsT := ⟨20, [(13, 16), (12, 16), (11, 524288), (10, 16), (9, 65539), (8, 16), (7, 8195), (6, 16), (5, 16), (4, 4096), (3, 2115), (2, 99), (1, 35), (0, 3)], []⟩
def h80 : HintsT := ⟨13, [(5, 16), (2, 16), (4, 16), (3, 512), (1, 35), (0, 3)], []⟩
def h81 : HintsT := ⟨53, [(2, 271), (5, 783), (6, 783), (4, 17179869967), (3, 783), (1, 16655), (0, 271)], [(4, 783), (1, 271)]⟩
def h82 : HintsT := ⟨220, [(44, 0), (43, 13164036458569648337239753460458804039861886925068638906805911577), (42, 17039385), (41, 803469022129495137770981046170581301261101496891396435738651), (40, 18087963), (39, 49039857307708443467467104868809893875799651909893357599), (38, 18087967), (36, 8126495), (37, 8126495), (35, 2993155353253689176481146537402947624255349864529951), (34, 16515103), (33, 2854495385411919762116571938898990272773619743), (32, 8126495), (29, 3932191), (28, 1835039), (31, 3932191), (30, 1835039), (27, 1393796574908163946345982392040522594910239), (26, 786463), (25, 786463), (24, 262175), (22, 147457), (23, 147457), (21, 1298074214633706907132624082452481), (20, 147457), (18, 49173), (19, 49173), (17, 10141204801825835211973625757717), (16, 114709), (15, 38685626227668133590646805), (14, 49173), (13, 16405), (12, 1208925819614629174706207), (10, 9217), (11, 9217), (9, 288230376151720961), (8, 9217), (6, 3091), (7, 3091), (5, 1125899906849811), (4, 7187), (3, 8589937683), (2, 3091), (1, 1051), (0, 268435487)], [(33, 8126495), (21, 147457), (15, 49173), (9, 9217), (3, 3091)]⟩
def h83 : HintsT := ⟨28, [(7, 4), (4, 24), (6, 24), (5, 131096), (3, 1048), (2, 24), (1, 8), (0, 1)], [(3, 24)]⟩
def h84 : HintsT := ⟨10, [(1, 16), (0, 3)], []⟩
def h85 : HintsT := ⟨19, [(2, 12), (3, 12), (1, 1025), (0, 1)], []⟩
def h86 : HintsT := ⟨9, [(1, 16), (0, 3)], []⟩
def h87 : HintsT := ⟨6, [(1, 4), (0, 1)], []⟩
def h88 : HintsT := ⟨58, [(8, 0), (5, 3093), (4, 3093), (7, 3093), (6, 3093), (3, 8391701), (2, 1051669), (1, 3093), (0, 1053)], [(2, 3093)]⟩
def h89 : HintsT := ⟨72, [(20, 16), (7, 16), (9, 16), (11, 16), (13, 16), (15, 16), (17, 16), (19, 16), (18, 2305843009213694209), (16, 288230384741646593), (14, 562958543356385), (12, 8804682957281), (10, 1108101562849), (8, 146028888545), (6, 25769804257), (5, 8589935073), (4, 483), (3, 227), (2, 99), (1, 35), (0, 3)], []⟩
def h90 : HintsT := ⟨117, [(26, 12), (25, 12), (24, 316912650057057350374175808544), (23, 7200), (22, 12), (21, 151115727451828646841377), (20, 12), (19, 37778931862957161712929), (18, 3361), (17, 12), (16, 576460752303424801), (15, 12), (14, 144115188075857185), (13, 1825), (12, 12), (11, 35184372089633), (10, 817), (9, 369), (8, 12), (7, 129), (6, 8388721), (5, 113), (4, 49), (3, 12), (2, 65553), (1, 17), (0, 1)], []⟩
def h91 : HintsT := ⟨187, [(35, 16), (42, 16), (41, 16), (40, 3112881567383836743540392398899065529225563841935441952), (39, 47890485652059026823698344598447161988085597568237664), (38, 335233399564413187765888412189130133916599182977662976), (37, 47890485652059026823698344598447161988085597568237568), (44, 16), (33, 16), (22, 16), (21, 324518553658426726783156020585216), (20, 8960), (26, 50049), (32, 16), (30, 115585), (31, 91343852333181432387730302044767688728495899521), (29, 11150372599265311570767859136324180753105793), (28, 115585), (27, 696898287454081973172991196020261297111937), (25, 21267647932558653966460912964485563265), (24, 50049), (23, 17281), (19, 16), (18, 196159429230833773869868419475239575503198607639501078527), (17, 196159429230833773869868418841414280111450389760794689535), (16, 196159429230833773869868418841414276569675527608560779263), (15, 16), (13, 196159429230833773869868419475239575466318911765940797439), (14, 196159429230833773869868419475239575503198607639501078527), (12, 196159429230833773869868419475239575466323133890591457279), (11, 196159429230833773869868419475239575466318911765940797439), (10, 196159429230833773869868419475239575466318911765940793343), (9, 16), (8, 196159429230833773869868419475239575466318647883150127103), (7, 196159429230833773869868419475239575466318634689010593791), (6, 196159429230833773869868419475239575466318911765940793343), (5, 196159429230833773869868419475239575466318911748895141887), (4, 196159429230833773869868419475239575466318911748769312767), (3, 196159429230833773869868419475239575466318911748769311743), (2, 196159429230833773869868419475239575466318911748765116927), (1, 196159429230833773869868419475239575466318911748761446655), (43, 196159429230833773869868419475239575466318911748761053311), (36, 12259964326927110866866776217202473432070217086728792191), (34, 12239012239454335042631408191440652798700429637792688255), (0, 12238826628746394017960796323466897830756933334359730303)], [(38, 47890485652059026823698344598447161988085597568237568), (29, 115585), (25, 50049), (12, 196159429230833773869868419475239575466318911765940797439), (5, 196159429230833773869868419475239575466318911748769312767)]⟩
def h92 : HintsT := ⟨38, [(2, 1039), (3, 1039), (1, 9231), (0, 1039)], [(1, 1039)]⟩
def h93 : HintsT := ⟨8, [(1, 16), (0, 3)], []⟩
def h94 : HintsT := ⟨17, [(5, 4), (2, 4), (4, 4), (3, 1024), (1, 9), (0, 1)], []⟩
def h95 : HintsT := ⟨6, [(1, 4), (0, 1)], []⟩
def h97 : HintsT := ⟨8, [(1, 16), (0, 3)], []⟩
noncomputable abbrev evn (t : Tab) (hn : HintsT) (Λ : LoopT) (f : FuncId) (args : List AV) (hp : Hp) : T (AV × Hp) := evFnT Tryd.prog t.pf (hdT Tryd.prog t.pf t.con H0 20 9) hn 20 Λ f args hp
noncomputable abbrev rdn (t : Tab) (hn : HintsT) (Λ : LoopT) (f : FuncId) (base i : Nat) (st : St) : T (AX × St) := roundT Tryd.prog t.pf (hdT Tryd.prog t.pf t.con H0 20 9) hn f base none 20 Λ (lbody Tryd.prog f i) st
end Go.Mvn
namespace Go.Mvn

open Go Go.Proofs Go.Ab

set_option maxRecDepth 100000
set_option linter.unusedVariables false
set_option linter.unusedSimpArgs false


/-! ### scan.Is -/

def dig (c : Int) : Bool := decide (c ≥ 48) && decide (c ≤ 57)

def let_ (c : Int) : Bool := decide (c ≥ 97) && decide (c ≤ 122) || decide (c ≥ 65) && decide (c ≤ 90)

def alnum (c : Int) : Bool := dig c || let_ c

def low_ (c : Int) : Bool := decide (c ≥ 97) && decide (c ≤ 122)

def upp (c : Int) : Bool := decide (c ≥ 65) && decide (c ≤ 90)

def isC (k c : Int) : Bool := if k = 1 then dig c else if k = 4 then let_ c else if k = 2 then low_ c else if k = 3 then upp c else alnum c

theorem t50_2 (c : Int) : (evn [] h50 noLoops 50 [.int .u8 c, .int .i64 2] []).run =
  bif decide (c ≥ (48 : Int)) then
   bif decide (c ≥ (97 : Int)) then
    bif decide (c ≥ (65 : Int)) then
     bif c == (32 : Int) then
      some ((AV.bool (decide (c ≤ (122 : Int))), []))
     else
      some ((AV.bool (decide (c ≤ (122 : Int))), []))
    else
     bif c == (32 : Int) then
      some ((AV.bool (decide (c ≤ (122 : Int))), []))
     else
      some ((AV.bool (decide (c ≤ (122 : Int))), []))
   else
    bif decide (c ≥ (65 : Int)) then
     bif c == (32 : Int) then
      some ((AV.bool false, []))
     else
      some ((AV.bool false, []))
    else
     bif c == (32 : Int) then
      some ((AV.bool false, []))
     else
      some ((AV.bool false, []))
  else
   bif decide (c ≥ (97 : Int)) then
    bif decide (c ≥ (65 : Int)) then
     bif c == (32 : Int) then
      some ((AV.bool (decide (c ≤ (122 : Int))), []))
     else
      some ((AV.bool (decide (c ≤ (122 : Int))), []))
    else
     bif c == (32 : Int) then
      some ((AV.bool (decide (c ≤ (122 : Int))), []))
     else
      some ((AV.bool (decide (c ≤ (122 : Int))), []))
   else
    bif decide (c ≥ (65 : Int)) then
     bif c == (32 : Int) then
      some ((AV.bool false, []))
     else
      some ((AV.bool false, []))
    else
     bif c == (32 : Int) then
      some ((AV.bool false, []))
     else
      some ((AV.bool false, [])) := by kernel_rfl

theorem t50_3 (c : Int) : (evn [] h50 noLoops 50 [.int .u8 c, .int .i64 3] []).run =
  bif decide (c ≥ (48 : Int)) then
   bif decide (c ≥ (97 : Int)) then
    bif decide (c ≥ (65 : Int)) then
     bif c == (32 : Int) then
      some ((AV.bool (decide (c ≤ (90 : Int))), []))
     else
      some ((AV.bool (decide (c ≤ (90 : Int))), []))
    else
     bif c == (32 : Int) then
      some ((AV.bool false, []))
     else
      some ((AV.bool false, []))
   else
    bif decide (c ≥ (65 : Int)) then
     bif c == (32 : Int) then
      some ((AV.bool (decide (c ≤ (90 : Int))), []))
     else
      some ((AV.bool (decide (c ≤ (90 : Int))), []))
    else
     bif c == (32 : Int) then
      some ((AV.bool false, []))
     else
      some ((AV.bool false, []))
  else
   bif decide (c ≥ (97 : Int)) then
    bif decide (c ≥ (65 : Int)) then
     bif c == (32 : Int) then
      some ((AV.bool (decide (c ≤ (90 : Int))), []))
     else
      some ((AV.bool (decide (c ≤ (90 : Int))), []))
    else
     bif c == (32 : Int) then
      some ((AV.bool false, []))
     else
      some ((AV.bool false, []))
   else
    bif decide (c ≥ (65 : Int)) then
     bif c == (32 : Int) then
      some ((AV.bool (decide (c ≤ (90 : Int))), []))
     else
      some ((AV.bool (decide (c ≤ (90 : Int))), []))
    else
     bif c == (32 : Int) then
      some ((AV.bool false, []))
     else
      some ((AV.bool false, [])) := by kernel_rfl

theorem t50_1 (c : Int) : (evn [] h50 noLoops 50 [.int .u8 c, .int .i64 1] []).run =
  bif decide (c ≥ (48 : Int)) then
   bif decide (c ≥ (97 : Int)) then
    bif decide (c ≥ (65 : Int)) then
     bif c == (32 : Int) then
      some ((AV.bool (decide (c ≤ (57 : Int))), []))
     else
      some ((AV.bool (decide (c ≤ (57 : Int))), []))
    else
     bif c == (32 : Int) then
      some ((AV.bool (decide (c ≤ (57 : Int))), []))
     else
      some ((AV.bool (decide (c ≤ (57 : Int))), []))
   else
    bif decide (c ≥ (65 : Int)) then
     bif c == (32 : Int) then
      some ((AV.bool (decide (c ≤ (57 : Int))), []))
     else
      some ((AV.bool (decide (c ≤ (57 : Int))), []))
    else
     bif c == (32 : Int) then
      some ((AV.bool (decide (c ≤ (57 : Int))), []))
     else
      some ((AV.bool (decide (c ≤ (57 : Int))), []))
  else
   bif decide (c ≥ (97 : Int)) then
    bif decide (c ≥ (65 : Int)) then
     bif c == (32 : Int) then
      some ((AV.bool false, []))
     else
      some ((AV.bool false, []))
    else
     bif c == (32 : Int) then
      some ((AV.bool false, []))
     else
      some ((AV.bool false, []))
   else
    bif decide (c ≥ (65 : Int)) then
     bif c == (32 : Int) then
      some ((AV.bool false, []))
     else
      some ((AV.bool false, []))
    else
     bif c == (32 : Int) then
      some ((AV.bool false, []))
     else
      some ((AV.bool false, [])) := by kernel_rfl

theorem t50_4 (c : Int) : (evn [] h50 noLoops 50 [.int .u8 c, .int .i64 4] []).run =
  bif decide (c ≥ (48 : Int)) then
   bif decide (c ≥ (97 : Int)) then
    bif decide (c ≥ (65 : Int)) then
     bif c == (32 : Int) then
      bif decide (c ≤ (122 : Int)) then
       some ((AV.bool true, []))
      else
       some ((AV.bool (decide (c ≤ (90 : Int))), []))
     else
      bif decide (c ≤ (122 : Int)) then
       some ((AV.bool true, []))
      else
       some ((AV.bool (decide (c ≤ (90 : Int))), []))
    else
     bif c == (32 : Int) then
      bif decide (c ≤ (122 : Int)) then
       some ((AV.bool true, []))
      else
       some ((AV.bool false, []))
     else
      bif decide (c ≤ (122 : Int)) then
       some ((AV.bool true, []))
      else
       some ((AV.bool false, []))
   else
    bif decide (c ≥ (65 : Int)) then
     bif c == (32 : Int) then
      some ((AV.bool (decide (c ≤ (90 : Int))), []))
     else
      some ((AV.bool (decide (c ≤ (90 : Int))), []))
    else
     bif c == (32 : Int) then
      some ((AV.bool false, []))
     else
      some ((AV.bool false, []))
  else
   bif decide (c ≥ (97 : Int)) then
    bif decide (c ≥ (65 : Int)) then
     bif c == (32 : Int) then
      bif decide (c ≤ (122 : Int)) then
       some ((AV.bool true, []))
      else
       some ((AV.bool (decide (c ≤ (90 : Int))), []))
     else
      bif decide (c ≤ (122 : Int)) then
       some ((AV.bool true, []))
      else
       some ((AV.bool (decide (c ≤ (90 : Int))), []))
    else
     bif c == (32 : Int) then
      bif decide (c ≤ (122 : Int)) then
       some ((AV.bool true, []))
      else
       some ((AV.bool false, []))
     else
      bif decide (c ≤ (122 : Int)) then
       some ((AV.bool true, []))
      else
       some ((AV.bool false, []))
   else
    bif decide (c ≥ (65 : Int)) then
     bif c == (32 : Int) then
      some ((AV.bool (decide (c ≤ (90 : Int))), []))
     else
      some ((AV.bool (decide (c ≤ (90 : Int))), []))
    else
     bif c == (32 : Int) then
      some ((AV.bool false, []))
     else
      some ((AV.bool false, [])) := by kernel_rfl

theorem t50_5 (c : Int) : (evn [] h50 noLoops 50 [.int .u8 c, .int .i64 5] []).run =
  bif decide (c ≥ (48 : Int)) then
   bif decide (c ≥ (97 : Int)) then
    bif decide (c ≥ (65 : Int)) then
     bif c == (32 : Int) then
      bif decide (c ≤ (57 : Int)) then
       some ((AV.bool true, []))
      else
       bif decide (c ≤ (122 : Int)) then
        some ((AV.bool true, []))
       else
        some ((AV.bool (decide (c ≤ (90 : Int))), []))
     else
      bif decide (c ≤ (57 : Int)) then
       some ((AV.bool true, []))
      else
       bif decide (c ≤ (122 : Int)) then
        some ((AV.bool true, []))
       else
        some ((AV.bool (decide (c ≤ (90 : Int))), []))
    else
     bif c == (32 : Int) then
      bif decide (c ≤ (57 : Int)) then
       some ((AV.bool true, []))
      else
       bif decide (c ≤ (122 : Int)) then
        some ((AV.bool true, []))
       else
        some ((AV.bool false, []))
     else
      bif decide (c ≤ (57 : Int)) then
       some ((AV.bool true, []))
      else
       bif decide (c ≤ (122 : Int)) then
        some ((AV.bool true, []))
       else
        some ((AV.bool false, []))
   else
    bif decide (c ≥ (65 : Int)) then
     bif c == (32 : Int) then
      bif decide (c ≤ (57 : Int)) then
       some ((AV.bool true, []))
      else
       some ((AV.bool (decide (c ≤ (90 : Int))), []))
     else
      bif decide (c ≤ (57 : Int)) then
       some ((AV.bool true, []))
      else
       some ((AV.bool (decide (c ≤ (90 : Int))), []))
    else
     bif c == (32 : Int) then
      bif decide (c ≤ (57 : Int)) then
       some ((AV.bool true, []))
      else
       some ((AV.bool false, []))
     else
      bif decide (c ≤ (57 : Int)) then
       some ((AV.bool true, []))
      else
       some ((AV.bool false, []))
  else
   bif decide (c ≥ (97 : Int)) then
    bif decide (c ≥ (65 : Int)) then
     bif c == (32 : Int) then
      bif decide (c ≤ (122 : Int)) then
       some ((AV.bool true, []))
      else
       some ((AV.bool (decide (c ≤ (90 : Int))), []))
     else
      bif decide (c ≤ (122 : Int)) then
       some ((AV.bool true, []))
      else
       some ((AV.bool (decide (c ≤ (90 : Int))), []))
    else
     bif c == (32 : Int) then
      bif decide (c ≤ (122 : Int)) then
       some ((AV.bool true, []))
      else
       some ((AV.bool false, []))
     else
      bif decide (c ≤ (122 : Int)) then
       some ((AV.bool true, []))
      else
       some ((AV.bool false, []))
   else
    bif decide (c ≥ (65 : Int)) then
     bif c == (32 : Int) then
      some ((AV.bool (decide (c ≤ (90 : Int))), []))
     else
      some ((AV.bool (decide (c ≤ (90 : Int))), []))
    else
     bif c == (32 : Int) then
      some ((AV.bool false, []))
     else
      some ((AV.bool false, [])) := by kernel_rfl


theorem is1 (c : Int) : (evn [] h50 noLoops 50 [.int .u8 c, .int .i64 1] []).run = some (.bool (dig c), []) := by
  rw [t50_1]; simp only [Bool.cond_eq_ite, decide_eq_true_eq, dig]
  (repeat' split) <;> grind

theorem is4 (c : Int) : (evn [] h50 noLoops 50 [.int .u8 c, .int .i64 4] []).run = some (.bool (let_ c), []) := by
  rw [t50_4]; simp only [Bool.cond_eq_ite, decide_eq_true_eq, let_]
  (repeat' split) <;> grind

theorem is5 (c : Int) : (evn [] h50 noLoops 50 [.int .u8 c, .int .i64 5] []).run = some (.bool (alnum c), []) := by
  rw [t50_5]; simp only [Bool.cond_eq_ite, decide_eq_true_eq, alnum, let_, dig]
  (repeat' split) <;> grind

theorem is2 (c : Int) : (evn [] h50 noLoops 50 [.int .u8 c, .int .i64 2] []).run = some (.bool (low_ c), []) := by
  rw [t50_2]; simp only [Bool.cond_eq_ite, decide_eq_true_eq, low_]
  (repeat' split) <;> grind

theorem is3 (c : Int) : (evn [] h50 noLoops 50 [.int .u8 c, .int .i64 3] []).run = some (.bool (upp c), []) := by
  rw [t50_3]; simp only [Bool.cond_eq_ite, decide_eq_true_eq, upp]
  (repeat' split) <;> grind

def cIs : List AV → T AV
  | [.int .u8 c, .int .i64 k] => .br (decide (k = 1)) (.leaf (.bool (isC 1 c))) (.br (decide (k = 4)) (.leaf (.bool (isC 4 c))) (.br (decide (k = 2)) (.leaf (.bool (isC 2 c))) (.br (decide (k = 3)) (.leaf (.bool (isC 3 c))) (.chk (decide (k = 5)) (.leaf (.bool (isC 5 c)))))))
  | _ => .fail

theorem s50 : Sound1 Tryd.prog ⟨50, true, pcon cIs⟩ := by
  refine sound_pure (SoundTab.nil _) (hn := h50) (m := 20) (k := 9) (Λ := noLoops) (fun i hi => ?_) fun args r hF h => ?_
  · rw [show (loopsOf (bodyOf Tryd.prog 50)).length = 0 by kernel_rfl] at hi; omega
  · unfold cIs at h
    split at h
    · rename_i c k
      rw [T.run_br] at h
      split at h
      · rename_i hk
        obtain rfl : k = 1 := by simpa using hk
        simp only [T.run_leaf, Option.some.injEq] at h; subst h
        exact is1 c
      · rw [T.run_br] at h
        split at h
        · rename_i hk
          obtain rfl : k = 4 := by simpa using hk
          simp only [T.run_leaf, Option.some.injEq] at h; subst h
          exact is4 c
        · rw [T.run_br] at h
          split at h
          · rename_i hk
            obtain rfl : k = 2 := by simpa using hk
            simp only [T.run_leaf, Option.some.injEq] at h; subst h
            exact is2 c
          · rw [T.run_br] at h
            split at h
            · rename_i hk
              obtain rfl : k = 3 := by simpa using hk
              simp only [T.run_leaf, Option.some.injEq] at h; subst h
              exact is3 c
            · rw [T.run_chk] at h
              split at h
              · rename_i hk
                obtain rfl : k = 5 := by simpa using hk
                simp only [T.run_leaf, Option.some.injEq] at h; subst h
                exact is5 c
              · cases h
    · cases h

def tabA : Tab := [⟨50, true, pcon cIs⟩]

theorem okA : SoundTab Tryd.prog tabA := soundTab_of (by simp only [tabA, List.mem_cons, List.not_mem_nil, or_false]; rintro e rfl; exact s50)

end Go.Mvn
namespace Go.Mvn
open Go Go.Proofs Go.Ab
set_option maxRecDepth 100000
set_option linter.unusedVariables false
set_option linter.unusedSimpArgs false
/-! ### strings.trimLeftByte -/
def dropB (c : Int) (s : List UInt8) : List UInt8 := s.dropWhile fun b => (b.toNat : Int) == c
def o74 (x : List UInt8 × Int) : AX × St := (.exit 0, { tm := tmOf 17 [(0, .str (dropB x.2 x.1)), (1, .int .u8 x.2), (13, .bool false)], ms := [], hp := [] })
def D74 : List AV → Hp → T (AX × St)
  | [.str s, .int .u8 c], [] => .leaf (o74 (s, c))
  | _, _ => .fail
def L74 : LoopT := fun k => match Nat.beq k 100020 with
  | true => some (lcon (mbits 3 17) D74)
  | false => none
theorem r74 (s : List UInt8) (c : Int) : (rdn tabA h74 L74 74 0 0 { tm := encGo (mbits 3 17) [.str s, .int .u8 c], ms := [], hp := [] }).run =
  bif decide ((↑s.length : Int) > (0 : Int)) then
   bif decide ((0 : Int) ≤ (0 : Int) ∧ (0 : Int) < (↑s.length : Int)) then
    bif (↑(s.getD (Int.toNat (0 : Int)) (0 : UInt8)).toNat : Int) == c then
     bif decide ((0 : Int) ≤ (1 : Int) ∧ (1 : Int) ≤ (↑s.length : Int)) then
      some ((AX.normal, { tm := tmOf 17 [(0, AV.str (List.drop (Int.toNat (1 : Int)) s)), (1, AV.int IntKind.u8 c)], ms := [], hp := [] }))
     else
      none
    else
     some ((AX.exit 0, { tm := tmOf 17 [(0, AV.str s), (1, AV.int IntKind.u8 c), (13, AV.bool false)], ms := [], hp := [] }))
   else
    none
  else
   some ((AX.exit 0, { tm := tmOf 17 [(0, AV.str s), (1, AV.int IntKind.u8 c), (13, AV.bool false)], ms := [], hp := [] })) := by kernel_rfl
theorem l74 : LoopOk Tryd.prog tabA.pf (fun n => hd Tryd.prog tabA.pf tabA.con.run (fun f => (H0 f).to) n 9) h74.to 74 0 none L74 (loopAt Tryd.prog 74 0) := by
  rw [show loopAt Tryd.prog 74 0 = .loop (lbody Tryd.prog 74 0) by kernel_rfl]
  refine loop_con (hdT_le (m := 20) 9) (m := 20) (within_of _ (by rw [show loopsOf (lbody Tryd.prog 74 0) = [] by kernel_rfl]; simp)) (D := D74) (lv := mbits 3 17) (by kernel_rfl)
    (X := List UInt8 × Int) (fun x => ([.str x.1, .int .u8 x.2], [])) o74 (fun _ => True) (fun x => x.1.length) ?_ ?_
  · intro vs hp r h
    unfold D74 at h
    split at h
    · rename_i s c
      simp only [T.run_leaf, Option.some.injEq] at h
      exact ⟨(s, c), rfl, trivial, h.symm⟩
    · cases h
  · rintro ⟨s, c⟩ -
    have ht := r74 s c
    cases s with
    | nil => right; exact ⟨by kernel_rfl, by simp [o74]⟩
    | cons b s =>
      by_cases hb : ((b.toNat : Int) == c) = true
      · left
        refine ⟨(s, c), trivial, by simp, ?_, ?_⟩
        · simp [o74, dropB, List.dropWhile_cons, hb]
        · refine ht.trans ?_
          have h1 : decide ((((b :: s).length : Nat) : Int) > 0) = true := by simp <;> omega
          have h2 : decide ((0 : Int) ≤ 0 ∧ (0 : Int) < (((b :: s).length : Nat) : Int)) = true := by simp <;> omega
          have h3 : ((((b :: s).getD (Int.toNat 0) 0).toNat : Int) == c) = true := hb
          have h4 : decide ((0 : Int) ≤ 1 ∧ (1 : Int) ≤ (((b :: s).length : Nat) : Int)) = true := by simp <;> omega
          rw [h1, h2, h3, h4]
          rfl
      · right
        refine ⟨?_, by simp [o74]⟩
        refine ht.trans ?_
        have h1 : decide ((((b :: s).length : Nat) : Int) > 0) = true := by simp <;> omega
        have h2 : decide ((0 : Int) ≤ 0 ∧ (0 : Int) < (((b :: s).length : Nat) : Int)) = true := by simp <;> omega
        have h3 : ((((b :: s).getD (Int.toNat 0) 0).toNat : Int) == c) = false := by simpa using hb
        rw [h1, h2, h3]
        have : dropB c (b :: s) = b :: s := by simp [dropB, List.dropWhile_cons, hb]
        simp only [o74, this]
        rfl
def c74 : List AV → T AV
  | [.str s, .int .u8 c] => .leaf (.str (dropB c s))
  | _ => .fail
theorem s74 : Sound1 Tryd.prog ⟨74, true, pcon c74⟩ := by
  refine sound_pure okA (hn := h74) (m := 20) (k := 9) (Λ := L74) (fun i hi => ?_) fun args r hF h => ?_
  · rw [show (loopsOf (bodyOf Tryd.prog 74)).length = 1 by kernel_rfl] at hi
    obtain rfl : i = 0 := by omega
    exact l74
  · unfold c74 at h
    split at h
    · simp only [T.run_leaf, Option.some.injEq] at h; subst h
      kernel_rfl
    · cases h
end Go.Mvn
namespace Go.Mvn
open Go Go.Proofs Go.Ab
set_option maxRecDepth 100000
set_option linter.unusedVariables false
set_option linter.unusedSimpArgs false

/-! ### functions without a body -/
theorem ext_sound {P : Program} {f : FuncId} {fn : Func} {e : Array Value → Sem Value} (hf : P.funcs[f]? = some fn) (hname : (fn.name == "runtime.NumGoroutine") = false)
    (hb : fn.body.isNone = true) (hn : Extern.findNext fn = none) (he : Extern.find fn = some e) {c : List AV → T AV}
    (h : ∀ args r, (c args).run = some r → ∀ X w σ (vargs : Array Value), VL X w σ args vargs.toList → ∃ v, (e vargs).run P w = .ok v w ∧ V X w σ r v) : Sound1 P ⟨f, true, pcon c⟩ where
  ok args hp r hp' hr X0 σ w vargs hR hV := by
    obtain ⟨h1, h2, h3, rfl, h4⟩ := pcon_run hr
    obtain ⟨v, h5, h6⟩ := h args r h2 _ w σ vargs hV
    refine .inr ⟨v, w, ?_, σ, fun _ _ h => h, ⟨Step.refl _ _, fun _ _ h => h⟩, hR, h6⟩
    rw [run_callFunc_extern hf hname hb hn he, h5]
    rfl
  len args hp r hp' hr := by
    obtain ⟨_, _, _, rfl, _⟩ := pcon_run hr; exact Nat.le_refl _
  pure _ args hp r hp' hr := by
    obtain ⟨_, _, _, rfl, h4⟩ := pcon_run hr; exact ⟨rfl, h4⟩
def c73 : List AV → T AV
  | [.str a, .str b] => .leaf (.int .i64 (Lib.compareBytes a b))
  | _ => .fail
theorem compareBytes_range : ∀ a b : List UInt8, -1 ≤ Lib.compareBytes a b ∧ Lib.compareBytes a b ≤ 1
  | [], [] => by simp [Lib.compareBytes]
  | [], _ :: _ => by simp [Lib.compareBytes]
  | _ :: _, [] => by simp [Lib.compareBytes]
  | a :: x, b :: y => by
    unfold Lib.compareBytes
    split
    · omega
    · split
      · omega
      · exact compareBytes_range x y
theorem s73 : Sound1 Tryd.prog ⟨73, true, pcon c73⟩ := by
  refine ext_sound Tryd.func73 (by kernel_rfl) (by kernel_rfl) (by kernel_rfl) (e := Extern.BytealgCompare.compare) (by kernel_rfl) fun args r hr X w σ vargs hV => ?_
  unfold c73 at hr
  split at hr
  · rename_i a b
    simp only [T.run_leaf, Option.some.injEq] at hr; subst hr
    simp only [VL, V] at hV
    obtain ⟨u, us, h1, ⟨rfl, ha⟩, u2, us2, rfl, ⟨rfl, hb⟩, rfl⟩ := hV
    have : vargs = #[.string ⟨⟨a⟩⟩, .string ⟨⟨b⟩⟩] := by apply Array.ext'; simpa using h1
    subst this
    refine ⟨_, Lib.run_compareString _ _ w, ?_⟩
    simp only [V]
    have := compareBytes_range a b
    refine ⟨trivial, ?_, ?_⟩
    · show IntKind.i64.min ≤ Lib.compareBytes a b
      have : IntKind.i64.min = -9223372036854775808 := rfl
      omega
    · show Lib.compareBytes a b ≤ IntKind.i64.max
      have : IntKind.i64.max = 9223372036854775807 := rfl
      omega
  · cases hr
def c98 : List AV → T AV
  | [.str a, .int .u8 c] => .leaf (.int .i64 (Lib.indexByte a c.toNat.toUInt8))
  | _ => .fail
theorem indexByte_le : ∀ (l : List UInt8) (c : UInt8), Lib.indexByte l c ≤ l.length
  | [], c => by simp [Lib.indexByte]
  | b :: l, c => by
    have := indexByte_le l c
    unfold Lib.indexByte
    split
    · simp; omega
    · split
      · simp; omega
      · simp; omega
theorem s98 : Sound1 Tryd.prog ⟨98, true, pcon c98⟩ := by
  refine ext_sound Tryd.func98 (by kernel_rfl) (by kernel_rfl) (by kernel_rfl) (e := Extern.BytealgIndexByte.indexByte) (by kernel_rfl) fun args r hr X w σ vargs hV => ?_
  unfold c98 at hr
  split at hr
  · rename_i a b
    simp only [T.run_leaf, Option.some.injEq] at hr; subst hr
    simp only [VL, V] at hV
    obtain ⟨u, us, h1, ⟨rfl, ha⟩, u2, us2, rfl, ⟨rfl, hb⟩, rfl⟩ := hV
    have : vargs = #[.string ⟨⟨a⟩⟩, .int .u8 b] := by apply Array.ext'; simpa using h1
    subst this
    refine ⟨_, Lib.run_indexByteString _ _ w, ?_⟩
    simp only [V]
    have h1 := Lib.indexByte_ge a b.toNat.toUInt8
    have h2 := indexByte_le a b.toNat.toUInt8
    simp only [bnd] at ha
    refine ⟨trivial, ?_, ?_⟩
    · show IntKind.i64.min ≤ Lib.indexByte a _
      have : IntKind.i64.min = -9223372036854775808 := rfl
      omega
    · show Lib.indexByte a _ ≤ IntKind.i64.max
      have : IntKind.i64.max = 9223372036854775807 := rfl
      omega
  · cases hr
def tabC : Tab := [⟨73, true, pcon c73⟩, ⟨98, true, pcon c98⟩, ⟨74, true, pcon c74⟩, ⟨50, true, pcon cIs⟩]
theorem okC : SoundTab Tryd.prog tabC := soundTab_of (by
  simp only [tabC, List.mem_cons, List.not_mem_nil, or_false]
  rintro e (rfl | rfl | rfl | rfl)
  · exact s73
  · exact s98
  · exact s74
  · exact s50)
end Go.Mvn
namespace Go.Mvn

open Go Go.Proofs Go.Ab

set_option maxRecDepth 100000
set_option linter.unusedVariables false

set_option linter.unusedSimpArgs false

def trimD (d : List UInt8) : List UInt8 := if dropB 48 d = [] then [48] else dropB 48 d

theorem t39 (s : List UInt8) : (evn tabC h39 noLoops 39 [.str s] []).run =
  bif s == [] then
   bif s == [] then
    some ((AV.str [(48 : UInt8)], []))
   else
    some ((AV.str s, []))
  else
   bif dropB (48 : Int) s == [] then
    some ((AV.str [(48 : UInt8)], []))
   else
    some ((AV.str (dropB (48 : Int) s), [])) := by kernel_rfl

def c39 : List AV → T AV
  | [.str d] => .leaf (.str (trimD d))
  | _ => .fail

theorem noLoop {f : FuncId} {Φ : Nat → Prop} (h : (loopsOf (bodyOf Tryd.prog f)).length = 0) : ∀ i, i < (loopsOf (bodyOf Tryd.prog f)).length → Φ i := fun i hi => by omega

theorem s39 : Sound1 Tryd.prog ⟨39, true, pcon c39⟩ := by
  refine sound_pure okC (hn := h39) (m := 20) (k := 9) (Λ := noLoops) (noLoop (by kernel_rfl)) fun args r hF h => ?_
  unfold c39 at h
  split at h
  · rename_i s
    simp only [T.run_leaf, Option.some.injEq] at h; subst h
    refine (t39 s).trans ?_
    simp only [trimD]
    by_cases h1 : s = []
    · subst h1; rfl
    · have h2 : (s == []) = false := by simpa using h1
      rw [h2]
      by_cases h3 : dropB 48 s = []
      · rw [h3]; rfl
      · have h4 : (dropB 48 s == []) = false := by simpa using h3
        rw [h4, if_neg h3]; rfl
  · cases h

def cmpI (x y : Int) : Int := if x < y then -1 else if y < x then 1 else 0

theorem t79 (x y : Int) : (evn tabC h79 noLoops 79 [.int .i64 x, .int .i64 y] []).run =
  bif x != x then
   bif y != y then
    some ((AV.int IntKind.i64 (0 : Int), []))
   else
    some ((AV.int IntKind.i64 (-1 : Int), []))
  else
   bif y != y then
    some ((AV.int IntKind.i64 (1 : Int), []))
   else
    bif decide (x < y) then
     some ((AV.int IntKind.i64 (-1 : Int), []))
    else
     bif decide (x > y) then
      some ((AV.int IntKind.i64 (1 : Int), []))
     else
      some ((AV.int IntKind.i64 (0 : Int), [])) := by kernel_rfl

def c79 : List AV → T AV
  | [.int .i64 x, .int .i64 y] => .leaf (.int .i64 (cmpI x y))
  | _ => .fail

theorem s79 : Sound1 Tryd.prog ⟨79, true, pcon c79⟩ := by
  refine sound_pure okC (hn := h79) (m := 20) (k := 9) (Λ := noLoops) (noLoop (by kernel_rfl)) fun args r hF h => ?_
  unfold c79 at h
  split at h
  · rename_i x y
    simp only [T.run_leaf, Option.some.injEq] at h; subst h
    refine (t79 x y).trans ?_
    simp only [cmpI, Bool.cond_eq_ite]
    (repeat' split) <;> grind
  · cases h

def tabD : Tab := [⟨39, true, pcon c39⟩, ⟨79, true, pcon c79⟩, ⟨73, true, pcon c73⟩, ⟨98, true, pcon c98⟩, ⟨74, true, pcon c74⟩, ⟨50, true, pcon cIs⟩]

theorem okD : SoundTab Tryd.prog tabD := soundTab_of (by
  simp only [tabD, List.mem_cons, List.not_mem_nil, or_false]
  rintro e (rfl | rfl | rfl | rfl | rfl | rfl)
  · exact s39
  · exact s79
  · exact s73
  · exact s98
  · exact s74
  · exact s50)

theorem t66 (a b : List UInt8) : (evn tabD h66 noLoops 66 [.str a, .str b] []).run =
  bif cmpI (↑(trimD a).length : Int) (↑(trimD b).length : Int) != (0 : Int) then
   some ((AV.int IntKind.i64 (cmpI (↑(trimD a).length : Int) (↑(trimD b).length : Int)), []))
  else
   bif Lib.compareBytes (trimD a) (trimD b) != (0 : Int) then
    some ((AV.int IntKind.i64 (Lib.compareBytes (trimD a) (trimD b)), []))
   else
    some ((AV.int IntKind.i64 (0 : Int), [])) := by kernel_rfl

def cmpD (a b : List UInt8) : Int := if cmpI (trimD a).length (trimD b).length ≠ 0 then cmpI (trimD a).length (trimD b).length else Lib.compareBytes (trimD a) (trimD b)

def c66 : List AV → T AV
  | [.str a, .str b] => .leaf (.int .i64 (cmpD a b))
  | _ => .fail

theorem s66 : Sound1 Tryd.prog ⟨66, true, pcon c66⟩ := by
  refine sound_pure okD (hn := h66) (m := 20) (k := 9) (Λ := noLoops) (noLoop (by kernel_rfl)) fun args r hF h => ?_
  unfold c66 at h
  split at h
  · rename_i x y
    simp only [T.run_leaf, Option.some.injEq] at h; subst h
    refine (t66 x y).trans ?_
    simp only [cmpD, Bool.cond_eq_ite]
    (repeat' split) <;> grind
  · cases h

end Go.Mvn
namespace Go.Mvn

open Go Go.Proofs Go.Ab

set_option maxRecDepth 100000
set_option linter.unusedVariables false

set_option linter.unusedSimpArgs false

theorem w64 {n : Int} (h1 : -9223372036854775808 ≤ n) (h2 : n < 9223372036854775808) : IntKind.i64.wrap n = n := by
  rw [IntKind.wrap_i64]; omega

def digB (b : UInt8) : Bool := dig (b.toNat : Int)

def runL (l : List UInt8) : Nat := (l.takeWhile digB).length

def runX (s : List UInt8) (a i : Int) : Nat := runL (s.drop (a + i).toNat)

def oA38 (s : List UInt8) (a i : Int) : AX × St := (.ret, { tm := tmOf 38 [(6, .int .i64 (a + i + runX s a i))], ms := [], hp := [] })

def oB38 (s : List UInt8) (a i : Int) : AX × St := (.exit 0, { tm := tmOf 38 [(0, AV.str s), (1, .int .i64 a), (2, .int .i64 1), (20, .int .i64 ((s.length : Int) - a)), (21, .int .i64 ((s.length : Int) - a)), (22, .bool false)], ms := [], hp := [] })

def o38 (x : List UInt8 × Int × Int) : AX × St := if x.2.1 + x.2.2 + runX x.1 x.2.1 x.2.2 < x.1.length then oA38 x.1 x.2.1 x.2.2 else oB38 x.1 x.2.1 x.2.2

def p38 (x : List UInt8 × Int × Int) : Prop := 0 ≤ x.2.1 ∧ 0 ≤ x.2.2 ∧ x.2.1 + x.2.2 ≤ x.1.length ∧ x.1.length ≤ bnd

def e38 (x : List UInt8 × Int × Int) : List AV × Hp := ([.str x.1, .int .i64 x.2.1, .int .i64 1, .int .i64 ((x.1.length : Int) - x.2.1), .int .i64 x.2.2], [])

def D38 : List AV → Hp → T (AX × St)
  | [.str s, .int .i64 a, .int .i64 k, .int .i64 n, .int .i64 i], [] => .chk (decide (k = 1 ∧ n = (s.length : Int) - a ∧ 0 ≤ a ∧ 0 ≤ i ∧ a + i ≤ s.length ∧ s.length ≤ bnd))
    (.br (decide (a + i + runX s a i < s.length)) (.leaf (oA38 s a i)) (.leaf (oB38 s a i)))
  | _, _ => .fail

def L38 : LoopT := fun k => match Nat.beq k 400035 with
  | true => some (lcon (mbits 3145735 38) D38)
  | false => none

theorem r38 (s : List UInt8) (a i n : Int) : (rdn tabD h38 L38 38 0 0 { tm := encGo (mbits 3145735 38) [.str s, .int .i64 a, .int .i64 1, .int .i64 n, .int .i64 i], ms := [], hp := [] }).run =
  bif decide (i < n) then
   bif decide ((0 : Int) ≤ IntKind.i64.wrap (a + i) ∧ IntKind.i64.wrap (a + i) < (↑s.length : Int)) then
    bif !isC (1 : Int) (↑(s.getD (IntKind.i64.wrap (a + i)).toNat (0 : UInt8)).toNat : Int) then
     some ((AX.ret, { tm := tmOf 38 [(6, AV.int IntKind.i64 (IntKind.i64.wrap (a + i)))], ms := [], hp := [] }))
    else
     some ((AX.normal, { tm := tmOf 38 [(0, AV.str s), (1, AV.int IntKind.i64 a), (2, AV.int IntKind.i64 (1 : Int)), (20, AV.int IntKind.i64 n), (21, AV.int IntKind.i64 (IntKind.i64.wrap (i + (1 : Int))))], ms := [], hp := [] }))
   else
    none
  else
   some ((AX.exit 0, { tm := tmOf 38 [(0, AV.str s), (1, AV.int IntKind.i64 a), (2, AV.int IntKind.i64 (1 : Int)), (20, AV.int IntKind.i64 n), (21, AV.int IntKind.i64 i), (22, AV.bool false)], ms := [], hp := [] })) := by kernel_rfl

theorem drop_cons {s : List UInt8} {k : Nat} (h : k < s.length) : s.drop k = s.getD k 0 :: s.drop (k + 1) := by
  rw [List.drop_eq_getElem_cons h, List.getD_eq_getElem?_getD, List.getElem?_eq_getElem h]; rfl

theorem runL_le : ∀ (l : List UInt8), runL l ≤ l.length
  | [] => by simp [runL]
  | b :: l => by
    have := runL_le l
    simp only [runL, List.takeWhile_cons] at this ⊢
    split <;> simp <;> omega

theorem runX_lt {s : List UInt8} {a i : Int} (h0 : 0 ≤ a + i) (h : a + i < s.length) : runX s a i = if dig ((s.getD (a + i).toNat 0).toNat : Int) = true then runX s a (i + 1) + 1 else 0 := by
  unfold runX runL
  have e : (a + (i + 1)).toNat = (a + i).toNat + 1 := by omega
  rw [drop_cons (k := (a + i).toNat) (by omega), e, List.takeWhile_cons]
  have hd : digB (s.getD (a + i).toNat 0) = dig ((s.getD (a + i).toNat 0).toNat : Int) := rfl
  rw [hd]
  cases dig ((s.getD (a + i).toNat 0).toNat : Int) <;> rfl

theorem runX_end {s : List UInt8} {a i : Int} (h0 : 0 ≤ a + i) (h : a + i = s.length) : runX s a i = 0 := by
  unfold runX runL
  rw [List.drop_of_length_le (by omega)]; rfl

theorem l38 : LoopOk Tryd.prog tabD.pf (fun n => hd Tryd.prog tabD.pf tabD.con.run (fun f => (H0 f).to) n 9) h38.to 38 0 none L38 (loopAt Tryd.prog 38 0) := by
  rw [show loopAt Tryd.prog 38 0 = .loop (lbody Tryd.prog 38 0) by kernel_rfl]
  refine loop_con (hdT_le (m := 20) 9) (m := 20) (within_of _ (by rw [show loopsOf (lbody Tryd.prog 38 0) = [] by kernel_rfl]; simp)) (D := D38) (lv := mbits 3145735 38) (by kernel_rfl)
    e38 o38 p38 (fun x => ((x.1.length : Int) - x.2.1 - x.2.2).toNat) ?_ ?_
  · intro vs hp r h
    unfold D38 at h
    split at h
    · rename_i s a k n i
      rw [T.run_chk] at h
      split at h
      · rename_i hc
        simp only [decide_eq_true_eq] at hc
        obtain ⟨rfl, rfl, h1, h2, h3, h4⟩ := hc
        refine ⟨(s, a, i), rfl, ⟨h1, h2, h3, h4⟩, ?_⟩
        rw [run_brd] at h
        simp only [T.run_leaf] at h
        unfold o38
        split at h
        · rename_i hlt; rw [if_pos hlt]; injection h with h; exact h.symm
        · rename_i hlt; rw [if_neg hlt]; injection h with h; exact h.symm
      · cases h
    · cases h
  · rintro ⟨s, a, i⟩ ⟨h1, h2, h3, h4⟩
    simp only at h1 h2 h3 h4
    simp only [bnd] at h4
    have ht := r38 s a i ((s.length : Int) - a)
    have hw : IntKind.i64.wrap (a + i) = a + i := w64 (by omega) (by omega)
    have hw2 : IntKind.i64.wrap (i + 1) = i + 1 := w64 (by omega) (by omega)
    rw [hw, hw2] at ht
    by_cases hlt : a + i < s.length
    · have c1 : decide (i < (s.length : Int) - a) = true := by simp; omega
      have c2 : decide (0 ≤ a + i ∧ a + i < (s.length : Int)) = true := by simp; omega
      rw [c1, c2] at ht
      have hr := runX_lt (s := s) (a := a) (i := i) (by omega) hlt
      cases hd : dig ((s.getD (a + i).toNat 0).toNat : Int) with
      | true =>
        rw [if_pos hd] at hr
        left
        refine ⟨(s, a, i + 1), ⟨h1, by simp only; omega, by simp only; omega, by simp only [bnd]; omega⟩, by simp only; omega, ?_, ?_⟩
        · simp only [o38, hr]
          have e1 : a + (i + 1) + (runX s a (i + 1) : Int) = a + i + ((runX s a (i + 1) + 1 : Nat) : Int) := by omega
          rw [e1]
          simp only [oA38, oB38, hr, e1]
        · refine ht.trans ?_
          simp only [isC, if_true, hd]
          rfl
      | false =>
        rw [if_neg (by rw [hd]; simp)] at hr
        right
        simp only [o38, hr]
        rw [if_pos (by omega)]
        refine ⟨?_, by simp [oA38]⟩
        refine ht.trans ?_
        simp only [isC, if_true, hd]
        simp only [oA38, hr, Int.natCast_zero, Int.add_zero]
        rfl
    · have hn : a + i = s.length := by omega
      have hi : i = (s.length : Int) - a := by omega
      have c1 : decide (i < (s.length : Int) - a) = false := by simp; omega
      rw [c1] at ht
      right
      simp only [o38, runX_end (s := s) (a := a) (i := i) (by omega) hn]
      rw [if_neg (by omega)]
      refine ⟨?_, by simp [oB38]⟩
      refine ht.trans ?_
      simp only [oB38]
      rw [hi]
      rfl

theorem t38 (s : List UInt8) (a : Int) : (evn tabD h38 L38 38 [.str s, .int .i64 a, .int .i64 1] []).run =
  bif decide (a < (0 : Int)) then
   some ((AV.int IntKind.i64 a, []))
  else
   bif decide (a > (↑s.length : Int)) then
    some ((AV.int IntKind.i64 a, []))
   else
    bif decide ((1 : Int) = (1 : Int) ∧ IntKind.i64.wrap ((↑s.length : Int) - a) = (↑s.length : Int) - a ∧ (0 : Int) ≤ a ∧ (0 : Int) ≤ (0 : Int) ∧ a + (0 : Int) ≤ (↑s.length : Int) ∧ s.length ≤ 4611686018427387903) then
     bif decide (a + (0 : Int) + (↑(runX s a (0 : Int)) : Int) < (↑s.length : Int)) then
      some ((AV.int IntKind.i64 (a + (0 : Int) + (↑(runX s a (0 : Int)) : Int)), []))
     else
      some ((AV.int IntKind.i64 (↑s.length : Int), []))
    else
     none := by kernel_rfl

def runD (s : List UInt8) (a : Int) : Int := if a < 0 ∨ a > s.length then a else a + runL (s.drop a.toNat)

def c38 : List AV → T AV
  | [.str s, .int .i64 a, .int .i64 k] => .chk (decide (k = 1)) (.leaf (.int .i64 (runD s a)))
  | _ => .fail

theorem oneLoop {f : FuncId} {Φ : Nat → Prop} (h : (loopsOf (bodyOf Tryd.prog f)).length = 1) (h0 : Φ 0) : ∀ i, i < (loopsOf (bodyOf Tryd.prog f)).length → Φ i := fun i hi => by
  obtain rfl : i = 0 := by omega
  exact h0

theorem s38 : Sound1 Tryd.prog ⟨38, true, pcon c38⟩ := by
  refine sound_pure okD (hn := h38) (m := 20) (k := 9) (Λ := L38) (oneLoop (by kernel_rfl) l38) fun args r hF h => ?_
  unfold c38 at h
  split at h
  · rename_i s a k
    rw [T.run_chk] at h
    split at h
    · rename_i hk
      obtain rfl : k = 1 := by simpa using hk
      simp only [T.run_leaf, Option.some.injEq] at h; subst h
      have hb : s.length ≤ bnd := hF.1
      simp only [bnd] at hb
      refine (t38 s a).trans ?_
      unfold runD
      by_cases h1 : a < 0
      · rw [if_pos (.inl h1)]
        simp only [h1, decide_true, cond_true]
      · by_cases h2 : a > s.length
        · rw [if_pos (.inr h2)]
          simp only [h1, h2, decide_true, decide_false, cond_true, cond_false]
        · rw [if_neg (by omega)]
          have hw : IntKind.i64.wrap ((s.length : Int) - a) = (s.length : Int) - a := w64 (by omega) (by omega)
          simp only [h1, h2, decide_false, cond_false, hw]
          have e : runX s a 0 = runL (s.drop a.toNat) := by simp [runX]
          have hle := runL_le (s.drop a.toNat)
          simp only [List.length_drop] at hle
          simp only [bnd, e, Bool.cond_eq_ite, decide_eq_true_eq]
          (repeat' split) <;> grind
    · cases h
  · cases h

end Go.Mvn
namespace Go.Mvn
open Go Go.Proofs Go.Ab
set_option maxRecDepth 100000
set_option linter.unusedVariables false
set_option linter.unusedSimpArgs false

theorem sound_mem_tab {P : Program} {e : Con} {t : Tab} (he : Sound1 P e) (ht : ∀ x, x ∈ t → Sound1 P x) : ∀ x, x ∈ e :: t → Sound1 P x := by
  intro x hx
  rcases List.mem_cons.1 hx with rfl | hx
  · exact he
  · exact ht x hx

theorem anyLoops {t : Tab} {H : Nat → Hd} {hn : HintsT} {f : FuncId} {i : Nat} : LoopOk Tryd.prog t.pf H hn.to f 0 none noLoops (loopAt Tryd.prog f i) := by
  generalize loopAt Tryd.prog f i = c
  cases c with
  | loop c => exact fun l hl => by cases hl
  | rangeFunc _ _ _ _ => exact fun l hl => by cases hl
  | _ => trivial

def tabE : Tab := ⟨38, true, pcon c38⟩ :: ⟨66, true, pcon c66⟩ :: tabD

theorem all_tabE : ∀ e, e ∈ tabE → Sound1 Tryd.prog e := by
  refine sound_mem_tab s38 (sound_mem_tab s66 ?_)
  simp only [tabD, List.mem_cons, List.not_mem_nil, or_false]
  rintro e (rfl | rfl | rfl | rfl | rfl | rfl)
  · exact s39
  · exact s79
  · exact s73
  · exact s98
  · exact s74
  · exact s50

theorem ok_tabE : SoundTab Tryd.prog tabE := soundTab_of all_tabE
end Go.Mvn

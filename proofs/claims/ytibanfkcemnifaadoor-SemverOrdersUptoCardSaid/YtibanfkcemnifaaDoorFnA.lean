/- Lemmas for the claims of this seat (a verified symbolic evaluator, and contracts of functions): own work; no condition. -/
import Derived.Test.YtibanfkcemnifaaDoorEvE
import Derived.Test.YtibanfkcemnifaaDoorProg
import Derived.KernelRfl
import Derived.Laws.Externs
import Derived.Lib.Bytealg
import Derived.Laws.BitsLemmas
namespace Go.Sem
open Go Go.Proofs Go.Ab
def h3 : HintsT := ⟨71, [(8, 64), (7, 64), (6, 590295810358705651712), (5, 64), (4, 274877907840), (3, 899), (2, 391), (1, 135), (0, 7)], []⟩
def h4 : HintsT := ⟨50, [(8, 16), (7, 776), (6, 16), (5, 268435592), (4, 136), (3, 16), (2, 8388616), (1, 105), (0, 9)], []⟩
def h5 : HintsT := ⟨69, [(10, 16), (9, 196), (8, 16), (7, 1099511627844), (6, 16), (5, 2097220), (4, 68), (3, 36), (2, 16), (1, 1030), (0, 6)], []⟩
def h6 : HintsT := ⟨29, [(1, 16), (0, 6)], []⟩
def h7 : HintsT := ⟨46, [(2, 1024), (1, 2172), (0, 124)], []⟩
def h8 : HintsT := ⟨47, [(8, 16), (5, 16), (7, 16), (6, 34359739907), (4, 134219427), (3, 1699), (2, 483), (1, 99), (0, 3)], []⟩
def h9 : HintsT := ⟨56, [(10, 1), (9, 336), (8, 80), (7, 16), (4, 6), (6, 1), (5, 67108870), (3, 8198), (2, 6), (1, 2), (0, 0)], [(3, 6)]⟩
def h10 : HintsT := ⟨89, [(24, 12), (23, 12), (22, 2417851639229258349412508), (21, 156), (20, 75557863725914323419292), (19, 157), (18, 4611686018427388061), (17, 157), (16, 9007199254741149), (15, 157), (14, 65597), (13, 549755879485), (12, 65597), (11, 65661), (10, 61), (9, 8454269), (8, 1114237), (7, 65661), (6, 196669), (5, 65597), (4, 61), (3, 29), (2, 12), (1, 1037), (0, 13)], [(6, 65597)]⟩
def h11 : HintsT := ⟨8, [(3, 4), (2, 4), (1, 34), (0, 2)], []⟩
def h12 : HintsT := ⟨39, [(2, 4), (1, 10), (0, 2)], []⟩
def h13 : HintsT := ⟨38, [(1, 16), (0, 12)], []⟩
def h14 : HintsT := ⟨41, [(14, 16), (13, 16), (12, 274877906992), (7, 48), (9, 48), (11, 48), (5, 16), (10, 134217780), (8, 2105396), (6, 41012), (4, 8244), (3, 54), (2, 16), (1, 278), (0, 22)], []⟩
def h15 : HintsT := ⟨45, [(9, 16), (8, 240518168576), (7, 16), (6, 4638564679744), (5, 240518168640), (4, 515396075520), (3, 240518168576), (2, 16), (1, 16396), (0, 12)], [(4, 240518168576)]⟩
def h16 : HintsT := ⟨26, [(7, 16), (4, 16), (6, 16), (5, 131168), (3, 2144), (2, 96), (1, 34), (0, 3)], []⟩
def h17 : HintsT := ⟨32, [(1, 4), (0, 2)], []⟩
def h18 : HintsT := ⟨8, [(3, 4), (2, 4), (1, 34), (0, 2)], []⟩
def h19 : HintsT := ⟨50, [(15, 16), (14, 16), (13, 140737488355376), (9, 48), (8, 48), (7, 48), (12, 48), (11, 48), (5, 48), (10, 274877906996), (6, 1107296308), (4, 33554484), (3, 54), (2, 16), (1, 65558), (0, 22)], []⟩
def h20 : HintsT := ⟨108, [(20, 16), (16, 268), (19, 16), (18, 618970019642690137449562892), (17, 780), (15, 18889465931478580855052), (14, 268), (13, 16), (12, 2251799813685260), (11, 16), (10, 1099511627916), (9, 140), (8, 16), (7, 4294967372), (6, 76), (5, 16), (4, 16777260), (3, 44), (2, 16), (1, 131084), (0, 12)], [(15, 268)]⟩
def h21 : HintsT := ⟨54, [(7, 16), (6, 16), (5, 16), (4, 17179869763), (3, 268436323), (2, 867), (1, 99), (0, 3)], []⟩
def h22 : HintsT := ⟨26, [(8, 16), (5, 35), (7, 16), (6, 33554467), (4, 16419), (3, 35), (2, 16), (1, 1027), (0, 3)], [(4, 35)]⟩
def h23 : HintsT := ⟨9, [(3, 4), (2, 8), (1, 8), (0, 1)], []⟩
def h24 : HintsT := ⟨50, [(12, 4), (4, 25), (11, 25), (10, 121), (9, 121), (8, 121), (7, 57), (6, 536870969), (5, 57), (3, 1049), (2, 25), (1, 9), (0, 1)], [(6, 57), (3, 25)]⟩
def h25 : HintsT := ⟨4, [(3, 4), (2, 4), (1, 8), (0, 1)], []⟩
def h26 : HintsT := ⟨8, [(1, 16), (0, 3)], []⟩
def h27 : HintsT := ⟨16, [(5, 4), (4, 8), (3, 4), (2, 4104), (1, 24), (0, 1)], []⟩
def h28 : HintsT := ⟨28, [(1, 16), (0, 3)], []⟩
def h29 : HintsT := ⟨23, [(2, 0), (1, 3), (0, 8195)], []⟩
def h30 : HintsT := ⟨54, [(9, 4), (5, 16), (8, 16), (7, 17), (6, 68719476761), (4, 2147483673), (3, 25), (2, 9), (1, 9), (0, 1)], []⟩
def h31 : HintsT := ⟨9, [(1, 4), (0, 1)], []⟩
def h32 : HintsT := ⟨99, [(19, 35), (18, 16), (17, 1237940039285380274899124259), (16, 35), (9, 16), (8, 0), (15, 16), (14, 0), (13, 257), (12, 1208925819614629174706433), (11, 257), (10, 18446744073709551779), (7, 576460752303423651), (6, 163), (5, 99), (4, 2199023255651), (3, 99), (2, 35), (1, 35), (0, 3)], [(4, 99), (3, 35)]⟩
def h33 : HintsT := ⟨35, [(6, 4), (5, 8), (4, 134217738), (3, 10), (2, 131082), (1, 10), (0, 2)], []⟩
def h34 : HintsT := ⟨4, [(1, 4), (0, 2)], []⟩
def h35 : HintsT := ⟨8, [(1, 8), (0, 3)], []⟩
def h36 : HintsT := ⟨32, [(7, 16), (6, 387), (5, 16), (4, 33155), (3, 419), (2, 899), (1, 387), (0, 3)], [(2, 387)]⟩
def h37 : HintsT := ⟨15, [(1, 4), (0, 1)], []⟩
def h38 : HintsT := ⟨9, [(1, 16), (0, 3)], []⟩
def h39 : HintsT := ⟨35, [(9, 4), (8, 8), (6, 24), (7, 24), (5, 1048600), (4, 24), (3, 8), (2, 4), (1, 513), (0, 1)], [(5, 24)]⟩
def h40 : HintsT := ⟨19, [(2, 16), (1, 3), (0, 3)], []⟩
def h41 : HintsT := ⟨49, [(9, 16), (8, 16), (7, 17179869328), (6, 144), (5, 112), (4, 536870960), (3, 939524115), (2, 16), (1, 805339155), (0, 805306387)], []⟩
def h42 : HintsT := ⟨23, [(6, 4), (5, 4), (4, 524297), (3, 9), (2, 8201), (1, 9), (0, 1)], [(2, 9)]⟩
def h43 : HintsT := ⟨13, [(5, 16), (2, 16), (4, 16), (3, 512), (1, 35), (0, 3)], []⟩
def h44 : HintsT := ⟨15, [(1, 4), (0, 1)], []⟩
def h45 : HintsT := ⟨46, [(11, 16), (3, 35), (8, 99), (10, 16), (9, 35184372088931), (7, 34359738467), (6, 99), (5, 16), (4, 268435491), (2, 1059), (1, 35), (0, 3)], [(7, 99), (2, 35)]⟩
def h46 : HintsT := ⟨35, [(6, 4), (5, 8), (4, 134217738), (3, 10), (2, 131082), (1, 10), (0, 2)], []⟩
def h47 : HintsT := ⟨35, [(9, 4), (8, 8), (7, 24), (6, 24), (5, 1048600), (4, 24), (3, 8), (2, 4), (1, 513), (0, 1)], [(5, 24)]⟩
def h48 : HintsT := ⟨4, [(3, 4), (2, 4), (1, 8), (0, 1)], []⟩
def h49 : HintsT := ⟨29, [(11, 16), (2, 16), (4, 16), (6, 16), (8, 16), (10, 16), (9, 33554432), (7, 2097155), (5, 262147), (3, 32771), (1, 35), (0, 3)], []⟩
def h50 : HintsT := ⟨71, [(20, 28), (19, 28), (18, 1152921504606847076), (17, 100), (16, 9007199254741092), (15, 100), (14, 100), (13, 2199023255652), (12, 100), (11, 100), (10, 536871012), (9, 100), (8, 100), (7, 100), (6, 100), (5, 100), (4, 100), (3, 36), (2, 28), (1, 517), (0, 5)], []⟩
def h51 : HintsT := ⟨8, [(3, 4), (2, 4), (1, 17), (0, 1)], []⟩
def h52 : HintsT := ⟨9, [(0, 0)], []⟩
def h53 : HintsT := ⟨8, [(1, 16), (0, 3)], []⟩
def h54 : HintsT := ⟨38, [(9, 64), (8, 3145735), (7, 64), (6, 2150629511), (5, 3145863), (4, 7340039), (3, 3145735), (2, 64), (1, 32775), (0, 7)], [(4, 3145735)]⟩
def h55 : HintsT := ⟨9, [(1, 4), (0, 1)], []⟩
def h56 : HintsT := ⟨12, [(1, 4), (0, 1)], []⟩
def h57 : HintsT := ⟨75, [(27, 16), (26, 64563604257983430914), (25, 64563604257983430914), (24, 64563604257983431938), (23, 64563604257983431938), (22, 138350580552821637378), (21, 64563604257983430914), (20, 259), (19, 259), (18, 291), (17, 3848290697251), (16, 3848290697251), (15, 3848290697379), (14, 566798244118691), (13, 3848290697379), (12, 8246337208355), (11, 3848290697251), (10, 35), (9, 35), (8, 536870947), (7, 4194339), (6, 35), (3, 16), (5, 16), (4, 32771), (2, 12291), (1, 4099), (0, 3)], [(22, 64563604257983430914), (12, 3848290697251)]⟩
def h58 : HintsT := ⟨19, [(7, 16), (6, 387), (5, 16), (4, 65955), (3, 419), (2, 899), (1, 387), (0, 3)], [(2, 387)]⟩
def h59 : HintsT := ⟨8, [(4, 4), (3, 4), (2, 65), (1, 1), (0, 1)], []⟩
def h60 : HintsT := ⟨18, [(8, 4), (7, 456), (6, 4), (5, 16872), (4, 488), (3, 968), (2, 456), (1, 9), (0, 1)], [(3, 456)]⟩
def h61 : HintsT := ⟨20, [(13, 16), (12, 16), (11, 524288), (10, 16), (9, 65539), (8, 16), (7, 8195), (6, 16), (5, 16), (4, 4096), (3, 2115), (2, 99), (1, 35), (0, 3)], []⟩
def h62 : HintsT := ⟨6, [(1, 16), (0, 12)], []⟩
def h63 : HintsT := ⟨31, [(6, 16), (3, 16), (5, 16), (4, 524387), (2, 2147), (1, 99), (0, 3)], []⟩
def h64 : HintsT := ⟨18, [(6, 4), (3, 9), (5, 4), (4, 16393), (2, 137), (1, 9), (0, 1)], [(2, 9)]⟩
def h65 : HintsT := ⟨10, [(1, 4), (0, 1)], []⟩
def h66 : HintsT := ⟨25, [(1, 4), (0, 1)], []⟩
def h67 : HintsT := ⟨22, [(8, 4), (4, 25), (7, 25), (6, 25), (5, 4121), (3, 281), (2, 25), (1, 9), (0, 1)], [(3, 25)]⟩
def h68 : HintsT := ⟨30, [(5, 64), (4, 7), (3, 67108871), (2, 64), (1, 16391), (0, 7)], [(3, 7)]⟩
def h69 : HintsT := ⟨72, [(9, 4), (8, 9), (7, 576460752303423497), (6, 9), (5, 4), (4, 0), (3, 137438953481), (2, 2097161), (1, 9), (0, 1)], [(2, 9)]⟩
def h70 : HintsT := ⟨43, [(2, 0), (1, 0), (0, 8589934593)], []⟩
def h71 : HintsT := ⟨20, [(1, 16), (0, 3)], []⟩
def h72 : HintsT := ⟨93, [(18, 16), (17, 35), (16, 16), (15, 19342813113834066795298851), (14, 35), (13, 16), (11, 0), (12, 0), (10, 18446744073709551617), (9, 288230376151711843), (8, 16), (7, 0), (6, 4398046511203), (5, 99), (4, 536871011), (3, 99), (2, 2083), (1, 35), (0, 3)], [(4, 99), (2, 35)]⟩
def h73 : HintsT := ⟨20, [(1, 4), (0, 1)], []⟩
def h74 : HintsT := ⟨13, [(1, 0), (0, 259)], []⟩
def h75 : HintsT := ⟨63, [(16, 71), (15, 71), (14, 18014398509482695), (13, 711), (12, 455), (11, 455), (10, 327), (9, 34359738823), (8, 455), (7, 1073741895), (6, 71), (5, 455), (4, 455), (3, 327), (2, 8647), (1, 455), (0, 71)], [(9, 455), (7, 71), (2, 455)]⟩
def h77 : HintsT := ⟨72, [(18, 16), (5, 16), (7, 16), (9, 16), (11, 16), (13, 16), (15, 16), (17, 16), (16, 2305843009213694209), (14, 288230384741646593), (12, 562958543356385), (10, 8804682957281), (8, 1108101562849), (6, 146028888545), (4, 25769804257), (3, 8589935073), (2, 483), (1, 227), (0, 3)], []⟩
def h78 : HintsT := ⟨25, [(4, 0), (3, 2097155), (2, 3), (1, 131), (0, 3)], []⟩
def h79 : HintsT := ⟨19, [(3, 48), (2, 2), (1, 3), (0, 3)], []⟩
def h80 : HintsT := ⟨14, [(1, 4), (0, 1)], []⟩
def h81 : HintsT := ⟨37, [(8, 16), (7, 16), (6, 2147483683), (5, 99), (4, 16), (3, 2097155), (2, 16), (1, 4099), (0, 3)], []⟩
def h82 : HintsT := ⟨6, [(1, 4), (0, 1)], []⟩
def h83 : HintsT := ⟨25, [(4, 1543), (3, 8390151), (2, 1559), (1, 3591), (0, 1543)], [(1, 1543)]⟩
def h84 : HintsT := ⟨9, [(1, 4), (0, 1)], []⟩
def h85 : HintsT := ⟨72, [(20, 16), (7, 16), (9, 16), (11, 16), (13, 16), (15, 16), (17, 16), (19, 16), (18, 2305843009213694209), (16, 288230384741646593), (14, 562958543356385), (12, 8804682957281), (10, 1108101562849), (8, 146028888545), (6, 25769804257), (5, 8589935073), (4, 483), (3, 227), (2, 99), (1, 35), (0, 3)], []⟩
def h86 : HintsT := ⟨16, [(1, 0), (2, 0), (0, 2049)], []⟩
def h87 : HintsT := ⟨53, [(2, 271), (5, 783), (6, 783), (4, 17179869967), (3, 783), (1, 16655), (0, 271)], [(4, 783), (1, 271)]⟩
def h88 : HintsT := ⟨220, [(44, 0), (43, 13164036458569648337239753460458804039861886925068638906805911577), (42, 17039385), (41, 803469022129495137770981046170581301261101496891396435738651), (40, 18087963), (39, 49039857307708443467467104868809893875799651909893357599), (38, 18087967), (36, 8126495), (37, 8126495), (35, 2993155353253689176481146537402947624255349864529951), (34, 16515103), (33, 2854495385411919762116571938898990272773619743), (32, 8126495), (29, 3932191), (28, 1835039), (31, 3932191), (30, 1835039), (27, 1393796574908163946345982392040522594910239), (26, 786463), (25, 786463), (24, 262175), (22, 147457), (23, 147457), (21, 1298074214633706907132624082452481), (20, 147457), (18, 49173), (19, 49173), (17, 10141204801825835211973625757717), (16, 114709), (15, 38685626227668133590646805), (14, 49173), (13, 16405), (12, 1208925819614629174706207), (10, 9217), (11, 9217), (9, 288230376151720961), (8, 9217), (6, 3091), (7, 3091), (5, 1125899906849811), (4, 7187), (3, 8589937683), (2, 3091), (1, 1051), (0, 268435487)], [(33, 8126495), (21, 147457), (15, 49173), (9, 9217), (3, 3091)]⟩
def h89 : HintsT := ⟨20, [(1, 0), (2, 1048575), (0, 16383)], []⟩
def h90 : HintsT := ⟨30, [(2, 0), (1, 17), (0, 17)], []⟩
def h91 : HintsT := ⟨17, [(3, 16), (2, 3), (1, 8195), (0, 3)], [(1, 3)]⟩
def h92 : HintsT := ⟨21, [(8, 12), (3, 21), (7, 21), (6, 12), (5, 65589), (4, 53), (2, 533), (1, 21), (0, 5)], [(2, 21)]⟩
def h93 : HintsT := ⟨16, [(4, 16), (3, 3), (2, 4099), (1, 131), (0, 3)], [(1, 3)]⟩
def h94 : HintsT := ⟨23, [(5, 16), (4, 3), (3, 262211), (2, 99), (1, 515), (0, 3)], [(1, 3)]⟩
def h95 : HintsT := ⟨58, [(8, 0), (5, 3093), (4, 3093), (7, 3093), (6, 3093), (3, 8391701), (2, 1051669), (1, 3093), (0, 1053)], [(2, 3093)]⟩
def h98 : HintsT := ⟨10, [(1, 16), (0, 3)], []⟩
def h99 : HintsT := ⟨19, [(2, 12), (3, 12), (1, 1025), (0, 1)], []⟩
def h100 : HintsT := ⟨9, [(1, 16), (0, 3)], []⟩
def h101 : HintsT := ⟨38, [(2, 1039), (3, 1039), (1, 9231), (0, 1039)], [(1, 1039)]⟩
def h102 : HintsT := ⟨117, [(26, 12), (25, 12), (24, 316912650057057350374175808544), (23, 7200), (22, 12), (21, 151115727451828646841377), (20, 12), (19, 37778931862957161712929), (18, 3361), (17, 12), (16, 576460752303424801), (15, 12), (14, 144115188075857185), (13, 1825), (12, 12), (11, 35184372089633), (10, 817), (9, 369), (8, 12), (7, 129), (6, 8388721), (5, 113), (4, 49), (3, 12), (2, 65553), (1, 17), (0, 1)], []⟩
def h103 : HintsT := ⟨187, [(35, 16), (42, 16), (41, 16), (40, 3112881567383836743540392398899065529225563841935441952), (39, 47890485652059026823698344598447161988085597568237664), (38, 335233399564413187765888412189130133916599182977662976), (37, 47890485652059026823698344598447161988085597568237568), (44, 16), (33, 16), (22, 16), (21, 324518553658426726783156020585216), (20, 8960), (26, 50049), (32, 16), (30, 115585), (31, 91343852333181432387730302044767688728495899521), (29, 11150372599265311570767859136324180753105793), (28, 115585), (27, 696898287454081973172991196020261297111937), (25, 21267647932558653966460912964485563265), (24, 50049), (23, 17281), (19, 16), (18, 196159429230833773869868419475239575503198607639501078527), (17, 196159429230833773869868418841414280111450389760794689535), (16, 196159429230833773869868418841414276569675527608560779263), (15, 16), (13, 196159429230833773869868419475239575466318911765940797439), (14, 196159429230833773869868419475239575503198607639501078527), (12, 196159429230833773869868419475239575466323133890591457279), (11, 196159429230833773869868419475239575466318911765940797439), (10, 196159429230833773869868419475239575466318911765940793343), (9, 16), (8, 196159429230833773869868419475239575466318647883150127103), (7, 196159429230833773869868419475239575466318634689010593791), (6, 196159429230833773869868419475239575466318911765940793343), (5, 196159429230833773869868419475239575466318911748895141887), (4, 196159429230833773869868419475239575466318911748769312767), (3, 196159429230833773869868419475239575466318911748769311743), (2, 196159429230833773869868419475239575466318911748765116927), (1, 196159429230833773869868419475239575466318911748761446655), (43, 196159429230833773869868419475239575466318911748761053311), (36, 12259964326927110866866776217202473432070217086728792191), (34, 12239012239454335042631408191440652798700429637792688255), (0, 12238826628746394017960796323466897830756933334359730303)], [(38, 47890485652059026823698344598447161988085597568237568), (29, 115585), (25, 50049), (12, 196159429230833773869868419475239575466318911765940797439), (5, 196159429230833773869868419475239575466318911748769312767)]⟩
def h104 : HintsT := ⟨8, [(1, 16), (0, 3)], []⟩
def h105 : HintsT := ⟨17, [(5, 4), (2, 4), (4, 4), (3, 1024), (1, 9), (0, 1)], []⟩
def h106 : HintsT := ⟨6, [(1, 4), (0, 1)], []⟩
def h108 : HintsT := ⟨8, [(1, 16), (0, 3)], []⟩
noncomputable abbrev evn (t : Tab) (hn : HintsT) (Λ : LoopT) (f : FuncId) (args : List AV) (hp : Hp) : T (AV × Hp) := evFnT Tryd.prog t.pf (hdT Tryd.prog t.pf t.con H0 20 9) hn 20 Λ f args hp
noncomputable abbrev rdn (t : Tab) (hn : HintsT) (Λ : LoopT) (f : FuncId) (base i : Nat) (st : St) : T (AX × St) := roundT Tryd.prog t.pf (hdT Tryd.prog t.pf t.con H0 20 9) hn f base none 20 Λ (lbody Tryd.prog f i) st
end Go.Sem
namespace Go.Sem
open Go Go.Proofs Go.Ab
set_option maxRecDepth 100000
set_option linter.unusedVariables false
set_option linter.unusedSimpArgs false

/-! ### scan.Is -/
def dig (c : Int) : Bool := decide (c ≥ 48) && decide (c ≤ 57)
def let_ (c : Int) : Bool := decide (c ≥ 97) && decide (c ≤ 122) || decide (c ≥ 65) && decide (c ≤ 90)
def alnum (c : Int) : Bool := dig c || let_ c
def isC (k c : Int) : Bool := if k = 1 then dig c else if k = 4 then let_ c else alnum c
theorem t77_1 (c : Int) : (evn [] h77 noLoops 77 [.int .u8 c, .int .i64 1] []).run =
  bif decide (c ≥ (48 : Int)) then
   bif decide (c ≥ (97 : Int)) then
    bif decide (c ≥ (65 : Int)) then
     bif c == (32 : Int) then
      some ((AV.bool (decide (c ≤ (57 : Int))), []))
     else
      some ((AV.bool (decide (c ≤ (57 : Int))), []))
    else
     bif c == (32 : Int) then
      some ((AV.bool (decide (c ≤ (57 : Int))), []))
     else
      some ((AV.bool (decide (c ≤ (57 : Int))), []))
   else
    bif decide (c ≥ (65 : Int)) then
     bif c == (32 : Int) then
      some ((AV.bool (decide (c ≤ (57 : Int))), []))
     else
      some ((AV.bool (decide (c ≤ (57 : Int))), []))
    else
     bif c == (32 : Int) then
      some ((AV.bool (decide (c ≤ (57 : Int))), []))
     else
      some ((AV.bool (decide (c ≤ (57 : Int))), []))
  else
   bif decide (c ≥ (97 : Int)) then
    bif decide (c ≥ (65 : Int)) then
     bif c == (32 : Int) then
      some ((AV.bool false, []))
     else
      some ((AV.bool false, []))
    else
     bif c == (32 : Int) then
      some ((AV.bool false, []))
     else
      some ((AV.bool false, []))
   else
    bif decide (c ≥ (65 : Int)) then
     bif c == (32 : Int) then
      some ((AV.bool false, []))
     else
      some ((AV.bool false, []))
    else
     bif c == (32 : Int) then
      some ((AV.bool false, []))
     else
      some ((AV.bool false, [])) := by kernel_rfl
theorem t77_4 (c : Int) : (evn [] h77 noLoops 77 [.int .u8 c, .int .i64 4] []).run =
  bif decide (c ≥ (48 : Int)) then
   bif decide (c ≥ (97 : Int)) then
    bif decide (c ≥ (65 : Int)) then
     bif c == (32 : Int) then
      bif decide (c ≤ (122 : Int)) then
       some ((AV.bool true, []))
      else
       some ((AV.bool (decide (c ≤ (90 : Int))), []))
     else
      bif decide (c ≤ (122 : Int)) then
       some ((AV.bool true, []))
      else
       some ((AV.bool (decide (c ≤ (90 : Int))), []))
    else
     bif c == (32 : Int) then
      bif decide (c ≤ (122 : Int)) then
       some ((AV.bool true, []))
      else
       some ((AV.bool false, []))
     else
      bif decide (c ≤ (122 : Int)) then
       some ((AV.bool true, []))
      else
       some ((AV.bool false, []))
   else
    bif decide (c ≥ (65 : Int)) then
     bif c == (32 : Int) then
      some ((AV.bool (decide (c ≤ (90 : Int))), []))
     else
      some ((AV.bool (decide (c ≤ (90 : Int))), []))
    else
     bif c == (32 : Int) then
      some ((AV.bool false, []))
     else
      some ((AV.bool false, []))
  else
   bif decide (c ≥ (97 : Int)) then
    bif decide (c ≥ (65 : Int)) then
     bif c == (32 : Int) then
      bif decide (c ≤ (122 : Int)) then
       some ((AV.bool true, []))
      else
       some ((AV.bool (decide (c ≤ (90 : Int))), []))
     else
      bif decide (c ≤ (122 : Int)) then
       some ((AV.bool true, []))
      else
       some ((AV.bool (decide (c ≤ (90 : Int))), []))
    else
     bif c == (32 : Int) then
      bif decide (c ≤ (122 : Int)) then
       some ((AV.bool true, []))
      else
       some ((AV.bool false, []))
     else
      bif decide (c ≤ (122 : Int)) then
       some ((AV.bool true, []))
      else
       some ((AV.bool false, []))
   else
    bif decide (c ≥ (65 : Int)) then
     bif c == (32 : Int) then
      some ((AV.bool (decide (c ≤ (90 : Int))), []))
     else
      some ((AV.bool (decide (c ≤ (90 : Int))), []))
    else
     bif c == (32 : Int) then
      some ((AV.bool false, []))
     else
      some ((AV.bool false, [])) := by kernel_rfl
theorem t77_5 (c : Int) : (evn [] h77 noLoops 77 [.int .u8 c, .int .i64 5] []).run =
  bif decide (c ≥ (48 : Int)) then
   bif decide (c ≥ (97 : Int)) then
    bif decide (c ≥ (65 : Int)) then
     bif c == (32 : Int) then
      bif decide (c ≤ (57 : Int)) then
       some ((AV.bool true, []))
      else
       bif decide (c ≤ (122 : Int)) then
        some ((AV.bool true, []))
       else
        some ((AV.bool (decide (c ≤ (90 : Int))), []))
     else
      bif decide (c ≤ (57 : Int)) then
       some ((AV.bool true, []))
      else
       bif decide (c ≤ (122 : Int)) then
        some ((AV.bool true, []))
       else
        some ((AV.bool (decide (c ≤ (90 : Int))), []))
    else
     bif c == (32 : Int) then
      bif decide (c ≤ (57 : Int)) then
       some ((AV.bool true, []))
      else
       bif decide (c ≤ (122 : Int)) then
        some ((AV.bool true, []))
       else
        some ((AV.bool false, []))
     else
      bif decide (c ≤ (57 : Int)) then
       some ((AV.bool true, []))
      else
       bif decide (c ≤ (122 : Int)) then
        some ((AV.bool true, []))
       else
        some ((AV.bool false, []))
   else
    bif decide (c ≥ (65 : Int)) then
     bif c == (32 : Int) then
      bif decide (c ≤ (57 : Int)) then
       some ((AV.bool true, []))
      else
       some ((AV.bool (decide (c ≤ (90 : Int))), []))
     else
      bif decide (c ≤ (57 : Int)) then
       some ((AV.bool true, []))
      else
       some ((AV.bool (decide (c ≤ (90 : Int))), []))
    else
     bif c == (32 : Int) then
      bif decide (c ≤ (57 : Int)) then
       some ((AV.bool true, []))
      else
       some ((AV.bool false, []))
     else
      bif decide (c ≤ (57 : Int)) then
       some ((AV.bool true, []))
      else
       some ((AV.bool false, []))
  else
   bif decide (c ≥ (97 : Int)) then
    bif decide (c ≥ (65 : Int)) then
     bif c == (32 : Int) then
      bif decide (c ≤ (122 : Int)) then
       some ((AV.bool true, []))
      else
       some ((AV.bool (decide (c ≤ (90 : Int))), []))
     else
      bif decide (c ≤ (122 : Int)) then
       some ((AV.bool true, []))
      else
       some ((AV.bool (decide (c ≤ (90 : Int))), []))
    else
     bif c == (32 : Int) then
      bif decide (c ≤ (122 : Int)) then
       some ((AV.bool true, []))
      else
       some ((AV.bool false, []))
     else
      bif decide (c ≤ (122 : Int)) then
       some ((AV.bool true, []))
      else
       some ((AV.bool false, []))
   else
    bif decide (c ≥ (65 : Int)) then
     bif c == (32 : Int) then
      some ((AV.bool (decide (c ≤ (90 : Int))), []))
     else
      some ((AV.bool (decide (c ≤ (90 : Int))), []))
    else
     bif c == (32 : Int) then
      some ((AV.bool false, []))
     else
      some ((AV.bool false, [])) := by kernel_rfl

theorem is1 (c : Int) : (evn [] h77 noLoops 77 [.int .u8 c, .int .i64 1] []).run = some (.bool (dig c), []) := by
  rw [t77_1]; simp only [Bool.cond_eq_ite, decide_eq_true_eq, dig]
  (repeat' split) <;> grind
theorem is4 (c : Int) : (evn [] h77 noLoops 77 [.int .u8 c, .int .i64 4] []).run = some (.bool (let_ c), []) := by
  rw [t77_4]; simp only [Bool.cond_eq_ite, decide_eq_true_eq, let_]
  (repeat' split) <;> grind
theorem is5 (c : Int) : (evn [] h77 noLoops 77 [.int .u8 c, .int .i64 5] []).run = some (.bool (alnum c), []) := by
  rw [t77_5]; simp only [Bool.cond_eq_ite, decide_eq_true_eq, alnum, let_, dig]
  (repeat' split) <;> grind
def cIs : List AV → T AV
  | [.int .u8 c, .int .i64 k] => .br (decide (k = 1)) (.leaf (.bool (isC 1 c))) (.br (decide (k = 4)) (.leaf (.bool (isC 4 c))) (.chk (decide (k = 5)) (.leaf (.bool (isC 5 c)))))
  | _ => .fail
theorem s77 : Sound1 Tryd.prog ⟨77, true, pcon cIs⟩ := by
  refine sound_pure (SoundTab.nil _) (hn := h77) (m := 20) (k := 9) (Λ := noLoops) (fun i hi => ?_) fun args r hF h => ?_
  · rw [show (loopsOf (bodyOf Tryd.prog 77)).length = 0 by kernel_rfl] at hi; omega
  · unfold cIs at h
    split at h
    · rename_i c k
      rw [T.run_br] at h
      split at h
      · rename_i hk
        obtain rfl : k = 1 := by simpa using hk
        simp only [T.run_leaf, Option.some.injEq] at h; subst h
        exact is1 c
      · rw [T.run_br] at h
        split at h
        · rename_i hk
          obtain rfl : k = 4 := by simpa using hk
          simp only [T.run_leaf, Option.some.injEq] at h; subst h
          exact is4 c
        · rw [T.run_chk] at h
          split at h
          · rename_i hk
            obtain rfl : k = 5 := by simpa using hk
            simp only [T.run_leaf, Option.some.injEq] at h; subst h
            exact is5 c
          · cases h
    · cases h
def tabA : Tab := [⟨77, true, pcon cIs⟩]
theorem okA : SoundTab Tryd.prog tabA := soundTab_of (by simp only [tabA, List.mem_cons, List.not_mem_nil, or_false]; rintro e rfl; exact s77)
end Go.Sem
namespace Go.Sem
open Go Go.Proofs Go.Ab
set_option maxRecDepth 100000
set_option linter.unusedVariables false
set_option linter.unusedSimpArgs false
/-! ### strings.trimLeftByte -/
def dropB (c : Int) (s : List UInt8) : List UInt8 := s.dropWhile fun b => (b.toNat : Int) == c
def o91 (x : List UInt8 × Int) : AX × St := (.exit 0, { tm := tmOf 17 [(0, .str (dropB x.2 x.1)), (1, .int .u8 x.2), (13, .bool false)], ms := [], hp := [] })
def D91 : List AV → Hp → T (AX × St)
  | [.str s, .int .u8 c], [] => .leaf (o91 (s, c))
  | _, _ => .fail
def L91 : LoopT := fun k => match Nat.beq k 100020 with
  | true => some (lcon (mbits 3 17) D91)
  | false => none
theorem r91 (s : List UInt8) (c : Int) : (rdn tabA h91 L91 91 0 0 { tm := encGo (mbits 3 17) [.str s, .int .u8 c], ms := [], hp := [] }).run =
  bif decide ((↑s.length : Int) > (0 : Int)) then
   bif decide ((0 : Int) ≤ (0 : Int) ∧ (0 : Int) < (↑s.length : Int)) then
    bif (↑(s.getD (Int.toNat (0 : Int)) (0 : UInt8)).toNat : Int) == c then
     bif decide ((0 : Int) ≤ (1 : Int) ∧ (1 : Int) ≤ (↑s.length : Int)) then
      some ((AX.normal, { tm := tmOf 17 [(0, AV.str (List.drop (Int.toNat (1 : Int)) s)), (1, AV.int IntKind.u8 c)], ms := [], hp := [] }))
     else
      none
    else
     some ((AX.exit 0, { tm := tmOf 17 [(0, AV.str s), (1, AV.int IntKind.u8 c), (13, AV.bool false)], ms := [], hp := [] }))
   else
    none
  else
   some ((AX.exit 0, { tm := tmOf 17 [(0, AV.str s), (1, AV.int IntKind.u8 c), (13, AV.bool false)], ms := [], hp := [] })) := by kernel_rfl
theorem l91 : LoopOk Tryd.prog tabA.pf (fun n => hd Tryd.prog tabA.pf tabA.con.run (fun f => (H0 f).to) n 9) h91.to 91 0 none L91 (loopAt Tryd.prog 91 0) := by
  rw [show loopAt Tryd.prog 91 0 = .loop (lbody Tryd.prog 91 0) by kernel_rfl]
  refine loop_con (hdT_le (m := 20) 9) (m := 20) (within_of _ (by rw [show loopsOf (lbody Tryd.prog 91 0) = [] by kernel_rfl]; simp)) (D := D91) (lv := mbits 3 17) (by kernel_rfl)
    (X := List UInt8 × Int) (fun x => ([.str x.1, .int .u8 x.2], [])) o91 (fun _ => True) (fun x => x.1.length) ?_ ?_
  · intro vs hp r h
    unfold D91 at h
    split at h
    · rename_i s c
      simp only [T.run_leaf, Option.some.injEq] at h
      exact ⟨(s, c), rfl, trivial, h.symm⟩
    · cases h
  · rintro ⟨s, c⟩ -
    have ht := r91 s c
    cases s with
    | nil => right; exact ⟨by kernel_rfl, by simp [o91]⟩
    | cons b s =>
      by_cases hb : ((b.toNat : Int) == c) = true
      · left
        refine ⟨(s, c), trivial, by simp, ?_, ?_⟩
        · simp [o91, dropB, List.dropWhile_cons, hb]
        · refine ht.trans ?_
          have h1 : decide ((((b :: s).length : Nat) : Int) > 0) = true := by simp <;> omega
          have h2 : decide ((0 : Int) ≤ 0 ∧ (0 : Int) < (((b :: s).length : Nat) : Int)) = true := by simp <;> omega
          have h3 : ((((b :: s).getD (Int.toNat 0) 0).toNat : Int) == c) = true := hb
          have h4 : decide ((0 : Int) ≤ 1 ∧ (1 : Int) ≤ (((b :: s).length : Nat) : Int)) = true := by simp <;> omega
          rw [h1, h2, h3, h4]
          rfl
      · right
        refine ⟨?_, by simp [o91]⟩
        refine ht.trans ?_
        have h1 : decide ((((b :: s).length : Nat) : Int) > 0) = true := by simp <;> omega
        have h2 : decide ((0 : Int) ≤ 0 ∧ (0 : Int) < (((b :: s).length : Nat) : Int)) = true := by simp <;> omega
        have h3 : ((((b :: s).getD (Int.toNat 0) 0).toNat : Int) == c) = false := by simpa using hb
        rw [h1, h2, h3]
        have : dropB c (b :: s) = b :: s := by simp [dropB, List.dropWhile_cons, hb]
        simp only [o91, this]
        rfl
def c91 : List AV → T AV
  | [.str s, .int .u8 c] => .leaf (.str (dropB c s))
  | _ => .fail
theorem s91 : Sound1 Tryd.prog ⟨91, true, pcon c91⟩ := by
  refine sound_pure okA (hn := h91) (m := 20) (k := 9) (Λ := L91) (fun i hi => ?_) fun args r hF h => ?_
  · rw [show (loopsOf (bodyOf Tryd.prog 91)).length = 1 by kernel_rfl] at hi
    obtain rfl : i = 0 := by omega
    exact l91
  · unfold c91 at h
    split at h
    · simp only [T.run_leaf, Option.some.injEq] at h; subst h
      kernel_rfl
    · cases h
end Go.Sem
namespace Go.Sem
open Go Go.Proofs Go.Ab
set_option maxRecDepth 100000
set_option linter.unusedVariables false
set_option linter.unusedSimpArgs false

/-! ### functions without a body -/
theorem ext_sound {P : Program} {f : FuncId} {fn : Func} {e : Array Value → Sem Value} (hf : P.funcs[f]? = some fn) (hname : (fn.name == "runtime.NumGoroutine") = false)
    (hb : fn.body.isNone = true) (hn : Extern.findNext fn = none) (he : Extern.find fn = some e) {c : List AV → T AV}
    (h : ∀ args r, (c args).run = some r → ∀ X w σ (vargs : Array Value), VL X w σ args vargs.toList → ∃ v, (e vargs).run P w = .ok v w ∧ V X w σ r v) : Sound1 P ⟨f, true, pcon c⟩ where
  ok args hp r hp' hr X0 σ w vargs hR hV := by
    obtain ⟨h1, h2, h3, rfl, h4⟩ := pcon_run hr
    obtain ⟨v, h5, h6⟩ := h args r h2 _ w σ vargs hV
    refine .inr ⟨v, w, ?_, σ, fun _ _ h => h, ⟨Step.refl _ _, fun _ _ h => h⟩, hR, h6⟩
    rw [run_callFunc_extern hf hname hb hn he, h5]
    rfl
  len args hp r hp' hr := by
    obtain ⟨_, _, _, rfl, _⟩ := pcon_run hr; exact Nat.le_refl _
  pure _ args hp r hp' hr := by
    obtain ⟨_, _, _, rfl, h4⟩ := pcon_run hr; exact ⟨rfl, h4⟩
def c76 : List AV → T AV
  | [.str a, .str b] => .leaf (.int .i64 (Lib.compareBytes a b))
  | _ => .fail
theorem compareBytes_range : ∀ a b : List UInt8, -1 ≤ Lib.compareBytes a b ∧ Lib.compareBytes a b ≤ 1
  | [], [] => by simp [Lib.compareBytes]
  | [], _ :: _ => by simp [Lib.compareBytes]
  | _ :: _, [] => by simp [Lib.compareBytes]
  | a :: x, b :: y => by
    unfold Lib.compareBytes
    split
    · omega
    · split
      · omega
      · exact compareBytes_range x y
theorem s76 : Sound1 Tryd.prog ⟨76, true, pcon c76⟩ := by
  refine ext_sound Tryd.func76 (by kernel_rfl) (by kernel_rfl) (by kernel_rfl) (e := Extern.BytealgCompare.compare) (by kernel_rfl) fun args r hr X w σ vargs hV => ?_
  unfold c76 at hr
  split at hr
  · rename_i a b
    simp only [T.run_leaf, Option.some.injEq] at hr; subst hr
    simp only [VL, V] at hV
    obtain ⟨u, us, h1, ⟨rfl, ha⟩, u2, us2, rfl, ⟨rfl, hb⟩, rfl⟩ := hV
    have : vargs = #[.string ⟨⟨a⟩⟩, .string ⟨⟨b⟩⟩] := by apply Array.ext'; simpa using h1
    subst this
    refine ⟨_, Lib.run_compareString _ _ w, ?_⟩
    simp only [V]
    have := compareBytes_range a b
    refine ⟨trivial, ?_, ?_⟩
    · show IntKind.i64.min ≤ Lib.compareBytes a b
      have : IntKind.i64.min = -9223372036854775808 := rfl
      omega
    · show Lib.compareBytes a b ≤ IntKind.i64.max
      have : IntKind.i64.max = 9223372036854775807 := rfl
      omega
  · cases hr
def c109 : List AV → T AV
  | [.str a, .int .u8 c] => .leaf (.int .i64 (Lib.indexByte a c.toNat.toUInt8))
  | _ => .fail
theorem indexByte_le : ∀ (l : List UInt8) (c : UInt8), Lib.indexByte l c ≤ l.length
  | [], c => by simp [Lib.indexByte]
  | b :: l, c => by
    have := indexByte_le l c
    unfold Lib.indexByte
    split
    · simp; omega
    · split
      · simp; omega
      · simp; omega
theorem s109 : Sound1 Tryd.prog ⟨109, true, pcon c109⟩ := by
  refine ext_sound Tryd.func109 (by kernel_rfl) (by kernel_rfl) (by kernel_rfl) (e := Extern.BytealgIndexByte.indexByte) (by kernel_rfl) fun args r hr X w σ vargs hV => ?_
  unfold c109 at hr
  split at hr
  · rename_i a b
    simp only [T.run_leaf, Option.some.injEq] at hr; subst hr
    simp only [VL, V] at hV
    obtain ⟨u, us, h1, ⟨rfl, ha⟩, u2, us2, rfl, ⟨rfl, hb⟩, rfl⟩ := hV
    have : vargs = #[.string ⟨⟨a⟩⟩, .int .u8 b] := by apply Array.ext'; simpa using h1
    subst this
    refine ⟨_, Lib.run_indexByteString _ _ w, ?_⟩
    simp only [V]
    have h1 := Lib.indexByte_ge a b.toNat.toUInt8
    have h2 := indexByte_le a b.toNat.toUInt8
    simp only [bnd] at ha
    refine ⟨trivial, ?_, ?_⟩
    · show IntKind.i64.min ≤ Lib.indexByte a _
      have : IntKind.i64.min = -9223372036854775808 := rfl
      omega
    · show Lib.indexByte a _ ≤ IntKind.i64.max
      have : IntKind.i64.max = 9223372036854775807 := rfl
      omega
  · cases hr
def tabC : Tab := [⟨76, true, pcon c76⟩, ⟨109, true, pcon c109⟩, ⟨91, true, pcon c91⟩, ⟨77, true, pcon cIs⟩]
theorem okC : SoundTab Tryd.prog tabC := soundTab_of (by
  simp only [tabC, List.mem_cons, List.not_mem_nil, or_false]
  rintro e (rfl | rfl | rfl | rfl)
  · exact s76
  · exact s109
  · exact s91
  · exact s77)
end Go.Sem
namespace Go.Sem

open Go Go.Proofs Go.Ab

set_option maxRecDepth 100000
set_option linter.unusedVariables false

set_option linter.unusedSimpArgs false

def trimD (d : List UInt8) : List UInt8 := if dropB 48 d = [] then [48] else dropB 48 d

theorem t59 (s : List UInt8) : (evn tabC h59 noLoops 59 [.str s] []).run =
  bif s == [] then
   bif s == [] then
    some ((AV.str [(48 : UInt8)], []))
   else
    some ((AV.str s, []))
  else
   bif dropB (48 : Int) s == [] then
    some ((AV.str [(48 : UInt8)], []))
   else
    some ((AV.str (dropB (48 : Int) s), [])) := by kernel_rfl

def c59 : List AV → T AV
  | [.str d] => .leaf (.str (trimD d))
  | _ => .fail

theorem noLoop {f : FuncId} {Φ : Nat → Prop} (h : (loopsOf (bodyOf Tryd.prog f)).length = 0) : ∀ i, i < (loopsOf (bodyOf Tryd.prog f)).length → Φ i := fun i hi => by omega

theorem s59 : Sound1 Tryd.prog ⟨59, true, pcon c59⟩ := by
  refine sound_pure okC (hn := h59) (m := 20) (k := 9) (Λ := noLoops) (noLoop (by kernel_rfl)) fun args r hF h => ?_
  unfold c59 at h
  split at h
  · rename_i s
    simp only [T.run_leaf, Option.some.injEq] at h; subst h
    refine (t59 s).trans ?_
    simp only [trimD]
    by_cases h1 : s = []
    · subst h1; rfl
    · have h2 : (s == []) = false := by simpa using h1
      rw [h2]
      by_cases h3 : dropB 48 s = []
      · rw [h3]; rfl
      · have h4 : (dropB 48 s == []) = false := by simpa using h3
        rw [h4, if_neg h3]; rfl
  · cases h

def cmpI (x y : Int) : Int := if x < y then -1 else if y < x then 1 else 0

theorem t61 (x y : Int) : (evn tabC h61 noLoops 61 [.int .i64 x, .int .i64 y] []).run =
  bif x != x then
   bif y != y then
    some ((AV.int IntKind.i64 (0 : Int), []))
   else
    some ((AV.int IntKind.i64 (-1 : Int), []))
  else
   bif y != y then
    some ((AV.int IntKind.i64 (1 : Int), []))
   else
    bif decide (x < y) then
     some ((AV.int IntKind.i64 (-1 : Int), []))
    else
     bif decide (x > y) then
      some ((AV.int IntKind.i64 (1 : Int), []))
     else
      some ((AV.int IntKind.i64 (0 : Int), [])) := by kernel_rfl

def c61 : List AV → T AV
  | [.int .i64 x, .int .i64 y] => .leaf (.int .i64 (cmpI x y))
  | _ => .fail

theorem s61 : Sound1 Tryd.prog ⟨61, true, pcon c61⟩ := by
  refine sound_pure okC (hn := h61) (m := 20) (k := 9) (Λ := noLoops) (noLoop (by kernel_rfl)) fun args r hF h => ?_
  unfold c61 at h
  split at h
  · rename_i x y
    simp only [T.run_leaf, Option.some.injEq] at h; subst h
    refine (t61 x y).trans ?_
    simp only [cmpI, Bool.cond_eq_ite]
    (repeat' split) <;> grind
  · cases h

def tabD : Tab := [⟨59, true, pcon c59⟩, ⟨61, true, pcon c61⟩, ⟨76, true, pcon c76⟩, ⟨109, true, pcon c109⟩, ⟨91, true, pcon c91⟩, ⟨77, true, pcon cIs⟩]

theorem okD : SoundTab Tryd.prog tabD := soundTab_of (by
  simp only [tabD, List.mem_cons, List.not_mem_nil, or_false]
  rintro e (rfl | rfl | rfl | rfl | rfl | rfl)
  · exact s59
  · exact s61
  · exact s76
  · exact s109
  · exact s91
  · exact s77)

theorem t40 (a b : List UInt8) : (evn tabD h40 noLoops 40 [.str a, .str b] []).run =
  bif cmpI (↑(trimD a).length : Int) (↑(trimD b).length : Int) != (0 : Int) then
   some ((AV.int IntKind.i64 (cmpI (↑(trimD a).length : Int) (↑(trimD b).length : Int)), []))
  else
   bif Lib.compareBytes (trimD a) (trimD b) != (0 : Int) then
    some ((AV.int IntKind.i64 (Lib.compareBytes (trimD a) (trimD b)), []))
   else
    some ((AV.int IntKind.i64 (0 : Int), [])) := by kernel_rfl

def cmpD (a b : List UInt8) : Int := if cmpI (trimD a).length (trimD b).length ≠ 0 then cmpI (trimD a).length (trimD b).length else Lib.compareBytes (trimD a) (trimD b)

def c40 : List AV → T AV
  | [.str a, .str b] => .leaf (.int .i64 (cmpD a b))
  | _ => .fail

theorem s40 : Sound1 Tryd.prog ⟨40, true, pcon c40⟩ := by
  refine sound_pure okD (hn := h40) (m := 20) (k := 9) (Λ := noLoops) (noLoop (by kernel_rfl)) fun args r hF h => ?_
  unfold c40 at h
  split at h
  · rename_i x y
    simp only [T.run_leaf, Option.some.injEq] at h; subst h
    refine (t40 x y).trans ?_
    simp only [cmpD, Bool.cond_eq_ite]
    (repeat' split) <;> grind
  · cases h

end Go.Sem
namespace Go.Sem

open Go Go.Proofs Go.Ab

set_option maxRecDepth 100000
set_option linter.unusedVariables false

set_option linter.unusedSimpArgs false

theorem w64 {n : Int} (h1 : -9223372036854775808 ≤ n) (h2 : n < 9223372036854775808) : IntKind.i64.wrap n = n := by
  rw [IntKind.wrap_i64]; omega

def digB (b : UInt8) : Bool := dig (b.toNat : Int)

def runL (l : List UInt8) : Nat := (l.takeWhile digB).length

def runX (s : List UInt8) (a i : Int) : Nat := runL (s.drop (a + i).toNat)

def oA54 (s : List UInt8) (a i : Int) : AX × St := (.ret, { tm := tmOf 38 [(6, .int .i64 (a + i + runX s a i))], ms := [], hp := [] })

def oB54 (s : List UInt8) (a i : Int) : AX × St := (.exit 0, { tm := tmOf 38 [(0, AV.str s), (1, .int .i64 a), (2, .int .i64 1), (20, .int .i64 ((s.length : Int) - a)), (21, .int .i64 ((s.length : Int) - a)), (22, .bool false)], ms := [], hp := [] })

def o54 (x : List UInt8 × Int × Int) : AX × St := if x.2.1 + x.2.2 + runX x.1 x.2.1 x.2.2 < x.1.length then oA54 x.1 x.2.1 x.2.2 else oB54 x.1 x.2.1 x.2.2

def p54 (x : List UInt8 × Int × Int) : Prop := 0 ≤ x.2.1 ∧ 0 ≤ x.2.2 ∧ x.2.1 + x.2.2 ≤ x.1.length ∧ x.1.length ≤ bnd

def e54 (x : List UInt8 × Int × Int) : List AV × Hp := ([.str x.1, .int .i64 x.2.1, .int .i64 1, .int .i64 ((x.1.length : Int) - x.2.1), .int .i64 x.2.2], [])

def D54 : List AV → Hp → T (AX × St)
  | [.str s, .int .i64 a, .int .i64 k, .int .i64 n, .int .i64 i], [] => .chk (decide (k = 1 ∧ n = (s.length : Int) - a ∧ 0 ≤ a ∧ 0 ≤ i ∧ a + i ≤ s.length ∧ s.length ≤ bnd))
    (.br (decide (a + i + runX s a i < s.length)) (.leaf (oA54 s a i)) (.leaf (oB54 s a i)))
  | _, _ => .fail

def L54 : LoopT := fun k => match Nat.beq k 400035 with
  | true => some (lcon (mbits 3145735 38) D54)
  | false => none

theorem r54 (s : List UInt8) (a i n : Int) : (rdn tabD h54 L54 54 0 0 { tm := encGo (mbits 3145735 38) [.str s, .int .i64 a, .int .i64 1, .int .i64 n, .int .i64 i], ms := [], hp := [] }).run =
  bif decide (i < n) then
   bif decide ((0 : Int) ≤ IntKind.i64.wrap (a + i) ∧ IntKind.i64.wrap (a + i) < (↑s.length : Int)) then
    bif !isC (1 : Int) (↑(s.getD (IntKind.i64.wrap (a + i)).toNat (0 : UInt8)).toNat : Int) then
     some ((AX.ret, { tm := tmOf 38 [(6, AV.int IntKind.i64 (IntKind.i64.wrap (a + i)))], ms := [], hp := [] }))
    else
     some ((AX.normal, { tm := tmOf 38 [(0, AV.str s), (1, AV.int IntKind.i64 a), (2, AV.int IntKind.i64 (1 : Int)), (20, AV.int IntKind.i64 n), (21, AV.int IntKind.i64 (IntKind.i64.wrap (i + (1 : Int))))], ms := [], hp := [] }))
   else
    none
  else
   some ((AX.exit 0, { tm := tmOf 38 [(0, AV.str s), (1, AV.int IntKind.i64 a), (2, AV.int IntKind.i64 (1 : Int)), (20, AV.int IntKind.i64 n), (21, AV.int IntKind.i64 i), (22, AV.bool false)], ms := [], hp := [] })) := by kernel_rfl

theorem drop_cons {s : List UInt8} {k : Nat} (h : k < s.length) : s.drop k = s.getD k 0 :: s.drop (k + 1) := by
  rw [List.drop_eq_getElem_cons h, List.getD_eq_getElem?_getD, List.getElem?_eq_getElem h]; rfl

theorem runL_le : ∀ (l : List UInt8), runL l ≤ l.length
  | [] => by simp [runL]
  | b :: l => by
    have := runL_le l
    simp only [runL, List.takeWhile_cons] at this ⊢
    split <;> simp <;> omega

theorem runX_lt {s : List UInt8} {a i : Int} (h0 : 0 ≤ a + i) (h : a + i < s.length) : runX s a i = if dig ((s.getD (a + i).toNat 0).toNat : Int) = true then runX s a (i + 1) + 1 else 0 := by
  unfold runX runL
  have e : (a + (i + 1)).toNat = (a + i).toNat + 1 := by omega
  rw [drop_cons (k := (a + i).toNat) (by omega), e, List.takeWhile_cons]
  have hd : digB (s.getD (a + i).toNat 0) = dig ((s.getD (a + i).toNat 0).toNat : Int) := rfl
  rw [hd]
  cases dig ((s.getD (a + i).toNat 0).toNat : Int) <;> rfl

theorem runX_end {s : List UInt8} {a i : Int} (h0 : 0 ≤ a + i) (h : a + i = s.length) : runX s a i = 0 := by
  unfold runX runL
  rw [List.drop_of_length_le (by omega)]; rfl

theorem l54 : LoopOk Tryd.prog tabD.pf (fun n => hd Tryd.prog tabD.pf tabD.con.run (fun f => (H0 f).to) n 9) h54.to 54 0 none L54 (loopAt Tryd.prog 54 0) := by
  rw [show loopAt Tryd.prog 54 0 = .loop (lbody Tryd.prog 54 0) by kernel_rfl]
  refine loop_con (hdT_le (m := 20) 9) (m := 20) (within_of _ (by rw [show loopsOf (lbody Tryd.prog 54 0) = [] by kernel_rfl]; simp)) (D := D54) (lv := mbits 3145735 38) (by kernel_rfl)
    e54 o54 p54 (fun x => ((x.1.length : Int) - x.2.1 - x.2.2).toNat) ?_ ?_
  · intro vs hp r h
    unfold D54 at h
    split at h
    · rename_i s a k n i
      rw [T.run_chk] at h
      split at h
      · rename_i hc
        simp only [decide_eq_true_eq] at hc
        obtain ⟨rfl, rfl, h1, h2, h3, h4⟩ := hc
        refine ⟨(s, a, i), rfl, ⟨h1, h2, h3, h4⟩, ?_⟩
        rw [run_brd] at h
        simp only [T.run_leaf] at h
        unfold o54
        split at h
        · rename_i hlt; rw [if_pos hlt]; injection h with h; exact h.symm
        · rename_i hlt; rw [if_neg hlt]; injection h with h; exact h.symm
      · cases h
    · cases h
  · rintro ⟨s, a, i⟩ ⟨h1, h2, h3, h4⟩
    simp only at h1 h2 h3 h4
    simp only [bnd] at h4
    have ht := r54 s a i ((s.length : Int) - a)
    have hw : IntKind.i64.wrap (a + i) = a + i := w64 (by omega) (by omega)
    have hw2 : IntKind.i64.wrap (i + 1) = i + 1 := w64 (by omega) (by omega)
    rw [hw, hw2] at ht
    by_cases hlt : a + i < s.length
    · have c1 : decide (i < (s.length : Int) - a) = true := by simp; omega
      have c2 : decide (0 ≤ a + i ∧ a + i < (s.length : Int)) = true := by simp; omega
      rw [c1, c2] at ht
      have hr := runX_lt (s := s) (a := a) (i := i) (by omega) hlt
      cases hd : dig ((s.getD (a + i).toNat 0).toNat : Int) with
      | true =>
        rw [if_pos hd] at hr
        left
        refine ⟨(s, a, i + 1), ⟨h1, by simp only; omega, by simp only; omega, by simp only [bnd]; omega⟩, by simp only; omega, ?_, ?_⟩
        · simp only [o54, hr]
          have e1 : a + (i + 1) + (runX s a (i + 1) : Int) = a + i + ((runX s a (i + 1) + 1 : Nat) : Int) := by omega
          rw [e1]
          simp only [oA54, oB54, hr, e1]
        · refine ht.trans ?_
          simp only [isC, if_true, hd]
          rfl
      | false =>
        rw [if_neg (by rw [hd]; simp)] at hr
        right
        simp only [o54, hr]
        rw [if_pos (by omega)]
        refine ⟨?_, by simp [oA54]⟩
        refine ht.trans ?_
        simp only [isC, if_true, hd]
        simp only [oA54, hr, Int.natCast_zero, Int.add_zero]
        rfl
    · have hn : a + i = s.length := by omega
      have hi : i = (s.length : Int) - a := by omega
      have c1 : decide (i < (s.length : Int) - a) = false := by simp; omega
      rw [c1] at ht
      right
      simp only [o54, runX_end (s := s) (a := a) (i := i) (by omega) hn]
      rw [if_neg (by omega)]
      refine ⟨?_, by simp [oB54]⟩
      refine ht.trans ?_
      simp only [oB54]
      rw [hi]
      rfl

theorem t54 (s : List UInt8) (a : Int) : (evn tabD h54 L54 54 [.str s, .int .i64 a, .int .i64 1] []).run =
  bif decide (a < (0 : Int)) then
   some ((AV.int IntKind.i64 a, []))
  else
   bif decide (a > (↑s.length : Int)) then
    some ((AV.int IntKind.i64 a, []))
   else
    bif decide ((1 : Int) = (1 : Int) ∧ IntKind.i64.wrap ((↑s.length : Int) - a) = (↑s.length : Int) - a ∧ (0 : Int) ≤ a ∧ (0 : Int) ≤ (0 : Int) ∧ a + (0 : Int) ≤ (↑s.length : Int) ∧ s.length ≤ 4611686018427387903) then
     bif decide (a + (0 : Int) + (↑(runX s a (0 : Int)) : Int) < (↑s.length : Int)) then
      some ((AV.int IntKind.i64 (a + (0 : Int) + (↑(runX s a (0 : Int)) : Int)), []))
     else
      some ((AV.int IntKind.i64 (↑s.length : Int), []))
    else
     none := by kernel_rfl

def runD (s : List UInt8) (a : Int) : Int := if a < 0 ∨ a > s.length then a else a + runL (s.drop a.toNat)

def c54 : List AV → T AV
  | [.str s, .int .i64 a, .int .i64 k] => .chk (decide (k = 1)) (.leaf (.int .i64 (runD s a)))
  | _ => .fail

theorem oneLoop {f : FuncId} {Φ : Nat → Prop} (h : (loopsOf (bodyOf Tryd.prog f)).length = 1) (h0 : Φ 0) : ∀ i, i < (loopsOf (bodyOf Tryd.prog f)).length → Φ i := fun i hi => by
  obtain rfl : i = 0 := by omega
  exact h0

theorem s54 : Sound1 Tryd.prog ⟨54, true, pcon c54⟩ := by
  refine sound_pure okD (hn := h54) (m := 20) (k := 9) (Λ := L54) (oneLoop (by kernel_rfl) l54) fun args r hF h => ?_
  unfold c54 at h
  split at h
  · rename_i s a k
    rw [T.run_chk] at h
    split at h
    · rename_i hk
      obtain rfl : k = 1 := by simpa using hk
      simp only [T.run_leaf, Option.some.injEq] at h; subst h
      have hb : s.length ≤ bnd := hF.1
      simp only [bnd] at hb
      refine (t54 s a).trans ?_
      unfold runD
      by_cases h1 : a < 0
      · rw [if_pos (.inl h1)]
        simp only [h1, decide_true, cond_true]
      · by_cases h2 : a > s.length
        · rw [if_pos (.inr h2)]
          simp only [h1, h2, decide_true, decide_false, cond_true, cond_false]
        · rw [if_neg (by omega)]
          have hw : IntKind.i64.wrap ((s.length : Int) - a) = (s.length : Int) - a := w64 (by omega) (by omega)
          simp only [h1, h2, decide_false, cond_false, hw]
          have e : runX s a 0 = runL (s.drop a.toNat) := by simp [runX]
          have hle := runL_le (s.drop a.toNat)
          simp only [List.length_drop] at hle
          simp only [bnd, e, Bool.cond_eq_ite, decide_eq_true_eq]
          (repeat' split) <;> grind
    · cases h
  · cases h

end Go.Sem
namespace Go.Sem

open Go Go.Proofs Go.Ab

set_option maxRecDepth 100000

set_option linter.unusedVariables false

set_option linter.unusedSimpArgs false

theorem sound_mem_tab {P : Program} {e : Con} {t : Tab} (he : Sound1 P e) (ht : ∀ x, x ∈ t → Sound1 P x) : ∀ x, x ∈ e :: t → Sound1 P x := by
  intro x hx
  rcases List.mem_cons.1 hx with rfl | hx
  · exact he
  · exact ht x hx

theorem anyLoops {t : Tab} {H : Nat → Hd} {hn : HintsT} {f : FuncId} {i : Nat} : LoopOk Tryd.prog t.pf H hn.to f 0 none noLoops (loopAt Tryd.prog f i) := by
  generalize loopAt Tryd.prog f i = c
  cases c with
  | loop c => exact fun l hl => by cases hl
  | rangeFunc _ _ _ _ => exact fun l hl => by cases hl
  | _ => trivial

def tabE : Tab := ⟨54, true, pcon c54⟩ :: ⟨40, true, pcon c40⟩ :: tabD

theorem allE : ∀ e, e ∈ tabE → Sound1 Tryd.prog e := by
  refine sound_mem_tab s54 (sound_mem_tab s40 ?_)
  simp only [tabD, List.mem_cons, List.not_mem_nil, or_false]
  rintro e (rfl | rfl | rfl | rfl | rfl | rfl)
  · exact s59
  · exact s61
  · exact s76
  · exact s109
  · exact s91
  · exact s77

theorem okE : SoundTab Tryd.prog tabE := soundTab_of allE

theorem t55 (c : Int) : (evn tabE h55 noLoops 55 [.int .u8 c] []).run =
  bif isC (5 : Int) c then
   some ((AV.bool true, []))
  else
   some ((AV.bool (c == (45 : Int)), [])) := by kernel_rfl
theorem t56 (s : List UInt8) : (evn tabE h56 noLoops 56 [.str s] []).run =
  bif !s == [] then
   some ((AV.bool (runD s (0 : Int) == (↑s.length : Int)), []))
  else
   some ((AV.bool false, [])) := by kernel_rfl
theorem t25 (b : Bool) : (evn tabE h25 noLoops 25 [.bool b] []).run =
  bif b then
   some ((AV.int IntKind.i64 (1 : Int), []))
  else
   some ((AV.int IntKind.i64 (0 : Int), [])) := by kernel_rfl

def idB (c : Int) : Bool := alnum c || c == 45

def c55 : List AV → T AV
  | [.int .u8 c] => .leaf (.bool (idB c))
  | _ => .fail

theorem s55 : Sound1 Tryd.prog ⟨55, true, pcon c55⟩ := by
  refine sound_pure okE (hn := h55) (m := 20) (k := 9) (Λ := noLoops) (fun i hi => anyLoops) fun args r hF h => ?_
  unfold c55 at h
  split at h
  · rename_i c
    simp only [T.run_leaf, Option.some.injEq] at h; subst h
    refine (t55 c).trans ?_
    have e : isC 5 c = alnum c := by simp [isC]
    unfold idB
    rw [e]
    cases alnum c <;> rfl
  · cases h

/-- Digits alone. -/
def dgs (s : List UInt8) : Bool := !(s == []) && s.all digB

def c56 : List AV → T AV
  | [.str s] => .leaf (.bool (dgs s))
  | _ => .fail

theorem takeWhile_all {p : UInt8 → Bool} : ∀ l : List UInt8, ((l.takeWhile p).length = l.length) ↔ l.all p = true
  | [] => by simp
  | b :: l => by
    have ih := takeWhile_all (p := p) l
    have hle := takeWhile_le p l
    rw [List.takeWhile_cons, List.all_cons]
    cases p b with
    | true => simp only [if_true, List.length_cons, Bool.true_and]; rw [← ih]; omega
    | false => simp

theorem runD_len (s : List UInt8) : runD s 0 = ((s.takeWhile digB).length : Int) := by
  unfold runD runL
  rw [if_neg (by omega)]
  simp

theorem runD_all (e : List UInt8) : (runD e 0 == (e.length : Int)) = e.all digB := by
  have h := takeWhile_all (p := digB) e
  rw [runD_len]
  cases ha : e.all digB with
  | true => have := h.2 ha; rw [this]; simp
  | false =>
    have : ¬ (e.takeWhile digB).length = e.length := fun q => by rw [h.1 q] at ha; cases ha
    simp only [beq_eq_false_iff_ne, ne_eq]; omega

theorem s56 : Sound1 Tryd.prog ⟨56, true, pcon c56⟩ := by
  refine sound_pure okE (hn := h56) (m := 20) (k := 9) (Λ := noLoops) (fun i hi => anyLoops) fun args r hF h => ?_
  unfold c56 at h
  split at h
  · rename_i s
    simp only [T.run_leaf, Option.some.injEq] at h; subst h
    refine (t56 s).trans ?_
    have := runD_all s
    unfold dgs
    rw [← this]
    cases (s == []) <;> rfl
  · cases h

def truthZ (b : Bool) : Int := if b = true then 1 else 0

def c25 : List AV → T AV
  | [.bool b] => .leaf (.int .i64 (truthZ b))
  | _ => .fail

theorem s25 : Sound1 Tryd.prog ⟨25, true, pcon c25⟩ := by
  refine sound_pure okE (hn := h25) (m := 20) (k := 9) (Λ := noLoops) (fun i hi => anyLoops) fun args r hF h => ?_
  unfold c25 at h
  split at h
  · rename_i b
    simp only [T.run_leaf, Option.some.injEq] at h; subst h
    refine (t25 b).trans ?_
    cases b <;> rfl
  · cases h

def tabF_ : Tab := ⟨25, true, pcon c25⟩ :: ⟨56, true, pcon c56⟩ :: ⟨55, true, pcon c55⟩ :: tabE

theorem allF : ∀ e, e ∈ tabF_ → Sound1 Tryd.prog e := sound_mem_tab s25 (sound_mem_tab s56 (sound_mem_tab s55 allE))

theorem okF : SoundTab Tryd.prog tabF_ := soundTab_of allF

theorem t37 (s : List UInt8) : (evn tabF_ h37 noLoops 37 [.str s] []).run =
  bif dgs s then
   bif decide ((0 : Int) ≤ (0 : Int) ∧ (0 : Int) < (↑s.length : Int)) then
    bif (↑(s.getD 0 (0 : UInt8)).toNat : Int) != (48 : Int) then
     some ((AV.bool true, []))
    else
     some ((AV.bool ((↑s.length : Int) == (1 : Int)), []))
   else
    none
  else
   some ((AV.bool false, [])) := by kernel_rfl
theorem t63 (a b : List UInt8) : (evn tabF_ h63 noLoops 63 [.str a, .str b] []).run =
  bif dgs a then
   bif dgs b then
    some ((AV.int IntKind.i64 (cmpD a b), []))
   else
    bif !dgs a == dgs b then
     some ((AV.int IntKind.i64 (IntKind.i64.wrap (truthZ (dgs b) - truthZ (dgs a))), []))
    else
     some ((AV.int IntKind.i64 (Lib.compareBytes a b), []))
  else
   bif !dgs a == dgs b then
    some ((AV.int IntKind.i64 (IntKind.i64.wrap (truthZ (dgs b) - truthZ (dgs a))), []))
   else
    some ((AV.int IntKind.i64 (Lib.compareBytes a b), [])) := by kernel_rfl

/-- A number: digits, no nought ahead of others. -/
def numB (s : List UInt8) : Bool := dgs s && (((s.getD 0 0).toNat : Int) != 48 || (s.length : Int) == 1)

def c37 : List AV → T AV
  | [.str s] => .leaf (.bool (numB s))
  | _ => .fail

theorem dgs_pos {s : List UInt8} (h : dgs s = true) : 0 < s.length := by
  cases s with
  | nil => simp [dgs] at h
  | cons _ _ => simp

theorem s37 : Sound1 Tryd.prog ⟨37, true, pcon c37⟩ := by
  refine sound_pure okF (hn := h37) (m := 20) (k := 9) (Λ := noLoops) (fun i hi => anyLoops) fun args r hF h => ?_
  unfold c37 at h
  split at h
  · rename_i s
    simp only [T.run_leaf, Option.some.injEq] at h; subst h
    refine (t37 s).trans ?_
    unfold numB
    cases hd : dgs s with
    | false => rfl
    | true =>
      have hp := dgs_pos hd
      have g : decide ((0 : Int) ≤ 0 ∧ (0 : Int) < (s.length : Int)) = true := by simp; omega
      rw [g]
      simp only [cond_true, Bool.true_and]
      cases (((s.getD 0 0).toNat : Int) != 48) <;> rfl
  · cases h

def idO (a b : List UInt8) : Int := if dgs a = true ∧ dgs b = true then cmpD a b else if dgs a = dgs b then Lib.compareBytes a b else truthZ (dgs b) - truthZ (dgs a)

def c63 : List AV → T AV
  | [.str a, .str b] => .leaf (.int .i64 (idO a b))
  | _ => .fail

theorem s63 : Sound1 Tryd.prog ⟨63, true, pcon c63⟩ := by
  refine sound_pure okF (hn := h63) (m := 20) (k := 9) (Λ := noLoops) (fun i hi => anyLoops) fun args r hF h => ?_
  unfold c63 at h
  split at h
  · rename_i a b
    simp only [T.run_leaf, Option.some.injEq] at h; subst h
    refine (t63 a b).trans ?_
    unfold idO
    cases dgs a <;> cases dgs b <;> rfl
  · cases h

def tabG : Tab := ⟨63, true, pcon c63⟩ :: ⟨37, true, pcon c37⟩ :: tabF_

theorem allG : ∀ e, e ∈ tabG → Sound1 Tryd.prog e := sound_mem_tab s63 (sound_mem_tab s37 allF)

theorem okG : SoundTab Tryd.prog tabG := soundTab_of allG

/-! ### semver.ident -/

def en36 (y : List UInt8 × Bool) (i : Int) : List AV × Hp := ([.str y.1, .bool y.2, .int .i64 y.1.length, .int .i64 i], [])

theorem q36 (y : List UInt8 × Bool) (i : Int) : (rdn tabG h36 noLoops 36 0 0 { tm := encGo (mbits 387 32) (en36 y i).1, ms := [], hp := (en36 y i).2 }).run =
  bif decide (i < (↑y.fst.length : Int)) then
   bif decide ((0 : Int) ≤ i ∧ i < (↑y.fst.length : Int)) then
    bif !idB (↑(y.fst.getD i.toNat (0 : UInt8)).toNat : Int) then
     some ((AX.ret, { tm := tmOf 32 [(4, AV.bool false)], ms := [], hp := [] }))
    else
     some ((AX.normal, { tm := tmOf 32 [(0, AV.str y.fst), (1, AV.bool y.snd), (7, AV.int IntKind.i64 (↑y.fst.length : Int)), (8, AV.int IntKind.i64 (IntKind.i64.wrap (i + (1 : Int))))], ms := [], hp := [] }))
   else
    none
  else
   some ((AX.exit 0, { tm := tmOf 32 [(0, AV.str y.fst), (1, AV.bool y.snd), (7, AV.int IntKind.i64 (↑y.fst.length : Int)), (8, AV.int IntKind.i64 i), (9, AV.bool false)], ms := [], hp := [] })) := by kernel_rfl

end Go.Sem
namespace Go.Sem

open Go Go.Proofs Go.Ab

set_option maxRecDepth 100000

set_option linter.unusedVariables false

set_option linter.unusedSimpArgs false

def bad36 (y : List UInt8 × Bool) : AX × St := (.ret, { tm := tmOf 32 [(4, .bool false)], ms := [], hp := [] })

def dn36 (y : List UInt8 × Bool) : AX × St := (.exit 0, { tm := tmOf 32 [(0, .str y.1), (1, .bool y.2), (7, .int .i64 y.1.length), (8, .int .i64 y.1.length), (9, .bool false)], ms := [], hp := [] })

def D36 : List AV → Hp → T (AX × St)
  | [.str s, .bool p, .int .i64 n, .int .i64 i], [] => .chk (decide (n = s.length ∧ 0 ≤ i ∧ i ≤ s.length ∧ s.length ≤ bnd)) (.br (allD idB s i) (.leaf (dn36 (s, p))) (.leaf (bad36 (s, p))))
  | _, _ => .fail

def L36 : LoopT := fun k => match Nat.beq k 200029 with
  | true => some (lcon (mbits 387 32) D36)
  | false => none

theorem r36 (y : List UInt8 × Bool) (i : Int) : (rdn tabG h36 L36 36 0 0 { tm := encGo (mbits 387 32) (en36 y i).1, ms := [], hp := (en36 y i).2 }).run =
  bif decide (i < (↑y.fst.length : Int)) then
   bif decide ((0 : Int) ≤ i ∧ i < (↑y.fst.length : Int)) then
    bif !idB (↑(y.fst.getD i.toNat (0 : UInt8)).toNat : Int) then
     some ((AX.ret, { tm := tmOf 32 [(4, AV.bool false)], ms := [], hp := [] }))
    else
     some ((AX.normal, { tm := tmOf 32 [(0, AV.str y.fst), (1, AV.bool y.snd), (7, AV.int IntKind.i64 (↑y.fst.length : Int)), (8, AV.int IntKind.i64 (IntKind.i64.wrap (i + (1 : Int))))], ms := [], hp := [] }))
   else
    none
  else
   some ((AX.exit 0, { tm := tmOf 32 [(0, AV.str y.fst), (1, AV.bool y.snd), (7, AV.int IntKind.i64 (↑y.fst.length : Int)), (8, AV.int IntKind.i64 i), (9, AV.bool false)], ms := [], hp := [] })) := by kernel_rfl

theorem l36 : LoopOk Tryd.prog tabG.pf (fun n => hd Tryd.prog tabG.pf tabG.con.run (fun f => (H0 f).to) n 9) h36.to 36 0 none L36 (loopAt Tryd.prog 36 0) := by
  rw [show loopAt Tryd.prog 36 0 = .loop (lbody Tryd.prog 36 0) by kernel_rfl]
  refine all_con (hdT_le (m := 20) 9) (m := 20) (within_of _ (by rw [show loopsOf (lbody Tryd.prog 36 0) = [] by kernel_rfl]; simp)) (D := D36) (lv := mbits 387 32) (by kernel_rfl)
    en36 (fun y => y.1) (fun _ => idB) dn36 bad36 (fun _ => True) ?_ ?_ ?_ (fun y => ⟨by simp [dn36], by simp [bad36]⟩)
  · intro vs hp r h
    unfold D36 at h
    split at h
    · rename_i s p n i
      rw [T.run_chk] at h
      split at h
      · rename_i hc
        obtain ⟨rfl, h1, h2, h3⟩ := of_decide_eq_true hc
        refine ⟨(s, p), i, rfl, trivial, h1, h2, h3, ?_⟩
        rw [T.run_br] at h
        simp only
        split at h <;> rename_i hq
        · rw [if_pos hq]; exact (Option.some.inj h).symm
        · rw [if_neg hq]; exact (Option.some.inj h).symm
      · cases h
    · cases h
  · rintro ⟨s, p⟩ i _ h0 hl hw
    simp only at hl
    refine (r36 _ _).trans ?_
    have g1 : decide (i < (s.length : Int)) = true := by simpa using hl
    have g2 : decide ((0 : Int) ≤ i ∧ i < (s.length : Int)) = true := by simp; omega
    rw [g1, g2, hw, ← Bool.cond_eq_ite]
    cases idB ((s.getD i.toNat 0).toNat : Int) <;> rfl
  · rintro ⟨s, p⟩ _
    refine (r36 _ _).trans ?_
    simp only [Int.lt_irrefl, decide_false, cond_false]
    rfl

theorem t36 (s : List UInt8) (p : Bool) : (evn tabG h36 L36 36 [.str s, .bool p] []).run =
  bif decide ((↑s.length : Int) = (↑s.length : Int) ∧ (0 : Int) ≤ (0 : Int) ∧ (0 : Int) ≤ (↑s.length : Int) ∧ s.length ≤ 4611686018427387903) then
   bif allD idB s (0 : Int) then
    bif !s == [] then
     bif !p then
      some ((AV.bool true, []))
     else
      bif !dgs s then
       some ((AV.bool true, []))
      else
       some ((AV.bool (numB s), []))
    else
     some ((AV.bool false, []))
   else
    some ((AV.bool false, []))
  else
   none := by kernel_rfl

def identB (p : Bool) (s : List UInt8) : Bool := allD idB s 0 && !(s == []) && (!p || !dgs s || numB s)

def c36 : List AV → T AV
  | [.str s, .bool p] => .leaf (.bool (identB p s))
  | _ => .fail

theorem s36 : Sound1 Tryd.prog ⟨36, true, pcon c36⟩ := by
  refine sound_pure okG (hn := h36) (m := 20) (k := 9) (Λ := L36) (oneLoop (by kernel_rfl) l36) fun args r hF h => ?_
  unfold c36 at h
  split at h
  · rename_i s p
    simp only [T.run_leaf, Option.some.injEq] at h; subst h
    have hb : s.length ≤ bnd := hF.1
    simp only [bnd] at hb
    refine (t36 s p).trans ?_
    have g : decide ((s.length : Int) = s.length ∧ (0 : Int) ≤ 0 ∧ (0 : Int) ≤ (s.length : Int) ∧ s.length ≤ 4611686018427387903) = true := by simp; omega
    rw [g]
    unfold identB
    cases allD idB s 0 <;> cases (s == []) <;> cases p <;> cases dgs s <;> cases numB s <;> rfl
  · cases h

def tabH : Tab := ⟨36, true, pcon c36⟩ :: tabG

theorem allH : ∀ e, e ∈ tabH → Sound1 Tryd.prog e := sound_mem_tab s36 allG

theorem okH : SoundTab Tryd.prog tabH := soundTab_of allH

end Go.Sem

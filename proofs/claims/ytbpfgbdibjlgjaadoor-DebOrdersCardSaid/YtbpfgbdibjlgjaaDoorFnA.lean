/- Lemmas for the claims of this seat (a verified symbolic evaluator, and contracts of functions): own work; no condition. -/
import Derived.Test.YtbpfgbdibjlgjaaDoorEvD
import Derived.Test.YtbpfgbdibjlgjaaDoorProg
import Derived.KernelRfl
import Derived.Laws.Externs
import Derived.Lib.Bytealg
import Derived.Laws.BitsLemmas
namespace Go.Deb
open Go Go.Proofs Go.Ab
def h3 : HintsT := ⟨28, [(3, 4), (2, 120), (1, 25), (0, 1)], []⟩
def h4 : HintsT := ⟨62, [(3, 64), (2, 64), (1, 68719476743), (0, 7)], []⟩
def h5 : HintsT := ⟨60, [(7, 64), (6, 387), (5, 549755814275), (4, 387), (3, 135), (2, 64), (1, 32775), (0, 7)], []⟩
def h6 : HintsT := ⟨18, [(1, 4), (0, 2)], []⟩
def h7 : HintsT := ⟨55, [(7, 16), (6, 392), (5, 16), (4, 2147483656), (3, 16), (2, 268435464), (1, 105), (0, 9)], []⟩
def h8 : HintsT := ⟨68, [(2, 4096), (1, 8444), (0, 252)], []⟩
def h9 : HintsT := ⟨114, [(26, 12), (25, 12), (24, 40564819207303340847894502572061), (23, 29), (22, 12), (21, 28), (20, 1208925819614629174706493), (17, 957), (19, 12), (18, 4722366482869645214653), (16, 18446744073709552573), (15, 957), (14, 445), (13, 12), (12, 4503599627370685), (11, 189), (10, 221), (9, 17179869437), (8, 253), (7, 12), (6, 524413), (5, 125), (4, 61), (3, 29), (2, 12), (1, 4109), (0, 13)], [(16, 957)]⟩
def h10 : HintsT := ⟨17, [(2, 12), (1, 124), (0, 13)], []⟩
def h11 : HintsT := ⟨63, [(10, 1), (9, 464), (8, 80), (7, 16), (4, 6), (6, 1), (5, 67108870), (3, 8198), (2, 6), (1, 2), (0, 0)], [(3, 6)]⟩
def h12 : HintsT := ⟨47, [(8, 16), (5, 16), (7, 16), (6, 34359739907), (4, 134219427), (3, 1699), (2, 483), (1, 99), (0, 3)], []⟩
def h13 : HintsT := ⟨53, [(12, 16), (11, 2251799813685376), (10, 236), (9, 8589939692), (8, 5100), (7, 268442604), (6, 7148), (5, 8172), (4, 1004), (3, 66028), (2, 114940), (1, 98556), (0, 98332)], []⟩
def h14 : HintsT := ⟨39, [(1, 64), (0, 7)], []⟩
def h15 : HintsT := ⟨70, [(15, 4), (14, 108086391056891906), (13, 4), (12, 18554830464766443522), (11, 108086391056891922), (10, 252201579132747778), (9, 108086391056891906), (8, 1649267441666), (7, 4), (6, 2253449081126914), (5, 1649267441674), (4, 3848290697218), (3, 1649267441666), (2, 4), (1, 68719476738), (0, 2)], [(10, 108086391056891906), (4, 1649267441666)]⟩
def h16 : HintsT := ⟨75, [(14, 4), (11, 34), (13, 4), (12, 1180591620717411303458), (10, 4611686018427387938), (9, 34), (5, 10), (8, 4), (7, 144115188075855882), (6, 26), (4, 17179869194), (3, 10), (2, 4), (1, 536870914), (0, 2)], [(10, 34), (4, 10)]⟩
def h17 : HintsT := ⟨8, [(3, 4), (2, 4), (1, 34), (0, 2)], []⟩
def h18 : HintsT := ⟨8, [(3, 4), (2, 4), (1, 34), (0, 2)], []⟩
def h19 : HintsT := ⟨100, [(22, 16), (21, 16), (20, 316912650057057350374175803491), (19, 2147), (18, 1635), (17, 38685626227668133590599267), (16, 1635), (15, 9444732965739290429027), (14, 1635), (13, 611), (12, 99), (11, 99), (10, 16), (9, 16), (8, 144115188075855872), (7, 18014398509482467), (6, 483), (5, 227), (4, 35184372088931), (3, 2097251), (2, 99), (1, 35), (0, 3)], [(17, 1635), (15, 1635), (4, 99), (3, 99)]⟩
def h20 : HintsT := ⟨40, [(9, 16), (8, 7516192768), (7, 16), (6, 144955146304), (5, 7516192832), (4, 16106127360), (3, 7516192768), (2, 16), (1, 16396), (0, 12)], [(4, 7516192768)]⟩
def h21 : HintsT := ⟨36, [(9, 16), (8, 16), (7, 536870988), (6, 76), (5, 16), (4, 2097196), (3, 44), (2, 16), (1, 16396), (0, 12)], []⟩
def h22 : HintsT := ⟨54, [(7, 16), (6, 16), (5, 16), (4, 17179869763), (3, 268436323), (2, 867), (1, 99), (0, 3)], []⟩
def h23 : HintsT := ⟨54, [(17, 64), (8, 64), (10, 64), (12, 64), (14, 64), (16, 64), (15, 1125899906844672), (13, 70377334114304), (11, 4406636447744), (9, 283467843584), (7, 25769805824), (6, 8589936640), (5, 2050), (4, 64), (3, 536870919), (2, 1287), (1, 263), (0, 7)], []⟩
def h24 : HintsT := ⟨56, [(17, 64), (8, 64), (10, 64), (12, 64), (14, 64), (16, 64), (15, 4503599627378688), (13, 281509336457216), (11, 17626545790976), (9, 1133871374336), (7, 103079223296), (6, 34359746560), (5, 8194), (4, 64), (3, 2147483655), (2, 2311), (1, 263), (0, 7)], []⟩
def h25 : HintsT := ⟨26, [(8, 16), (5, 35), (7, 16), (6, 33554467), (4, 16419), (3, 35), (2, 16), (1, 1027), (0, 3)], [(4, 35)]⟩
def h26 : HintsT := ⟨9, [(3, 4), (2, 8), (1, 8), (0, 1)], []⟩
def h27 : HintsT := ⟨50, [(12, 4), (4, 25), (11, 25), (10, 121), (9, 121), (8, 121), (7, 57), (6, 536870969), (5, 57), (3, 1049), (2, 25), (1, 9), (0, 1)], [(6, 57), (3, 25)]⟩
def h28 : HintsT := ⟨38, [(9, 64), (8, 3145735), (7, 64), (6, 2150629511), (5, 3145863), (4, 7340039), (3, 3145735), (2, 64), (1, 32775), (0, 7)], [(4, 3145735)]⟩
def h29 : HintsT := ⟨17, [(3, 48), (2, 48), (1, 563), (0, 51)], []⟩
def h30 : HintsT := ⟨8, [(4, 4), (3, 4), (2, 65), (1, 1), (0, 1)], []⟩
def h31 : HintsT := ⟨72, [(18, 16), (5, 16), (7, 16), (9, 16), (11, 16), (13, 16), (15, 16), (17, 16), (16, 2305843009213694209), (14, 288230384741646593), (12, 562958543356385), (10, 8804682957281), (8, 1108101562849), (6, 146028888545), (4, 25769804257), (3, 8589935073), (2, 483), (1, 227), (0, 3)], []⟩
def h32 : HintsT := ⟨8, [(1, 16), (0, 3)], []⟩
def h33 : HintsT := ⟨35, [(1, 64), (0, 7)], []⟩
def h34 : HintsT := ⟨8, [(1, 16), (0, 3)], []⟩
def h35 : HintsT := ⟨116, [(31, 28), (30, 2052), (29, 2181), (28, 20282409603651670423947251288229), (27, 2213), (26, 79228162514264337593543952549), (25, 2277), (24, 28), (23, 309485009821345068724781285), (9, 997), (12, 28), (15, 997), (14, 965), (17, 997), (20, 997), (19, 741), (22, 28), (21, 36893488147419104229), (18, 2305843009213695973), (16, 36028797018965989), (13, 68719478757), (11, 33556453), (10, 2021), (8, 525285), (7, 997), (6, 485), (5, 229), (4, 101), (3, 37), (2, 28), (1, 16389), (0, 5)], [(8, 997)]⟩
def h36 : HintsT := ⟨4, [(3, 4), (2, 4), (1, 8), (0, 1)], []⟩
def h37 : HintsT := ⟨8, [(1, 16), (0, 3)], []⟩
def h38 : HintsT := ⟨4, [(1, 4), (0, 2)], []⟩
def h39 : HintsT := ⟨34, [(5, 112), (4, 195), (3, 131), (2, 524419), (1, 131), (0, 3)], [(2, 131)]⟩
def h40 : HintsT := ⟨27, [(8, 16), (7, 6147), (6, 16), (5, 8394819), (4, 6211), (3, 6179), (2, 14339), (1, 6147), (0, 3)], [(2, 6147)]⟩
def h41 : HintsT := ⟨19, [(2, 16), (1, 3), (0, 3)], []⟩
def h42 : HintsT := ⟨5, [(1, 4), (0, 1)], []⟩
def h43 : HintsT := ⟨27, [(6, 4), (5, 8), (4, 1048586), (3, 10), (2, 4106), (1, 10), (0, 2)], []⟩
def h44 : HintsT := ⟨18, [(6, 4), (3, 9), (5, 4), (4, 16393), (2, 137), (1, 9), (0, 1)], [(2, 9)]⟩
def h45 : HintsT := ⟨23, [(6, 4), (5, 4), (4, 524297), (3, 9), (2, 8201), (1, 9), (0, 1)], [(2, 9)]⟩
def h46 : HintsT := ⟨9, [(1, 4), (0, 1)], []⟩
def h47 : HintsT := ⟨21, [(1, 4), (0, 1)], []⟩
def h48 : HintsT := ⟨41, [(11, 4), (10, 8), (9, 17179869194), (8, 10), (7, 67108874), (5, 58), (6, 58), (4, 2106), (3, 58), (2, 26), (1, 10), (0, 2)], [(4, 58)]⟩
def h49 : HintsT := ⟨35, [(7, 16), (2, 16), (4, 16), (6, 16), (5, 2097155), (3, 65539), (1, 35), (0, 3)], []⟩
def h50 : HintsT := ⟨26, [(7, 16), (4, 16), (6, 16), (5, 131168), (3, 2144), (2, 96), (1, 34), (0, 3)], []⟩
def h51 : HintsT := ⟨4, [(3, 4), (2, 4), (1, 8), (0, 1)], []⟩
def h52 : HintsT := ⟨8, [(3, 4), (2, 4), (1, 17), (0, 1)], []⟩
def h53 : HintsT := ⟨9, [(0, 0)], []⟩
def h54 : HintsT := ⟨37, [(8, 16), (7, 16), (6, 2147483683), (5, 99), (4, 16), (3, 2097155), (2, 16), (1, 4099), (0, 3)], []⟩
def h55 : HintsT := ⟨19, [(6, 16), (3, 35), (5, 16), (4, 131107), (2, 1059), (1, 35), (0, 3)], [(2, 35)]⟩
def h56 : HintsT := ⟨8, [(1, 16), (0, 3)], []⟩
def h57 : HintsT := ⟨8, [(1, 16), (0, 3)], []⟩
def h58 : HintsT := ⟨20, [(3, 11), (2, 262211), (1, 115), (0, 11)], [(1, 11)]⟩
def h59 : HintsT := ⟨29, [(7, 16), (2, 16), (4, 16), (6, 16), (5, 32771), (3, 1027), (1, 35), (0, 3)], []⟩
def h60 : HintsT := ⟨6, [(1, 4), (0, 1)], []⟩
def h61 : HintsT := ⟨18, [(8, 4), (7, 456), (6, 4), (5, 16872), (4, 488), (3, 968), (2, 456), (1, 9), (0, 1)], [(3, 456)]⟩
def h62 : HintsT := ⟨20, [(13, 16), (12, 16), (11, 524288), (10, 16), (9, 65539), (8, 16), (7, 8195), (6, 16), (5, 16), (4, 4096), (3, 2115), (2, 99), (1, 35), (0, 3)], []⟩
def h63 : HintsT := ⟨9, [(1, 16), (0, 3)], []⟩
def h64 : HintsT := ⟨17, [(1, 4), (0, 1)], []⟩
def h65 : HintsT := ⟨13, [(5, 16), (2, 16), (4, 16), (3, 512), (1, 35), (0, 3)], []⟩
def h66 : HintsT := ⟨63, [(16, 71), (15, 71), (14, 18014398509482695), (13, 711), (12, 455), (11, 455), (10, 327), (9, 34359738823), (8, 455), (7, 1073741895), (6, 71), (5, 455), (4, 455), (3, 327), (2, 8647), (1, 455), (0, 71)], [(9, 455), (7, 71), (2, 455)]⟩
def h67 : HintsT := ⟨17, [(3, 16), (2, 3), (1, 8195), (0, 3)], [(1, 3)]⟩
def h68 : HintsT := ⟨21, [(8, 12), (3, 21), (7, 21), (6, 12), (5, 65589), (4, 53), (2, 533), (1, 21), (0, 5)], [(2, 21)]⟩
def h69 : HintsT := ⟨16, [(4, 16), (3, 3), (2, 4099), (1, 131), (0, 3)], [(1, 3)]⟩
def h70 : HintsT := ⟨23, [(5, 16), (4, 3), (3, 262211), (2, 99), (1, 515), (0, 3)], [(1, 3)]⟩
def h73 : HintsT := ⟨6, [(1, 4), (0, 1)], []⟩
def h74 : HintsT := ⟨8, [(1, 16), (0, 3)], []⟩
def h75 : HintsT := ⟨53, [(2, 271), (5, 783), (6, 783), (4, 17179869967), (3, 783), (1, 16655), (0, 271)], [(4, 783), (1, 271)]⟩
def h76 : HintsT := ⟨220, [(44, 0), (43, 13164036458569648337239753460458804039861886925068638906805911577), (42, 17039385), (41, 803469022129495137770981046170581301261101496891396435738651), (40, 18087963), (39, 49039857307708443467467104868809893875799651909893357599), (38, 18087967), (36, 8126495), (37, 8126495), (35, 2993155353253689176481146537402947624255349864529951), (34, 16515103), (33, 2854495385411919762116571938898990272773619743), (32, 8126495), (29, 3932191), (28, 1835039), (31, 3932191), (30, 1835039), (27, 1393796574908163946345982392040522594910239), (26, 786463), (25, 786463), (24, 262175), (22, 147457), (23, 147457), (21, 1298074214633706907132624082452481), (20, 147457), (18, 49173), (19, 49173), (17, 10141204801825835211973625757717), (16, 114709), (15, 38685626227668133590646805), (14, 49173), (13, 16405), (12, 1208925819614629174706207), (10, 9217), (11, 9217), (9, 288230376151720961), (8, 9217), (6, 3091), (7, 3091), (5, 1125899906849811), (4, 7187), (3, 8589937683), (2, 3091), (1, 1051), (0, 268435487)], [(33, 8126495), (21, 147457), (15, 49173), (9, 9217), (3, 3091)]⟩
def h77 : HintsT := ⟨10, [(1, 16), (0, 3)], []⟩
def h78 : HintsT := ⟨19, [(2, 12), (3, 12), (1, 1025), (0, 1)], []⟩
def h79 : HintsT := ⟨9, [(1, 16), (0, 3)], []⟩
def h80 : HintsT := ⟨143, [(35, 16), (29, 16), (28, 16), (27, 20769187434139310514121985316884736), (26, 4352), (34, 16), (33, 16), (32, 696898287454081973172991196020261297070336), (31, 8448), (30, 5444517870735015415413993718908291385315), (25, 162259276829213363391578010290147), (24, 2019), (23, 2019), (22, 16), (21, 9903520314283042199192995811), (20, 2019), (19, 16), (18, 9444732965739290431459), (17, 4067), (16, 18446744073709553635), (15, 576460752303425507), (14, 2019), (13, 995), (12, 483), (11, 227), (10, 99), (3, 16), (5, 16), (7, 16), (9, 16), (8, 68719476771), (6, 2147483683), (4, 16777251), (2, 65571), (1, 35), (0, 3)], [(15, 2019)]⟩
def h81 : HintsT := ⟨58, [(8, 0), (5, 3093), (4, 3093), (7, 3093), (6, 3093), (3, 8391701), (2, 1051669), (1, 3093), (0, 1053)], [(2, 3093)]⟩
def h82 : HintsT := ⟨117, [(26, 12), (25, 12), (24, 316912650057057350374175808544), (23, 7200), (22, 12), (21, 151115727451828646841377), (20, 12), (19, 37778931862957161712929), (18, 3361), (17, 12), (16, 576460752303424801), (15, 12), (14, 144115188075857185), (13, 1825), (12, 12), (11, 35184372089633), (10, 817), (9, 369), (8, 12), (7, 129), (6, 8388721), (5, 113), (4, 49), (3, 12), (2, 65553), (1, 17), (0, 1)], []⟩
def h83 : HintsT := ⟨187, [(35, 16), (42, 16), (41, 16), (40, 3112881567383836743540392398899065529225563841935441952), (39, 47890485652059026823698344598447161988085597568237664), (38, 335233399564413187765888412189130133916599182977662976), (37, 47890485652059026823698344598447161988085597568237568), (44, 16), (33, 16), (22, 16), (21, 324518553658426726783156020585216), (20, 8960), (26, 50049), (32, 16), (30, 115585), (31, 91343852333181432387730302044767688728495899521), (29, 11150372599265311570767859136324180753105793), (28, 115585), (27, 696898287454081973172991196020261297111937), (25, 21267647932558653966460912964485563265), (24, 50049), (23, 17281), (19, 16), (18, 196159429230833773869868419475239575503198607639501078527), (17, 196159429230833773869868418841414280111450389760794689535), (16, 196159429230833773869868418841414276569675527608560779263), (15, 16), (13, 196159429230833773869868419475239575466318911765940797439), (14, 196159429230833773869868419475239575503198607639501078527), (12, 196159429230833773869868419475239575466323133890591457279), (11, 196159429230833773869868419475239575466318911765940797439), (10, 196159429230833773869868419475239575466318911765940793343), (9, 16), (8, 196159429230833773869868419475239575466318647883150127103), (7, 196159429230833773869868419475239575466318634689010593791), (6, 196159429230833773869868419475239575466318911765940793343), (5, 196159429230833773869868419475239575466318911748895141887), (4, 196159429230833773869868419475239575466318911748769312767), (3, 196159429230833773869868419475239575466318911748769311743), (2, 196159429230833773869868419475239575466318911748765116927), (1, 196159429230833773869868419475239575466318911748761446655), (43, 196159429230833773869868419475239575466318911748761053311), (36, 12259964326927110866866776217202473432070217086728792191), (34, 12239012239454335042631408191440652798700429637792688255), (0, 12238826628746394017960796323466897830756933334359730303)], [(38, 47890485652059026823698344598447161988085597568237568), (29, 115585), (25, 50049), (12, 196159429230833773869868419475239575466318911765940797439), (5, 196159429230833773869868419475239575466318911748769312767)]⟩
def h85 : HintsT := ⟨6, [(1, 4), (0, 1)], []⟩
def h86 : HintsT := ⟨81, [(18, 16), (17, 16), (16, 151115727451828646839779), (15, 1507), (14, 1507), (13, 1507), (12, 1507), (11, 17592186045923), (10, 1507), (9, 16), (8, 549755814371), (6, 995), (7, 995), (5, 1049571), (4, 995), (3, 483), (2, 227), (1, 99), (0, 3)], [(11, 1507), (5, 995)]⟩
def h87 : HintsT := ⟨38, [(2, 1039), (3, 1039), (1, 9231), (0, 1039)], [(1, 1039)]⟩
def h88 : HintsT := ⟨17, [(5, 4), (2, 4), (4, 4), (3, 1024), (1, 9), (0, 1)], []⟩
def h89 : HintsT := ⟨39, [(13, 12), (9, 464), (12, 464), (11, 464), (10, 1073742288), (8, 33554896), (7, 464), (6, 209), (4, 49), (5, 49), (3, 4145), (2, 49), (1, 17), (0, 1)], [(8, 464), (3, 49)]⟩
noncomputable abbrev evn (t : Tab) (hn : HintsT) (Λ : LoopT) (f : FuncId) (args : List AV) (hp : Hp) : T (AV × Hp) := evFnT Tryd.prog t.pf (hdT Tryd.prog t.pf t.con H0 20 9) hn 20 Λ f args hp
noncomputable abbrev rdn (t : Tab) (hn : HintsT) (Λ : LoopT) (f : FuncId) (base i : Nat) (st : St) : T (AX × St) := roundT Tryd.prog t.pf (hdT Tryd.prog t.pf t.con H0 20 9) hn f base none 20 Λ (lbody Tryd.prog f i) st
end Go.Deb
namespace Go.Deb
open Go Go.Proofs Go.Ab
set_option linter.unusedVariables false
set_option linter.unusedSimpArgs false

/-! ### scan.Is -/
def dig (c : Int) : Bool := decide (c ≥ 48) && decide (c ≤ 57)
def let_ (c : Int) : Bool := decide (c ≥ 97) && decide (c ≤ 122) || decide (c ≥ 65) && decide (c ≤ 90)
def alnum (c : Int) : Bool := dig c || let_ c
def isC (k c : Int) : Bool := if k = 1 then dig c else if k = 4 then let_ c else alnum c
theorem t31_1 (c : Int) : (evn [] h31 noLoops 31 [.int .u8 c, .int .i64 1] []).run =
  bif decide (c ≥ (48 : Int)) then
   bif decide (c ≥ (97 : Int)) then
    bif decide (c ≥ (65 : Int)) then
     bif c == (32 : Int) then
      some ((AV.bool (decide (c ≤ (57 : Int))), []))
     else
      some ((AV.bool (decide (c ≤ (57 : Int))), []))
    else
     bif c == (32 : Int) then
      some ((AV.bool (decide (c ≤ (57 : Int))), []))
     else
      some ((AV.bool (decide (c ≤ (57 : Int))), []))
   else
    bif decide (c ≥ (65 : Int)) then
     bif c == (32 : Int) then
      some ((AV.bool (decide (c ≤ (57 : Int))), []))
     else
      some ((AV.bool (decide (c ≤ (57 : Int))), []))
    else
     bif c == (32 : Int) then
      some ((AV.bool (decide (c ≤ (57 : Int))), []))
     else
      some ((AV.bool (decide (c ≤ (57 : Int))), []))
  else
   bif decide (c ≥ (97 : Int)) then
    bif decide (c ≥ (65 : Int)) then
     bif c == (32 : Int) then
      some ((AV.bool false, []))
     else
      some ((AV.bool false, []))
    else
     bif c == (32 : Int) then
      some ((AV.bool false, []))
     else
      some ((AV.bool false, []))
   else
    bif decide (c ≥ (65 : Int)) then
     bif c == (32 : Int) then
      some ((AV.bool false, []))
     else
      some ((AV.bool false, []))
    else
     bif c == (32 : Int) then
      some ((AV.bool false, []))
     else
      some ((AV.bool false, [])) := by kernel_rfl
theorem t31_4 (c : Int) : (evn [] h31 noLoops 31 [.int .u8 c, .int .i64 4] []).run =
  bif decide (c ≥ (48 : Int)) then
   bif decide (c ≥ (97 : Int)) then
    bif decide (c ≥ (65 : Int)) then
     bif c == (32 : Int) then
      bif decide (c ≤ (122 : Int)) then
       some ((AV.bool true, []))
      else
       some ((AV.bool (decide (c ≤ (90 : Int))), []))
     else
      bif decide (c ≤ (122 : Int)) then
       some ((AV.bool true, []))
      else
       some ((AV.bool (decide (c ≤ (90 : Int))), []))
    else
     bif c == (32 : Int) then
      bif decide (c ≤ (122 : Int)) then
       some ((AV.bool true, []))
      else
       some ((AV.bool false, []))
     else
      bif decide (c ≤ (122 : Int)) then
       some ((AV.bool true, []))
      else
       some ((AV.bool false, []))
   else
    bif decide (c ≥ (65 : Int)) then
     bif c == (32 : Int) then
      some ((AV.bool (decide (c ≤ (90 : Int))), []))
     else
      some ((AV.bool (decide (c ≤ (90 : Int))), []))
    else
     bif c == (32 : Int) then
      some ((AV.bool false, []))
     else
      some ((AV.bool false, []))
  else
   bif decide (c ≥ (97 : Int)) then
    bif decide (c ≥ (65 : Int)) then
     bif c == (32 : Int) then
      bif decide (c ≤ (122 : Int)) then
       some ((AV.bool true, []))
      else
       some ((AV.bool (decide (c ≤ (90 : Int))), []))
     else
      bif decide (c ≤ (122 : Int)) then
       some ((AV.bool true, []))
      else
       some ((AV.bool (decide (c ≤ (90 : Int))), []))
    else
     bif c == (32 : Int) then
      bif decide (c ≤ (122 : Int)) then
       some ((AV.bool true, []))
      else
       some ((AV.bool false, []))
     else
      bif decide (c ≤ (122 : Int)) then
       some ((AV.bool true, []))
      else
       some ((AV.bool false, []))
   else
    bif decide (c ≥ (65 : Int)) then
     bif c == (32 : Int) then
      some ((AV.bool (decide (c ≤ (90 : Int))), []))
     else
      some ((AV.bool (decide (c ≤ (90 : Int))), []))
    else
     bif c == (32 : Int) then
      some ((AV.bool false, []))
     else
      some ((AV.bool false, [])) := by kernel_rfl
theorem t31_5 (c : Int) : (evn [] h31 noLoops 31 [.int .u8 c, .int .i64 5] []).run =
  bif decide (c ≥ (48 : Int)) then
   bif decide (c ≥ (97 : Int)) then
    bif decide (c ≥ (65 : Int)) then
     bif c == (32 : Int) then
      bif decide (c ≤ (57 : Int)) then
       some ((AV.bool true, []))
      else
       bif decide (c ≤ (122 : Int)) then
        some ((AV.bool true, []))
       else
        some ((AV.bool (decide (c ≤ (90 : Int))), []))
     else
      bif decide (c ≤ (57 : Int)) then
       some ((AV.bool true, []))
      else
       bif decide (c ≤ (122 : Int)) then
        some ((AV.bool true, []))
       else
        some ((AV.bool (decide (c ≤ (90 : Int))), []))
    else
     bif c == (32 : Int) then
      bif decide (c ≤ (57 : Int)) then
       some ((AV.bool true, []))
      else
       bif decide (c ≤ (122 : Int)) then
        some ((AV.bool true, []))
       else
        some ((AV.bool false, []))
     else
      bif decide (c ≤ (57 : Int)) then
       some ((AV.bool true, []))
      else
       bif decide (c ≤ (122 : Int)) then
        some ((AV.bool true, []))
       else
        some ((AV.bool false, []))
   else
    bif decide (c ≥ (65 : Int)) then
     bif c == (32 : Int) then
      bif decide (c ≤ (57 : Int)) then
       some ((AV.bool true, []))
      else
       some ((AV.bool (decide (c ≤ (90 : Int))), []))
     else
      bif decide (c ≤ (57 : Int)) then
       some ((AV.bool true, []))
      else
       some ((AV.bool (decide (c ≤ (90 : Int))), []))
    else
     bif c == (32 : Int) then
      bif decide (c ≤ (57 : Int)) then
       some ((AV.bool true, []))
      else
       some ((AV.bool false, []))
     else
      bif decide (c ≤ (57 : Int)) then
       some ((AV.bool true, []))
      else
       some ((AV.bool false, []))
  else
   bif decide (c ≥ (97 : Int)) then
    bif decide (c ≥ (65 : Int)) then
     bif c == (32 : Int) then
      bif decide (c ≤ (122 : Int)) then
       some ((AV.bool true, []))
      else
       some ((AV.bool (decide (c ≤ (90 : Int))), []))
     else
      bif decide (c ≤ (122 : Int)) then
       some ((AV.bool true, []))
      else
       some ((AV.bool (decide (c ≤ (90 : Int))), []))
    else
     bif c == (32 : Int) then
      bif decide (c ≤ (122 : Int)) then
       some ((AV.bool true, []))
      else
       some ((AV.bool false, []))
     else
      bif decide (c ≤ (122 : Int)) then
       some ((AV.bool true, []))
      else
       some ((AV.bool false, []))
   else
    bif decide (c ≥ (65 : Int)) then
     bif c == (32 : Int) then
      some ((AV.bool (decide (c ≤ (90 : Int))), []))
     else
      some ((AV.bool (decide (c ≤ (90 : Int))), []))
    else
     bif c == (32 : Int) then
      some ((AV.bool false, []))
     else
      some ((AV.bool false, [])) := by kernel_rfl

theorem is1 (c : Int) : (evn [] h31 noLoops 31 [.int .u8 c, .int .i64 1] []).run = some (.bool (dig c), []) := by
  rw [t31_1]; simp only [Bool.cond_eq_ite, decide_eq_true_eq, dig]
  (repeat' split) <;> grind
theorem is4 (c : Int) : (evn [] h31 noLoops 31 [.int .u8 c, .int .i64 4] []).run = some (.bool (let_ c), []) := by
  rw [t31_4]; simp only [Bool.cond_eq_ite, decide_eq_true_eq, let_]
  (repeat' split) <;> grind
theorem is5 (c : Int) : (evn [] h31 noLoops 31 [.int .u8 c, .int .i64 5] []).run = some (.bool (alnum c), []) := by
  rw [t31_5]; simp only [Bool.cond_eq_ite, decide_eq_true_eq, alnum, let_, dig]
  (repeat' split) <;> grind
def cIs : List AV → T AV
  | [.int .u8 c, .int .i64 k] => .br (decide (k = 1)) (.leaf (.bool (isC 1 c))) (.br (decide (k = 4)) (.leaf (.bool (isC 4 c))) (.chk (decide (k = 5)) (.leaf (.bool (isC 5 c)))))
  | _ => .fail
theorem s31 : Sound1 Tryd.prog ⟨31, true, pcon cIs⟩ := by
  refine sound_pure (SoundTab.nil _) (hn := h31) (m := 20) (k := 9) (Λ := noLoops) (fun i hi => ?_) fun args r hF h => ?_
  · rw [show (loopsOf (bodyOf Tryd.prog 31)).length = 0 by kernel_rfl] at hi; omega
  · unfold cIs at h
    split at h
    · rename_i c k
      rw [T.run_br] at h
      split at h
      · rename_i hk
        obtain rfl : k = 1 := by simpa using hk
        simp only [T.run_leaf, Option.some.injEq] at h; subst h
        exact is1 c
      · rw [T.run_br] at h
        split at h
        · rename_i hk
          obtain rfl : k = 4 := by simpa using hk
          simp only [T.run_leaf, Option.some.injEq] at h; subst h
          exact is4 c
        · rw [T.run_chk] at h
          split at h
          · rename_i hk
            obtain rfl : k = 5 := by simpa using hk
            simp only [T.run_leaf, Option.some.injEq] at h; subst h
            exact is5 c
          · cases h
    · cases h
def tabA : Tab := [⟨31, true, pcon cIs⟩]
theorem okA : SoundTab Tryd.prog tabA := soundTab_of (by simp only [tabA, List.mem_cons, List.not_mem_nil, or_false]; rintro e rfl; exact s31)
end Go.Deb
namespace Go.Deb
open Go Go.Proofs Go.Ab
set_option linter.unusedVariables false
set_option linter.unusedSimpArgs false
/-! ### strings.trimLeftByte -/
def dropB (c : Int) (s : List UInt8) : List UInt8 := s.dropWhile fun b => (b.toNat : Int) == c
def o67 (x : List UInt8 × Int) : AX × St := (.exit 0, { tm := tmOf 17 [(0, .str (dropB x.2 x.1)), (1, .int .u8 x.2), (13, .bool false)], ms := [], hp := [] })
def D67 : List AV → Hp → T (AX × St)
  | [.str s, .int .u8 c], [] => .leaf (o67 (s, c))
  | _, _ => .fail
def L67 : LoopT := fun k => match Nat.beq k 100020 with
  | true => some (lcon (mbits 3 17) D67)
  | false => none
theorem r67 (s : List UInt8) (c : Int) : (rdn tabA h67 L67 67 0 0 { tm := encGo (mbits 3 17) [.str s, .int .u8 c], ms := [], hp := [] }).run =
  bif decide ((↑s.length : Int) > (0 : Int)) then
   bif decide ((0 : Int) ≤ (0 : Int) ∧ (0 : Int) < (↑s.length : Int)) then
    bif (↑(s.getD (Int.toNat (0 : Int)) (0 : UInt8)).toNat : Int) == c then
     bif decide ((0 : Int) ≤ (1 : Int) ∧ (1 : Int) ≤ (↑s.length : Int)) then
      some ((AX.normal, { tm := tmOf 17 [(0, AV.str (List.drop (Int.toNat (1 : Int)) s)), (1, AV.int IntKind.u8 c)], ms := [], hp := [] }))
     else
      none
    else
     some ((AX.exit 0, { tm := tmOf 17 [(0, AV.str s), (1, AV.int IntKind.u8 c), (13, AV.bool false)], ms := [], hp := [] }))
   else
    none
  else
   some ((AX.exit 0, { tm := tmOf 17 [(0, AV.str s), (1, AV.int IntKind.u8 c), (13, AV.bool false)], ms := [], hp := [] })) := by kernel_rfl
theorem l67 : LoopOk Tryd.prog tabA.pf (fun n => hd Tryd.prog tabA.pf tabA.con.run (fun f => (H0 f).to) n 9) h67.to 67 0 none L67 (loopAt Tryd.prog 67 0) := by
  rw [show loopAt Tryd.prog 67 0 = .loop (lbody Tryd.prog 67 0) by kernel_rfl]
  refine loop_con (hdT_le (m := 20) 9) (m := 20) (within_of _ (by rw [show loopsOf (lbody Tryd.prog 67 0) = [] by kernel_rfl]; simp)) (D := D67) (lv := mbits 3 17) (by kernel_rfl)
    (X := List UInt8 × Int) (fun x => ([.str x.1, .int .u8 x.2], [])) o67 (fun _ => True) (fun x => x.1.length) ?_ ?_
  · intro vs hp r h
    unfold D67 at h
    split at h
    · rename_i s c
      simp only [T.run_leaf, Option.some.injEq] at h
      exact ⟨(s, c), rfl, trivial, h.symm⟩
    · cases h
  · rintro ⟨s, c⟩ -
    have ht := r67 s c
    cases s with
    | nil => right; exact ⟨by kernel_rfl, by simp [o67]⟩
    | cons b s =>
      by_cases hb : ((b.toNat : Int) == c) = true
      · left
        refine ⟨(s, c), trivial, by simp, ?_, ?_⟩
        · simp [o67, dropB, List.dropWhile_cons, hb]
        · refine ht.trans ?_
          have h1 : decide ((((b :: s).length : Nat) : Int) > 0) = true := by simp <;> omega
          have h2 : decide ((0 : Int) ≤ 0 ∧ (0 : Int) < (((b :: s).length : Nat) : Int)) = true := by simp <;> omega
          have h3 : ((((b :: s).getD (Int.toNat 0) 0).toNat : Int) == c) = true := hb
          have h4 : decide ((0 : Int) ≤ 1 ∧ (1 : Int) ≤ (((b :: s).length : Nat) : Int)) = true := by simp <;> omega
          rw [h1, h2, h3, h4]
          rfl
      · right
        refine ⟨?_, by simp [o67]⟩
        refine ht.trans ?_
        have h1 : decide ((((b :: s).length : Nat) : Int) > 0) = true := by simp <;> omega
        have h2 : decide ((0 : Int) ≤ 0 ∧ (0 : Int) < (((b :: s).length : Nat) : Int)) = true := by simp <;> omega
        have h3 : ((((b :: s).getD (Int.toNat 0) 0).toNat : Int) == c) = false := by simpa using hb
        rw [h1, h2, h3]
        have : dropB c (b :: s) = b :: s := by simp [dropB, List.dropWhile_cons, hb]
        simp only [o67, this]
        rfl
def c67 : List AV → T AV
  | [.str s, .int .u8 c] => .leaf (.str (dropB c s))
  | _ => .fail
theorem s67 : Sound1 Tryd.prog ⟨67, true, pcon c67⟩ := by
  refine sound_pure okA (hn := h67) (m := 20) (k := 9) (Λ := L67) (fun i hi => ?_) fun args r hF h => ?_
  · rw [show (loopsOf (bodyOf Tryd.prog 67)).length = 1 by kernel_rfl] at hi
    obtain rfl : i = 0 := by omega
    exact l67
  · unfold c67 at h
    split at h
    · simp only [T.run_leaf, Option.some.injEq] at h; subst h
      kernel_rfl
    · cases h
end Go.Deb
namespace Go.Deb
open Go Go.Proofs Go.Ab
set_option linter.unusedVariables false
set_option linter.unusedSimpArgs false

/-! ### functions without a body -/
theorem ext_sound {P : Program} {f : FuncId} {fn : Func} {e : Array Value → Sem Value} (hf : P.funcs[f]? = some fn) (hname : (fn.name == "runtime.NumGoroutine") = false)
    (hb : fn.body.isNone = true) (hn : Extern.findNext fn = none) (he : Extern.find fn = some e) {c : List AV → T AV}
    (h : ∀ args r, (c args).run = some r → ∀ X w σ (vargs : Array Value), VL X w σ args vargs.toList → ∃ v, (e vargs).run P w = .ok v w ∧ V X w σ r v) : Sound1 P ⟨f, true, pcon c⟩ where
  ok args hp r hp' hr X0 σ w vargs hR hV := by
    obtain ⟨h1, h2, h3, rfl, h4⟩ := pcon_run hr
    obtain ⟨v, h5, h6⟩ := h args r h2 _ w σ vargs hV
    refine .inr ⟨v, w, ?_, σ, fun _ _ h => h, ⟨Step.refl _ _, fun _ _ h => h⟩, hR, h6⟩
    rw [run_callFunc_extern hf hname hb hn he, h5]
    rfl
  len args hp r hp' hr := by
    obtain ⟨_, _, _, rfl, _⟩ := pcon_run hr; exact Nat.le_refl _
  pure _ args hp r hp' hr := by
    obtain ⟨_, _, _, rfl, h4⟩ := pcon_run hr; exact ⟨rfl, h4⟩
def c72 : List AV → T AV
  | [.str a, .str b] => .leaf (.int .i64 (Lib.compareBytes a b))
  | _ => .fail
theorem compareBytes_range : ∀ a b : List UInt8, -1 ≤ Lib.compareBytes a b ∧ Lib.compareBytes a b ≤ 1
  | [], [] => by simp [Lib.compareBytes]
  | [], _ :: _ => by simp [Lib.compareBytes]
  | _ :: _, [] => by simp [Lib.compareBytes]
  | a :: x, b :: y => by
    unfold Lib.compareBytes
    split
    · omega
    · split
      · omega
      · exact compareBytes_range x y
theorem s72 : Sound1 Tryd.prog ⟨72, true, pcon c72⟩ := by
  refine ext_sound Tryd.func72 (by kernel_rfl) (by kernel_rfl) (by kernel_rfl) (e := Extern.BytealgCompare.compare) (by kernel_rfl) fun args r hr X w σ vargs hV => ?_
  unfold c72 at hr
  split at hr
  · rename_i a b
    simp only [T.run_leaf, Option.some.injEq] at hr; subst hr
    simp only [VL, V] at hV
    obtain ⟨u, us, h1, ⟨rfl, ha⟩, u2, us2, rfl, ⟨rfl, hb⟩, rfl⟩ := hV
    have : vargs = #[.string ⟨⟨a⟩⟩, .string ⟨⟨b⟩⟩] := by apply Array.ext'; simpa using h1
    subst this
    refine ⟨_, Lib.run_compareString _ _ w, ?_⟩
    simp only [V]
    have := compareBytes_range a b
    refine ⟨trivial, ?_, ?_⟩
    · show IntKind.i64.min ≤ Lib.compareBytes a b
      have : IntKind.i64.min = -9223372036854775808 := rfl
      omega
    · show Lib.compareBytes a b ≤ IntKind.i64.max
      have : IntKind.i64.max = 9223372036854775807 := rfl
      omega
  · cases hr
def c71 : List AV → T AV
  | [.str a, .int .u8 c] => .leaf (.int .i64 (Lib.indexByte a c.toNat.toUInt8))
  | _ => .fail
theorem indexByte_le : ∀ (l : List UInt8) (c : UInt8), Lib.indexByte l c ≤ l.length
  | [], c => by simp [Lib.indexByte]
  | b :: l, c => by
    have := indexByte_le l c
    unfold Lib.indexByte
    split
    · simp; omega
    · split
      · simp; omega
      · simp; omega
theorem s71 : Sound1 Tryd.prog ⟨71, true, pcon c71⟩ := by
  refine ext_sound Tryd.func71 (by kernel_rfl) (by kernel_rfl) (by kernel_rfl) (e := Extern.BytealgIndexByte.indexByte) (by kernel_rfl) fun args r hr X w σ vargs hV => ?_
  unfold c71 at hr
  split at hr
  · rename_i a b
    simp only [T.run_leaf, Option.some.injEq] at hr; subst hr
    simp only [VL, V] at hV
    obtain ⟨u, us, h1, ⟨rfl, ha⟩, u2, us2, rfl, ⟨rfl, hb⟩, rfl⟩ := hV
    have : vargs = #[.string ⟨⟨a⟩⟩, .int .u8 b] := by apply Array.ext'; simpa using h1
    subst this
    refine ⟨_, Lib.run_indexByteString _ _ w, ?_⟩
    simp only [V]
    have h1 := Lib.indexByte_ge a b.toNat.toUInt8
    have h2 := indexByte_le a b.toNat.toUInt8
    simp only [bnd] at ha
    refine ⟨trivial, ?_, ?_⟩
    · show IntKind.i64.min ≤ Lib.indexByte a _
      have : IntKind.i64.min = -9223372036854775808 := rfl
      omega
    · show Lib.indexByte a _ ≤ IntKind.i64.max
      have : IntKind.i64.max = 9223372036854775807 := rfl
      omega
  · cases hr
def tabC : Tab := [⟨72, true, pcon c72⟩, ⟨71, true, pcon c71⟩, ⟨67, true, pcon c67⟩, ⟨31, true, pcon cIs⟩]
theorem okC : SoundTab Tryd.prog tabC := soundTab_of (by
  simp only [tabC, List.mem_cons, List.not_mem_nil, or_false]
  rintro e (rfl | rfl | rfl | rfl)
  · exact s72
  · exact s71
  · exact s67
  · exact s31)
end Go.Deb
namespace Go.Deb

open Go Go.Proofs Go.Ab

set_option linter.unusedVariables false

set_option linter.unusedSimpArgs false

def trimD (d : List UInt8) : List UInt8 := if dropB 48 d = [] then [48] else dropB 48 d

theorem t30 (s : List UInt8) : (evn tabC h30 noLoops 30 [.str s] []).run =
  bif s == [] then
   bif s == [] then
    some ((AV.str [(48 : UInt8)], []))
   else
    some ((AV.str s, []))
  else
   bif dropB (48 : Int) s == [] then
    some ((AV.str [(48 : UInt8)], []))
   else
    some ((AV.str (dropB (48 : Int) s), [])) := by kernel_rfl

def c30 : List AV → T AV
  | [.str d] => .leaf (.str (trimD d))
  | _ => .fail

theorem noLoop {f : FuncId} {Φ : Nat → Prop} (h : (loopsOf (bodyOf Tryd.prog f)).length = 0) : ∀ i, i < (loopsOf (bodyOf Tryd.prog f)).length → Φ i := fun i hi => by omega

theorem s30 : Sound1 Tryd.prog ⟨30, true, pcon c30⟩ := by
  refine sound_pure okC (hn := h30) (m := 20) (k := 9) (Λ := noLoops) (noLoop (by kernel_rfl)) fun args r hF h => ?_
  unfold c30 at h
  split at h
  · rename_i s
    simp only [T.run_leaf, Option.some.injEq] at h; subst h
    refine (t30 s).trans ?_
    simp only [trimD]
    by_cases h1 : s = []
    · subst h1; rfl
    · have h2 : (s == []) = false := by simpa using h1
      rw [h2]
      by_cases h3 : dropB 48 s = []
      · rw [h3]; rfl
      · have h4 : (dropB 48 s == []) = false := by simpa using h3
        rw [h4, if_neg h3]; rfl
  · cases h

def cmpI (x y : Int) : Int := if x < y then -1 else if y < x then 1 else 0

theorem t62 (x y : Int) : (evn tabC h62 noLoops 62 [.int .i64 x, .int .i64 y] []).run =
  bif x != x then
   bif y != y then
    some ((AV.int IntKind.i64 (0 : Int), []))
   else
    some ((AV.int IntKind.i64 (-1 : Int), []))
  else
   bif y != y then
    some ((AV.int IntKind.i64 (1 : Int), []))
   else
    bif decide (x < y) then
     some ((AV.int IntKind.i64 (-1 : Int), []))
    else
     bif decide (x > y) then
      some ((AV.int IntKind.i64 (1 : Int), []))
     else
      some ((AV.int IntKind.i64 (0 : Int), [])) := by kernel_rfl

def c62 : List AV → T AV
  | [.int .i64 x, .int .i64 y] => .leaf (.int .i64 (cmpI x y))
  | _ => .fail

theorem s62 : Sound1 Tryd.prog ⟨62, true, pcon c62⟩ := by
  refine sound_pure okC (hn := h62) (m := 20) (k := 9) (Λ := noLoops) (noLoop (by kernel_rfl)) fun args r hF h => ?_
  unfold c62 at h
  split at h
  · rename_i x y
    simp only [T.run_leaf, Option.some.injEq] at h; subst h
    refine (t62 x y).trans ?_
    simp only [cmpI, Bool.cond_eq_ite]
    (repeat' split) <;> grind
  · cases h

def tabD : Tab := [⟨30, true, pcon c30⟩, ⟨62, true, pcon c62⟩, ⟨72, true, pcon c72⟩, ⟨71, true, pcon c71⟩, ⟨67, true, pcon c67⟩, ⟨31, true, pcon cIs⟩]

theorem okD : SoundTab Tryd.prog tabD := soundTab_of (by
  simp only [tabD, List.mem_cons, List.not_mem_nil, or_false]
  rintro e (rfl | rfl | rfl | rfl | rfl | rfl)
  · exact s30
  · exact s62
  · exact s72
  · exact s71
  · exact s67
  · exact s31)

theorem t41 (a b : List UInt8) : (evn tabD h41 noLoops 41 [.str a, .str b] []).run =
  bif cmpI (↑(trimD a).length : Int) (↑(trimD b).length : Int) != (0 : Int) then
   some ((AV.int IntKind.i64 (cmpI (↑(trimD a).length : Int) (↑(trimD b).length : Int)), []))
  else
   bif Lib.compareBytes (trimD a) (trimD b) != (0 : Int) then
    some ((AV.int IntKind.i64 (Lib.compareBytes (trimD a) (trimD b)), []))
   else
    some ((AV.int IntKind.i64 (0 : Int), [])) := by kernel_rfl

def cmpD (a b : List UInt8) : Int := if cmpI (trimD a).length (trimD b).length ≠ 0 then cmpI (trimD a).length (trimD b).length else Lib.compareBytes (trimD a) (trimD b)

def c41 : List AV → T AV
  | [.str a, .str b] => .leaf (.int .i64 (cmpD a b))
  | _ => .fail

theorem s41 : Sound1 Tryd.prog ⟨41, true, pcon c41⟩ := by
  refine sound_pure okD (hn := h41) (m := 20) (k := 9) (Λ := noLoops) (noLoop (by kernel_rfl)) fun args r hF h => ?_
  unfold c41 at h
  split at h
  · rename_i x y
    simp only [T.run_leaf, Option.some.injEq] at h; subst h
    refine (t41 x y).trans ?_
    simp only [cmpD, Bool.cond_eq_ite]
    (repeat' split) <;> grind
  · cases h

end Go.Deb
namespace Go.Deb

open Go Go.Proofs Go.Ab

set_option linter.unusedVariables false

set_option linter.unusedSimpArgs false

theorem w64 {n : Int} (h1 : -9223372036854775808 ≤ n) (h2 : n < 9223372036854775808) : IntKind.i64.wrap n = n := by
  rw [IntKind.wrap_i64]; omega

def digB (b : UInt8) : Bool := dig (b.toNat : Int)

def runL (l : List UInt8) : Nat := (l.takeWhile digB).length

def runX (s : List UInt8) (a i : Int) : Nat := runL (s.drop (a + i).toNat)

def oA28 (s : List UInt8) (a i : Int) : AX × St := (.ret, { tm := tmOf 38 [(6, .int .i64 (a + i + runX s a i))], ms := [], hp := [] })

def oB28 (s : List UInt8) (a i : Int) : AX × St := (.exit 0, { tm := tmOf 38 [(0, AV.str s), (1, .int .i64 a), (2, .int .i64 1), (20, .int .i64 ((s.length : Int) - a)), (21, .int .i64 ((s.length : Int) - a)), (22, .bool false)], ms := [], hp := [] })

def o28 (x : List UInt8 × Int × Int) : AX × St := if x.2.1 + x.2.2 + runX x.1 x.2.1 x.2.2 < x.1.length then oA28 x.1 x.2.1 x.2.2 else oB28 x.1 x.2.1 x.2.2

def p28 (x : List UInt8 × Int × Int) : Prop := 0 ≤ x.2.1 ∧ 0 ≤ x.2.2 ∧ x.2.1 + x.2.2 ≤ x.1.length ∧ x.1.length ≤ bnd

def e28 (x : List UInt8 × Int × Int) : List AV × Hp := ([.str x.1, .int .i64 x.2.1, .int .i64 1, .int .i64 ((x.1.length : Int) - x.2.1), .int .i64 x.2.2], [])

def D28 : List AV → Hp → T (AX × St)
  | [.str s, .int .i64 a, .int .i64 k, .int .i64 n, .int .i64 i], [] => .chk (decide (k = 1 ∧ n = (s.length : Int) - a ∧ 0 ≤ a ∧ 0 ≤ i ∧ a + i ≤ s.length ∧ s.length ≤ bnd))
    (.br (decide (a + i + runX s a i < s.length)) (.leaf (oA28 s a i)) (.leaf (oB28 s a i)))
  | _, _ => .fail

def L28 : LoopT := fun k => match Nat.beq k 400035 with
  | true => some (lcon (mbits 3145735 38) D28)
  | false => none

theorem r28 (s : List UInt8) (a i n : Int) : (rdn tabD h28 L28 28 0 0 { tm := encGo (mbits 3145735 38) [.str s, .int .i64 a, .int .i64 1, .int .i64 n, .int .i64 i], ms := [], hp := [] }).run =
  bif decide (i < n) then
   bif decide ((0 : Int) ≤ IntKind.i64.wrap (a + i) ∧ IntKind.i64.wrap (a + i) < (↑s.length : Int)) then
    bif !isC (1 : Int) (↑(s.getD (IntKind.i64.wrap (a + i)).toNat (0 : UInt8)).toNat : Int) then
     some ((AX.ret, { tm := tmOf 38 [(6, AV.int IntKind.i64 (IntKind.i64.wrap (a + i)))], ms := [], hp := [] }))
    else
     some ((AX.normal, { tm := tmOf 38 [(0, AV.str s), (1, AV.int IntKind.i64 a), (2, AV.int IntKind.i64 (1 : Int)), (20, AV.int IntKind.i64 n), (21, AV.int IntKind.i64 (IntKind.i64.wrap (i + (1 : Int))))], ms := [], hp := [] }))
   else
    none
  else
   some ((AX.exit 0, { tm := tmOf 38 [(0, AV.str s), (1, AV.int IntKind.i64 a), (2, AV.int IntKind.i64 (1 : Int)), (20, AV.int IntKind.i64 n), (21, AV.int IntKind.i64 i), (22, AV.bool false)], ms := [], hp := [] })) := by kernel_rfl

theorem drop_cons {s : List UInt8} {k : Nat} (h : k < s.length) : s.drop k = s.getD k 0 :: s.drop (k + 1) := by
  rw [List.drop_eq_getElem_cons h, List.getD_eq_getElem?_getD, List.getElem?_eq_getElem h]; rfl

theorem runL_le : ∀ (l : List UInt8), runL l ≤ l.length
  | [] => by simp [runL]
  | b :: l => by
    have := runL_le l
    simp only [runL, List.takeWhile_cons] at this ⊢
    split <;> simp <;> omega

theorem runX_lt {s : List UInt8} {a i : Int} (h0 : 0 ≤ a + i) (h : a + i < s.length) : runX s a i = if dig ((s.getD (a + i).toNat 0).toNat : Int) = true then runX s a (i + 1) + 1 else 0 := by
  unfold runX runL
  have e : (a + (i + 1)).toNat = (a + i).toNat + 1 := by omega
  rw [drop_cons (k := (a + i).toNat) (by omega), e, List.takeWhile_cons]
  have hd : digB (s.getD (a + i).toNat 0) = dig ((s.getD (a + i).toNat 0).toNat : Int) := rfl
  rw [hd]
  cases dig ((s.getD (a + i).toNat 0).toNat : Int) <;> rfl

theorem runX_end {s : List UInt8} {a i : Int} (h0 : 0 ≤ a + i) (h : a + i = s.length) : runX s a i = 0 := by
  unfold runX runL
  rw [List.drop_of_length_le (by omega)]; rfl

theorem l28 : LoopOk Tryd.prog tabD.pf (fun n => hd Tryd.prog tabD.pf tabD.con.run (fun f => (H0 f).to) n 9) h28.to 28 0 none L28 (loopAt Tryd.prog 28 0) := by
  rw [show loopAt Tryd.prog 28 0 = .loop (lbody Tryd.prog 28 0) by kernel_rfl]
  refine loop_con (hdT_le (m := 20) 9) (m := 20) (within_of _ (by rw [show loopsOf (lbody Tryd.prog 28 0) = [] by kernel_rfl]; simp)) (D := D28) (lv := mbits 3145735 38) (by kernel_rfl)
    e28 o28 p28 (fun x => ((x.1.length : Int) - x.2.1 - x.2.2).toNat) ?_ ?_
  · intro vs hp r h
    unfold D28 at h
    split at h
    · rename_i s a k n i
      rw [T.run_chk] at h
      split at h
      · rename_i hc
        simp only [decide_eq_true_eq] at hc
        obtain ⟨rfl, rfl, h1, h2, h3, h4⟩ := hc
        refine ⟨(s, a, i), rfl, ⟨h1, h2, h3, h4⟩, ?_⟩
        rw [run_brd] at h
        simp only [T.run_leaf] at h
        unfold o28
        split at h
        · rename_i hlt; rw [if_pos hlt]; injection h with h; exact h.symm
        · rename_i hlt; rw [if_neg hlt]; injection h with h; exact h.symm
      · cases h
    · cases h
  · rintro ⟨s, a, i⟩ ⟨h1, h2, h3, h4⟩
    simp only at h1 h2 h3 h4
    simp only [bnd] at h4
    have ht := r28 s a i ((s.length : Int) - a)
    have hw : IntKind.i64.wrap (a + i) = a + i := w64 (by omega) (by omega)
    have hw2 : IntKind.i64.wrap (i + 1) = i + 1 := w64 (by omega) (by omega)
    rw [hw, hw2] at ht
    by_cases hlt : a + i < s.length
    · have c1 : decide (i < (s.length : Int) - a) = true := by simp; omega
      have c2 : decide (0 ≤ a + i ∧ a + i < (s.length : Int)) = true := by simp; omega
      rw [c1, c2] at ht
      have hr := runX_lt (s := s) (a := a) (i := i) (by omega) hlt
      cases hd : dig ((s.getD (a + i).toNat 0).toNat : Int) with
      | true =>
        rw [if_pos hd] at hr
        left
        refine ⟨(s, a, i + 1), ⟨h1, by simp only; omega, by simp only; omega, by simp only [bnd]; omega⟩, by simp only; omega, ?_, ?_⟩
        · simp only [o28, hr]
          have e1 : a + (i + 1) + (runX s a (i + 1) : Int) = a + i + ((runX s a (i + 1) + 1 : Nat) : Int) := by omega
          rw [e1]
          simp only [oA28, oB28, hr, e1]
        · refine ht.trans ?_
          simp only [isC, if_true, hd]
          rfl
      | false =>
        rw [if_neg (by rw [hd]; simp)] at hr
        right
        simp only [o28, hr]
        rw [if_pos (by omega)]
        refine ⟨?_, by simp [oA28]⟩
        refine ht.trans ?_
        simp only [isC, if_true, hd]
        simp only [oA28, hr, Int.natCast_zero, Int.add_zero]
        rfl
    · have hn : a + i = s.length := by omega
      have hi : i = (s.length : Int) - a := by omega
      have c1 : decide (i < (s.length : Int) - a) = false := by simp; omega
      rw [c1] at ht
      right
      simp only [o28, runX_end (s := s) (a := a) (i := i) (by omega) hn]
      rw [if_neg (by omega)]
      refine ⟨?_, by simp [oB28]⟩
      refine ht.trans ?_
      simp only [oB28]
      rw [hi]
      rfl

theorem t28 (s : List UInt8) (a : Int) : (evn tabD h28 L28 28 [.str s, .int .i64 a, .int .i64 1] []).run =
  bif decide (a < (0 : Int)) then
   some ((AV.int IntKind.i64 a, []))
  else
   bif decide (a > (↑s.length : Int)) then
    some ((AV.int IntKind.i64 a, []))
   else
    bif decide ((1 : Int) = (1 : Int) ∧ IntKind.i64.wrap ((↑s.length : Int) - a) = (↑s.length : Int) - a ∧ (0 : Int) ≤ a ∧ (0 : Int) ≤ (0 : Int) ∧ a + (0 : Int) ≤ (↑s.length : Int) ∧ s.length ≤ 4611686018427387903) then
     bif decide (a + (0 : Int) + (↑(runX s a (0 : Int)) : Int) < (↑s.length : Int)) then
      some ((AV.int IntKind.i64 (a + (0 : Int) + (↑(runX s a (0 : Int)) : Int)), []))
     else
      some ((AV.int IntKind.i64 (↑s.length : Int), []))
    else
     none := by kernel_rfl

def runD (s : List UInt8) (a : Int) : Int := if a < 0 ∨ a > s.length then a else a + runL (s.drop a.toNat)

def c28 : List AV → T AV
  | [.str s, .int .i64 a, .int .i64 k] => .chk (decide (k = 1)) (.leaf (.int .i64 (runD s a)))
  | _ => .fail

theorem oneLoop {f : FuncId} {Φ : Nat → Prop} (h : (loopsOf (bodyOf Tryd.prog f)).length = 1) (h0 : Φ 0) : ∀ i, i < (loopsOf (bodyOf Tryd.prog f)).length → Φ i := fun i hi => by
  obtain rfl : i = 0 := by omega
  exact h0

theorem s28 : Sound1 Tryd.prog ⟨28, true, pcon c28⟩ := by
  refine sound_pure okD (hn := h28) (m := 20) (k := 9) (Λ := L28) (oneLoop (by kernel_rfl) l28) fun args r hF h => ?_
  unfold c28 at h
  split at h
  · rename_i s a k
    rw [T.run_chk] at h
    split at h
    · rename_i hk
      obtain rfl : k = 1 := by simpa using hk
      simp only [T.run_leaf, Option.some.injEq] at h; subst h
      have hb : s.length ≤ bnd := hF.1
      simp only [bnd] at hb
      refine (t28 s a).trans ?_
      unfold runD
      by_cases h1 : a < 0
      · rw [if_pos (.inl h1)]
        simp only [h1, decide_true, cond_true]
      · by_cases h2 : a > s.length
        · rw [if_pos (.inr h2)]
          simp only [h1, h2, decide_true, decide_false, cond_true, cond_false]
        · rw [if_neg (by omega)]
          have hw : IntKind.i64.wrap ((s.length : Int) - a) = (s.length : Int) - a := w64 (by omega) (by omega)
          simp only [h1, h2, decide_false, cond_false, hw]
          have e : runX s a 0 = runL (s.drop a.toNat) := by simp [runX]
          have hle := runL_le (s.drop a.toNat)
          simp only [List.length_drop] at hle
          simp only [bnd, e, Bool.cond_eq_ite, decide_eq_true_eq]
          (repeat' split) <;> grind
    · cases h
  · cases h

end Go.Deb
namespace Go.Deb

open Go Go.Proofs Go.Ab

set_option linter.unusedVariables false

set_option linter.unusedSimpArgs false

def tabE : Tab := [⟨28, true, pcon c28⟩, ⟨41, true, pcon c41⟩, ⟨30, true, pcon c30⟩, ⟨62, true, pcon c62⟩, ⟨72, true, pcon c72⟩, ⟨71, true, pcon c71⟩, ⟨67, true, pcon c67⟩, ⟨31, true, pcon cIs⟩]

theorem okE : SoundTab Tryd.prog tabE := soundTab_of (by
  simp only [tabE, List.mem_cons, List.not_mem_nil, or_false]
  rintro e (rfl | rfl | rfl | rfl | rfl | rfl | rfl | rfl)
  · exact s28
  · exact s41
  · exact s30
  · exact s62
  · exact s72
  · exact s71
  · exact s67
  · exact s31)

def upB (colon dash : Bool) (c : Int) : Bool := alnum c || c == 46 || c == 43 || c == 126 || c == 58 && colon || c == 45 && dash

theorem t33 (c : Int) (x y : Bool) : (evn tabE h33 noLoops 33 [.int .u8 c, .bool x, .bool y] []).run =
  bif isC (5 : Int) c then
   some ((AV.bool true, []))
  else
   bif c == (46 : Int) then
    some ((AV.bool true, []))
   else
    bif c == (43 : Int) then
     some ((AV.bool true, []))
    else
     bif c == (126 : Int) then
      some ((AV.bool true, []))
     else
      bif c == (58 : Int) then
       bif x then
        some ((AV.bool true, []))
       else
        bif c == (45 : Int) then
         some ((AV.bool y, []))
        else
         some ((AV.bool false, []))
      else
       bif c == (45 : Int) then
        some ((AV.bool y, []))
       else
        some ((AV.bool false, [])) := by kernel_rfl

def c33 : List AV → T AV
  | [.int .u8 c, .bool x, .bool y] => .leaf (.bool (upB x y c))
  | _ => .fail

theorem s33 : Sound1 Tryd.prog ⟨33, true, pcon c33⟩ := by
  refine sound_pure okE (hn := h33) (m := 20) (k := 9) (Λ := noLoops) (noLoop (by kernel_rfl)) fun args r hF h => ?_
  unfold c33 at h
  split at h
  · rename_i c x y
    simp only [T.run_leaf, Option.some.injEq] at h; subst h
    refine (t33 c x y).trans ?_
    have e : isC 5 c = alnum c := by simp [isC]
    simp only [upB, Bool.cond_eq_ite, e]
    (repeat' split) <;> grind
  · cases h

theorem t42 (c : Int) : (evn tabE h42 noLoops 42 [.int .u8 c] []).run =
  bif isC (5 : Int) c then
   some ((AV.bool true, []))
  else
   bif c == (46 : Int) then
    some ((AV.bool true, []))
   else
    bif c == (43 : Int) then
     some ((AV.bool true, []))
    else
     bif c == (126 : Int) then
      some ((AV.bool true, []))
     else
      bif c == (58 : Int) then
       bif c == (45 : Int) then
        some ((AV.bool false, []))
       else
        some ((AV.bool false, []))
      else
       bif c == (45 : Int) then
        some ((AV.bool false, []))
       else
        some ((AV.bool false, [])) := by kernel_rfl

def c42 : List AV → T AV
  | [.int .u8 c] => .leaf (.bool (upB false false c))
  | _ => .fail

theorem s42 : Sound1 Tryd.prog ⟨42, true, pcon c42⟩ := by
  refine sound_pure okE (hn := h42) (m := 20) (k := 9) (Λ := noLoops) (noLoop (by kernel_rfl)) fun args r hF h => ?_
  unfold c42 at h
  split at h
  · rename_i c
    simp only [T.run_leaf, Option.some.injEq] at h; subst h
    refine (t42 c).trans ?_
    have e : isC 5 c = alnum c := by simp [isC]
    simp only [upB, Bool.cond_eq_ite, e]
    (repeat' split) <;> grind
  · cases h

def verAV (e u r : List UInt8) : AV := .agg [.str e, .str u, .str r]

def fltAV (e a : Int) : AV := .agg [.int .i64 e, .int .i64 a]

def wrongAt (s : List UInt8) (a : Int) : Int × Int := if a ≥ s.length then (11, s.length) else (10, a)

theorem t29 (s : List UInt8) (a : Int) : (evn tabE h29 noLoops 29 [.str s, .int .i64 a] []).run =
  bif decide (a ≥ (↑s.length : Int)) then
   some ((AV.tup [AV.agg [AV.str [], AV.str [], AV.str []], AV.agg [AV.int IntKind.i64 (11 : Int), AV.int IntKind.i64 (↑s.length : Int)]], []))
  else
   some ((AV.tup [AV.agg [AV.str [], AV.str [], AV.str []], AV.agg [AV.int IntKind.i64 (10 : Int), AV.int IntKind.i64 a]], [])) := by kernel_rfl

def c29 : List AV → T AV
  | [.str s, .int .i64 a] => .leaf (.tup [verAV [] [] [], fltAV (wrongAt s a).1 (wrongAt s a).2])
  | _ => .fail

theorem s29 : Sound1 Tryd.prog ⟨29, true, pcon c29⟩ := by
  refine sound_pure okE (hn := h29) (m := 20) (k := 9) (Λ := noLoops) (noLoop (by kernel_rfl)) fun args r hF h => ?_
  unfold c29 at h
  split at h
  · rename_i s a
    simp only [T.run_leaf, Option.some.injEq] at h; subst h
    refine (t29 s a).trans ?_
    simp only [wrongAt, verAV, fltAV, Bool.cond_eq_ite]
    (repeat' split) <;> grind
  · cases h

theorem t36 (b : Bool) : (evn tabE h36 noLoops 36 [.bool b] []).run =
  bif b then
   some ((AV.int IntKind.i64 (1 : Int), []))
  else
   some ((AV.int IntKind.i64 (0 : Int), [])) := by kernel_rfl

def truthZ (b : Bool) : Int := if b then 1 else 0

def c36 : List AV → T AV
  | [.bool b] => .leaf (.int .i64 (truthZ b))
  | _ => .fail

theorem s36 : Sound1 Tryd.prog ⟨36, true, pcon c36⟩ := by
  refine sound_pure okE (hn := h36) (m := 20) (k := 9) (Λ := noLoops) (noLoop (by kernel_rfl)) fun args r hF h => ?_
  unfold c36 at h
  split at h
  · rename_i b
    simp only [T.run_leaf, Option.some.injEq] at h; subst h
    refine (t36 b).trans ?_
    cases b <;> rfl
  · cases h

theorem t60 (n : Int) : (evn tabE h60 noLoops 60 [.int .i64 n] []).run =
  some ((AV.int IntKind.i64 (if true = true then if (-1 : Int) > if false = true then if (1 : Int) > n then (1 : Int) else n else if (1 : Int) < n then (1 : Int) else n then (-1 : Int) else if false = true then if (1 : Int) > n then (1 : Int) else n else if (1 : Int) < n then (1 : Int) else n else if (-1 : Int) < if false = true then if (1 : Int) > n then (1 : Int) else n else if (1 : Int) < n then (1 : Int) else n then (-1 : Int) else if false = true then if (1 : Int) > n then (1 : Int) else n else if (1 : Int) < n then (1 : Int) else n), [])) := by kernel_rfl

def signZ (n : Int) : Int := if n > 0 then 1 else if n < 0 then -1 else 0

def c60 : List AV → T AV
  | [.int .i64 n] => .leaf (.int .i64 (signZ n))
  | _ => .fail

theorem s60 : Sound1 Tryd.prog ⟨60, true, pcon c60⟩ := by
  refine sound_pure okE (hn := h60) (m := 20) (k := 9) (Λ := noLoops) (noLoop (by kernel_rfl)) fun args r hF h => ?_
  unfold c60 at h
  split at h
  · rename_i n
    simp only [T.run_leaf, Option.some.injEq] at h; subst h
    refine (t60 n).trans ?_
    simp only [signZ]
    grind
  · cases h

def wtB (c : Int) : Int := if c = 126 then -1 else if let_ c = true then c else 256 + c

def wt (s : List UInt8) (i : Int) : Int := if i ≥ s.length then 0 else wtB (s.getD i.toNat 0).toNat

theorem t59 (s : List UInt8) (a : Int) : (evn tabE h59 noLoops 59 [.str s, .int .i64 a] []).run =
  bif decide (a ≥ (↑s.length : Int)) then
   some ((AV.int IntKind.i64 (0 : Int), []))
  else
   bif decide ((0 : Int) ≤ a ∧ a < (↑s.length : Int)) then
    bif (↑(s.getD a.toNat (0 : UInt8)).toNat : Int) == (126 : Int) then
     some ((AV.int IntKind.i64 (-1 : Int), []))
    else
     bif decide ((0 : Int) ≤ a ∧ a < (↑s.length : Int)) then
      bif isC (4 : Int) (↑(s.getD a.toNat (0 : UInt8)).toNat : Int) then
       bif decide ((0 : Int) ≤ a ∧ a < (↑s.length : Int)) then
        some ((AV.int IntKind.i64 (IntKind.i64.wrap (↑(s.getD a.toNat (0 : UInt8)).toNat : Int)), []))
       else
        none
      else
       bif decide ((0 : Int) ≤ a ∧ a < (↑s.length : Int)) then
        some ((AV.int IntKind.i64 (IntKind.i64.wrap ((256 : Int) + IntKind.i64.wrap (↑(s.getD a.toNat (0 : UInt8)).toNat : Int))), []))
       else
        none
     else
      none
   else
    none := by kernel_rfl

def c59 : List AV → T AV
  | [.str s, .int .i64 a] => .chk (decide (0 ≤ a)) (.leaf (.int .i64 (wt s a)))
  | _ => .fail

theorem s59 : Sound1 Tryd.prog ⟨59, true, pcon c59⟩ := by
  refine sound_pure okE (hn := h59) (m := 20) (k := 9) (Λ := noLoops) (noLoop (by kernel_rfl)) fun args r hF h => ?_
  unfold c59 at h
  split at h
  · rename_i s a
    rw [T.run_chk] at h
    split at h
    · rename_i hk
      simp only [decide_eq_true_eq] at hk
      simp only [T.run_leaf, Option.some.injEq] at h; subst h
      refine (t59 s a).trans ?_
      have hb := (s.getD a.toNat 0).toNat_lt
      have w1 : IntKind.i64.wrap ((s.getD a.toNat 0).toNat : Int) = (s.getD a.toNat 0).toNat := w64 (by omega) (by omega)
      have w2 : IntKind.i64.wrap (256 + ((s.getD a.toNat 0).toNat : Int)) = 256 + (s.getD a.toNat 0).toNat := w64 (by omega) (by omega)
      have e : isC 4 ((s.getD a.toNat 0).toNat : Int) = let_ ((s.getD a.toNat 0).toNat : Int) := by simp [isC]
      simp only [w1, w2, e, wt, wtB, Bool.cond_eq_ite]
      (repeat' split) <;> grind
    · cases h
  · cases h

end Go.Deb
namespace Go.Deb

open Go Go.Proofs Go.Ab

set_option linter.unusedVariables false

set_option linter.unusedSimpArgs false

def tabF : Tab := [⟨59, true, pcon c59⟩, ⟨60, true, pcon c60⟩, ⟨36, true, pcon c36⟩, ⟨29, true, pcon c29⟩, ⟨42, true, pcon c42⟩, ⟨33, true, pcon c33⟩, ⟨28, true, pcon c28⟩, ⟨41, true, pcon c41⟩, ⟨30, true, pcon c30⟩, ⟨62, true, pcon c62⟩, ⟨72, true, pcon c72⟩, ⟨71, true, pcon c71⟩, ⟨67, true, pcon c67⟩, ⟨31, true, pcon cIs⟩]

theorem okF : SoundTab Tryd.prog tabF := soundTab_of (by
  simp only [tabF, List.mem_cons, List.not_mem_nil, or_false]
  rintro e (rfl | rfl | rfl | rfl | rfl | rfl | rfl | rfl | rfl | rfl | rfl | rfl | rfl | rfl)
  · exact s59
  · exact s60
  · exact s36
  · exact s29
  · exact s42
  · exact s33
  · exact s28
  · exact s41
  · exact s30
  · exact s62
  · exact s72
  · exact s71
  · exact s67
  · exact s31)

/-! ### deb.plain -/

def hdW : List UInt8 → Int
  | [] => 0
  | c :: _ => wtB (c.toNat : Int)

def plainL (fuel : Nat) (a b : List UInt8) : Int := match fuel with
  | 0 => 0
  | n + 1 => if hdW a - hdW b ≠ 0 then signZ (hdW a - hdW b) else plainL n a.tail b.tail

def plainX (a b : List UInt8) (i : Int) : Int := plainL ((max a.length b.length) - i.toNat) (a.drop i.toNat) (b.drop i.toNat)

def mx (a b : List UInt8) : Int := if (b.length : Int) > (a.length : Int) then (b.length : Int) else (a.length : Int)

def oA40 (a b : List UInt8) (i : Int) : AX × St := (.ret, { tm := tmOf 27 [(4, .int .i64 (plainX a b i))], ms := [], hp := [] })

def oB40 (a b : List UInt8) : AX × St := (.exit 0, { tm := tmOf 27 [(0, AV.str a), (1, AV.str b), (11, .int .i64 (mx a b)), (12, .int .i64 (mx a b)), (13, .bool false)], ms := [], hp := [] })

def o40 (x : List UInt8 × List UInt8 × Int) : AX × St := if plainX x.1 x.2.1 x.2.2 = 0 then oB40 x.1 x.2.1 else oA40 x.1 x.2.1 x.2.2

def p40 (x : List UInt8 × List UInt8 × Int) : Prop := 0 ≤ x.2.2 ∧ x.2.2 ≤ mx x.1 x.2.1 ∧ x.1.length ≤ bnd ∧ x.2.1.length ≤ bnd

def e40 (x : List UInt8 × List UInt8 × Int) : List AV × Hp := ([.str x.1, .str x.2.1, .int .i64 (mx x.1 x.2.1), .int .i64 x.2.2], [])

def D40 : List AV → Hp → T (AX × St)
  | [.str a, .str b, .int .i64 n, .int .i64 i], [] => .chk (decide (n = mx a b ∧ 0 ≤ i ∧ i ≤ mx a b ∧ a.length ≤ bnd ∧ b.length ≤ bnd))
    (.br (decide (plainX a b i = 0)) (.leaf (oB40 a b)) (.leaf (oA40 a b i)))
  | _, _ => .fail

def L40 : LoopT := fun k => match Nat.beq k 200038 with
  | true => some (lcon (mbits 6147 27) D40)
  | false => none

theorem r40 (a b : List UInt8) (n i : Int) : (rdn tabF h40 L40 40 0 0 { tm := encGo (mbits 6147 27) [.str a, .str b, .int .i64 n, .int .i64 i], ms := [], hp := [] }).run =
  bif decide (i < n) then
   bif decide ((0 : Int) ≤ i) then
    bif decide ((0 : Int) ≤ i) then
     bif IntKind.i64.wrap (wt a i - wt b i) != (0 : Int) then
      some ((AX.ret, { tm := tmOf 27 [(4, AV.int IntKind.i64 (signZ (IntKind.i64.wrap (wt a i - wt b i))))], ms := [], hp := [] }))
     else
      some ((AX.normal, { tm := tmOf 27 [(0, AV.str a), (1, AV.str b), (11, AV.int IntKind.i64 n), (12, AV.int IntKind.i64 (IntKind.i64.wrap (i + (1 : Int))))], ms := [], hp := [] }))
    else
     none
   else
    none
  else
   some ((AX.exit 0, { tm := tmOf 27 [(0, AV.str a), (1, AV.str b), (11, AV.int IntKind.i64 n), (12, AV.int IntKind.i64 i), (13, AV.bool false)], ms := [], hp := [] })) := by kernel_rfl

theorem hdW_drop (s : List UInt8) (i : Int) (h : 0 ≤ i) : hdW (s.drop i.toNat) = wt s i := by
  unfold wt
  by_cases hi : i ≥ s.length
  · rw [if_pos hi, List.drop_of_length_le (by omega)]; rfl
  · rw [if_neg hi, drop_cons (by omega)]; rfl

theorem wtB_range (c : UInt8) : -1 ≤ wtB (c.toNat : Int) ∧ wtB (c.toNat : Int) ≤ 511 := by
  have := c.toNat_lt
  unfold wtB
  (repeat' split) <;> omega

theorem wt_range (s : List UInt8) (i : Int) : -1 ≤ wt s i ∧ wt s i ≤ 511 := by
  unfold wt
  split
  · omega
  · exact wtB_range _

theorem plainX_step {a b : List UInt8} {i : Int} (h0 : 0 ≤ i) (h : i < mx a b) : plainX a b i = if wt a i - wt b i ≠ 0 then signZ (wt a i - wt b i) else plainX a b (i + 1) := by
  have hm : i.toNat < max a.length b.length := by unfold mx at h; split at h <;> omega
  unfold plainX
  have e : max a.length b.length - i.toNat = (max a.length b.length - (i + 1).toNat) + 1 := by omega
  rw [e]
  simp only [plainL]
  rw [hdW_drop a i h0, hdW_drop b i h0]
  have e2 : (i + 1).toNat = i.toNat + 1 := by omega
  rw [e2, List.tail_drop, List.tail_drop]

theorem plainX_end {a b : List UInt8} {i : Int} (h : ¬ i < mx a b) : plainX a b i = 0 := by
  have hm : max a.length b.length - i.toNat = 0 := by unfold mx at h; split at h <;> omega
  unfold plainX
  rw [hm]; rfl

theorem signZ_ne {n : Int} (h : n ≠ 0) : signZ n ≠ 0 := by unfold signZ; (repeat' split) <;> omega

theorem l40 : LoopOk Tryd.prog tabF.pf (fun n => hd Tryd.prog tabF.pf tabF.con.run (fun f => (H0 f).to) n 9) h40.to 40 0 none L40 (loopAt Tryd.prog 40 0) := by
  rw [show loopAt Tryd.prog 40 0 = .loop (lbody Tryd.prog 40 0) by kernel_rfl]
  refine loop_con (hdT_le (m := 20) 9) (m := 20) (within_of _ (by rw [show loopsOf (lbody Tryd.prog 40 0) = [] by kernel_rfl]; simp)) (D := D40) (lv := mbits 6147 27) (by kernel_rfl)
    e40 o40 p40 (fun x => (mx x.1 x.2.1 - x.2.2).toNat) ?_ ?_
  · intro vs hp r h
    unfold D40 at h
    split at h
    · rename_i a b n i
      rw [T.run_chk] at h
      split at h
      · rename_i hc
        simp only [decide_eq_true_eq] at hc
        obtain ⟨rfl, h1, h2, h3, h4⟩ := hc
        refine ⟨(a, b, i), rfl, ⟨h1, h2, h3, h4⟩, ?_⟩
        rw [run_brd] at h
        simp only [T.run_leaf] at h
        unfold o40
        split at h
        · rename_i hlt; rw [if_pos hlt]; injection h with h; exact h.symm
        · rename_i hlt; rw [if_neg hlt]; injection h with h; exact h.symm
      · cases h
    · cases h
  · rintro ⟨a, b, i⟩ ⟨h1, h2, h3, h4⟩
    simp only at h1 h2 h3 h4
    simp only [bnd] at h3 h4
    have hmx : mx a b ≤ 4611686018427387903 := by unfold mx; split <;> omega
    have ht := r40 a b (mx a b) i
    have ha := wt_range a i
    have hb := wt_range b i
    have hw : IntKind.i64.wrap (wt a i - wt b i) = wt a i - wt b i := w64 (by omega) (by omega)
    have hw2 : IntKind.i64.wrap (i + 1) = i + 1 := w64 (by omega) (by omega)
    rw [hw, hw2] at ht
    by_cases hlt : i < mx a b
    · have hs := plainX_step h1 hlt
      have c0 : decide (0 ≤ i) = true := by simpa using h1
      simp only [hlt, c0, decide_true, cond_true] at ht
      by_cases hz : wt a i - wt b i = 0
      · rw [if_neg (by simpa using hz)] at hs
        have hz' : (wt a i - wt b i != 0) = false := by simpa using hz
        rw [hz'] at ht
        left
        refine ⟨(a, b, i + 1), ⟨by simp only; omega, by simp only; omega, by simp only [bnd]; omega, by simp only [bnd]; omega⟩, by simp only; omega, ?_, ?_⟩
        · simp only [o40, oA40, hs]
        · exact ht.trans rfl
      · rw [if_pos hz] at hs
        have hz' : (wt a i - wt b i != 0) = true := by simpa using hz
        rw [hz'] at ht
        right
        have hne : plainX a b i ≠ 0 := by rw [hs]; exact signZ_ne hz
        simp only [o40, if_neg hne, oA40]
        refine ⟨?_, by simp⟩
        rw [hs]
        exact ht.trans rfl
    · have hi : i = mx a b := by omega
      right
      simp only [o40, if_pos (plainX_end hlt), oB40]
      refine ⟨?_, by simp⟩
      simp only [hlt, decide_false, cond_false] at ht
      refine ht.trans ?_
      rw [hi]

theorem t40 (a b : List UInt8) : (evn tabF h40 L40 40 [.str a, .str b] []).run =
  bif decide ((if true = true then if (↑b.length : Int) > (↑a.length : Int) then (↑b.length : Int) else (↑a.length : Int) else if (↑b.length : Int) < (↑a.length : Int) then (↑b.length : Int) else (↑a.length : Int)) = mx a b ∧ (0 : Int) ≤ (0 : Int) ∧ (0 : Int) ≤ mx a b ∧ a.length ≤ 4611686018427387903 ∧ b.length ≤ 4611686018427387903) then
   bif decide (plainX a b (0 : Int) = (0 : Int)) then
    some ((AV.int IntKind.i64 (0 : Int), []))
   else
    some ((AV.int IntKind.i64 (plainX a b (0 : Int)), []))
  else
   none := by kernel_rfl

def plainD (a b : List UInt8) : Int := plainL (max a.length b.length) a b

def c40 : List AV → T AV
  | [.str a, .str b] => .leaf (.int .i64 (plainD a b))
  | _ => .fail

theorem s40 : Sound1 Tryd.prog ⟨40, true, pcon c40⟩ := by
  refine sound_pure okF (hn := h40) (m := 20) (k := 9) (Λ := L40) (oneLoop (by kernel_rfl) l40) fun args r hF h => ?_
  unfold c40 at h
  split at h
  · rename_i a b
    simp only [T.run_leaf, Option.some.injEq] at h; subst h
    have ha : a.length ≤ bnd := hF.1
    have hb : b.length ≤ bnd := hF.2.1
    simp only [bnd] at ha hb
    refine (t40 a b).trans ?_
    have e : plainX a b 0 = plainD a b := by simp [plainX, plainD]
    simp only [mx, bnd, e, Bool.cond_eq_ite, decide_eq_true_eq, if_true]
    (repeat' split) <;> grind
  · cases h

end Go.Deb

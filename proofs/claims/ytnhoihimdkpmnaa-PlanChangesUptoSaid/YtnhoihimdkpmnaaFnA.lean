/- Lemmas for the claims of this seat (a verified symbolic evaluator, and contracts of functions): own work; no condition. -/
import Derived.Test.YtnhoihimdkpmnaaEvF
import Derived.Test.YtnhoihimdkpmnaaProg
import Derived.KernelRfl
namespace Go.Pln
open Go Go.Proofs Go.Ab
def h2 : HintsT := ⟨1, [(0, 0)], []⟩
def h3 : HintsT := ⟨43, [(3, 64), (2, 1923), (1, 391), (0, 7)], []⟩
def h4 : HintsT := ⟨63, [(7, 64), (6, 14340), (5, 64), (4, 8796093022212), (3, 1799), (2, 8388743), (1, 135), (0, 7)], []⟩
def h5 : HintsT := ⟨95, [(13, 16), (12, 885443715538058477664), (11, 16), (10, 4951761042585236637654974560), (9, 885443715538058478176), (8, 2066035336255469781088), (7, 885443715538058477664), (6, 16), (5, 73786976294838206560), (4, 483), (3, 99), (2, 16), (1, 131075), (0, 3)], [(8, 885443715538058477664)]⟩
def h6 : HintsT := ⟨68, [(6, 256), (5, 256), (4, 134221328), (3, 3600), (2, 256), (1, 16414), (0, 30)], []⟩
def h7 : HintsT := ⟨85, [(23, 48), (22, 258254417031933723712), (21, 258254417031933723712), (20, 19147720348510514582592), (19, 258254417031933727808), (18, 553402322211286549568), (17, 258254417031933723712), (16, 1216), (15, 192), (14, 14680256), (13, 14680256), (12, 14680768), (9, 48), (11, 48), (10, 34374419136), (8, 148898496), (7, 14680768), (6, 31457472), (5, 14680256), (4, 194), (3, 67), (2, 48), (1, 32771), (0, 3)], [(18, 258254417031933723712), (6, 14680256)]⟩
def h8 : HintsT := ⟨76, [(14, 48), (7, 194), (13, 194), (12, 48), (11, 4611686018427388098), (10, 48), (9, 274877907138), (8, 450), (6, 524482), (5, 194), (4, 66), (3, 67), (2, 48), (1, 4099), (0, 3)], [(6, 194)]⟩
def h9 : HintsT := ⟨26, [(8, 16), (5, 35), (7, 16), (6, 33554467), (4, 16419), (3, 35), (2, 16), (1, 1027), (0, 3)], [(4, 35)]⟩
def h10 : HintsT := ⟨43, [(9, 16), (8, 917728), (7, 917728), (6, 537789152), (5, 918240), (4, 1966304), (3, 917728), (2, 227), (1, 99), (0, 3)], [(4, 917728)]⟩
def h11 : HintsT := ⟨78, [(18, 16), (13, 803), (17, 803), (16, 73786976294838212387), (15, 5923), (14, 1827), (12, 8796093023011), (11, 803), (10, 291), (8, 163), (9, 163), (7, 1073741987), (6, 163), (4, 99), (5, 99), (3, 131171), (2, 99), (1, 35), (0, 3)], [(12, 803), (7, 163), (3, 99)]⟩
def h12 : HintsT := ⟨26, [(8, 16), (5, 35), (7, 16), (6, 33554467), (4, 16419), (3, 35), (2, 16), (1, 1027), (0, 3)], [(4, 35)]⟩
def h13 : HintsT := ⟨76, [(5, 1), (4, 926), (3, 158), (2, 30), (1, 2), (0, 0)], []⟩
def h14 : HintsT := ⟨43, [(10, 16), (9, 939524128), (8, 939524128), (7, 939524256), (6, 2013265952), (5, 939524128), (4, 34), (3, 35), (2, 16), (1, 1048579), (0, 3)], [(6, 939524128)]⟩
def h15 : HintsT := ⟨86, [(18, 28), (17, 28), (16, 302231454903657293690896), (15, 4722366482869645228048), (14, 14352), (13, 30736), (12, 6917529027641096220), (11, 4611686018427402268), (10, 4611686018427394076), (7, 28), (9, 28), (8, 4611967493404100669), (6, 4611686035607259325), (5, 4611686018427390909), (4, 4611686018427388861), (3, 4611686018427388093), (2, 28), (1, 4611686018427519005), (0, 4611686018427387933)], []⟩
def h16 : HintsT := ⟨38, [(7, 4), (6, 225), (5, 4), (4, 68719476961), (3, 249), (2, 481), (1, 225), (0, 1)], [(2, 225)]⟩
def h17 : HintsT := ⟨44, [(6, 4), (3, 9), (5, 4), (4, 8796093022217), (2, 137), (1, 9), (0, 1)], [(2, 9)]⟩
def h18 : HintsT := ⟨131, [(16, 4), (13, 34), (15, 4), (14, 1361129467683753853853498429727072845858), (12, 79228162514264337593543950370), (11, 34), (5, 10), (10, 4), (9, 2475880078570760549798248458), (8, 4), (7, 9007199254741018), (6, 26), (4, 67108874), (3, 10), (2, 4), (1, 2097154), (0, 2)], [(12, 34), (4, 10)]⟩
def h19 : HintsT := ⟨57, [(13, 16), (12, 12326), (11, 471142), (10, 471142), (9, 562949953892454), (8, 471910), (7, 471398), (6, 995430), (5, 471142), (4, 12390), (3, 28710), (2, 12326), (1, 38), (0, 6)], [(6, 471142), (3, 12326)]⟩
def h20 : HintsT := ⟨26, [(9, 16), (8, 12291), (7, 16), (6, 16789507), (5, 12323), (4, 28675), (3, 12291), (2, 16), (1, 1027), (0, 3)], [(4, 12291)]⟩
def h21 : HintsT := ⟨98, [(19, 64), (18, 120259085326), (17, 64), (16, 122880), (15, 64), (14, 4503599627395080), (13, 281595235820558), (12, 120259109902), (11, 120259089422), (10, 257698038798), (9, 120259085326), (8, 1166), (7, 142), (6, 1835150), (5, 1835150), (4, 1835662), (3, 3932302), (2, 1835150), (1, 142), (0, 14)], [(10, 120259085326), (3, 1835150)]⟩
def h22 : HintsT := ⟨17, [(5, 4), (4, 0), (3, 40), (2, 1292), (1, 1037), (0, 1029)], []⟩
def h23 : HintsT := ⟨31, [(12, 4), (11, 8), (10, 1800), (9, 116488), (8, 116488), (7, 116616), (6, 247560), (5, 116488), (4, 1832), (3, 3848), (2, 1800), (1, 9), (0, 1)], [(6, 116488), (3, 1800)]⟩
def h24 : HintsT := ⟨22, [(7, 4), (6, 97), (5, 4), (4, 8289), (3, 105), (2, 225), (1, 97), (0, 1)], [(2, 97)]⟩
def h25 : HintsT := ⟨11, [(1, 0), (0, 5)], []⟩
def h26 : HintsT := ⟨61, [(16, 4), (5, 9), (15, 4), (14, 9), (10, 57), (13, 57), (12, 57), (11, 17592186044473), (9, 4294967353), (8, 57), (7, 25), (6, 33554441), (4, 8201), (3, 9), (2, 4), (1, 257), (0, 1)], [(9, 57), (4, 9)]⟩
def h27 : HintsT := ⟨25, [(6, 48), (3, 67), (5, 48), (4, 524355), (2, 1091), (1, 67), (0, 3)], [(2, 67)]⟩
def h28 : HintsT := ⟨22, [(6, 4), (3, 9), (5, 4), (4, 16393), (2, 137), (1, 9), (0, 1)], [(2, 9)]⟩
def h29 : HintsT := ⟨58, [(13, 64), (12, 128), (11, 1125899906842758), (5, 903), (10, 903), (9, 903), (8, 647), (7, 34359739271), (6, 16778119), (4, 33671), (3, 903), (2, 391), (1, 135), (0, 7)], [(4, 903)]⟩
def h30 : HintsT := ⟨49, [(14, 16), (13, 32), (12, 8796093022242), (5, 227), (11, 227), (10, 227), (9, 163), (8, 1073742051), (7, 16), (6, 524515), (4, 2275), (3, 227), (2, 99), (1, 35), (0, 3)], [(4, 227)]⟩
def h31 : HintsT := ⟨2, [(1, 1), (0, 0)], []⟩
def h32 : HintsT := ⟨19, [(3, 48), (2, 2), (1, 3), (0, 3)], []⟩
def h33 : HintsT := ⟨14, [(1, 4), (0, 1)], []⟩
def h34 : HintsT := ⟨13, [(1, 112), (0, 3)], []⟩
def h35 : HintsT := ⟨19, [(7, 16), (6, 387), (5, 16), (4, 65955), (3, 419), (2, 899), (1, 387), (0, 3)], [(2, 387)]⟩
def h36 : HintsT := ⟨4, [(1, 4), (0, 2)], []⟩
def h37 : HintsT := ⟨9, [(1, 4), (0, 1)], []⟩
def h38 : HintsT := ⟨22, [(1, 16), (0, 9)], []⟩
def h39 : HintsT := ⟨10, [(1, 32), (0, 21)], []⟩
def h40 : HintsT := ⟨42, [(12, 16), (11, 33), (6, 99), (10, 99), (9, 99), (8, 536871139), (7, 227), (5, 524387), (4, 99), (3, 16), (2, 4131), (1, 35), (0, 3)], [(5, 99)]⟩
def h41 : HintsT := ⟨8, [(3, 4), (2, 4), (1, 17), (0, 1)], []⟩
def h42 : HintsT := ⟨24, [(1, 16), (0, 7)], []⟩
def h43 : HintsT := ⟨26, [(9, 16), (8, 12291), (7, 16), (6, 16789507), (5, 12323), (4, 28675), (3, 12291), (2, 16), (1, 1027), (0, 3)], [(4, 12291)]⟩
def h44 : HintsT := ⟨4, [(1, 4), (0, 2)], []⟩
def h45 : HintsT := ⟨9, [(1, 4), (0, 1)], []⟩
def h46 : HintsT := ⟨134, [(27, 783), (26, 17165), (25, 17167), (30, 783), (29, 17163), (28, 17167), (24, 10384593717069655257060992658915855), (23, 475663), (22, 214543), (21, 17935), (20, 50191), (19, 783), (18, 8973), (17, 154742504910672534362394383), (16, 4722366482869645217551), (15, 295147905179352829711), (14, 7951), (13, 3855), (12, 3855), (11, 1125899906850575), (10, 7951), (9, 1807), (8, 1807), (7, 34359740175), (6, 0), (5, 536872719), (4, 0), (3, 8390415), (2, 1807), (1, 783), (0, 271)], [(2, 783)]⟩
def h47 : HintsT := ⟨8, [(2, 4), (1, 4), (0, 1)], []⟩
def h48 : HintsT := ⟨9, [(1, 4), (0, 1)], []⟩
def h49 : HintsT := ⟨20, [(1, 0), (2, 1048575), (0, 16383)], []⟩
def h50 : HintsT := ⟨23, [(4, 112), (3, 112), (2, 4227), (1, 131), (0, 3)], []⟩
def h51 : HintsT := ⟨75, [(11, 18889465931478580854795), (10, 43), (9, 43), (8, 43), (7, 43), (6, 8796093022243), (5, 35), (4, 17179869235), (3, 59), (2, 27), (1, 32779), (0, 11)], [(1, 11)]⟩
def h52 : HintsT := ⟨103, [(12, 16), (9, 64), (11, 64), (10, 1208925819614629174706241), (8, 9223372036854775875), (7, 67), (6, 35), (5, 16), (4, 0), (3, 549755813923), (2, 4294967331), (1, 35), (0, 3)], [(2, 35)]⟩
def h53 : HintsT := ⟨18, [(1, 0), (0, 2055)], []⟩
def h54 : HintsT := ⟨6, [(1, 4), (0, 2)], []⟩
def h55 : HintsT := ⟨103, [(13, 16), (10, 73), (12, 16), (11, 5070602400912917605986812821577), (9, 4951760157141521099596496969), (8, 73), (5, 41), (7, 16), (6, 154742504910672534362390569), (4, 4503599627370537), (3, 41), (2, 16), (1, 140737488355337), (0, 9)], [(9, 73), (4, 41)]⟩
def h56 : HintsT := ⟨25, [(8, 4), (6, 26), (7, 26), (5, 4122), (4, 26), (3, 10), (2, 4), (1, 130), (0, 2)], [(5, 26)]⟩
def h57 : HintsT := ⟨21, [(6, 4), (4, 26), (5, 26), (3, 538), (2, 26), (1, 10), (0, 2)], [(3, 26)]⟩
def h58 : HintsT := ⟨19, [(7, 16), (6, 387), (5, 16), (4, 65955), (3, 419), (2, 899), (1, 387), (0, 3)], [(2, 387)]⟩
def h59 : HintsT := ⟨19, [(2, 11), (3, 262155), (1, 267), (0, 11)], [(1, 11)]⟩
def h60 : HintsT := ⟨49, [(2, 71), (5, 199), (6, 199), (4, 1073742023), (3, 199), (1, 4167), (0, 71)], [(4, 199), (1, 71)]⟩
def h61 : HintsT := ⟨56, [(9, 1217), (11, 1217), (10, 1217), (8, 1073743041), (7, 1217), (5, 961), (6, 961), (4, 525249), (3, 961), (2, 449), (1, 199), (0, 71)], [(8, 1217), (4, 961)]⟩
def h62 : HintsT := ⟨65, [(6, 963), (10, 963), (9, 1987), (8, 8796093024195), (7, 1987), (5, 8589935555), (4, 963), (3, 451), (2, 195), (1, 32835), (0, 67)], [(5, 963)]⟩
def h63 : HintsT := ⟨57, [(15, 192), (17, 192), (13, 192), (16, 18014398509484032), (14, 2814749767108608), (12, 562949953423360), (11, 2560), (10, 7681), (9, 7681), (8, 7681), (7, 17179876865), (6, 4294975233), (5, 7937), (4, 3843), (3, 1795), (2, 771), (1, 259), (0, 7)], []⟩
def h64 : HintsT := ⟨32, [(5, 193), (4, 193), (3, 193), (2, 8385), (1, 193), (0, 69)], [(2, 193)]⟩
def h65 : HintsT := ⟨133, [(24, 64), (4, 391), (21, 1415), (23, 1415), (22, 83076749736557242056487941267522951), (20, 10141204801825835211973625644423), (19, 1415), (18, 316912650057057350374175801735), (15, 903), (17, 903), (16, 302231454903657293677447), (14, 36893488147419104135), (13, 903), (12, 2305843009213694343), (11, 391), (10, 64), (9, 2199023255943), (8, 64), (7, 137438953863), (6, 391), (5, 4294967687), (3, 16775), (2, 391), (1, 135), (0, 7)], [(20, 1415), (14, 903), (5, 391), (3, 391)]⟩
def h66 : HintsT := ⟨17, [(1, 16), (0, 3)], []⟩
def h67 : HintsT := ⟨84, [(11, 256), (10, 1539), (9, 1539), (8, 1539), (7, 18446744073709553155), (6, 1539), (5, 576460752303425027), (4, 1539), (3, 8796093023747), (2, 1539), (1, 7), (0, 15)], [(5, 1539), (3, 1539)]⟩
def h68 : HintsT := ⟨168, [(22, 768), (21, 2048), (20, 3075), (19, 3075), (18, 3075), (17, 21778071482940061661655974875633165536259), (16, 3075), (15, 680564733841876926926749214863536425987), (14, 3075), (13, 5192296858534827628530496329223171), (12, 3075), (11, 3075), (10, 3075), (9, 768), (8, 2048), (7, 36893488147419106307), (6, 3075), (5, 1152921504606850051), (4, 3075), (3, 8796093025283), (2, 3075), (1, 7), (0, 15)], [(15, 3075), (13, 3075), (5, 3075), (3, 3075)]⟩
def h69 : HintsT := ⟨19, [(7, 4), (6, 5), (5, 5), (4, 261), (3, 5), (2, 1), (1, 21), (0, 5)], []⟩
def h70 : HintsT := ⟨25, [(10, 4), (9, 5), (8, 5), (7, 16389), (6, 5), (5, 5), (4, 261), (3, 5), (2, 1), (1, 21), (0, 5)], []⟩
def h72 : HintsT := ⟨143, [(35, 16), (29, 16), (28, 16), (27, 20769187434139310514121985316884736), (26, 4352), (34, 16), (33, 16), (32, 696898287454081973172991196020261297070336), (31, 8448), (30, 5444517870735015415413993718908291385315), (25, 162259276829213363391578010290147), (24, 2019), (23, 2019), (22, 16), (21, 9903520314283042199192995811), (20, 2019), (19, 16), (18, 9444732965739290431459), (17, 4067), (16, 18446744073709553635), (15, 576460752303425507), (14, 2019), (13, 995), (12, 483), (11, 227), (10, 99), (3, 16), (5, 16), (7, 16), (9, 16), (8, 68719476771), (6, 2147483683), (4, 16777251), (2, 65571), (1, 35), (0, 3)], [(15, 2019)]⟩
def h73 : HintsT := ⟨27, [(6, 16), (4, 38), (5, 38), (3, 65574), (2, 38), (1, 6), (0, 6)], [(3, 38)]⟩
def h74 : HintsT := ⟨76, [(7, 269), (6, 525), (5, 4503599627371277), (4, 781), (3, 68719477517), (2, 66317), (1, 781), (0, 269)], [(1, 269)]⟩
def h75 : HintsT := ⟨7, [(1, 4), (0, 1)], []⟩
def h76 : HintsT := ⟨33, [(4, 4), (3, 1), (2, 1), (1, 1), (0, 1)], []⟩
def h77 : HintsT := ⟨15, [(1, 64), (0, 7)], []⟩
def h78 : HintsT := ⟨36, [(4, 1024), (3, 4), (2, 23), (1, 31), (0, 31)], []⟩
def h79 : HintsT := ⟨6, [(1, 4), (0, 1)], []⟩
def h80 : HintsT := ⟨8, [(1, 16), (0, 3)], []⟩
def h82 : HintsT := ⟨6, [(1, 4), (0, 1)], []⟩
def h83 : HintsT := ⟨81, [(18, 16), (17, 16), (16, 151115727451828646839779), (15, 1507), (14, 1507), (13, 1507), (12, 1507), (11, 17592186045923), (10, 1507), (9, 16), (8, 549755814371), (6, 995), (7, 995), (5, 1049571), (4, 995), (3, 483), (2, 227), (1, 99), (0, 3)], [(11, 1507), (5, 995)]⟩
def h84 : HintsT := ⟨28, [(4, 768), (3, 768), (2, 6), (1, 262158), (0, 15)], []⟩
def h86 : HintsT := ⟨39, [(13, 12), (9, 464), (12, 464), (11, 464), (10, 1073742288), (8, 33554896), (7, 464), (6, 209), (4, 49), (5, 49), (3, 4145), (2, 49), (1, 17), (0, 1)], [(8, 464), (3, 49)]⟩
noncomputable abbrev evn (t : Tab) (hn : HintsT) (Λ : LoopT) (f : FuncId) (args : List AV) (hp : Hp) : T (AV × Hp) := evFnT Try.prog t.pf (hdT Try.prog t.pf t.con H0 20 9) hn 20 Λ f args hp
noncomputable abbrev rdn (t : Tab) (hn : HintsT) (Λ : LoopT) (f : FuncId) (base i : Nat) (st : St) : T (AX × St) := roundT Try.prog t.pf (hdT Try.prog t.pf t.con H0 20 9) hn f base none 20 Λ (lbody Try.prog f i) st
end Go.Pln
namespace Go.Pln

open Go Go.Proofs Go.Ab

set_option maxRecDepth 100000

set_option linter.unusedVariables false

set_option linter.unusedSimpArgs false

/-! ### Basics -/

theorem anyLoopsB {t : Tab} {H : Nat → Hd} {hn : HintsT} {f : FuncId} {i b : Nat} : LoopOk Try.prog t.pf H hn.to f b none noLoops (loopAt Try.prog f i) := by
  generalize loopAt Try.prog f i = c
  cases c with
  | loop c => exact fun l hl => by cases hl
  | rangeFunc _ _ _ _ => exact fun l hl => by cases hl
  | _ => trivial

theorem anyLoops {t : Tab} {H : Nat → Hd} {hn : HintsT} {f : FuncId} {i : Nat} : LoopOk Try.prog t.pf H hn.to f 0 none noLoops (loopAt Try.prog f i) := anyLoopsB

theorem oneLoop {f : FuncId} {Φ : Nat → Prop} (h : (loopsOf (bodyOf Try.prog f)).length = 1) (h0 : Φ 0) : ∀ i, i < (loopsOf (bodyOf Try.prog f)).length → Φ i := fun i hi => by
  obtain rfl : i = 0 := by omega
  exact h0

theorem twoLoops {f : FuncId} {Φ : Nat → Prop} (h : (loopsOf (bodyOf Try.prog f)).length = 2) (h0 : Φ 0) (h1 : Φ 1) : ∀ i, i < (loopsOf (bodyOf Try.prog f)).length → Φ i := fun i hi => by
  rcases (by omega : i = 0 ∨ i = 1) with rfl | rfl
  · exact h0
  · exact h1

theorem w64 {n : Int} (h1 : -9223372036854775808 ≤ n) (h2 : n < 9223372036854775808) : IntKind.i64.wrap n = n := by
  rw [IntKind.wrap_i64]; omega

theorem s71 : Sound1 Try.prog ⟨71, true, cNoEsc⟩ := sound_noEscape Try.func71 (by kernel_rfl) (by kernel_rfl) (by kernel_rfl) (by kernel_rfl)

theorem s85 : Sound1 Try.prog ⟨85, true, pcon cIxB⟩ := sound_indexByte Try.func85 (by kernel_rfl) (by kernel_rfl) (by kernel_rfl) (by kernel_rfl)

theorem sound_mem_tab {P : Program} {e : Con} {t : Tab} (he : Sound1 P e) (ht : ∀ x, x ∈ t → Sound1 P x) : ∀ x, x ∈ e :: t → Sound1 P x := by
  intro x hx
  rcases List.mem_cons.1 hx with rfl | hx
  · exact he
  · exact ht x hx

noncomputable def tabA : Tab := ⟨71, true, cNoEsc⟩ :: ⟨85, true, pcon cIxB⟩ :: []

theorem all_tabA : ∀ e, e ∈ tabA → Sound1 Try.prog e := sound_mem_tab s71 (sound_mem_tab s85 (by simp))

/-- A byte of a word. -/
def wB (b : UInt8) : Bool := decide ((b.toNat : Int) ≥ 33) && decide ((b.toNat : Int) ≤ 126)

def wC (c : Int) : Bool := decide (c ≥ 33) && decide (c ≤ 126)

theorem t45 (c : Int) : (evn tabA h45 noLoops 45 [.int .u8 c] []).run =
  bif decide (c ≥ (33 : Int)) then
   some ((AV.bool (decide (c ≤ (126 : Int))), []))
  else
   some ((AV.bool false, [])) := by kernel_rfl

def c45 : List AV → T AV
  | [.int .u8 c] => .leaf (.bool (wC c))
  | _ => .fail

theorem e45 (c : Int) (hF : FitsL [.int .u8 c]) : (evn tabA h45 noLoops 45 [.int .u8 c] []).run = (.leaf (.bool (wC c)) : T AV).run.map fun r => (r, []) := by
  refine (t45 c).trans ?_
  unfold wC
  cases decide (c ≥ 33) <;> rfl

theorem s45 : Sound1 Try.prog ⟨45, true, pcon c45⟩ := by
  refine sound_pureH (m := 20) (k := 9) (hn := h45) (Λ := noLoops) (soundTab_of all_tabA) H0 (fun i hi => anyLoops) fun args r hF h => ?_
  unfold c45 at h
  split at h
  · rename_i c
    have he := e45 c hF
    rw [he, h]; rfl
  · cases h

noncomputable def tabB : Tab := ⟨45, true, pcon c45⟩ :: tabA

theorem all_tabB : ∀ e, e ∈ tabB → Sound1 Try.prog e := (sound_mem_tab s45 all_tabA)

theorem ok_tabB : SoundTab Try.prog tabB := soundTab_of all_tabB
end Go.Pln
namespace Go.Pln

open Go Go.Proofs Go.Ab

set_option maxRecDepth 100000

set_option linter.unusedVariables false

set_option linter.unusedSimpArgs false

/-! ### strings.Cut at a byte; words -/

theorem ixB_spec (c : UInt8) : ∀ s : List UInt8, Lib.indexByte s c = if c ∈ s then ((s.takeWhile (· != c)).length : Int) else -1
  | [] => by simp [Lib.indexByte]
  | b :: l => by
    have ih := ixB_spec c l
    unfold Lib.indexByte
    by_cases h : b = c
    · subst h; simp
    · have hb : (b != c) = true := by simpa using h
      have hb' : (b == c) = false := by simpa using h
      rw [List.takeWhile_cons, hb, hb', ih]
      by_cases hm : c ∈ l
      · rw [if_pos hm, if_pos (show c ∈ b :: l by simp [hm])]
        have : ((((l.takeWhile (· != c)).length : Nat) : Int) == -1) = false := by
          rw [beq_eq_false_iff_ne]; omega
        rw [this]
        simp
      · rw [if_neg hm, if_neg (show ¬ c ∈ b :: l from fun q => by rcases List.mem_cons.1 q with q | q; exact h q.symm; exact hm q)]
        rfl

theorem tw_self {p : UInt8 → Bool} : ∀ {s : List UInt8}, (∀ b, b ∈ s → p b = true) → s.takeWhile p = s ∧ s.dropWhile p = []
  | [], _ => ⟨rfl, rfl⟩
  | b :: l, h => by
    have hb := h b (by simp)
    obtain ⟨h1, h2⟩ := tw_self (s := l) fun x hx => h x (by simp [hx])
    rw [List.takeWhile_cons, List.dropWhile_cons, hb, h1, h2]
    exact ⟨rfl, rfl⟩

theorem dw_ne {p : UInt8 → Bool} {c : UInt8} (hp : p c = false) : ∀ {s : List UInt8}, c ∈ s → s.dropWhile p ≠ []
  | [], h => by simp at h
  | b :: l, h => by
    rw [List.dropWhile_cons]
    split
    · rename_i hb
      rcases List.mem_cons.1 h with rfl | h
      · rw [hp] at hb; cases hb
      · exact dw_ne hp h
    · simp

def cutA (c : UInt8) (s : List UInt8) : List UInt8 := s.takeWhile (· != c)

def cutR (c : UInt8) (s : List UInt8) : List UInt8 := (s.dropWhile (· != c)).drop 1

theorem cut_none {c : UInt8} {s : List UInt8} (h : ¬ c ∈ s) : cutA c s = s ∧ cutR c s = [] := by
  have hall : ∀ b ∈ s, (b != c) = true := fun b hb => by simp; rintro rfl; exact h hb
  unfold cutA cutR
  rw [(tw_self hall).1, (tw_self hall).2]
  exact ⟨rfl, rfl⟩

theorem cut_take {c : UInt8} {s : List UInt8} : s.take (cutA c s).length = cutA c s := by
  unfold cutA
  have h : s.takeWhile (· != c) ++ s.dropWhile (· != c) = s := List.takeWhile_append_dropWhile
  have h2 : (s.takeWhile (· != c) ++ s.dropWhile (· != c)).take (s.takeWhile (· != c)).length = s.takeWhile (· != c) := List.take_left
  rwa [h] at h2

theorem cut_drop {c : UInt8} {s : List UInt8} : s.drop ((cutA c s).length + 1) = cutR c s := by
  unfold cutA cutR
  have h : s.takeWhile (· != c) ++ s.dropWhile (· != c) = s := List.takeWhile_append_dropWhile
  have h2 : (s.takeWhile (· != c) ++ s.dropWhile (· != c)).drop (s.takeWhile (· != c)).length = s.dropWhile (· != c) := List.drop_left
  rw [h] at h2
  rw [← List.drop_drop, h2]

theorem cut_lt {c : UInt8} {s : List UInt8} (h : c ∈ s) : (cutA c s).length < s.length := by
  unfold cutA
  have h1 := congrArg List.length (List.takeWhile_append_dropWhile (p := (· != c)) (l := s))
  rw [List.length_append] at h1
  have : s.dropWhile (· != c) ≠ [] := dw_ne (by simp) h
  have := List.length_pos_iff.2 this
  omega

theorem t34 (s : List UInt8) (c : UInt8) : (evn tabB h34 noLoops 34 [.str s, .str [c]] []).run =
  bif [c] == s then
   bif decide ((0 : Int) ≤ IntKind.i64.wrap ((0 : Int) + (↑[c].length : Int)) ∧ IntKind.i64.wrap ((0 : Int) + (↑[c].length : Int)) ≤ (↑s.length : Int)) then
    some ((AV.tup [AV.str (List.take 0 s), AV.str (List.drop (IntKind.i64.wrap ((0 : Int) + (↑[c].length : Int))).toNat s), AV.bool true], []))
   else
    none
  else
   bif decide (Lib.indexByte s (↑([c].getD 0 (0 : UInt8)).toNat : Int).toNat.toUInt8 ≥ (0 : Int)) then
    bif decide ((0 : Int) ≤ Lib.indexByte s (↑([c].getD 0 (0 : UInt8)).toNat : Int).toNat.toUInt8 ∧ Lib.indexByte s (↑([c].getD 0 (0 : UInt8)).toNat : Int).toNat.toUInt8 ≤ (↑s.length : Int)) then
     bif decide ((0 : Int) ≤ IntKind.i64.wrap (Lib.indexByte s (↑([c].getD 0 (0 : UInt8)).toNat : Int).toNat.toUInt8 + (↑[c].length : Int)) ∧ IntKind.i64.wrap (Lib.indexByte s (↑([c].getD 0 (0 : UInt8)).toNat : Int).toNat.toUInt8 + (↑[c].length : Int)) ≤ (↑s.length : Int)) then
      some ((AV.tup [AV.str (List.take (Lib.indexByte s (↑([c].getD 0 (0 : UInt8)).toNat : Int).toNat.toUInt8).toNat s), AV.str (List.drop (IntKind.i64.wrap (Lib.indexByte s (↑([c].getD 0 (0 : UInt8)).toNat : Int).toNat.toUInt8 + (↑[c].length : Int))).toNat s), AV.bool true], []))
     else
      none
    else
     none
   else
    some ((AV.tup [AV.str s, AV.str [], AV.bool false], [])) := by kernel_rfl

structure X34 where
  s : List UInt8
  c : UInt8

def en34 : X34 → List AV := fun ⟨s, c⟩ => [.str s, .str [c]]

def de34 : List AV → X34
  | [.str s, .str [c]] => ⟨s, c⟩
  | _ => ⟨default, default⟩

def p34 : X34 → Prop := fun ⟨s, c⟩ => True

def rs34 : X34 → T AV := fun ⟨s, c⟩ => .leaf (.tup [.str (cutA c s), .str (cutR c s), .bool (s.contains c)])

noncomputable def c34 : List AV → T AV := ccon en34 de34 p34 rs34

theorem in34 : ∀ x, de34 (en34 x) = x := by
  rintro ⟨s, c⟩
  rfl

theorem k34 (s : List UInt8) (c : UInt8) (h : True) : isEn en34 p34 [.str s, .str [c]] = true := isEn_true (enc := en34) (p := p34) ⟨s, c⟩ h

theorem e34 (s : List UInt8) (c : UInt8) (hF : FitsL [.str s, .str [c]]) : (evn tabB h34 noLoops 34 [.str s, .str [c]] []).run = (.leaf (.tup [.str (cutA c s), .str (cutR c s), .bool (s.contains c)]) : T AV).run.map fun r => (r, []) := by
  refine (t34 s c).trans ?_
  have hl : s.length ≤ 4611686018427387903 := hF.1
  have hx := ixB_spec c s
  have hc : (([c].getD 0 0).toNat : Int).toNat.toUInt8 = c := by simp
  have h1 : ((0 : Int) + ([c].length : Int)) = 1 := by simp
  simp only [hc, List.length_singleton, Int.natCast_one, Int.zero_add] at *
  by_cases hs : s = [c]
  · subst hs
    have e1 : cutA c [c] = [] := by unfold cutA; simp
    have e2 : cutR c [c] = [] := by unfold cutR; simp
    rw [e1, e2, show ([c] == [c]) = true by simp]
    simp
    rfl
  · rw [show ([c] == s) = false by simpa using fun q => hs q.symm, cond_false]
    by_cases hm : c ∈ s
    · rw [if_pos hm] at hx
      have hlt := cut_lt hm
      have hx2 : Lib.indexByte s c = (cutA c s).length := hx
      have ct := cut_take (c := c) (s := s)
      have cd := cut_drop (c := c) (s := s)
      rw [hx2, w64 (n := ((cutA c s).length : Int) + 1) (by omega) (by omega), decide_eq_true (show ((cutA c s).length : Int) ≥ 0 by omega), decide_eq_true (show (0 : Int) ≤ (cutA c s).length ∧ ((cutA c s).length : Int) ≤ (s.length : Int) by omega), decide_eq_true (show (0 : Int) ≤ (cutA c s).length + 1 ∧ ((cutA c s).length : Int) + 1 ≤ (s.length : Int) by omega)]
      rw [Int.toNat_natCast, show (((cutA c s).length : Int) + 1).toNat = (cutA c s).length + 1 by omega, ct, cd, show s.contains c = true by simpa using hm]
      rfl
    · rw [if_neg hm] at hx
      rw [hx, (cut_none hm).1, (cut_none hm).2, show s.contains c = false by simpa using hm]
      rfl

theorem s34 : Sound1 Try.prog ⟨34, true, pcon c34⟩ := by
  refine sound_c (soundTab_of all_tabB) H0 in34 (hn := h34) (m := 20) (k := 9) (Λ := noLoops) (fun i hi => anyLoops) ?_
  rintro ⟨s, c⟩ hp hF
  exact e34 s c hF

noncomputable def tabC : Tab := ⟨34, true, pcon c34⟩ :: tabB

theorem all_tabC : ∀ e, e ∈ tabC → Sound1 Try.prog e := (sound_mem_tab s34 all_tabB)

theorem ok_tabC : SoundTab Try.prog tabC := soundTab_of all_tabC

structure Y24 where
  s : List UInt8
  i : Nat

def eL24 : Y24 → List AV × Hp := fun ⟨s, i⟩ => ([.str s, .int .i64 s.length, .int .i64 i], [])

def dL24 : List AV × Hp → Y24
  | ([.str s, .int .i64 _, .int .i64 i], []) => ⟨s, i.toNat⟩
  | _ => ⟨default, default⟩

def pL24 : Y24 → Prop := fun ⟨s, i⟩ => i ≤ s.length ∧ s.length ≤ bnd

def rL24 : Y24 → T (AX × St) := fun ⟨s, i⟩ => .br (alN wB s i) (.leaf (.exit 0, { tm := tmOf 22 [(0, .str s), (5, .int .i64 s.length), (6, .int .i64 s.length), (7, .bool false)], ms := [], hp := [] })) (.leaf (.ret, { tm := tmOf 22 [(2, .bool false)], ms := [], hp := [] }))

noncomputable def L24 : LoopT := fun k => match Nat.beq k 200029 with
  | true => some (lccon (mbits 97 22) eL24 dL24 pL24 rL24)
  | false => none

theorem iL24 : ∀ x, dL24 (eL24 x) = x := by
  rintro ⟨s, i⟩
  simp only [eL24, dL24, Int.toNat_natCast]

theorem kL24 (s : List UInt8) (i : Nat) (h : i ≤ s.length ∧ s.length ≤ bnd) : isEn eL24 pL24 ([.str s, .int .i64 s.length, .int .i64 i], []) = true := isEn_true (enc := eL24) (p := pL24) ⟨s, i⟩ h

theorem zL24 (s : List UInt8) (h : pL24 ⟨s, 0⟩) : isEn eL24 pL24 ([.str s, .int .i64 s.length, .int .i64 (0 : Int)], []) = true := isEn_true (enc := eL24) (p := pL24) ⟨s, 0⟩ h

theorem q24 (s : List UInt8) (i : Nat) : (rdn tabC h24 L24 24 0 0 { tm := encGo (mbits 97 22) [.str s, .int .i64 s.length, .int .i64 i], ms := [], hp := [] }).run =
  bif decide ((↑i : Int) < (↑s.length : Int)) then
   bif decide ((0 : Int) ≤ (↑i : Int) ∧ (↑i : Int) < (↑s.length : Int)) then
    bif !wC (↑(s.getD (↑i : Int).toNat (0 : UInt8)).toNat : Int) then
     some ((AX.ret, { tm := tmOf 22 [(2, AV.bool false)], ms := [], hp := [] }))
    else
     some ((AX.normal, { tm := tmOf 22 [(0, AV.str s), (5, AV.int IntKind.i64 (↑s.length : Int)), (6, AV.int IntKind.i64 (IntKind.i64.wrap ((↑i : Int) + (1 : Int))))], ms := [], hp := [] }))
   else
    none
  else
   some ((AX.exit 0, { tm := tmOf 22 [(0, AV.str s), (5, AV.int IntKind.i64 (↑s.length : Int)), (6, AV.int IntKind.i64 (↑i : Int)), (7, AV.bool false)], ms := [], hp := [] })) := by kernel_rfl

theorem l24 : LoopOk Try.prog tabC.pf (fun n => hd Try.prog tabC.pf tabC.con.run (fun f => (H0 f).to) n 9) h24.to 24 0 none L24 (loopAt Try.prog 24 0) := by
  rw [show loopAt Try.prog 24 0 = .loop (lbody Try.prog 24 0) by kernel_rfl]
  refine loop_c (hdT_le (m := 20) 9) (m := 20) (lv := mbits 97 22) (p := pL24) (res := rL24) iL24 (within_of _ (by rw [show loopsOf (lbody Try.prog 24 0) = [] by kernel_rfl]; simp)) (by kernel_rfl) (fun ⟨s, i⟩ => s.length - i) ?_
  rintro ⟨s, i⟩ hp
  have ht := q24 s i
  have hb : s.length ≤ 4611686018427387903 := by have := hp; simp only [pL24, bnd] at this; omega
  have hi : i ≤ s.length := by have := hp; simp only [pL24, bnd] at this; omega
  by_cases hl : i < s.length
  · have hd := alN_step (q := wB) (0) hl
    rw [decide_eq_true (show (i : Int) < s.length by omega), byte_at hl, Int.toNat_natCast, w64n (by omega)] at ht
    rw [show (wC ((s.getD i 0).toNat : Int)) = wB (s.getD i 0) from rfl] at ht
    dsimp only [cond_true] at ht
    cases hq : wB (s.getD i 0) with
    | false =>
      rw [hq] at ht hd
      right
      refine ⟨_, ?_, ?_, ht⟩
      · simp
      · simp only [rL24, T.run_br, hd, Bool.false_and] <;> rfl
    | true =>
      rw [hq] at ht hd
      left
      refine ⟨⟨s, i + 1⟩, ?_, by simp only; omega, ?_, ht⟩
      · have := hp
        simp only [pL24, bnd] at this ⊢
        omega
      · simp only [rL24, T.run_br, hd, Bool.true_and]
  · have he : i = s.length := by omega
    right
    rw [decide_eq_false (show ¬ (i : Int) < s.length by omega)] at ht
    refine ⟨_, ?_, ?_, ht⟩
    · simp
    · simp only [rL24, T.run_br, alN_end (show s.length ≤ i by omega)]
      rw [he] <;> rfl

def word (s : List UInt8) : Bool := s.all wB && (!(s == []) && decide (s.length ≤ 128))

theorem t24 (s : List UInt8) : (evn tabC h24 L24 24 [.str s] []).run =
  bif isEn eL24 pL24 ([AV.str s, AV.int IntKind.i64 (↑s.length : Int), AV.int IntKind.i64 (0 : Int)], []) then
   bif alN wB s 0 then
    bif !s == [] then
     some ((AV.bool (decide ((↑s.length : Int) ≤ (128 : Int))), []))
    else
     some ((AV.bool false, []))
   else
    some ((AV.bool false, []))
  else
   none := by kernel_rfl

def c24 : List AV → T AV
  | [.str s] => .leaf (.bool (word s))
  | _ => .fail

theorem e24 (s : List UInt8) (hF : FitsL [.str s]) : (evn tabC h24 L24 24 [.str s] []).run = (.leaf (.bool (word s)) : T AV).run.map fun r => (r, []) := by
  refine (t24 s).trans ?_
  have hb : s.length ≤ bnd := hF.1
  refine (cond_chk (kL24 s 0 ⟨Nat.zero_le _, hb⟩)).trans ?_
  unfold word alN
  simp only [List.drop_zero]
  cases (s.all wB) with
  | false => rfl
  | true =>
    cases (s == []) with
    | true => rfl
    | false =>
      rw [show decide ((s.length : Int) ≤ 128) = decide (s.length ≤ 128) by rw [decide_eq_decide]; omega]
      rfl

theorem s24 : Sound1 Try.prog ⟨24, true, pcon c24⟩ := by
  refine sound_pureH (m := 20) (k := 9) (hn := h24) (Λ := L24) (soundTab_of all_tabC) H0 (oneLoop (by kernel_rfl) l24) fun args r hF h => ?_
  unfold c24 at h
  split at h
  · rename_i s
    have he := e24 s hF
    rw [he, h]; rfl
  · cases h

noncomputable def tabD : Tab := ⟨24, true, pcon c24⟩ :: tabC

theorem all_tabD : ∀ e, e ∈ tabD → Sound1 Try.prog e := (sound_mem_tab s24 all_tabC)

theorem ok_tabD : SoundTab Try.prog tabD := soundTab_of all_tabD

structure Pk where
  nm : List UInt8
  vr : List UInt8

instance : Inhabited Pk := ⟨⟨[], []⟩⟩

def strOf : AV → List UInt8
  | .str s => s
  | _ => []

def rowK (f : Nat → Pk) : Nat → Nat → AV := fun i c => match c with
  | 0 => .str (f i).nm
  | 1 => .str (f i).vr
  | _ => .junk

def unK (g : Nat → Nat → AV) : Nat → Pk := fun i => ⟨strOf (g i 0), strOf (g i 1)⟩

theorem unK_rowK (f : Nat → Pk) : unK (rowK f) = f := rfl

def fbad (q : Nat → Bool) : Nat → Nat → Nat
  | 0, i => i
  | k + 1, i => bif q i then fbad q k (i + 1) else i

theorem fbad_step {q : Nat → Bool} {n i : Nat} (h : i < n) : fbad q (n - i) i = bif q i then fbad q (n - (i + 1)) (i + 1) else i := by
  obtain ⟨k, hk⟩ : ∃ k, n - i = k + 1 := ⟨n - i - 1, by omega⟩
  rw [hk, show n - (i + 1) = k by omega]
  rfl

/-! ### Fit -/

def okK (f : Nat → Pk) (i : Nat) : Bool := word (f i).nm && (word (f i).vr && (i == 0 || abytesLess (f (i - 1)).nm (f i).nm))

structure Y16 where
  n : Nat
  f : Nat → Pk
  i : Nat

def eL16 : Y16 → List AV × Hp := fun ⟨n, f, i⟩ => ([.sl 2 n (rowK f), .sl 2 n (rowK f), .int .i64 n, .int .i64 i], [])

def dL16 : List AV × Hp → Y16
  | ([.sl _ n f_g, .sl _ _ _, .int .i64 _, .int .i64 i], []) => ⟨n, unK f_g, i.toNat⟩
  | _ => ⟨default, default, default⟩

def pL16 : Y16 → Prop := fun ⟨n, f, i⟩ => i ≤ n ∧ n ≤ bnd

def rL16 : Y16 → T (AX × St) := fun ⟨n, f, i⟩ => .br (decide (fbad (okK f) (n - i) i < n)) (.leaf (.ret, { tm := tmOf 38 [(2, .bool false)], ms := [], hp := [some (.cells [.str (f (fbad (okK f) (n - i) i)).nm, .str (f (fbad (okK f) (n - i) i)).vr])] })) (.leaf (.exit 0, { tm := tmOf 38 [(0, .sl 2 n (rowK f)), (5, .sl 2 n (rowK f)), (6, .int .i64 n), (7, .int .i64 n), (8, .bool false)], ms := [], hp := [] }))

noncomputable def L16 : LoopT := fun k => match Nat.beq k 200053 with
  | true => some (lccon (mbits 225 38) eL16 dL16 pL16 rL16)
  | false => none

theorem iL16 : ∀ x, dL16 (eL16 x) = x := by
  rintro ⟨n, f, i⟩
  simp only [eL16, dL16, Int.toNat_natCast, unK_rowK]

theorem kL16 (n : Nat) (f : Nat → Pk) (i : Nat) (h : i ≤ n ∧ n ≤ bnd) : isEn eL16 pL16 ([.sl 2 n (rowK f), .sl 2 n (rowK f), .int .i64 n, .int .i64 i], []) = true := isEn_true (enc := eL16) (p := pL16) ⟨n, f, i⟩ h

theorem zL16 (n : Nat) (f : Nat → Pk) (h : pL16 ⟨n, f, 0⟩) : isEn eL16 pL16 ([.sl 2 n (rowK f), .sl 2 n (rowK f), .int .i64 n, .int .i64 (0 : Int)], []) = true := isEn_true (enc := eL16) (p := pL16) ⟨n, f, 0⟩ h

theorem q16 (n : Nat) (f : Nat → Pk) (i : Nat) : (rdn tabD h16 L16 16 0 0 { tm := encGo (mbits 225 38) [.sl 2 n (rowK f), .sl 2 n (rowK f), .int .i64 n, .int .i64 i], ms := [], hp := [] }).run =
  bif decide ((↑i : Int) < (↑n : Int)) then
   bif decide ((0 : Int) ≤ (↑i : Int) ∧ (↑i : Int) < (↑n : Int)) then
    bif !word (f (↑i : Int).toNat).nm then
     some ((AX.ret, { tm := tmOf 38 [(2, AV.bool false)], ms := [], hp := [some (AObj.cells [AV.str (f (↑i : Int).toNat).nm, AV.str (f (↑i : Int).toNat).vr])] }))
    else
     bif !word (f (↑i : Int).toNat).vr then
      some ((AX.ret, { tm := tmOf 38 [(2, AV.bool false)], ms := [], hp := [some (AObj.cells [AV.str (f (↑i : Int).toNat).nm, AV.str (f (↑i : Int).toNat).vr])] }))
     else
      bif decide ((↑i : Int) > (0 : Int)) then
       bif decide ((0 : Int) ≤ IntKind.i64.wrap ((↑i : Int) - (1 : Int)) ∧ IntKind.i64.wrap ((↑i : Int) - (1 : Int)) < (↑n : Int)) then
        bif !abytesLess (f (IntKind.i64.wrap ((↑i : Int) - (1 : Int))).toNat).nm (f (↑i : Int).toNat).nm then
         some ((AX.ret, { tm := tmOf 38 [(2, AV.bool false)], ms := [], hp := [some (AObj.cells [AV.str (f (↑i : Int).toNat).nm, AV.str (f (↑i : Int).toNat).vr])] }))
        else
         some ((AX.normal, { tm := tmOf 38 [(0, AV.sl 2 n (rowK f)), (5, AV.sl 2 n (rowK f)), (6, AV.int IntKind.i64 (↑n : Int)), (7, AV.int IntKind.i64 (IntKind.i64.wrap ((↑i : Int) + (1 : Int))))], ms := [], hp := [] }))
       else
        none
      else
       some ((AX.normal, { tm := tmOf 38 [(0, AV.sl 2 n (rowK f)), (5, AV.sl 2 n (rowK f)), (6, AV.int IntKind.i64 (↑n : Int)), (7, AV.int IntKind.i64 (IntKind.i64.wrap ((↑i : Int) + (1 : Int))))], ms := [], hp := [] }))
   else
    none
  else
   some ((AX.exit 0, { tm := tmOf 38 [(0, AV.sl 2 n (rowK f)), (5, AV.sl 2 n (rowK f)), (6, AV.int IntKind.i64 (↑n : Int)), (7, AV.int IntKind.i64 (↑i : Int)), (8, AV.bool false)], ms := [], hp := [] })) := by kernel_rfl

theorem l16 : LoopOk Try.prog tabD.pf (fun n => hd Try.prog tabD.pf tabD.con.run (fun f => (H0 f).to) n 9) h16.to 16 0 none L16 (loopAt Try.prog 16 0) := by
  rw [show loopAt Try.prog 16 0 = .loop (lbody Try.prog 16 0) by kernel_rfl]
  refine loop_c (hdT_le (m := 20) 9) (m := 20) (lv := mbits 225 38) (p := pL16) (res := rL16) iL16 (within_of _ (by rw [show loopsOf (lbody Try.prog 16 0) = [] by kernel_rfl]; simp)) (by kernel_rfl) (fun ⟨n, f, i⟩ => n - i) ?_
  rintro ⟨n, f, i⟩ hp
  have ht := q16 n f i
  obtain ⟨h1, h2⟩ := hp
  have hb := h2
  simp only [bnd] at hb
  by_cases hl : i < n
  · have hd := fbad_step (q := okK f) hl
    have ht2 : (rdn tabD h16 L16 16 0 0 { tm := encGo (mbits 225 38) [.sl 2 n (rowK f), .sl 2 n (rowK f), .int .i64 n, .int .i64 i], ms := [], hp := [] }).run =
        bif okK f i then some (.normal, { tm := tmOf 38 [(0, .sl 2 n (rowK f)), (5, .sl 2 n (rowK f)), (6, .int .i64 n), (7, .int .i64 (i + 1 : Nat))], ms := [], hp := [] })
        else some (.ret, { tm := tmOf 38 [(2, .bool false)], ms := [], hp := [some (.cells [.str (f i).nm, .str (f i).vr])] }) := by
      refine ht.trans ?_
      rw [decide_eq_true (show (i : Int) < n by omega), in_row hl, Int.toNat_natCast, w64n (by omega)]
      unfold okK
      cases word (f i).nm
      · rfl
      · cases word (f i).vr
        · rfl
        · cases i with
          | zero => rfl
          | succ k =>
            rw [decide_eq_true (show ((k + 1 : Nat) : Int) > 0 by omega), show ((k + 1 : Nat) : Int) - 1 = (k : Nat) by omega, w64 (n := (k : Nat)) (by omega) (by omega), in_row (show k < n by omega), Int.toNat_natCast]
            simp only [cond_true, Nat.add_sub_cancel, Bool.not_true, cond_false]
            cases abytesLess (f k).nm (f (k + 1)).nm <;> rfl
    cases hq : okK f i with
    | true =>
      rw [hq] at ht2 hd
      rw [cond_true] at hd
      left
      refine ⟨⟨n, f, i + 1⟩, ⟨by omega, h2⟩, by simp only; omega, ?_, ht2⟩
      simp only [rL16, T.run_br, hd]
    | false =>
      rw [hq] at ht2 hd
      rw [cond_false] at hd
      right
      refine ⟨_, ?_, ?_, ht2⟩
      · simp
      · simp only [rL16, T.run_br, hd, decide_eq_true hl] <;> rfl
  · have he : i = n := by omega
    right
    subst he
    rw [decide_eq_false (show ¬ (i : Int) < i by omega)] at ht
    refine ⟨_, ?_, ?_, ht⟩
    · simp
    · simp only [rL16, T.run_br, Nat.sub_self, fbad, decide_eq_false (Nat.lt_irrefl i)] <;> rfl

def fitK (f : Nat → Pk) (n : Nat) : Bool := decide (¬ fbad (okK f) n 0 < n)

theorem t16 (n : Nat) (f : Nat → Pk) : (evn tabD h16 L16 16 [.sl 2 n (rowK f)] []).run =
  bif isEn eL16 pL16 ([AV.sl 2 n (rowK f), AV.sl 2 n (rowK f), AV.int IntKind.i64 (↑n : Int), AV.int IntKind.i64 (0 : Int)], []) then
   bif decide (fbad (okK (unK (rowK f))) (n - 0) 0 < n) then
    some ((AV.bool false, []))
   else
    some ((AV.bool true, []))
  else
   none := by kernel_rfl

structure X16 where
  n : Nat
  f : Nat → Pk

def en16 : X16 → List AV := fun ⟨n, f⟩ => [.sl 2 n (rowK f)]

def de16 : List AV → X16
  | [.sl _ n f_g] => ⟨n, unK f_g⟩
  | _ => ⟨default, default⟩

def p16 : X16 → Prop := fun ⟨n, f⟩ => n ≤ bnd

def rs16 : X16 → T AV := fun ⟨n, f⟩ => .leaf (.bool (fitK f n))

noncomputable def c16 : List AV → T AV := ccon en16 de16 p16 rs16

theorem in16 : ∀ x, de16 (en16 x) = x := by
  rintro ⟨n, f⟩
  simp only [en16, de16, Int.toNat_natCast, unK_rowK]

theorem k16 (n : Nat) (f : Nat → Pk) (h : n ≤ bnd) : isEn en16 p16 [.sl 2 n (rowK f)] = true := isEn_true (enc := en16) (p := p16) ⟨n, f⟩ h

theorem e16 (n : Nat) (f : Nat → Pk) (hF : FitsL [.sl 2 n (rowK f)]) (hp : n ≤ bnd) : (evn tabD h16 L16 16 [.sl 2 n (rowK f)] []).run = (.leaf (.bool (fitK f n)) : T AV).run.map fun r => (r, []) := by
  refine (t16 n f).trans ?_
  rw [cond_chk (zL16 n f ⟨Nat.zero_le _, hp⟩)]
  rw [unK_rowK, Nat.sub_zero]
  unfold fitK
  by_cases hb : fbad (okK f) n 0 < n
  · rw [decide_eq_true hb, decide_eq_false (fun q => q hb)]; rfl
  · rw [decide_eq_false hb, decide_eq_true hb]; rfl

theorem s16 : Sound1 Try.prog ⟨16, true, pcon c16⟩ := by
  refine sound_c (soundTab_of all_tabD) H0 in16 (hn := h16) (m := 20) (k := 9) (Λ := L16) (oneLoop (by kernel_rfl) l16) ?_
  rintro ⟨n, f⟩ hp hF
  exact e16 n f hF hp

noncomputable def tabE : Tab := ⟨16, true, pcon c16⟩ :: tabD

theorem all_tabE : ∀ e, e ∈ tabE → Sound1 Try.prog e := (sound_mem_tab s16 all_tabD)

theorem ok_tabE : SoundTab Try.prog tabE := soundTab_of all_tabE
end Go.Pln

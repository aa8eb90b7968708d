/-
  Joined texts: Rd11, OpenS2, ElemRt, LawRtTexts.
-/
import Derived.Test.YtpmoepipoafegaaGreatDoorMRoutesTexts13
import Derived.Test.YtpmoepipoafegaaGreatDoorMRoutesTexts11
import Derived.Test.YtpmoepipoafegaaGreatDoorMRoutesTexts10
import Derived.SizedLaws
import Derived.Test.YtpmoepipoafegaaGreatDoorMRoutesTexts7
import Derived.Deep.Fields
import Derived.Test.YtpmoepipoafegaaGreatDoorMRoutesTexts12
import Derived.Deep.DeepCutAuto
/-
  The document's CmpAdvert at like adverts (written by wip/gen/genrd11.py).
-/
namespace Go.Proofs.YtpmoepipoafegaaGreatDoor
open Go Go.RowKit Go.Sort

/-- What the operations of CmpAdvert's region wait for, write and look at. -/
def rows14 : List ORow := [(0, 32, 4, true), (1, 64, 32, true), (0, 128, 8, true), (4, 256, 128, true), (10, 512, 320, false), (0, 1024, 4, true), (32, 2048, 1024, true), (0, 4096, 8, true), (128, 8192, 4096, true), (320, 16384, 10240, true), (0, 32768, 4, true), (1024, 65536, 32768, true), (0, 131072, 8, true), (4096, 262144, 131072, true), (10240, 524288, 327680, true), (16912, 1048576, 540672, false), (0, 2097152, 4, true), (65536, 4194304, 2097152, true), (0, 8388608, 8, true), (262144, 16777216, 8388608, true), (655360, 33554432, 20971520, true), (0, 67108864, 4, true), (2097152, 134217728, 67108864, true), (0, 268435456, 8, true), (8388608, 536870912, 268435456, true), (20971520, 1073741824, 671088640, true), (34635776, 2147483648, 1107296256, false), (0, 4294967296, 4, true), (134217728, 8589934592, 4294967296, true), (0, 17179869184, 8, true), (536870912, 34359738368, 17179869184, true), (1342177280, 68719476736, 42949672960, true), (0, 137438953472, 4, true), (4294967296, 274877906944, 137438953472, true), (0, 549755813888, 8, true), (17179869184, 1099511627776, 549755813888, true), (42949672960, 2199023255552, 1374389534720, true), (70934069248, 4398046511104, 2267742732288, false), (0, 8796093022208, 4, true), (274877906944, 17592186044416, 8796093022208, true), (0, 35184372088832, 8, true), (1099511627776, 70368744177664, 35184372088832, true), (2748779069440, 140737488355328, 87960930222080, true), (0, 281474976710656, 4, true), (8796093022208, 562949953421312, 281474976710656, true), (0, 1125899906842624, 8, true), (35184372088832, 2251799813685248, 1125899906842624, true), (87960930222080, 4503599627370496, 2814749767106560, true), (145272973819904, 9007199254740992, 4644337115725824, false), (0, 18014398509481984, 4, true), (562949953421312, 36028797018963968, 18014398509481984, true), (0, 72057594037927936, 8, true), (2251799813685248, 144115188075855872, 72057594037927936, true), (5629499534213120, 288230376151711744, 180143985094819840, true), (0, 576460752303423488, 4, true), (18014398509481984, 1152921504606846976, 576460752303423488, true), (0, 2305843009213693952, 8, true), (72057594037927936, 4611686018427387904, 2305843009213693952, true), (180143985094819840, 9223372036854775808, 5764607523034234880, true), (297519050383163392, 18446744073709551616, 9511602413006487552, false), (0, 36893488147419103232, 4, true), (1152921504606846976, 73786976294838206464, 36893488147419103232, true), (0, 147573952589676412928, 8, true), (4611686018427387904, 295147905179352825856, 147573952589676412928, true), (11529215046068469760, 590295810358705651712, 368934881474191032320, true), (0, 1180591620717411303424, 4, true), (36893488147419103232, 2361183241434822606848, 1180591620717411303424, true), (0, 4722366482869645213696, 8, true), (147573952589676412928, 9444732965739290427392, 4722366482869645213696, true), (368934881474191032320, 18889465931478580854784, 11805916207174113034240, true), (609319015184718626816, 37778931862957161709568, 19479761741837286506496, false), (0, 75557863725914323419136, 4, true), (2361183241434822606848, 151115727451828646838272, 75557863725914323419136, true), (4722366482869645213696, 302231454903657293676544, 151115727451828646838272, true), (10625324586456701730816, 604462909807314587353088, 302231454903657293676544, true), (18889465931478580854784, 1208925819614629174706176, 604462909807314587353096, true), (56668397794435742564352, 2417851639229258349412352, 1813388729421943762059264, true), (94447329657392904273920, 4835703278458516698824704, 3022314549036572936765440, true), (0, 9671406556917033397649408, 4, true), (302231454903657293676544, 19342813113834066795298816, 9671406556917033397649408, true), (623352375738793168207872, 38685626227668133590597632, 19342813113834066795298816, true), (1208925819614629174706176, 77371252455336267181195264, 38685626227668133590597640, true), (3626777458843887524118528, 154742504910672534362390528, 116056878683004400771792896, true), (6044629098073145873530880, 309485009821345068724781056, 193428131138340667952988160, true), (10880332376531662572355584, 618970019642690137449562112, 348170636049013202315378688, true), (20702854660900524616843264, 1237940039285380274899124224, 623805722921148654148386816, false), (0, 2475880078570760549798248448, 4, true), (77371252455336267181195264, 4951760157141521099596496896, 2475880078570760549798248448, true), (0, 9903520314283042199192993792, 8, true), (309485009821345068724781056, 19807040628566084398385987584, 9903520314283042199192993792, true), (773712524553362671811952640, 39614081257132168796771975168, 24758800785707605497982484480, true), (0, 79228162514264337593543950336, 4, true), (2475880078570760549798248448, 158456325028528675187087900672, 79228162514264337593543950336, true), (0, 316912650057057350374175801344, 8, true), (9903520314283042199192993792, 633825300114114700748351602688, 316912650057057350374175801344, true), (24758800785707605497982484480, 1267650600228229401496703205376, 792281625142643375935439503360, true), (40890706922645217205261697024, 2535301200456458802993406410752, 1307264681485361570293475180544, false), (0, 5070602400912917605986812821504, 4, true), (158456325028528675187087900672, 10141204801825835211973625643008, 5070602400912917605986812821504, true), (0, 20282409603651670423947251286016, 8, true), (633825300114114700748351602688, 40564819207303340847894502572032, 20282409603651670423947251286016, true), (1663791412799551089464422957056, 81129638414606681695789005144064, 50706024009129176059868128215040, false), (0, 162259276829213363391578010288128, 4, true), (5070602400912917605986812821504, 324518553658426726783156020576256, 162259276829213363391578010288128, true), (0, 649037107316853453566312041152512, 8, true), (20282409603651670423947251286016, 1298074214633706907132624082305024, 649037107316853453566312041152512, true), (53241325209585634862861534625792, 2596148429267413814265248164610048, 1622592768292133633915780102881280, false), (0, 5192296858534827628530496329220096, 4, true), (162259276829213363391578010288128, 10384593717069655257060992658440192, 5192296858534827628530496329220096, true), (405648192073033408478945025720320, 20769187434139310514121985316880384, 10384593717069655257060992658440192, false), (0, 41538374868278621028243970633760768, 8, true), (1298074214633706907132624082305024, 83076749736557242056487941267521536, 41538374868278621028243970633760768, true), (3245185536584267267831560205762560, 166153499473114484112975882535043072, 83076749736557242056487941267521536, false), (5841333965851681082096808370372608, 332306998946228968225951765070086144, 186922686907253794627097867851923456, false), (10468337923534040057928584402075664, 664613997892457936451903530140172288, 334986813553089281853714700866421248, false), (31153781151208965771182977975320576, 1329227995784915872903807060280344576, 664613997892457936451903530140172288, false), (83076749736557242056487941267521535, 16, 1329227995784915872903807060280344576, true)]
theorem Rd.below2 {w w' : World} {k : Nat} {v : Value} {n : Nat} {xs : List Value} (h : Rd w w.heap.size k v n xs) (hb : Below w.heap.size w w') : Rd w' w'.heap.size k v n xs := (h.below hb).mono hb.size
set_option maxRecDepth 100000 in
set_option maxHeartbeats 8000000 in
theorem refCmpA_true (a m ho pf me pe id og ss : Int) (pa co cl : List Int) (vp vo vl up uo ul : Value) (w : World)
    (h1 : Rd w w.heap.size 1 vp pa.length (pa.map (Value.int .u32))) (h2 : Rd w w.heap.size 1 up pa.length (pa.map (Value.int .u32))) (h3 : Rd w w.heap.size 1 vo co.length (co.map (Value.int .u32))) (h4 : Rd w w.heap.size 1 uo co.length (co.map (Value.int .u32))) (h5 : Rd w w.heap.size 1 vl cl.length (cl.map (Value.int .u32))) (h6 : Rd w w.heap.size 1 ul cl.length (cl.map (Value.int .u32))) (hlen : pa.length + co.length + cl.length ≤ 1000000) :
    Calls Tryz.prog 14 #[.agg #[.int .u32 a, .int .i64 m, .int .u32 ho, .int .i64 pf, .int .i64 me, vp, vo, .int .u32 pe, .int .u32 id, .bool true, .int .u32 og, vl, .int .i64 ss], .agg #[.int .u32 a, .int .i64 m, .int .u32 ho, .int .i64 pf, .int .i64 me, up, uo, .int .u32 pe, .int .u32 id, .bool true, .int .u32 og, ul, .int .i64 ss]] w fun e w' => e = .returned (.int .i64 0) ∧ Below w.heap.size w w' := by
  obtain ⟨k0, k1⟩ := blk2 w (.cells #[.int .u32 a, .int .i64 m, .int .u32 ho, .int .i64 pf, .int .i64 me, vp, vo, .int .u32 pe, .int .u32 id, .bool true, .int .u32 og, vl, .int .i64 ss] 31) (.cells #[.int .u32 a, .int .i64 m, .int .u32 ho, .int .i64 pf, .int .i64 me, up, uo, .int .u32 pe, .int .u32 id, .bool true, .int .u32 og, ul, .int .i64 ss] 31)
  have hb0 := below2 w (.cells #[.int .u32 a, .int .i64 m, .int .u32 ho, .int .i64 pf, .int .i64 me, vp, vo, .int .u32 pe, .int .u32 id, .bool true, .int .u32 og, vl, .int .i64 ss] 31) (.cells #[.int .u32 a, .int .i64 m, .int .u32 ho, .int .i64 pf, .int .i64 me, up, uo, .int .u32 pe, .int .u32 id, .bool true, .int .u32 og, ul, .int .i64 ss] 31)
  have HR := Lib.hid (And.intro (h1.below2 hb0) (And.intro (h2.below2 hb0) (And.intro (h3.below2 hb0) (And.intro (h4.below2 hb0) (And.intro (h5.below2 hb0) (h6.below2 hb0))))))
  have lp : pa.length ≤ 9223372036854775807 := by omega
  have lo : co.length ≤ 9223372036854775807 := by omega
  have ll : cl.length ≤ 1000000 := by omega
  have HNO := Lib.hid one_no
  have HPR := Lib.hid (fun W => refPre_same a m W)
  have KNUM := Lib.hid (fun l u v W hu hv hn => numbers_same l u v W hu hv hn)
  have KW := Lib.hid (fun l v W h hn => words_any l v W h hn)
  have KO := Lib.hid (fun n v W h hn => firstZ n v W h hn)
  have e1 : ¬ ss < ss := by omega
  have e2 : ¬ pf < pf := by omega
  have e3 : ¬ me < me := by omega
  have e4 : ¬ ho < ho := by omega
  have e5 : ¬ pe < pe := by omega
  have e6 : ¬ id < id := by omega
  have e7 : ¬ og < og := by omega
  clear h1 h2 h3 h4 h5 h6 hlen
  go_enter Tryz.func14, Tryz.ntmps14
  go_upto_region 1 with fail
  obtain ⟨c0, c1, c2, c3, c4, c5, c6, c7, c8, c9, c10, c11, c12⟩ := blk13 (t := 31) k0
  obtain ⟨d0, d1, d2, d3, d4, d5, d6, d7, d8, d9, d10, d11, d12⟩ := blk13 (t := 31) k1
  clear k0 k1
  generalize (w.alloc (.cells #[.int .u32 a, .int .i64 m, .int .u32 ho, .int .i64 pf, .int .i64 me, vp, vo, .int .u32 pe, .int .u32 id, .bool true, .int .u32 og, vl, .int .i64 ss] 31)).alloc (.cells #[.int .u32 a, .int .i64 m, .int .u32 ho, .int .i64 pf, .int .i64 me, up, uo, .int .u32 pe, .int .u32 id, .bool true, .int .u32 og, ul, .int .i64 ss] 31) = W at *
  generalize (Value.agg #[.int .u32 a, .int .i64 m, .int .u32 ho, .int .i64 pf, .int .i64 me, vp, vo, .int .u32 pe, .int .u32 id, .bool true, .int .u32 og, vl, .int .i64 ss] : Value) = va at *
  generalize (Value.agg #[.int .u32 a, .int .i64 m, .int .u32 ho, .int .i64 pf, .int .i64 me, up, uo, .int .u32 pe, .int .u32 id, .bool true, .int .u32 og, ul, .int .i64 ss] : Value) = vb at *
  try dsimp only [List.append]
  try simp only [List.cons_append, List.nil_append]
  have F0 := cell_regrown c0
  have F1 := cell_regrown c1
  have F2 := cell_regrown c2
  have F3 := cell_regrown c3
  have F4 := cell_regrown c4
  have F5 := cell_regrown c5
  have F6 := cell_regrown c6
  have F7 := cell_regrown c7
  have F8 := cell_regrown c8
  have F9 := cell_regrown c9
  have F10 := cell_regrown c10
  have F11 := cell_regrown c11
  have F12 := cell_regrown c12
  have G0 := cell_regrown d0
  have G1 := cell_regrown d1
  have G2 := cell_regrown d2
  have G3 := cell_regrown d3
  have G4 := cell_regrown d4
  have G5 := cell_regrown d5
  have G6 := cell_regrown d6
  have G7 := cell_regrown d7
  have G8 := cell_regrown d8
  have G9 := cell_regrown d9
  have G10 := cell_regrown d10
  have G11 := cell_regrown d11
  have G12 := cell_regrown d12
  refine wp_region_mixF [(0, false), (1, false), (2, false), (3, false), (5, false), (6, false), (7, false), (8, false), (9, false), (10, false), (11, false), (12, false), (13, false), (14, false), (16, false), (17, false), (18, false), (19, false), (20, false), (21, false), (22, false), (23, false), (24, false), (25, false), (27, false), (28, false), (29, false), (30, false), (31, false), (32, false), (33, false), (34, false), (35, false), (36, false), (38, false), (39, false), (40, false), (41, false), (42, false), (43, false), (44, false), (45, false), (46, false), (47, false), (49, false), (50, false), (51, false), (52, false), (53, false), (54, false), (55, false), (56, false), (57, false), (58, false), (60, false), (61, false), (62, false), (63, false), (64, false), (65, false), (66, false), (67, false), (68, false), (69, false), (71, false), (72, false), (73, false), (78, false), (79, false), (86, false), (87, false), (88, false), (89, false), (90, false), (91, false), (92, false), (93, false), (94, false), (95, false), (97, false), (98, false), (99, false), (100, false), (102, false), (103, false), (104, false), (105, false), (107, false), (108, false), (110, false), (111, false), (4, true), (15, true), (26, true), (37, true), (48, true), (59, true), (70, true), (74, false), (75, false), (76, false), (77, false), (80, false), (81, false), (82, false), (83, false), (84, false), (85, true), (96, true), (101, true), (106, true), (109, true), (112, true), (113, true), (114, true), (115, true), (116, false)] rows14 (by kernel_rfl) (by kernel_rfl) ?_
  have hv0 := below_drawn W
  generalize { W with drawn := W.drawn + 1 } = V0 at *
  refine mix_take [0, 1, 2, 3, 5, 6, 7, 8, 9, 10, 11, 12, 13, 14, 16, 17, 18, 19, 20, 21, 22, 23, 24, 25, 27, 28, 29, 30, 31, 32, 33, 34, 35, 36, 38, 39, 40, 41, 42, 43, 44, 45, 46, 47, 49, 50, 51, 52, 53, 54, 55, 56, 57, 58, 60, 61, 62, 63, 64, 65, 66, 67, 68, 69, 71, 72, 73, 78, 79, 86, 87, 88, 89, 90, 91, 92, 93, 94, 95, 97, 98, 99, 100, 102, 103, 104, 105, 107, 108, 110, 111] [_, _, _, _, _, _, _, _, _, _, _, _, _, _, _, _, _, _, _, _, _, _, _, _, _, _, _, _, _, _, _, _, _, _, _, _, _, _, _, _, _, _, _, _, _, _, _, _, _, _, _, _, _, _, _, _, _, _, _, _, _, _, _, _, _, _, _, _, _, _, _, _, _, _, _, _, _, _, _, _, _, _, _, _, _, _, _, _, _, _, _] rfl rfl ?_
  simp only [List.getElem_toArray, List.getElem_cons_zero, List.getElem_cons_succ]
  repeat (go_big_quiet_step (fail))
  refine wpQuiet_nil ?_
  refine mix_bar rfl (by rfl) ?_
  simp only [List.getElem_toArray, List.getElem_cons_zero, List.getElem_cons_succ]
  go_simp
  refine (HPR.out V0).mono ?_
  rintro e V1 ⟨rfl, hb⟩
  have hv1 := below_call hv0 hb
  refine ⟨regrown_of_below hv1, ?_⟩
  clear hb
  clear F0 G0 F1 G1 F2 G2 F3 G3 F4 G4 F5 G5 F6 G6 F7 G7 F8 G8 F10 G10 F11 G11 F12 G12
  refine mix_bar rfl (by rfl) ?_
  simp only [List.getElem_toArray, List.getElem_cons_zero, List.getElem_cons_succ]
  go_simp
  refine (HNO.out V1).mono ?_
  rintro e V2 ⟨rfl, hb⟩
  have hv2 := below_call hv1 hb
  refine ⟨regrown_of_below hv2, ?_⟩
  clear hb
  refine mix_bar rfl (by rfl) ?_
  simp only [List.getElem_toArray, List.getElem_cons_zero, List.getElem_cons_succ]
  go_simp
  refine (HNO.out V2).mono ?_
  rintro e V3 ⟨rfl, hb⟩
  have hv3 := below_call hv2 hb
  refine ⟨regrown_of_below hv3, ?_⟩
  clear hb
  refine mix_bar rfl (by rfl) ?_
  simp only [List.getElem_toArray, List.getElem_cons_zero, List.getElem_cons_succ]
  go_simp
  refine (HNO.out V3).mono ?_
  rintro e V4 ⟨rfl, hb⟩
  have hv4 := below_call hv3 hb
  refine ⟨regrown_of_below hv4, ?_⟩
  clear hb
  refine mix_bar rfl (by rfl) ?_
  simp only [List.getElem_toArray, List.getElem_cons_zero, List.getElem_cons_succ]
  go_simp
  refine (HNO.out V4).mono ?_
  rintro e V5 ⟨rfl, hb⟩
  have hv5 := below_call hv4 hb
  refine ⟨regrown_of_below hv5, ?_⟩
  clear hb
  refine mix_bar rfl (by rfl) ?_
  simp only [List.getElem_toArray, List.getElem_cons_zero, List.getElem_cons_succ]
  go_simp
  refine (HNO.out V5).mono ?_
  rintro e V6 ⟨rfl, hb⟩
  have hv6 := below_call hv5 hb
  refine ⟨regrown_of_below hv6, ?_⟩
  clear hb
  refine mix_bar rfl (by rfl) ?_
  simp only [List.getElem_toArray, List.getElem_cons_zero, List.getElem_cons_succ]
  go_simp
  refine (HNO.out V6).mono ?_
  rintro e V7 ⟨rfl, hb⟩
  have hv7 := below_call hv6 hb
  refine ⟨regrown_of_below hv7, ?_⟩
  clear hb
  refine mix_take [74, 75, 76, 77, 80, 81, 82, 83, 84] [_, _, _, _, _, _, _, _, _] rfl rfl ?_
  simp only [List.getElem_toArray, List.getElem_cons_zero, List.getElem_cons_succ]
  repeat (go_big_quiet_step (fail))
  refine wpQuiet_nil ?_
  refine mix_bar rfl (by rfl) ?_
  simp only [List.getElem_toArray, List.getElem_cons_zero, List.getElem_cons_succ]
  go_simp
  refine (HNO.out V7).mono ?_
  rintro e V8 ⟨rfl, hb⟩
  have hv8 := below_call hv7 hb
  refine ⟨regrown_of_below hv8, ?_⟩
  clear hb
  refine mix_bar rfl (by rfl) ?_
  simp only [List.getElem_toArray, List.getElem_cons_zero, List.getElem_cons_succ]
  go_simp
  refine (HNO.out V8).mono ?_
  rintro e V9 ⟨rfl, hb⟩
  have hv9 := below_call hv8 hb
  refine ⟨regrown_of_below hv9, ?_⟩
  clear hb
  refine mix_bar rfl (by rfl) ?_
  simp only [List.getElem_toArray, List.getElem_cons_zero, List.getElem_cons_succ]
  go_simp
  refine (KNUM.out pa vp up V9 (HR.out.1.below2 hv9) (HR.out.2.1.below2 hv9) lp).mono ?_
  rintro e V10 ⟨rfl, hb⟩
  have hv10 := below_call hv9 hb
  refine ⟨regrown_of_below hv10, ?_⟩
  clear hb
  refine mix_bar rfl (by rfl) ?_
  simp only [List.getElem_toArray, List.getElem_cons_zero, List.getElem_cons_succ]
  go_simp
  refine (KNUM.out co vo uo V10 (HR.out.2.2.1.below2 hv10) (HR.out.2.2.2.1.below2 hv10) lo).mono ?_
  rintro e V11 ⟨rfl, hb⟩
  have hv11 := below_call hv10 hb
  refine ⟨regrown_of_below hv11, ?_⟩
  clear hb
  refine mix_bar rfl (by rfl) ?_
  simp only [List.getElem_toArray, List.getElem_cons_zero, List.getElem_cons_succ]
  go_simp
  refine (KW.out cl vl V11 (HR.out.2.2.2.2.1.below2 hv11) ll).mono ?_
  rintro e V12 ⟨y0, rfl, own0, hb⟩
  have hv12 := below_call hv11 hb

  have ry0 := Rd.of_own own0
  refine ⟨regrown_of_below hv12, ?_⟩
  clear hb own0
  refine mix_bar rfl (by rfl) ?_
  simp only [List.getElem_toArray, List.getElem_cons_zero, List.getElem_cons_succ]
  go_simp
  refine (KW.out cl ul V12 (HR.out.2.2.2.2.2.below2 hv12) ll).mono ?_
  rintro e V13 ⟨y1, rfl, own1, hb⟩
  have hv13 := below_call hv12 hb
  have ry0 := (ry0.below hb).mono hb.size
  have ry1 := Rd.of_own own1
  refine ⟨regrown_of_below hv13, ?_⟩
  clear hb own1
  refine mix_bar rfl (by rfl) ?_
  simp only [List.getElem_toArray, List.getElem_cons_zero, List.getElem_cons_succ]
  go_simp
  refine (KNUM.out cl y0 y1 V13 ry0 ry1 (Nat.le_trans ll (by decide))).mono ?_
  rintro e V14 ⟨rfl, hb⟩
  have hv14 := below_call hv13 hb
  refine ⟨regrown_of_below hv14, ?_⟩
  clear hb
  refine mix_bar rfl (by rfl) ?_
  simp only [List.getElem_toArray, List.getElem_cons_zero, List.getElem_cons_succ]
  go_simp
  have hg := heap_alloc_new V14 (.cells #[.int .i64 0, .int .i64 0, .int .i64 0, .int .i64 0, .int .i64 0, .int .i64 0, .int .i64 0, .int .i64 0, .int .i64 0, .int .i64 0, .int .i64 0, .int .i64 0] 3)
  have hv15 := hv14.alloc hv14.size (.cells #[.int .i64 0, .int .i64 0, .int .i64 0, .int .i64 0, .int .i64 0, .int .i64 0, .int .i64 0, .int .i64 0, .int .i64 0, .int .i64 0, .int .i64 0, .int .i64 0] 3)
  refine ⟨regrown_of_below hv15, ?_⟩
  generalize V14.alloc (.cells #[.int .i64 0, .int .i64 0, .int .i64 0, .int .i64 0, .int .i64 0, .int .i64 0, .int .i64 0, .int .i64 0, .int .i64 0, .int .i64 0, .int .i64 0, .int .i64 0] 3) = V15 at *
  refine mix_bar rfl (by rfl) ?_
  simp only [List.getElem_toArray, List.getElem_cons_zero, List.getElem_cons_succ]
  go_simp
  refine (KO.out 12 _ V15 (Rd.of_blk (cs := #[.int .i64 0, .int .i64 0, .int .i64 0, .int .i64 0, .int .i64 0, .int .i64 0, .int .i64 0, .int .i64 0, .int .i64 0, .int .i64 0, .int .i64 0, .int .i64 0]) (t := 3) hg (Nat.le_refl _) rfl) (by decide)).mono ?_
  rintro e V16 ⟨rfl, hb⟩
  have hv16 := below_call hv15 hb
  refine ⟨regrown_of_below hv16, ?_⟩
  clear hb
  refine mix_take [116] [_] rfl rfl ?_
  simp only [List.getElem_toArray, List.getElem_cons_zero, List.getElem_cons_succ]
  repeat (go_big_quiet_step (fail))
  refine wpQuiet_nil ?_
  refine mix_end ?_
  go_wp2
  go_ret
  exact ⟨rfl, below_call hb0 hv16⟩
set_option maxRecDepth 100000 in
set_option maxHeartbeats 8000000 in
theorem refCmpA_false (a m ho pf me pe id og ss : Int) (pa co cl : List Int) (vp vo vl up uo ul : Value) (w : World)
    (h1 : Rd w w.heap.size 1 vp pa.length (pa.map (Value.int .u32))) (h2 : Rd w w.heap.size 1 up pa.length (pa.map (Value.int .u32))) (h3 : Rd w w.heap.size 1 vo co.length (co.map (Value.int .u32))) (h4 : Rd w w.heap.size 1 uo co.length (co.map (Value.int .u32))) (h5 : Rd w w.heap.size 1 vl cl.length (cl.map (Value.int .u32))) (h6 : Rd w w.heap.size 1 ul cl.length (cl.map (Value.int .u32))) (hlen : pa.length + co.length + cl.length ≤ 1000000) :
    Calls Tryz.prog 14 #[.agg #[.int .u32 a, .int .i64 m, .int .u32 ho, .int .i64 pf, .int .i64 me, vp, vo, .int .u32 pe, .int .u32 id, .bool false, .int .u32 og, vl, .int .i64 ss], .agg #[.int .u32 a, .int .i64 m, .int .u32 ho, .int .i64 pf, .int .i64 me, up, uo, .int .u32 pe, .int .u32 id, .bool false, .int .u32 og, ul, .int .i64 ss]] w fun e w' => e = .returned (.int .i64 0) ∧ Below w.heap.size w w' := by
  obtain ⟨k0, k1⟩ := blk2 w (.cells #[.int .u32 a, .int .i64 m, .int .u32 ho, .int .i64 pf, .int .i64 me, vp, vo, .int .u32 pe, .int .u32 id, .bool false, .int .u32 og, vl, .int .i64 ss] 31) (.cells #[.int .u32 a, .int .i64 m, .int .u32 ho, .int .i64 pf, .int .i64 me, up, uo, .int .u32 pe, .int .u32 id, .bool false, .int .u32 og, ul, .int .i64 ss] 31)
  have hb0 := below2 w (.cells #[.int .u32 a, .int .i64 m, .int .u32 ho, .int .i64 pf, .int .i64 me, vp, vo, .int .u32 pe, .int .u32 id, .bool false, .int .u32 og, vl, .int .i64 ss] 31) (.cells #[.int .u32 a, .int .i64 m, .int .u32 ho, .int .i64 pf, .int .i64 me, up, uo, .int .u32 pe, .int .u32 id, .bool false, .int .u32 og, ul, .int .i64 ss] 31)
  have HR := Lib.hid (And.intro (h1.below2 hb0) (And.intro (h2.below2 hb0) (And.intro (h3.below2 hb0) (And.intro (h4.below2 hb0) (And.intro (h5.below2 hb0) (h6.below2 hb0))))))
  have lp : pa.length ≤ 9223372036854775807 := by omega
  have lo : co.length ≤ 9223372036854775807 := by omega
  have ll : cl.length ≤ 1000000 := by omega
  have HNO := Lib.hid one_no
  have HPR := Lib.hid (fun W => refPre_same a m W)
  have KNUM := Lib.hid (fun l u v W hu hv hn => numbers_same l u v W hu hv hn)
  have KW := Lib.hid (fun l v W h hn => words_any l v W h hn)
  have KO := Lib.hid (fun n v W h hn => firstZ n v W h hn)
  have e1 : ¬ ss < ss := by omega
  have e2 : ¬ pf < pf := by omega
  have e3 : ¬ me < me := by omega
  have e4 : ¬ ho < ho := by omega
  have e5 : ¬ pe < pe := by omega
  have e6 : ¬ id < id := by omega
  have e7 : ¬ og < og := by omega
  clear h1 h2 h3 h4 h5 h6 hlen
  go_enter Tryz.func14, Tryz.ntmps14
  go_upto_region 1 with fail
  obtain ⟨c0, c1, c2, c3, c4, c5, c6, c7, c8, c9, c10, c11, c12⟩ := blk13 (t := 31) k0
  obtain ⟨d0, d1, d2, d3, d4, d5, d6, d7, d8, d9, d10, d11, d12⟩ := blk13 (t := 31) k1
  clear k0 k1
  generalize (w.alloc (.cells #[.int .u32 a, .int .i64 m, .int .u32 ho, .int .i64 pf, .int .i64 me, vp, vo, .int .u32 pe, .int .u32 id, .bool false, .int .u32 og, vl, .int .i64 ss] 31)).alloc (.cells #[.int .u32 a, .int .i64 m, .int .u32 ho, .int .i64 pf, .int .i64 me, up, uo, .int .u32 pe, .int .u32 id, .bool false, .int .u32 og, ul, .int .i64 ss] 31) = W at *
  generalize (Value.agg #[.int .u32 a, .int .i64 m, .int .u32 ho, .int .i64 pf, .int .i64 me, vp, vo, .int .u32 pe, .int .u32 id, .bool false, .int .u32 og, vl, .int .i64 ss] : Value) = va at *
  generalize (Value.agg #[.int .u32 a, .int .i64 m, .int .u32 ho, .int .i64 pf, .int .i64 me, up, uo, .int .u32 pe, .int .u32 id, .bool false, .int .u32 og, ul, .int .i64 ss] : Value) = vb at *
  try dsimp only [List.append]
  try simp only [List.cons_append, List.nil_append]
  have F0 := cell_regrown c0
  have F1 := cell_regrown c1
  have F2 := cell_regrown c2
  have F3 := cell_regrown c3
  have F4 := cell_regrown c4
  have F5 := cell_regrown c5
  have F6 := cell_regrown c6
  have F7 := cell_regrown c7
  have F8 := cell_regrown c8
  have F9 := cell_regrown c9
  have F10 := cell_regrown c10
  have F11 := cell_regrown c11
  have F12 := cell_regrown c12
  have G0 := cell_regrown d0
  have G1 := cell_regrown d1
  have G2 := cell_regrown d2
  have G3 := cell_regrown d3
  have G4 := cell_regrown d4
  have G5 := cell_regrown d5
  have G6 := cell_regrown d6
  have G7 := cell_regrown d7
  have G8 := cell_regrown d8
  have G9 := cell_regrown d9
  have G10 := cell_regrown d10
  have G11 := cell_regrown d11
  have G12 := cell_regrown d12
  refine wp_region_mixF [(0, false), (1, false), (2, false), (3, false), (5, false), (6, false), (7, false), (8, false), (9, false), (10, false), (11, false), (12, false), (13, false), (14, false), (16, false), (17, false), (18, false), (19, false), (20, false), (21, false), (22, false), (23, false), (24, false), (25, false), (27, false), (28, false), (29, false), (30, false), (31, false), (32, false), (33, false), (34, false), (35, false), (36, false), (38, false), (39, false), (40, false), (41, false), (42, false), (43, false), (44, false), (45, false), (46, false), (47, false), (49, false), (50, false), (51, false), (52, false), (53, false), (54, false), (55, false), (56, false), (57, false), (58, false), (60, false), (61, false), (62, false), (63, false), (64, false), (65, false), (66, false), (67, false), (68, false), (69, false), (71, false), (72, false), (73, false), (78, false), (79, false), (86, false), (87, false), (88, false), (89, false), (90, false), (91, false), (92, false), (93, false), (94, false), (95, false), (97, false), (98, false), (99, false), (100, false), (102, false), (103, false), (104, false), (105, false), (107, false), (108, false), (110, false), (111, false), (4, true), (15, true), (26, true), (37, true), (48, true), (59, true), (70, true), (74, false), (75, false), (76, false), (77, false), (80, false), (81, false), (82, false), (83, false), (84, false), (85, true), (96, true), (101, true), (106, true), (109, true), (112, true), (113, true), (114, true), (115, true), (116, false)] rows14 (by kernel_rfl) (by kernel_rfl) ?_
  have hv0 := below_drawn W
  generalize { W with drawn := W.drawn + 1 } = V0 at *
  refine mix_take [0, 1, 2, 3, 5, 6, 7, 8, 9, 10, 11, 12, 13, 14, 16, 17, 18, 19, 20, 21, 22, 23, 24, 25, 27, 28, 29, 30, 31, 32, 33, 34, 35, 36, 38, 39, 40, 41, 42, 43, 44, 45, 46, 47, 49, 50, 51, 52, 53, 54, 55, 56, 57, 58, 60, 61, 62, 63, 64, 65, 66, 67, 68, 69, 71, 72, 73, 78, 79, 86, 87, 88, 89, 90, 91, 92, 93, 94, 95, 97, 98, 99, 100, 102, 103, 104, 105, 107, 108, 110, 111] [_, _, _, _, _, _, _, _, _, _, _, _, _, _, _, _, _, _, _, _, _, _, _, _, _, _, _, _, _, _, _, _, _, _, _, _, _, _, _, _, _, _, _, _, _, _, _, _, _, _, _, _, _, _, _, _, _, _, _, _, _, _, _, _, _, _, _, _, _, _, _, _, _, _, _, _, _, _, _, _, _, _, _, _, _, _, _, _, _, _, _] rfl rfl ?_
  simp only [List.getElem_toArray, List.getElem_cons_zero, List.getElem_cons_succ]
  repeat (go_big_quiet_step (fail))
  refine wpQuiet_nil ?_
  refine mix_bar rfl (by rfl) ?_
  simp only [List.getElem_toArray, List.getElem_cons_zero, List.getElem_cons_succ]
  go_simp
  refine (HPR.out V0).mono ?_
  rintro e V1 ⟨rfl, hb⟩
  have hv1 := below_call hv0 hb
  refine ⟨regrown_of_below hv1, ?_⟩
  clear hb
  clear F0 G0 F1 G1 F2 G2 F3 G3 F4 G4 F5 G5 F6 G6 F7 G7 F8 G8 F10 G10 F11 G11 F12 G12
  refine mix_bar rfl (by rfl) ?_
  simp only [List.getElem_toArray, List.getElem_cons_zero, List.getElem_cons_succ]
  go_simp
  refine (HNO.out V1).mono ?_
  rintro e V2 ⟨rfl, hb⟩
  have hv2 := below_call hv1 hb
  refine ⟨regrown_of_below hv2, ?_⟩
  clear hb
  refine mix_bar rfl (by rfl) ?_
  simp only [List.getElem_toArray, List.getElem_cons_zero, List.getElem_cons_succ]
  go_simp
  refine (HNO.out V2).mono ?_
  rintro e V3 ⟨rfl, hb⟩
  have hv3 := below_call hv2 hb
  refine ⟨regrown_of_below hv3, ?_⟩
  clear hb
  refine mix_bar rfl (by rfl) ?_
  simp only [List.getElem_toArray, List.getElem_cons_zero, List.getElem_cons_succ]
  go_simp
  refine (HNO.out V3).mono ?_
  rintro e V4 ⟨rfl, hb⟩
  have hv4 := below_call hv3 hb
  refine ⟨regrown_of_below hv4, ?_⟩
  clear hb
  refine mix_bar rfl (by rfl) ?_
  simp only [List.getElem_toArray, List.getElem_cons_zero, List.getElem_cons_succ]
  go_simp
  refine (HNO.out V4).mono ?_
  rintro e V5 ⟨rfl, hb⟩
  have hv5 := below_call hv4 hb
  refine ⟨regrown_of_below hv5, ?_⟩
  clear hb
  refine mix_bar rfl (by rfl) ?_
  simp only [List.getElem_toArray, List.getElem_cons_zero, List.getElem_cons_succ]
  go_simp
  refine (HNO.out V5).mono ?_
  rintro e V6 ⟨rfl, hb⟩
  have hv6 := below_call hv5 hb
  refine ⟨regrown_of_below hv6, ?_⟩
  clear hb
  refine mix_bar rfl (by rfl) ?_
  simp only [List.getElem_toArray, List.getElem_cons_zero, List.getElem_cons_succ]
  go_simp
  refine (HNO.out V6).mono ?_
  rintro e V7 ⟨rfl, hb⟩
  have hv7 := below_call hv6 hb
  refine ⟨regrown_of_below hv7, ?_⟩
  clear hb
  refine mix_take [74, 75, 76, 77, 80, 81, 82, 83, 84] [_, _, _, _, _, _, _, _, _] rfl rfl ?_
  simp only [List.getElem_toArray, List.getElem_cons_zero, List.getElem_cons_succ]
  repeat (go_big_quiet_step (fail))
  refine wpQuiet_nil ?_
  refine mix_bar rfl (by rfl) ?_
  simp only [List.getElem_toArray, List.getElem_cons_zero, List.getElem_cons_succ]
  go_simp
  refine (HNO.out V7).mono ?_
  rintro e V8 ⟨rfl, hb⟩
  have hv8 := below_call hv7 hb
  refine ⟨regrown_of_below hv8, ?_⟩
  clear hb
  refine mix_bar rfl (by rfl) ?_
  simp only [List.getElem_toArray, List.getElem_cons_zero, List.getElem_cons_succ]
  go_simp
  refine (HNO.out V8).mono ?_
  rintro e V9 ⟨rfl, hb⟩
  have hv9 := below_call hv8 hb
  refine ⟨regrown_of_below hv9, ?_⟩
  clear hb
  refine mix_bar rfl (by rfl) ?_
  simp only [List.getElem_toArray, List.getElem_cons_zero, List.getElem_cons_succ]
  go_simp
  refine (KNUM.out pa vp up V9 (HR.out.1.below2 hv9) (HR.out.2.1.below2 hv9) lp).mono ?_
  rintro e V10 ⟨rfl, hb⟩
  have hv10 := below_call hv9 hb
  refine ⟨regrown_of_below hv10, ?_⟩
  clear hb
  refine mix_bar rfl (by rfl) ?_
  simp only [List.getElem_toArray, List.getElem_cons_zero, List.getElem_cons_succ]
  go_simp
  refine (KNUM.out co vo uo V10 (HR.out.2.2.1.below2 hv10) (HR.out.2.2.2.1.below2 hv10) lo).mono ?_
  rintro e V11 ⟨rfl, hb⟩
  have hv11 := below_call hv10 hb
  refine ⟨regrown_of_below hv11, ?_⟩
  clear hb
  refine mix_bar rfl (by rfl) ?_
  simp only [List.getElem_toArray, List.getElem_cons_zero, List.getElem_cons_succ]
  go_simp
  refine (KW.out cl vl V11 (HR.out.2.2.2.2.1.below2 hv11) ll).mono ?_
  rintro e V12 ⟨y0, rfl, own0, hb⟩
  have hv12 := below_call hv11 hb

  have ry0 := Rd.of_own own0
  refine ⟨regrown_of_below hv12, ?_⟩
  clear hb own0
  refine mix_bar rfl (by rfl) ?_
  simp only [List.getElem_toArray, List.getElem_cons_zero, List.getElem_cons_succ]
  go_simp
  refine (KW.out cl ul V12 (HR.out.2.2.2.2.2.below2 hv12) ll).mono ?_
  rintro e V13 ⟨y1, rfl, own1, hb⟩
  have hv13 := below_call hv12 hb
  have ry0 := (ry0.below hb).mono hb.size
  have ry1 := Rd.of_own own1
  refine ⟨regrown_of_below hv13, ?_⟩
  clear hb own1
  refine mix_bar rfl (by rfl) ?_
  simp only [List.getElem_toArray, List.getElem_cons_zero, List.getElem_cons_succ]
  go_simp
  refine (KNUM.out cl y0 y1 V13 ry0 ry1 (Nat.le_trans ll (by decide))).mono ?_
  rintro e V14 ⟨rfl, hb⟩
  have hv14 := below_call hv13 hb
  refine ⟨regrown_of_below hv14, ?_⟩
  clear hb
  refine mix_bar rfl (by rfl) ?_
  simp only [List.getElem_toArray, List.getElem_cons_zero, List.getElem_cons_succ]
  go_simp
  have hg := heap_alloc_new V14 (.cells #[.int .i64 0, .int .i64 0, .int .i64 0, .int .i64 0, .int .i64 0, .int .i64 0, .int .i64 0, .int .i64 0, .int .i64 0, .int .i64 0, .int .i64 0, .int .i64 0] 3)
  have hv15 := hv14.alloc hv14.size (.cells #[.int .i64 0, .int .i64 0, .int .i64 0, .int .i64 0, .int .i64 0, .int .i64 0, .int .i64 0, .int .i64 0, .int .i64 0, .int .i64 0, .int .i64 0, .int .i64 0] 3)
  refine ⟨regrown_of_below hv15, ?_⟩
  generalize V14.alloc (.cells #[.int .i64 0, .int .i64 0, .int .i64 0, .int .i64 0, .int .i64 0, .int .i64 0, .int .i64 0, .int .i64 0, .int .i64 0, .int .i64 0, .int .i64 0, .int .i64 0] 3) = V15 at *
  refine mix_bar rfl (by rfl) ?_
  simp only [List.getElem_toArray, List.getElem_cons_zero, List.getElem_cons_succ]
  go_simp
  refine (KO.out 12 _ V15 (Rd.of_blk (cs := #[.int .i64 0, .int .i64 0, .int .i64 0, .int .i64 0, .int .i64 0, .int .i64 0, .int .i64 0, .int .i64 0, .int .i64 0, .int .i64 0, .int .i64 0, .int .i64 0]) (t := 3) hg (Nat.le_refl _) rfl) (by decide)).mono ?_
  rintro e V16 ⟨rfl, hb⟩
  have hv16 := below_call hv15 hb
  refine ⟨regrown_of_below hv16, ?_⟩
  clear hb
  refine mix_take [116] [_] rfl rfl ?_
  simp only [List.getElem_toArray, List.getElem_cons_zero, List.getElem_cons_succ]
  repeat (go_big_quiet_step (fail))
  refine wpQuiet_nil ?_
  refine mix_end ?_
  go_wp2
  go_ret
  exact ⟨rfl, below_call hb0 hv16⟩
theorem refCmpA_any (a m ho pf me pe id og ss : Int) (ex : Bool) (pa co cl : List Int) (vp vo vl up uo ul : Value) (w : World)
    (h1 : Rd w w.heap.size 1 vp pa.length (pa.map (Value.int .u32))) (h2 : Rd w w.heap.size 1 up pa.length (pa.map (Value.int .u32))) (h3 : Rd w w.heap.size 1 vo co.length (co.map (Value.int .u32))) (h4 : Rd w w.heap.size 1 uo co.length (co.map (Value.int .u32))) (h5 : Rd w w.heap.size 1 vl cl.length (cl.map (Value.int .u32))) (h6 : Rd w w.heap.size 1 ul cl.length (cl.map (Value.int .u32))) (hlen : pa.length + co.length + cl.length ≤ 1000000) :
    Calls Tryz.prog 14 #[.agg #[.int .u32 a, .int .i64 m, .int .u32 ho, .int .i64 pf, .int .i64 me, vp, vo, .int .u32 pe, .int .u32 id, .bool ex, .int .u32 og, vl, .int .i64 ss], .agg #[.int .u32 a, .int .i64 m, .int .u32 ho, .int .i64 pf, .int .i64 me, up, uo, .int .u32 pe, .int .u32 id, .bool ex, .int .u32 og, ul, .int .i64 ss]] w fun e w' => e = .returned (.int .i64 0) ∧ Below w.heap.size w w' := by
  cases ex
  · exact refCmpA_false a m ho pf me pe id og ss pa co cl vp vo vl up uo ul w h1 h2 h3 h4 h5 h6 hlen
  · exact refCmpA_true a m ho pf me pe id og ss pa co cl vp vo vl up uo ul w h1 h2 h3 h4 h5 h6 hlen
theorem refCmpA_same (r : AvV) (vp vo vl up uo ul : Value) (w : World) (h1 : Rd w w.heap.size 1 vp r.pa.length (r.pa.map (Value.int .u32))) (h2 : Rd w w.heap.size 1 up r.pa.length (r.pa.map (Value.int .u32))) (h3 : Rd w w.heap.size 1 vo r.co.length (r.co.map (Value.int .u32))) (h4 : Rd w w.heap.size 1 uo r.co.length (r.co.map (Value.int .u32))) (h5 : Rd w w.heap.size 1 vl r.cl.length (r.cl.map (Value.int .u32))) (h6 : Rd w w.heap.size 1 ul r.cl.length (r.cl.map (Value.int .u32))) (hlen : r.pa.length + r.co.length + r.cl.length ≤ 1000000) :
    Calls Tryz.prog 14 #[.agg #[.int .u32 r.a, .int .i64 r.m, .int .u32 r.ho, .int .i64 r.pf, .int .i64 r.me, vp, vo, .int .u32 r.pe, .int .u32 r.id, .bool r.ex, .int .u32 r.og, vl, .int .i64 r.ss], .agg #[.int .u32 r.a, .int .i64 r.m, .int .u32 r.ho, .int .i64 r.pf, .int .i64 r.me, up, uo, .int .u32 r.pe, .int .u32 r.id, .bool r.ex, .int .u32 r.og, ul, .int .i64 r.ss]] w fun e w' => e = .returned (.int .i64 0) ∧ Below w.heap.size w w' :=
  refCmpA_any r.a r.m r.ho r.pf r.me r.pe r.id r.og r.ss r.ex r.pa r.co r.cl vp vo vl up uo ul w h1 h2 h3 h4 h5 h6 hlen
end Go.Proofs.YtpmoepipoafegaaGreatDoor

/-
  Arguments opened to cells with their weights: no program in sight.
-/
namespace Go.Proofs.YtpmoepipoafegaaGreatDoor
open Go Go.RowKit Go.ChangeShapes Go.WideShapes Go.Deep

section
variable {H : Type} {enc : TypeId × Value → H} {P : Program} {w : World} {base : Nat} {spare : Nat → Bool} {held : Bool}
/-- All of a datum's weights are within the reach. -/
def InReach (P : Program) (t : TypeId) (d : DataW H) : Prop := ∀ m ∈ d.weights P t, m ≤ reachBytes
theorem mem_weightsAll {e : TypeId} {d : DataW H} : ∀ {ds : List (DataW H)}, d ∈ ds → ∀ n ∈ d.weights P e, n ∈ DataW.weightsAll P e ds
  | [], h, _, _ => by simp at h
  | x :: ds, h, n, hn => by
    rw [DataW.weightsAll, List.mem_append]
    rcases List.mem_cons.1 h with rfl | h
    · exact .inl hn
    · exact .inr (mem_weightsAll h n hn)
theorem sub_at2 {t : TypeId} {fs : Array Field} {n : Nat} {cs : List Value} {x : DataW H × List MemPlace} (ht : P.underlying t = some (.struct fs)) (h : DataW.trod enc P w base spare held n t cs = some x) (hw : InReach P t x.1) :
    cs.length = P.cellsOf t ∧ ∃ m, ∀ (j : Nat) (f : Field) (off : Nat) (ty : TypeId) (k : Nat), fs[j]? = some f → f.offset = off → f.type = ty → P.cellsOf ty = k → ∃ y, DataW.trod enc P w base spare held m ty ((cs.drop off).take k) = some y ∧ InReach P ty y.1 := by
  obtain ⟨xs, m, _, hx, hl, hlen, hf⟩ := DataW.trod_struct ht h
  refine ⟨hl, m, fun j f off ty k hj ho hty hk => ?_⟩
  have h1 := hf j f hj
  have hjl : j < xs.length := by rw [hlen]; exact (Array.getElem?_eq_some_iff.1 hj).1
  subst ho hty hk
  refine ⟨_, h1.trans (List.getElem?_eq_getElem hjl), fun q hq => hw q ?_⟩
  rw [hx]
  simp only [DataW.weights, ht]
  exact DataW.weights_mem_each (j := j) (t := f.type) (by simpa using congrArg (Option.map (·.type)) hj) (by simp [hjl]) q hq
theorem open_rd2 {α : Type} {encV : α → List Value} {Q : α → Prop} {k : Nat} (hk : ∀ x, (encV x).length = k) (hk0 : 0 < k) {t e : TypeId} {n : Nat} {cs : List Value} {x : DataW H × List MemPlace} (ht : P.underlying t = some (.slice e)) (hC : P.cellsOf e = k)
    (hel : ∀ n cs y, DataW.trod enc P w base spare held n e cs = some y → InReach P e y.1 → ∃ r, cs = encV r ∧ Q r) (h : DataW.trod enc P w base spare held n t cs = some x) (hw : InReach P t x.1) :
    ∃ (v : Value) (L : List α), cs = [v] ∧ Rd w w.heap.size k v L.length (L.flatMap encV) ∧ L.length ≤ maxLen ∧ (∀ r ∈ L, Q r) ∧ L.length * P.bytesOf e ≤ reachBytes := by
  rcases open_slice ht h with ⟨h0, _⟩ | ⟨a, len, cap, m, n', D, Pl, hcs, _, hl, hm, hmm, hx, hi⟩
  · exact ⟨_, [], h0, ⟨none, 0, rfl, by simp, by simp, fun h => absurd h (by simp)⟩, by simp, by simp, by simp⟩
  · have hlm : len ≤ m := by rw [hmm]; split <;> omega
    have hw1 : ∀ i, i < len → InReach P e (D i) := fun i hi' q hq => by
      refine hw q ?_
      rw [hx]
      simp only [DataW.weights, ht]
      refine List.mem_cons_of_mem _ (List.mem_append_left _ (mem_weightsAll (d := D i) ?_ q hq))
      exact List.mem_map.2 ⟨i, List.mem_range.2 hi', rfl⟩
    have hw2 : len * P.bytesOf e ≤ reachBytes := by
      have := hw ((((List.range len).map D).length + ((List.range (m - len)).map fun j => D (len + j)).length) * P.bytesOf e) (by rw [hx]; simp only [DataW.weights, ht]; exact List.mem_cons_self ..)
      refine Nat.le_trans (Nat.mul_le_mul_right _ ?_) this
      simp
    obtain ⟨L, hL, hq⟩ := list_told (Q := fun i r => w.cells? base (a.add (i * k)) k = some (encV r) ∧ Q r) len (fun i hi' => by
      obtain ⟨cs', hc, ht'⟩ := hi i (by omega)
      obtain ⟨r, hr, hQ⟩ := hel _ _ _ ht' (hw1 i hi')
      rw [hC] at hc
      exact ⟨r, by rw [hc, hr], hQ⟩)
    refine ⟨_, L, hcs, ⟨some a, cap, by rw [hL], by omega, flat_len encV k hk L, fun hpos => ?_⟩, by omega, fun r hr => ?_, by rw [hL]; exact hw2⟩
    · obtain ⟨b, off, sp⟩ := a
      have hz : ∃ u, w.cell? ⟨b, off, sp⟩ = some u := by
        obtain ⟨r, hr⟩ : ∃ r, L[0]? = some r := ⟨_, List.getElem?_eq_getElem hpos⟩
        obtain ⟨_, _, hat⟩ := World.cells?_some (hq 0 r hr).1
        have h1 := hat 0 hk0
        have h2 : (encV r)[0]? = some ((encV r)[0]'(by rw [hk]; exact hk0)) := List.getElem?_eq_getElem _
        rw [h2] at h1
        refine ⟨_, Eq.trans ?_ h1⟩
        simp [Addr.add]
      obtain ⟨u0, hu0⟩ := hz
      obtain rfl := Go.Proofs.cell_spot hu0
      refine ⟨b, off, rfl, ?_, fun j u hu => ?_⟩
      · rcases Nat.lt_or_ge b w.heap.size with h | h
        · exact h
        · have hn : w.heap[b]? = none := by simp [h]
          simp [World.cell?, hn] at hu0
      · obtain ⟨i, jj, r, hj, hjj, hr, hu'⟩ := flat_inv encV k hk L j u hu
        obtain ⟨_, _, hat⟩ := World.cells?_some (hq i r hr).1
        have h1 := hat jj hjj
        rw [hu'] at h1
        have e : (Addr.add ⟨b, off, none⟩ (i * k)).add jj = ⟨b, off + j, none⟩ := by
          rw [hj]; simp only [Addr.add]
          split <;> split <;> simp_all <;> omega
        rw [← e]; exact h1
    · obtain ⟨i, hi', he⟩ := List.getElem_of_mem hr
      exact (hq i r (by rw [← he]; exact List.getElem?_eq_getElem hi')).2
end

end Go.Proofs.YtpmoepipoafegaaGreatDoor

/-
  The cells of routes and of adverts (written by wip/gen/genelemrt.py).
-/
namespace Go.Proofs.YtpmoepipoafegaaGreatDoor
open Go Go.RowKit Go.ChangeShapes Go.WideShapes Go.Deep

set_option maxHeartbeats 1000000 in
theorem elem_route {H : Type} {enc : TypeId × Value → H} {w : World} {base : Nat} {spare : Nat → Bool} {held : Bool} (n : Nat) (cs : List Value) (x : DataW H × List MemPlace) (h : DataW.trod enc Tryz.prog w base spare held n 27 cs = some x) : ∃ r : RtV, cs = [.int .u32 r.a, .int .i64 r.m, .int .u8 r.fr, .int .i64 r.di, .int .i64 r.me, .int .i64 r.ta, .string ⟨r.nm.toArray⟩, .int .u32 r.ho, .bool r.dc] := by
  obtain ⟨l0, m0, s0⟩ := sub_at Tryz.underlying27 h
  rw [show Tryz.prog.cellsOf 27 = 9 from by kernel_rfl] at l0
  obtain ⟨c0, c1, c2, c3, c4, c5, c6, c7, c8, rfl⟩ : ∃ c0 c1 c2 c3 c4 c5 c6 c7 c8, cs = [c0, c1, c2, c3, c4, c5, c6, c7, c8] := by
    match cs, l0 with
    | [c0, c1, c2, c3, c4, c5, c6, c7, c8], _ => exact ⟨c0, c1, c2, c3, c4, c5, c6, c7, c8, rfl⟩
  obtain ⟨_, g1⟩ := s0 0 _ 0 25 2 rfl rfl rfl (by kernel_rfl)
  replace g1 : DataW.trod enc Tryz.prog w base spare held m0 25 [c0, c1] = some _ := g1
  obtain ⟨l2, m2, s2⟩ := sub_at Tryz.underlying25 g1
  obtain ⟨_, g3⟩ := s2 0 _ 0 23 1 rfl rfl rfl (by kernel_rfl)
  replace g3 : DataW.trod enc Tryz.prog w base spare held m2 23 [c0] = some _ := g3
  obtain ⟨v0, e0, _, w0⟩ := DataW.trod_int Tryz.underlying23 g3
  have b0 := bounds_u32 w0
  obtain rfl := (List.cons.inj e0).1
  obtain ⟨_, g4⟩ := s2 1 _ 1 3 1 rfl rfl rfl (by kernel_rfl)
  replace g4 : DataW.trod enc Tryz.prog w base spare held m2 3 [c1] = some _ := g4
  obtain ⟨v1, e1, _, w1⟩ := DataW.trod_int Tryz.underlying3 g4
  have b1 := bounds_i64 w1
  obtain rfl := (List.cons.inj e1).1
  obtain ⟨_, g5⟩ := s0 1 _ 2 5 1 rfl rfl rfl (by kernel_rfl)
  replace g5 : DataW.trod enc Tryz.prog w base spare held m0 5 [c2] = some _ := g5
  obtain ⟨v2, e2, _, w2⟩ := DataW.trod_int Tryz.underlying5 g5
  have b2 := bounds_u8 w2
  obtain rfl := (List.cons.inj e2).1
  obtain ⟨_, g6⟩ := s0 2 _ 3 3 1 rfl rfl rfl (by kernel_rfl)
  replace g6 : DataW.trod enc Tryz.prog w base spare held m0 3 [c3] = some _ := g6
  obtain ⟨v3, e3, _, w3⟩ := DataW.trod_int Tryz.underlying3 g6
  have b3 := bounds_i64 w3
  obtain rfl := (List.cons.inj e3).1
  obtain ⟨_, g7⟩ := s0 3 _ 4 3 1 rfl rfl rfl (by kernel_rfl)
  replace g7 : DataW.trod enc Tryz.prog w base spare held m0 3 [c4] = some _ := g7
  obtain ⟨v4, e4, _, w4⟩ := DataW.trod_int Tryz.underlying3 g7
  have b4 := bounds_i64 w4
  obtain rfl := (List.cons.inj e4).1
  obtain ⟨_, g8⟩ := s0 4 _ 5 3 1 rfl rfl rfl (by kernel_rfl)
  replace g8 : DataW.trod enc Tryz.prog w base spare held m0 3 [c5] = some _ := g8
  obtain ⟨v5, e5, _, w5⟩ := DataW.trod_int Tryz.underlying3 g8
  have b5 := bounds_i64 w5
  obtain rfl := (List.cons.inj e5).1
  obtain ⟨_, g9⟩ := s0 5 _ 6 9 1 rfl rfl rfl (by kernel_rfl)
  replace g9 : DataW.trod enc Tryz.prog w base spare held m0 9 [c6] = some _ := g9
  obtain ⟨v6, e6, _⟩ := DataW.trod_string Tryz.underlying9 g9
  obtain rfl := (List.cons.inj e6).1
  obtain ⟨_, g10⟩ := s0 6 _ 7 23 1 rfl rfl rfl (by kernel_rfl)
  replace g10 : DataW.trod enc Tryz.prog w base spare held m0 23 [c7] = some _ := g10
  obtain ⟨v7, e7, _, w7⟩ := DataW.trod_int Tryz.underlying23 g10
  have b7 := bounds_u32 w7
  obtain rfl := (List.cons.inj e7).1
  obtain ⟨_, g11⟩ := s0 7 _ 8 4 1 rfl rfl rfl (by kernel_rfl)
  replace g11 : DataW.trod enc Tryz.prog w base spare held m0 4 [c8] = some _ := g11
  obtain ⟨v8, e8, _⟩ := DataW.trod_bool Tryz.underlying4 g11
  obtain rfl := (List.cons.inj e8).1
  obtain ⟨nm6, rfl⟩ : ∃ l : List UInt8, v6 = ⟨l.toArray⟩ := ⟨v6.data.toList, (str_mk v6).symm⟩
  exact ⟨⟨v0, v1, v2, v3, v4, v5, nm6, v7, v8, ⟨by omega, by omega⟩, ⟨by omega, by omega⟩, ⟨by omega, by omega⟩, ⟨by omega, by omega⟩, ⟨by omega, by omega⟩, ⟨by omega, by omega⟩, ⟨by omega, by omega⟩⟩, rfl⟩

/-- A slice that leads nowhere has no room. -/
def NilV (v : Value) : Prop := ∀ n c, v = .slice none n c → c = 0
theorem trod_nil {H : Type} {enc : TypeId × Value → H} {P : Program} {w : World} {base : Nat} {spare : Nat → Bool} {held : Bool} {t e : TypeId} {n : Nat} {v : Value} {x : DataW H × List MemPlace} (ht : P.underlying t = some (.slice e)) (h : DataW.trod enc P w base spare held n t [v] = some x) : NilV v := by
  rcases open_slice ht h with ⟨h0, _⟩ | ⟨a, len, cap, m, n', D, Pl, hcs, _⟩
  · obtain rfl := (List.cons.inj h0).1
    intro n c hv
    injection hv with _ h1 h2
    omega
  · obtain rfl := (List.cons.inj hcs).1
    intro n c hv
    cases hv
theorem one_len (x : Int) : [Value.int .u32 x].length = 1 := rfl
theorem one_flat (L : List Int) : (L.flatMap fun x => [Value.int .u32 x]) = L.map (Value.int .u32) := by
  induction L with
  | nil => rfl
  | cons a r ih => simp [List.flatMap_cons, ih]
theorem elem_u32s {H : Type} {enc : TypeId × Value → H} {w : World} {base : Nat} {spare : Nat → Bool} {held : Bool} (n : Nat) (cs : List Value) (y : DataW H × List MemPlace) (h : DataW.trod enc Tryz.prog w base spare held n 28 cs = some y) (hw : InReach Tryz.prog 28 y.1) :
    ∃ (v : Value) (L : List Int), cs = [v] ∧ Rd w w.heap.size 1 v L.length (L.map (Value.int .u32)) ∧ L.length ≤ 100000000000000 ∧ u32s L ∧ NilV v := by
  obtain ⟨v, L, hv, hr, _, hq, hb⟩ := open_rd2 (Q := fun x : Int => 0 ≤ x ∧ x < 4294967296) one_len (by decide) Tryz.underlying28 (by kernel_rfl) (fun n cs y h _ => by
    obtain ⟨a, e, _, w0⟩ := DataW.trod_int Tryz.underlying22 h
    have b := bounds_u32 w0
    exact ⟨a, e, by omega, by omega⟩) h hw
  rw [one_flat] at hr
  rw [show Tryz.prog.bytesOf 22 = 4 from by kernel_rfl] at hb
  subst hv
  exact ⟨v, L, rfl, hr, by have : reachBytes = 140737488351232 := rfl; rw [this] at hb; omega, hq, trod_nil Tryz.underlying28 h⟩
theorem elem_adrs {H : Type} {enc : TypeId × Value → H} {w : World} {base : Nat} {spare : Nat → Bool} {held : Bool} (n : Nat) (cs : List Value) (y : DataW H × List MemPlace) (h : DataW.trod enc Tryz.prog w base spare held n 29 cs = some y) (hw : InReach Tryz.prog 29 y.1) :
    ∃ (v : Value) (L : List Int), cs = [v] ∧ Rd w w.heap.size 1 v L.length (L.map (Value.int .u32)) ∧ L.length ≤ 100000000000000 ∧ u32s L ∧ NilV v := by
  obtain ⟨v, L, hv, hr, _, hq, hb⟩ := open_rd2 (Q := fun x : Int => 0 ≤ x ∧ x < 4294967296) one_len (by decide) Tryz.underlying29 (by kernel_rfl) (fun n cs y h _ => by
    obtain ⟨a, e, _, w0⟩ := DataW.trod_int Tryz.underlying23 h
    have b := bounds_u32 w0
    exact ⟨a, e, by omega, by omega⟩) h hw
  rw [one_flat] at hr
  rw [show Tryz.prog.bytesOf 23 = 4 from by kernel_rfl] at hb
  subst hv
  exact ⟨v, L, rfl, hr, by have : reachBytes = 140737488351232 := rfl; rw [this] at hb; omega, hq, trod_nil Tryz.underlying29 h⟩
set_option maxHeartbeats 1000000 in
theorem elem_advert2 {H : Type} {enc : TypeId × Value → H} {w : World} {base : Nat} {spare : Nat → Bool} {held : Bool} (n : Nat) (cs : List Value) (x : DataW H × List MemPlace) (h : DataW.trod enc Tryz.prog w base spare held n 31 cs = some x) (hw : InReach Tryz.prog 31 x.1) :
    ∃ (r : AvV) (vp vo vl : Value), cs = [.int .u32 r.a, .int .i64 r.m, .int .u32 r.ho, .int .i64 r.pf, .int .i64 r.me, vp, vo, .int .u32 r.pe, .int .u32 r.id, .bool r.ex, .int .u32 r.og, vl, .int .i64 r.ss] ∧ Rd w w.heap.size 1 vp r.pa.length (r.pa.map (Value.int .u32)) ∧ Rd w w.heap.size 1 vo r.co.length (r.co.map (Value.int .u32)) ∧ Rd w w.heap.size 1 vl r.cl.length (r.cl.map (Value.int .u32)) ∧ r.pa.length + r.co.length + r.cl.length ≤ 1000000000000000000 ∧ NilV vp ∧ NilV vo ∧ NilV vl := by
  obtain ⟨l0, m0, s0⟩ := sub_at2 Tryz.underlying31 h hw
  rw [show Tryz.prog.cellsOf 31 = 13 from by kernel_rfl] at l0
  obtain ⟨c0, c1, c2, c3, c4, c5, c6, c7, c8, c9, c10, c11, c12, rfl⟩ : ∃ c0 c1 c2 c3 c4 c5 c6 c7 c8 c9 c10 c11 c12, cs = [c0, c1, c2, c3, c4, c5, c6, c7, c8, c9, c10, c11, c12] := by
    match cs, l0 with
    | [c0, c1, c2, c3, c4, c5, c6, c7, c8, c9, c10, c11, c12], _ => exact ⟨c0, c1, c2, c3, c4, c5, c6, c7, c8, c9, c10, c11, c12, rfl⟩
  obtain ⟨_, g0, z0⟩ := s0 0 _ 0 25 2 rfl rfl rfl (by kernel_rfl)
  replace g0 : DataW.trod enc Tryz.prog w base spare held m0 25 [c0, c1] = some _ := g0
  obtain ⟨l4, m4, s4⟩ := sub_at Tryz.underlying25 g0
  obtain ⟨_, ga⟩ := s4 0 _ 0 23 1 rfl rfl rfl (by kernel_rfl)
  replace ga : DataW.trod enc Tryz.prog w base spare held m4 23 [c0] = some _ := ga
  obtain ⟨v0, e0, _, w0⟩ := DataW.trod_int Tryz.underlying23 ga
  have b0 := bounds_u32 w0
  obtain rfl := (List.cons.inj e0).1
  obtain ⟨_, gb⟩ := s4 1 _ 1 3 1 rfl rfl rfl (by kernel_rfl)
  replace gb : DataW.trod enc Tryz.prog w base spare held m4 3 [c1] = some _ := gb
  obtain ⟨v1, e1, _, w1⟩ := DataW.trod_int Tryz.underlying3 gb
  have b1 := bounds_i64 w1
  obtain rfl := (List.cons.inj e1).1
  obtain ⟨_, g1, z1⟩ := s0 1 _ 2 23 1 rfl rfl rfl (by kernel_rfl)
  replace g1 : DataW.trod enc Tryz.prog w base spare held m0 23 [c2] = some _ := g1
  obtain ⟨v2, e2, _, w2⟩ := DataW.trod_int Tryz.underlying23 g1
  have b2 := bounds_u32 w2
  obtain rfl := (List.cons.inj e2).1
  obtain ⟨_, g2, z2⟩ := s0 2 _ 3 3 1 rfl rfl rfl (by kernel_rfl)
  replace g2 : DataW.trod enc Tryz.prog w base spare held m0 3 [c3] = some _ := g2
  obtain ⟨v3, e3, _, w3⟩ := DataW.trod_int Tryz.underlying3 g2
  have b3 := bounds_i64 w3
  obtain rfl := (List.cons.inj e3).1
  obtain ⟨_, g3, z3⟩ := s0 3 _ 4 3 1 rfl rfl rfl (by kernel_rfl)
  replace g3 : DataW.trod enc Tryz.prog w base spare held m0 3 [c4] = some _ := g3
  obtain ⟨v4, e4, _, w4⟩ := DataW.trod_int Tryz.underlying3 g3
  have b4 := bounds_i64 w4
  obtain rfl := (List.cons.inj e4).1
  obtain ⟨_, g4, z4⟩ := s0 4 _ 5 28 1 rfl rfl rfl (by kernel_rfl)
  replace g4 : DataW.trod enc Tryz.prog w base spare held m0 28 [c5] = some _ := g4
  obtain ⟨_, L5, e5, R5, n5, q5, k5⟩ := elem_u32s _ _ _ g4 z4
  obtain rfl := (List.cons.inj e5).1
  obtain ⟨_, g5, z5⟩ := s0 5 _ 6 28 1 rfl rfl rfl (by kernel_rfl)
  replace g5 : DataW.trod enc Tryz.prog w base spare held m0 28 [c6] = some _ := g5
  obtain ⟨_, L6, e6, R6, n6, q6, k6⟩ := elem_u32s _ _ _ g5 z5
  obtain rfl := (List.cons.inj e6).1
  obtain ⟨_, g6, z6⟩ := s0 6 _ 7 23 1 rfl rfl rfl (by kernel_rfl)
  replace g6 : DataW.trod enc Tryz.prog w base spare held m0 23 [c7] = some _ := g6
  obtain ⟨v7, e7, _, w7⟩ := DataW.trod_int Tryz.underlying23 g6
  have b7 := bounds_u32 w7
  obtain rfl := (List.cons.inj e7).1
  obtain ⟨_, g7, z7⟩ := s0 7 _ 8 23 1 rfl rfl rfl (by kernel_rfl)
  replace g7 : DataW.trod enc Tryz.prog w base spare held m0 23 [c8] = some _ := g7
  obtain ⟨v8, e8, _, w8⟩ := DataW.trod_int Tryz.underlying23 g7
  have b8 := bounds_u32 w8
  obtain rfl := (List.cons.inj e8).1
  obtain ⟨_, g8, z8⟩ := s0 8 _ 9 4 1 rfl rfl rfl (by kernel_rfl)
  replace g8 : DataW.trod enc Tryz.prog w base spare held m0 4 [c9] = some _ := g8
  obtain ⟨v9, e9, _⟩ := DataW.trod_bool Tryz.underlying4 g8
  obtain rfl := (List.cons.inj e9).1
  obtain ⟨_, g9, z9⟩ := s0 9 _ 10 23 1 rfl rfl rfl (by kernel_rfl)
  replace g9 : DataW.trod enc Tryz.prog w base spare held m0 23 [c10] = some _ := g9
  obtain ⟨v10, e10, _, w10⟩ := DataW.trod_int Tryz.underlying23 g9
  have b10 := bounds_u32 w10
  obtain rfl := (List.cons.inj e10).1
  obtain ⟨_, g10, z10⟩ := s0 10 _ 11 29 1 rfl rfl rfl (by kernel_rfl)
  replace g10 : DataW.trod enc Tryz.prog w base spare held m0 29 [c11] = some _ := g10
  obtain ⟨_, L11, e11, R11, n11, q11, k11⟩ := elem_adrs _ _ _ g10 z10
  obtain rfl := (List.cons.inj e11).1
  obtain ⟨_, g11, z11⟩ := s0 11 _ 12 3 1 rfl rfl rfl (by kernel_rfl)
  replace g11 : DataW.trod enc Tryz.prog w base spare held m0 3 [c12] = some _ := g11
  obtain ⟨v12, e12, _, w12⟩ := DataW.trod_int Tryz.underlying3 g11
  have b12 := bounds_i64 w12
  obtain rfl := (List.cons.inj e12).1
  exact ⟨⟨v0, v1, v12, v3, v4, v2, v7, v8, v9, v10, L5, L6, L11, ⟨by omega, by omega⟩, ⟨by omega, by omega⟩, ⟨by omega, by omega⟩, ⟨by omega, by omega⟩, ⟨by omega, by omega⟩, ⟨by omega, by omega⟩, ⟨by omega, by omega⟩, ⟨by omega, by omega⟩, ⟨by omega, by omega⟩, q5, q6, q11⟩, c5, c6, c11, rfl, R5, R6, R11, by show L5.length + L6.length + L11.length ≤ _; omega, k5, k6, k11⟩
theorem elem_advert {H : Type} {enc : TypeId × Value → H} {w : World} {base : Nat} {spare : Nat → Bool} {held : Bool} (n : Nat) (cs : List Value) (x : DataW H × List MemPlace) (h : DataW.trod enc Tryz.prog w base spare held n 31 cs = some x) (hw : InReach Tryz.prog 31 x.1) :
    ∃ (r : AvV) (vp vo vl : Value), cs = [.int .u32 r.a, .int .i64 r.m, .int .u32 r.ho, .int .i64 r.pf, .int .i64 r.me, vp, vo, .int .u32 r.pe, .int .u32 r.id, .bool r.ex, .int .u32 r.og, vl, .int .i64 r.ss] ∧ Rd w w.heap.size 1 vp r.pa.length (r.pa.map (Value.int .u32)) ∧ Rd w w.heap.size 1 vo r.co.length (r.co.map (Value.int .u32)) ∧ Rd w w.heap.size 1 vl r.cl.length (r.cl.map (Value.int .u32)) ∧ r.pa.length + r.co.length + r.cl.length ≤ 1000000000000000000 := by
  obtain ⟨r, vp, vo, vl, h1, h2, h3, h4, h5, _⟩ := elem_advert2 n cs x h hw
  exact ⟨r, vp, vo, vl, h1, h2, h3, h4, h5⟩

end Go.Proofs.YtpmoepipoafegaaGreatDoor

/-
  The walk of the law RoutesTexts (written by wip/gen/genrttexts.py).
-/
namespace Go.Proofs.YtpmoepipoafegaaGreatDoor
open Go Go.RowKit Go.Sort

theorem rtText_both (r : RtV) : ∃ (t : ByteArray) (e : Int), (∀ w, Env w → Calls Tryz.prog 6 #[.agg #[.int .u32 r.a, .int .i64 r.m, .int .u8 r.fr, .int .i64 r.di, .int .i64 r.me, .int .i64 r.ta, .string ⟨r.nm.toArray⟩, .int .u32 r.ho, .bool r.dc]] w fun en w' => en = .returned (.tuple #[.string t, .int .i64 e]) ∧ Below w.heap.size w w') ∧ ∀ w, Calls Tryz.prog 7 #[.agg #[.int .u32 r.a, .int .i64 r.m, .int .u8 r.fr, .int .i64 r.di, .int .i64 r.me, .int .i64 r.ta, .string ⟨r.nm.toArray⟩, .int .u32 r.ho, .bool r.dc]] w fun en w' => en = .returned (.tuple #[.string t, .int .i64 e]) ∧ Below w.heap.size w w' :=
  ⟨⟨r.told.toArray⟩, r.toldE, fun w hE => rtText_any r w hE (fun _ => name_any _), fun w => refRtText_any r w⟩
theorem avText_both (a : AvV) (hlen : a.pa.length + a.co.length + a.cl.length ≤ 10000) : ∃ (t : ByteArray) (e : Int), (∀ w vp vo vl, Env w → Rd w w.heap.size 1 vp a.pa.length (a.pa.map (Value.int .u32)) → Rd w w.heap.size 1 vo a.co.length (a.co.map (Value.int .u32)) → Rd w w.heap.size 1 vl a.cl.length (a.cl.map (Value.int .u32)) → Calls Tryz.prog 8 #[.agg #[.int .u32 a.a, .int .i64 a.m, .int .u32 a.ho, .int .i64 a.pf, .int .i64 a.me, vp, vo, .int .u32 a.pe, .int .u32 a.id, .bool a.ex, .int .u32 a.og, vl, .int .i64 a.ss]] w fun en w' => en = .returned (.tuple #[.string t, .int .i64 e]) ∧ Below w.heap.size w w') ∧ ∀ w vp vo vl, Rd w w.heap.size 1 vp a.pa.length (a.pa.map (Value.int .u32)) → Rd w w.heap.size 1 vo a.co.length (a.co.map (Value.int .u32)) → Rd w w.heap.size 1 vl a.cl.length (a.cl.map (Value.int .u32)) → Calls Tryz.prog 9 #[.agg #[.int .u32 a.a, .int .i64 a.m, .int .u32 a.ho, .int .i64 a.pf, .int .i64 a.me, vp, vo, .int .u32 a.pe, .int .u32 a.id, .bool a.ex, .int .u32 a.og, vl, .int .i64 a.ss]] w fun en w' => en = .returned (.tuple #[.string t, .int .i64 e]) ∧ Below w.heap.size w w' :=
  ⟨⟨a.told.toArray⟩, a.toldE, fun w vp vo vl hE hp ho hl => avText_any a vp vo vl w hE hp ho hl hlen, fun w vp vo vl hp ho hl => refAvText_any a vp vo vl w hp ho hl hlen⟩
theorem rtParse_both (s : ByteArray) (hs : s.size ≤ 3000) : ∃ (x : RtV) (e : Int), (∀ w, Env w → Calls Tryz.prog 10 #[.string s] w fun en w' => en = .returned (.tuple #[.agg #[.int .u32 x.a, .int .i64 x.m, .int .u8 x.fr, .int .i64 x.di, .int .i64 x.me, .int .i64 x.ta, .string ⟨x.nm.toArray⟩, .int .u32 x.ho, .bool x.dc], .int .i64 e]) ∧ Below w.heap.size w w') ∧ ∀ w, Calls Tryz.prog 11 #[.string s] w fun en w' => en = .returned (.tuple #[.agg #[.int .u32 x.a, .int .i64 x.m, .int .u8 x.fr, .int .i64 x.di, .int .i64 x.me, .int .i64 x.ta, .string ⟨x.nm.toArray⟩, .int .u32 x.ho, .bool x.dc], .int .i64 e]) ∧ Below w.heap.size w w' :=
  ⟨roV s.data.toList, roE s.data.toList, fun w hE => rtParse_any s w hE (by omega), fun w => refRtParse_any s w (by omega)⟩
theorem avParse_both (s : ByteArray) (hs : s.size ≤ 3000) : ∃ (y : AvV) (e : Int), y.pa.length + y.co.length + y.cl.length ≤ 10000 ∧ (∀ w, Env w → Calls Tryz.prog 12 #[.string s] w fun e' w' => ∃ vp vo vl, e' = .returned (.tuple #[.agg #[.int .u32 y.a, .int .i64 y.m, .int .u32 y.ho, .int .i64 y.pf, .int .i64 y.me, vp, vo, .int .u32 y.pe, .int .u32 y.id, .bool y.ex, .int .u32 y.og, vl, .int .i64 y.ss], .int .i64 e]) ∧ Rd w' w'.heap.size 1 vp y.pa.length (y.pa.map (Value.int .u32)) ∧ Rd w' w'.heap.size 1 vo y.co.length (y.co.map (Value.int .u32)) ∧ Rd w' w'.heap.size 1 vl y.cl.length (y.cl.map (Value.int .u32)) ∧ Below w.heap.size w w') ∧ ∀ w, Calls Tryz.prog 13 #[.string s] w fun e' w' => ∃ vp vo vl, e' = .returned (.tuple #[.agg #[.int .u32 y.a, .int .i64 y.m, .int .u32 y.ho, .int .i64 y.pf, .int .i64 y.me, vp, vo, .int .u32 y.pe, .int .u32 y.id, .bool y.ex, .int .u32 y.og, vl, .int .i64 y.ss], .int .i64 e]) ∧ Rd w' w'.heap.size 1 vp y.pa.length (y.pa.map (Value.int .u32)) ∧ Rd w' w'.heap.size 1 vo y.co.length (y.co.map (Value.int .u32)) ∧ Rd w' w'.heap.size 1 vl y.cl.length (y.cl.map (Value.int .u32)) ∧ Below w.heap.size w w' := by
  have hcnt := pieces_cnt 32 s.data.toList
  have hss : s.data.toList.length = s.size := Array.length_toList
  have hpc : (pieces 32 s.data.toList).length ≤ 5000 := by omega
  refine ⟨avV s.data.toList, avE s.data.toList, ?_, fun w hE => avParse_any s w hE (by omega) hpc, fun w => refAvParse_any s w (by omega) hpc⟩
  cases hO : avO s.data.toList with
  | none => rw [(av_none hO).1]; exact Nat.zero_le _
  | some y =>
    obtain ⟨h1, _⟩ := av_some hO
    obtain ⟨k1, k2⟩ := avO_some hO
    rw [h1]
    have hw := av_words k1
    have hn : y.words.length = 17 + (y.pa.length + (y.co.length + (y.cl.length + 1) + 1)) := by simp [AvV.words, AvV.tail, AvV.head]; omega
    rw [k2] at hw
    rw [← hw] at hn
    omega
theorem eqlRt (r : RtV) (W : World) : (binOp .eql 27 (.agg #[.int .u32 r.a, .int .i64 r.m, .int .u8 r.fr, .int .i64 r.di, .int .i64 r.me, .int .i64 r.ta, .string ⟨r.nm.toArray⟩, .int .u32 r.ho, .bool r.dc]) (.agg #[.int .u32 r.a, .int .i64 r.m, .int .u8 r.fr, .int .i64 r.di, .int .i64 r.me, .int .i64 r.ta, .string ⟨r.nm.toArray⟩, .int .u32 r.ho, .bool r.dc])).run Tryz.prog W = .ok (.bool true) W := by
  obtain ⟨b, h1, h2⟩ := eqlRoute r r
  rw [h2.2 rfl] at h1
  exact h1 W
/-- What is kept from section to section. -/
structure TK (r : RtV) (a : AvV) (vp vo vl : Value) (w W : World) : Prop where
  r : W.heap[w.heap.size]? = some (rtObj r)
  a : W.heap[w.heap.size + 1]? = some (avObj a vp vo vl)
  n : Below w.heap.size w W
theorem TK.below {r : RtV} {a : AvV} {vp vo vl : Value} {w W W' : World} (H : TK r a vp vo vl w W) (hb : Below W.heap.size W W') : TK r a vp vo vl w W' :=
  ⟨blk_below hb H.r, blk_below hb H.a, below_call H.n hb⟩
/-- An advert in a block of its own, its lists with it. -/
def AvIn (y : AvV) (vp vo vl : Value) (g : Nat) (W : World) : Prop := W.heap[g]? = some (avObj y vp vo vl) ∧ Rd W W.heap.size 1 vp y.pa.length (y.pa.map (Value.int .u32)) ∧ Rd W W.heap.size 1 vo y.co.length (y.co.map (Value.int .u32)) ∧ Rd W W.heap.size 1 vl y.cl.length (y.cl.map (Value.int .u32))
theorem AvIn.below {y : AvV} {vp vo vl : Value} {g : Nat} {W W' : World} (H : AvIn y vp vo vl g W) (hb : Below W.heap.size W W') : AvIn y vp vo vl g W' := ⟨blk_below hb H.1, H.2.1.below2 hb, H.2.2.1.below2 hb, H.2.2.2.below2 hb⟩
theorem AvIn.of {y : AvV} {vp vo vl : Value} {W : World} (h : Rd W W.heap.size 1 vp y.pa.length (y.pa.map (Value.int .u32)) ∧ Rd W W.heap.size 1 vo y.co.length (y.co.map (Value.int .u32)) ∧ Rd W W.heap.size 1 vl y.cl.length (y.cl.map (Value.int .u32))) : AvIn y vp vo vl W.heap.size (W.alloc (avObj y vp vo vl)) := ⟨heap_alloc_new _ _, h.1.below2 (below1 _ _), h.2.1.below2 (below1 _ _), h.2.2.below2 (below1 _ _)⟩
set_option maxRecDepth 100000 in
set_option maxHeartbeats 8000000 in
theorem lawRtTexts_any (r : RtV) (a : AvV) (vp vo vl : Value) (s t : ByteArray) (w : World) (hE : Env w) (hp : Rd w w.heap.size 1 vp a.pa.length (a.pa.map (Value.int .u32))) (ho : Rd w w.heap.size 1 vo a.co.length (a.co.map (Value.int .u32))) (hl : Rd w w.heap.size 1 vl a.cl.length (a.cl.map (Value.int .u32))) (np : NilV vp) (no : NilV vo) (nl : NilV vl) (hsz : a.pa.length + a.co.length + a.cl.length ≤ 1000000000000000000) :
    Calls Tryz.prog 3 #[.agg #[.int .u32 r.a, .int .i64 r.m, .int .u8 r.fr, .int .i64 r.di, .int .i64 r.me, .int .i64 r.ta, .string ⟨r.nm.toArray⟩, .int .u32 r.ho, .bool r.dc], .agg #[.int .u32 a.a, .int .i64 a.m, .int .u32 a.ho, .int .i64 a.pf, .int .i64 a.me, vp, vo, .int .u32 a.pe, .int .u32 a.id, .bool a.ex, .int .u32 a.og, vl, .int .i64 a.ss], .string s, .string t] w fun e w' => e = .returned (.bool true) ∧ Below w.heap.size w w' := by
  obtain ⟨A1, C1, rfl, hc1⟩ := hp.form
  obtain ⟨A2, C2, rfl, hc2⟩ := ho.form
  obtain ⟨A3, C3, rfl, hc3⟩ := hl.form
  have haw := Lib.hid lawAwake08_any
  have H0 : TK r a (.slice A1 a.pa.length C1) (.slice A2 a.co.length C2) (.slice A3 a.cl.length C3) w ((w.alloc (rtObj r)).alloc (avObj a (.slice A1 a.pa.length C1) (.slice A2 a.co.length C2) (.slice A3 a.cl.length C3))) := ⟨(blk2 w (rtObj r) (avObj a (.slice A1 a.pa.length C1) (.slice A2 a.co.length C2) (.slice A3 a.cl.length C3))).1, (blk2 w (rtObj r) (avObj a (.slice A1 a.pa.length C1) (.slice A2 a.co.length C2) (.slice A3 a.cl.length C3))).2, below2 w _ _⟩
  have hW : (w.alloc (.cells #[.int .u32 r.a, .int .i64 r.m, .int .u8 r.fr, .int .i64 r.di, .int .i64 r.me, .int .i64 r.ta, .string ⟨r.nm.toArray⟩, .int .u32 r.ho, .bool r.dc] 27)).alloc (.cells #[.int .u32 a.a, .int .i64 a.m, .int .u32 a.ho, .int .i64 a.pf, .int .i64 a.me, (.slice A1 a.pa.length C1), (.slice A2 a.co.length C2), .int .u32 a.pe, .int .u32 a.id, .bool a.ex, .int .u32 a.og, (.slice A3 a.cl.length C3), .int .i64 a.ss] 31) = (w.alloc (rtObj r)).alloc (avObj a (.slice A1 a.pa.length C1) (.slice A2 a.co.length C2) (.slice A3 a.cl.length C3)) := rfl
  have hPO := Lib.hid (And.intro hp (And.intro ho hl))
  have hN1 := Lib.hid (show A1 = none → C1 = 0 from fun e => np _ _ (by rw [e]))
  have hN2 := Lib.hid (show A2 = none → C2 = 0 from fun e => no _ _ (by rw [e]))
  have hN3 := Lib.hid (show A3 = none → C3 = 0 from fun e => nl _ _ (by rw [e]))
  have z1 : -9223372036854775808 ≤ (a.pa.length : Int) + (a.co.length : Int) ∧ (a.pa.length : Int) + (a.co.length : Int) ≤ 9223372036854775807 := by omega
  have z2 : -9223372036854775808 ≤ (a.pa.length : Int) + (a.co.length : Int) + (a.cl.length : Int) ∧ (a.pa.length : Int) + (a.co.length : Int) + (a.cl.length : Int) ≤ 9223372036854775807 := by omega
  clear hp ho hl np no nl hc1 hc2 hc3 hsz
  by_cases hs : 3000 < s.size
  · have hI : (s.size : Int) > 3000 := by omega
    clear hs z1 z2
    go_enter Tryz.func3, Tryz.ntmps3
    go_upto_region 1 with fail
    try rw [hW]
    generalize (w.alloc (rtObj r)).alloc (avObj a (.slice A1 a.pa.length C1) (.slice A2 a.co.length C2) (.slice A3 a.cl.length C3)) = W0 at *
    clear hW
    go_wp2_with fail
    refine (haw.out _ (hE.below H0.n)).mono ?_
    rintro e w2 ⟨rfl, hb⟩
    have H2 := H0.below hb
    go_wp2
    go_ret
    exact ⟨rfl, H2.n⟩
  · have hI : ¬ (s.size : Int) > 3000 := by omega
    have hsl : Hid (s.size ≤ 3000) := Lib.hid (by omega)
    clear hs
    by_cases ht : 3000 < t.size
    · have hI2 : (t.size : Int) > 3000 := by omega
      clear ht z1 z2
      go_enter Tryz.func3, Tryz.ntmps3
      go_upto_region 1 with fail
      try rw [hW]
      generalize (w.alloc (rtObj r)).alloc (avObj a (.slice A1 a.pa.length C1) (.slice A2 a.co.length C2) (.slice A3 a.cl.length C3)) = W0 at *
      clear hW
      go_wp2_with fail
      refine (haw.out _ (hE.below H0.n)).mono ?_
      rintro e w2 ⟨rfl, hb⟩
      have H2 := H0.below hb
      go_wp2
      go_ret
      exact ⟨rfl, H2.n⟩
    · have hI2 : ¬ (t.size : Int) > 3000 := by omega
      have htl : Hid (t.size ≤ 3000) := Lib.hid (by omega)
      clear ht
      by_cases hg : 300 < a.pa.length + a.co.length + a.cl.length
      · have hJ : (a.pa.length : Int) + (a.co.length : Int) + (a.cl.length : Int) > 300 := by omega
        clear hg
        go_enter Tryz.func3, Tryz.ntmps3
        go_upto_region 1 with fail
        try rw [hW]
        generalize (w.alloc (rtObj r)).alloc (avObj a (.slice A1 a.pa.length C1) (.slice A2 a.co.length C2) (.slice A3 a.cl.length C3)) = W0 at *
        clear hW
        have Ha := H0.a
        obtain ⟨d0, d1, d2, d3, d4, d5, d6, d7, d8, d9, d10, d11, d12⟩ := av_blk Ha
        clear Ha
        go_wp2_with fail
        refine (haw.out _ (hE.below H0.n)).mono ?_
        rintro e w2 ⟨rfl, hb⟩
        have H2 := H0.below hb
        go_wp2
        go_ret
        exact ⟨rfl, H2.n⟩
      · have hJ : ¬ (a.pa.length : Int) + (a.co.length : Int) + (a.cl.length : Int) > 300 := by omega
        have hsum : Hid (a.pa.length + a.co.length + a.cl.length ≤ 300) := Lib.hid (by omega)
        clear hg
        go_enter Tryz.func3, Tryz.ntmps3
        go_upto_region 1 with fail
        try rw [hW]
        generalize (w.alloc (rtObj r)).alloc (avObj a (.slice A1 a.pa.length C1) (.slice A2 a.co.length C2) (.slice A3 a.cl.length C3)) = W0 at *
        clear hW
        have Ha := H0.a
        obtain ⟨d0, d1, d2, d3, d4, d5, d6, d7, d8, d9, d10, d11, d12⟩ := av_blk Ha
        clear Ha
        have hcl1 := hPO.out.1.below2 H0.n
        have hcl2 := hPO.out.2.1.below2 H0.n
        have hcl3 := hPO.out.2.2.below2 H0.n
        have KT := Lib.hid (refTwin_any a A1 A2 A3 C1 C2 C3 W0 hcl1 hcl2 hcl3 hN1.out hN2.out hN3.out (by have := hsum.out; omega))
        clear hcl1 hcl2 hcl3 hN1 hN2 hN3
        go_wp2_with fail
        refine KT.out.mono ?_
        rintro e w1 ⟨up, uo, ul, rfl, ru1, ru2, ru3, hb⟩
        have H1 := H0.below hb
        clear KT hb H0 d0 d1 d2 d3 d4 d5 d6 d7 d8 d9 d10 d11 d12 hI hI2 hJ z1 z2
        have hB1 := AvIn.of (y := a) ⟨ru1, ru2, ru3⟩
        obtain ⟨B1, D1, hu1, _⟩ := ru1.form
        obtain ⟨B2, D2, hu2, _⟩ := ru2.form
        obtain ⟨B3, D3, hu3, _⟩ := ru3.form
        subst hu1 hu2 hu3
        have hw1 : w1.alloc (.cells #[.int .u32 a.a, .int .i64 a.m, .int .u32 a.ho, .int .i64 a.pf, .int .i64 a.me, (.slice B1 a.pa.length D1), (.slice B2 a.co.length D2), .int .u32 a.pe, .int .u32 a.id, .bool a.ex, .int .u32 a.og, (.slice B3 a.cl.length D3), .int .i64 a.ss] 31) = w1.alloc (avObj a (.slice B1 a.pa.length D1) (.slice B2 a.co.length D2) (.slice B3 a.cl.length D3)) := rfl
        have H2 := H1.below (below1 w1 (avObj a (.slice B1 a.pa.length D1) (.slice B2 a.co.length D2) (.slice B3 a.cl.length D3)))
        clear ru1 ru2 ru3 H1
        go_upto_region 4 with fail
        try rw [hw1]
        generalize w1.alloc (avObj a (.slice B1 a.pa.length D1) (.slice B2 a.co.length D2) (.slice B3 a.cl.length D3)) = W2 at *
        generalize w1.heap.size = gb at *
        clear hw1
        obtain ⟨tt, et, hT1, hT2⟩ := rtText_both r
        obtain ⟨uu, eu, hU1, hU2⟩ := avText_both a (by have := hsum.out; omega)
        obtain ⟨x, ex, hX1, hX2⟩ := rtParse_both s hsl.out
        obtain ⟨y, ey, hyl, hY1, hY2⟩ := avParse_both t htl.out
        have HT1 := Lib.hid hT1
        have HT2 := Lib.hid hT2
        have HU1 := Lib.hid hU1
        have HU2 := Lib.hid hU2
        have HX1 := Lib.hid hX1
        have HX2 := Lib.hid hX2
        have HY1 := Lib.hid hY1
        have HY2 := Lib.hid hY2
        have HYL := Lib.hid hyl
        clear hT1 hT2 hU1 hU2 hX1 hX2 hY1 hY2 hyl hsl htl
        have Hr := H2.r
        obtain ⟨c0, c1, c2, c3, c4, c5, c6, c7, c8⟩ := rt_blk Hr
        clear Hr
        go_wp2_with fail
        refine (HT1.out _ (hE.below H2.n)).mono ?_
        rintro e w3 ⟨rfl, hb⟩
        have H3 := H2.below hb
        have hB3 := hB1.below hb
        clear hb H2 hB1 HT1 c0 c1 c2 c3 c4 c5 c6 c7 c8
        have Hr := H3.r
        obtain ⟨c0, c1, c2, c3, c4, c5, c6, c7, c8⟩ := rt_blk Hr
        clear Hr
        go_wp2_with fail
        refine (HT2.out _).mono ?_
        rintro e w4 ⟨rfl, hb⟩
        have H4 := H3.below hb
        have hB4 := hB3.below hb
        clear hb H3 hB3 HT2 c0 c1 c2 c3 c4 c5 c6 c7 c8
        have Hb := hB4.1
        obtain ⟨c0, c1, c2, c3, c4, c5, c6, c7, c8, c9, c10, c11, c12⟩ := av_blk Hb
        clear Hb
        go_wp2_with fail
        refine (HU1.out _ _ _ _ (hE.below H4.n) hB4.2.1 hB4.2.2.1 hB4.2.2.2).mono ?_
        rintro e w5 ⟨rfl, hb⟩
        have H5 := H4.below hb
        have hB5 := hB4.below hb
        clear hb H4 hB4 HU1 c0 c1 c2 c3 c4 c5 c6 c7 c8 c9 c10 c11 c12
        have Ha := H5.a
        obtain ⟨c0, c1, c2, c3, c4, c5, c6, c7, c8, c9, c10, c11, c12⟩ := av_blk Ha
        clear Ha
        have hcl1 := hPO.out.1.below2 H5.n
        have hcl2 := hPO.out.2.1.below2 H5.n
        have hcl3 := hPO.out.2.2.below2 H5.n
        have K := Lib.hid (HU2.out _ _ _ _ hcl1 hcl2 hcl3)
        clear hcl1 hcl2 hcl3 HU2
        go_wp2_with fail
        refine K.out.mono ?_
        rintro e w6 ⟨rfl, hb⟩
        have H6 := H5.below hb
        have hB6 := hB5.below hb
        clear hb H5 hB5 K c0 c1 c2 c3 c4 c5 c6 c7 c8 c9 c10 c11 c12
        go_wp2_with fail
        refine (HX1.out _ (hE.below H6.n)).mono ?_
        rintro e w7 ⟨rfl, hb⟩
        have hb2 := below1 w7 (rtObj x)
        have H7 := (H6.below hb).below hb2
        have hB7 := (hB6.below hb).below hb2
        have p1 := heap_alloc_new w7 (rtObj x)
        have hw : w7.alloc (.cells #[.int .u32 x.a, .int .i64 x.m, .int .u8 x.fr, .int .i64 x.di, .int .i64 x.me, .int .i64 x.ta, .string ⟨x.nm.toArray⟩, .int .u32 x.ho, .bool x.dc] 27) = w7.alloc (rtObj x) := rfl
        clear hb hb2 H6 hB6 HX1
        go_upto_region 9 with fail
        try rw [hw]
        clear hw
        generalize w7.alloc (rtObj x) = W7 at *
        generalize w7.heap.size = gp1 at *
        go_wp2_with fail
        refine (HX2.out _).mono ?_
        rintro e w8 ⟨rfl, hb⟩
        have hb2 := below1 w8 (rtObj x)
        have H8 := (H7.below hb).below hb2
        have hB8 := (hB7.below hb).below hb2
        replace p1 := blk_below hb2 (blk_below hb p1)
        have p2 := heap_alloc_new w8 (rtObj x)
        have hw : w8.alloc (.cells #[.int .u32 x.a, .int .i64 x.m, .int .u8 x.fr, .int .i64 x.di, .int .i64 x.me, .int .i64 x.ta, .string ⟨x.nm.toArray⟩, .int .u32 x.ho, .bool x.dc] 27) = w8.alloc (rtObj x) := rfl
        clear hb hb2 H7 hB7 HX2
        go_upto_region 10 with fail
        try rw [hw]
        clear hw
        generalize w8.alloc (rtObj x) = W8 at *
        generalize w8.heap.size = gp2 at *
        go_wp2_with fail
        refine (HY1.out _ (hE.below H8.n)).mono ?_
        rintro e w9 ⟨c1, c2, c3, rfl, r1, r2, r3, hb⟩
        obtain ⟨Xc1, Yc1, hu1, _⟩ := r1.form
        obtain ⟨Xc2, Yc2, hu2, _⟩ := r2.form
        obtain ⟨Xc3, Yc3, hu3, _⟩ := r3.form
        subst hu1 hu2 hu3
        have hb2 := below1 w9 (avObj y (.slice Xc1 y.pa.length Yc1) (.slice Xc2 y.co.length Yc2) (.slice Xc3 y.cl.length Yc3))
        have H9 := (H8.below hb).below hb2
        have hB9 := (hB8.below hb).below hb2
        replace p1 := blk_below hb2 (blk_below hb p1)
        replace p2 := blk_below hb2 (blk_below hb p2)
        have q1 := AvIn.of (y := y) ⟨r1, r2, r3⟩
        have hw : w9.alloc (.cells #[.int .u32 y.a, .int .i64 y.m, .int .u32 y.ho, .int .i64 y.pf, .int .i64 y.me, (.slice Xc1 y.pa.length Yc1), (.slice Xc2 y.co.length Yc2), .int .u32 y.pe, .int .u32 y.id, .bool y.ex, .int .u32 y.og, (.slice Xc3 y.cl.length Yc3), .int .i64 y.ss] 31) = w9.alloc (avObj y (.slice Xc1 y.pa.length Yc1) (.slice Xc2 y.co.length Yc2) (.slice Xc3 y.cl.length Yc3)) := rfl
        clear hb hb2 H8 hB8 HY1 r1 r2 r3
        go_upto_region 11 with fail
        try rw [hw]
        clear hw
        generalize w9.alloc (avObj y (.slice Xc1 y.pa.length Yc1) (.slice Xc2 y.co.length Yc2) (.slice Xc3 y.cl.length Yc3)) = W9 at *
        generalize w9.heap.size = gq1 at *
        go_wp2_with fail
        refine (HY2.out _).mono ?_
        rintro e w10 ⟨d1, d2, d3, rfl, r1, r2, r3, hb⟩
        obtain ⟨Xd1, Yd1, hu1, _⟩ := r1.form
        obtain ⟨Xd2, Yd2, hu2, _⟩ := r2.form
        obtain ⟨Xd3, Yd3, hu3, _⟩ := r3.form
        subst hu1 hu2 hu3
        have hb2 := below1 w10 (avObj y (.slice Xd1 y.pa.length Yd1) (.slice Xd2 y.co.length Yd2) (.slice Xd3 y.cl.length Yd3))
        have H10 := (H9.below hb).below hb2
        have hB10 := (hB9.below hb).below hb2
        replace p1 := blk_below hb2 (blk_below hb p1)
        replace p2 := blk_below hb2 (blk_below hb p2)
        replace q1 := (q1.below hb).below hb2
        have q2 := AvIn.of (y := y) ⟨r1, r2, r3⟩
        have hw : w10.alloc (.cells #[.int .u32 y.a, .int .i64 y.m, .int .u32 y.ho, .int .i64 y.pf, .int .i64 y.me, (.slice Xd1 y.pa.length Yd1), (.slice Xd2 y.co.length Yd2), .int .u32 y.pe, .int .u32 y.id, .bool y.ex, .int .u32 y.og, (.slice Xd3 y.cl.length Yd3), .int .i64 y.ss] 31) = w10.alloc (avObj y (.slice Xd1 y.pa.length Yd1) (.slice Xd2 y.co.length Yd2) (.slice Xd3 y.cl.length Yd3)) := rfl
        clear hb hb2 H9 hB9 HY2 r1 r2 r3
        go_upto_region 12 with fail
        try rw [hw]
        clear hw
        generalize w10.alloc (avObj y (.slice Xd1 y.pa.length Yd1) (.slice Xd2 y.co.length Yd2) (.slice Xd3 y.cl.length Yd3)) = W10 at *
        generalize w10.heap.size = gq2 at *
        have hs1 : (tt.toList == tt.toList) = true := beq_self_eq_true _
        have hs2 : (uu.toList == uu.toList) = true := beq_self_eq_true _
        have hs3 : (et == et) = true := beq_self_eq_true _
        have hs4 : (eu == eu) = true := beq_self_eq_true _
        have hs5 : (ex == ex) = true := beq_self_eq_true _
        have hs6 : (ey == ey) = true := beq_self_eq_true _
        have heq := eqlRt x
        obtain ⟨c0, c1, c2, c3, c4, c5, c6, c7, c8⟩ := rt_blk p1
        obtain ⟨d0, d1, d2, d3, d4, d5, d6, d7, d8⟩ := rt_blk p2
        have Q1 := q1.1
        have Q2 := q2.1
        obtain ⟨k0, k1, k2, k3, k4, k5, k6, k7, k8, k9, k10, k11, k12⟩ := av_blk Q1
        obtain ⟨l0, l1, l2, l3, l4, l5, l6, l7, l8, l9, l10, l11, l12⟩ := av_blk Q2
        clear Q1 Q2
        have K := Lib.hid (refCmpA_same y (.slice Xc1 y.pa.length Yc1) (.slice Xc2 y.co.length Yc2) (.slice Xc3 y.cl.length Yc3) (.slice Xd1 y.pa.length Yd1) (.slice Xd2 y.co.length Yd2) (.slice Xd3 y.cl.length Yd3) W10 q1.2.1 q2.2.1 q1.2.2.1 q2.2.2.1 q1.2.2.2 q2.2.2.2 (Nat.le_trans HYL.out (by decide)))
        have hpq := Lib.hid (And.intro p1 (And.intro p2 (And.intro q1 q2)))
        clear p1 p2 q1 q2
        go_wp2_with fail
        refine K.out.mono ?_
        rintro e w11 ⟨rfl, hb⟩
        have H11 := H10.below hb
        have hB11 := hB10.below hb
        clear K hb H10 hB10 c0 c1 c2 c3 c4 c5 c6 c7 c8 d0 d1 d2 d3 d4 d5 d6 d7 d8 k0 k1 k2 k3 k4 k5 k6 k7 k8 k9 k10 k11 k12 l0 l1 l2 l3 l4 l5 l6 l7 l8 l9 l10 l11 l12 heq hs1 hs2 hs3 hs4 hs5 hs6
        have Ha := H11.a
        obtain ⟨c0, c1, c2, c3, c4, c5, c6, c7, c8, c9, c10, c11, c12⟩ := av_blk Ha
        clear Ha
        have Hb := hB11.1
        obtain ⟨d0, d1, d2, d3, d4, d5, d6, d7, d8, d9, d10, d11, d12⟩ := av_blk Hb
        clear Hb
        have K := Lib.hid (refCmpA_same a (.slice A1 a.pa.length C1) (.slice A2 a.co.length C2) (.slice A3 a.cl.length C3) (.slice B1 a.pa.length D1) (.slice B2 a.co.length D2) (.slice B3 a.cl.length D3) w11 (hPO.out.1.below2 H11.n) hB11.2.1 (hPO.out.2.1.below2 H11.n) hB11.2.2.1 (hPO.out.2.2.below2 H11.n) hB11.2.2.2 (by have := hsum.out; omega))
        go_wp2_with fail
        refine K.out.mono ?_
        rintro e w12 ⟨rfl, hb⟩
        have H12 := H11.below hb
        go_wp2
        go_ret
        exact ⟨rfl, H12.n⟩
end Go.Proofs.YtpmoepipoafegaaGreatDoor

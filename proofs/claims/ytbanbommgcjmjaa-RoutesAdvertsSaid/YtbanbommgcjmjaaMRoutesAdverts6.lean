/-
  Joined texts: Ra3.
-/
import Derived.Test.YtbanbommgcjmjaaMRoutesAdverts5
import Derived.Test.YtbanbommgcjmjaaMRoutesAdverts3
/-
  The document's CmpAdvert at any two adverts (written by wip/gen/genra3.py).
-/
namespace Go.Proofs.Ytbanbommgcjmjaa
open Go Go.RowKit Go.Lib Go.Sort

/-- What the operations of CmpAdvert's region wait for, write and look at. -/
def rowsRa3 : List ORow := [(0, 32, 4, true), (1, 64, 32, true), (0, 128, 8, true), (4, 256, 128, true), (10, 512, 320, false), (0, 1024, 4, true), (32, 2048, 1024, true), (0, 4096, 8, true), (128, 8192, 4096, true), (320, 16384, 10240, true), (0, 32768, 4, true), (1024, 65536, 32768, true), (0, 131072, 8, true), (4096, 262144, 131072, true), (10240, 524288, 327680, true), (16912, 1048576, 540672, false), (0, 2097152, 4, true), (65536, 4194304, 2097152, true), (0, 8388608, 8, true), (262144, 16777216, 8388608, true), (655360, 33554432, 20971520, true), (0, 67108864, 4, true), (2097152, 134217728, 67108864, true), (0, 268435456, 8, true), (8388608, 536870912, 268435456, true), (20971520, 1073741824, 671088640, true), (34635776, 2147483648, 1107296256, false), (0, 4294967296, 4, true), (134217728, 8589934592, 4294967296, true), (0, 17179869184, 8, true), (536870912, 34359738368, 17179869184, true), (1342177280, 68719476736, 42949672960, true), (0, 137438953472, 4, true), (4294967296, 274877906944, 137438953472, true), (0, 549755813888, 8, true), (17179869184, 1099511627776, 549755813888, true), (42949672960, 2199023255552, 1374389534720, true), (70934069248, 4398046511104, 2267742732288, false), (0, 8796093022208, 4, true), (274877906944, 17592186044416, 8796093022208, true), (0, 35184372088832, 8, true), (1099511627776, 70368744177664, 35184372088832, true), (2748779069440, 140737488355328, 87960930222080, true), (0, 281474976710656, 4, true), (8796093022208, 562949953421312, 281474976710656, true), (0, 1125899906842624, 8, true), (35184372088832, 2251799813685248, 1125899906842624, true), (87960930222080, 4503599627370496, 2814749767106560, true), (145272973819904, 9007199254740992, 4644337115725824, false), (0, 18014398509481984, 4, true), (562949953421312, 36028797018963968, 18014398509481984, true), (0, 72057594037927936, 8, true), (2251799813685248, 144115188075855872, 72057594037927936, true), (5629499534213120, 288230376151711744, 180143985094819840, true), (0, 576460752303423488, 4, true), (18014398509481984, 1152921504606846976, 576460752303423488, true), (0, 2305843009213693952, 8, true), (72057594037927936, 4611686018427387904, 2305843009213693952, true), (180143985094819840, 9223372036854775808, 5764607523034234880, true), (297519050383163392, 18446744073709551616, 9511602413006487552, false), (0, 36893488147419103232, 4, true), (1152921504606846976, 73786976294838206464, 36893488147419103232, true), (0, 147573952589676412928, 8, true), (4611686018427387904, 295147905179352825856, 147573952589676412928, true), (11529215046068469760, 590295810358705651712, 368934881474191032320, true), (0, 1180591620717411303424, 4, true), (36893488147419103232, 2361183241434822606848, 1180591620717411303424, true), (0, 4722366482869645213696, 8, true), (147573952589676412928, 9444732965739290427392, 4722366482869645213696, true), (368934881474191032320, 18889465931478580854784, 11805916207174113034240, true), (609319015184718626816, 37778931862957161709568, 19479761741837286506496, false), (0, 75557863725914323419136, 4, true), (2361183241434822606848, 151115727451828646838272, 75557863725914323419136, true), (4722366482869645213696, 302231454903657293676544, 151115727451828646838272, true), (10625324586456701730816, 604462909807314587353088, 302231454903657293676544, true), (18889465931478580854784, 1208925819614629174706176, 604462909807314587353096, true), (56668397794435742564352, 2417851639229258349412352, 1813388729421943762059264, true), (94447329657392904273920, 4835703278458516698824704, 3022314549036572936765440, true), (0, 9671406556917033397649408, 4, true), (302231454903657293676544, 19342813113834066795298816, 9671406556917033397649408, true), (623352375738793168207872, 38685626227668133590597632, 19342813113834066795298816, true), (1208925819614629174706176, 77371252455336267181195264, 38685626227668133590597640, true), (3626777458843887524118528, 154742504910672534362390528, 116056878683004400771792896, true), (6044629098073145873530880, 309485009821345068724781056, 193428131138340667952988160, true), (10880332376531662572355584, 618970019642690137449562112, 348170636049013202315378688, true), (20702854660900524616843264, 1237940039285380274899124224, 623805722921148654148386816, false), (0, 2475880078570760549798248448, 4, true), (77371252455336267181195264, 4951760157141521099596496896, 2475880078570760549798248448, true), (0, 9903520314283042199192993792, 8, true), (309485009821345068724781056, 19807040628566084398385987584, 9903520314283042199192993792, true), (773712524553362671811952640, 39614081257132168796771975168, 24758800785707605497982484480, true), (0, 79228162514264337593543950336, 4, true), (2475880078570760549798248448, 158456325028528675187087900672, 79228162514264337593543950336, true), (0, 316912650057057350374175801344, 8, true), (9903520314283042199192993792, 633825300114114700748351602688, 316912650057057350374175801344, true), (24758800785707605497982484480, 1267650600228229401496703205376, 792281625142643375935439503360, true), (40890706922645217205261697024, 2535301200456458802993406410752, 1307264681485361570293475180544, false), (0, 5070602400912917605986812821504, 4, true), (158456325028528675187087900672, 10141204801825835211973625643008, 5070602400912917605986812821504, true), (0, 20282409603651670423947251286016, 8, true), (633825300114114700748351602688, 40564819207303340847894502572032, 20282409603651670423947251286016, true), (1663791412799551089464422957056, 81129638414606681695789005144064, 50706024009129176059868128215040, false), (0, 162259276829213363391578010288128, 4, true), (5070602400912917605986812821504, 324518553658426726783156020576256, 162259276829213363391578010288128, true), (0, 649037107316853453566312041152512, 8, true), (20282409603651670423947251286016, 1298074214633706907132624082305024, 649037107316853453566312041152512, true), (53241325209585634862861534625792, 2596148429267413814265248164610048, 1622592768292133633915780102881280, false), (0, 5192296858534827628530496329220096, 4, true), (162259276829213363391578010288128, 10384593717069655257060992658440192, 5192296858534827628530496329220096, true), (405648192073033408478945025720320, 20769187434139310514121985316880384, 10384593717069655257060992658440192, false), (0, 41538374868278621028243970633760768, 8, true), (1298074214633706907132624082305024, 83076749736557242056487941267521536, 41538374868278621028243970633760768, true), (3245185536584267267831560205762560, 166153499473114484112975882535043072, 83076749736557242056487941267521536, false), (5841333965851681082096808370372608, 332306998946228968225951765070086144, 186922686907253794627097867851923456, false), (10468337923534040057928584402075664, 664613997892457936451903530140172288, 334986813553089281853714700866421248, false), (31153781151208965771182977975320576, 1329227995784915872903807060280344576, 664613997892457936451903530140172288, false), (83076749736557242056487941267521535, 16, 1329227995784915872903807060280344576, true)]
theorem Rd.mono2 {w w' : World} {k : Nat} {v : Value} {n : Nat} {xs : List Value} (h : Rd w w.heap.size k v n xs) (hb : Below w.heap.size w w') : Rd w' w'.heap.size k v n xs := (h.below hb).mono hb.size
set_option maxRecDepth 100000 in
set_option maxHeartbeats 8000000 in
theorem refAcmp_false_false (r s : AvV) (vp vo vl up uo ul : Value) (w : World) (h1 : Rd w w.heap.size 1 vp r.pa.length (r.pa.map (Value.int .u32))) (h2 : Rd w w.heap.size 1 up s.pa.length (s.pa.map (Value.int .u32))) (h3 : Rd w w.heap.size 1 vo r.co.length (r.co.map (Value.int .u32))) (h4 : Rd w w.heap.size 1 uo s.co.length (s.co.map (Value.int .u32))) (h5 : Rd w w.heap.size 1 vl r.cl.length (r.cl.map (Value.int .u32))) (h6 : Rd w w.heap.size 1 ul s.cl.length (s.cl.map (Value.int .u32))) (hlen : r.pa.length * 4 ≤ 140737488355328 ∧ r.co.length * 4 ≤ 140737488355328 ∧ r.cl.length * 4 ≤ 140737488355328) (hlem : s.pa.length * 4 ≤ 140737488355328 ∧ s.co.length * 4 ≤ 140737488355328 ∧ s.cl.length * 4 ≤ 140737488355328) :
    Calls Try.prog 17 #[.agg #[.int .u32 r.a, .int .i64 r.m, .int .u32 r.ho, .int .i64 r.pf, .int .i64 r.me, vp, vo, .int .u32 r.pe, .int .u32 r.id, .bool false, .int .u32 r.og, vl, .int .i64 r.ss], .agg #[.int .u32 s.a, .int .i64 s.m, .int .u32 s.ho, .int .i64 s.pf, .int .i64 s.me, up, uo, .int .u32 s.pe, .int .u32 s.id, .bool false, .int .u32 s.og, ul, .int .i64 s.ss]] w fun e w' => e = .returned (.int .i64 (firstNZ [firstNZ [cmpI r.a s.a, cmpI r.m s.m], cmpI r.ss s.ss, cmpI r.pf s.pf, cmpI r.me s.me, cmpI r.ho s.ho, cmpI r.pe s.pe, cmpI r.id s.id, cmpB false false, cmpI r.og s.og, cmpNs r.pa s.pa, cmpNs r.co s.co, cmpNs r.cl s.cl])) ∧ Below w.heap.size w w' := by
  obtain ⟨k0, k1⟩ := blk2 w (.cells #[.int .u32 r.a, .int .i64 r.m, .int .u32 r.ho, .int .i64 r.pf, .int .i64 r.me, vp, vo, .int .u32 r.pe, .int .u32 r.id, .bool false, .int .u32 r.og, vl, .int .i64 r.ss] 36) (.cells #[.int .u32 s.a, .int .i64 s.m, .int .u32 s.ho, .int .i64 s.pf, .int .i64 s.me, up, uo, .int .u32 s.pe, .int .u32 s.id, .bool false, .int .u32 s.og, ul, .int .i64 s.ss] 36)
  have hb0 := below2 w (.cells #[.int .u32 r.a, .int .i64 r.m, .int .u32 r.ho, .int .i64 r.pf, .int .i64 r.me, vp, vo, .int .u32 r.pe, .int .u32 r.id, .bool false, .int .u32 r.og, vl, .int .i64 r.ss] 36) (.cells #[.int .u32 s.a, .int .i64 s.m, .int .u32 s.ho, .int .i64 s.pf, .int .i64 s.me, up, uo, .int .u32 s.pe, .int .u32 s.id, .bool false, .int .u32 s.og, ul, .int .i64 s.ss] 36)
  have HR := Lib.hid (And.intro (h1.mono2 hb0) (And.intro (h2.mono2 hb0) (And.intro (h3.mono2 hb0) (And.intro (h4.mono2 hb0) (And.intro (h5.mono2 hb0) (h6.mono2 hb0))))))
  have KI := Lib.hid (fun x y W => oneI_b x y W)
  have KB := Lib.hid (fun x y W => oneB_b x y W)
  have KPR := Lib.hid (fun a b m n W => refPrefix08_b a b m n W)
  have KF := Lib.hid (fun l v W h hn => first_b l v W h hn)
  have KNUM := Lib.hid (fun l m u v W hu hv hn hm => refNums_any l m u v W hu hv hn hm)
  have KW := Lib.hid (fun l v W h hn => refWords_any l v W h hn)
  clear h1 h2 h3 h4 h5 h6
  go_enter Try.func17, Try.ntmps17
  go_upto_region 1 with fail
  obtain ⟨c0, c1, c2, c3, c4, c5, c6, c7, c8, c9, c10, c11, c12⟩ := cblk13 (t := 36) k0
  obtain ⟨d0, d1, d2, d3, d4, d5, d6, d7, d8, d9, d10, d11, d12⟩ := cblk13 (t := 36) k1
  clear k0 k1
  generalize (w.alloc (.cells #[.int .u32 r.a, .int .i64 r.m, .int .u32 r.ho, .int .i64 r.pf, .int .i64 r.me, vp, vo, .int .u32 r.pe, .int .u32 r.id, .bool false, .int .u32 r.og, vl, .int .i64 r.ss] 36)).alloc (.cells #[.int .u32 s.a, .int .i64 s.m, .int .u32 s.ho, .int .i64 s.pf, .int .i64 s.me, up, uo, .int .u32 s.pe, .int .u32 s.id, .bool false, .int .u32 s.og, ul, .int .i64 s.ss] 36) = W at *
  generalize (Value.agg #[.int .u32 r.a, .int .i64 r.m, .int .u32 r.ho, .int .i64 r.pf, .int .i64 r.me, vp, vo, .int .u32 r.pe, .int .u32 r.id, .bool false, .int .u32 r.og, vl, .int .i64 r.ss] : Value) = va at *
  generalize (Value.agg #[.int .u32 s.a, .int .i64 s.m, .int .u32 s.ho, .int .i64 s.pf, .int .i64 s.me, up, uo, .int .u32 s.pe, .int .u32 s.id, .bool false, .int .u32 s.og, ul, .int .i64 s.ss] : Value) = vb at *
  try dsimp only [List.append]
  try simp only [List.cons_append, List.nil_append]
  have F0 := cell_regrown c0
  have F1 := cell_regrown c1
  have F2 := cell_regrown c2
  have F3 := cell_regrown c3
  have F4 := cell_regrown c4
  have F5 := cell_regrown c5
  have F6 := cell_regrown c6
  have F7 := cell_regrown c7
  have F8 := cell_regrown c8
  have F9 := cell_regrown c9
  have F10 := cell_regrown c10
  have F11 := cell_regrown c11
  have F12 := cell_regrown c12
  have G0 := cell_regrown d0
  have G1 := cell_regrown d1
  have G2 := cell_regrown d2
  have G3 := cell_regrown d3
  have G4 := cell_regrown d4
  have G5 := cell_regrown d5
  have G6 := cell_regrown d6
  have G7 := cell_regrown d7
  have G8 := cell_regrown d8
  have G9 := cell_regrown d9
  have G10 := cell_regrown d10
  have G11 := cell_regrown d11
  have G12 := cell_regrown d12
  refine wp_region_mixF [(0, false), (1, false), (2, false), (3, false), (5, false), (6, false), (7, false), (8, false), (9, false), (10, false), (11, false), (12, false), (13, false), (14, false), (16, false), (17, false), (18, false), (19, false), (20, false), (21, false), (22, false), (23, false), (24, false), (25, false), (27, false), (28, false), (29, false), (30, false), (31, false), (32, false), (33, false), (34, false), (35, false), (36, false), (38, false), (39, false), (40, false), (41, false), (42, false), (43, false), (44, false), (45, false), (46, false), (47, false), (49, false), (50, false), (51, false), (52, false), (53, false), (54, false), (55, false), (56, false), (57, false), (58, false), (60, false), (61, false), (62, false), (63, false), (64, false), (65, false), (66, false), (67, false), (68, false), (69, false), (71, false), (72, false), (73, false), (78, false), (79, false), (86, false), (87, false), (88, false), (89, false), (90, false), (91, false), (92, false), (93, false), (94, false), (95, false), (97, false), (98, false), (99, false), (100, false), (102, false), (103, false), (104, false), (105, false), (107, false), (108, false), (110, false), (111, false), (4, true), (15, true), (26, true), (37, true), (48, true), (59, true), (70, true), (74, false), (75, false), (76, false), (77, false), (80, false), (81, false), (82, false), (83, false), (84, false), (85, true), (96, true), (101, true), (106, true), (109, true), (112, true), (113, true), (114, true), (115, true), (116, false)] rowsRa3 (by kernel_rfl) (by kernel_rfl) ?_
  have hv0 := below_drawn W
  generalize { W with drawn := W.drawn + 1 } = V0 at *
  refine mix_take [0, 1, 2, 3, 5, 6, 7, 8, 9, 10, 11, 12, 13, 14, 16, 17, 18, 19, 20, 21, 22, 23, 24, 25, 27, 28, 29, 30, 31, 32, 33, 34, 35, 36, 38, 39, 40, 41, 42, 43, 44, 45, 46, 47, 49, 50, 51, 52, 53, 54, 55, 56, 57, 58, 60, 61, 62, 63, 64, 65, 66, 67, 68, 69, 71, 72, 73, 78, 79, 86, 87, 88, 89, 90, 91, 92, 93, 94, 95, 97, 98, 99, 100, 102, 103, 104, 105, 107, 108, 110, 111] [_, _, _, _, _, _, _, _, _, _, _, _, _, _, _, _, _, _, _, _, _, _, _, _, _, _, _, _, _, _, _, _, _, _, _, _, _, _, _, _, _, _, _, _, _, _, _, _, _, _, _, _, _, _, _, _, _, _, _, _, _, _, _, _, _, _, _, _, _, _, _, _, _, _, _, _, _, _, _, _, _, _, _, _, _, _, _, _, _, _, _] rfl rfl ?_
  simp only [List.getElem_toArray, List.getElem_cons_zero, List.getElem_cons_succ]
  repeat (go_big_quiet_step (fail))
  refine wpQuiet_nil ?_
  refine mix_bar rfl (by rfl) ?_
  simp only [List.getElem_toArray, List.getElem_cons_zero, List.getElem_cons_succ]
  go_simp
  refine (KPR.out r.a s.a r.m s.m V0).mono ?_
  rintro e V1 ⟨rfl, hb⟩
  have hv1 := below_call hv0 hb
  refine ⟨regrown_of_below hv1, ?_⟩
  clear hb
  clear F0 G0 F1 G1 F2 G2 F3 G3 F4 G4 F5 G5 F6 G6 F7 G7 F8 G8 F10 G10 F11 G11 F12 G12
  refine mix_bar rfl (by rfl) ?_
  simp only [List.getElem_toArray, List.getElem_cons_zero, List.getElem_cons_succ]
  go_simp
  refine (KI.out r.ss s.ss V1).mono ?_
  rintro e V2 ⟨rfl, hb⟩
  have hv2 := below_call hv1 hb
  refine ⟨regrown_of_below hv2, ?_⟩
  clear hb
  refine mix_bar rfl (by rfl) ?_
  simp only [List.getElem_toArray, List.getElem_cons_zero, List.getElem_cons_succ]
  go_simp
  refine (KI.out r.pf s.pf V2).mono ?_
  rintro e V3 ⟨rfl, hb⟩
  have hv3 := below_call hv2 hb
  refine ⟨regrown_of_below hv3, ?_⟩
  clear hb
  refine mix_bar rfl (by rfl) ?_
  simp only [List.getElem_toArray, List.getElem_cons_zero, List.getElem_cons_succ]
  go_simp
  refine (KI.out r.me s.me V3).mono ?_
  rintro e V4 ⟨rfl, hb⟩
  have hv4 := below_call hv3 hb
  refine ⟨regrown_of_below hv4, ?_⟩
  clear hb
  refine mix_bar rfl (by rfl) ?_
  simp only [List.getElem_toArray, List.getElem_cons_zero, List.getElem_cons_succ]
  go_simp
  refine (KI.out r.ho s.ho V4).mono ?_
  rintro e V5 ⟨rfl, hb⟩
  have hv5 := below_call hv4 hb
  refine ⟨regrown_of_below hv5, ?_⟩
  clear hb
  refine mix_bar rfl (by rfl) ?_
  simp only [List.getElem_toArray, List.getElem_cons_zero, List.getElem_cons_succ]
  go_simp
  refine (KI.out r.pe s.pe V5).mono ?_
  rintro e V6 ⟨rfl, hb⟩
  have hv6 := below_call hv5 hb
  refine ⟨regrown_of_below hv6, ?_⟩
  clear hb
  refine mix_bar rfl (by rfl) ?_
  simp only [List.getElem_toArray, List.getElem_cons_zero, List.getElem_cons_succ]
  go_simp
  refine (KI.out r.id s.id V6).mono ?_
  rintro e V7 ⟨rfl, hb⟩
  have hv7 := below_call hv6 hb
  refine ⟨regrown_of_below hv7, ?_⟩
  clear hb
  refine mix_take [74, 75, 76, 77, 80, 81, 82, 83, 84] [_, _, _, _, _, _, _, _, _] rfl rfl ?_
  simp only [List.getElem_toArray, List.getElem_cons_zero, List.getElem_cons_succ]
  repeat (go_big_quiet_step (fail))
  refine wpQuiet_nil ?_
  refine mix_bar rfl (by rfl) ?_
  simp only [List.getElem_toArray, List.getElem_cons_zero, List.getElem_cons_succ]
  go_simp
  refine (KB.out false false V7).mono ?_
  rintro e V8 ⟨rfl, hb⟩
  have hv8 := below_call hv7 hb
  refine ⟨regrown_of_below hv8, ?_⟩
  clear hb
  refine mix_bar rfl (by rfl) ?_
  simp only [List.getElem_toArray, List.getElem_cons_zero, List.getElem_cons_succ]
  go_simp
  refine (KI.out r.og s.og V8).mono ?_
  rintro e V9 ⟨rfl, hb⟩
  have hv9 := below_call hv8 hb
  refine ⟨regrown_of_below hv9, ?_⟩
  clear hb
  refine mix_bar rfl (by rfl) ?_
  simp only [List.getElem_toArray, List.getElem_cons_zero, List.getElem_cons_succ]
  go_simp
  refine (KNUM.out r.pa s.pa vp up V9 (HR.out.1.mono2 hv9) (HR.out.2.1.mono2 hv9) (by omega) (by omega)).mono ?_
  rintro e V10 ⟨rfl, hb⟩
  have hv10 := below_call hv9 hb
  refine ⟨regrown_of_below hv10, ?_⟩
  clear hb
  refine mix_bar rfl (by rfl) ?_
  simp only [List.getElem_toArray, List.getElem_cons_zero, List.getElem_cons_succ]
  go_simp
  refine (KNUM.out r.co s.co vo uo V10 (HR.out.2.2.1.mono2 hv10) (HR.out.2.2.2.1.mono2 hv10) (by omega) (by omega)).mono ?_
  rintro e V11 ⟨rfl, hb⟩
  have hv11 := below_call hv10 hb
  refine ⟨regrown_of_below hv11, ?_⟩
  clear hb
  refine mix_bar rfl (by rfl) ?_
  simp only [List.getElem_toArray, List.getElem_cons_zero, List.getElem_cons_succ]
  go_simp
  refine (KW.out r.cl vl V11 (HR.out.2.2.2.2.1.mono2 hv11) hlen.2.2).mono ?_
  rintro e V12 ⟨y0, rfl, own0, hb⟩
  have hv12 := below_call hv11 hb

  have ry0 := Rd.of_own own0
  refine ⟨regrown_of_below hv12, ?_⟩
  clear hb own0
  refine mix_bar rfl (by rfl) ?_
  simp only [List.getElem_toArray, List.getElem_cons_zero, List.getElem_cons_succ]
  go_simp
  refine (KW.out s.cl ul V12 (HR.out.2.2.2.2.2.mono2 hv12) hlem.2.2).mono ?_
  rintro e V13 ⟨y1, rfl, own1, hb⟩
  have hv13 := below_call hv12 hb
  have ry0 := (ry0.below hb).mono hb.size
  have ry1 := Rd.of_own own1
  refine ⟨regrown_of_below hv13, ?_⟩
  clear hb own1
  refine mix_bar rfl (by rfl) ?_
  simp only [List.getElem_toArray, List.getElem_cons_zero, List.getElem_cons_succ]
  go_simp
  refine (KNUM.out r.cl s.cl y0 y1 V13 ry0 ry1 (by omega) (by omega)).mono ?_
  rintro e V14 ⟨rfl, hb⟩
  have hv14 := below_call hv13 hb
  refine ⟨regrown_of_below hv14, ?_⟩
  clear hb
  refine mix_bar rfl (by rfl) ?_
  simp only [List.getElem_toArray, List.getElem_cons_zero, List.getElem_cons_succ]
  go_simp
  have hg := heap_alloc_new V14 (.cells #[.int .i64 (firstNZ [cmpI r.a s.a, cmpI r.m s.m]), .int .i64 (cmpI r.ss s.ss), .int .i64 (cmpI r.pf s.pf), .int .i64 (cmpI r.me s.me), .int .i64 (cmpI r.ho s.ho), .int .i64 (cmpI r.pe s.pe), .int .i64 (cmpI r.id s.id), .int .i64 (cmpB false false), .int .i64 (cmpI r.og s.og), .int .i64 (cmpNs r.pa s.pa), .int .i64 (cmpNs r.co s.co), .int .i64 (cmpNs r.cl s.cl)] 3)
  have hv15 := hv14.alloc hv14.size (.cells #[.int .i64 (firstNZ [cmpI r.a s.a, cmpI r.m s.m]), .int .i64 (cmpI r.ss s.ss), .int .i64 (cmpI r.pf s.pf), .int .i64 (cmpI r.me s.me), .int .i64 (cmpI r.ho s.ho), .int .i64 (cmpI r.pe s.pe), .int .i64 (cmpI r.id s.id), .int .i64 (cmpB false false), .int .i64 (cmpI r.og s.og), .int .i64 (cmpNs r.pa s.pa), .int .i64 (cmpNs r.co s.co), .int .i64 (cmpNs r.cl s.cl)] 3)
  refine ⟨regrown_of_below hv15, ?_⟩
  generalize V14.alloc (.cells #[.int .i64 (firstNZ [cmpI r.a s.a, cmpI r.m s.m]), .int .i64 (cmpI r.ss s.ss), .int .i64 (cmpI r.pf s.pf), .int .i64 (cmpI r.me s.me), .int .i64 (cmpI r.ho s.ho), .int .i64 (cmpI r.pe s.pe), .int .i64 (cmpI r.id s.id), .int .i64 (cmpB false false), .int .i64 (cmpI r.og s.og), .int .i64 (cmpNs r.pa s.pa), .int .i64 (cmpNs r.co s.co), .int .i64 (cmpNs r.cl s.cl)] 3) = V15 at *
  refine mix_bar rfl (by rfl) ?_
  simp only [List.getElem_toArray, List.getElem_cons_zero, List.getElem_cons_succ]
  go_simp
  refine (KF.out [firstNZ [cmpI r.a s.a, cmpI r.m s.m], cmpI r.ss s.ss, cmpI r.pf s.pf, cmpI r.me s.me, cmpI r.ho s.ho, cmpI r.pe s.pe, cmpI r.id s.id, cmpB false false, cmpI r.og s.og, cmpNs r.pa s.pa, cmpNs r.co s.co, cmpNs r.cl s.cl] _ V15 (Rd.of_blk (cs := #[.int .i64 (firstNZ [cmpI r.a s.a, cmpI r.m s.m]), .int .i64 (cmpI r.ss s.ss), .int .i64 (cmpI r.pf s.pf), .int .i64 (cmpI r.me s.me), .int .i64 (cmpI r.ho s.ho), .int .i64 (cmpI r.pe s.pe), .int .i64 (cmpI r.id s.id), .int .i64 (cmpB false false), .int .i64 (cmpI r.og s.og), .int .i64 (cmpNs r.pa s.pa), .int .i64 (cmpNs r.co s.co), .int .i64 (cmpNs r.cl s.cl)]) (t := 3) hg (Nat.le_refl _) rfl) (by simp)).mono ?_
  rintro e V16 ⟨rfl, hb⟩
  have hv16 := below_call hv15 hb
  refine ⟨regrown_of_below hv16, ?_⟩
  clear hb
  refine mix_take [116] [_] rfl rfl ?_
  simp only [List.getElem_toArray, List.getElem_cons_zero, List.getElem_cons_succ]
  repeat (go_big_quiet_step (fail))
  refine wpQuiet_nil ?_
  refine mix_end ?_
  go_wp2
  go_ret
  exact ⟨rfl, below_call hb0 hv16⟩
set_option maxRecDepth 100000 in
set_option maxHeartbeats 8000000 in
theorem refAcmp_false_true (r s : AvV) (vp vo vl up uo ul : Value) (w : World) (h1 : Rd w w.heap.size 1 vp r.pa.length (r.pa.map (Value.int .u32))) (h2 : Rd w w.heap.size 1 up s.pa.length (s.pa.map (Value.int .u32))) (h3 : Rd w w.heap.size 1 vo r.co.length (r.co.map (Value.int .u32))) (h4 : Rd w w.heap.size 1 uo s.co.length (s.co.map (Value.int .u32))) (h5 : Rd w w.heap.size 1 vl r.cl.length (r.cl.map (Value.int .u32))) (h6 : Rd w w.heap.size 1 ul s.cl.length (s.cl.map (Value.int .u32))) (hlen : r.pa.length * 4 ≤ 140737488355328 ∧ r.co.length * 4 ≤ 140737488355328 ∧ r.cl.length * 4 ≤ 140737488355328) (hlem : s.pa.length * 4 ≤ 140737488355328 ∧ s.co.length * 4 ≤ 140737488355328 ∧ s.cl.length * 4 ≤ 140737488355328) :
    Calls Try.prog 17 #[.agg #[.int .u32 r.a, .int .i64 r.m, .int .u32 r.ho, .int .i64 r.pf, .int .i64 r.me, vp, vo, .int .u32 r.pe, .int .u32 r.id, .bool false, .int .u32 r.og, vl, .int .i64 r.ss], .agg #[.int .u32 s.a, .int .i64 s.m, .int .u32 s.ho, .int .i64 s.pf, .int .i64 s.me, up, uo, .int .u32 s.pe, .int .u32 s.id, .bool true, .int .u32 s.og, ul, .int .i64 s.ss]] w fun e w' => e = .returned (.int .i64 (firstNZ [firstNZ [cmpI r.a s.a, cmpI r.m s.m], cmpI r.ss s.ss, cmpI r.pf s.pf, cmpI r.me s.me, cmpI r.ho s.ho, cmpI r.pe s.pe, cmpI r.id s.id, cmpB false true, cmpI r.og s.og, cmpNs r.pa s.pa, cmpNs r.co s.co, cmpNs r.cl s.cl])) ∧ Below w.heap.size w w' := by
  obtain ⟨k0, k1⟩ := blk2 w (.cells #[.int .u32 r.a, .int .i64 r.m, .int .u32 r.ho, .int .i64 r.pf, .int .i64 r.me, vp, vo, .int .u32 r.pe, .int .u32 r.id, .bool false, .int .u32 r.og, vl, .int .i64 r.ss] 36) (.cells #[.int .u32 s.a, .int .i64 s.m, .int .u32 s.ho, .int .i64 s.pf, .int .i64 s.me, up, uo, .int .u32 s.pe, .int .u32 s.id, .bool true, .int .u32 s.og, ul, .int .i64 s.ss] 36)
  have hb0 := below2 w (.cells #[.int .u32 r.a, .int .i64 r.m, .int .u32 r.ho, .int .i64 r.pf, .int .i64 r.me, vp, vo, .int .u32 r.pe, .int .u32 r.id, .bool false, .int .u32 r.og, vl, .int .i64 r.ss] 36) (.cells #[.int .u32 s.a, .int .i64 s.m, .int .u32 s.ho, .int .i64 s.pf, .int .i64 s.me, up, uo, .int .u32 s.pe, .int .u32 s.id, .bool true, .int .u32 s.og, ul, .int .i64 s.ss] 36)
  have HR := Lib.hid (And.intro (h1.mono2 hb0) (And.intro (h2.mono2 hb0) (And.intro (h3.mono2 hb0) (And.intro (h4.mono2 hb0) (And.intro (h5.mono2 hb0) (h6.mono2 hb0))))))
  have KI := Lib.hid (fun x y W => oneI_b x y W)
  have KB := Lib.hid (fun x y W => oneB_b x y W)
  have KPR := Lib.hid (fun a b m n W => refPrefix08_b a b m n W)
  have KF := Lib.hid (fun l v W h hn => first_b l v W h hn)
  have KNUM := Lib.hid (fun l m u v W hu hv hn hm => refNums_any l m u v W hu hv hn hm)
  have KW := Lib.hid (fun l v W h hn => refWords_any l v W h hn)
  clear h1 h2 h3 h4 h5 h6
  go_enter Try.func17, Try.ntmps17
  go_upto_region 1 with fail
  obtain ⟨c0, c1, c2, c3, c4, c5, c6, c7, c8, c9, c10, c11, c12⟩ := cblk13 (t := 36) k0
  obtain ⟨d0, d1, d2, d3, d4, d5, d6, d7, d8, d9, d10, d11, d12⟩ := cblk13 (t := 36) k1
  clear k0 k1
  generalize (w.alloc (.cells #[.int .u32 r.a, .int .i64 r.m, .int .u32 r.ho, .int .i64 r.pf, .int .i64 r.me, vp, vo, .int .u32 r.pe, .int .u32 r.id, .bool false, .int .u32 r.og, vl, .int .i64 r.ss] 36)).alloc (.cells #[.int .u32 s.a, .int .i64 s.m, .int .u32 s.ho, .int .i64 s.pf, .int .i64 s.me, up, uo, .int .u32 s.pe, .int .u32 s.id, .bool true, .int .u32 s.og, ul, .int .i64 s.ss] 36) = W at *
  generalize (Value.agg #[.int .u32 r.a, .int .i64 r.m, .int .u32 r.ho, .int .i64 r.pf, .int .i64 r.me, vp, vo, .int .u32 r.pe, .int .u32 r.id, .bool false, .int .u32 r.og, vl, .int .i64 r.ss] : Value) = va at *
  generalize (Value.agg #[.int .u32 s.a, .int .i64 s.m, .int .u32 s.ho, .int .i64 s.pf, .int .i64 s.me, up, uo, .int .u32 s.pe, .int .u32 s.id, .bool true, .int .u32 s.og, ul, .int .i64 s.ss] : Value) = vb at *
  try dsimp only [List.append]
  try simp only [List.cons_append, List.nil_append]
  have F0 := cell_regrown c0
  have F1 := cell_regrown c1
  have F2 := cell_regrown c2
  have F3 := cell_regrown c3
  have F4 := cell_regrown c4
  have F5 := cell_regrown c5
  have F6 := cell_regrown c6
  have F7 := cell_regrown c7
  have F8 := cell_regrown c8
  have F9 := cell_regrown c9
  have F10 := cell_regrown c10
  have F11 := cell_regrown c11
  have F12 := cell_regrown c12
  have G0 := cell_regrown d0
  have G1 := cell_regrown d1
  have G2 := cell_regrown d2
  have G3 := cell_regrown d3
  have G4 := cell_regrown d4
  have G5 := cell_regrown d5
  have G6 := cell_regrown d6
  have G7 := cell_regrown d7
  have G8 := cell_regrown d8
  have G9 := cell_regrown d9
  have G10 := cell_regrown d10
  have G11 := cell_regrown d11
  have G12 := cell_regrown d12
  refine wp_region_mixF [(0, false), (1, false), (2, false), (3, false), (5, false), (6, false), (7, false), (8, false), (9, false), (10, false), (11, false), (12, false), (13, false), (14, false), (16, false), (17, false), (18, false), (19, false), (20, false), (21, false), (22, false), (23, false), (24, false), (25, false), (27, false), (28, false), (29, false), (30, false), (31, false), (32, false), (33, false), (34, false), (35, false), (36, false), (38, false), (39, false), (40, false), (41, false), (42, false), (43, false), (44, false), (45, false), (46, false), (47, false), (49, false), (50, false), (51, false), (52, false), (53, false), (54, false), (55, false), (56, false), (57, false), (58, false), (60, false), (61, false), (62, false), (63, false), (64, false), (65, false), (66, false), (67, false), (68, false), (69, false), (71, false), (72, false), (73, false), (78, false), (79, false), (86, false), (87, false), (88, false), (89, false), (90, false), (91, false), (92, false), (93, false), (94, false), (95, false), (97, false), (98, false), (99, false), (100, false), (102, false), (103, false), (104, false), (105, false), (107, false), (108, false), (110, false), (111, false), (4, true), (15, true), (26, true), (37, true), (48, true), (59, true), (70, true), (74, false), (75, false), (76, false), (77, false), (80, false), (81, false), (82, false), (83, false), (84, false), (85, true), (96, true), (101, true), (106, true), (109, true), (112, true), (113, true), (114, true), (115, true), (116, false)] rowsRa3 (by kernel_rfl) (by kernel_rfl) ?_
  have hv0 := below_drawn W
  generalize { W with drawn := W.drawn + 1 } = V0 at *
  refine mix_take [0, 1, 2, 3, 5, 6, 7, 8, 9, 10, 11, 12, 13, 14, 16, 17, 18, 19, 20, 21, 22, 23, 24, 25, 27, 28, 29, 30, 31, 32, 33, 34, 35, 36, 38, 39, 40, 41, 42, 43, 44, 45, 46, 47, 49, 50, 51, 52, 53, 54, 55, 56, 57, 58, 60, 61, 62, 63, 64, 65, 66, 67, 68, 69, 71, 72, 73, 78, 79, 86, 87, 88, 89, 90, 91, 92, 93, 94, 95, 97, 98, 99, 100, 102, 103, 104, 105, 107, 108, 110, 111] [_, _, _, _, _, _, _, _, _, _, _, _, _, _, _, _, _, _, _, _, _, _, _, _, _, _, _, _, _, _, _, _, _, _, _, _, _, _, _, _, _, _, _, _, _, _, _, _, _, _, _, _, _, _, _, _, _, _, _, _, _, _, _, _, _, _, _, _, _, _, _, _, _, _, _, _, _, _, _, _, _, _, _, _, _, _, _, _, _, _, _] rfl rfl ?_
  simp only [List.getElem_toArray, List.getElem_cons_zero, List.getElem_cons_succ]
  repeat (go_big_quiet_step (fail))
  refine wpQuiet_nil ?_
  refine mix_bar rfl (by rfl) ?_
  simp only [List.getElem_toArray, List.getElem_cons_zero, List.getElem_cons_succ]
  go_simp
  refine (KPR.out r.a s.a r.m s.m V0).mono ?_
  rintro e V1 ⟨rfl, hb⟩
  have hv1 := below_call hv0 hb
  refine ⟨regrown_of_below hv1, ?_⟩
  clear hb
  clear F0 G0 F1 G1 F2 G2 F3 G3 F4 G4 F5 G5 F6 G6 F7 G7 F8 G8 F10 G10 F11 G11 F12 G12
  refine mix_bar rfl (by rfl) ?_
  simp only [List.getElem_toArray, List.getElem_cons_zero, List.getElem_cons_succ]
  go_simp
  refine (KI.out r.ss s.ss V1).mono ?_
  rintro e V2 ⟨rfl, hb⟩
  have hv2 := below_call hv1 hb
  refine ⟨regrown_of_below hv2, ?_⟩
  clear hb
  refine mix_bar rfl (by rfl) ?_
  simp only [List.getElem_toArray, List.getElem_cons_zero, List.getElem_cons_succ]
  go_simp
  refine (KI.out r.pf s.pf V2).mono ?_
  rintro e V3 ⟨rfl, hb⟩
  have hv3 := below_call hv2 hb
  refine ⟨regrown_of_below hv3, ?_⟩
  clear hb
  refine mix_bar rfl (by rfl) ?_
  simp only [List.getElem_toArray, List.getElem_cons_zero, List.getElem_cons_succ]
  go_simp
  refine (KI.out r.me s.me V3).mono ?_
  rintro e V4 ⟨rfl, hb⟩
  have hv4 := below_call hv3 hb
  refine ⟨regrown_of_below hv4, ?_⟩
  clear hb
  refine mix_bar rfl (by rfl) ?_
  simp only [List.getElem_toArray, List.getElem_cons_zero, List.getElem_cons_succ]
  go_simp
  refine (KI.out r.ho s.ho V4).mono ?_
  rintro e V5 ⟨rfl, hb⟩
  have hv5 := below_call hv4 hb
  refine ⟨regrown_of_below hv5, ?_⟩
  clear hb
  refine mix_bar rfl (by rfl) ?_
  simp only [List.getElem_toArray, List.getElem_cons_zero, List.getElem_cons_succ]
  go_simp
  refine (KI.out r.pe s.pe V5).mono ?_
  rintro e V6 ⟨rfl, hb⟩
  have hv6 := below_call hv5 hb
  refine ⟨regrown_of_below hv6, ?_⟩
  clear hb
  refine mix_bar rfl (by rfl) ?_
  simp only [List.getElem_toArray, List.getElem_cons_zero, List.getElem_cons_succ]
  go_simp
  refine (KI.out r.id s.id V6).mono ?_
  rintro e V7 ⟨rfl, hb⟩
  have hv7 := below_call hv6 hb
  refine ⟨regrown_of_below hv7, ?_⟩
  clear hb
  refine mix_take [74, 75, 76, 77, 80, 81, 82, 83, 84] [_, _, _, _, _, _, _, _, _] rfl rfl ?_
  simp only [List.getElem_toArray, List.getElem_cons_zero, List.getElem_cons_succ]
  repeat (go_big_quiet_step (fail))
  refine wpQuiet_nil ?_
  refine mix_bar rfl (by rfl) ?_
  simp only [List.getElem_toArray, List.getElem_cons_zero, List.getElem_cons_succ]
  go_simp
  refine (KB.out false true V7).mono ?_
  rintro e V8 ⟨rfl, hb⟩
  have hv8 := below_call hv7 hb
  refine ⟨regrown_of_below hv8, ?_⟩
  clear hb
  refine mix_bar rfl (by rfl) ?_
  simp only [List.getElem_toArray, List.getElem_cons_zero, List.getElem_cons_succ]
  go_simp
  refine (KI.out r.og s.og V8).mono ?_
  rintro e V9 ⟨rfl, hb⟩
  have hv9 := below_call hv8 hb
  refine ⟨regrown_of_below hv9, ?_⟩
  clear hb
  refine mix_bar rfl (by rfl) ?_
  simp only [List.getElem_toArray, List.getElem_cons_zero, List.getElem_cons_succ]
  go_simp
  refine (KNUM.out r.pa s.pa vp up V9 (HR.out.1.mono2 hv9) (HR.out.2.1.mono2 hv9) (by omega) (by omega)).mono ?_
  rintro e V10 ⟨rfl, hb⟩
  have hv10 := below_call hv9 hb
  refine ⟨regrown_of_below hv10, ?_⟩
  clear hb
  refine mix_bar rfl (by rfl) ?_
  simp only [List.getElem_toArray, List.getElem_cons_zero, List.getElem_cons_succ]
  go_simp
  refine (KNUM.out r.co s.co vo uo V10 (HR.out.2.2.1.mono2 hv10) (HR.out.2.2.2.1.mono2 hv10) (by omega) (by omega)).mono ?_
  rintro e V11 ⟨rfl, hb⟩
  have hv11 := below_call hv10 hb
  refine ⟨regrown_of_below hv11, ?_⟩
  clear hb
  refine mix_bar rfl (by rfl) ?_
  simp only [List.getElem_toArray, List.getElem_cons_zero, List.getElem_cons_succ]
  go_simp
  refine (KW.out r.cl vl V11 (HR.out.2.2.2.2.1.mono2 hv11) hlen.2.2).mono ?_
  rintro e V12 ⟨y0, rfl, own0, hb⟩
  have hv12 := below_call hv11 hb

  have ry0 := Rd.of_own own0
  refine ⟨regrown_of_below hv12, ?_⟩
  clear hb own0
  refine mix_bar rfl (by rfl) ?_
  simp only [List.getElem_toArray, List.getElem_cons_zero, List.getElem_cons_succ]
  go_simp
  refine (KW.out s.cl ul V12 (HR.out.2.2.2.2.2.mono2 hv12) hlem.2.2).mono ?_
  rintro e V13 ⟨y1, rfl, own1, hb⟩
  have hv13 := below_call hv12 hb
  have ry0 := (ry0.below hb).mono hb.size
  have ry1 := Rd.of_own own1
  refine ⟨regrown_of_below hv13, ?_⟩
  clear hb own1
  refine mix_bar rfl (by rfl) ?_
  simp only [List.getElem_toArray, List.getElem_cons_zero, List.getElem_cons_succ]
  go_simp
  refine (KNUM.out r.cl s.cl y0 y1 V13 ry0 ry1 (by omega) (by omega)).mono ?_
  rintro e V14 ⟨rfl, hb⟩
  have hv14 := below_call hv13 hb
  refine ⟨regrown_of_below hv14, ?_⟩
  clear hb
  refine mix_bar rfl (by rfl) ?_
  simp only [List.getElem_toArray, List.getElem_cons_zero, List.getElem_cons_succ]
  go_simp
  have hg := heap_alloc_new V14 (.cells #[.int .i64 (firstNZ [cmpI r.a s.a, cmpI r.m s.m]), .int .i64 (cmpI r.ss s.ss), .int .i64 (cmpI r.pf s.pf), .int .i64 (cmpI r.me s.me), .int .i64 (cmpI r.ho s.ho), .int .i64 (cmpI r.pe s.pe), .int .i64 (cmpI r.id s.id), .int .i64 (cmpB false true), .int .i64 (cmpI r.og s.og), .int .i64 (cmpNs r.pa s.pa), .int .i64 (cmpNs r.co s.co), .int .i64 (cmpNs r.cl s.cl)] 3)
  have hv15 := hv14.alloc hv14.size (.cells #[.int .i64 (firstNZ [cmpI r.a s.a, cmpI r.m s.m]), .int .i64 (cmpI r.ss s.ss), .int .i64 (cmpI r.pf s.pf), .int .i64 (cmpI r.me s.me), .int .i64 (cmpI r.ho s.ho), .int .i64 (cmpI r.pe s.pe), .int .i64 (cmpI r.id s.id), .int .i64 (cmpB false true), .int .i64 (cmpI r.og s.og), .int .i64 (cmpNs r.pa s.pa), .int .i64 (cmpNs r.co s.co), .int .i64 (cmpNs r.cl s.cl)] 3)
  refine ⟨regrown_of_below hv15, ?_⟩
  generalize V14.alloc (.cells #[.int .i64 (firstNZ [cmpI r.a s.a, cmpI r.m s.m]), .int .i64 (cmpI r.ss s.ss), .int .i64 (cmpI r.pf s.pf), .int .i64 (cmpI r.me s.me), .int .i64 (cmpI r.ho s.ho), .int .i64 (cmpI r.pe s.pe), .int .i64 (cmpI r.id s.id), .int .i64 (cmpB false true), .int .i64 (cmpI r.og s.og), .int .i64 (cmpNs r.pa s.pa), .int .i64 (cmpNs r.co s.co), .int .i64 (cmpNs r.cl s.cl)] 3) = V15 at *
  refine mix_bar rfl (by rfl) ?_
  simp only [List.getElem_toArray, List.getElem_cons_zero, List.getElem_cons_succ]
  go_simp
  refine (KF.out [firstNZ [cmpI r.a s.a, cmpI r.m s.m], cmpI r.ss s.ss, cmpI r.pf s.pf, cmpI r.me s.me, cmpI r.ho s.ho, cmpI r.pe s.pe, cmpI r.id s.id, cmpB false true, cmpI r.og s.og, cmpNs r.pa s.pa, cmpNs r.co s.co, cmpNs r.cl s.cl] _ V15 (Rd.of_blk (cs := #[.int .i64 (firstNZ [cmpI r.a s.a, cmpI r.m s.m]), .int .i64 (cmpI r.ss s.ss), .int .i64 (cmpI r.pf s.pf), .int .i64 (cmpI r.me s.me), .int .i64 (cmpI r.ho s.ho), .int .i64 (cmpI r.pe s.pe), .int .i64 (cmpI r.id s.id), .int .i64 (cmpB false true), .int .i64 (cmpI r.og s.og), .int .i64 (cmpNs r.pa s.pa), .int .i64 (cmpNs r.co s.co), .int .i64 (cmpNs r.cl s.cl)]) (t := 3) hg (Nat.le_refl _) rfl) (by simp)).mono ?_
  rintro e V16 ⟨rfl, hb⟩
  have hv16 := below_call hv15 hb
  refine ⟨regrown_of_below hv16, ?_⟩
  clear hb
  refine mix_take [116] [_] rfl rfl ?_
  simp only [List.getElem_toArray, List.getElem_cons_zero, List.getElem_cons_succ]
  repeat (go_big_quiet_step (fail))
  refine wpQuiet_nil ?_
  refine mix_end ?_
  go_wp2
  go_ret
  exact ⟨rfl, below_call hb0 hv16⟩
set_option maxRecDepth 100000 in
set_option maxHeartbeats 8000000 in
theorem refAcmp_true_false (r s : AvV) (vp vo vl up uo ul : Value) (w : World) (h1 : Rd w w.heap.size 1 vp r.pa.length (r.pa.map (Value.int .u32))) (h2 : Rd w w.heap.size 1 up s.pa.length (s.pa.map (Value.int .u32))) (h3 : Rd w w.heap.size 1 vo r.co.length (r.co.map (Value.int .u32))) (h4 : Rd w w.heap.size 1 uo s.co.length (s.co.map (Value.int .u32))) (h5 : Rd w w.heap.size 1 vl r.cl.length (r.cl.map (Value.int .u32))) (h6 : Rd w w.heap.size 1 ul s.cl.length (s.cl.map (Value.int .u32))) (hlen : r.pa.length * 4 ≤ 140737488355328 ∧ r.co.length * 4 ≤ 140737488355328 ∧ r.cl.length * 4 ≤ 140737488355328) (hlem : s.pa.length * 4 ≤ 140737488355328 ∧ s.co.length * 4 ≤ 140737488355328 ∧ s.cl.length * 4 ≤ 140737488355328) :
    Calls Try.prog 17 #[.agg #[.int .u32 r.a, .int .i64 r.m, .int .u32 r.ho, .int .i64 r.pf, .int .i64 r.me, vp, vo, .int .u32 r.pe, .int .u32 r.id, .bool true, .int .u32 r.og, vl, .int .i64 r.ss], .agg #[.int .u32 s.a, .int .i64 s.m, .int .u32 s.ho, .int .i64 s.pf, .int .i64 s.me, up, uo, .int .u32 s.pe, .int .u32 s.id, .bool false, .int .u32 s.og, ul, .int .i64 s.ss]] w fun e w' => e = .returned (.int .i64 (firstNZ [firstNZ [cmpI r.a s.a, cmpI r.m s.m], cmpI r.ss s.ss, cmpI r.pf s.pf, cmpI r.me s.me, cmpI r.ho s.ho, cmpI r.pe s.pe, cmpI r.id s.id, cmpB true false, cmpI r.og s.og, cmpNs r.pa s.pa, cmpNs r.co s.co, cmpNs r.cl s.cl])) ∧ Below w.heap.size w w' := by
  obtain ⟨k0, k1⟩ := blk2 w (.cells #[.int .u32 r.a, .int .i64 r.m, .int .u32 r.ho, .int .i64 r.pf, .int .i64 r.me, vp, vo, .int .u32 r.pe, .int .u32 r.id, .bool true, .int .u32 r.og, vl, .int .i64 r.ss] 36) (.cells #[.int .u32 s.a, .int .i64 s.m, .int .u32 s.ho, .int .i64 s.pf, .int .i64 s.me, up, uo, .int .u32 s.pe, .int .u32 s.id, .bool false, .int .u32 s.og, ul, .int .i64 s.ss] 36)
  have hb0 := below2 w (.cells #[.int .u32 r.a, .int .i64 r.m, .int .u32 r.ho, .int .i64 r.pf, .int .i64 r.me, vp, vo, .int .u32 r.pe, .int .u32 r.id, .bool true, .int .u32 r.og, vl, .int .i64 r.ss] 36) (.cells #[.int .u32 s.a, .int .i64 s.m, .int .u32 s.ho, .int .i64 s.pf, .int .i64 s.me, up, uo, .int .u32 s.pe, .int .u32 s.id, .bool false, .int .u32 s.og, ul, .int .i64 s.ss] 36)
  have HR := Lib.hid (And.intro (h1.mono2 hb0) (And.intro (h2.mono2 hb0) (And.intro (h3.mono2 hb0) (And.intro (h4.mono2 hb0) (And.intro (h5.mono2 hb0) (h6.mono2 hb0))))))
  have KI := Lib.hid (fun x y W => oneI_b x y W)
  have KB := Lib.hid (fun x y W => oneB_b x y W)
  have KPR := Lib.hid (fun a b m n W => refPrefix08_b a b m n W)
  have KF := Lib.hid (fun l v W h hn => first_b l v W h hn)
  have KNUM := Lib.hid (fun l m u v W hu hv hn hm => refNums_any l m u v W hu hv hn hm)
  have KW := Lib.hid (fun l v W h hn => refWords_any l v W h hn)
  clear h1 h2 h3 h4 h5 h6
  go_enter Try.func17, Try.ntmps17
  go_upto_region 1 with fail
  obtain ⟨c0, c1, c2, c3, c4, c5, c6, c7, c8, c9, c10, c11, c12⟩ := cblk13 (t := 36) k0
  obtain ⟨d0, d1, d2, d3, d4, d5, d6, d7, d8, d9, d10, d11, d12⟩ := cblk13 (t := 36) k1
  clear k0 k1
  generalize (w.alloc (.cells #[.int .u32 r.a, .int .i64 r.m, .int .u32 r.ho, .int .i64 r.pf, .int .i64 r.me, vp, vo, .int .u32 r.pe, .int .u32 r.id, .bool true, .int .u32 r.og, vl, .int .i64 r.ss] 36)).alloc (.cells #[.int .u32 s.a, .int .i64 s.m, .int .u32 s.ho, .int .i64 s.pf, .int .i64 s.me, up, uo, .int .u32 s.pe, .int .u32 s.id, .bool false, .int .u32 s.og, ul, .int .i64 s.ss] 36) = W at *
  generalize (Value.agg #[.int .u32 r.a, .int .i64 r.m, .int .u32 r.ho, .int .i64 r.pf, .int .i64 r.me, vp, vo, .int .u32 r.pe, .int .u32 r.id, .bool true, .int .u32 r.og, vl, .int .i64 r.ss] : Value) = va at *
  generalize (Value.agg #[.int .u32 s.a, .int .i64 s.m, .int .u32 s.ho, .int .i64 s.pf, .int .i64 s.me, up, uo, .int .u32 s.pe, .int .u32 s.id, .bool false, .int .u32 s.og, ul, .int .i64 s.ss] : Value) = vb at *
  try dsimp only [List.append]
  try simp only [List.cons_append, List.nil_append]
  have F0 := cell_regrown c0
  have F1 := cell_regrown c1
  have F2 := cell_regrown c2
  have F3 := cell_regrown c3
  have F4 := cell_regrown c4
  have F5 := cell_regrown c5
  have F6 := cell_regrown c6
  have F7 := cell_regrown c7
  have F8 := cell_regrown c8
  have F9 := cell_regrown c9
  have F10 := cell_regrown c10
  have F11 := cell_regrown c11
  have F12 := cell_regrown c12
  have G0 := cell_regrown d0
  have G1 := cell_regrown d1
  have G2 := cell_regrown d2
  have G3 := cell_regrown d3
  have G4 := cell_regrown d4
  have G5 := cell_regrown d5
  have G6 := cell_regrown d6
  have G7 := cell_regrown d7
  have G8 := cell_regrown d8
  have G9 := cell_regrown d9
  have G10 := cell_regrown d10
  have G11 := cell_regrown d11
  have G12 := cell_regrown d12
  refine wp_region_mixF [(0, false), (1, false), (2, false), (3, false), (5, false), (6, false), (7, false), (8, false), (9, false), (10, false), (11, false), (12, false), (13, false), (14, false), (16, false), (17, false), (18, false), (19, false), (20, false), (21, false), (22, false), (23, false), (24, false), (25, false), (27, false), (28, false), (29, false), (30, false), (31, false), (32, false), (33, false), (34, false), (35, false), (36, false), (38, false), (39, false), (40, false), (41, false), (42, false), (43, false), (44, false), (45, false), (46, false), (47, false), (49, false), (50, false), (51, false), (52, false), (53, false), (54, false), (55, false), (56, false), (57, false), (58, false), (60, false), (61, false), (62, false), (63, false), (64, false), (65, false), (66, false), (67, false), (68, false), (69, false), (71, false), (72, false), (73, false), (78, false), (79, false), (86, false), (87, false), (88, false), (89, false), (90, false), (91, false), (92, false), (93, false), (94, false), (95, false), (97, false), (98, false), (99, false), (100, false), (102, false), (103, false), (104, false), (105, false), (107, false), (108, false), (110, false), (111, false), (4, true), (15, true), (26, true), (37, true), (48, true), (59, true), (70, true), (74, false), (75, false), (76, false), (77, false), (80, false), (81, false), (82, false), (83, false), (84, false), (85, true), (96, true), (101, true), (106, true), (109, true), (112, true), (113, true), (114, true), (115, true), (116, false)] rowsRa3 (by kernel_rfl) (by kernel_rfl) ?_
  have hv0 := below_drawn W
  generalize { W with drawn := W.drawn + 1 } = V0 at *
  refine mix_take [0, 1, 2, 3, 5, 6, 7, 8, 9, 10, 11, 12, 13, 14, 16, 17, 18, 19, 20, 21, 22, 23, 24, 25, 27, 28, 29, 30, 31, 32, 33, 34, 35, 36, 38, 39, 40, 41, 42, 43, 44, 45, 46, 47, 49, 50, 51, 52, 53, 54, 55, 56, 57, 58, 60, 61, 62, 63, 64, 65, 66, 67, 68, 69, 71, 72, 73, 78, 79, 86, 87, 88, 89, 90, 91, 92, 93, 94, 95, 97, 98, 99, 100, 102, 103, 104, 105, 107, 108, 110, 111] [_, _, _, _, _, _, _, _, _, _, _, _, _, _, _, _, _, _, _, _, _, _, _, _, _, _, _, _, _, _, _, _, _, _, _, _, _, _, _, _, _, _, _, _, _, _, _, _, _, _, _, _, _, _, _, _, _, _, _, _, _, _, _, _, _, _, _, _, _, _, _, _, _, _, _, _, _, _, _, _, _, _, _, _, _, _, _, _, _, _, _] rfl rfl ?_
  simp only [List.getElem_toArray, List.getElem_cons_zero, List.getElem_cons_succ]
  repeat (go_big_quiet_step (fail))
  refine wpQuiet_nil ?_
  refine mix_bar rfl (by rfl) ?_
  simp only [List.getElem_toArray, List.getElem_cons_zero, List.getElem_cons_succ]
  go_simp
  refine (KPR.out r.a s.a r.m s.m V0).mono ?_
  rintro e V1 ⟨rfl, hb⟩
  have hv1 := below_call hv0 hb
  refine ⟨regrown_of_below hv1, ?_⟩
  clear hb
  clear F0 G0 F1 G1 F2 G2 F3 G3 F4 G4 F5 G5 F6 G6 F7 G7 F8 G8 F10 G10 F11 G11 F12 G12
  refine mix_bar rfl (by rfl) ?_
  simp only [List.getElem_toArray, List.getElem_cons_zero, List.getElem_cons_succ]
  go_simp
  refine (KI.out r.ss s.ss V1).mono ?_
  rintro e V2 ⟨rfl, hb⟩
  have hv2 := below_call hv1 hb
  refine ⟨regrown_of_below hv2, ?_⟩
  clear hb
  refine mix_bar rfl (by rfl) ?_
  simp only [List.getElem_toArray, List.getElem_cons_zero, List.getElem_cons_succ]
  go_simp
  refine (KI.out r.pf s.pf V2).mono ?_
  rintro e V3 ⟨rfl, hb⟩
  have hv3 := below_call hv2 hb
  refine ⟨regrown_of_below hv3, ?_⟩
  clear hb
  refine mix_bar rfl (by rfl) ?_
  simp only [List.getElem_toArray, List.getElem_cons_zero, List.getElem_cons_succ]
  go_simp
  refine (KI.out r.me s.me V3).mono ?_
  rintro e V4 ⟨rfl, hb⟩
  have hv4 := below_call hv3 hb
  refine ⟨regrown_of_below hv4, ?_⟩
  clear hb
  refine mix_bar rfl (by rfl) ?_
  simp only [List.getElem_toArray, List.getElem_cons_zero, List.getElem_cons_succ]
  go_simp
  refine (KI.out r.ho s.ho V4).mono ?_
  rintro e V5 ⟨rfl, hb⟩
  have hv5 := below_call hv4 hb
  refine ⟨regrown_of_below hv5, ?_⟩
  clear hb
  refine mix_bar rfl (by rfl) ?_
  simp only [List.getElem_toArray, List.getElem_cons_zero, List.getElem_cons_succ]
  go_simp
  refine (KI.out r.pe s.pe V5).mono ?_
  rintro e V6 ⟨rfl, hb⟩
  have hv6 := below_call hv5 hb
  refine ⟨regrown_of_below hv6, ?_⟩
  clear hb
  refine mix_bar rfl (by rfl) ?_
  simp only [List.getElem_toArray, List.getElem_cons_zero, List.getElem_cons_succ]
  go_simp
  refine (KI.out r.id s.id V6).mono ?_
  rintro e V7 ⟨rfl, hb⟩
  have hv7 := below_call hv6 hb
  refine ⟨regrown_of_below hv7, ?_⟩
  clear hb
  refine mix_take [74, 75, 76, 77, 80, 81, 82, 83, 84] [_, _, _, _, _, _, _, _, _] rfl rfl ?_
  simp only [List.getElem_toArray, List.getElem_cons_zero, List.getElem_cons_succ]
  repeat (go_big_quiet_step (fail))
  refine wpQuiet_nil ?_
  refine mix_bar rfl (by rfl) ?_
  simp only [List.getElem_toArray, List.getElem_cons_zero, List.getElem_cons_succ]
  go_simp
  refine (KB.out true false V7).mono ?_
  rintro e V8 ⟨rfl, hb⟩
  have hv8 := below_call hv7 hb
  refine ⟨regrown_of_below hv8, ?_⟩
  clear hb
  refine mix_bar rfl (by rfl) ?_
  simp only [List.getElem_toArray, List.getElem_cons_zero, List.getElem_cons_succ]
  go_simp
  refine (KI.out r.og s.og V8).mono ?_
  rintro e V9 ⟨rfl, hb⟩
  have hv9 := below_call hv8 hb
  refine ⟨regrown_of_below hv9, ?_⟩
  clear hb
  refine mix_bar rfl (by rfl) ?_
  simp only [List.getElem_toArray, List.getElem_cons_zero, List.getElem_cons_succ]
  go_simp
  refine (KNUM.out r.pa s.pa vp up V9 (HR.out.1.mono2 hv9) (HR.out.2.1.mono2 hv9) (by omega) (by omega)).mono ?_
  rintro e V10 ⟨rfl, hb⟩
  have hv10 := below_call hv9 hb
  refine ⟨regrown_of_below hv10, ?_⟩
  clear hb
  refine mix_bar rfl (by rfl) ?_
  simp only [List.getElem_toArray, List.getElem_cons_zero, List.getElem_cons_succ]
  go_simp
  refine (KNUM.out r.co s.co vo uo V10 (HR.out.2.2.1.mono2 hv10) (HR.out.2.2.2.1.mono2 hv10) (by omega) (by omega)).mono ?_
  rintro e V11 ⟨rfl, hb⟩
  have hv11 := below_call hv10 hb
  refine ⟨regrown_of_below hv11, ?_⟩
  clear hb
  refine mix_bar rfl (by rfl) ?_
  simp only [List.getElem_toArray, List.getElem_cons_zero, List.getElem_cons_succ]
  go_simp
  refine (KW.out r.cl vl V11 (HR.out.2.2.2.2.1.mono2 hv11) hlen.2.2).mono ?_
  rintro e V12 ⟨y0, rfl, own0, hb⟩
  have hv12 := below_call hv11 hb

  have ry0 := Rd.of_own own0
  refine ⟨regrown_of_below hv12, ?_⟩
  clear hb own0
  refine mix_bar rfl (by rfl) ?_
  simp only [List.getElem_toArray, List.getElem_cons_zero, List.getElem_cons_succ]
  go_simp
  refine (KW.out s.cl ul V12 (HR.out.2.2.2.2.2.mono2 hv12) hlem.2.2).mono ?_
  rintro e V13 ⟨y1, rfl, own1, hb⟩
  have hv13 := below_call hv12 hb
  have ry0 := (ry0.below hb).mono hb.size
  have ry1 := Rd.of_own own1
  refine ⟨regrown_of_below hv13, ?_⟩
  clear hb own1
  refine mix_bar rfl (by rfl) ?_
  simp only [List.getElem_toArray, List.getElem_cons_zero, List.getElem_cons_succ]
  go_simp
  refine (KNUM.out r.cl s.cl y0 y1 V13 ry0 ry1 (by omega) (by omega)).mono ?_
  rintro e V14 ⟨rfl, hb⟩
  have hv14 := below_call hv13 hb
  refine ⟨regrown_of_below hv14, ?_⟩
  clear hb
  refine mix_bar rfl (by rfl) ?_
  simp only [List.getElem_toArray, List.getElem_cons_zero, List.getElem_cons_succ]
  go_simp
  have hg := heap_alloc_new V14 (.cells #[.int .i64 (firstNZ [cmpI r.a s.a, cmpI r.m s.m]), .int .i64 (cmpI r.ss s.ss), .int .i64 (cmpI r.pf s.pf), .int .i64 (cmpI r.me s.me), .int .i64 (cmpI r.ho s.ho), .int .i64 (cmpI r.pe s.pe), .int .i64 (cmpI r.id s.id), .int .i64 (cmpB true false), .int .i64 (cmpI r.og s.og), .int .i64 (cmpNs r.pa s.pa), .int .i64 (cmpNs r.co s.co), .int .i64 (cmpNs r.cl s.cl)] 3)
  have hv15 := hv14.alloc hv14.size (.cells #[.int .i64 (firstNZ [cmpI r.a s.a, cmpI r.m s.m]), .int .i64 (cmpI r.ss s.ss), .int .i64 (cmpI r.pf s.pf), .int .i64 (cmpI r.me s.me), .int .i64 (cmpI r.ho s.ho), .int .i64 (cmpI r.pe s.pe), .int .i64 (cmpI r.id s.id), .int .i64 (cmpB true false), .int .i64 (cmpI r.og s.og), .int .i64 (cmpNs r.pa s.pa), .int .i64 (cmpNs r.co s.co), .int .i64 (cmpNs r.cl s.cl)] 3)
  refine ⟨regrown_of_below hv15, ?_⟩
  generalize V14.alloc (.cells #[.int .i64 (firstNZ [cmpI r.a s.a, cmpI r.m s.m]), .int .i64 (cmpI r.ss s.ss), .int .i64 (cmpI r.pf s.pf), .int .i64 (cmpI r.me s.me), .int .i64 (cmpI r.ho s.ho), .int .i64 (cmpI r.pe s.pe), .int .i64 (cmpI r.id s.id), .int .i64 (cmpB true false), .int .i64 (cmpI r.og s.og), .int .i64 (cmpNs r.pa s.pa), .int .i64 (cmpNs r.co s.co), .int .i64 (cmpNs r.cl s.cl)] 3) = V15 at *
  refine mix_bar rfl (by rfl) ?_
  simp only [List.getElem_toArray, List.getElem_cons_zero, List.getElem_cons_succ]
  go_simp
  refine (KF.out [firstNZ [cmpI r.a s.a, cmpI r.m s.m], cmpI r.ss s.ss, cmpI r.pf s.pf, cmpI r.me s.me, cmpI r.ho s.ho, cmpI r.pe s.pe, cmpI r.id s.id, cmpB true false, cmpI r.og s.og, cmpNs r.pa s.pa, cmpNs r.co s.co, cmpNs r.cl s.cl] _ V15 (Rd.of_blk (cs := #[.int .i64 (firstNZ [cmpI r.a s.a, cmpI r.m s.m]), .int .i64 (cmpI r.ss s.ss), .int .i64 (cmpI r.pf s.pf), .int .i64 (cmpI r.me s.me), .int .i64 (cmpI r.ho s.ho), .int .i64 (cmpI r.pe s.pe), .int .i64 (cmpI r.id s.id), .int .i64 (cmpB true false), .int .i64 (cmpI r.og s.og), .int .i64 (cmpNs r.pa s.pa), .int .i64 (cmpNs r.co s.co), .int .i64 (cmpNs r.cl s.cl)]) (t := 3) hg (Nat.le_refl _) rfl) (by simp)).mono ?_
  rintro e V16 ⟨rfl, hb⟩
  have hv16 := below_call hv15 hb
  refine ⟨regrown_of_below hv16, ?_⟩
  clear hb
  refine mix_take [116] [_] rfl rfl ?_
  simp only [List.getElem_toArray, List.getElem_cons_zero, List.getElem_cons_succ]
  repeat (go_big_quiet_step (fail))
  refine wpQuiet_nil ?_
  refine mix_end ?_
  go_wp2
  go_ret
  exact ⟨rfl, below_call hb0 hv16⟩
set_option maxRecDepth 100000 in
set_option maxHeartbeats 8000000 in
theorem refAcmp_true_true (r s : AvV) (vp vo vl up uo ul : Value) (w : World) (h1 : Rd w w.heap.size 1 vp r.pa.length (r.pa.map (Value.int .u32))) (h2 : Rd w w.heap.size 1 up s.pa.length (s.pa.map (Value.int .u32))) (h3 : Rd w w.heap.size 1 vo r.co.length (r.co.map (Value.int .u32))) (h4 : Rd w w.heap.size 1 uo s.co.length (s.co.map (Value.int .u32))) (h5 : Rd w w.heap.size 1 vl r.cl.length (r.cl.map (Value.int .u32))) (h6 : Rd w w.heap.size 1 ul s.cl.length (s.cl.map (Value.int .u32))) (hlen : r.pa.length * 4 ≤ 140737488355328 ∧ r.co.length * 4 ≤ 140737488355328 ∧ r.cl.length * 4 ≤ 140737488355328) (hlem : s.pa.length * 4 ≤ 140737488355328 ∧ s.co.length * 4 ≤ 140737488355328 ∧ s.cl.length * 4 ≤ 140737488355328) :
    Calls Try.prog 17 #[.agg #[.int .u32 r.a, .int .i64 r.m, .int .u32 r.ho, .int .i64 r.pf, .int .i64 r.me, vp, vo, .int .u32 r.pe, .int .u32 r.id, .bool true, .int .u32 r.og, vl, .int .i64 r.ss], .agg #[.int .u32 s.a, .int .i64 s.m, .int .u32 s.ho, .int .i64 s.pf, .int .i64 s.me, up, uo, .int .u32 s.pe, .int .u32 s.id, .bool true, .int .u32 s.og, ul, .int .i64 s.ss]] w fun e w' => e = .returned (.int .i64 (firstNZ [firstNZ [cmpI r.a s.a, cmpI r.m s.m], cmpI r.ss s.ss, cmpI r.pf s.pf, cmpI r.me s.me, cmpI r.ho s.ho, cmpI r.pe s.pe, cmpI r.id s.id, cmpB true true, cmpI r.og s.og, cmpNs r.pa s.pa, cmpNs r.co s.co, cmpNs r.cl s.cl])) ∧ Below w.heap.size w w' := by
  obtain ⟨k0, k1⟩ := blk2 w (.cells #[.int .u32 r.a, .int .i64 r.m, .int .u32 r.ho, .int .i64 r.pf, .int .i64 r.me, vp, vo, .int .u32 r.pe, .int .u32 r.id, .bool true, .int .u32 r.og, vl, .int .i64 r.ss] 36) (.cells #[.int .u32 s.a, .int .i64 s.m, .int .u32 s.ho, .int .i64 s.pf, .int .i64 s.me, up, uo, .int .u32 s.pe, .int .u32 s.id, .bool true, .int .u32 s.og, ul, .int .i64 s.ss] 36)
  have hb0 := below2 w (.cells #[.int .u32 r.a, .int .i64 r.m, .int .u32 r.ho, .int .i64 r.pf, .int .i64 r.me, vp, vo, .int .u32 r.pe, .int .u32 r.id, .bool true, .int .u32 r.og, vl, .int .i64 r.ss] 36) (.cells #[.int .u32 s.a, .int .i64 s.m, .int .u32 s.ho, .int .i64 s.pf, .int .i64 s.me, up, uo, .int .u32 s.pe, .int .u32 s.id, .bool true, .int .u32 s.og, ul, .int .i64 s.ss] 36)
  have HR := Lib.hid (And.intro (h1.mono2 hb0) (And.intro (h2.mono2 hb0) (And.intro (h3.mono2 hb0) (And.intro (h4.mono2 hb0) (And.intro (h5.mono2 hb0) (h6.mono2 hb0))))))
  have KI := Lib.hid (fun x y W => oneI_b x y W)
  have KB := Lib.hid (fun x y W => oneB_b x y W)
  have KPR := Lib.hid (fun a b m n W => refPrefix08_b a b m n W)
  have KF := Lib.hid (fun l v W h hn => first_b l v W h hn)
  have KNUM := Lib.hid (fun l m u v W hu hv hn hm => refNums_any l m u v W hu hv hn hm)
  have KW := Lib.hid (fun l v W h hn => refWords_any l v W h hn)
  clear h1 h2 h3 h4 h5 h6
  go_enter Try.func17, Try.ntmps17
  go_upto_region 1 with fail
  obtain ⟨c0, c1, c2, c3, c4, c5, c6, c7, c8, c9, c10, c11, c12⟩ := cblk13 (t := 36) k0
  obtain ⟨d0, d1, d2, d3, d4, d5, d6, d7, d8, d9, d10, d11, d12⟩ := cblk13 (t := 36) k1
  clear k0 k1
  generalize (w.alloc (.cells #[.int .u32 r.a, .int .i64 r.m, .int .u32 r.ho, .int .i64 r.pf, .int .i64 r.me, vp, vo, .int .u32 r.pe, .int .u32 r.id, .bool true, .int .u32 r.og, vl, .int .i64 r.ss] 36)).alloc (.cells #[.int .u32 s.a, .int .i64 s.m, .int .u32 s.ho, .int .i64 s.pf, .int .i64 s.me, up, uo, .int .u32 s.pe, .int .u32 s.id, .bool true, .int .u32 s.og, ul, .int .i64 s.ss] 36) = W at *
  generalize (Value.agg #[.int .u32 r.a, .int .i64 r.m, .int .u32 r.ho, .int .i64 r.pf, .int .i64 r.me, vp, vo, .int .u32 r.pe, .int .u32 r.id, .bool true, .int .u32 r.og, vl, .int .i64 r.ss] : Value) = va at *
  generalize (Value.agg #[.int .u32 s.a, .int .i64 s.m, .int .u32 s.ho, .int .i64 s.pf, .int .i64 s.me, up, uo, .int .u32 s.pe, .int .u32 s.id, .bool true, .int .u32 s.og, ul, .int .i64 s.ss] : Value) = vb at *
  try dsimp only [List.append]
  try simp only [List.cons_append, List.nil_append]
  have F0 := cell_regrown c0
  have F1 := cell_regrown c1
  have F2 := cell_regrown c2
  have F3 := cell_regrown c3
  have F4 := cell_regrown c4
  have F5 := cell_regrown c5
  have F6 := cell_regrown c6
  have F7 := cell_regrown c7
  have F8 := cell_regrown c8
  have F9 := cell_regrown c9
  have F10 := cell_regrown c10
  have F11 := cell_regrown c11
  have F12 := cell_regrown c12
  have G0 := cell_regrown d0
  have G1 := cell_regrown d1
  have G2 := cell_regrown d2
  have G3 := cell_regrown d3
  have G4 := cell_regrown d4
  have G5 := cell_regrown d5
  have G6 := cell_regrown d6
  have G7 := cell_regrown d7
  have G8 := cell_regrown d8
  have G9 := cell_regrown d9
  have G10 := cell_regrown d10
  have G11 := cell_regrown d11
  have G12 := cell_regrown d12
  refine wp_region_mixF [(0, false), (1, false), (2, false), (3, false), (5, false), (6, false), (7, false), (8, false), (9, false), (10, false), (11, false), (12, false), (13, false), (14, false), (16, false), (17, false), (18, false), (19, false), (20, false), (21, false), (22, false), (23, false), (24, false), (25, false), (27, false), (28, false), (29, false), (30, false), (31, false), (32, false), (33, false), (34, false), (35, false), (36, false), (38, false), (39, false), (40, false), (41, false), (42, false), (43, false), (44, false), (45, false), (46, false), (47, false), (49, false), (50, false), (51, false), (52, false), (53, false), (54, false), (55, false), (56, false), (57, false), (58, false), (60, false), (61, false), (62, false), (63, false), (64, false), (65, false), (66, false), (67, false), (68, false), (69, false), (71, false), (72, false), (73, false), (78, false), (79, false), (86, false), (87, false), (88, false), (89, false), (90, false), (91, false), (92, false), (93, false), (94, false), (95, false), (97, false), (98, false), (99, false), (100, false), (102, false), (103, false), (104, false), (105, false), (107, false), (108, false), (110, false), (111, false), (4, true), (15, true), (26, true), (37, true), (48, true), (59, true), (70, true), (74, false), (75, false), (76, false), (77, false), (80, false), (81, false), (82, false), (83, false), (84, false), (85, true), (96, true), (101, true), (106, true), (109, true), (112, true), (113, true), (114, true), (115, true), (116, false)] rowsRa3 (by kernel_rfl) (by kernel_rfl) ?_
  have hv0 := below_drawn W
  generalize { W with drawn := W.drawn + 1 } = V0 at *
  refine mix_take [0, 1, 2, 3, 5, 6, 7, 8, 9, 10, 11, 12, 13, 14, 16, 17, 18, 19, 20, 21, 22, 23, 24, 25, 27, 28, 29, 30, 31, 32, 33, 34, 35, 36, 38, 39, 40, 41, 42, 43, 44, 45, 46, 47, 49, 50, 51, 52, 53, 54, 55, 56, 57, 58, 60, 61, 62, 63, 64, 65, 66, 67, 68, 69, 71, 72, 73, 78, 79, 86, 87, 88, 89, 90, 91, 92, 93, 94, 95, 97, 98, 99, 100, 102, 103, 104, 105, 107, 108, 110, 111] [_, _, _, _, _, _, _, _, _, _, _, _, _, _, _, _, _, _, _, _, _, _, _, _, _, _, _, _, _, _, _, _, _, _, _, _, _, _, _, _, _, _, _, _, _, _, _, _, _, _, _, _, _, _, _, _, _, _, _, _, _, _, _, _, _, _, _, _, _, _, _, _, _, _, _, _, _, _, _, _, _, _, _, _, _, _, _, _, _, _, _] rfl rfl ?_
  simp only [List.getElem_toArray, List.getElem_cons_zero, List.getElem_cons_succ]
  repeat (go_big_quiet_step (fail))
  refine wpQuiet_nil ?_
  refine mix_bar rfl (by rfl) ?_
  simp only [List.getElem_toArray, List.getElem_cons_zero, List.getElem_cons_succ]
  go_simp
  refine (KPR.out r.a s.a r.m s.m V0).mono ?_
  rintro e V1 ⟨rfl, hb⟩
  have hv1 := below_call hv0 hb
  refine ⟨regrown_of_below hv1, ?_⟩
  clear hb
  clear F0 G0 F1 G1 F2 G2 F3 G3 F4 G4 F5 G5 F6 G6 F7 G7 F8 G8 F10 G10 F11 G11 F12 G12
  refine mix_bar rfl (by rfl) ?_
  simp only [List.getElem_toArray, List.getElem_cons_zero, List.getElem_cons_succ]
  go_simp
  refine (KI.out r.ss s.ss V1).mono ?_
  rintro e V2 ⟨rfl, hb⟩
  have hv2 := below_call hv1 hb
  refine ⟨regrown_of_below hv2, ?_⟩
  clear hb
  refine mix_bar rfl (by rfl) ?_
  simp only [List.getElem_toArray, List.getElem_cons_zero, List.getElem_cons_succ]
  go_simp
  refine (KI.out r.pf s.pf V2).mono ?_
  rintro e V3 ⟨rfl, hb⟩
  have hv3 := below_call hv2 hb
  refine ⟨regrown_of_below hv3, ?_⟩
  clear hb
  refine mix_bar rfl (by rfl) ?_
  simp only [List.getElem_toArray, List.getElem_cons_zero, List.getElem_cons_succ]
  go_simp
  refine (KI.out r.me s.me V3).mono ?_
  rintro e V4 ⟨rfl, hb⟩
  have hv4 := below_call hv3 hb
  refine ⟨regrown_of_below hv4, ?_⟩
  clear hb
  refine mix_bar rfl (by rfl) ?_
  simp only [List.getElem_toArray, List.getElem_cons_zero, List.getElem_cons_succ]
  go_simp
  refine (KI.out r.ho s.ho V4).mono ?_
  rintro e V5 ⟨rfl, hb⟩
  have hv5 := below_call hv4 hb
  refine ⟨regrown_of_below hv5, ?_⟩
  clear hb
  refine mix_bar rfl (by rfl) ?_
  simp only [List.getElem_toArray, List.getElem_cons_zero, List.getElem_cons_succ]
  go_simp
  refine (KI.out r.pe s.pe V5).mono ?_
  rintro e V6 ⟨rfl, hb⟩
  have hv6 := below_call hv5 hb
  refine ⟨regrown_of_below hv6, ?_⟩
  clear hb
  refine mix_bar rfl (by rfl) ?_
  simp only [List.getElem_toArray, List.getElem_cons_zero, List.getElem_cons_succ]
  go_simp
  refine (KI.out r.id s.id V6).mono ?_
  rintro e V7 ⟨rfl, hb⟩
  have hv7 := below_call hv6 hb
  refine ⟨regrown_of_below hv7, ?_⟩
  clear hb
  refine mix_take [74, 75, 76, 77, 80, 81, 82, 83, 84] [_, _, _, _, _, _, _, _, _] rfl rfl ?_
  simp only [List.getElem_toArray, List.getElem_cons_zero, List.getElem_cons_succ]
  repeat (go_big_quiet_step (fail))
  refine wpQuiet_nil ?_
  refine mix_bar rfl (by rfl) ?_
  simp only [List.getElem_toArray, List.getElem_cons_zero, List.getElem_cons_succ]
  go_simp
  refine (KB.out true true V7).mono ?_
  rintro e V8 ⟨rfl, hb⟩
  have hv8 := below_call hv7 hb
  refine ⟨regrown_of_below hv8, ?_⟩
  clear hb
  refine mix_bar rfl (by rfl) ?_
  simp only [List.getElem_toArray, List.getElem_cons_zero, List.getElem_cons_succ]
  go_simp
  refine (KI.out r.og s.og V8).mono ?_
  rintro e V9 ⟨rfl, hb⟩
  have hv9 := below_call hv8 hb
  refine ⟨regrown_of_below hv9, ?_⟩
  clear hb
  refine mix_bar rfl (by rfl) ?_
  simp only [List.getElem_toArray, List.getElem_cons_zero, List.getElem_cons_succ]
  go_simp
  refine (KNUM.out r.pa s.pa vp up V9 (HR.out.1.mono2 hv9) (HR.out.2.1.mono2 hv9) (by omega) (by omega)).mono ?_
  rintro e V10 ⟨rfl, hb⟩
  have hv10 := below_call hv9 hb
  refine ⟨regrown_of_below hv10, ?_⟩
  clear hb
  refine mix_bar rfl (by rfl) ?_
  simp only [List.getElem_toArray, List.getElem_cons_zero, List.getElem_cons_succ]
  go_simp
  refine (KNUM.out r.co s.co vo uo V10 (HR.out.2.2.1.mono2 hv10) (HR.out.2.2.2.1.mono2 hv10) (by omega) (by omega)).mono ?_
  rintro e V11 ⟨rfl, hb⟩
  have hv11 := below_call hv10 hb
  refine ⟨regrown_of_below hv11, ?_⟩
  clear hb
  refine mix_bar rfl (by rfl) ?_
  simp only [List.getElem_toArray, List.getElem_cons_zero, List.getElem_cons_succ]
  go_simp
  refine (KW.out r.cl vl V11 (HR.out.2.2.2.2.1.mono2 hv11) hlen.2.2).mono ?_
  rintro e V12 ⟨y0, rfl, own0, hb⟩
  have hv12 := below_call hv11 hb

  have ry0 := Rd.of_own own0
  refine ⟨regrown_of_below hv12, ?_⟩
  clear hb own0
  refine mix_bar rfl (by rfl) ?_
  simp only [List.getElem_toArray, List.getElem_cons_zero, List.getElem_cons_succ]
  go_simp
  refine (KW.out s.cl ul V12 (HR.out.2.2.2.2.2.mono2 hv12) hlem.2.2).mono ?_
  rintro e V13 ⟨y1, rfl, own1, hb⟩
  have hv13 := below_call hv12 hb
  have ry0 := (ry0.below hb).mono hb.size
  have ry1 := Rd.of_own own1
  refine ⟨regrown_of_below hv13, ?_⟩
  clear hb own1
  refine mix_bar rfl (by rfl) ?_
  simp only [List.getElem_toArray, List.getElem_cons_zero, List.getElem_cons_succ]
  go_simp
  refine (KNUM.out r.cl s.cl y0 y1 V13 ry0 ry1 (by omega) (by omega)).mono ?_
  rintro e V14 ⟨rfl, hb⟩
  have hv14 := below_call hv13 hb
  refine ⟨regrown_of_below hv14, ?_⟩
  clear hb
  refine mix_bar rfl (by rfl) ?_
  simp only [List.getElem_toArray, List.getElem_cons_zero, List.getElem_cons_succ]
  go_simp
  have hg := heap_alloc_new V14 (.cells #[.int .i64 (firstNZ [cmpI r.a s.a, cmpI r.m s.m]), .int .i64 (cmpI r.ss s.ss), .int .i64 (cmpI r.pf s.pf), .int .i64 (cmpI r.me s.me), .int .i64 (cmpI r.ho s.ho), .int .i64 (cmpI r.pe s.pe), .int .i64 (cmpI r.id s.id), .int .i64 (cmpB true true), .int .i64 (cmpI r.og s.og), .int .i64 (cmpNs r.pa s.pa), .int .i64 (cmpNs r.co s.co), .int .i64 (cmpNs r.cl s.cl)] 3)
  have hv15 := hv14.alloc hv14.size (.cells #[.int .i64 (firstNZ [cmpI r.a s.a, cmpI r.m s.m]), .int .i64 (cmpI r.ss s.ss), .int .i64 (cmpI r.pf s.pf), .int .i64 (cmpI r.me s.me), .int .i64 (cmpI r.ho s.ho), .int .i64 (cmpI r.pe s.pe), .int .i64 (cmpI r.id s.id), .int .i64 (cmpB true true), .int .i64 (cmpI r.og s.og), .int .i64 (cmpNs r.pa s.pa), .int .i64 (cmpNs r.co s.co), .int .i64 (cmpNs r.cl s.cl)] 3)
  refine ⟨regrown_of_below hv15, ?_⟩
  generalize V14.alloc (.cells #[.int .i64 (firstNZ [cmpI r.a s.a, cmpI r.m s.m]), .int .i64 (cmpI r.ss s.ss), .int .i64 (cmpI r.pf s.pf), .int .i64 (cmpI r.me s.me), .int .i64 (cmpI r.ho s.ho), .int .i64 (cmpI r.pe s.pe), .int .i64 (cmpI r.id s.id), .int .i64 (cmpB true true), .int .i64 (cmpI r.og s.og), .int .i64 (cmpNs r.pa s.pa), .int .i64 (cmpNs r.co s.co), .int .i64 (cmpNs r.cl s.cl)] 3) = V15 at *
  refine mix_bar rfl (by rfl) ?_
  simp only [List.getElem_toArray, List.getElem_cons_zero, List.getElem_cons_succ]
  go_simp
  refine (KF.out [firstNZ [cmpI r.a s.a, cmpI r.m s.m], cmpI r.ss s.ss, cmpI r.pf s.pf, cmpI r.me s.me, cmpI r.ho s.ho, cmpI r.pe s.pe, cmpI r.id s.id, cmpB true true, cmpI r.og s.og, cmpNs r.pa s.pa, cmpNs r.co s.co, cmpNs r.cl s.cl] _ V15 (Rd.of_blk (cs := #[.int .i64 (firstNZ [cmpI r.a s.a, cmpI r.m s.m]), .int .i64 (cmpI r.ss s.ss), .int .i64 (cmpI r.pf s.pf), .int .i64 (cmpI r.me s.me), .int .i64 (cmpI r.ho s.ho), .int .i64 (cmpI r.pe s.pe), .int .i64 (cmpI r.id s.id), .int .i64 (cmpB true true), .int .i64 (cmpI r.og s.og), .int .i64 (cmpNs r.pa s.pa), .int .i64 (cmpNs r.co s.co), .int .i64 (cmpNs r.cl s.cl)]) (t := 3) hg (Nat.le_refl _) rfl) (by simp)).mono ?_
  rintro e V16 ⟨rfl, hb⟩
  have hv16 := below_call hv15 hb
  refine ⟨regrown_of_below hv16, ?_⟩
  clear hb
  refine mix_take [116] [_] rfl rfl ?_
  simp only [List.getElem_toArray, List.getElem_cons_zero, List.getElem_cons_succ]
  repeat (go_big_quiet_step (fail))
  refine wpQuiet_nil ?_
  refine mix_end ?_
  go_wp2
  go_ret
  exact ⟨rfl, below_call hb0 hv16⟩
theorem refAcmp_any (r s : AvV) (vp vo vl up uo ul : Value) (w : World) (h1 : Rd w w.heap.size 1 vp r.pa.length (r.pa.map (Value.int .u32))) (h2 : Rd w w.heap.size 1 up s.pa.length (s.pa.map (Value.int .u32))) (h3 : Rd w w.heap.size 1 vo r.co.length (r.co.map (Value.int .u32))) (h4 : Rd w w.heap.size 1 uo s.co.length (s.co.map (Value.int .u32))) (h5 : Rd w w.heap.size 1 vl r.cl.length (r.cl.map (Value.int .u32))) (h6 : Rd w w.heap.size 1 ul s.cl.length (s.cl.map (Value.int .u32))) (hlen : r.pa.length * 4 ≤ 140737488355328 ∧ r.co.length * 4 ≤ 140737488355328 ∧ r.cl.length * 4 ≤ 140737488355328) (hlem : s.pa.length * 4 ≤ 140737488355328 ∧ s.co.length * 4 ≤ 140737488355328 ∧ s.cl.length * 4 ≤ 140737488355328) :
    Calls Try.prog 17 #[.agg #[.int .u32 r.a, .int .i64 r.m, .int .u32 r.ho, .int .i64 r.pf, .int .i64 r.me, vp, vo, .int .u32 r.pe, .int .u32 r.id, .bool r.ex, .int .u32 r.og, vl, .int .i64 r.ss], .agg #[.int .u32 s.a, .int .i64 s.m, .int .u32 s.ho, .int .i64 s.pf, .int .i64 s.me, up, uo, .int .u32 s.pe, .int .u32 s.id, .bool s.ex, .int .u32 s.og, ul, .int .i64 s.ss]] w fun e w' => e = .returned (.int .i64 (cmpA r s)) ∧ Below w.heap.size w w' := by
  unfold cmpA
  cases hr : r.ex <;> cases hs : s.ex
  · exact refAcmp_false_false r s vp vo vl up uo ul w h1 h2 h3 h4 h5 h6 hlen hlem
  · exact refAcmp_false_true r s vp vo vl up uo ul w h1 h2 h3 h4 h5 h6 hlen hlem
  · exact refAcmp_true_false r s vp vo vl up uo ul w h1 h2 h3 h4 h5 h6 hlen hlem
  · exact refAcmp_true_true r s vp vo vl up uo ul w h1 h2 h3 h4 h5 h6 hlen hlem
end Go.Proofs.Ytbanbommgcjmjaa

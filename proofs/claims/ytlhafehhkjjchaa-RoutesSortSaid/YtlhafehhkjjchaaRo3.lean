/-
  The document's Cmp of routes (written by wip/gen/genro3.py).
-/
import Derived.Test.YtlhafehhkjjchaaRtOrd
import Derived.Test.YtlhafehhkjjchaaMix2
namespace Go.Proofs.Ytlhafehhkjjchaa
open Go Go.RowKit Go.Sort

theorem oneI_any (x y : Int) (w : World) : Calls Try.prog 38 #[.bool (decide (x < y)), .bool (decide (y < x))] w fun e w' => e = .returned (.int .i64 (cmpI x y)) ∧ w = w' :=
  (one_any _ _ w).mono fun e w' ⟨he, hw⟩ => ⟨by rw [he]; unfold cmpI; by_cases h1 : x < y <;> by_cases h2 : y < x <;> simp [h1, h2], hw⟩
theorem oneB_any (p q : Bool) (w : World) : Calls Try.prog 38 #[.bool (!p && q), .bool (p && !q)] w fun e w' => e = .returned (.int .i64 (cmpB p q)) ∧ w = w' :=
  (one_any _ _ w).mono fun e w' ⟨he, hw⟩ => ⟨by rw [he]; cases p <;> cases q <;> rfl, hw⟩
theorem oneS_any (x y : ByteArray) (w : World) : Calls Try.prog 38 #[.bool (Op.bytesLess x.toList y.toList), .bool (!Op.bytesLess x.toList y.toList && !(x.toList == y.toList))] w fun e w' => e = .returned (.int .i64 (cmpSt x y)) ∧ w = w' :=
  (one_any _ _ w).mono fun e w' ⟨he, hw⟩ => ⟨by rw [he]; unfold cmpSt; cases Op.bytesLess x.toList y.toList <;> cases (x.toList == y.toList) <;> rfl, hw⟩
set_option maxRecDepth 100000 in
set_option maxHeartbeats 4000000 in
theorem refPrefix08_any (a b m n : Int) (w : World) :
    Calls Try.prog 37 #[.agg #[.int .u32 a, .int .i64 m], .agg #[.int .u32 b, .int .i64 n]] w fun e w' => e = .returned (.int .i64 (firstNZ [cmpI a b, cmpI m n])) ∧ GR w w' := by
  have hBX : GR w ((w.alloc (.cells #[.int .u32 a, .int .i64 m] 26)).alloc (.cells #[.int .u32 b, .int .i64 n] 26)) := ((GR.refl w).alloc _).alloc _
  have HB := Lib.hid hBX
  clear hBX
  go_enter Try.func37, Try.ntmps37
  go_wp2
  obtain ⟨k0, k1⟩ := blk2 w (.cells #[.int .u32 a, .int .i64 m] 26) (.cells #[.int .u32 b, .int .i64 n] 26)
  obtain ⟨c0, c1, _, _⟩ := two_cells k0
  obtain ⟨c2, c3, _, _⟩ := two_cells k1
  have hsz := lt_of_block k1
  clear k0 k1
  generalize (w.alloc (.cells #[.int .u32 a, .int .i64 m] 26)).alloc (.cells #[.int .u32 b, .int .i64 n] 26) = W at *
  go_region_held3 (fun w' => w'.cell? ⟨w.heap.size, 0, none⟩ = some (.int .u32 a) ∧ w'.cell? ⟨w.heap.size, 1, none⟩ = some (.int .i64 m) ∧ w'.cell? ⟨w.heap.size + 1, 0, none⟩ = some (.int .u32 b) ∧ w'.cell? ⟨w.heap.size + 1, 1, none⟩ = some (.int .i64 n)) (go_keep)
    (first | (go_at_call 38; refine (oneI_any a b _).mono ?_; rintro e w' ⟨rfl, rfl⟩) | (go_at_call 38; refine (oneI_any m n _).mono ?_; rintro e w' ⟨rfl, rfl⟩) | (go_at_call 36; refine (first_any [cmpI a b, cmpI m n] _ _ (Rd.of_blk (cs := #[.int .i64 (cmpI a b), .int .i64 (cmpI m n)]) (t := 3) (heap_drew (heap_alloc_new _ _)) (Nat.le_refl _) rfl) (by simp)).mono ?_; rintro e w' ⟨rfl, rfl⟩))
  all_goals go_wp2
  go_ret
  exact ⟨rfl, (HB.out.alloc _).drew⟩
theorem blk9 {w : World} {g : Nat} {a0 a1 a2 a3 a4 a5 a6 a7 a8 : Value} {t : TypeId} (h : w.heap[g]? = some (.cells #[a0, a1, a2, a3, a4, a5, a6, a7, a8] t (0, 0))) :
    w.cell? ⟨g, 0, none⟩ = some a0 ∧ w.cell? ⟨g, 1, none⟩ = some a1 ∧ w.cell? ⟨g, 2, none⟩ = some a2 ∧ w.cell? ⟨g, 3, none⟩ = some a3 ∧ w.cell? ⟨g, 4, none⟩ = some a4 ∧ w.cell? ⟨g, 5, none⟩ = some a5 ∧ w.cell? ⟨g, 6, none⟩ = some a6 ∧ w.cell? ⟨g, 7, none⟩ = some a7 ∧ w.cell? ⟨g, 8, none⟩ = some a8 :=
  ⟨cell_of_row _ _ 0 _ _ (0, 0) h, cell_of_row _ _ 1 _ _ (0, 0) h, cell_of_row _ _ 2 _ _ (0, 0) h, cell_of_row _ _ 3 _ _ (0, 0) h, cell_of_row _ _ 4 _ _ (0, 0) h, cell_of_row _ _ 5 _ _ (0, 0) h, cell_of_row _ _ 6 _ _ (0, 0) h, cell_of_row _ _ 7 _ _ (0, 0) h, cell_of_row _ _ 8 _ _ (0, 0) h⟩
theorem oneI_b (x y : Int) (w : World) : Calls Try.prog 38 #[.bool (decide (x < y)), .bool (decide (y < x))] w fun e w' => e = .returned (.int .i64 (cmpI x y)) ∧ Below w.heap.size w w' := (oneI_any x y w).mono fun _ _ ⟨he, hw⟩ => ⟨he, by rw [hw]; exact Below.refl _ _⟩
theorem oneB_b (p q : Bool) (w : World) : Calls Try.prog 38 #[.bool (!p && q), .bool (p && !q)] w fun e w' => e = .returned (.int .i64 (cmpB p q)) ∧ Below w.heap.size w w' := (oneB_any p q w).mono fun _ _ ⟨he, hw⟩ => ⟨he, by rw [hw]; exact Below.refl _ _⟩
theorem oneS_b (x y : ByteArray) (w : World) : Calls Try.prog 38 #[.bool (Op.bytesLess x.toList y.toList), .bool (!Op.bytesLess x.toList y.toList && !(x.toList == y.toList))] w fun e w' => e = .returned (.int .i64 (cmpSt x y)) ∧ Below w.heap.size w w' := (oneS_any x y w).mono fun _ _ ⟨he, hw⟩ => ⟨he, by rw [hw]; exact Below.refl _ _⟩
theorem refPrefix08_b (a b m n : Int) (w : World) : Calls Try.prog 37 #[.agg #[.int .u32 a, .int .i64 m], .agg #[.int .u32 b, .int .i64 n]] w fun e w' => e = .returned (.int .i64 (firstNZ [cmpI a b, cmpI m n])) ∧ Below w.heap.size w w' := (refPrefix08_any a b m n w).mono fun _ _ ⟨he, hw⟩ => ⟨he, hw.below⟩
theorem first_b (l : List Int) (v : Value) (w : World) (h : Rd w w.heap.size 1 v l.length (l.map (Value.int .i64))) (hlen : l.length ≤ 4294967296) :
    Calls Try.prog 36 #[v] w fun e w' => e = .returned (.int .i64 (firstNZ l)) ∧ Below w.heap.size w w' := (first_any l v w h hlen).mono fun _ _ ⟨he, hw⟩ => ⟨he, by rw [hw]; exact Below.refl _ _⟩
/-- What the operations of Cmp's region wait for, write and look at. -/
def rows70 : List ORow := [(0, 32, 4, true), (1, 64, 32, true), (0, 128, 8, true), (4, 256, 128, true), (10, 512, 320, false), (0, 1024, 4, true), (32, 2048, 1024, true), (0, 4096, 8, true), (128, 8192, 4096, true), (320, 16384, 10240, true), (0, 32768, 4, true), (1024, 65536, 32768, true), (0, 131072, 8, true), (4096, 262144, 131072, true), (10240, 524288, 327680, true), (16912, 1048576, 540672, false), (0, 2097152, 4, true), (65536, 4194304, 2097152, true), (0, 8388608, 8, true), (262144, 16777216, 8388608, true), (655360, 33554432, 20971520, true), (0, 67108864, 4, true), (2097152, 134217728, 67108864, true), (0, 268435456, 8, true), (8388608, 536870912, 268435456, true), (20971520, 1073741824, 671088640, true), (34635776, 2147483648, 1107296256, false), (0, 4294967296, 4, true), (134217728, 8589934592, 4294967296, true), (0, 17179869184, 8, true), (536870912, 34359738368, 17179869184, true), (1342177280, 68719476736, 42949672960, true), (0, 137438953472, 4, true), (4294967296, 274877906944, 137438953472, true), (0, 549755813888, 8, true), (17179869184, 1099511627776, 549755813888, true), (42949672960, 2199023255552, 1374389534720, true), (70934069248, 4398046511104, 2267742732288, false), (0, 8796093022208, 4, true), (274877906944, 17592186044416, 8796093022208, true), (0, 35184372088832, 8, true), (1099511627776, 70368744177664, 35184372088832, true), (2748779069440, 140737488355328, 87960930222080, true), (0, 281474976710656, 4, true), (8796093022208, 562949953421312, 281474976710656, true), (0, 1125899906842624, 8, true), (35184372088832, 2251799813685248, 1125899906842624, true), (87960930222080, 4503599627370496, 2814749767106560, true), (145272973819904, 9007199254740992, 4644337115725824, false), (0, 18014398509481984, 4, true), (562949953421312, 36028797018963968, 18014398509481984, true), (0, 72057594037927936, 8, true), (2251799813685248, 144115188075855872, 72057594037927936, true), (5629499534213120, 288230376151711744, 180143985094819840, true), (0, 576460752303423488, 4, true), (18014398509481984, 1152921504606846976, 576460752303423488, true), (0, 2305843009213693952, 8, true), (72057594037927936, 4611686018427387904, 2305843009213693952, true), (180143985094819840, 9223372036854775808, 5764607523034234880, true), (297519050383163392, 18446744073709551616, 9511602413006487552, false), (0, 36893488147419103232, 4, true), (1152921504606846976, 73786976294838206464, 36893488147419103232, true), (0, 147573952589676412928, 8, true), (4611686018427387904, 295147905179352825856, 147573952589676412928, true), (11529215046068469760, 590295810358705651712, 368934881474191032320, true), (0, 1180591620717411303424, 4, true), (36893488147419103232, 2361183241434822606848, 1180591620717411303424, true), (0, 4722366482869645213696, 8, true), (147573952589676412928, 9444732965739290427392, 4722366482869645213696, true), (368934881474191032320, 18889465931478580854784, 11805916207174113034240, true), (609319015184718626816, 37778931862957161709568, 19479761741837286506496, false), (0, 75557863725914323419136, 4, true), (2361183241434822606848, 151115727451828646838272, 75557863725914323419136, true), (4722366482869645213696, 302231454903657293676544, 151115727451828646838272, true), (10625324586456701730816, 604462909807314587353088, 302231454903657293676544, true), (18889465931478580854784, 1208925819614629174706176, 604462909807314587353096, true), (56668397794435742564352, 2417851639229258349412352, 1813388729421943762059264, true), (94447329657392904273920, 4835703278458516698824704, 3022314549036572936765440, true), (0, 9671406556917033397649408, 4, true), (302231454903657293676544, 19342813113834066795298816, 9671406556917033397649408, true), (623352375738793168207872, 38685626227668133590597632, 19342813113834066795298816, true), (1208925819614629174706176, 77371252455336267181195264, 38685626227668133590597640, true), (3626777458843887524118528, 154742504910672534362390528, 116056878683004400771792896, true), (6044629098073145873530880, 309485009821345068724781056, 193428131138340667952988160, true), (10880332376531662572355584, 618970019642690137449562112, 348170636049013202315378688, true), (20702854660900524616843264, 1237940039285380274899124224, 623805722921148654148386816, false), (38686807396031215788130320, 2475880078570760549798248448, 1237977836672998905220170240, false), (116056878683004400771792896, 4951760157141521099596496896, 2475880078570760549798248448, false), (309485009821345068724781055, 16, 4951760157141521099596496896, true)]
set_option maxRecDepth 100000 in
set_option maxHeartbeats 8000000 in
theorem refRcmp_false_false (r s : RouteV) (w : World) : Calls Try.prog 12 #[.agg #[.int .u32 r.a, .int .i64 r.m, .int .u8 r.fr, .int .i64 r.di, .int .i64 r.me, .int .i64 r.ta, .string r.nm, .int .u32 r.ho, .bool false], .agg #[.int .u32 s.a, .int .i64 s.m, .int .u8 s.fr, .int .i64 s.di, .int .i64 s.me, .int .i64 s.ta, .string s.nm, .int .u32 s.ho, .bool false]] w fun e w' => e = .returned (.int .i64 (firstNZ [firstNZ [cmpI r.a s.a, cmpI r.m s.m], cmpI r.fr s.fr, cmpI r.di s.di, cmpI r.me s.me, cmpI r.ta s.ta, cmpI r.ho s.ho, cmpSt r.nm s.nm, cmpB false false])) ∧ Below w.heap.size w w' := by
  obtain ⟨k0, k1⟩ := blk2 w (.cells #[.int .u32 r.a, .int .i64 r.m, .int .u8 r.fr, .int .i64 r.di, .int .i64 r.me, .int .i64 r.ta, .string r.nm, .int .u32 r.ho, .bool false] 28) (.cells #[.int .u32 s.a, .int .i64 s.m, .int .u8 s.fr, .int .i64 s.di, .int .i64 s.me, .int .i64 s.ta, .string s.nm, .int .u32 s.ho, .bool false] 28)
  have hb0 := below2 w (.cells #[.int .u32 r.a, .int .i64 r.m, .int .u8 r.fr, .int .i64 r.di, .int .i64 r.me, .int .i64 r.ta, .string r.nm, .int .u32 r.ho, .bool false] 28) (.cells #[.int .u32 s.a, .int .i64 s.m, .int .u8 s.fr, .int .i64 s.di, .int .i64 s.me, .int .i64 s.ta, .string s.nm, .int .u32 s.ho, .bool false] 28)
  have KI := Lib.hid (fun x y W => oneI_b x y W)
  have KS := Lib.hid (fun x y W => oneS_b x y W)
  have KB := Lib.hid (fun x y W => oneB_b x y W)
  have KPR := Lib.hid (fun a b m n W => refPrefix08_b a b m n W)
  have KF := Lib.hid (fun l v W h hn => first_b l v W h hn)
  go_enter Try.func12, Try.ntmps12
  go_upto_region 1 with fail
  obtain ⟨c0, c1, c2, c3, c4, c5, c6, c7, c8⟩ := blk9 (t := 28) k0
  obtain ⟨d0, d1, d2, d3, d4, d5, d6, d7, d8⟩ := blk9 (t := 28) k1
  clear k0 k1
  generalize (w.alloc (.cells #[.int .u32 r.a, .int .i64 r.m, .int .u8 r.fr, .int .i64 r.di, .int .i64 r.me, .int .i64 r.ta, .string r.nm, .int .u32 r.ho, .bool false] 28)).alloc (.cells #[.int .u32 s.a, .int .i64 s.m, .int .u8 s.fr, .int .i64 s.di, .int .i64 s.me, .int .i64 s.ta, .string s.nm, .int .u32 s.ho, .bool false] 28) = W at *
  generalize (Value.agg #[.int .u32 r.a, .int .i64 r.m, .int .u8 r.fr, .int .i64 r.di, .int .i64 r.me, .int .i64 r.ta, .string r.nm, .int .u32 r.ho, .bool false] : Value) = va at *
  generalize (Value.agg #[.int .u32 s.a, .int .i64 s.m, .int .u8 s.fr, .int .i64 s.di, .int .i64 s.me, .int .i64 s.ta, .string s.nm, .int .u32 s.ho, .bool false] : Value) = vb at *
  try dsimp only [List.append]
  try simp only [List.cons_append, List.nil_append]
  have F0 := cell_regrown c0
  have F1 := cell_regrown c1
  have F2 := cell_regrown c2
  have F3 := cell_regrown c3
  have F4 := cell_regrown c4
  have F5 := cell_regrown c5
  have F6 := cell_regrown c6
  have F7 := cell_regrown c7
  have F8 := cell_regrown c8
  have G0 := cell_regrown d0
  have G1 := cell_regrown d1
  have G2 := cell_regrown d2
  have G3 := cell_regrown d3
  have G4 := cell_regrown d4
  have G5 := cell_regrown d5
  have G6 := cell_regrown d6
  have G7 := cell_regrown d7
  have G8 := cell_regrown d8
  refine wp_region_mixF [(0, false), (1, false), (2, false), (3, false), (5, false), (6, false), (7, false), (8, false), (9, false), (10, false), (11, false), (12, false), (13, false), (14, false), (16, false), (17, false), (18, false), (19, false), (20, false), (21, false), (22, false), (23, false), (24, false), (25, false), (27, false), (28, false), (29, false), (30, false), (31, false), (32, false), (33, false), (34, false), (35, false), (36, false), (38, false), (39, false), (40, false), (41, false), (42, false), (43, false), (44, false), (45, false), (46, false), (47, false), (49, false), (50, false), (51, false), (52, false), (53, false), (54, false), (55, false), (56, false), (57, false), (58, false), (60, false), (61, false), (62, false), (63, false), (64, false), (65, false), (66, false), (67, false), (68, false), (69, false), (71, false), (72, false), (73, false), (78, false), (79, false), (4, true), (15, true), (26, true), (37, true), (48, true), (59, true), (70, true), (74, false), (75, false), (76, false), (77, false), (80, false), (81, false), (82, false), (83, false), (84, false), (85, true), (86, true), (87, true), (88, false)] rows70 (by kernel_rfl) (by kernel_rfl) ?_
  have hv0 := below_drawn W
  generalize { W with drawn := W.drawn + 1 } = V0 at *
  refine mix_take [0, 1, 2, 3, 5, 6, 7, 8, 9, 10, 11, 12, 13, 14, 16, 17, 18, 19, 20, 21, 22, 23, 24, 25, 27, 28, 29, 30, 31, 32, 33, 34, 35, 36, 38, 39, 40, 41, 42, 43, 44, 45, 46, 47, 49, 50, 51, 52, 53, 54, 55, 56, 57, 58, 60, 61, 62, 63, 64, 65, 66, 67, 68, 69, 71, 72, 73, 78, 79] [_, _, _, _, _, _, _, _, _, _, _, _, _, _, _, _, _, _, _, _, _, _, _, _, _, _, _, _, _, _, _, _, _, _, _, _, _, _, _, _, _, _, _, _, _, _, _, _, _, _, _, _, _, _, _, _, _, _, _, _, _, _, _, _, _, _, _, _, _] rfl rfl ?_
  simp only [List.getElem_toArray, List.getElem_cons_zero, List.getElem_cons_succ]
  repeat (go_big_quiet_step (fail))
  refine wpQuiet_nil ?_
  refine mix_bar rfl (by rfl) ?_
  simp only [List.getElem_toArray, List.getElem_cons_zero, List.getElem_cons_succ]
  go_simp
  refine (KPR.out r.a s.a r.m s.m V0).mono ?_
  rintro e V1 ⟨rfl, hb⟩
  have hv1 := below_call hv0 hb
  refine ⟨regrown_of_below hv1, ?_⟩
  clear hb
  clear F0 G0 F1 G1 F2 G2 F3 G3 F4 G4 F5 G5 F6 G6 F7 G7
  refine mix_bar rfl (by rfl) ?_
  simp only [List.getElem_toArray, List.getElem_cons_zero, List.getElem_cons_succ]
  go_simp
  refine (KI.out r.fr s.fr V1).mono ?_
  rintro e V2 ⟨rfl, hb⟩
  have hv2 := below_call hv1 hb
  refine ⟨regrown_of_below hv2, ?_⟩
  clear hb
  refine mix_bar rfl (by rfl) ?_
  simp only [List.getElem_toArray, List.getElem_cons_zero, List.getElem_cons_succ]
  go_simp
  refine (KI.out r.di s.di V2).mono ?_
  rintro e V3 ⟨rfl, hb⟩
  have hv3 := below_call hv2 hb
  refine ⟨regrown_of_below hv3, ?_⟩
  clear hb
  refine mix_bar rfl (by rfl) ?_
  simp only [List.getElem_toArray, List.getElem_cons_zero, List.getElem_cons_succ]
  go_simp
  refine (KI.out r.me s.me V3).mono ?_
  rintro e V4 ⟨rfl, hb⟩
  have hv4 := below_call hv3 hb
  refine ⟨regrown_of_below hv4, ?_⟩
  clear hb
  refine mix_bar rfl (by rfl) ?_
  simp only [List.getElem_toArray, List.getElem_cons_zero, List.getElem_cons_succ]
  go_simp
  refine (KI.out r.ta s.ta V4).mono ?_
  rintro e V5 ⟨rfl, hb⟩
  have hv5 := below_call hv4 hb
  refine ⟨regrown_of_below hv5, ?_⟩
  clear hb
  refine mix_bar rfl (by rfl) ?_
  simp only [List.getElem_toArray, List.getElem_cons_zero, List.getElem_cons_succ]
  go_simp
  refine (KI.out r.ho s.ho V5).mono ?_
  rintro e V6 ⟨rfl, hb⟩
  have hv6 := below_call hv5 hb
  refine ⟨regrown_of_below hv6, ?_⟩
  clear hb
  refine mix_bar rfl (by rfl) ?_
  simp only [List.getElem_toArray, List.getElem_cons_zero, List.getElem_cons_succ]
  go_simp
  refine (KS.out r.nm s.nm V6).mono ?_
  rintro e V7 ⟨rfl, hb⟩
  have hv7 := below_call hv6 hb
  refine ⟨regrown_of_below hv7, ?_⟩
  clear hb
  refine mix_take [74, 75, 76, 77, 80, 81, 82, 83, 84] [_, _, _, _, _, _, _, _, _] rfl rfl ?_
  simp only [List.getElem_toArray, List.getElem_cons_zero, List.getElem_cons_succ]
  repeat (go_big_quiet_step (fail))
  refine wpQuiet_nil ?_
  refine mix_bar rfl (by rfl) ?_
  simp only [List.getElem_toArray, List.getElem_cons_zero, List.getElem_cons_succ]
  go_simp
  refine (KB.out false false V7).mono ?_
  rintro e V8 ⟨rfl, hb⟩
  have hv8 := below_call hv7 hb
  refine ⟨regrown_of_below hv8, ?_⟩
  clear hb
  refine mix_bar rfl (by rfl) ?_
  simp only [List.getElem_toArray, List.getElem_cons_zero, List.getElem_cons_succ]
  go_simp
  have hg := heap_alloc_new V8 (.cells #[.int .i64 (firstNZ [cmpI r.a s.a, cmpI r.m s.m]), .int .i64 (cmpI r.fr s.fr), .int .i64 (cmpI r.di s.di), .int .i64 (cmpI r.me s.me), .int .i64 (cmpI r.ta s.ta), .int .i64 (cmpI r.ho s.ho), .int .i64 (cmpSt r.nm s.nm), .int .i64 (cmpB false false)] 3)
  have hv9 := hv8.alloc hv8.size (.cells #[.int .i64 (firstNZ [cmpI r.a s.a, cmpI r.m s.m]), .int .i64 (cmpI r.fr s.fr), .int .i64 (cmpI r.di s.di), .int .i64 (cmpI r.me s.me), .int .i64 (cmpI r.ta s.ta), .int .i64 (cmpI r.ho s.ho), .int .i64 (cmpSt r.nm s.nm), .int .i64 (cmpB false false)] 3)
  refine ⟨regrown_of_below hv9, ?_⟩
  generalize V8.alloc (.cells #[.int .i64 (firstNZ [cmpI r.a s.a, cmpI r.m s.m]), .int .i64 (cmpI r.fr s.fr), .int .i64 (cmpI r.di s.di), .int .i64 (cmpI r.me s.me), .int .i64 (cmpI r.ta s.ta), .int .i64 (cmpI r.ho s.ho), .int .i64 (cmpSt r.nm s.nm), .int .i64 (cmpB false false)] 3) = V9 at *
  refine mix_bar rfl (by rfl) ?_
  simp only [List.getElem_toArray, List.getElem_cons_zero, List.getElem_cons_succ]
  go_simp
  refine (KF.out [firstNZ [cmpI r.a s.a, cmpI r.m s.m], cmpI r.fr s.fr, cmpI r.di s.di, cmpI r.me s.me, cmpI r.ta s.ta, cmpI r.ho s.ho, cmpSt r.nm s.nm, cmpB false false] _ V9 (Rd.of_blk (cs := #[.int .i64 (firstNZ [cmpI r.a s.a, cmpI r.m s.m]), .int .i64 (cmpI r.fr s.fr), .int .i64 (cmpI r.di s.di), .int .i64 (cmpI r.me s.me), .int .i64 (cmpI r.ta s.ta), .int .i64 (cmpI r.ho s.ho), .int .i64 (cmpSt r.nm s.nm), .int .i64 (cmpB false false)]) (t := 3) hg (Nat.le_refl _) rfl) (by simp)).mono ?_
  rintro e V10 ⟨rfl, hb⟩
  have hv10 := below_call hv9 hb
  refine ⟨regrown_of_below hv10, ?_⟩
  clear hb
  refine mix_take [88] [_] rfl rfl ?_
  simp only [List.getElem_toArray, List.getElem_cons_zero, List.getElem_cons_succ]
  repeat (go_big_quiet_step (fail))
  refine wpQuiet_nil ?_
  refine mix_end ?_
  go_wp2
  go_ret
  exact ⟨rfl, below_call hb0 hv10⟩
set_option maxRecDepth 100000 in
set_option maxHeartbeats 8000000 in
theorem refRcmp_false_true (r s : RouteV) (w : World) : Calls Try.prog 12 #[.agg #[.int .u32 r.a, .int .i64 r.m, .int .u8 r.fr, .int .i64 r.di, .int .i64 r.me, .int .i64 r.ta, .string r.nm, .int .u32 r.ho, .bool false], .agg #[.int .u32 s.a, .int .i64 s.m, .int .u8 s.fr, .int .i64 s.di, .int .i64 s.me, .int .i64 s.ta, .string s.nm, .int .u32 s.ho, .bool true]] w fun e w' => e = .returned (.int .i64 (firstNZ [firstNZ [cmpI r.a s.a, cmpI r.m s.m], cmpI r.fr s.fr, cmpI r.di s.di, cmpI r.me s.me, cmpI r.ta s.ta, cmpI r.ho s.ho, cmpSt r.nm s.nm, cmpB false true])) ∧ Below w.heap.size w w' := by
  obtain ⟨k0, k1⟩ := blk2 w (.cells #[.int .u32 r.a, .int .i64 r.m, .int .u8 r.fr, .int .i64 r.di, .int .i64 r.me, .int .i64 r.ta, .string r.nm, .int .u32 r.ho, .bool false] 28) (.cells #[.int .u32 s.a, .int .i64 s.m, .int .u8 s.fr, .int .i64 s.di, .int .i64 s.me, .int .i64 s.ta, .string s.nm, .int .u32 s.ho, .bool true] 28)
  have hb0 := below2 w (.cells #[.int .u32 r.a, .int .i64 r.m, .int .u8 r.fr, .int .i64 r.di, .int .i64 r.me, .int .i64 r.ta, .string r.nm, .int .u32 r.ho, .bool false] 28) (.cells #[.int .u32 s.a, .int .i64 s.m, .int .u8 s.fr, .int .i64 s.di, .int .i64 s.me, .int .i64 s.ta, .string s.nm, .int .u32 s.ho, .bool true] 28)
  have KI := Lib.hid (fun x y W => oneI_b x y W)
  have KS := Lib.hid (fun x y W => oneS_b x y W)
  have KB := Lib.hid (fun x y W => oneB_b x y W)
  have KPR := Lib.hid (fun a b m n W => refPrefix08_b a b m n W)
  have KF := Lib.hid (fun l v W h hn => first_b l v W h hn)
  go_enter Try.func12, Try.ntmps12
  go_upto_region 1 with fail
  obtain ⟨c0, c1, c2, c3, c4, c5, c6, c7, c8⟩ := blk9 (t := 28) k0
  obtain ⟨d0, d1, d2, d3, d4, d5, d6, d7, d8⟩ := blk9 (t := 28) k1
  clear k0 k1
  generalize (w.alloc (.cells #[.int .u32 r.a, .int .i64 r.m, .int .u8 r.fr, .int .i64 r.di, .int .i64 r.me, .int .i64 r.ta, .string r.nm, .int .u32 r.ho, .bool false] 28)).alloc (.cells #[.int .u32 s.a, .int .i64 s.m, .int .u8 s.fr, .int .i64 s.di, .int .i64 s.me, .int .i64 s.ta, .string s.nm, .int .u32 s.ho, .bool true] 28) = W at *
  generalize (Value.agg #[.int .u32 r.a, .int .i64 r.m, .int .u8 r.fr, .int .i64 r.di, .int .i64 r.me, .int .i64 r.ta, .string r.nm, .int .u32 r.ho, .bool false] : Value) = va at *
  generalize (Value.agg #[.int .u32 s.a, .int .i64 s.m, .int .u8 s.fr, .int .i64 s.di, .int .i64 s.me, .int .i64 s.ta, .string s.nm, .int .u32 s.ho, .bool true] : Value) = vb at *
  try dsimp only [List.append]
  try simp only [List.cons_append, List.nil_append]
  have F0 := cell_regrown c0
  have F1 := cell_regrown c1
  have F2 := cell_regrown c2
  have F3 := cell_regrown c3
  have F4 := cell_regrown c4
  have F5 := cell_regrown c5
  have F6 := cell_regrown c6
  have F7 := cell_regrown c7
  have F8 := cell_regrown c8
  have G0 := cell_regrown d0
  have G1 := cell_regrown d1
  have G2 := cell_regrown d2
  have G3 := cell_regrown d3
  have G4 := cell_regrown d4
  have G5 := cell_regrown d5
  have G6 := cell_regrown d6
  have G7 := cell_regrown d7
  have G8 := cell_regrown d8
  refine wp_region_mixF [(0, false), (1, false), (2, false), (3, false), (5, false), (6, false), (7, false), (8, false), (9, false), (10, false), (11, false), (12, false), (13, false), (14, false), (16, false), (17, false), (18, false), (19, false), (20, false), (21, false), (22, false), (23, false), (24, false), (25, false), (27, false), (28, false), (29, false), (30, false), (31, false), (32, false), (33, false), (34, false), (35, false), (36, false), (38, false), (39, false), (40, false), (41, false), (42, false), (43, false), (44, false), (45, false), (46, false), (47, false), (49, false), (50, false), (51, false), (52, false), (53, false), (54, false), (55, false), (56, false), (57, false), (58, false), (60, false), (61, false), (62, false), (63, false), (64, false), (65, false), (66, false), (67, false), (68, false), (69, false), (71, false), (72, false), (73, false), (78, false), (79, false), (4, true), (15, true), (26, true), (37, true), (48, true), (59, true), (70, true), (74, false), (75, false), (76, false), (77, false), (80, false), (81, false), (82, false), (83, false), (84, false), (85, true), (86, true), (87, true), (88, false)] rows70 (by kernel_rfl) (by kernel_rfl) ?_
  have hv0 := below_drawn W
  generalize { W with drawn := W.drawn + 1 } = V0 at *
  refine mix_take [0, 1, 2, 3, 5, 6, 7, 8, 9, 10, 11, 12, 13, 14, 16, 17, 18, 19, 20, 21, 22, 23, 24, 25, 27, 28, 29, 30, 31, 32, 33, 34, 35, 36, 38, 39, 40, 41, 42, 43, 44, 45, 46, 47, 49, 50, 51, 52, 53, 54, 55, 56, 57, 58, 60, 61, 62, 63, 64, 65, 66, 67, 68, 69, 71, 72, 73, 78, 79] [_, _, _, _, _, _, _, _, _, _, _, _, _, _, _, _, _, _, _, _, _, _, _, _, _, _, _, _, _, _, _, _, _, _, _, _, _, _, _, _, _, _, _, _, _, _, _, _, _, _, _, _, _, _, _, _, _, _, _, _, _, _, _, _, _, _, _, _, _] rfl rfl ?_
  simp only [List.getElem_toArray, List.getElem_cons_zero, List.getElem_cons_succ]
  repeat (go_big_quiet_step (fail))
  refine wpQuiet_nil ?_
  refine mix_bar rfl (by rfl) ?_
  simp only [List.getElem_toArray, List.getElem_cons_zero, List.getElem_cons_succ]
  go_simp
  refine (KPR.out r.a s.a r.m s.m V0).mono ?_
  rintro e V1 ⟨rfl, hb⟩
  have hv1 := below_call hv0 hb
  refine ⟨regrown_of_below hv1, ?_⟩
  clear hb
  clear F0 G0 F1 G1 F2 G2 F3 G3 F4 G4 F5 G5 F6 G6 F7 G7
  refine mix_bar rfl (by rfl) ?_
  simp only [List.getElem_toArray, List.getElem_cons_zero, List.getElem_cons_succ]
  go_simp
  refine (KI.out r.fr s.fr V1).mono ?_
  rintro e V2 ⟨rfl, hb⟩
  have hv2 := below_call hv1 hb
  refine ⟨regrown_of_below hv2, ?_⟩
  clear hb
  refine mix_bar rfl (by rfl) ?_
  simp only [List.getElem_toArray, List.getElem_cons_zero, List.getElem_cons_succ]
  go_simp
  refine (KI.out r.di s.di V2).mono ?_
  rintro e V3 ⟨rfl, hb⟩
  have hv3 := below_call hv2 hb
  refine ⟨regrown_of_below hv3, ?_⟩
  clear hb
  refine mix_bar rfl (by rfl) ?_
  simp only [List.getElem_toArray, List.getElem_cons_zero, List.getElem_cons_succ]
  go_simp
  refine (KI.out r.me s.me V3).mono ?_
  rintro e V4 ⟨rfl, hb⟩
  have hv4 := below_call hv3 hb
  refine ⟨regrown_of_below hv4, ?_⟩
  clear hb
  refine mix_bar rfl (by rfl) ?_
  simp only [List.getElem_toArray, List.getElem_cons_zero, List.getElem_cons_succ]
  go_simp
  refine (KI.out r.ta s.ta V4).mono ?_
  rintro e V5 ⟨rfl, hb⟩
  have hv5 := below_call hv4 hb
  refine ⟨regrown_of_below hv5, ?_⟩
  clear hb
  refine mix_bar rfl (by rfl) ?_
  simp only [List.getElem_toArray, List.getElem_cons_zero, List.getElem_cons_succ]
  go_simp
  refine (KI.out r.ho s.ho V5).mono ?_
  rintro e V6 ⟨rfl, hb⟩
  have hv6 := below_call hv5 hb
  refine ⟨regrown_of_below hv6, ?_⟩
  clear hb
  refine mix_bar rfl (by rfl) ?_
  simp only [List.getElem_toArray, List.getElem_cons_zero, List.getElem_cons_succ]
  go_simp
  refine (KS.out r.nm s.nm V6).mono ?_
  rintro e V7 ⟨rfl, hb⟩
  have hv7 := below_call hv6 hb
  refine ⟨regrown_of_below hv7, ?_⟩
  clear hb
  refine mix_take [74, 75, 76, 77, 80, 81, 82, 83, 84] [_, _, _, _, _, _, _, _, _] rfl rfl ?_
  simp only [List.getElem_toArray, List.getElem_cons_zero, List.getElem_cons_succ]
  repeat (go_big_quiet_step (fail))
  refine wpQuiet_nil ?_
  refine mix_bar rfl (by rfl) ?_
  simp only [List.getElem_toArray, List.getElem_cons_zero, List.getElem_cons_succ]
  go_simp
  refine (KB.out false true V7).mono ?_
  rintro e V8 ⟨rfl, hb⟩
  have hv8 := below_call hv7 hb
  refine ⟨regrown_of_below hv8, ?_⟩
  clear hb
  refine mix_bar rfl (by rfl) ?_
  simp only [List.getElem_toArray, List.getElem_cons_zero, List.getElem_cons_succ]
  go_simp
  have hg := heap_alloc_new V8 (.cells #[.int .i64 (firstNZ [cmpI r.a s.a, cmpI r.m s.m]), .int .i64 (cmpI r.fr s.fr), .int .i64 (cmpI r.di s.di), .int .i64 (cmpI r.me s.me), .int .i64 (cmpI r.ta s.ta), .int .i64 (cmpI r.ho s.ho), .int .i64 (cmpSt r.nm s.nm), .int .i64 (cmpB false true)] 3)
  have hv9 := hv8.alloc hv8.size (.cells #[.int .i64 (firstNZ [cmpI r.a s.a, cmpI r.m s.m]), .int .i64 (cmpI r.fr s.fr), .int .i64 (cmpI r.di s.di), .int .i64 (cmpI r.me s.me), .int .i64 (cmpI r.ta s.ta), .int .i64 (cmpI r.ho s.ho), .int .i64 (cmpSt r.nm s.nm), .int .i64 (cmpB false true)] 3)
  refine ⟨regrown_of_below hv9, ?_⟩
  generalize V8.alloc (.cells #[.int .i64 (firstNZ [cmpI r.a s.a, cmpI r.m s.m]), .int .i64 (cmpI r.fr s.fr), .int .i64 (cmpI r.di s.di), .int .i64 (cmpI r.me s.me), .int .i64 (cmpI r.ta s.ta), .int .i64 (cmpI r.ho s.ho), .int .i64 (cmpSt r.nm s.nm), .int .i64 (cmpB false true)] 3) = V9 at *
  refine mix_bar rfl (by rfl) ?_
  simp only [List.getElem_toArray, List.getElem_cons_zero, List.getElem_cons_succ]
  go_simp
  refine (KF.out [firstNZ [cmpI r.a s.a, cmpI r.m s.m], cmpI r.fr s.fr, cmpI r.di s.di, cmpI r.me s.me, cmpI r.ta s.ta, cmpI r.ho s.ho, cmpSt r.nm s.nm, cmpB false true] _ V9 (Rd.of_blk (cs := #[.int .i64 (firstNZ [cmpI r.a s.a, cmpI r.m s.m]), .int .i64 (cmpI r.fr s.fr), .int .i64 (cmpI r.di s.di), .int .i64 (cmpI r.me s.me), .int .i64 (cmpI r.ta s.ta), .int .i64 (cmpI r.ho s.ho), .int .i64 (cmpSt r.nm s.nm), .int .i64 (cmpB false true)]) (t := 3) hg (Nat.le_refl _) rfl) (by simp)).mono ?_
  rintro e V10 ⟨rfl, hb⟩
  have hv10 := below_call hv9 hb
  refine ⟨regrown_of_below hv10, ?_⟩
  clear hb
  refine mix_take [88] [_] rfl rfl ?_
  simp only [List.getElem_toArray, List.getElem_cons_zero, List.getElem_cons_succ]
  repeat (go_big_quiet_step (fail))
  refine wpQuiet_nil ?_
  refine mix_end ?_
  go_wp2
  go_ret
  exact ⟨rfl, below_call hb0 hv10⟩
set_option maxRecDepth 100000 in
set_option maxHeartbeats 8000000 in
theorem refRcmp_true_false (r s : RouteV) (w : World) : Calls Try.prog 12 #[.agg #[.int .u32 r.a, .int .i64 r.m, .int .u8 r.fr, .int .i64 r.di, .int .i64 r.me, .int .i64 r.ta, .string r.nm, .int .u32 r.ho, .bool true], .agg #[.int .u32 s.a, .int .i64 s.m, .int .u8 s.fr, .int .i64 s.di, .int .i64 s.me, .int .i64 s.ta, .string s.nm, .int .u32 s.ho, .bool false]] w fun e w' => e = .returned (.int .i64 (firstNZ [firstNZ [cmpI r.a s.a, cmpI r.m s.m], cmpI r.fr s.fr, cmpI r.di s.di, cmpI r.me s.me, cmpI r.ta s.ta, cmpI r.ho s.ho, cmpSt r.nm s.nm, cmpB true false])) ∧ Below w.heap.size w w' := by
  obtain ⟨k0, k1⟩ := blk2 w (.cells #[.int .u32 r.a, .int .i64 r.m, .int .u8 r.fr, .int .i64 r.di, .int .i64 r.me, .int .i64 r.ta, .string r.nm, .int .u32 r.ho, .bool true] 28) (.cells #[.int .u32 s.a, .int .i64 s.m, .int .u8 s.fr, .int .i64 s.di, .int .i64 s.me, .int .i64 s.ta, .string s.nm, .int .u32 s.ho, .bool false] 28)
  have hb0 := below2 w (.cells #[.int .u32 r.a, .int .i64 r.m, .int .u8 r.fr, .int .i64 r.di, .int .i64 r.me, .int .i64 r.ta, .string r.nm, .int .u32 r.ho, .bool true] 28) (.cells #[.int .u32 s.a, .int .i64 s.m, .int .u8 s.fr, .int .i64 s.di, .int .i64 s.me, .int .i64 s.ta, .string s.nm, .int .u32 s.ho, .bool false] 28)
  have KI := Lib.hid (fun x y W => oneI_b x y W)
  have KS := Lib.hid (fun x y W => oneS_b x y W)
  have KB := Lib.hid (fun x y W => oneB_b x y W)
  have KPR := Lib.hid (fun a b m n W => refPrefix08_b a b m n W)
  have KF := Lib.hid (fun l v W h hn => first_b l v W h hn)
  go_enter Try.func12, Try.ntmps12
  go_upto_region 1 with fail
  obtain ⟨c0, c1, c2, c3, c4, c5, c6, c7, c8⟩ := blk9 (t := 28) k0
  obtain ⟨d0, d1, d2, d3, d4, d5, d6, d7, d8⟩ := blk9 (t := 28) k1
  clear k0 k1
  generalize (w.alloc (.cells #[.int .u32 r.a, .int .i64 r.m, .int .u8 r.fr, .int .i64 r.di, .int .i64 r.me, .int .i64 r.ta, .string r.nm, .int .u32 r.ho, .bool true] 28)).alloc (.cells #[.int .u32 s.a, .int .i64 s.m, .int .u8 s.fr, .int .i64 s.di, .int .i64 s.me, .int .i64 s.ta, .string s.nm, .int .u32 s.ho, .bool false] 28) = W at *
  generalize (Value.agg #[.int .u32 r.a, .int .i64 r.m, .int .u8 r.fr, .int .i64 r.di, .int .i64 r.me, .int .i64 r.ta, .string r.nm, .int .u32 r.ho, .bool true] : Value) = va at *
  generalize (Value.agg #[.int .u32 s.a, .int .i64 s.m, .int .u8 s.fr, .int .i64 s.di, .int .i64 s.me, .int .i64 s.ta, .string s.nm, .int .u32 s.ho, .bool false] : Value) = vb at *
  try dsimp only [List.append]
  try simp only [List.cons_append, List.nil_append]
  have F0 := cell_regrown c0
  have F1 := cell_regrown c1
  have F2 := cell_regrown c2
  have F3 := cell_regrown c3
  have F4 := cell_regrown c4
  have F5 := cell_regrown c5
  have F6 := cell_regrown c6
  have F7 := cell_regrown c7
  have F8 := cell_regrown c8
  have G0 := cell_regrown d0
  have G1 := cell_regrown d1
  have G2 := cell_regrown d2
  have G3 := cell_regrown d3
  have G4 := cell_regrown d4
  have G5 := cell_regrown d5
  have G6 := cell_regrown d6
  have G7 := cell_regrown d7
  have G8 := cell_regrown d8
  refine wp_region_mixF [(0, false), (1, false), (2, false), (3, false), (5, false), (6, false), (7, false), (8, false), (9, false), (10, false), (11, false), (12, false), (13, false), (14, false), (16, false), (17, false), (18, false), (19, false), (20, false), (21, false), (22, false), (23, false), (24, false), (25, false), (27, false), (28, false), (29, false), (30, false), (31, false), (32, false), (33, false), (34, false), (35, false), (36, false), (38, false), (39, false), (40, false), (41, false), (42, false), (43, false), (44, false), (45, false), (46, false), (47, false), (49, false), (50, false), (51, false), (52, false), (53, false), (54, false), (55, false), (56, false), (57, false), (58, false), (60, false), (61, false), (62, false), (63, false), (64, false), (65, false), (66, false), (67, false), (68, false), (69, false), (71, false), (72, false), (73, false), (78, false), (79, false), (4, true), (15, true), (26, true), (37, true), (48, true), (59, true), (70, true), (74, false), (75, false), (76, false), (77, false), (80, false), (81, false), (82, false), (83, false), (84, false), (85, true), (86, true), (87, true), (88, false)] rows70 (by kernel_rfl) (by kernel_rfl) ?_
  have hv0 := below_drawn W
  generalize { W with drawn := W.drawn + 1 } = V0 at *
  refine mix_take [0, 1, 2, 3, 5, 6, 7, 8, 9, 10, 11, 12, 13, 14, 16, 17, 18, 19, 20, 21, 22, 23, 24, 25, 27, 28, 29, 30, 31, 32, 33, 34, 35, 36, 38, 39, 40, 41, 42, 43, 44, 45, 46, 47, 49, 50, 51, 52, 53, 54, 55, 56, 57, 58, 60, 61, 62, 63, 64, 65, 66, 67, 68, 69, 71, 72, 73, 78, 79] [_, _, _, _, _, _, _, _, _, _, _, _, _, _, _, _, _, _, _, _, _, _, _, _, _, _, _, _, _, _, _, _, _, _, _, _, _, _, _, _, _, _, _, _, _, _, _, _, _, _, _, _, _, _, _, _, _, _, _, _, _, _, _, _, _, _, _, _, _] rfl rfl ?_
  simp only [List.getElem_toArray, List.getElem_cons_zero, List.getElem_cons_succ]
  repeat (go_big_quiet_step (fail))
  refine wpQuiet_nil ?_
  refine mix_bar rfl (by rfl) ?_
  simp only [List.getElem_toArray, List.getElem_cons_zero, List.getElem_cons_succ]
  go_simp
  refine (KPR.out r.a s.a r.m s.m V0).mono ?_
  rintro e V1 ⟨rfl, hb⟩
  have hv1 := below_call hv0 hb
  refine ⟨regrown_of_below hv1, ?_⟩
  clear hb
  clear F0 G0 F1 G1 F2 G2 F3 G3 F4 G4 F5 G5 F6 G6 F7 G7
  refine mix_bar rfl (by rfl) ?_
  simp only [List.getElem_toArray, List.getElem_cons_zero, List.getElem_cons_succ]
  go_simp
  refine (KI.out r.fr s.fr V1).mono ?_
  rintro e V2 ⟨rfl, hb⟩
  have hv2 := below_call hv1 hb
  refine ⟨regrown_of_below hv2, ?_⟩
  clear hb
  refine mix_bar rfl (by rfl) ?_
  simp only [List.getElem_toArray, List.getElem_cons_zero, List.getElem_cons_succ]
  go_simp
  refine (KI.out r.di s.di V2).mono ?_
  rintro e V3 ⟨rfl, hb⟩
  have hv3 := below_call hv2 hb
  refine ⟨regrown_of_below hv3, ?_⟩
  clear hb
  refine mix_bar rfl (by rfl) ?_
  simp only [List.getElem_toArray, List.getElem_cons_zero, List.getElem_cons_succ]
  go_simp
  refine (KI.out r.me s.me V3).mono ?_
  rintro e V4 ⟨rfl, hb⟩
  have hv4 := below_call hv3 hb
  refine ⟨regrown_of_below hv4, ?_⟩
  clear hb
  refine mix_bar rfl (by rfl) ?_
  simp only [List.getElem_toArray, List.getElem_cons_zero, List.getElem_cons_succ]
  go_simp
  refine (KI.out r.ta s.ta V4).mono ?_
  rintro e V5 ⟨rfl, hb⟩
  have hv5 := below_call hv4 hb
  refine ⟨regrown_of_below hv5, ?_⟩
  clear hb
  refine mix_bar rfl (by rfl) ?_
  simp only [List.getElem_toArray, List.getElem_cons_zero, List.getElem_cons_succ]
  go_simp
  refine (KI.out r.ho s.ho V5).mono ?_
  rintro e V6 ⟨rfl, hb⟩
  have hv6 := below_call hv5 hb
  refine ⟨regrown_of_below hv6, ?_⟩
  clear hb
  refine mix_bar rfl (by rfl) ?_
  simp only [List.getElem_toArray, List.getElem_cons_zero, List.getElem_cons_succ]
  go_simp
  refine (KS.out r.nm s.nm V6).mono ?_
  rintro e V7 ⟨rfl, hb⟩
  have hv7 := below_call hv6 hb
  refine ⟨regrown_of_below hv7, ?_⟩
  clear hb
  refine mix_take [74, 75, 76, 77, 80, 81, 82, 83, 84] [_, _, _, _, _, _, _, _, _] rfl rfl ?_
  simp only [List.getElem_toArray, List.getElem_cons_zero, List.getElem_cons_succ]
  repeat (go_big_quiet_step (fail))
  refine wpQuiet_nil ?_
  refine mix_bar rfl (by rfl) ?_
  simp only [List.getElem_toArray, List.getElem_cons_zero, List.getElem_cons_succ]
  go_simp
  refine (KB.out true false V7).mono ?_
  rintro e V8 ⟨rfl, hb⟩
  have hv8 := below_call hv7 hb
  refine ⟨regrown_of_below hv8, ?_⟩
  clear hb
  refine mix_bar rfl (by rfl) ?_
  simp only [List.getElem_toArray, List.getElem_cons_zero, List.getElem_cons_succ]
  go_simp
  have hg := heap_alloc_new V8 (.cells #[.int .i64 (firstNZ [cmpI r.a s.a, cmpI r.m s.m]), .int .i64 (cmpI r.fr s.fr), .int .i64 (cmpI r.di s.di), .int .i64 (cmpI r.me s.me), .int .i64 (cmpI r.ta s.ta), .int .i64 (cmpI r.ho s.ho), .int .i64 (cmpSt r.nm s.nm), .int .i64 (cmpB true false)] 3)
  have hv9 := hv8.alloc hv8.size (.cells #[.int .i64 (firstNZ [cmpI r.a s.a, cmpI r.m s.m]), .int .i64 (cmpI r.fr s.fr), .int .i64 (cmpI r.di s.di), .int .i64 (cmpI r.me s.me), .int .i64 (cmpI r.ta s.ta), .int .i64 (cmpI r.ho s.ho), .int .i64 (cmpSt r.nm s.nm), .int .i64 (cmpB true false)] 3)
  refine ⟨regrown_of_below hv9, ?_⟩
  generalize V8.alloc (.cells #[.int .i64 (firstNZ [cmpI r.a s.a, cmpI r.m s.m]), .int .i64 (cmpI r.fr s.fr), .int .i64 (cmpI r.di s.di), .int .i64 (cmpI r.me s.me), .int .i64 (cmpI r.ta s.ta), .int .i64 (cmpI r.ho s.ho), .int .i64 (cmpSt r.nm s.nm), .int .i64 (cmpB true false)] 3) = V9 at *
  refine mix_bar rfl (by rfl) ?_
  simp only [List.getElem_toArray, List.getElem_cons_zero, List.getElem_cons_succ]
  go_simp
  refine (KF.out [firstNZ [cmpI r.a s.a, cmpI r.m s.m], cmpI r.fr s.fr, cmpI r.di s.di, cmpI r.me s.me, cmpI r.ta s.ta, cmpI r.ho s.ho, cmpSt r.nm s.nm, cmpB true false] _ V9 (Rd.of_blk (cs := #[.int .i64 (firstNZ [cmpI r.a s.a, cmpI r.m s.m]), .int .i64 (cmpI r.fr s.fr), .int .i64 (cmpI r.di s.di), .int .i64 (cmpI r.me s.me), .int .i64 (cmpI r.ta s.ta), .int .i64 (cmpI r.ho s.ho), .int .i64 (cmpSt r.nm s.nm), .int .i64 (cmpB true false)]) (t := 3) hg (Nat.le_refl _) rfl) (by simp)).mono ?_
  rintro e V10 ⟨rfl, hb⟩
  have hv10 := below_call hv9 hb
  refine ⟨regrown_of_below hv10, ?_⟩
  clear hb
  refine mix_take [88] [_] rfl rfl ?_
  simp only [List.getElem_toArray, List.getElem_cons_zero, List.getElem_cons_succ]
  repeat (go_big_quiet_step (fail))
  refine wpQuiet_nil ?_
  refine mix_end ?_
  go_wp2
  go_ret
  exact ⟨rfl, below_call hb0 hv10⟩
set_option maxRecDepth 100000 in
set_option maxHeartbeats 8000000 in
theorem refRcmp_true_true (r s : RouteV) (w : World) : Calls Try.prog 12 #[.agg #[.int .u32 r.a, .int .i64 r.m, .int .u8 r.fr, .int .i64 r.di, .int .i64 r.me, .int .i64 r.ta, .string r.nm, .int .u32 r.ho, .bool true], .agg #[.int .u32 s.a, .int .i64 s.m, .int .u8 s.fr, .int .i64 s.di, .int .i64 s.me, .int .i64 s.ta, .string s.nm, .int .u32 s.ho, .bool true]] w fun e w' => e = .returned (.int .i64 (firstNZ [firstNZ [cmpI r.a s.a, cmpI r.m s.m], cmpI r.fr s.fr, cmpI r.di s.di, cmpI r.me s.me, cmpI r.ta s.ta, cmpI r.ho s.ho, cmpSt r.nm s.nm, cmpB true true])) ∧ Below w.heap.size w w' := by
  obtain ⟨k0, k1⟩ := blk2 w (.cells #[.int .u32 r.a, .int .i64 r.m, .int .u8 r.fr, .int .i64 r.di, .int .i64 r.me, .int .i64 r.ta, .string r.nm, .int .u32 r.ho, .bool true] 28) (.cells #[.int .u32 s.a, .int .i64 s.m, .int .u8 s.fr, .int .i64 s.di, .int .i64 s.me, .int .i64 s.ta, .string s.nm, .int .u32 s.ho, .bool true] 28)
  have hb0 := below2 w (.cells #[.int .u32 r.a, .int .i64 r.m, .int .u8 r.fr, .int .i64 r.di, .int .i64 r.me, .int .i64 r.ta, .string r.nm, .int .u32 r.ho, .bool true] 28) (.cells #[.int .u32 s.a, .int .i64 s.m, .int .u8 s.fr, .int .i64 s.di, .int .i64 s.me, .int .i64 s.ta, .string s.nm, .int .u32 s.ho, .bool true] 28)
  have KI := Lib.hid (fun x y W => oneI_b x y W)
  have KS := Lib.hid (fun x y W => oneS_b x y W)
  have KB := Lib.hid (fun x y W => oneB_b x y W)
  have KPR := Lib.hid (fun a b m n W => refPrefix08_b a b m n W)
  have KF := Lib.hid (fun l v W h hn => first_b l v W h hn)
  go_enter Try.func12, Try.ntmps12
  go_upto_region 1 with fail
  obtain ⟨c0, c1, c2, c3, c4, c5, c6, c7, c8⟩ := blk9 (t := 28) k0
  obtain ⟨d0, d1, d2, d3, d4, d5, d6, d7, d8⟩ := blk9 (t := 28) k1
  clear k0 k1
  generalize (w.alloc (.cells #[.int .u32 r.a, .int .i64 r.m, .int .u8 r.fr, .int .i64 r.di, .int .i64 r.me, .int .i64 r.ta, .string r.nm, .int .u32 r.ho, .bool true] 28)).alloc (.cells #[.int .u32 s.a, .int .i64 s.m, .int .u8 s.fr, .int .i64 s.di, .int .i64 s.me, .int .i64 s.ta, .string s.nm, .int .u32 s.ho, .bool true] 28) = W at *
  generalize (Value.agg #[.int .u32 r.a, .int .i64 r.m, .int .u8 r.fr, .int .i64 r.di, .int .i64 r.me, .int .i64 r.ta, .string r.nm, .int .u32 r.ho, .bool true] : Value) = va at *
  generalize (Value.agg #[.int .u32 s.a, .int .i64 s.m, .int .u8 s.fr, .int .i64 s.di, .int .i64 s.me, .int .i64 s.ta, .string s.nm, .int .u32 s.ho, .bool true] : Value) = vb at *
  try dsimp only [List.append]
  try simp only [List.cons_append, List.nil_append]
  have F0 := cell_regrown c0
  have F1 := cell_regrown c1
  have F2 := cell_regrown c2
  have F3 := cell_regrown c3
  have F4 := cell_regrown c4
  have F5 := cell_regrown c5
  have F6 := cell_regrown c6
  have F7 := cell_regrown c7
  have F8 := cell_regrown c8
  have G0 := cell_regrown d0
  have G1 := cell_regrown d1
  have G2 := cell_regrown d2
  have G3 := cell_regrown d3
  have G4 := cell_regrown d4
  have G5 := cell_regrown d5
  have G6 := cell_regrown d6
  have G7 := cell_regrown d7
  have G8 := cell_regrown d8
  refine wp_region_mixF [(0, false), (1, false), (2, false), (3, false), (5, false), (6, false), (7, false), (8, false), (9, false), (10, false), (11, false), (12, false), (13, false), (14, false), (16, false), (17, false), (18, false), (19, false), (20, false), (21, false), (22, false), (23, false), (24, false), (25, false), (27, false), (28, false), (29, false), (30, false), (31, false), (32, false), (33, false), (34, false), (35, false), (36, false), (38, false), (39, false), (40, false), (41, false), (42, false), (43, false), (44, false), (45, false), (46, false), (47, false), (49, false), (50, false), (51, false), (52, false), (53, false), (54, false), (55, false), (56, false), (57, false), (58, false), (60, false), (61, false), (62, false), (63, false), (64, false), (65, false), (66, false), (67, false), (68, false), (69, false), (71, false), (72, false), (73, false), (78, false), (79, false), (4, true), (15, true), (26, true), (37, true), (48, true), (59, true), (70, true), (74, false), (75, false), (76, false), (77, false), (80, false), (81, false), (82, false), (83, false), (84, false), (85, true), (86, true), (87, true), (88, false)] rows70 (by kernel_rfl) (by kernel_rfl) ?_
  have hv0 := below_drawn W
  generalize { W with drawn := W.drawn + 1 } = V0 at *
  refine mix_take [0, 1, 2, 3, 5, 6, 7, 8, 9, 10, 11, 12, 13, 14, 16, 17, 18, 19, 20, 21, 22, 23, 24, 25, 27, 28, 29, 30, 31, 32, 33, 34, 35, 36, 38, 39, 40, 41, 42, 43, 44, 45, 46, 47, 49, 50, 51, 52, 53, 54, 55, 56, 57, 58, 60, 61, 62, 63, 64, 65, 66, 67, 68, 69, 71, 72, 73, 78, 79] [_, _, _, _, _, _, _, _, _, _, _, _, _, _, _, _, _, _, _, _, _, _, _, _, _, _, _, _, _, _, _, _, _, _, _, _, _, _, _, _, _, _, _, _, _, _, _, _, _, _, _, _, _, _, _, _, _, _, _, _, _, _, _, _, _, _, _, _, _] rfl rfl ?_
  simp only [List.getElem_toArray, List.getElem_cons_zero, List.getElem_cons_succ]
  repeat (go_big_quiet_step (fail))
  refine wpQuiet_nil ?_
  refine mix_bar rfl (by rfl) ?_
  simp only [List.getElem_toArray, List.getElem_cons_zero, List.getElem_cons_succ]
  go_simp
  refine (KPR.out r.a s.a r.m s.m V0).mono ?_
  rintro e V1 ⟨rfl, hb⟩
  have hv1 := below_call hv0 hb
  refine ⟨regrown_of_below hv1, ?_⟩
  clear hb
  clear F0 G0 F1 G1 F2 G2 F3 G3 F4 G4 F5 G5 F6 G6 F7 G7
  refine mix_bar rfl (by rfl) ?_
  simp only [List.getElem_toArray, List.getElem_cons_zero, List.getElem_cons_succ]
  go_simp
  refine (KI.out r.fr s.fr V1).mono ?_
  rintro e V2 ⟨rfl, hb⟩
  have hv2 := below_call hv1 hb
  refine ⟨regrown_of_below hv2, ?_⟩
  clear hb
  refine mix_bar rfl (by rfl) ?_
  simp only [List.getElem_toArray, List.getElem_cons_zero, List.getElem_cons_succ]
  go_simp
  refine (KI.out r.di s.di V2).mono ?_
  rintro e V3 ⟨rfl, hb⟩
  have hv3 := below_call hv2 hb
  refine ⟨regrown_of_below hv3, ?_⟩
  clear hb
  refine mix_bar rfl (by rfl) ?_
  simp only [List.getElem_toArray, List.getElem_cons_zero, List.getElem_cons_succ]
  go_simp
  refine (KI.out r.me s.me V3).mono ?_
  rintro e V4 ⟨rfl, hb⟩
  have hv4 := below_call hv3 hb
  refine ⟨regrown_of_below hv4, ?_⟩
  clear hb
  refine mix_bar rfl (by rfl) ?_
  simp only [List.getElem_toArray, List.getElem_cons_zero, List.getElem_cons_succ]
  go_simp
  refine (KI.out r.ta s.ta V4).mono ?_
  rintro e V5 ⟨rfl, hb⟩
  have hv5 := below_call hv4 hb
  refine ⟨regrown_of_below hv5, ?_⟩
  clear hb
  refine mix_bar rfl (by rfl) ?_
  simp only [List.getElem_toArray, List.getElem_cons_zero, List.getElem_cons_succ]
  go_simp
  refine (KI.out r.ho s.ho V5).mono ?_
  rintro e V6 ⟨rfl, hb⟩
  have hv6 := below_call hv5 hb
  refine ⟨regrown_of_below hv6, ?_⟩
  clear hb
  refine mix_bar rfl (by rfl) ?_
  simp only [List.getElem_toArray, List.getElem_cons_zero, List.getElem_cons_succ]
  go_simp
  refine (KS.out r.nm s.nm V6).mono ?_
  rintro e V7 ⟨rfl, hb⟩
  have hv7 := below_call hv6 hb
  refine ⟨regrown_of_below hv7, ?_⟩
  clear hb
  refine mix_take [74, 75, 76, 77, 80, 81, 82, 83, 84] [_, _, _, _, _, _, _, _, _] rfl rfl ?_
  simp only [List.getElem_toArray, List.getElem_cons_zero, List.getElem_cons_succ]
  repeat (go_big_quiet_step (fail))
  refine wpQuiet_nil ?_
  refine mix_bar rfl (by rfl) ?_
  simp only [List.getElem_toArray, List.getElem_cons_zero, List.getElem_cons_succ]
  go_simp
  refine (KB.out true true V7).mono ?_
  rintro e V8 ⟨rfl, hb⟩
  have hv8 := below_call hv7 hb
  refine ⟨regrown_of_below hv8, ?_⟩
  clear hb
  refine mix_bar rfl (by rfl) ?_
  simp only [List.getElem_toArray, List.getElem_cons_zero, List.getElem_cons_succ]
  go_simp
  have hg := heap_alloc_new V8 (.cells #[.int .i64 (firstNZ [cmpI r.a s.a, cmpI r.m s.m]), .int .i64 (cmpI r.fr s.fr), .int .i64 (cmpI r.di s.di), .int .i64 (cmpI r.me s.me), .int .i64 (cmpI r.ta s.ta), .int .i64 (cmpI r.ho s.ho), .int .i64 (cmpSt r.nm s.nm), .int .i64 (cmpB true true)] 3)
  have hv9 := hv8.alloc hv8.size (.cells #[.int .i64 (firstNZ [cmpI r.a s.a, cmpI r.m s.m]), .int .i64 (cmpI r.fr s.fr), .int .i64 (cmpI r.di s.di), .int .i64 (cmpI r.me s.me), .int .i64 (cmpI r.ta s.ta), .int .i64 (cmpI r.ho s.ho), .int .i64 (cmpSt r.nm s.nm), .int .i64 (cmpB true true)] 3)
  refine ⟨regrown_of_below hv9, ?_⟩
  generalize V8.alloc (.cells #[.int .i64 (firstNZ [cmpI r.a s.a, cmpI r.m s.m]), .int .i64 (cmpI r.fr s.fr), .int .i64 (cmpI r.di s.di), .int .i64 (cmpI r.me s.me), .int .i64 (cmpI r.ta s.ta), .int .i64 (cmpI r.ho s.ho), .int .i64 (cmpSt r.nm s.nm), .int .i64 (cmpB true true)] 3) = V9 at *
  refine mix_bar rfl (by rfl) ?_
  simp only [List.getElem_toArray, List.getElem_cons_zero, List.getElem_cons_succ]
  go_simp
  refine (KF.out [firstNZ [cmpI r.a s.a, cmpI r.m s.m], cmpI r.fr s.fr, cmpI r.di s.di, cmpI r.me s.me, cmpI r.ta s.ta, cmpI r.ho s.ho, cmpSt r.nm s.nm, cmpB true true] _ V9 (Rd.of_blk (cs := #[.int .i64 (firstNZ [cmpI r.a s.a, cmpI r.m s.m]), .int .i64 (cmpI r.fr s.fr), .int .i64 (cmpI r.di s.di), .int .i64 (cmpI r.me s.me), .int .i64 (cmpI r.ta s.ta), .int .i64 (cmpI r.ho s.ho), .int .i64 (cmpSt r.nm s.nm), .int .i64 (cmpB true true)]) (t := 3) hg (Nat.le_refl _) rfl) (by simp)).mono ?_
  rintro e V10 ⟨rfl, hb⟩
  have hv10 := below_call hv9 hb
  refine ⟨regrown_of_below hv10, ?_⟩
  clear hb
  refine mix_take [88] [_] rfl rfl ?_
  simp only [List.getElem_toArray, List.getElem_cons_zero, List.getElem_cons_succ]
  repeat (go_big_quiet_step (fail))
  refine wpQuiet_nil ?_
  refine mix_end ?_
  go_wp2
  go_ret
  exact ⟨rfl, below_call hb0 hv10⟩
theorem refRcmp_any (r s : RouteV) (w : World) : Calls Try.prog 12 #[.agg r.enc.toArray, .agg s.enc.toArray] w fun e w' => e = .returned (.int .i64 (cmpR r s)) ∧ Below w.heap.size w w' := by
  obtain ⟨a, m, fr, di, me, ta, nm, ho, dc⟩ := r
  obtain ⟨a', m', fr', di', me', ta', nm', ho', dc'⟩ := s
  cases dc <;> cases dc'
  · exact refRcmp_false_false ⟨a, m, fr, di, me, ta, nm, ho, false⟩ ⟨a', m', fr', di', me', ta', nm', ho', false⟩ w
  · exact refRcmp_false_true ⟨a, m, fr, di, me, ta, nm, ho, false⟩ ⟨a', m', fr', di', me', ta', nm', ho', true⟩ w
  · exact refRcmp_true_false ⟨a, m, fr, di, me, ta, nm, ho, true⟩ ⟨a', m', fr', di', me', ta', nm', ho', false⟩ w
  · exact refRcmp_true_true ⟨a, m, fr, di, me, ta, nm, ho, true⟩ ⟨a', m', fr', di', me', ta', nm', ho', true⟩ w
end Go.Proofs.Ytlhafehhkjjchaa

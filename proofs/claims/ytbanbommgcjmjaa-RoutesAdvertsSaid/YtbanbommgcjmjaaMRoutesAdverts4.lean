/-
  Joined texts: Ro3, Ra1.
-/
import Derived.Test.YtbanbommgcjmjaaMRoutesAdverts2
import Derived.Test.YtbanbommgcjmjaaMRoutesAdverts3
import Derived.Lib.QuietBelow
/-
  The document's Cmp of routes (written by wip/gen/genro3.py).
-/
namespace Go.Proofs.Ytbanbommgcjmjaa
open Go Go.RowKit Go.Sort

theorem oneI_any (x y : Int) (w : World) : Calls Try.prog 31 #[.bool (decide (x < y)), .bool (decide (y < x))] w fun e w' => e = .returned (.int .i64 (cmpI x y)) ∧ w = w' :=
  (one_any _ _ w).mono fun e w' ⟨he, hw⟩ => ⟨by rw [he]; unfold cmpI; by_cases h1 : x < y <;> by_cases h2 : y < x <;> simp [h1, h2], hw⟩
theorem oneB_any (p q : Bool) (w : World) : Calls Try.prog 31 #[.bool (!p && q), .bool (p && !q)] w fun e w' => e = .returned (.int .i64 (cmpB p q)) ∧ w = w' :=
  (one_any _ _ w).mono fun e w' ⟨he, hw⟩ => ⟨by rw [he]; cases p <;> cases q <;> rfl, hw⟩
set_option maxRecDepth 100000 in
set_option maxHeartbeats 4000000 in
theorem refPrefix08_any (a b m n : Int) (w : World) :
    Calls Try.prog 30 #[.agg #[.int .u32 a, .int .i64 m], .agg #[.int .u32 b, .int .i64 n]] w fun e w' => e = .returned (.int .i64 (firstNZ [cmpI a b, cmpI m n])) ∧ GR w w' := by
  have hBX : GR w ((w.alloc (.cells #[.int .u32 a, .int .i64 m] 26)).alloc (.cells #[.int .u32 b, .int .i64 n] 26)) := ((GR.refl w).alloc _).alloc _
  have HB := Lib.hid hBX
  clear hBX
  go_enter Try.func30, Try.ntmps30
  go_wp2
  obtain ⟨k0, k1⟩ := blk2 w (.cells #[.int .u32 a, .int .i64 m] 26) (.cells #[.int .u32 b, .int .i64 n] 26)
  obtain ⟨c0, c1, _, _⟩ := two_cells k0
  obtain ⟨c2, c3, _, _⟩ := two_cells k1
  have hsz := lt_of_block k1
  clear k0 k1
  generalize (w.alloc (.cells #[.int .u32 a, .int .i64 m] 26)).alloc (.cells #[.int .u32 b, .int .i64 n] 26) = W at *
  go_region_held3 (fun w' => w'.cell? ⟨w.heap.size, 0, none⟩ = some (.int .u32 a) ∧ w'.cell? ⟨w.heap.size, 1, none⟩ = some (.int .i64 m) ∧ w'.cell? ⟨w.heap.size + 1, 0, none⟩ = some (.int .u32 b) ∧ w'.cell? ⟨w.heap.size + 1, 1, none⟩ = some (.int .i64 n)) (go_keep)
    (first | (go_at_call 31; refine (oneI_any a b _).mono ?_; rintro e w' ⟨rfl, rfl⟩) | (go_at_call 31; refine (oneI_any m n _).mono ?_; rintro e w' ⟨rfl, rfl⟩) | (go_at_call 29; refine (first_any [cmpI a b, cmpI m n] _ _ (Rd.of_blk (cs := #[.int .i64 (cmpI a b), .int .i64 (cmpI m n)]) (t := 3) (heap_drew (heap_alloc_new _ _)) (Nat.le_refl _) rfl) (by simp)).mono ?_; rintro e w' ⟨rfl, rfl⟩))
  all_goals go_wp2
  go_ret
  exact ⟨rfl, (HB.out.alloc _).drew⟩
theorem oneI_b (x y : Int) (w : World) : Calls Try.prog 31 #[.bool (decide (x < y)), .bool (decide (y < x))] w fun e w' => e = .returned (.int .i64 (cmpI x y)) ∧ Below w.heap.size w w' := (oneI_any x y w).mono fun _ _ ⟨he, hw⟩ => ⟨he, by rw [hw]; exact Below.refl _ _⟩
theorem oneB_b (p q : Bool) (w : World) : Calls Try.prog 31 #[.bool (!p && q), .bool (p && !q)] w fun e w' => e = .returned (.int .i64 (cmpB p q)) ∧ Below w.heap.size w w' := (oneB_any p q w).mono fun _ _ ⟨he, hw⟩ => ⟨he, by rw [hw]; exact Below.refl _ _⟩
theorem refPrefix08_b (a b m n : Int) (w : World) : Calls Try.prog 30 #[.agg #[.int .u32 a, .int .i64 m], .agg #[.int .u32 b, .int .i64 n]] w fun e w' => e = .returned (.int .i64 (firstNZ [cmpI a b, cmpI m n])) ∧ Below w.heap.size w w' := (refPrefix08_any a b m n w).mono fun _ _ ⟨he, hw⟩ => ⟨he, hw.below⟩
theorem first_b (l : List Int) (v : Value) (w : World) (h : Rd w w.heap.size 1 v l.length (l.map (Value.int .i64))) (hlen : l.length ≤ 4294967296) :
    Calls Try.prog 29 #[v] w fun e w' => e = .returned (.int .i64 (firstNZ l)) ∧ Below w.heap.size w w' := (first_any l v w h hlen).mono fun _ _ ⟨he, hw⟩ => ⟨he, by rw [hw]; exact Below.refl _ _⟩
/-- What the operations of Cmp's region wait for, write and look at. -/
def rows70 : List ORow := [(0, 32, 4, true), (1, 64, 32, true), (0, 128, 8, true), (4, 256, 128, true), (10, 512, 320, false), (0, 1024, 4, true), (32, 2048, 1024, true), (0, 4096, 8, true), (128, 8192, 4096, true), (320, 16384, 10240, true), (0, 32768, 4, true), (1024, 65536, 32768, true), (0, 131072, 8, true), (4096, 262144, 131072, true), (10240, 524288, 327680, true), (16912, 1048576, 540672, false), (0, 2097152, 4, true), (65536, 4194304, 2097152, true), (0, 8388608, 8, true), (262144, 16777216, 8388608, true), (655360, 33554432, 20971520, true), (0, 67108864, 4, true), (2097152, 134217728, 67108864, true), (0, 268435456, 8, true), (8388608, 536870912, 268435456, true), (20971520, 1073741824, 671088640, true), (34635776, 2147483648, 1107296256, false), (0, 4294967296, 4, true), (134217728, 8589934592, 4294967296, true), (0, 17179869184, 8, true), (536870912, 34359738368, 17179869184, true), (1342177280, 68719476736, 42949672960, true), (0, 137438953472, 4, true), (4294967296, 274877906944, 137438953472, true), (0, 549755813888, 8, true), (17179869184, 1099511627776, 549755813888, true), (42949672960, 2199023255552, 1374389534720, true), (70934069248, 4398046511104, 2267742732288, false), (0, 8796093022208, 4, true), (274877906944, 17592186044416, 8796093022208, true), (0, 35184372088832, 8, true), (1099511627776, 70368744177664, 35184372088832, true), (2748779069440, 140737488355328, 87960930222080, true), (0, 281474976710656, 4, true), (8796093022208, 562949953421312, 281474976710656, true), (0, 1125899906842624, 8, true), (35184372088832, 2251799813685248, 1125899906842624, true), (87960930222080, 4503599627370496, 2814749767106560, true), (145272973819904, 9007199254740992, 4644337115725824, false), (0, 18014398509481984, 4, true), (562949953421312, 36028797018963968, 18014398509481984, true), (0, 72057594037927936, 8, true), (2251799813685248, 144115188075855872, 72057594037927936, true), (5629499534213120, 288230376151711744, 180143985094819840, true), (0, 576460752303423488, 4, true), (18014398509481984, 1152921504606846976, 576460752303423488, true), (0, 2305843009213693952, 8, true), (72057594037927936, 4611686018427387904, 2305843009213693952, true), (180143985094819840, 9223372036854775808, 5764607523034234880, true), (297519050383163392, 18446744073709551616, 9511602413006487552, false), (0, 36893488147419103232, 4, true), (1152921504606846976, 73786976294838206464, 36893488147419103232, true), (0, 147573952589676412928, 8, true), (4611686018427387904, 295147905179352825856, 147573952589676412928, true), (11529215046068469760, 590295810358705651712, 368934881474191032320, true), (0, 1180591620717411303424, 4, true), (36893488147419103232, 2361183241434822606848, 1180591620717411303424, true), (0, 4722366482869645213696, 8, true), (147573952589676412928, 9444732965739290427392, 4722366482869645213696, true), (368934881474191032320, 18889465931478580854784, 11805916207174113034240, true), (609319015184718626816, 37778931862957161709568, 19479761741837286506496, false), (0, 75557863725914323419136, 4, true), (2361183241434822606848, 151115727451828646838272, 75557863725914323419136, true), (4722366482869645213696, 302231454903657293676544, 151115727451828646838272, true), (10625324586456701730816, 604462909807314587353088, 302231454903657293676544, true), (18889465931478580854784, 1208925819614629174706176, 604462909807314587353096, true), (56668397794435742564352, 2417851639229258349412352, 1813388729421943762059264, true), (94447329657392904273920, 4835703278458516698824704, 3022314549036572936765440, true), (0, 9671406556917033397649408, 4, true), (302231454903657293676544, 19342813113834066795298816, 9671406556917033397649408, true), (623352375738793168207872, 38685626227668133590597632, 19342813113834066795298816, true), (1208925819614629174706176, 77371252455336267181195264, 38685626227668133590597640, true), (3626777458843887524118528, 154742504910672534362390528, 116056878683004400771792896, true), (6044629098073145873530880, 309485009821345068724781056, 193428131138340667952988160, true), (10880332376531662572355584, 618970019642690137449562112, 348170636049013202315378688, true), (20702854660900524616843264, 1237940039285380274899124224, 623805722921148654148386816, false), (38686807396031215788130320, 2475880078570760549798248448, 1237977836672998905220170240, false), (116056878683004400771792896, 4951760157141521099596496896, 2475880078570760549798248448, false), (309485009821345068724781055, 16, 4951760157141521099596496896, true)]
end Go.Proofs.Ytbanbommgcjmjaa

/-
  The document's order of lists of numbers, at any two.
-/
namespace Go.Proofs.Ytbanbommgcjmjaa
open Go Go.RowKit Go.Lib Go.Sort

theorem refOneT_any (x y : Int) (h : x ≠ y) (w : World) : Calls Try.prog 31 #[.bool (decide (x < y)), .bool true] w fun e w' => e = .returned (.int .i64 (cmpI x y)) ∧ w = w' :=
  (one_any _ _ w).mono fun e w' ⟨he, hw⟩ => ⟨by rw [he]; unfold cmpI; by_cases h1 : x < y <;> by_cases h2 : y < x <;> simp [h1, h2] <;> omega, hw⟩
set_option maxRecDepth 100000 in
set_option maxHeartbeats 4000000 in
theorem refNums_any (l m : List Int) (u v : Value) (w : World) (hu : Rd w w.heap.size 1 u l.length (l.map (Value.int .u32))) (hv : Rd w w.heap.size 1 v m.length (m.map (Value.int .u32))) (hlen : l.length ≤ 9223372036854775806) (hlem : m.length ≤ 9223372036854775806) :
    Calls Try.prog 41 #[u, v] w fun e w' => e = .returned (.int .i64 (cmpNs l m)) ∧ Below w.heap.size w w' := by
  obtain ⟨A, c, rfl, hc⟩ := hu.form
  obtain ⟨A', c', rfl, hc'⟩ := hv.form
  have HU := Lib.hid hu
  have HV := Lib.hid hv
  clear hu hv
  go_enter Try.func41, Try.ntmps41
  go_wp2
  go_loopw [5] (fun i wr => ∃ k : Nat, i = .int .i64 k ∧ k ≤ l.length ∧ k ≤ m.length ∧ Hid (cmpNs l m = cmpNs (l.drop k) (m.drop k)) ∧ Hid (Below w.heap.size w wr)) (fun i _ => l.length - (intOf i).toNat)
  case atStart => exact ⟨0, rfl, by omega, by omega, Lib.hid rfl, Lib.hid (Below.refl _ _)⟩
  case round =>
    obtain ⟨k, rfl, hk, hkm, HE, hbw⟩ := hrel
    by_cases hlt : k < l.length
    · have hI : (k : Int) < (l.length : Int) := by omega
      by_cases hlm : k < m.length
      · have hJ : (k : Int) < (m.length : Int) := by omega
        obtain ⟨x, hx⟩ : ∃ x, l[k]? = some x := ⟨_, List.getElem?_eq_getElem hlt⟩
        obtain ⟨y, hy⟩ : ∃ y, m[k]? = some y := ⟨_, List.getElem?_eq_getElem hlm⟩
        obtain ⟨b, off, d, hv, _, _, hcell⟩ := (HU.out.below hbw.out).posAt (by omega)
        injection hv with hv1 _ hv3
        subst hv1 hv3
        obtain ⟨b', off', d', hv', _, _, hcell'⟩ := (HV.out.below hbw.out).posAt (by omega)
        injection hv' with hv1' _ hv3'
        subst hv1' hv3'
        have c0 : wr.cell? ⟨b, off + k, none⟩ = some (.int .u32 x) := by
          have := hcell k 0 (.int .u32 x) (by simp [hx])
          rwa [Nat.mul_one, Nat.add_zero] at this
        have c1 : wr.cell? ⟨b', off' + k, none⟩ = some (.int .u32 y) := by
          have := hcell' k 0 (.int .u32 y) (by simp [hy])
          rwa [Nat.mul_one, Nat.add_zero] at this
        have HX := Lib.hid (And.intro hx hy)
        clear hcell hcell' hx hy
        by_cases hxy : x = y
        · subst hxy
          have hxx : (x != x) = false := bne_self_eq_false x
          have HE2 := Lib.hid (HE.out.trans (cmpNs_step HX.out.1 HX.out.2))
          go_upto_region 4 with fail
          have F0 := cell_regrown c0
          have F1 := cell_regrown c1
          refine wp_region_quiet_below (by kernel_rfl) (by kernel_rfl) ?_
          repeat (first | go_big_quiet_step (fail) | quiet_step (fail))
          refine wpQuiet_nil ?_
          intro _ hw'
          obtain ⟨⟨nq, osq⟩, hw''⟩ := hw'
          subst hw''
          have hbr := below_regrown wr nq osq
          go_wp2
          exact ⟨⟨k + 1, by go_num, by omega, by omega, HE2, Lib.hid (below_call hbw.out hbr)⟩, by simp only [intOf]; omega⟩
        · have hxx : (x != y) = true := by simpa using hxy
          have HE2 := Lib.hid (HE.out.trans (cmpNs_at HX.out.1 HX.out.2 hxy))
          have HNE := Lib.hid hxy
          clear hxy
          go_upto_region 4 with fail
          have F0 := cell_regrown c0
          have F1 := cell_regrown c1
          refine wp_region_quiet_below (by kernel_rfl) (by kernel_rfl) ?_
          repeat (first | go_big_quiet_step (fail) | quiet_step (fail))
          refine wpQuiet_nil ?_
          intro W2 hw'
          obtain ⟨⟨nq, osq⟩, hw''⟩ := hw'
          have hb2 := hw'' ▸ below_regrown wr nq osq
          have c2 := F0 nq osq
          have c3 := F1 nq osq
          rw [← hw''] at c2 c3
          clear F0 F1 hw'' c0 c1
          go_upto_region 5 with fail
          have F0 := cell_regrown c2
          have F1 := cell_regrown c3
          have HONE := Lib.hid (fun W => refOneT_any x y HNE.out W)
          refine wp_region_tail_below 10 (by kernel_rfl) (by kernel_rfl) ?_
          simp only [List.take_succ_cons, List.take_zero, List.drop_succ_cons, List.drop_zero]
          repeat (first | go_big_quiet_step (first | (go_at_call 31; with_reducible exact Calls.regrown_of (cbOf (HONE.out _)))) | quiet_step (fail))
          refine wpQuiet_nil ?_
          intro W3 hw3
          obtain ⟨⟨nq3, osq3⟩, hw4⟩ := hw3
          have hb3 := hw4 ▸ below_regrown W2 nq3 osq3
          clear hw4 F0 F1 c2 c3
          go_wp2
          go_ret
          exact ⟨ret_int HE2.out.symm, below_call (below_call hbw.out hb2) hb3⟩
      · have hJ : ¬ (k : Int) < (m.length : Int) := by omega
        obtain rfl : k = m.length := by omega
        have HE2 := Lib.hid (HE.out.trans (cmpNs_long hlt (Nat.le_refl _)))
        have e1 : ¬ (l.length : Int) < (m.length : Int) := by omega
        have e2 : (l.length : Int) > (m.length : Int) := by omega
        have e3 : (m.length : Int) < (l.length : Int) := by omega
        have HONE := Lib.hid (fun W => cbOf (one_any false true W))
        go_wp2_with ((with_reducible refine (HONE.out _).mono ?_); rintro e wz ⟨rfl, hb⟩; have HBZ := Lib.hid (below_call hbw.out hb); clear hb)
        go_ret
        exact ⟨ret_int HE2.out.symm, HBZ.out⟩
    · obtain rfl : k = l.length := by omega
      have hI : ¬ (l.length : Int) < (l.length : Int) := by omega
      by_cases h : l.length < m.length
      · have e1 : (l.length : Int) < (m.length : Int) := by omega
        have e2 : ¬ (l.length : Int) > (m.length : Int) := by omega
        have HE2 := Lib.hid (HE.out.trans (cmpNs_short h))
        have HONE := Lib.hid (fun W => cbOf (one_any true false W))
        go_wp2_with ((with_reducible refine (HONE.out _).mono ?_); rintro e wz ⟨rfl, hb⟩; have HBZ := Lib.hid (below_call hbw.out hb); clear hb)
        go_ret
        exact ⟨ret_int HE2.out.symm, HBZ.out⟩
      · have e1 : ¬ (l.length : Int) < (m.length : Int) := by omega
        have e2 : ¬ (l.length : Int) > (m.length : Int) := by omega
        have HE2 := Lib.hid (HE.out.trans (cmpNs_done h))
        have HONE := Lib.hid (fun W => cbOf (one_any false false W))
        go_wp2_with ((with_reducible refine (HONE.out _).mono ?_); rintro e wz ⟨rfl, hb⟩; have HBZ := Lib.hid (below_call hbw.out hb); clear hb)
        go_ret
        exact ⟨ret_int HE2.out.symm, HBZ.out⟩
end Go.Proofs.Ytbanbommgcjmjaa

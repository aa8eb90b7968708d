/-
  The walk of the law AddrPrefixes (written by wip/genlawpre.py).
-/
import Derived.Test.YtpljnogmfeenkaaAddr9
namespace Go.Proofs.Ytpljnogmfeenkaa
open Go Go.RowKit Go.Sort

set_option maxRecDepth 100000 in
set_option maxHeartbeats 4000000 in
theorem lawPre_any (x a n b m k : Int) (w : World) (hx0 : 0 ≤ x) (hx1 : x < 4294967296) (h0 : 0 ≤ a) (h1 : a < 4294967296) (h2 : 0 ≤ b) (h3 : b < 4294967296) :
    Calls Try.prog 5 #[.int .u32 x, .agg #[.int .u32 a, .int .i64 n], .agg #[.int .u32 b, .int .i64 m], .int .i64 k] w fun e w' => e = .returned (.bool true) ∧ Below w.heap.size w w' := by
  go_enter Try.func5, Try.ntmps5
  go_wp2_with fail
  refine (addrMask_any k _).mono ?_
  rintro e w' ⟨rfl, rfl⟩
  go_wp2_with fail
  refine (refMask_any k _).mono ?_
  rintro e w' ⟨rfl, rfl⟩
  go_wp2_with fail
  refine (addrBits_any x _ hx0 hx1).mono ?_
  rintro e w' ⟨rfl, rfl⟩
  go_wp2_with fail
  refine (refBits_any x _ hx0 hx1).mono ?_
  rintro e w' ⟨rfl, rfl⟩
  go_wp2_with fail
  refine (addrSubnet_any x k _ hx0 hx1).mono ?_
  rintro e w1 ⟨rfl, hb⟩
  obtain ⟨t1, t2⟩ := blk2 w (.cells #[.int .u32 a, .int .i64 n] 30) (.cells #[.int .u32 b, .int .i64 m] 30)
  have Jp := blk_below hb t1
  have Jq := blk_below hb t2
  clear t1 t2
  have hbw' := below_call (below2 w _ _) hb
  clear hb
  have hbw := hbw'
  clear hbw'
  obtain ⟨cpa, cpb, _, _⟩ := two_cells Jp
  have lp := lt_of_block Jp
  have np : w.heap.size ≠ w1.heap.size := by omega
  have Kp := Lib.hid Jp
  clear Jp
  obtain ⟨cqa, cqb, _, _⟩ := two_cells Jq
  have lq := lt_of_block Jq
  have nq : w.heap.size + 1 ≠ w1.heap.size := by omega
  have Kq := Lib.hid Jq
  clear Jq
  go_wp2_with fail
  refine (refSubnet_any x k _ hx0 hx1).mono ?_
  rintro e w2 ⟨rfl, hb⟩
  have Jp := blk_below hb ((Below.heap_alloc _ _ _ (by first | omega | (simp; omega))).trans Kp.out)
  have Jq := blk_below hb ((Below.heap_alloc _ _ _ (by first | omega | (simp; omega))).trans Kq.out)
  have Js := blk_below hb (blk1 w1 (.cells #[.int .u32 (subA x k), .int .i64 (subN k)] 30))
  have hbw' := below_call (hbw.alloc hbw.size _) hb
  clear cpa cpb Kp lp np cqa cqb Kq lq nq hbw hb
  have hbw := hbw'
  clear hbw'
  obtain ⟨cpa, cpb, _, _⟩ := two_cells Jp
  have lp := lt_of_block Jp
  have np : w.heap.size ≠ w2.heap.size := by omega
  have Kp := Lib.hid Jp
  clear Jp
  obtain ⟨cqa, cqb, _, _⟩ := two_cells Jq
  have lq := lt_of_block Jq
  have nq : w.heap.size + 1 ≠ w2.heap.size := by omega
  have Kq := Lib.hid Jq
  clear Jq
  obtain ⟨csa, csb, _, _⟩ := two_cells Js
  have ls := lt_of_block Js
  have ns : w1.heap.size ≠ w2.heap.size := by omega
  have Ks := Lib.hid Js
  clear Js
  go_wp2_with fail
  refine (lawSame_any (subA x k) (subN k) _).mono ?_
  rintro e w3 ⟨rfl, hb⟩
  have Jp := blk_below hb ((Below.heap_alloc _ _ _ (by first | omega | (simp; omega))).trans Kp.out)
  have Jq := blk_below hb ((Below.heap_alloc _ _ _ (by first | omega | (simp; omega))).trans Kq.out)
  have Js := blk_below hb ((Below.heap_alloc _ _ _ (by first | omega | (simp; omega))).trans Ks.out)
  have Jt := blk_below hb (blk1 w2 (.cells #[.int .u32 (subA x k), .int .i64 (subN k)] 30))
  have hbw' := below_call (hbw.alloc hbw.size _) hb
  clear cpa cpb Kp lp np cqa cqb Kq lq nq csa csb Ks ls ns hbw hb
  have hbw := hbw'
  clear hbw'
  obtain ⟨cpa, cpb, _, _⟩ := two_cells Jp
  have lp := lt_of_block Jp
  have np : w.heap.size ≠ w3.heap.size := by omega
  have Kp := Lib.hid Jp
  clear Jp
  obtain ⟨cqa, cqb, _, _⟩ := two_cells Jq
  have lq := lt_of_block Jq
  have nq : w.heap.size + 1 ≠ w3.heap.size := by omega
  have Kq := Lib.hid Jq
  clear Jq
  obtain ⟨csa, csb, _, _⟩ := two_cells Js
  have ls := lt_of_block Js
  have ns : w1.heap.size ≠ w3.heap.size := by omega
  have Ks := Lib.hid Js
  clear Js
  obtain ⟨cta, ctb, _, _⟩ := two_cells Jt
  have lt := lt_of_block Jt
  have nt : w2.heap.size ≠ w3.heap.size := by omega
  have Kt := Lib.hid Jt
  clear Jt
  clear csa csb Ks ns
  clear cta ctb Kt nt
  go_wp2_with fail
  refine (addrEnds_any a n _ h0 h1).mono ?_
  rintro e w4 ⟨rfl, hb⟩
  have Jp := blk_below hb Kp.out
  have Jq := blk_below hb Kq.out
  have hbw' := below_call hbw hb
  clear cpa cpb Kp lp np cqa cqb Kq lq nq hbw hb
  have hbw := hbw'
  clear hbw'
  obtain ⟨cpa, cpb, _, _⟩ := two_cells Jp
  have lp := lt_of_block Jp
  have np : w.heap.size ≠ w4.heap.size := by omega
  have Kp := Lib.hid Jp
  clear Jp
  obtain ⟨cqa, cqb, _, _⟩ := two_cells Jq
  have lq := lt_of_block Jq
  have nq : w.heap.size + 1 ≠ w4.heap.size := by omega
  have Kq := Lib.hid Jq
  clear Jq
  go_wp2_with fail
  refine (refEnds_any a n _ h0 h1).mono ?_
  rintro e w5 ⟨rfl, hb⟩
  have Jp := blk_below hb Kp.out
  have Jq := blk_below hb Kq.out
  have hbw' := below_call hbw hb
  clear cpa cpb Kp lp np cqa cqb Kq lq nq hbw hb
  have hbw := hbw'
  clear hbw'
  obtain ⟨cpa, cpb, _, _⟩ := two_cells Jp
  have lp := lt_of_block Jp
  have np : w.heap.size ≠ w5.heap.size := by omega
  have Kp := Lib.hid Jp
  clear Jp
  obtain ⟨cqa, cqb, _, _⟩ := two_cells Jq
  have lq := lt_of_block Jq
  have nq : w.heap.size + 1 ≠ w5.heap.size := by omega
  have Kq := Lib.hid Jq
  clear Jq
  go_wp2_with fail
  refine (addrHalves_any a n _ h0 h1).mono ?_
  rintro e w6 ⟨rfl, hb⟩
  have Jp := blk_below hb Kp.out
  have Jq := blk_below hb Kq.out
  have hbw' := below_call hbw hb
  clear cpa cpb Kp lp np cqa cqb Kq lq nq hbw hb
  have hbw := hbw'
  clear hbw'
  obtain ⟨cpa, cpb, _, _⟩ := two_cells Jp
  have lp := lt_of_block Jp
  have np : w.heap.size ≠ w6.heap.size := by omega
  have Kp := Lib.hid Jp
  clear Jp
  obtain ⟨cqa, cqb, _, _⟩ := two_cells Jq
  have lq := lt_of_block Jq
  have nq : w.heap.size + 1 ≠ w6.heap.size := by omega
  have Kq := Lib.hid Jq
  clear Jq
  go_wp2_with fail
  refine (refHalves_any a n _ h0 h1).mono ?_
  rintro e w7 ⟨rfl, hb⟩
  have Jp := blk_below hb ((Below.heap_alloc _ _ _ (by first | omega | (simp; omega))).trans ((Below.heap_alloc _ _ _ (by first | omega | (simp; omega))).trans Kp.out))
  have Jq := blk_below hb ((Below.heap_alloc _ _ _ (by first | omega | (simp; omega))).trans ((Below.heap_alloc _ _ _ (by first | omega | (simp; omega))).trans Kq.out))
  obtain ⟨t1, t2⟩ := blk2 w6 (.cells #[.int .u32 (halfL a n), .int .i64 (halfN a n)] 30) (.cells #[.int .u32 (halfH a n), .int .i64 (halfN a n)] 30)
  have Jy := blk_below hb t1
  have Jz := blk_below hb t2
  clear t1 t2
  have hbw' := below_call ((hbw.alloc hbw.size _).alloc (by have := hbw.size; simp; omega) _) hb
  clear cpa cpb Kp lp np cqa cqb Kq lq nq hbw hb
  have hbw := hbw'
  clear hbw'
  obtain ⟨cpa, cpb, _, _⟩ := two_cells Jp
  have lp := lt_of_block Jp
  have np : w.heap.size ≠ w7.heap.size := by omega
  have Kp := Lib.hid Jp
  clear Jp
  obtain ⟨cqa, cqb, _, _⟩ := two_cells Jq
  have lq := lt_of_block Jq
  have nq : w.heap.size + 1 ≠ w7.heap.size := by omega
  have Kq := Lib.hid Jq
  clear Jq
  obtain ⟨cya, cyb, _, _⟩ := two_cells Jy
  have ly := lt_of_block Jy
  have ny : w6.heap.size ≠ w7.heap.size := by omega
  have Ky := Lib.hid Jy
  clear Jy
  obtain ⟨cza, czb, _, _⟩ := two_cells Jz
  have lz := lt_of_block Jz
  have nz : w6.heap.size + 1 ≠ w7.heap.size := by omega
  have Kz := Lib.hid Jz
  clear Jz
  go_wp2_with fail
  refine (addrCommon_any a n b m _ h0 h1 h2 h3).mono ?_
  rintro e w8 ⟨rfl, hb⟩
  have Jp := blk_below hb ((Below.heap_alloc _ _ _ (by first | omega | (simp; omega))).trans ((Below.heap_alloc _ _ _ (by first | omega | (simp; omega))).trans Kp.out))
  have Jq := blk_below hb ((Below.heap_alloc _ _ _ (by first | omega | (simp; omega))).trans ((Below.heap_alloc _ _ _ (by first | omega | (simp; omega))).trans Kq.out))
  have Jy := blk_below hb ((Below.heap_alloc _ _ _ (by first | omega | (simp; omega))).trans ((Below.heap_alloc _ _ _ (by first | omega | (simp; omega))).trans Ky.out))
  have Jz := blk_below hb ((Below.heap_alloc _ _ _ (by first | omega | (simp; omega))).trans ((Below.heap_alloc _ _ _ (by first | omega | (simp; omega))).trans Kz.out))
  obtain ⟨t1, t2⟩ := blk2 w7 (.cells #[.int .u32 (halfL a n), .int .i64 (halfN a n)] 30) (.cells #[.int .u32 (halfH a n), .int .i64 (halfN a n)] 30)
  have Jo := blk_below hb t1
  have Jr := blk_below hb t2
  clear t1 t2
  have hbw' := below_call ((hbw.alloc hbw.size _).alloc (by have := hbw.size; simp; omega) _) hb
  clear cpa cpb Kp lp np cqa cqb Kq lq nq cya cyb Ky ly ny cza czb Kz lz nz hbw hb
  have hbw := hbw'
  clear hbw'
  obtain ⟨cpa, cpb, _, _⟩ := two_cells Jp
  have lp := lt_of_block Jp
  have np : w.heap.size ≠ w8.heap.size := by omega
  have Kp := Lib.hid Jp
  clear Jp
  obtain ⟨cqa, cqb, _, _⟩ := two_cells Jq
  have lq := lt_of_block Jq
  have nq : w.heap.size + 1 ≠ w8.heap.size := by omega
  have Kq := Lib.hid Jq
  clear Jq
  obtain ⟨cya, cyb, _, _⟩ := two_cells Jy
  have ly := lt_of_block Jy
  have ny : w6.heap.size ≠ w8.heap.size := by omega
  have Ky := Lib.hid Jy
  clear Jy
  obtain ⟨cza, czb, _, _⟩ := two_cells Jz
  have lz := lt_of_block Jz
  have nz : w6.heap.size + 1 ≠ w8.heap.size := by omega
  have Kz := Lib.hid Jz
  clear Jz
  obtain ⟨coa, cob, _, _⟩ := two_cells Jo
  have lo := lt_of_block Jo
  have no : w7.heap.size ≠ w8.heap.size := by omega
  have Ko := Lib.hid Jo
  clear Jo
  obtain ⟨cra, crb, _, _⟩ := two_cells Jr
  have lr := lt_of_block Jr
  have nr : w7.heap.size + 1 ≠ w8.heap.size := by omega
  have Kr := Lib.hid Jr
  clear Jr
  go_wp2_with fail
  refine (refCommon_any a n b m _ h0 h1 h2 h3).mono ?_
  rintro e w9 ⟨rfl, hb⟩
  have Jp := blk_below hb ((Below.heap_alloc _ _ _ (by first | omega | (simp; omega))).trans Kp.out)
  have Jq := blk_below hb ((Below.heap_alloc _ _ _ (by first | omega | (simp; omega))).trans Kq.out)
  have Jy := blk_below hb ((Below.heap_alloc _ _ _ (by first | omega | (simp; omega))).trans Ky.out)
  have Jz := blk_below hb ((Below.heap_alloc _ _ _ (by first | omega | (simp; omega))).trans Kz.out)
  have Jo := blk_below hb ((Below.heap_alloc _ _ _ (by first | omega | (simp; omega))).trans Ko.out)
  have Jr := blk_below hb ((Below.heap_alloc _ _ _ (by first | omega | (simp; omega))).trans Kr.out)
  have Jd := blk_below hb (blk1 w8 (.cells #[.int .u32 (comA a n b m), .int .i64 (comB a n b m)] 30))
  have hbw' := below_call (hbw.alloc hbw.size _) hb
  clear cpa cpb Kp lp np cqa cqb Kq lq nq cya cyb Ky ly ny cza czb Kz lz nz coa cob Ko lo no cra crb Kr lr nr hbw hb
  have hbw := hbw'
  clear hbw'
  obtain ⟨cpa, cpb, _, _⟩ := two_cells Jp
  have lp := lt_of_block Jp
  have np : w.heap.size ≠ w9.heap.size := by omega
  have Kp := Lib.hid Jp
  clear Jp
  obtain ⟨cqa, cqb, _, _⟩ := two_cells Jq
  have lq := lt_of_block Jq
  have nq : w.heap.size + 1 ≠ w9.heap.size := by omega
  have Kq := Lib.hid Jq
  clear Jq
  obtain ⟨cya, cyb, _, _⟩ := two_cells Jy
  have ly := lt_of_block Jy
  have ny : w6.heap.size ≠ w9.heap.size := by omega
  have Ky := Lib.hid Jy
  clear Jy
  obtain ⟨cza, czb, _, _⟩ := two_cells Jz
  have lz := lt_of_block Jz
  have nz : w6.heap.size + 1 ≠ w9.heap.size := by omega
  have Kz := Lib.hid Jz
  clear Jz
  obtain ⟨coa, cob, _, _⟩ := two_cells Jo
  have lo := lt_of_block Jo
  have no : w7.heap.size ≠ w9.heap.size := by omega
  have Ko := Lib.hid Jo
  clear Jo
  obtain ⟨cra, crb, _, _⟩ := two_cells Jr
  have lr := lt_of_block Jr
  have nr : w7.heap.size + 1 ≠ w9.heap.size := by omega
  have Kr := Lib.hid Jr
  clear Jr
  obtain ⟨cda, cdb, _, _⟩ := two_cells Jd
  have ld := lt_of_block Jd
  have nd : w8.heap.size ≠ w9.heap.size := by omega
  have Kd := Lib.hid Jd
  clear Jd
  go_wp2_with fail
  refine (lawSame_any (halfL a n) (halfN a n) _).mono ?_
  rintro e wA ⟨rfl, hb⟩
  have Jp := blk_below hb ((Below.heap_alloc _ _ _ (by first | omega | (simp; omega))).trans Kp.out)
  have Jq := blk_below hb ((Below.heap_alloc _ _ _ (by first | omega | (simp; omega))).trans Kq.out)
  have Jy := blk_below hb ((Below.heap_alloc _ _ _ (by first | omega | (simp; omega))).trans Ky.out)
  have Jz := blk_below hb ((Below.heap_alloc _ _ _ (by first | omega | (simp; omega))).trans Kz.out)
  have Jo := blk_below hb ((Below.heap_alloc _ _ _ (by first | omega | (simp; omega))).trans Ko.out)
  have Jr := blk_below hb ((Below.heap_alloc _ _ _ (by first | omega | (simp; omega))).trans Kr.out)
  have Jd := blk_below hb ((Below.heap_alloc _ _ _ (by first | omega | (simp; omega))).trans Kd.out)
  have Jl := blk_below hb (blk1 w9 (.cells #[.int .u32 (comA a n b m), .int .i64 (comB a n b m)] 30))
  have hbw' := below_call (hbw.alloc hbw.size _) hb
  clear cpa cpb Kp lp np cqa cqb Kq lq nq cya cyb Ky ly ny cza czb Kz lz nz coa cob Ko lo no cra crb Kr lr nr cda cdb Kd ld nd hbw hb
  have hbw := hbw'
  clear hbw'
  obtain ⟨cpa, cpb, _, _⟩ := two_cells Jp
  have lp := lt_of_block Jp
  have np : w.heap.size ≠ wA.heap.size := by omega
  have Kp := Lib.hid Jp
  clear Jp
  obtain ⟨cqa, cqb, _, _⟩ := two_cells Jq
  have lq := lt_of_block Jq
  have nq : w.heap.size + 1 ≠ wA.heap.size := by omega
  have Kq := Lib.hid Jq
  clear Jq
  obtain ⟨cya, cyb, _, _⟩ := two_cells Jy
  have ly := lt_of_block Jy
  have ny : w6.heap.size ≠ wA.heap.size := by omega
  have Ky := Lib.hid Jy
  clear Jy
  obtain ⟨cza, czb, _, _⟩ := two_cells Jz
  have lz := lt_of_block Jz
  have nz : w6.heap.size + 1 ≠ wA.heap.size := by omega
  have Kz := Lib.hid Jz
  clear Jz
  obtain ⟨coa, cob, _, _⟩ := two_cells Jo
  have lo := lt_of_block Jo
  have no : w7.heap.size ≠ wA.heap.size := by omega
  have Ko := Lib.hid Jo
  clear Jo
  obtain ⟨cra, crb, _, _⟩ := two_cells Jr
  have lr := lt_of_block Jr
  have nr : w7.heap.size + 1 ≠ wA.heap.size := by omega
  have Kr := Lib.hid Jr
  clear Jr
  obtain ⟨cda, cdb, _, _⟩ := two_cells Jd
  have ld := lt_of_block Jd
  have nd : w8.heap.size ≠ wA.heap.size := by omega
  have Kd := Lib.hid Jd
  clear Jd
  obtain ⟨cla, clb, _, _⟩ := two_cells Jl
  have ll := lt_of_block Jl
  have nl : w9.heap.size ≠ wA.heap.size := by omega
  have Kl := Lib.hid Jl
  clear Jl
  go_wp2_with fail
  refine (lawSame_any (halfH a n) (halfN a n) _).mono ?_
  rintro e wB ⟨rfl, hb⟩
  have Jp := blk_below hb Kp.out
  have Jq := blk_below hb Kq.out
  have Jy := blk_below hb Ky.out
  have Jz := blk_below hb Kz.out
  have Jo := blk_below hb Ko.out
  have Jr := blk_below hb Kr.out
  have Jd := blk_below hb Kd.out
  have Jl := blk_below hb Kl.out
  have hbw' := below_call hbw hb
  clear cpa cpb Kp lp np cqa cqb Kq lq nq cya cyb Ky ly ny cza czb Kz lz nz coa cob Ko lo no cra crb Kr lr nr cda cdb Kd ld nd cla clb Kl ll nl hbw hb
  have hbw := hbw'
  clear hbw'
  obtain ⟨cpa, cpb, _, _⟩ := two_cells Jp
  have lp := lt_of_block Jp
  have np : w.heap.size ≠ wB.heap.size := by omega
  have Kp := Lib.hid Jp
  clear Jp
  obtain ⟨cqa, cqb, _, _⟩ := two_cells Jq
  have lq := lt_of_block Jq
  have nq : w.heap.size + 1 ≠ wB.heap.size := by omega
  have Kq := Lib.hid Jq
  clear Jq
  obtain ⟨cya, cyb, _, _⟩ := two_cells Jy
  have ly := lt_of_block Jy
  have ny : w6.heap.size ≠ wB.heap.size := by omega
  have Ky := Lib.hid Jy
  clear Jy
  obtain ⟨cza, czb, _, _⟩ := two_cells Jz
  have lz := lt_of_block Jz
  have nz : w6.heap.size + 1 ≠ wB.heap.size := by omega
  have Kz := Lib.hid Jz
  clear Jz
  obtain ⟨coa, cob, _, _⟩ := two_cells Jo
  have lo := lt_of_block Jo
  have no : w7.heap.size ≠ wB.heap.size := by omega
  have Ko := Lib.hid Jo
  clear Jo
  obtain ⟨cra, crb, _, _⟩ := two_cells Jr
  have lr := lt_of_block Jr
  have nr : w7.heap.size + 1 ≠ wB.heap.size := by omega
  have Kr := Lib.hid Jr
  clear Jr
  obtain ⟨cda, cdb, _, _⟩ := two_cells Jd
  have ld := lt_of_block Jd
  have nd : w8.heap.size ≠ wB.heap.size := by omega
  have Kd := Lib.hid Jd
  clear Jd
  obtain ⟨cla, clb, _, _⟩ := two_cells Jl
  have ll := lt_of_block Jl
  have nl : w9.heap.size ≠ wB.heap.size := by omega
  have Kl := Lib.hid Jl
  clear Jl
  go_wp2_with fail
  refine (lawSame_any (comA a n b m) (comB a n b m) _).mono ?_
  rintro e wC ⟨rfl, hb⟩
  have Jp := blk_below hb Kp.out
  have Jq := blk_below hb Kq.out
  have Jy := blk_below hb Ky.out
  have Jz := blk_below hb Kz.out
  have Jo := blk_below hb Ko.out
  have Jr := blk_below hb Kr.out
  have Jd := blk_below hb Kd.out
  have Jl := blk_below hb Kl.out
  have hbw' := below_call hbw hb
  clear cpa cpb Kp lp np cqa cqb Kq lq nq cya cyb Ky ly ny cza czb Kz lz nz coa cob Ko lo no cra crb Kr lr nr cda cdb Kd ld nd cla clb Kl ll nl hbw hb
  have hbw := hbw'
  clear hbw'
  obtain ⟨cpa, cpb, _, _⟩ := two_cells Jp
  have lp := lt_of_block Jp
  have np : w.heap.size ≠ wC.heap.size := by omega
  have Kp := Lib.hid Jp
  clear Jp
  obtain ⟨cqa, cqb, _, _⟩ := two_cells Jq
  have lq := lt_of_block Jq
  have nq : w.heap.size + 1 ≠ wC.heap.size := by omega
  have Kq := Lib.hid Jq
  clear Jq
  obtain ⟨cya, cyb, _, _⟩ := two_cells Jy
  have ly := lt_of_block Jy
  have ny : w6.heap.size ≠ wC.heap.size := by omega
  have Ky := Lib.hid Jy
  clear Jy
  obtain ⟨cza, czb, _, _⟩ := two_cells Jz
  have lz := lt_of_block Jz
  have nz : w6.heap.size + 1 ≠ wC.heap.size := by omega
  have Kz := Lib.hid Jz
  clear Jz
  obtain ⟨coa, cob, _, _⟩ := two_cells Jo
  have lo := lt_of_block Jo
  have no : w7.heap.size ≠ wC.heap.size := by omega
  have Ko := Lib.hid Jo
  clear Jo
  obtain ⟨cra, crb, _, _⟩ := two_cells Jr
  have lr := lt_of_block Jr
  have nr : w7.heap.size + 1 ≠ wC.heap.size := by omega
  have Kr := Lib.hid Jr
  clear Jr
  obtain ⟨cda, cdb, _, _⟩ := two_cells Jd
  have ld := lt_of_block Jd
  have nd : w8.heap.size ≠ wC.heap.size := by omega
  have Kd := Lib.hid Jd
  clear Jd
  obtain ⟨cla, clb, _, _⟩ := two_cells Jl
  have ll := lt_of_block Jl
  have nl : w9.heap.size ≠ wC.heap.size := by omega
  have Kl := Lib.hid Jl
  clear Jl
  clear cya cyb Ky ny
  clear cza czb Kz nz
  clear coa cob Ko no
  clear cra crb Kr nr
  clear cda cdb Kd nd
  clear cla clb Kl nl
  go_wp2
  have F0 := cell_regrown cpa
  have F1 := cell_regrown cpb
  have F2 := cell_regrown cqa
  have F3 := cell_regrown cqb
  refine wp_region_quiet_below (by kernel_rfl) (by kernel_rfl) ?_
  repeat (first | go_big_quiet_step ((first | (go_at_call 41; exact Calls.regrown_of (addrCheck_any _ _ _ h0 h1)) | (go_at_call 42; exact Calls.regrown_of (refCheck_any _ _ _ h0 h1)) | (go_at_call 43; exact Calls.regrown_of (addrIn_any _ _ _ _ hx0 hx1 h0 h1)) | (go_at_call 44; exact Calls.regrown_of (refIn_any _ _ _ _ hx0 hx1 h0 h1)) | (go_at_call 45; exact Calls.regrown_of (addrWithin_any _ _ _ _ _ h0 h1 h2 h3)) | (go_at_call 46; exact Calls.regrown_of (refWithin_any _ _ _ _ _ h0 h1 h2 h3)) | (go_at_call 47; exact Calls.regrown_of (addrCmp_any _ _ _ _ _)) | (go_at_call 48; exact Calls.regrown_of (refCmp_any _ _ _ _ _)))) | quiet_step ((first | (go_at_call 41; exact Calls.regrown_of (addrCheck_any _ _ _ h0 h1)) | (go_at_call 42; exact Calls.regrown_of (refCheck_any _ _ _ h0 h1)) | (go_at_call 43; exact Calls.regrown_of (addrIn_any _ _ _ _ hx0 hx1 h0 h1)) | (go_at_call 44; exact Calls.regrown_of (refIn_any _ _ _ _ hx0 hx1 h0 h1)) | (go_at_call 45; exact Calls.regrown_of (addrWithin_any _ _ _ _ _ h0 h1 h2 h3)) | (go_at_call 46; exact Calls.regrown_of (refWithin_any _ _ _ _ _ h0 h1 h2 h3)) | (go_at_call 47; exact Calls.regrown_of (addrCmp_any _ _ _ _ _)) | (go_at_call 48; exact Calls.regrown_of (refCmp_any _ _ _ _ _)))))
  refine wpQuiet_nil ?_
  intro _ hw'
  obtain ⟨⟨nq, osq⟩, hw''⟩ := hw'
  subst hw''
  go_wp2
  go_ret
  exact ⟨ret_bool (by simp), hbw.trans ((below_regrown wC nq osq).mono hbw.size)⟩

end Go.Proofs.Ytpljnogmfeenkaa

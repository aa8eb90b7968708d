/-
  The walk of the law AddrInside (written by wip/gen/genin.py).
-/
import Derived.Test.YtdlhpiknifcehaaDoorAd6
import Derived.Test.YtdlhpiknifcehaaDoorAddr9
import Derived.BigFrame
import Derived.Deep.DeepCutAuto
import Derived.Deep.RegionHeld3
namespace Go.Proofs.YtdlhpiknifcehaaDoor
open Go Go.RowKit Go.Sort

structure InSt (a n b m c o : Int) (g1 g2 g3 : Nat) (w W : World) : Prop where
  p : W.heap[g1]? = some (.cells #[.int .u32 a, .int .i64 n] 25 (0, 0))
  q : W.heap[g2]? = some (.cells #[.int .u32 b, .int .i64 m] 25 (0, 0))
  r : W.heap[g3]? = some (.cells #[.int .u32 c, .int .i64 o] 25 (0, 0))
  b : Below w.heap.size w W
theorem InSt.next {a n b m c o : Int} {g1 g2 g3 : Nat} {w W W' : World} (h : InSt a n b m c o g1 g2 g3 w W) (hb : Below W.heap.size W W') : InSt a n b m c o g1 g2 g3 w W' :=
  ⟨blk_below hb h.p, blk_below hb h.q, blk_below hb h.r, h.b.trans (hb.mono h.b.size)⟩
@[reducible] def WinC (a n b m : Int) (t : Bool) : Prop := ∀ v : World, Calls Tryd.prog 24 #[.agg #[.int .u32 a, .int .i64 n], .agg #[.int .u32 b, .int .i64 m]] v fun e w' => e = .returned (.bool t) ∧ Below v.heap.size v w'
theorem winC {a n b m : Int} (h0 : 0 ≤ a) (h1 : a < 4294967296) (h2 : 0 ≤ b) (h3 : b < 4294967296) {t : Bool} (h : withinB a n b m = t) : WinC a n b m t := fun v => h ▸ addrWithin_any a n b m v h0 h1 h2 h3
@[reducible] def InC (x a n : Int) (t : Bool) : Prop := ∀ v : World, Calls Tryd.prog 23 #[.int .u32 x, .agg #[.int .u32 a, .int .i64 n]] v fun e w' => e = .returned (.bool t) ∧ Below v.heap.size v w'
theorem inC {x a n : Int} (hx : 0 ≤ x) (hx' : x < 4294967296) (h0 : 0 ≤ a) (h1 : a < 4294967296) {t : Bool} (h : inB x a n = t) : InC x a n t := fun v => h ▸ addrIn_any x a n v hx hx' h0 h1
@[reducible] def SameC (a n b m : Int) (t : Bool) : Prop := ∀ v : World, Calls Tryd.prog 16 #[.agg #[.int .u32 a, .int .i64 n], .agg #[.int .u32 b, .int .i64 m]] v fun e w' => e = .returned (.bool t) ∧ Below v.heap.size v w'
theorem sameC {a n b m : Int} {t : Bool} (h : decide (a = b ∧ n = m) = t) : SameC a n b m t := fun v => h ▸ same_any2 a n b m v

set_option maxRecDepth 100000 in
set_option maxHeartbeats 8000000 in
theorem lawIn_any (a b c x k m n : Int) (w : World) (hE : Env w) (ha0 : 0 ≤ a) (ha1 : a < 4294967296) (hb0 : 0 ≤ b) (hb1 : b < 4294967296) (hc0 : 0 ≤ c) (hc1 : c < 4294967296) (hx0 : 0 ≤ x) (hx1 : x < 4294967296) :
    Calls Tryd.prog 11 #[.int .u32 a, .int .u32 b, .int .u32 c, .int .u32 x, .int .i64 k, .int .i64 m, .int .i64 n] w fun e w' => e = .returned (.bool true) ∧ Below w.heap.size w w' := by
  go_enter Tryd.func11, Tryd.ntmps11
  go_wp2_with fail
  refine (works_any _ hE).mono ?_
  rintro e w1 ⟨rfl, hb⟩
  have hbw' := below_call (Below.refl _ _) hb
  clear hb
  have hbw := hbw'
  clear hbw'
  go_wp2_with fail
  refine (fit_any a k _ ha0 ha1).mono ?_
  rintro e w2 ⟨rfl, hb⟩
  have hbw' := below_call hbw hb
  clear hbw hb
  have hbw := hbw'
  clear hbw'
  go_wp2_with fail
  refine (fit_any b m _ hb0 hb1).mono ?_
  rintro e w3 ⟨rfl, hb⟩
  have Jp := blk_below hb (heap_alloc_new w2 (.cells #[.int .u32 (subA a (fitN k)), .int .i64 (fitN k)] 25))
  have hbw' := below_call (hbw.alloc (le_up hbw) _) hb
  clear hbw hb
  have hbw := hbw'
  clear hbw'
  obtain ⟨cp0, cp1, fp0, fp1⟩ := two_cells Jp
  have lp := lt_of_block Jp
  have np : w2.heap.size ≠ w3.heap.size := by omega
  have Kp := Lib.hid Jp
  clear Jp
  go_wp2_with fail
  refine (fit_any c n _ hc0 hc1).mono ?_
  rintro e w4 ⟨rfl, hb⟩
  have Jp := blk_below hb ((Below.heap_alloc _ _ _ (by first | omega | (simp; omega))).trans Kp.out)
  have Jq := blk_below hb (heap_alloc_new w3 (.cells #[.int .u32 (subA b (fitN m)), .int .i64 (fitN m)] 25))
  have hbw' := below_call (hbw.alloc (le_up hbw) _) hb
  clear cp0 cp1 fp0 fp1 lp np Kp hbw hb
  have hbw := hbw'
  clear hbw'
  obtain ⟨cp0, cp1, fp0, fp1⟩ := two_cells Jp
  have lp := lt_of_block Jp
  have np : w2.heap.size ≠ w4.heap.size := by omega
  have Kp := Lib.hid Jp
  clear Jp
  obtain ⟨cq0, cq1, fq0, fq1⟩ := two_cells Jq
  have lq := lt_of_block Jq
  have nq : w3.heap.size ≠ w4.heap.size := by omega
  have Kq := Lib.hid Jq
  clear Jq
  go_wp2_with fail
  refine (addrEnds_any (subA a (fitN k)) (fitN k) _ (sub_range a (fitN k) ha0 ha1).1 (sub_range a (fitN k) ha0 ha1).2).mono ?_
  rintro e w5 ⟨rfl, hb⟩
  have Jp := blk_below hb ((Below.heap_alloc _ _ _ (by first | omega | (simp; omega))).trans Kp.out)
  have Jq := blk_below hb ((Below.heap_alloc _ _ _ (by first | omega | (simp; omega))).trans Kq.out)
  have Jr := blk_below hb (heap_alloc_new w4 (.cells #[.int .u32 (subA c (fitN n)), .int .i64 (fitN n)] 25))
  have hbw' := below_call (hbw.alloc (le_up hbw) _) hb
  clear cp0 cp1 fp0 fp1 lp np Kp cq0 cq1 fq0 fq1 lq nq Kq hbw hb
  have hbw := hbw'
  clear hbw'
  obtain ⟨cp0, cp1, fp0, fp1⟩ := two_cells Jp
  have lp := lt_of_block Jp
  have np : w2.heap.size ≠ w5.heap.size := by omega
  have Kp := Lib.hid Jp
  clear Jp
  obtain ⟨cq0, cq1, fq0, fq1⟩ := two_cells Jq
  have lq := lt_of_block Jq
  have nq : w3.heap.size ≠ w5.heap.size := by omega
  have Kq := Lib.hid Jq
  clear Jq
  obtain ⟨cr0, cr1, fr0, fr1⟩ := two_cells Jr
  have lr := lt_of_block Jr
  have nr : w4.heap.size ≠ w5.heap.size := by omega
  have Kr := Lib.hid Jr
  clear Jr
  have hP := fit_chk a k
  have hQ := fit_chk b m
  have hR := fit_chk c n
  have pr := sub_range a (fitN k) ha0 ha1
  have qr := sub_range b (fitN m) hb0 hb1
  have rr := sub_range c (fitN n) hc0 hc1
  have hS := Lib.hid (InSt.mk Kp.out Kq.out Kr.out hbw)
  clear cp0 cp1 fp0 fp1 lp np Kp cq0 cq1 fq0 fq1 lq nq Kq cr0 cr1 fr0 fr1 lr nr Kr hbw
  rw [(end_yes hP).1, (end_yes hP).2, hP]
  generalize w2.heap.size = g1 at *
  generalize w3.heap.size = g2 at *
  generalize w4.heap.size = g3 at *
  generalize hA' : subA a (fitN k) = A at *
  generalize hN' : fitN k = N at *
  generalize hB' : subA b (fitN m) = B at *
  generalize hM' : fitN m = M at *
  generalize hC' : subA c (fitN n) = C at *
  generalize hO' : fitN n = O at *
  clear hA' hN' hB' hM' hC' hO'
  have HP := Lib.hid hP
  have HQ := Lib.hid hQ
  have HR := Lib.hid hR
  clear hP hQ hR
  obtain ⟨cp0, cp1, _, _⟩ := two_cells hS.out.p
  obtain ⟨cq0, cq1, _, _⟩ := two_cells hS.out.q
  obtain ⟨cr0, cr1, _, _⟩ := two_cells hS.out.r
  clear cp0 cp1 cq0 cq1 cr0 cr1
  go_upto_region 7 with fail
  go_cut [80] (fun s80 wx => s80 = .bool false ∧ Hid (InSt A N B M C O g1 g2 g3 w wx))
  case first =>
    have hpp := Lib.hid (winC pr.1 pr.2 pr.1 pr.2 (inside_self HP.out))
    have hsame := Lib.hid (inside_same HP.out HQ.out)
    obtain ⟨cp0, cp1, _, _⟩ := two_cells hS.out.p
    have Fp0 := cell_regrown cp0
    have Fp1 := cell_regrown cp1
    obtain ⟨cq0, cq1, _, _⟩ := two_cells hS.out.q
    have Fq0 := cell_regrown cq0
    have Fq1 := cell_regrown cq1
    obtain ⟨cr0, cr1, _, _⟩ := two_cells hS.out.r
    have Fr0 := cell_regrown cr0
    have Fr1 := cell_regrown cr1
    cases hpq : withinB A N B M with
    | false =>
      have h1 := Lib.hid (winC pr.1 pr.2 qr.1 qr.2 (hpq))
      clear hpq
      as_aux_lemma =>
        refine wp_region_quiet_below (by kernel_rfl) (by kernel_rfl) ?_
        repeat (first | go_big_quiet_step ((first | (go_at_call 24; with_reducible exact Calls.regrown_of (hpp.out _)) | (go_at_call 24; with_reducible exact Calls.regrown_of (h1.out _)))) | quiet_step ((first | (go_at_call 24; with_reducible exact Calls.regrown_of (hpp.out _)) | (go_at_call 24; with_reducible exact Calls.regrown_of (h1.out _)))))
        refine wpQuiet_nil ?_
        intro _ hw'
        obtain ⟨⟨nq, osq⟩, hw''⟩ := hw'
        subst hw''
        go_wp2
        go_meet
        exact ⟨rfl, Lib.hid (hS.out.next (below_regrown _ nq osq))⟩
    | true =>
      have h1 := Lib.hid (winC pr.1 pr.2 qr.1 qr.2 (hpq))
      cases hqp : withinB B M A N with
      | false =>
        have h2 := Lib.hid (winC qr.1 qr.2 pr.1 pr.2 (hqp))
        have h3 := Lib.hid (sameC (a := A) (n := N) (b := B) (m := M) (t := false) (by rw [← hsame.out, hpq, hqp]; rfl))
        cases hqr : withinB B M C O with
        | false =>
          have h4 := Lib.hid (winC qr.1 qr.2 rr.1 rr.2 (hqr))
          clear hpq hqp hqr hsame
          as_aux_lemma =>
            refine wp_region_quiet_below (by kernel_rfl) (by kernel_rfl) ?_
            repeat (first | go_big_quiet_step ((first | (go_at_call 24; with_reducible exact Calls.regrown_of (hpp.out _)) | (go_at_call 24; with_reducible exact Calls.regrown_of (h1.out _)) | (go_at_call 24; with_reducible exact Calls.regrown_of (h2.out _)) | (go_at_call 16; with_reducible exact Calls.regrown_of (h3.out _)) | (go_at_call 24; with_reducible exact Calls.regrown_of (h4.out _)))) | quiet_step ((first | (go_at_call 24; with_reducible exact Calls.regrown_of (hpp.out _)) | (go_at_call 24; with_reducible exact Calls.regrown_of (h1.out _)) | (go_at_call 24; with_reducible exact Calls.regrown_of (h2.out _)) | (go_at_call 16; with_reducible exact Calls.regrown_of (h3.out _)) | (go_at_call 24; with_reducible exact Calls.regrown_of (h4.out _)))))
            refine wpQuiet_nil ?_
            intro _ hw'
            obtain ⟨⟨nq, osq⟩, hw''⟩ := hw'
            subst hw''
            go_wp2
            go_meet
            exact ⟨rfl, Lib.hid (hS.out.next (below_regrown _ nq osq))⟩
        
        | true =>
          have h4 := Lib.hid (winC qr.1 qr.2 rr.1 rr.2 (hqr))
          have h5 := Lib.hid (winC pr.1 pr.2 rr.1 rr.2 (inside_trans HP.out HQ.out HR.out hpq hqr))
          clear hpq hqp hqr hsame
          as_aux_lemma =>
            refine wp_region_quiet_below (by kernel_rfl) (by kernel_rfl) ?_
            repeat (first | go_big_quiet_step ((first | (go_at_call 24; with_reducible exact Calls.regrown_of (hpp.out _)) | (go_at_call 24; with_reducible exact Calls.regrown_of (h1.out _)) | (go_at_call 24; with_reducible exact Calls.regrown_of (h2.out _)) | (go_at_call 16; with_reducible exact Calls.regrown_of (h3.out _)) | (go_at_call 24; with_reducible exact Calls.regrown_of (h4.out _)) | (go_at_call 24; with_reducible exact Calls.regrown_of (h5.out _)))) | quiet_step ((first | (go_at_call 24; with_reducible exact Calls.regrown_of (hpp.out _)) | (go_at_call 24; with_reducible exact Calls.regrown_of (h1.out _)) | (go_at_call 24; with_reducible exact Calls.regrown_of (h2.out _)) | (go_at_call 16; with_reducible exact Calls.regrown_of (h3.out _)) | (go_at_call 24; with_reducible exact Calls.regrown_of (h4.out _)) | (go_at_call 24; with_reducible exact Calls.regrown_of (h5.out _)))))
            refine wpQuiet_nil ?_
            intro _ hw'
            obtain ⟨⟨nq, osq⟩, hw''⟩ := hw'
            subst hw''
            go_wp2
            go_meet
            exact ⟨rfl, Lib.hid (hS.out.next (below_regrown _ nq osq))⟩
      
      | true =>
        have h2 := Lib.hid (winC qr.1 qr.2 pr.1 pr.2 (hqp))
        have h3 := Lib.hid (sameC (a := A) (n := N) (b := B) (m := M) (t := true) (by rw [← hsame.out, hpq, hqp]; rfl))
        cases hqr : withinB B M C O with
        | false =>
          have h4 := Lib.hid (winC qr.1 qr.2 rr.1 rr.2 (hqr))
          clear hpq hqp hqr hsame
          as_aux_lemma =>
            refine wp_region_quiet_below (by kernel_rfl) (by kernel_rfl) ?_
            repeat (first | go_big_quiet_step ((first | (go_at_call 24; with_reducible exact Calls.regrown_of (hpp.out _)) | (go_at_call 24; with_reducible exact Calls.regrown_of (h1.out _)) | (go_at_call 24; with_reducible exact Calls.regrown_of (h2.out _)) | (go_at_call 16; with_reducible exact Calls.regrown_of (h3.out _)) | (go_at_call 24; with_reducible exact Calls.regrown_of (h4.out _)))) | quiet_step ((first | (go_at_call 24; with_reducible exact Calls.regrown_of (hpp.out _)) | (go_at_call 24; with_reducible exact Calls.regrown_of (h1.out _)) | (go_at_call 24; with_reducible exact Calls.regrown_of (h2.out _)) | (go_at_call 16; with_reducible exact Calls.regrown_of (h3.out _)) | (go_at_call 24; with_reducible exact Calls.regrown_of (h4.out _)))))
            refine wpQuiet_nil ?_
            intro _ hw'
            obtain ⟨⟨nq, osq⟩, hw''⟩ := hw'
            subst hw''
            go_wp2
            go_meet
            exact ⟨rfl, Lib.hid (hS.out.next (below_regrown _ nq osq))⟩
        
        | true =>
          have h4 := Lib.hid (winC qr.1 qr.2 rr.1 rr.2 (hqr))
          have h5 := Lib.hid (winC pr.1 pr.2 rr.1 rr.2 (inside_trans HP.out HQ.out HR.out hpq hqr))
          clear hpq hqp hqr hsame
          as_aux_lemma =>
            refine wp_region_quiet_below (by kernel_rfl) (by kernel_rfl) ?_
            repeat (first | go_big_quiet_step ((first | (go_at_call 24; with_reducible exact Calls.regrown_of (hpp.out _)) | (go_at_call 24; with_reducible exact Calls.regrown_of (h1.out _)) | (go_at_call 24; with_reducible exact Calls.regrown_of (h2.out _)) | (go_at_call 16; with_reducible exact Calls.regrown_of (h3.out _)) | (go_at_call 24; with_reducible exact Calls.regrown_of (h4.out _)) | (go_at_call 24; with_reducible exact Calls.regrown_of (h5.out _)))) | quiet_step ((first | (go_at_call 24; with_reducible exact Calls.regrown_of (hpp.out _)) | (go_at_call 24; with_reducible exact Calls.regrown_of (h1.out _)) | (go_at_call 24; with_reducible exact Calls.regrown_of (h2.out _)) | (go_at_call 16; with_reducible exact Calls.regrown_of (h3.out _)) | (go_at_call 24; with_reducible exact Calls.regrown_of (h4.out _)) | (go_at_call 24; with_reducible exact Calls.regrown_of (h5.out _)))))
            refine wpQuiet_nil ?_
            intro _ hw'
            obtain ⟨⟨nq, osq⟩, hw''⟩ := hw'
            subst hw''
            go_wp2
            go_meet
            exact ⟨rfl, Lib.hid (hS.out.next (below_regrown _ nq osq))⟩
  case rest =>
    obtain ⟨rfl, hS2⟩ := hcut
    clear hS
    have hS := hS2
    clear hS2
    go_upto_region 9 with fail
    go_cut [128] (fun s128 wx => s128 = .bool false ∧ Hid (InSt A N B M C O g1 g2 g3 w wx))
    case first =>
      have hends := Lib.hid (inside_ends HP.out HQ.out)
      have hbet := Lib.hid (inside_between (x := x) HP.out)
      have hl0 : 0 ≤ A + sz N - 1 := by have := sz_pos N; omega
      have hl1 : A + sz N - 1 < 4294967296 := end_le A N pr.2 (chk_ok HP.out).2.2
      obtain ⟨cp0, cp1, _, _⟩ := two_cells hS.out.p
      have Fp0 := cell_regrown cp0
      have Fp1 := cell_regrown cp1
      obtain ⟨cq0, cq1, _, _⟩ := two_cells hS.out.q
      have Fq0 := cell_regrown cq0
      have Fq1 := cell_regrown cq1
      obtain ⟨cr0, cr1, _, _⟩ := two_cells hS.out.r
      have Fr0 := cell_regrown cr0
      have Fr1 := cell_regrown cr1
      cases hfq : inB A B M with
      | false =>
        have hpq : withinB A N B M = false := by rw [hends.out, hfq]; rfl
        have h1 := Lib.hid (winC pr.1 pr.2 qr.1 qr.2 (hpq))
        have h2 := Lib.hid (inC pr.1 pr.2 qr.1 qr.2 (hfq))
        by_cases hx2 : A ≤ x
        · have hx3 : decide (A ≤ x) = true := by simp [hx2]
          by_cases hx4 : x ≤ A + sz N - 1
          · have hx5 : decide (x ≤ A + sz N - 1) = true := by simp [hx4]
            have hxp : inB x A N = true := by rw [hbet.out, hx3, hx5]; rfl
            have h6 := Lib.hid (inC hx0 hx1 pr.1 pr.2 (hxp))
            cases hxq : inB x B M with
            | false =>
              have h7 := Lib.hid (inC hx0 hx1 qr.1 qr.2 (hxq))
              clear hxp hxq hends hbet hpq hfq
              as_aux_lemma =>
                refine wp_region_quiet_below (by kernel_rfl) (by kernel_rfl) ?_
                repeat (first | go_big_quiet_step ((first | (go_at_call 24; with_reducible exact Calls.regrown_of (h1.out _)) | (go_at_call 23; with_reducible exact Calls.regrown_of (h2.out _)) | (go_at_call 23; with_reducible exact Calls.regrown_of (h6.out _)) | (go_at_call 23; with_reducible exact Calls.regrown_of (h7.out _)))) | quiet_step ((first | (go_at_call 24; with_reducible exact Calls.regrown_of (h1.out _)) | (go_at_call 23; with_reducible exact Calls.regrown_of (h2.out _)) | (go_at_call 23; with_reducible exact Calls.regrown_of (h6.out _)) | (go_at_call 23; with_reducible exact Calls.regrown_of (h7.out _)))))
                refine wpQuiet_nil ?_
                intro _ hw'
                obtain ⟨⟨nq, osq⟩, hw''⟩ := hw'
                subst hw''
                go_wp2
                go_meet
                exact ⟨rfl, Lib.hid (hS.out.next (below_regrown _ nq osq))⟩
            | true =>
              have h7 := Lib.hid (inC hx0 hx1 qr.1 qr.2 (hxq))
              have h8 := Lib.hid (winC qr.1 qr.2 pr.1 pr.2 ((inside_meet HP.out HQ.out hxp hxq).resolve_left (by rw [hpq]; simp)))
              clear hxp hxq hends hbet hpq hfq
              as_aux_lemma =>
                refine wp_region_quiet_below (by kernel_rfl) (by kernel_rfl) ?_
                repeat (first | go_big_quiet_step ((first | (go_at_call 24; with_reducible exact Calls.regrown_of (h1.out _)) | (go_at_call 23; with_reducible exact Calls.regrown_of (h2.out _)) | (go_at_call 23; with_reducible exact Calls.regrown_of (h6.out _)) | (go_at_call 23; with_reducible exact Calls.regrown_of (h7.out _)) | (go_at_call 24; with_reducible exact Calls.regrown_of (h8.out _)))) | quiet_step ((first | (go_at_call 24; with_reducible exact Calls.regrown_of (h1.out _)) | (go_at_call 23; with_reducible exact Calls.regrown_of (h2.out _)) | (go_at_call 23; with_reducible exact Calls.regrown_of (h6.out _)) | (go_at_call 23; with_reducible exact Calls.regrown_of (h7.out _)) | (go_at_call 24; with_reducible exact Calls.regrown_of (h8.out _)))))
                refine wpQuiet_nil ?_
                intro _ hw'
                obtain ⟨⟨nq, osq⟩, hw''⟩ := hw'
                subst hw''
                go_wp2
                go_meet
                exact ⟨rfl, Lib.hid (hS.out.next (below_regrown _ nq osq))⟩
          · have hx5 : decide (x ≤ A + sz N - 1) = false := by simp [hx4]
            have hxp : inB x A N = false := by rw [hbet.out, hx3, hx5]; rfl
            have h6 := Lib.hid (inC hx0 hx1 pr.1 pr.2 (hxp))
            clear hxp hends hbet hpq hfq
            as_aux_lemma =>
              refine wp_region_quiet_below (by kernel_rfl) (by kernel_rfl) ?_
              repeat (first | go_big_quiet_step ((first | (go_at_call 24; with_reducible exact Calls.regrown_of (h1.out _)) | (go_at_call 23; with_reducible exact Calls.regrown_of (h2.out _)) | (go_at_call 23; with_reducible exact Calls.regrown_of (h6.out _)))) | quiet_step ((first | (go_at_call 24; with_reducible exact Calls.regrown_of (h1.out _)) | (go_at_call 23; with_reducible exact Calls.regrown_of (h2.out _)) | (go_at_call 23; with_reducible exact Calls.regrown_of (h6.out _)))))
              refine wpQuiet_nil ?_
              intro _ hw'
              obtain ⟨⟨nq, osq⟩, hw''⟩ := hw'
              subst hw''
              go_wp2
              go_meet
              exact ⟨rfl, Lib.hid (hS.out.next (below_regrown _ nq osq))⟩
        · have hx3 : decide (A ≤ x) = false := by simp [hx2]
          have hxp : inB x A N = false := by rw [hbet.out, hx3]; rfl
          have h6 := Lib.hid (inC hx0 hx1 pr.1 pr.2 (hxp))
          clear hxp hends hbet hpq hfq
          as_aux_lemma =>
            refine wp_region_quiet_below (by kernel_rfl) (by kernel_rfl) ?_
            repeat (first | go_big_quiet_step ((first | (go_at_call 24; with_reducible exact Calls.regrown_of (h1.out _)) | (go_at_call 23; with_reducible exact Calls.regrown_of (h2.out _)) | (go_at_call 23; with_reducible exact Calls.regrown_of (h6.out _)))) | quiet_step ((first | (go_at_call 24; with_reducible exact Calls.regrown_of (h1.out _)) | (go_at_call 23; with_reducible exact Calls.regrown_of (h2.out _)) | (go_at_call 23; with_reducible exact Calls.regrown_of (h6.out _)))))
            refine wpQuiet_nil ?_
            intro _ hw'
            obtain ⟨⟨nq, osq⟩, hw''⟩ := hw'
            subst hw''
            go_wp2
            go_meet
            exact ⟨rfl, Lib.hid (hS.out.next (below_regrown _ nq osq))⟩
      | true =>
        have h2 := Lib.hid (inC pr.1 pr.2 qr.1 qr.2 (hfq))
        cases hlq : inB (A + sz N - 1) B M with
        | false =>
          have hpq : withinB A N B M = false := by rw [hends.out, hfq, hlq]; rfl
          have h1 := Lib.hid (winC pr.1 pr.2 qr.1 qr.2 (hpq))
          have h3 := Lib.hid (inC hl0 hl1 qr.1 qr.2 (hlq))
          by_cases hx2 : A ≤ x
          · have hx3 : decide (A ≤ x) = true := by simp [hx2]
            by_cases hx4 : x ≤ A + sz N - 1
            · have hx5 : decide (x ≤ A + sz N - 1) = true := by simp [hx4]
              have hxp : inB x A N = true := by rw [hbet.out, hx3, hx5]; rfl
              have h6 := Lib.hid (inC hx0 hx1 pr.1 pr.2 (hxp))
              cases hxq : inB x B M with
              | false =>
                have h7 := Lib.hid (inC hx0 hx1 qr.1 qr.2 (hxq))
                clear hxp hxq hends hbet hpq hfq hlq
                as_aux_lemma =>
                  refine wp_region_quiet_below (by kernel_rfl) (by kernel_rfl) ?_
                  repeat (first | go_big_quiet_step ((first | (go_at_call 24; with_reducible exact Calls.regrown_of (h1.out _)) | (go_at_call 23; with_reducible exact Calls.regrown_of (h2.out _)) | (go_at_call 23; with_reducible exact Calls.regrown_of (h3.out _)) | (go_at_call 23; with_reducible exact Calls.regrown_of (h6.out _)) | (go_at_call 23; with_reducible exact Calls.regrown_of (h7.out _)))) | quiet_step ((first | (go_at_call 24; with_reducible exact Calls.regrown_of (h1.out _)) | (go_at_call 23; with_reducible exact Calls.regrown_of (h2.out _)) | (go_at_call 23; with_reducible exact Calls.regrown_of (h3.out _)) | (go_at_call 23; with_reducible exact Calls.regrown_of (h6.out _)) | (go_at_call 23; with_reducible exact Calls.regrown_of (h7.out _)))))
                  refine wpQuiet_nil ?_
                  intro _ hw'
                  obtain ⟨⟨nq, osq⟩, hw''⟩ := hw'
                  subst hw''
                  go_wp2
                  go_meet
                  exact ⟨rfl, Lib.hid (hS.out.next (below_regrown _ nq osq))⟩
              | true =>
                have h7 := Lib.hid (inC hx0 hx1 qr.1 qr.2 (hxq))
                have h8 := Lib.hid (winC qr.1 qr.2 pr.1 pr.2 ((inside_meet HP.out HQ.out hxp hxq).resolve_left (by rw [hpq]; simp)))
                clear hxp hxq hends hbet hpq hfq hlq
                as_aux_lemma =>
                  refine wp_region_quiet_below (by kernel_rfl) (by kernel_rfl) ?_
                  repeat (first | go_big_quiet_step ((first | (go_at_call 24; with_reducible exact Calls.regrown_of (h1.out _)) | (go_at_call 23; with_reducible exact Calls.regrown_of (h2.out _)) | (go_at_call 23; with_reducible exact Calls.regrown_of (h3.out _)) | (go_at_call 23; with_reducible exact Calls.regrown_of (h6.out _)) | (go_at_call 23; with_reducible exact Calls.regrown_of (h7.out _)) | (go_at_call 24; with_reducible exact Calls.regrown_of (h8.out _)))) | quiet_step ((first | (go_at_call 24; with_reducible exact Calls.regrown_of (h1.out _)) | (go_at_call 23; with_reducible exact Calls.regrown_of (h2.out _)) | (go_at_call 23; with_reducible exact Calls.regrown_of (h3.out _)) | (go_at_call 23; with_reducible exact Calls.regrown_of (h6.out _)) | (go_at_call 23; with_reducible exact Calls.regrown_of (h7.out _)) | (go_at_call 24; with_reducible exact Calls.regrown_of (h8.out _)))))
                  refine wpQuiet_nil ?_
                  intro _ hw'
                  obtain ⟨⟨nq, osq⟩, hw''⟩ := hw'
                  subst hw''
                  go_wp2
                  go_meet
                  exact ⟨rfl, Lib.hid (hS.out.next (below_regrown _ nq osq))⟩
            · have hx5 : decide (x ≤ A + sz N - 1) = false := by simp [hx4]
              have hxp : inB x A N = false := by rw [hbet.out, hx3, hx5]; rfl
              have h6 := Lib.hid (inC hx0 hx1 pr.1 pr.2 (hxp))
              clear hxp hends hbet hpq hfq hlq
              as_aux_lemma =>
                refine wp_region_quiet_below (by kernel_rfl) (by kernel_rfl) ?_
                repeat (first | go_big_quiet_step ((first | (go_at_call 24; with_reducible exact Calls.regrown_of (h1.out _)) | (go_at_call 23; with_reducible exact Calls.regrown_of (h2.out _)) | (go_at_call 23; with_reducible exact Calls.regrown_of (h3.out _)) | (go_at_call 23; with_reducible exact Calls.regrown_of (h6.out _)))) | quiet_step ((first | (go_at_call 24; with_reducible exact Calls.regrown_of (h1.out _)) | (go_at_call 23; with_reducible exact Calls.regrown_of (h2.out _)) | (go_at_call 23; with_reducible exact Calls.regrown_of (h3.out _)) | (go_at_call 23; with_reducible exact Calls.regrown_of (h6.out _)))))
                refine wpQuiet_nil ?_
                intro _ hw'
                obtain ⟨⟨nq, osq⟩, hw''⟩ := hw'
                subst hw''
                go_wp2
                go_meet
                exact ⟨rfl, Lib.hid (hS.out.next (below_regrown _ nq osq))⟩
          · have hx3 : decide (A ≤ x) = false := by simp [hx2]
            have hxp : inB x A N = false := by rw [hbet.out, hx3]; rfl
            have h6 := Lib.hid (inC hx0 hx1 pr.1 pr.2 (hxp))
            clear hxp hends hbet hpq hfq hlq
            as_aux_lemma =>
              refine wp_region_quiet_below (by kernel_rfl) (by kernel_rfl) ?_
              repeat (first | go_big_quiet_step ((first | (go_at_call 24; with_reducible exact Calls.regrown_of (h1.out _)) | (go_at_call 23; with_reducible exact Calls.regrown_of (h2.out _)) | (go_at_call 23; with_reducible exact Calls.regrown_of (h3.out _)) | (go_at_call 23; with_reducible exact Calls.regrown_of (h6.out _)))) | quiet_step ((first | (go_at_call 24; with_reducible exact Calls.regrown_of (h1.out _)) | (go_at_call 23; with_reducible exact Calls.regrown_of (h2.out _)) | (go_at_call 23; with_reducible exact Calls.regrown_of (h3.out _)) | (go_at_call 23; with_reducible exact Calls.regrown_of (h6.out _)))))
              refine wpQuiet_nil ?_
              intro _ hw'
              obtain ⟨⟨nq, osq⟩, hw''⟩ := hw'
              subst hw''
              go_wp2
              go_meet
              exact ⟨rfl, Lib.hid (hS.out.next (below_regrown _ nq osq))⟩
        | true =>
          have hpq : withinB A N B M = true := by rw [hends.out, hfq, hlq]; rfl
          have h1 := Lib.hid (winC pr.1 pr.2 qr.1 qr.2 (hpq))
          have h3 := Lib.hid (inC hl0 hl1 qr.1 qr.2 (hlq))
          by_cases hx2 : A ≤ x
          · have hx3 : decide (A ≤ x) = true := by simp [hx2]
            by_cases hx4 : x ≤ A + sz N - 1
            · have hx5 : decide (x ≤ A + sz N - 1) = true := by simp [hx4]
              have hxp : inB x A N = true := by rw [hbet.out, hx3, hx5]; rfl
              have h6 := Lib.hid (inC hx0 hx1 pr.1 pr.2 (hxp))
              cases hxq : inB x B M with
              | false =>
                have h7 := Lib.hid (inC hx0 hx1 qr.1 qr.2 (hxq))
                clear hxp hxq hends hbet hpq hfq hlq
                as_aux_lemma =>
                  refine wp_region_quiet_below (by kernel_rfl) (by kernel_rfl) ?_
                  repeat (first | go_big_quiet_step ((first | (go_at_call 24; with_reducible exact Calls.regrown_of (h1.out _)) | (go_at_call 23; with_reducible exact Calls.regrown_of (h2.out _)) | (go_at_call 23; with_reducible exact Calls.regrown_of (h3.out _)) | (go_at_call 23; with_reducible exact Calls.regrown_of (h6.out _)) | (go_at_call 23; with_reducible exact Calls.regrown_of (h7.out _)))) | quiet_step ((first | (go_at_call 24; with_reducible exact Calls.regrown_of (h1.out _)) | (go_at_call 23; with_reducible exact Calls.regrown_of (h2.out _)) | (go_at_call 23; with_reducible exact Calls.regrown_of (h3.out _)) | (go_at_call 23; with_reducible exact Calls.regrown_of (h6.out _)) | (go_at_call 23; with_reducible exact Calls.regrown_of (h7.out _)))))
                  refine wpQuiet_nil ?_
                  intro _ hw'
                  obtain ⟨⟨nq, osq⟩, hw''⟩ := hw'
                  subst hw''
                  go_wp2
                  go_meet
                  exact ⟨rfl, Lib.hid (hS.out.next (below_regrown _ nq osq))⟩
              | true =>
                have h7 := Lib.hid (inC hx0 hx1 qr.1 qr.2 (hxq))
                clear hxp hxq hends hbet hpq hfq hlq
                as_aux_lemma =>
                  refine wp_region_quiet_below (by kernel_rfl) (by kernel_rfl) ?_
                  repeat (first | go_big_quiet_step ((first | (go_at_call 24; with_reducible exact Calls.regrown_of (h1.out _)) | (go_at_call 23; with_reducible exact Calls.regrown_of (h2.out _)) | (go_at_call 23; with_reducible exact Calls.regrown_of (h3.out _)) | (go_at_call 23; with_reducible exact Calls.regrown_of (h6.out _)) | (go_at_call 23; with_reducible exact Calls.regrown_of (h7.out _)))) | quiet_step ((first | (go_at_call 24; with_reducible exact Calls.regrown_of (h1.out _)) | (go_at_call 23; with_reducible exact Calls.regrown_of (h2.out _)) | (go_at_call 23; with_reducible exact Calls.regrown_of (h3.out _)) | (go_at_call 23; with_reducible exact Calls.regrown_of (h6.out _)) | (go_at_call 23; with_reducible exact Calls.regrown_of (h7.out _)))))
                  refine wpQuiet_nil ?_
                  intro _ hw'
                  obtain ⟨⟨nq, osq⟩, hw''⟩ := hw'
                  subst hw''
                  go_wp2
                  go_meet
                  exact ⟨rfl, Lib.hid (hS.out.next (below_regrown _ nq osq))⟩
            · have hx5 : decide (x ≤ A + sz N - 1) = false := by simp [hx4]
              have hxp : inB x A N = false := by rw [hbet.out, hx3, hx5]; rfl
              have h6 := Lib.hid (inC hx0 hx1 pr.1 pr.2 (hxp))
              clear hxp hends hbet hpq hfq hlq
              as_aux_lemma =>
                refine wp_region_quiet_below (by kernel_rfl) (by kernel_rfl) ?_
                repeat (first | go_big_quiet_step ((first | (go_at_call 24; with_reducible exact Calls.regrown_of (h1.out _)) | (go_at_call 23; with_reducible exact Calls.regrown_of (h2.out _)) | (go_at_call 23; with_reducible exact Calls.regrown_of (h3.out _)) | (go_at_call 23; with_reducible exact Calls.regrown_of (h6.out _)))) | quiet_step ((first | (go_at_call 24; with_reducible exact Calls.regrown_of (h1.out _)) | (go_at_call 23; with_reducible exact Calls.regrown_of (h2.out _)) | (go_at_call 23; with_reducible exact Calls.regrown_of (h3.out _)) | (go_at_call 23; with_reducible exact Calls.regrown_of (h6.out _)))))
                refine wpQuiet_nil ?_
                intro _ hw'
                obtain ⟨⟨nq, osq⟩, hw''⟩ := hw'
                subst hw''
                go_wp2
                go_meet
                exact ⟨rfl, Lib.hid (hS.out.next (below_regrown _ nq osq))⟩
          · have hx3 : decide (A ≤ x) = false := by simp [hx2]
            have hxp : inB x A N = false := by rw [hbet.out, hx3]; rfl
            have h6 := Lib.hid (inC hx0 hx1 pr.1 pr.2 (hxp))
            clear hxp hends hbet hpq hfq hlq
            as_aux_lemma =>
              refine wp_region_quiet_below (by kernel_rfl) (by kernel_rfl) ?_
              repeat (first | go_big_quiet_step ((first | (go_at_call 24; with_reducible exact Calls.regrown_of (h1.out _)) | (go_at_call 23; with_reducible exact Calls.regrown_of (h2.out _)) | (go_at_call 23; with_reducible exact Calls.regrown_of (h3.out _)) | (go_at_call 23; with_reducible exact Calls.regrown_of (h6.out _)))) | quiet_step ((first | (go_at_call 24; with_reducible exact Calls.regrown_of (h1.out _)) | (go_at_call 23; with_reducible exact Calls.regrown_of (h2.out _)) | (go_at_call 23; with_reducible exact Calls.regrown_of (h3.out _)) | (go_at_call 23; with_reducible exact Calls.regrown_of (h6.out _)))))
              refine wpQuiet_nil ?_
              intro _ hw'
              obtain ⟨⟨nq, osq⟩, hw''⟩ := hw'
              subst hw''
              go_wp2
              go_meet
              exact ⟨rfl, Lib.hid (hS.out.next (below_regrown _ nq osq))⟩
    case rest =>
      obtain ⟨rfl, hS2⟩ := hcut
      clear hS
      have hS := hS2
      clear hS2
      obtain ⟨cp0, cp1, _, _⟩ := two_cells hS.out.p
      obtain ⟨cq0, cq1, _, _⟩ := two_cells hS.out.q
      go_wp2_with fail
      refine (addrCommon_any A N B M _ pr.1 pr.2 qr.1 qr.2).mono ?_
      rintro e w6 ⟨rfl, hb6⟩
      have hS6 := Lib.hid (hS.out.next hb6)
      clear hS hb6 cp0 cp1 cq0 cq1
      have hcm := common_ok HP.out HQ.out pr.1 pr.2 qr.1 qr.2
      have hck : chk (comA A N B M) (comB A N B M) = 0 := by rw [hcm.2.1, hcm.2.2.1]; exact chk_sub A _ hcm.2.2.2.1 hcm.2.2.2.2.1
      have hin := Lib.hid (common_in HP.out HQ.out pr.1 pr.2 qr.1 qr.2)
      have hmost := Lib.hid (common_most HP.out HQ.out HR.out pr.1 pr.2 qr.1 qr.2)
      have dr : 0 ≤ comA A N B M ∧ comA A N B M < 4294967296 := by rw [hcm.2.1]; exact sub_range A _ pr.1 pr.2
      rw [hcm.1]
      clear hcm hck
      generalize comA A N B M = D at *
      generalize comB A N B M = K at *
      have hd7 := heap_alloc_new w6 (.cells #[.int .u32 D, .int .i64 K] 25)
      have hS7 := Lib.hid (hS6.out.next ((Below.refl w6.heap.size w6).alloc (Nat.le_refl _) (.cells #[.int .u32 D, .int .i64 K] 25)))
      clear hS6
      go_upto_region 12 with fail
      generalize w6.alloc (.cells #[.int .u32 D, .int .i64 K] 25) = w7 at *
      generalize w6.heap.size = g4 at *
      have hS := hS7
      clear hS7
      go_cut [164] (fun s164 wx => s164 = .bool false ∧ Hid (InSt A N B M C O g1 g2 g3 w wx))
      case first =>
        have h1 := Lib.hid (winC pr.1 pr.2 dr.1 dr.2 hin.out.1)
        have h2 := Lib.hid (winC qr.1 qr.2 dr.1 dr.2 hin.out.2)
        have hd := hd7
        clear hd7
        obtain ⟨cd0, cd1, _, _⟩ := two_cells hd
        obtain ⟨cp0, cp1, _, _⟩ := two_cells hS.out.p
        obtain ⟨cq0, cq1, _, _⟩ := two_cells hS.out.q
        obtain ⟨cr0, cr1, _, _⟩ := two_cells hS.out.r
        cases hpr : withinB A N C O with
        | false =>
          have h3 := Lib.hid (winC pr.1 pr.2 rr.1 rr.2 (hpr))
          clear hpr hin hmost
          as_aux_lemma =>
            go_wp2_with fail
            refine (h1.out _).mono ?_
            rintro e v1 ⟨rfl, hb⟩
            have hSn := Lib.hid (hS.out.next hb)
            have hdn := blk_below hb hd
            clear hb hS hd cp0 cp1 cq0 cq1 cr0 cr1 cd0 cd1
            have hS := hSn
            have hd := hdn
            clear hSn hdn
            obtain ⟨cp0, cp1, _, _⟩ := two_cells hS.out.p
            obtain ⟨cq0, cq1, _, _⟩ := two_cells hS.out.q
            obtain ⟨cr0, cr1, _, _⟩ := two_cells hS.out.r
            obtain ⟨cd0, cd1, _, _⟩ := two_cells hd
            go_wp2_with fail
            refine (h2.out _).mono ?_
            rintro e v2 ⟨rfl, hb⟩
            have hSn := Lib.hid (hS.out.next hb)
            have hdn := blk_below hb hd
            clear hb hS hd cp0 cp1 cq0 cq1 cr0 cr1 cd0 cd1
            have hS := hSn
            have hd := hdn
            clear hSn hdn
            obtain ⟨cp0, cp1, _, _⟩ := two_cells hS.out.p
            obtain ⟨cq0, cq1, _, _⟩ := two_cells hS.out.q
            obtain ⟨cr0, cr1, _, _⟩ := two_cells hS.out.r
            obtain ⟨cd0, cd1, _, _⟩ := two_cells hd
            go_wp2_with fail
            refine (h3.out _).mono ?_
            rintro e v3 ⟨rfl, hb⟩
            have hSn := Lib.hid (hS.out.next hb)
            have hdn := blk_below hb hd
            clear hb hS hd cp0 cp1 cq0 cq1 cr0 cr1 cd0 cd1
            have hS := hSn
            have hd := hdn
            clear hSn hdn
            obtain ⟨cp0, cp1, _, _⟩ := two_cells hS.out.p
            obtain ⟨cq0, cq1, _, _⟩ := two_cells hS.out.q
            obtain ⟨cr0, cr1, _, _⟩ := two_cells hS.out.r
            obtain ⟨cd0, cd1, _, _⟩ := two_cells hd
            go_wp2
            go_meet
            exact ⟨rfl, hS⟩
        | true =>
          have h3 := Lib.hid (winC pr.1 pr.2 rr.1 rr.2 (hpr))
          cases hqr : withinB B M C O with
          | false =>
            have h4 := Lib.hid (winC qr.1 qr.2 rr.1 rr.2 (hqr))
            clear hpr hqr hin hmost
            as_aux_lemma =>
              go_wp2_with fail
              refine (h1.out _).mono ?_
              rintro e v4 ⟨rfl, hb⟩
              have hSn := Lib.hid (hS.out.next hb)
              have hdn := blk_below hb hd
              clear hb hS hd cp0 cp1 cq0 cq1 cr0 cr1 cd0 cd1
              have hS := hSn
              have hd := hdn
              clear hSn hdn
              obtain ⟨cp0, cp1, _, _⟩ := two_cells hS.out.p
              obtain ⟨cq0, cq1, _, _⟩ := two_cells hS.out.q
              obtain ⟨cr0, cr1, _, _⟩ := two_cells hS.out.r
              obtain ⟨cd0, cd1, _, _⟩ := two_cells hd
              go_wp2_with fail
              refine (h2.out _).mono ?_
              rintro e v5 ⟨rfl, hb⟩
              have hSn := Lib.hid (hS.out.next hb)
              have hdn := blk_below hb hd
              clear hb hS hd cp0 cp1 cq0 cq1 cr0 cr1 cd0 cd1
              have hS := hSn
              have hd := hdn
              clear hSn hdn
              obtain ⟨cp0, cp1, _, _⟩ := two_cells hS.out.p
              obtain ⟨cq0, cq1, _, _⟩ := two_cells hS.out.q
              obtain ⟨cr0, cr1, _, _⟩ := two_cells hS.out.r
              obtain ⟨cd0, cd1, _, _⟩ := two_cells hd
              go_wp2_with fail
              refine (h3.out _).mono ?_
              rintro e v6 ⟨rfl, hb⟩
              have hSn := Lib.hid (hS.out.next hb)
              have hdn := blk_below hb hd
              clear hb hS hd cp0 cp1 cq0 cq1 cr0 cr1 cd0 cd1
              have hS := hSn
              have hd := hdn
              clear hSn hdn
              obtain ⟨cp0, cp1, _, _⟩ := two_cells hS.out.p
              obtain ⟨cq0, cq1, _, _⟩ := two_cells hS.out.q
              obtain ⟨cr0, cr1, _, _⟩ := two_cells hS.out.r
              obtain ⟨cd0, cd1, _, _⟩ := two_cells hd
              go_wp2_with fail
              refine (h4.out _).mono ?_
              rintro e v7 ⟨rfl, hb⟩
              have hSn := Lib.hid (hS.out.next hb)
              have hdn := blk_below hb hd
              clear hb hS hd cp0 cp1 cq0 cq1 cr0 cr1 cd0 cd1
              have hS := hSn
              have hd := hdn
              clear hSn hdn
              obtain ⟨cp0, cp1, _, _⟩ := two_cells hS.out.p
              obtain ⟨cq0, cq1, _, _⟩ := two_cells hS.out.q
              obtain ⟨cr0, cr1, _, _⟩ := two_cells hS.out.r
              obtain ⟨cd0, cd1, _, _⟩ := two_cells hd
              go_wp2
              go_meet
              exact ⟨rfl, hS⟩
          | true =>
            have h4 := Lib.hid (winC qr.1 qr.2 rr.1 rr.2 (hqr))
            have h5 := Lib.hid (winC dr.1 dr.2 rr.1 rr.2 (hmost.out hpr hqr))
            clear hpr hqr hin hmost
            as_aux_lemma =>
              go_wp2_with fail
              refine (h1.out _).mono ?_
              rintro e v8 ⟨rfl, hb⟩
              have hSn := Lib.hid (hS.out.next hb)
              have hdn := blk_below hb hd
              clear hb hS hd cp0 cp1 cq0 cq1 cr0 cr1 cd0 cd1
              have hS := hSn
              have hd := hdn
              clear hSn hdn
              obtain ⟨cp0, cp1, _, _⟩ := two_cells hS.out.p
              obtain ⟨cq0, cq1, _, _⟩ := two_cells hS.out.q
              obtain ⟨cr0, cr1, _, _⟩ := two_cells hS.out.r
              obtain ⟨cd0, cd1, _, _⟩ := two_cells hd
              go_wp2_with fail
              refine (h2.out _).mono ?_
              rintro e v9 ⟨rfl, hb⟩
              have hSn := Lib.hid (hS.out.next hb)
              have hdn := blk_below hb hd
              clear hb hS hd cp0 cp1 cq0 cq1 cr0 cr1 cd0 cd1
              have hS := hSn
              have hd := hdn
              clear hSn hdn
              obtain ⟨cp0, cp1, _, _⟩ := two_cells hS.out.p
              obtain ⟨cq0, cq1, _, _⟩ := two_cells hS.out.q
              obtain ⟨cr0, cr1, _, _⟩ := two_cells hS.out.r
              obtain ⟨cd0, cd1, _, _⟩ := two_cells hd
              go_wp2_with fail
              refine (h3.out _).mono ?_
              rintro e v10 ⟨rfl, hb⟩
              have hSn := Lib.hid (hS.out.next hb)
              have hdn := blk_below hb hd
              clear hb hS hd cp0 cp1 cq0 cq1 cr0 cr1 cd0 cd1
              have hS := hSn
              have hd := hdn
              clear hSn hdn
              obtain ⟨cp0, cp1, _, _⟩ := two_cells hS.out.p
              obtain ⟨cq0, cq1, _, _⟩ := two_cells hS.out.q
              obtain ⟨cr0, cr1, _, _⟩ := two_cells hS.out.r
              obtain ⟨cd0, cd1, _, _⟩ := two_cells hd
              go_wp2_with fail
              refine (h4.out _).mono ?_
              rintro e v11 ⟨rfl, hb⟩
              have hSn := Lib.hid (hS.out.next hb)
              have hdn := blk_below hb hd
              clear hb hS hd cp0 cp1 cq0 cq1 cr0 cr1 cd0 cd1
              have hS := hSn
              have hd := hdn
              clear hSn hdn
              obtain ⟨cp0, cp1, _, _⟩ := two_cells hS.out.p
              obtain ⟨cq0, cq1, _, _⟩ := two_cells hS.out.q
              obtain ⟨cr0, cr1, _, _⟩ := two_cells hS.out.r
              obtain ⟨cd0, cd1, _, _⟩ := two_cells hd
              go_wp2_with fail
              refine (h5.out _).mono ?_
              rintro e v12 ⟨rfl, hb⟩
              have hSn := Lib.hid (hS.out.next hb)
              have hdn := blk_below hb hd
              clear hb hS hd cp0 cp1 cq0 cq1 cr0 cr1 cd0 cd1
              have hS := hSn
              have hd := hdn
              clear hSn hdn
              obtain ⟨cp0, cp1, _, _⟩ := two_cells hS.out.p
              obtain ⟨cq0, cq1, _, _⟩ := two_cells hS.out.q
              obtain ⟨cr0, cr1, _, _⟩ := two_cells hS.out.r
              obtain ⟨cd0, cd1, _, _⟩ := two_cells hd
              go_wp2
              go_meet
              exact ⟨rfl, hS⟩
      case rest =>
        obtain ⟨rfl, hS2⟩ := hcut
        clear hS hd7 hin hmost dr
        have hS := hS2
        clear hS2
        obtain ⟨cp0, cp1, fp0, fp1⟩ := two_cells hS.out.p
        go_wp2_with fail
        refine (addrHalves_any A N _ pr.1 pr.2).mono ?_
        rintro e w8 ⟨rfl, hb8⟩
        have hS8 := Lib.hid (hS.out.next hb8)
        clear hS hb8 cp0 cp1 fp0 fp1
        have hlt := lt_of_block hS8.out.p
        by_cases h32 : N = 32
        · have hE5 := halfE_32 HP.out h32
          have hno := half_no (a := A) (n := N) (by rw [hE5]; decide)
          have hNe : (N == 32) = true := by simp [h32]
          rw [hE5, hno.1, hno.2.1, hno.2.2]
          have hS9 := Lib.hid (hS8.out.next (below2 w8 (.cells #[.int .u32 0, .int .i64 0] 25) (.cells #[.int .u32 0, .int .i64 0] 25)))
          obtain ⟨cp0, cp1, fp0, fp1⟩ := two_cells hS9.out.p
          clear hno hE5 h32
          go_wp2
          go_ret
          exact ⟨rfl, hS9.out.b⟩
        · have hE0 := halfE_ok HP.out h32
          have hye := half_yes hE0
          have hNe : (N == 32) = false := by simp [h32]
          have hal := halves_ok (x := x) HP.out pr.2 h32
          have hsz := sz_pos (N + 1)
          rw [hE0, hye.1, hye.2.1, hye.2.2]
          have hS9 := Lib.hid (hS8.out.next (below2 w8 (.cells #[.int .u32 A, .int .i64 (N + 1)] 25) (.cells #[.int .u32 (A + sz (N + 1)), .int .i64 (N + 1)] 25)))
          obtain ⟨t1, t2⟩ := blk2 w8 (.cells #[.int .u32 A, .int .i64 (N + 1)] 25) (.cells #[.int .u32 (A + sz (N + 1)), .int .i64 (N + 1)] 25)
          obtain ⟨cp0, cp1, fp0, fp1⟩ := two_cells hS9.out.p
          clear hye hE0 hS8
          have hi := Lib.hid hal.2.2.2.1
          have h4 : Hid (∀ v : World, Calls Tryd.prog 50 #[.agg #[.int .u32 A, .int .i64 (N + 1)], .agg #[.int .u32 (A + sz (N + 1)), .int .i64 (N + 1)]] v fun e w' => e = .returned (.int .i64 (-1)) ∧ Below v.heap.size v w') := Lib.hid (fun v => by have h := addrCmp_any A (N + 1) (A + sz (N + 1)) (N + 1) v; rw [hal.2.2.2.2.1] at h; exact h)
          have h5 := Lib.hid (winC pr.1 pr.2 pr.1 pr.2 hal.2.2.2.2.2.1)
          have h6 := Lib.hid (winC (by omega) hal.2.2.1 pr.1 pr.2 hal.2.2.2.2.2.2)
          have hh1 := hal.2.2.1
          clear hal h32
          go_upto_region 17 with fail
          generalize (w8.alloc (.cells #[.int .u32 A, .int .i64 (N + 1)] 25)).alloc (.cells #[.int .u32 (A + sz (N + 1)), .int .i64 (N + 1)] 25) = w9 at *
          generalize w8.heap.size = g5 at *
          obtain ⟨c10, c11, _, _⟩ := two_cells t1
          obtain ⟨c20, c21, _, _⟩ := two_cells t2
          have F10 := cell_regrown c10
          have F11 := cell_regrown c11
          have F20 := cell_regrown c20
          have F21 := cell_regrown c21
          have Fp0 := cell_regrown cp0
          have Fp1 := cell_regrown cp1
          clear t1 t2
          cases hi2 : inB x A (N + 1) with
          | false =>
            have h2 := Lib.hid (inC hx0 hx1 pr.1 pr.2 hi2)
            cases hi3 : inB x (A + sz (N + 1)) (N + 1) with
            | false =>
              have h3 := Lib.hid (inC hx0 hx1 (by omega) hh1 hi3)
              have h1 := Lib.hid (inC hx0 hx1 pr.1 pr.2 (show inB x A N = false by rw [hi.out, hi2, hi3]; rfl))
              clear hi hi2 hi3
              as_aux_lemma =>
                refine wp_region_quiet_below (by kernel_rfl) (by kernel_rfl) ?_
                repeat (first | go_big_quiet_step ((first | (go_at_call 23; with_reducible exact Calls.regrown_of (h1.out _)) | (go_at_call 23; with_reducible exact Calls.regrown_of (h2.out _)) | (go_at_call 23; with_reducible exact Calls.regrown_of (h3.out _)) | (go_at_call 50; with_reducible exact Calls.regrown_of (h4.out _)) | (go_at_call 24; with_reducible exact Calls.regrown_of (h5.out _)) | (go_at_call 24; with_reducible exact Calls.regrown_of (h6.out _)))) | quiet_step ((first | (go_at_call 23; with_reducible exact Calls.regrown_of (h1.out _)) | (go_at_call 23; with_reducible exact Calls.regrown_of (h2.out _)) | (go_at_call 23; with_reducible exact Calls.regrown_of (h3.out _)) | (go_at_call 50; with_reducible exact Calls.regrown_of (h4.out _)) | (go_at_call 24; with_reducible exact Calls.regrown_of (h5.out _)) | (go_at_call 24; with_reducible exact Calls.regrown_of (h6.out _)))))
                refine wpQuiet_nil ?_
                intro _ hw'
                obtain ⟨⟨nq, osq⟩, hw''⟩ := hw'
                subst hw''
                go_wp2
                go_ret
                exact ⟨rfl, (hS9.out.next (below_regrown _ nq osq)).b⟩
            | true =>
              have h3 := Lib.hid (inC hx0 hx1 (by omega) hh1 hi3)
              have h1 := Lib.hid (inC hx0 hx1 pr.1 pr.2 (show inB x A N = true by rw [hi.out, hi2, hi3]; rfl))
              clear hi hi2 hi3
              as_aux_lemma =>
                refine wp_region_quiet_below (by kernel_rfl) (by kernel_rfl) ?_
                repeat (first | go_big_quiet_step ((first | (go_at_call 23; with_reducible exact Calls.regrown_of (h1.out _)) | (go_at_call 23; with_reducible exact Calls.regrown_of (h2.out _)) | (go_at_call 23; with_reducible exact Calls.regrown_of (h3.out _)) | (go_at_call 50; with_reducible exact Calls.regrown_of (h4.out _)) | (go_at_call 24; with_reducible exact Calls.regrown_of (h5.out _)) | (go_at_call 24; with_reducible exact Calls.regrown_of (h6.out _)))) | quiet_step ((first | (go_at_call 23; with_reducible exact Calls.regrown_of (h1.out _)) | (go_at_call 23; with_reducible exact Calls.regrown_of (h2.out _)) | (go_at_call 23; with_reducible exact Calls.regrown_of (h3.out _)) | (go_at_call 50; with_reducible exact Calls.regrown_of (h4.out _)) | (go_at_call 24; with_reducible exact Calls.regrown_of (h5.out _)) | (go_at_call 24; with_reducible exact Calls.regrown_of (h6.out _)))))
                refine wpQuiet_nil ?_
                intro _ hw'
                obtain ⟨⟨nq, osq⟩, hw''⟩ := hw'
                subst hw''
                go_wp2
                go_ret
                exact ⟨rfl, (hS9.out.next (below_regrown _ nq osq)).b⟩
          | true =>
            have h2 := Lib.hid (inC hx0 hx1 pr.1 pr.2 hi2)
            cases hi3 : inB x (A + sz (N + 1)) (N + 1) with
            | false =>
              have h3 := Lib.hid (inC hx0 hx1 (by omega) hh1 hi3)
              have h1 := Lib.hid (inC hx0 hx1 pr.1 pr.2 (show inB x A N = true by rw [hi.out, hi2, hi3]; rfl))
              clear hi hi2 hi3
              as_aux_lemma =>
                refine wp_region_quiet_below (by kernel_rfl) (by kernel_rfl) ?_
                repeat (first | go_big_quiet_step ((first | (go_at_call 23; with_reducible exact Calls.regrown_of (h1.out _)) | (go_at_call 23; with_reducible exact Calls.regrown_of (h2.out _)) | (go_at_call 23; with_reducible exact Calls.regrown_of (h3.out _)) | (go_at_call 50; with_reducible exact Calls.regrown_of (h4.out _)) | (go_at_call 24; with_reducible exact Calls.regrown_of (h5.out _)) | (go_at_call 24; with_reducible exact Calls.regrown_of (h6.out _)))) | quiet_step ((first | (go_at_call 23; with_reducible exact Calls.regrown_of (h1.out _)) | (go_at_call 23; with_reducible exact Calls.regrown_of (h2.out _)) | (go_at_call 23; with_reducible exact Calls.regrown_of (h3.out _)) | (go_at_call 50; with_reducible exact Calls.regrown_of (h4.out _)) | (go_at_call 24; with_reducible exact Calls.regrown_of (h5.out _)) | (go_at_call 24; with_reducible exact Calls.regrown_of (h6.out _)))))
                refine wpQuiet_nil ?_
                intro _ hw'
                obtain ⟨⟨nq, osq⟩, hw''⟩ := hw'
                subst hw''
                go_wp2
                go_ret
                exact ⟨rfl, (hS9.out.next (below_regrown _ nq osq)).b⟩
            | true =>
              have h3 := Lib.hid (inC hx0 hx1 (by omega) hh1 hi3)
              have h1 := Lib.hid (inC hx0 hx1 pr.1 pr.2 (show inB x A N = false by rw [hi.out, hi2, hi3]; rfl))
              clear hi hi2 hi3
              as_aux_lemma =>
                refine wp_region_quiet_below (by kernel_rfl) (by kernel_rfl) ?_
                repeat (first | go_big_quiet_step ((first | (go_at_call 23; with_reducible exact Calls.regrown_of (h1.out _)) | (go_at_call 23; with_reducible exact Calls.regrown_of (h2.out _)) | (go_at_call 23; with_reducible exact Calls.regrown_of (h3.out _)) | (go_at_call 50; with_reducible exact Calls.regrown_of (h4.out _)) | (go_at_call 24; with_reducible exact Calls.regrown_of (h5.out _)) | (go_at_call 24; with_reducible exact Calls.regrown_of (h6.out _)))) | quiet_step ((first | (go_at_call 23; with_reducible exact Calls.regrown_of (h1.out _)) | (go_at_call 23; with_reducible exact Calls.regrown_of (h2.out _)) | (go_at_call 23; with_reducible exact Calls.regrown_of (h3.out _)) | (go_at_call 50; with_reducible exact Calls.regrown_of (h4.out _)) | (go_at_call 24; with_reducible exact Calls.regrown_of (h5.out _)) | (go_at_call 24; with_reducible exact Calls.regrown_of (h6.out _)))))
                refine wpQuiet_nil ?_
                intro _ hw'
                obtain ⟨⟨nq, osq⟩, hw''⟩ := hw'
                subst hw''
                go_wp2
                go_ret
                exact ⟨rfl, (hS9.out.next (below_regrown _ nq osq)).b⟩
end Go.Proofs.YtdlhpiknifcehaaDoor

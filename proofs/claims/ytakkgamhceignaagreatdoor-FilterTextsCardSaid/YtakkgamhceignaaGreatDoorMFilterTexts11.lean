/-
  Joined texts: Fx2, At5, Fx3.
-/
import Derived.Test.YtakkgamhceignaaGreatDoorMFilterTexts10
import Derived.Test.YtakkgamhceignaaGreatDoorMFilterTexts9
import Derived.Test.YtakkgamhceignaaGreatDoorMFilterTexts6
/-
  The walk of the document's text of a rule (written by wip/gen/genfx2.py).
-/
namespace Go.Proofs.YtakkgamhceignaaGreatDoor
open Go Go.RowKit Go.Sort

theorem bl_size {l : List UInt8} {k : Nat} (h : l.length ≤ k) : (⟨l.toArray⟩ : ByteArray).size ≤ k := by
  show l.toArray.size ≤ k
  simpa using h
theorem text_cat (x p q1 q2 q3 q4 : List UInt8) : (⟨(Lib.join [x, p, q1, q2, q3, q4] [32]).toArray⟩ : ByteArray) = (((((((((⟨(x ++ [32]).toArray⟩ ++ ⟨p.toArray⟩) ++ ⟨#[32]⟩) ++ ⟨q1.toArray⟩) ++ ⟨#[32]⟩) ++ ⟨q2.toArray⟩) ++ ⟨#[32]⟩) ++ ⟨q3.toArray⟩) ++ ⟨#[32]⟩) ++ ⟨q4.toArray⟩) := by
  rw [← joinC_join32]
  exact byte_ext (by simp [joinB32, ByteArray.data_append])
set_option maxRecDepth 100000 in
set_option maxHeartbeats 4000000 in
theorem refFtText_pn (r : RuleV) (w : World) (hmay : mayB r = true) (hperm : r.permit = true) (hpr : 0 ≤ r.proto) :
    Calls Tryz.prog 8 #[.agg #[.bool r.permit, .int .i64 r.proto, .int .u32 r.sa, .int .i64 r.sn, .int .u32 r.da, .int .i64 r.dn, .int .u32 r.sl, .int .u32 r.sh, .int .u32 r.dl, .int .u32 r.dh]] w fun e w' => e = .returned (.tuple #[.string ⟨r.told.toArray⟩, .int .i64 r.toldE]) ∧ Below w.heap.size w w' := by
  have hm := refMay_any r (w.alloc (ruleObj r))
  have hk0 := heap_alloc_new w (ruleObj r)
  have hb0 := below1 w (ruleObj r)
  have hW : w.alloc (.cells #[.bool r.permit, .int .i64 r.proto, .int .u32 r.sa, .int .i64 r.sn, .int .u32 r.da, .int .i64 r.dn, .int .u32 r.sl, .int .u32 r.sh, .int .u32 r.dl, .int .u32 r.dh] 29) = w.alloc (ruleObj r) := rfl
  rw [hmay] at hm
  have ht := Lib.hid (told_yes hmay)
  obtain ⟨m0, m1, m2, m3, m4, m5, m6, m7⟩ := mayB_ok hmay
  have k2 := chk_ok m2
  have k3 := chk_ok m3
  have HP := Lib.hid hperm
  have hwd : r.text = Lib.join [permitW, Lib.decDigits r.proto.toNat, prefT r.sa r.sn, prefT r.da r.dn, portT r.sl r.sh, portT r.dl r.dh] [32] := by
    unfold RuleV.text RuleV.words whatT protoT
    rw [hperm, if_pos hpr]
    rfl
  have hT := Lib.hid ((congrArg (fun l : List UInt8 => (⟨l.toArray⟩ : ByteArray)) hwd).trans (text_cat _ _ _ _ _ _))
  have dp : r.proto ≥ 0 := hpr
  have HN := Lib.hid (show ∀ W, Calls Tryz.prog 36 #[.int .i64 r.proto] W _ from fun W => refNumI_any r.proto hpr (by omega) W)
  have k1 := Lib.hid (show ∀ W, Calls Tryz.prog 37 #[.agg #[.int .u32 r.sa, .int .i64 r.sn]] W _ from fun W => refPrefI_any r.sa r.sn r.hsa (by omega) (by omega) W)
  have k2b := Lib.hid (show ∀ W, Calls Tryz.prog 37 #[.agg #[.int .u32 r.da, .int .i64 r.dn]] W _ from fun W => refPrefI_any r.da r.dn r.hda (by omega) (by omega) W)
  have k3b := Lib.hid (show ∀ W, Calls Tryz.prog 38 #[.agg #[.int .u32 r.sl, .int .u32 r.sh]] W _ from fun W => refPortT_any r.sl r.sh r.hsl r.hsh W)
  have k4 := Lib.hid (show ∀ W, Calls Tryz.prog 38 #[.agg #[.int .u32 r.dl, .int .u32 r.dh]] W _ from fun W => refPortT_any r.dl r.dh r.hdl r.hdh W)
  have z0 : (⟨(Lib.decDigits r.proto.toNat).toArray⟩ : ByteArray).size ≤ 20 := bl_size (by have := dec32 (n := r.proto.toNat) (by omega); omega)
  have z1 := bl_size (prefT_len (a := r.sa) k2.1 k2.2.1)
  have z2 := bl_size (prefT_len (a := r.da) k3.1 k3.2.1)
  have z3 := bl_size (portT_len r.hsl.2 r.hsh.2)
  have z4 := bl_size (portT_len r.hdl.2 r.hdh.2)
  clear hmay hperm m2 m3 hwd k2 k3
  go_enter Tryz.func8, Tryz.ntmps8
  go_upto_region 1 with fail
  try rw [hW]
  obtain ⟨c0, c1, c2, c3, c4, c5, c6, c7, c8, c9⟩ := rule_blk (r := r) hk0
  generalize w.alloc (ruleObj r) = W at *
  clear hW
  go_wp2_with fail
  refine hm.mono ?_
  rintro e w1 ⟨rfl, hb⟩
  have hk1 := blk_below hb hk0
  have hb1 := below_call hb0 hb
  clear hb hb0 hk0 c0 c1 c2 c3 c4 c5 c6 c7 c8 c9 hm
  obtain ⟨c0, c1, c2, c3, c4, c5, c6, c7, c8, c9⟩ := rule_blk (r := r) hk1
  rw [HP.out] at c0
  go_wp2_with fail
  refine (HN.out _).mono ?_
  rintro e w2 ⟨rfl, hb⟩
  have hk2 := blk_below hb hk1
  have hb2 := below_call hb1 hb
  clear hb hb1 hk1 c0 c1 c2 c3 c4 c5 c6 c7 c8 c9
  obtain ⟨c0, c1, c2, c3, c4, c5, c6, c7, c8, c9⟩ := rule_blk (r := r) hk2
  go_upto_region 8 with fail
  have F2 := cell_regrown c2
  have F3 := cell_regrown c3
  have F4 := cell_regrown c4
  have F5 := cell_regrown c5
  have F6 := cell_regrown c6
  have F7 := cell_regrown c7
  have F8 := cell_regrown c8
  have F9 := cell_regrown c9
  clear c0 c1 c2 c3 c4 c5 c6 c7 c8 c9
  generalize (⟨(Lib.decDigits r.proto.toNat).toArray⟩ : ByteArray) = q0 at *
  generalize (⟨(prefT r.sa r.sn).toArray⟩ : ByteArray) = q1 at *
  generalize (⟨(prefT r.da r.dn).toArray⟩ : ByteArray) = q2 at *
  generalize (⟨(portT r.sl r.sh).toArray⟩ : ByteArray) = q3 at *
  generalize (⟨(portT r.dl r.dh).toArray⟩ : ByteArray) = q4 at *
  refine wp_region_quiet_below (by kernel_rfl) (by kernel_rfl) ?_
  repeat (first | go_big_quiet_step ((first | (go_at_call 37; with_reducible exact Calls.regrown_of (k1.out _)) | (go_at_call 37; with_reducible exact Calls.regrown_of (k2b.out _)) | (go_at_call 38; with_reducible exact Calls.regrown_of (k3b.out _)) | (go_at_call 38; with_reducible exact Calls.regrown_of (k4.out _)))) | quiet_step ((first | (go_at_call 37; with_reducible exact Calls.regrown_of (k1.out _)) | (go_at_call 37; with_reducible exact Calls.regrown_of (k2b.out _)) | (go_at_call 38; with_reducible exact Calls.regrown_of (k3b.out _)) | (go_at_call 38; with_reducible exact Calls.regrown_of (k4.out _)))))
  refine wpQuiet_nil ?_
  intro _ hw'
  obtain ⟨⟨nq, osq⟩, hw''⟩ := hw'
  subst hw''
  go_wp2
  go_ret2
  exact ⟨by rw [ht.out.1, ht.out.2, hT.out]; rfl, hb2.trans ((below_regrown w2 nq osq).mono hb2.size)⟩
set_option maxRecDepth 100000 in
set_option maxHeartbeats 4000000 in
theorem refFtText_pa (r : RuleV) (w : World) (hmay : mayB r = true) (hperm : r.permit = true) (hpr : ¬ 0 ≤ r.proto) :
    Calls Tryz.prog 8 #[.agg #[.bool r.permit, .int .i64 r.proto, .int .u32 r.sa, .int .i64 r.sn, .int .u32 r.da, .int .i64 r.dn, .int .u32 r.sl, .int .u32 r.sh, .int .u32 r.dl, .int .u32 r.dh]] w fun e w' => e = .returned (.tuple #[.string ⟨r.told.toArray⟩, .int .i64 r.toldE]) ∧ Below w.heap.size w w' := by
  have hm := refMay_any r (w.alloc (ruleObj r))
  have hk0 := heap_alloc_new w (ruleObj r)
  have hb0 := below1 w (ruleObj r)
  have hW : w.alloc (.cells #[.bool r.permit, .int .i64 r.proto, .int .u32 r.sa, .int .i64 r.sn, .int .u32 r.da, .int .i64 r.dn, .int .u32 r.sl, .int .u32 r.sh, .int .u32 r.dl, .int .u32 r.dh] 29) = w.alloc (ruleObj r) := rfl
  rw [hmay] at hm
  have ht := Lib.hid (told_yes hmay)
  obtain ⟨m0, m1, m2, m3, m4, m5, m6, m7⟩ := mayB_ok hmay
  have k2 := chk_ok m2
  have k3 := chk_ok m3
  have HP := Lib.hid hperm
  have hwd : r.text = Lib.join [permitW, anyW, prefT r.sa r.sn, prefT r.da r.dn, portT r.sl r.sh, portT r.dl r.dh] [32] := by
    unfold RuleV.text RuleV.words whatT protoT
    rw [hperm, if_neg hpr]
    rfl
  have hT := Lib.hid ((congrArg (fun l : List UInt8 => (⟨l.toArray⟩ : ByteArray)) hwd).trans (text_cat _ _ _ _ _ _))
  have dp : ¬ r.proto ≥ 0 := hpr
  have k1 := Lib.hid (show ∀ W, Calls Tryz.prog 37 #[.agg #[.int .u32 r.sa, .int .i64 r.sn]] W _ from fun W => refPrefI_any r.sa r.sn r.hsa (by omega) (by omega) W)
  have k2b := Lib.hid (show ∀ W, Calls Tryz.prog 37 #[.agg #[.int .u32 r.da, .int .i64 r.dn]] W _ from fun W => refPrefI_any r.da r.dn r.hda (by omega) (by omega) W)
  have k3b := Lib.hid (show ∀ W, Calls Tryz.prog 38 #[.agg #[.int .u32 r.sl, .int .u32 r.sh]] W _ from fun W => refPortT_any r.sl r.sh r.hsl r.hsh W)
  have k4 := Lib.hid (show ∀ W, Calls Tryz.prog 38 #[.agg #[.int .u32 r.dl, .int .u32 r.dh]] W _ from fun W => refPortT_any r.dl r.dh r.hdl r.hdh W)
  have z0 : (⟨(anyW).toArray⟩ : ByteArray).size ≤ 20 := bl_size (by decide)
  have z1 := bl_size (prefT_len (a := r.sa) k2.1 k2.2.1)
  have z2 := bl_size (prefT_len (a := r.da) k3.1 k3.2.1)
  have z3 := bl_size (portT_len r.hsl.2 r.hsh.2)
  have z4 := bl_size (portT_len r.hdl.2 r.hdh.2)
  clear hmay hperm m2 m3 hwd k2 k3
  go_enter Tryz.func8, Tryz.ntmps8
  go_upto_region 1 with fail
  try rw [hW]
  obtain ⟨c0, c1, c2, c3, c4, c5, c6, c7, c8, c9⟩ := rule_blk (r := r) hk0
  generalize w.alloc (ruleObj r) = W at *
  clear hW
  go_wp2_with fail
  refine hm.mono ?_
  rintro e w1 ⟨rfl, hb⟩
  have hk1 := blk_below hb hk0
  have hb1 := below_call hb0 hb
  clear hb hb0 hk0 c0 c1 c2 c3 c4 c5 c6 c7 c8 c9 hm
  obtain ⟨c0, c1, c2, c3, c4, c5, c6, c7, c8, c9⟩ := rule_blk (r := r) hk1
  rw [HP.out] at c0
  go_upto_region 8 with fail
  have F2 := cell_regrown c2
  have F3 := cell_regrown c3
  have F4 := cell_regrown c4
  have F5 := cell_regrown c5
  have F6 := cell_regrown c6
  have F7 := cell_regrown c7
  have F8 := cell_regrown c8
  have F9 := cell_regrown c9
  clear c0 c1 c2 c3 c4 c5 c6 c7 c8 c9
  skip
  generalize (⟨(prefT r.sa r.sn).toArray⟩ : ByteArray) = q1 at *
  generalize (⟨(prefT r.da r.dn).toArray⟩ : ByteArray) = q2 at *
  generalize (⟨(portT r.sl r.sh).toArray⟩ : ByteArray) = q3 at *
  generalize (⟨(portT r.dl r.dh).toArray⟩ : ByteArray) = q4 at *
  refine wp_region_quiet_below (by kernel_rfl) (by kernel_rfl) ?_
  repeat (first | go_big_quiet_step ((first | (go_at_call 37; with_reducible exact Calls.regrown_of (k1.out _)) | (go_at_call 37; with_reducible exact Calls.regrown_of (k2b.out _)) | (go_at_call 38; with_reducible exact Calls.regrown_of (k3b.out _)) | (go_at_call 38; with_reducible exact Calls.regrown_of (k4.out _)))) | quiet_step ((first | (go_at_call 37; with_reducible exact Calls.regrown_of (k1.out _)) | (go_at_call 37; with_reducible exact Calls.regrown_of (k2b.out _)) | (go_at_call 38; with_reducible exact Calls.regrown_of (k3b.out _)) | (go_at_call 38; with_reducible exact Calls.regrown_of (k4.out _)))))
  refine wpQuiet_nil ?_
  intro _ hw'
  obtain ⟨⟨nq, osq⟩, hw''⟩ := hw'
  subst hw''
  go_wp2
  go_ret2
  exact ⟨by rw [ht.out.1, ht.out.2, hT.out]; rfl, hb1.trans ((below_regrown w1 nq osq).mono hb1.size)⟩
set_option maxRecDepth 100000 in
set_option maxHeartbeats 4000000 in
theorem refFtText_dn (r : RuleV) (w : World) (hmay : mayB r = true) (hperm : r.permit = false) (hpr : 0 ≤ r.proto) :
    Calls Tryz.prog 8 #[.agg #[.bool r.permit, .int .i64 r.proto, .int .u32 r.sa, .int .i64 r.sn, .int .u32 r.da, .int .i64 r.dn, .int .u32 r.sl, .int .u32 r.sh, .int .u32 r.dl, .int .u32 r.dh]] w fun e w' => e = .returned (.tuple #[.string ⟨r.told.toArray⟩, .int .i64 r.toldE]) ∧ Below w.heap.size w w' := by
  have hm := refMay_any r (w.alloc (ruleObj r))
  have hk0 := heap_alloc_new w (ruleObj r)
  have hb0 := below1 w (ruleObj r)
  have hW : w.alloc (.cells #[.bool r.permit, .int .i64 r.proto, .int .u32 r.sa, .int .i64 r.sn, .int .u32 r.da, .int .i64 r.dn, .int .u32 r.sl, .int .u32 r.sh, .int .u32 r.dl, .int .u32 r.dh] 29) = w.alloc (ruleObj r) := rfl
  rw [hmay] at hm
  have ht := Lib.hid (told_yes hmay)
  obtain ⟨m0, m1, m2, m3, m4, m5, m6, m7⟩ := mayB_ok hmay
  have k2 := chk_ok m2
  have k3 := chk_ok m3
  have HP := Lib.hid hperm
  have hwd : r.text = Lib.join [denyW, Lib.decDigits r.proto.toNat, prefT r.sa r.sn, prefT r.da r.dn, portT r.sl r.sh, portT r.dl r.dh] [32] := by
    unfold RuleV.text RuleV.words whatT protoT
    rw [hperm, if_pos hpr]
    rfl
  have hT := Lib.hid ((congrArg (fun l : List UInt8 => (⟨l.toArray⟩ : ByteArray)) hwd).trans (text_cat _ _ _ _ _ _))
  have dp : r.proto ≥ 0 := hpr
  have HN := Lib.hid (show ∀ W, Calls Tryz.prog 36 #[.int .i64 r.proto] W _ from fun W => refNumI_any r.proto hpr (by omega) W)
  have k1 := Lib.hid (show ∀ W, Calls Tryz.prog 37 #[.agg #[.int .u32 r.sa, .int .i64 r.sn]] W _ from fun W => refPrefI_any r.sa r.sn r.hsa (by omega) (by omega) W)
  have k2b := Lib.hid (show ∀ W, Calls Tryz.prog 37 #[.agg #[.int .u32 r.da, .int .i64 r.dn]] W _ from fun W => refPrefI_any r.da r.dn r.hda (by omega) (by omega) W)
  have k3b := Lib.hid (show ∀ W, Calls Tryz.prog 38 #[.agg #[.int .u32 r.sl, .int .u32 r.sh]] W _ from fun W => refPortT_any r.sl r.sh r.hsl r.hsh W)
  have k4 := Lib.hid (show ∀ W, Calls Tryz.prog 38 #[.agg #[.int .u32 r.dl, .int .u32 r.dh]] W _ from fun W => refPortT_any r.dl r.dh r.hdl r.hdh W)
  have z0 : (⟨(Lib.decDigits r.proto.toNat).toArray⟩ : ByteArray).size ≤ 20 := bl_size (by have := dec32 (n := r.proto.toNat) (by omega); omega)
  have z1 := bl_size (prefT_len (a := r.sa) k2.1 k2.2.1)
  have z2 := bl_size (prefT_len (a := r.da) k3.1 k3.2.1)
  have z3 := bl_size (portT_len r.hsl.2 r.hsh.2)
  have z4 := bl_size (portT_len r.hdl.2 r.hdh.2)
  clear hmay hperm m2 m3 hwd k2 k3
  go_enter Tryz.func8, Tryz.ntmps8
  go_upto_region 1 with fail
  try rw [hW]
  obtain ⟨c0, c1, c2, c3, c4, c5, c6, c7, c8, c9⟩ := rule_blk (r := r) hk0
  generalize w.alloc (ruleObj r) = W at *
  clear hW
  go_wp2_with fail
  refine hm.mono ?_
  rintro e w1 ⟨rfl, hb⟩
  have hk1 := blk_below hb hk0
  have hb1 := below_call hb0 hb
  clear hb hb0 hk0 c0 c1 c2 c3 c4 c5 c6 c7 c8 c9 hm
  obtain ⟨c0, c1, c2, c3, c4, c5, c6, c7, c8, c9⟩ := rule_blk (r := r) hk1
  rw [HP.out] at c0
  go_wp2_with fail
  refine (HN.out _).mono ?_
  rintro e w2 ⟨rfl, hb⟩
  have hk2 := blk_below hb hk1
  have hb2 := below_call hb1 hb
  clear hb hb1 hk1 c0 c1 c2 c3 c4 c5 c6 c7 c8 c9
  obtain ⟨c0, c1, c2, c3, c4, c5, c6, c7, c8, c9⟩ := rule_blk (r := r) hk2
  go_upto_region 8 with fail
  have F2 := cell_regrown c2
  have F3 := cell_regrown c3
  have F4 := cell_regrown c4
  have F5 := cell_regrown c5
  have F6 := cell_regrown c6
  have F7 := cell_regrown c7
  have F8 := cell_regrown c8
  have F9 := cell_regrown c9
  clear c0 c1 c2 c3 c4 c5 c6 c7 c8 c9
  generalize (⟨(Lib.decDigits r.proto.toNat).toArray⟩ : ByteArray) = q0 at *
  generalize (⟨(prefT r.sa r.sn).toArray⟩ : ByteArray) = q1 at *
  generalize (⟨(prefT r.da r.dn).toArray⟩ : ByteArray) = q2 at *
  generalize (⟨(portT r.sl r.sh).toArray⟩ : ByteArray) = q3 at *
  generalize (⟨(portT r.dl r.dh).toArray⟩ : ByteArray) = q4 at *
  refine wp_region_quiet_below (by kernel_rfl) (by kernel_rfl) ?_
  repeat (first | go_big_quiet_step ((first | (go_at_call 37; with_reducible exact Calls.regrown_of (k1.out _)) | (go_at_call 37; with_reducible exact Calls.regrown_of (k2b.out _)) | (go_at_call 38; with_reducible exact Calls.regrown_of (k3b.out _)) | (go_at_call 38; with_reducible exact Calls.regrown_of (k4.out _)))) | quiet_step ((first | (go_at_call 37; with_reducible exact Calls.regrown_of (k1.out _)) | (go_at_call 37; with_reducible exact Calls.regrown_of (k2b.out _)) | (go_at_call 38; with_reducible exact Calls.regrown_of (k3b.out _)) | (go_at_call 38; with_reducible exact Calls.regrown_of (k4.out _)))))
  refine wpQuiet_nil ?_
  intro _ hw'
  obtain ⟨⟨nq, osq⟩, hw''⟩ := hw'
  subst hw''
  go_wp2
  go_ret2
  exact ⟨by rw [ht.out.1, ht.out.2, hT.out]; rfl, hb2.trans ((below_regrown w2 nq osq).mono hb2.size)⟩
set_option maxRecDepth 100000 in
set_option maxHeartbeats 4000000 in
theorem refFtText_da (r : RuleV) (w : World) (hmay : mayB r = true) (hperm : r.permit = false) (hpr : ¬ 0 ≤ r.proto) :
    Calls Tryz.prog 8 #[.agg #[.bool r.permit, .int .i64 r.proto, .int .u32 r.sa, .int .i64 r.sn, .int .u32 r.da, .int .i64 r.dn, .int .u32 r.sl, .int .u32 r.sh, .int .u32 r.dl, .int .u32 r.dh]] w fun e w' => e = .returned (.tuple #[.string ⟨r.told.toArray⟩, .int .i64 r.toldE]) ∧ Below w.heap.size w w' := by
  have hm := refMay_any r (w.alloc (ruleObj r))
  have hk0 := heap_alloc_new w (ruleObj r)
  have hb0 := below1 w (ruleObj r)
  have hW : w.alloc (.cells #[.bool r.permit, .int .i64 r.proto, .int .u32 r.sa, .int .i64 r.sn, .int .u32 r.da, .int .i64 r.dn, .int .u32 r.sl, .int .u32 r.sh, .int .u32 r.dl, .int .u32 r.dh] 29) = w.alloc (ruleObj r) := rfl
  rw [hmay] at hm
  have ht := Lib.hid (told_yes hmay)
  obtain ⟨m0, m1, m2, m3, m4, m5, m6, m7⟩ := mayB_ok hmay
  have k2 := chk_ok m2
  have k3 := chk_ok m3
  have HP := Lib.hid hperm
  have hwd : r.text = Lib.join [denyW, anyW, prefT r.sa r.sn, prefT r.da r.dn, portT r.sl r.sh, portT r.dl r.dh] [32] := by
    unfold RuleV.text RuleV.words whatT protoT
    rw [hperm, if_neg hpr]
    rfl
  have hT := Lib.hid ((congrArg (fun l : List UInt8 => (⟨l.toArray⟩ : ByteArray)) hwd).trans (text_cat _ _ _ _ _ _))
  have dp : ¬ r.proto ≥ 0 := hpr
  have k1 := Lib.hid (show ∀ W, Calls Tryz.prog 37 #[.agg #[.int .u32 r.sa, .int .i64 r.sn]] W _ from fun W => refPrefI_any r.sa r.sn r.hsa (by omega) (by omega) W)
  have k2b := Lib.hid (show ∀ W, Calls Tryz.prog 37 #[.agg #[.int .u32 r.da, .int .i64 r.dn]] W _ from fun W => refPrefI_any r.da r.dn r.hda (by omega) (by omega) W)
  have k3b := Lib.hid (show ∀ W, Calls Tryz.prog 38 #[.agg #[.int .u32 r.sl, .int .u32 r.sh]] W _ from fun W => refPortT_any r.sl r.sh r.hsl r.hsh W)
  have k4 := Lib.hid (show ∀ W, Calls Tryz.prog 38 #[.agg #[.int .u32 r.dl, .int .u32 r.dh]] W _ from fun W => refPortT_any r.dl r.dh r.hdl r.hdh W)
  have z0 : (⟨(anyW).toArray⟩ : ByteArray).size ≤ 20 := bl_size (by decide)
  have z1 := bl_size (prefT_len (a := r.sa) k2.1 k2.2.1)
  have z2 := bl_size (prefT_len (a := r.da) k3.1 k3.2.1)
  have z3 := bl_size (portT_len r.hsl.2 r.hsh.2)
  have z4 := bl_size (portT_len r.hdl.2 r.hdh.2)
  clear hmay hperm m2 m3 hwd k2 k3
  go_enter Tryz.func8, Tryz.ntmps8
  go_upto_region 1 with fail
  try rw [hW]
  obtain ⟨c0, c1, c2, c3, c4, c5, c6, c7, c8, c9⟩ := rule_blk (r := r) hk0
  generalize w.alloc (ruleObj r) = W at *
  clear hW
  go_wp2_with fail
  refine hm.mono ?_
  rintro e w1 ⟨rfl, hb⟩
  have hk1 := blk_below hb hk0
  have hb1 := below_call hb0 hb
  clear hb hb0 hk0 c0 c1 c2 c3 c4 c5 c6 c7 c8 c9 hm
  obtain ⟨c0, c1, c2, c3, c4, c5, c6, c7, c8, c9⟩ := rule_blk (r := r) hk1
  rw [HP.out] at c0
  go_upto_region 8 with fail
  have F2 := cell_regrown c2
  have F3 := cell_regrown c3
  have F4 := cell_regrown c4
  have F5 := cell_regrown c5
  have F6 := cell_regrown c6
  have F7 := cell_regrown c7
  have F8 := cell_regrown c8
  have F9 := cell_regrown c9
  clear c0 c1 c2 c3 c4 c5 c6 c7 c8 c9
  skip
  generalize (⟨(prefT r.sa r.sn).toArray⟩ : ByteArray) = q1 at *
  generalize (⟨(prefT r.da r.dn).toArray⟩ : ByteArray) = q2 at *
  generalize (⟨(portT r.sl r.sh).toArray⟩ : ByteArray) = q3 at *
  generalize (⟨(portT r.dl r.dh).toArray⟩ : ByteArray) = q4 at *
  refine wp_region_quiet_below (by kernel_rfl) (by kernel_rfl) ?_
  repeat (first | go_big_quiet_step ((first | (go_at_call 37; with_reducible exact Calls.regrown_of (k1.out _)) | (go_at_call 37; with_reducible exact Calls.regrown_of (k2b.out _)) | (go_at_call 38; with_reducible exact Calls.regrown_of (k3b.out _)) | (go_at_call 38; with_reducible exact Calls.regrown_of (k4.out _)))) | quiet_step ((first | (go_at_call 37; with_reducible exact Calls.regrown_of (k1.out _)) | (go_at_call 37; with_reducible exact Calls.regrown_of (k2b.out _)) | (go_at_call 38; with_reducible exact Calls.regrown_of (k3b.out _)) | (go_at_call 38; with_reducible exact Calls.regrown_of (k4.out _)))))
  refine wpQuiet_nil ?_
  intro _ hw'
  obtain ⟨⟨nq, osq⟩, hw''⟩ := hw'
  subst hw''
  go_wp2
  go_ret2
  exact ⟨by rw [ht.out.1, ht.out.2, hT.out]; rfl, hb1.trans ((below_regrown w1 nq osq).mono hb1.size)⟩
set_option maxRecDepth 100000 in
set_option maxHeartbeats 2000000 in
theorem refFtText_no (r : RuleV) (w : World) (hmay : mayB r = false) :
    Calls Tryz.prog 8 #[.agg #[.bool r.permit, .int .i64 r.proto, .int .u32 r.sa, .int .i64 r.sn, .int .u32 r.da, .int .i64 r.dn, .int .u32 r.sl, .int .u32 r.sh, .int .u32 r.dl, .int .u32 r.dh]] w fun e w' => e = .returned (.tuple #[.string ⟨r.told.toArray⟩, .int .i64 r.toldE]) ∧ Below w.heap.size w w' := by
  have hm := refMay_any r (w.alloc (ruleObj r))
  have hk0 := heap_alloc_new w (ruleObj r)
  have hb0 := below1 w (ruleObj r)
  have hW : w.alloc (.cells #[.bool r.permit, .int .i64 r.proto, .int .u32 r.sa, .int .i64 r.sn, .int .u32 r.da, .int .i64 r.dn, .int .u32 r.sl, .int .u32 r.sh, .int .u32 r.dl, .int .u32 r.dh] 29) = w.alloc (ruleObj r) := rfl
  rw [hmay] at hm
  have ht := Lib.hid (told_no hmay)
  clear hmay
  go_enter Tryz.func8, Tryz.ntmps8
  go_upto_region 1 with fail
  try rw [hW]
  obtain ⟨c0, c1, c2, c3, c4, c5, c6, c7, c8, c9⟩ := rule_blk (r := r) hk0
  generalize w.alloc (ruleObj r) = W at *
  clear hW
  go_wp2_with fail
  refine hm.mono ?_
  rintro e w1 ⟨rfl, hb⟩
  have hb1 := below_call hb0 hb
  go_wp2
  go_ret2
  exact ⟨by rw [ht.out.1, ht.out.2]; rfl, hb1⟩
theorem refFtText_any (r : RuleV) (w : World) :
    Calls Tryz.prog 8 #[.agg #[.bool r.permit, .int .i64 r.proto, .int .u32 r.sa, .int .i64 r.sn, .int .u32 r.da, .int .i64 r.dn, .int .u32 r.sl, .int .u32 r.sh, .int .u32 r.dl, .int .u32 r.dh]] w fun e w' => e = .returned (.tuple #[.string ⟨r.told.toArray⟩, .int .i64 r.toldE]) ∧ Below w.heap.size w w' := by
  cases hm : mayB r with
  | false => exact refFtText_no r w hm
  | true =>
    cases hp : r.permit with
    | true =>
      by_cases h : 0 ≤ r.proto
      · have := refFtText_pn r w hm hp h
        rw [hp] at this; exact this
      · have := refFtText_pa r w hm hp h
        rw [hp] at this; exact this
    | false =>
      by_cases h : 0 ≤ r.proto
      · have := refFtText_dn r w hm hp h
        rw [hp] at this; exact this
      · have := refFtText_da r w hm hp h
        rw [hp] at this; exact this
end Go.Proofs.YtakkgamhceignaaGreatDoor

/-
  Walks over the document's addresses: ParsePrefix.
-/
namespace Go.Proofs.YtakkgamhceignaaGreatDoor
open Go Go.RowKit Go.Sort

theorem cut_none {l : List UInt8} (h : (47 : UInt8) ∉ l) : ppO l = none := by
  unfold ppO
  rw [if_neg]
  intro hc
  have e := cut_back (l := l) (c := 47) (x := (Lib.cut l [47]).1) (y := (Lib.cut l [47]).2.1) (by rw [← hc])
  exact h (by rw [e]; simp)
theorem ppO_at {l x y : List UInt8} (h : l = x ++ 47 :: y) (hx : (47 : UInt8) ∉ x) : ppO l = (parseB x).bind fun a => (readB y 32).map fun n => (a, n) := by
  unfold ppO
  rw [h, cut_hit1 _ hx]
  rfl
theorem split_at {l : List UInt8} {k : Nat} {c : UInt8} (h : l[k]? = some c) : l = l.take k ++ c :: l.drop (k + 1) := by
  have hkl := (List.getElem?_eq_some_iff.1 h).1
  have e : l.drop k = c :: l.drop (k + 1) := by
    rw [List.drop_eq_getElem_cons hkl]
    congr 1
    exact Option.some.inj ((List.getElem?_eq_getElem hkl).symm.trans h)
  rw [← e, List.take_append_drop]
theorem take_no {l : List UInt8} {k : Nat} {c x : UInt8} (h : c ∉ l.take k) (hk : l[k]? = some x) (hx : x ≠ c) : c ∉ l.take (k + 1) := by
  rw [List.take_add_one, hk]
  intro hm
  rcases List.mem_append.1 hm with hm | hm
  · exact h hm
  · simp at hm; exact hx hm.symm

set_option maxRecDepth 100000 in
set_option maxHeartbeats 4000000 in
theorem refParsePrefix_any (s : ByteArray) (w : World) (hlim : s.size < 4294967281) :
    Calls Tryz.prog 44 #[.string s] w fun e w' => e = .returned (.tuple #[.agg #[.int .u32 (ppA s.data.toList), .int .i64 (ppN s.data.toList)], .int .i64 (ppE s.data.toList)]) ∧ Below w.heap.size w w' := by
  have HS := Lib.hid (show s.size = s.data.toList.length from (Array.length_toList).symm)
  have t9 := Tryz.underlying9
  have HQ := Lib.hid (show ∀ (i : Nat) (h : i < s.size), Hid (s.data.toList[i]? = some (s[i]'h)) from fun i h => Lib.hid (by
    rw [Array.getElem?_toList]
    exact Array.getElem?_eq_getElem (xs := s.data) (i := i) h))
  have hk0 := heap_alloc_new w (.cells #[.int .u32 0, .int .i64 0] 25)
  have hb0 : Below w.heap.size w (w.alloc (.cells #[.int .u32 0, .int .i64 0] 25)) := (Below.refl _ _).alloc (Nat.le_refl _) _
  go_enter Tryz.func44, Tryz.ntmps44
  go_wp2
  generalize w.alloc (.cells #[.int .u32 0, .int .i64 0] 25) = W at *
  have hsz0 : w.heap.size < W.heap.size := lt_of_block hk0
  go_loop [4] (fun i => ∃ k : Nat, i = .int .i64 k ∧ k ≤ s.size ∧ Hid ((47 : UInt8) ∉ s.data.toList.take k)) (fun i => s.size - (intOf i).toNat)
  case atStart => exact ⟨0, rfl, by omega, Lib.hid (by simp)⟩
  case round =>
    obtain ⟨k, rfl, hk, hno⟩ := hrel
    obtain ⟨c0, c1, f0, f1⟩ := two_cells hk0
    have HK := Lib.hid hk0
    clear hk0
    by_cases hlt : k < s.size
    · have hI3 : (k : Int) < (s.size : Int) := by omega
      have hI4 : (0 : Int) ≤ k := by omega
      have hI5 : (k : Int) ≤ (s.size : Int) := by omega
      have hx := HQ.out k hlt
      obtain ⟨v, hv⟩ : ∃ v : Int, ((s[k]'hlt).toNat : Int) = v := ⟨_, rfl⟩
      by_cases h47 : s[k]'hlt = 47
      · have hv2 : (v == 47) = true := by rw [← hv, h47]; rfl
        have hO := Lib.hid (ppO_at (split_at (by rw [hx.out, h47])) hno.out)
        have e1 : (s.extract 0 k).data.toList = s.data.toList.take k := by rw [Lib.extract_data]; simp
        have e2 : (s.extract (k + 1) s.size).data.toList = s.data.toList.drop (k + 1) := by rw [Lib.extract_data, HS.out]; exact List.take_of_length_le (by simp)
        have hP := Lib.hid (show ∀ u : World, Calls Tryz.prog 65 #[.string (s.extract 0 k)] u fun e w' => e = .returned (.tuple #[.int .u32 (adV (parseB (s.data.toList.take k))), .int .i64 (adE (parseB (s.data.toList.take k)))]) ∧ Below u.heap.size u w' from fun u => by
          have h := refParse_any (s.extract 0 k) u (by have h1 : (s.extract 0 k).size = (s.extract 0 k).data.toList.length := (Array.length_toList).symm; rw [h1, e1, List.length_take]; omega)
          rw [e1] at h; exact h)
        have hR := Lib.hid (show ∀ u : World, Calls Tryz.prog 43 #[.string (s.extract (k + 1) s.size), .int .i64 32] u fun e w' => e = .returned (.int .i64 (rdV (s.data.toList.drop (k + 1)) 32)) ∧ u = w' from fun u => by
          have h := refRead_any (s.extract (k + 1) s.size) 32 (by omega) u
          rw [e2] at h; exact h)
        clear e1 e2 h47 hx hno
        generalize s.data.toList.take k = x at *
        generalize s.data.toList.drop (k + 1) = y at *
        go_wp2_with fail
        refine (hP.out _).mono ?_
        rintro e w1 ⟨rfl, hb1⟩
        have hbw := hb0.trans (hb1.mono hb0.size)
        have K1 := blk_below hb1 HK.out
        clear c0 c1 f0 f1 hb1
        obtain ⟨c0, c1, f0, f1⟩ := two_cells K1
        have hsz1 := lt_of_block K1
        have HK1 := Lib.hid K1
        clear K1
        go_wp2_with fail
        refine (hR.out _).mono ?_
        rintro e w2 ⟨rfl, rfl⟩
        cases ha : parseB x with
        | none =>
          have ea : adE (none : Option Nat) = 4 := rfl
          have hN := Lib.hid (pp_none (l := s.data.toList) (by rw [hO.out]; simp [ha]))
          clear hO
          go_wp2
          exact bodyPost_ret (results_p (t1 := 2) (t3 := 3) (g := w.heap.size) Tryz.results44 rfl rfl (set_1 (set_0 HK1.out))) rfl ⟨ret_p2 ⟨hN.out.2.1.symm, hN.out.2.2.symm, hN.out.1.symm⟩, (hbw.setCell (Nat.le_refl _) _).setCell (Nat.le_refl _) _⟩
        | some a =>
        have ea : adE (some a) = 0 := rfl
        have ev : adV (some a) = (a : Int) := rfl
        have hal := parseB_lt ha
        cases hb : readB y 32 with
        | none =>
          have hr := rdV_none hb
          have hN := Lib.hid (pp_none (l := s.data.toList) (by rw [hO.out]; simp [ha, hb]))
          clear hO
          go_wp2
          exact bodyPost_ret (results_p (t1 := 2) (t3 := 3) (g := w.heap.size) Tryz.results44 rfl rfl (set_1 (set_0 HK1.out))) rfl ⟨ret_p2 ⟨hN.out.2.1.symm, hN.out.2.2.symm, hN.out.1.symm⟩, (hbw.setCell (Nat.le_refl _) _).setCell (Nat.le_refl _) _⟩
        | some n =>
          have hr := rdV_some hb
          have hnl := readB_le hb
          have hO2 := Lib.hid (show ppO s.data.toList = some (a, n) by rw [hO.out, ha]; simp [hb])
          have hn0 : ¬ (n : Int) < 0 := by omega
          clear hO
          by_cases hc : chk a n = 0
          · have hd : (chk a n != 0) = false := by simp [hc]
            have hY := Lib.hid (pp_yes hO2.out hc)
            clear hc ha hb
            go_wp2_with fail
            refine (refCheck_any _ _ _ (by omega) (by omega)).mono ?_
            rintro e w4 ⟨rfl, hb4⟩
            have K3 := blk_below hb4 ((Below.heap_alloc w1 (.cells #[.int .u32 a, .int .i64 n] 25) _ hsz1).trans HK1.out)
            have K4 := blk_below hb4 (blk1 w1 (.cells #[.int .u32 a, .int .i64 n] 25))
            have hbw4 := below_call (hbw.alloc hbw.size _) hb4
            clear c0 c1 f0 f1 hb4
            obtain ⟨c0, c1, f0, f1⟩ := two_cells K3
            obtain ⟨c2, c3, f2, f3⟩ := two_cells K4
            have HK4 := Lib.hid K3
            have hne : w.heap.size ≠ w1.heap.size := by omega
            clear K3 K4
            go_wp2
            exact bodyPost_ret (results_p (t1 := 2) (t3 := 3) (g := w.heap.size) Tryz.results44 rfl rfl (set_1 (set_0 HK4.out))) rfl ⟨ret_p2 ⟨hY.out.2.1.symm, hY.out.2.2.symm, hY.out.1.symm⟩, (hbw4.setCell (Nat.le_refl _) _).setCell (Nat.le_refl _) _⟩
          · have hd : (chk a n != 0) = true := by simp [hc]
            have hY := Lib.hid (pp_no hO2.out hc)
            have h10 := Lib.hid (show chk (a : Int) (n : Int) = 10 from by
              rcases (show (a : Int) % sz n = 0 ∨ ¬ (a : Int) % sz n = 0 by omega) with h | h
              · exact absurd (chk_zero a n (by omega) (by omega) h) hc
              · exact chk_mask a n (by omega) (by omega) h)
            clear hc ha hb
            go_wp2_with fail
            refine (refCheck_any _ _ _ (by omega) (by omega)).mono ?_
            rintro e w4 ⟨rfl, hb4⟩
            have K3 := blk_below hb4 ((Below.heap_alloc w1 (.cells #[.int .u32 a, .int .i64 n] 25) _ hsz1).trans HK1.out)
            have K4 := blk_below hb4 (blk1 w1 (.cells #[.int .u32 a, .int .i64 n] 25))
            have hbw4 := below_call (hbw.alloc hbw.size _) hb4
            clear c0 c1 f0 f1 hb4
            obtain ⟨c0, c1, f0, f1⟩ := two_cells K3
            obtain ⟨c2, c3, f2, f3⟩ := two_cells K4
            have HK4 := Lib.hid K3
            have hne : w.heap.size ≠ w1.heap.size := by omega
            clear K3 K4
            go_wp2
            exact bodyPost_ret (results_p (t1 := 2) (t3 := 3) (g := w.heap.size) Tryz.results44 rfl rfl (set_1 (set_0 HK4.out))) rfl ⟨ret_p2 ⟨hY.out.2.1.symm, hY.out.2.2.symm, by rw [hY.out.1, h10.out]⟩, (hbw4.setCell (Nat.le_refl _) _).setCell (Nat.le_refl _) _⟩
      · have hv2 : (v == 47) = false := by
          simp
          intro h
          apply h47
          apply UInt8.toNat_inj.1
          have : (47 : UInt8).toNat = 47 := rfl
          omega
        have hno2 := Lib.hid (take_no hno.out hx.out h47)
        clear h47 hx hno
        go_wp2
        exact ⟨⟨k + 1, by go_num, by omega, hno2⟩, by simp only [intOf]; omega⟩
    · obtain rfl : k = s.size := by omega
      have hN := Lib.hid (pp_none (l := s.data.toList) (cut_none (by have h := hno.out; rw [HS.out, List.take_length] at h; exact h)))
      clear hno
      go_wp2
      exact bodyPost_ret (results_p (t1 := 2) (t3 := 3) (g := w.heap.size) Tryz.results44 rfl rfl (set_1 (set_0 HK.out))) rfl ⟨ret_p2 ⟨hN.out.2.1.symm, hN.out.2.2.symm, hN.out.1.symm⟩, (hb0.setCell (Nat.le_refl _) _).setCell (Nat.le_refl _) _⟩
end Go.Proofs.YtakkgamhceignaaGreatDoor

/-
  The document's ports of a word.
-/
namespace Go.Proofs.YtakkgamhceignaaGreatDoor
open Go Go.RowKit Go.Lib Go.Sort

theorem portsD_hit {l x y : List UInt8} (h : l = x ++ 45 :: y) (hx : (45 : UInt8) ∉ x) {a b : Int} (ha : rdV x 65535 = a) (hb : rdV y 65535 = b) : portsD l = ((a % 4294967296, b % 4294967296), decide (0 ≤ a) && decide (0 ≤ b)) := by
  subst ha hb h
  unfold portsD
  rw [cut_hit1 _ hx]
  rfl
theorem portsD_none {l : List UInt8} (h : (45 : UInt8) ∉ l) : portsD l = ((0, 0), false) := by
  unfold portsD
  rw [cut_none1 h]
  rfl
theorem results_s {fn : Func} {tmps : Array Value} {w : World} {g : Nat} {a b e : Value} {t1 t3 : Nat} (hf : fn.results = #[.cell t1 27, .tmp t3]) (h1 : tmps.getD t1 undef = .pointer (some ⟨g, 0, none⟩)) (h3 : tmps.getD t3 undef = e)
    (k1 : w.heap[g]? = some (.cells #[a, b] 27 (0, 0))) :
    (results fn tmps).run Tryz.prog w = .ok (.tuple #[.agg #[a, b], e]) w := by
  obtain ⟨c0, c1, _, _⟩ := two_cells k1
  have h1' : tmps[t1]?.getD undef = .pointer (some ⟨g, 0, none⟩) := by simpa using h1
  have h3' : tmps[t3]?.getD undef = e := by simpa using h3
  simp [results, hf, h1', h3', go_sem, c0, c1]
theorem wrap_u32 (a : Int) : IntKind.u32.wrap a = a % 4294967296 := by simp [IntKind.wrap, IntKind.bits, IntKind.signed]
set_option maxRecDepth 100000 in
set_option maxHeartbeats 4000000 in
theorem refPorts_any (s : ByteArray) (w : World) (hlim : s.size < 4294967281) :
    Calls Tryz.prog 45 #[.string s] w fun e w' => e = .returned (.tuple #[.agg #[.int .u32 (portsD s.data.toList).1.1, .int .u32 (portsD s.data.toList).1.2], .bool (portsD s.data.toList).2]) ∧ Below w.heap.size w w' := by
  have HS := Lib.hid (show s.size = s.data.toList.length from (Array.length_toList).symm)
  have t9 := Tryz.underlying9
  have HQ := Lib.hid (show ∀ (i : Nat) (h : i < s.size), Hid (s.data.toList[i]? = some (s[i]'h)) from fun i h => Lib.hid (by
    rw [Array.getElem?_toList]
    exact Array.getElem?_eq_getElem (xs := s.data) (i := i) h))
  have hk0 := heap_alloc_new w (.cells #[.int .u32 0, .int .u32 0] 27)
  have hb0 : Below w.heap.size w (w.alloc (.cells #[.int .u32 0, .int .u32 0] 27)) := (Below.refl _ _).alloc (Nat.le_refl _) _
  go_enter Tryz.func45, Tryz.ntmps45
  go_wp2
  generalize w.alloc (.cells #[.int .u32 0, .int .u32 0] 27) = W at *
  have hsz0 : w.heap.size < W.heap.size := lt_of_block hk0
  go_loop [4] (fun i => ∃ k : Nat, i = .int .i64 k ∧ k ≤ s.size ∧ Hid ((45 : UInt8) ∉ s.data.toList.take k)) (fun i => s.size - (intOf i).toNat)
  case atStart => exact ⟨0, rfl, by omega, Lib.hid (by simp)⟩
  case round =>
    obtain ⟨k, rfl, hk, hno⟩ := hrel
    obtain ⟨c0, c1, f0, f1⟩ := two_cells hk0
    have HK := Lib.hid hk0
    clear hk0
    by_cases hlt : k < s.size
    · have hI3 : (k : Int) < (s.size : Int) := by omega
      have hI4 : (0 : Int) ≤ k := by omega
      have hI5 : (k : Int) ≤ (s.size : Int) := by omega
      have hx := HQ.out k hlt
      obtain ⟨v, hv⟩ : ∃ v : Int, ((s[k]'hlt).toNat : Int) = v := ⟨_, rfl⟩
      by_cases h45 : s[k]'hlt = 45
      · have hv2 : (v == 45) = true := by rw [← hv, h45]; rfl
        have hO := Lib.hid (fun (a b : Int) ha hb => portsD_hit (a := a) (b := b) (split_at (by rw [hx.out, h45])) hno.out ha hb)
        have e1 : (s.extract 0 k).data.toList = s.data.toList.take k := by rw [Lib.extract_data]; simp
        have e2 : (s.extract (k + 1) s.size).data.toList = s.data.toList.drop (k + 1) := by rw [Lib.extract_data, HS.out]; exact List.take_of_length_le (by simp)
        have hP := Lib.hid (show ∀ u : World, Calls Tryz.prog 43 #[.string (s.extract 0 k), .int .i64 65535] u fun e w' => e = .returned (.int .i64 (rdV (s.data.toList.take k) 65535)) ∧ Below u.heap.size u w' from fun u => by
          have h := refRead_any (s.extract 0 k) 65535 (by omega) u
          rw [e1] at h; exact h.mono fun e w' ⟨h1, h2⟩ => ⟨h1, h2 ▸ Below.refl _ _⟩)
        have hR := Lib.hid (show ∀ u : World, Calls Tryz.prog 43 #[.string (s.extract (k + 1) s.size), .int .i64 65535] u fun e w' => e = .returned (.int .i64 (rdV (s.data.toList.drop (k + 1)) 65535)) ∧ Below u.heap.size u w' from fun u => by
          have h := refRead_any (s.extract (k + 1) s.size) 65535 (by omega) u
          rw [e2] at h; exact h.mono fun e w' ⟨h1, h2⟩ => ⟨h1, h2 ▸ Below.refl _ _⟩)
        have ba := rdV_le (s.data.toList.take k) 65535
        have bb := rdV_le (s.data.toList.drop (k + 1)) 65535
        clear e1 e2 h45 hx hno
        obtain ⟨a, ha⟩ : ∃ a, rdV (s.data.toList.take k) 65535 = a := ⟨_, rfl⟩
        obtain ⟨b, hb⟩ : ∃ b, rdV (s.data.toList.drop (k + 1)) 65535 = b := ⟨_, rfl⟩
        have hO2 := Lib.hid (hO.out a b ha hb)
        rw [ha] at hP ba
        rw [hb] at hR bb
        clear ha hb hO
        obtain ⟨ba1, ba2⟩ := ba
        obtain ⟨bb1, bb2⟩ := bb
        have wa := wrap_u32 a
        have wb := wrap_u32 b
        go_upto_region 5 with fail
        refine wp_region_quiet_below (by kernel_rfl) (by kernel_rfl) ?_
        repeat (first | go_big_quiet_step ((first | (go_at_call 43; with_reducible exact Calls.regrown_of (hP.out _)) | (go_at_call 43; with_reducible exact Calls.regrown_of (hR.out _)))) | quiet_step ((first | (go_at_call 43; with_reducible exact Calls.regrown_of (hP.out _)) | (go_at_call 43; with_reducible exact Calls.regrown_of (hR.out _)))))
        refine wpQuiet_nil ?_
        intro W3 hw'
        obtain ⟨⟨nq, osq⟩, hw''⟩ := hw'
        have hbb := below_regrown W nq osq
        rw [← hw''] at hbb
        clear hw''
        have hbw := hb0.trans (hbb.mono hb0.size)
        have K1 := blk_below hbb HK.out
        clear c0 c1 f0 f1 hbb
        obtain ⟨c0, c1, f0, f1⟩ := two_cells K1
        have HK1 := Lib.hid K1
        clear K1
        by_cases h0 : 0 ≤ a
        · have d0 : decide (0 ≤ a) = true := by simpa using h0
          by_cases h1 : 0 ≤ b
          · have d1 : decide (0 ≤ b) = true := by simpa using h1
            go_wp2
            exact bodyPost_ret (results_s (t1 := 2) (t3 := 3) (g := w.heap.size) Tryz.results45 rfl rfl (set_1 (set_0 HK1.out))) rfl ⟨by rw [hO2.out, d0, d1]; rfl, (hbw.setCell (Nat.le_refl _) _).setCell (Nat.le_refl _) _⟩
          · have d1 : decide (0 ≤ b) = false := by simpa using h1
            go_wp2
            exact bodyPost_ret (results_s (t1 := 2) (t3 := 3) (g := w.heap.size) Tryz.results45 rfl rfl (set_1 (set_0 HK1.out))) rfl ⟨by rw [hO2.out, d0, d1]; rfl, (hbw.setCell (Nat.le_refl _) _).setCell (Nat.le_refl _) _⟩
        · have d0 : decide (0 ≤ a) = false := by simpa using h0
          go_wp2
          exact bodyPost_ret (results_s (t1 := 2) (t3 := 3) (g := w.heap.size) Tryz.results45 rfl rfl (set_1 (set_0 HK1.out))) rfl ⟨by rw [hO2.out, d0]; rfl, (hbw.setCell (Nat.le_refl _) _).setCell (Nat.le_refl _) _⟩
      · have hv2 : (v == 45) = false := by
          simp
          intro h
          apply h45
          apply UInt8.toNat_inj.1
          have : (45 : UInt8).toNat = 45 := rfl
          omega
        have hno2 := Lib.hid (take_no hno.out hx.out h45)
        clear h45 hx hno
        go_wp2
        exact ⟨⟨k + 1, by go_num, by omega, hno2⟩, by simp only [intOf]; omega⟩
    · obtain rfl : k = s.size := by omega
      have hN := Lib.hid (portsD_none (l := s.data.toList) (by have h := hno.out; rw [HS.out, List.take_length] at h; exact h))
      clear hno
      go_wp2
      exact bodyPost_ret (results_s (t1 := 2) (t3 := 3) (g := w.heap.size) Tryz.results45 rfl rfl (set_1 (set_0 HK.out))) rfl ⟨by rw [hN.out]; rfl, (hb0.setCell (Nat.le_refl _) _).setCell (Nat.le_refl _) _⟩
end Go.Proofs.YtakkgamhceignaaGreatDoor

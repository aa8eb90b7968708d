/-
  Joined texts: Ft1, Kit3, At4.
-/
import Derived.Test.YtmgeknghgngliaaDoorMFilterBack9
import Derived.Test.YtmgeknghgngliaaDoorMFilterBack5
import Derived.Laws.OwnMore
import Derived.Test.YtmgeknghgngliaaDoorMFilterBack8
/-
  The walk of filter.Text (written by wip/gen/genft1.py).
-/
namespace Go.Proofs.YtmgeknghgngliaaDoor
open Go Go.RowKit Go.Sort

set_option maxRecDepth 100000 in
set_option maxHeartbeats 4000000 in
theorem ftText_dn (r : RuleV) (w : World) (hE : Env w) (hmay : mayB r = true) (hperm : r.permit = false) (hpr : 0 ≤ r.proto) :
    Calls Tryd.prog 17 #[.agg #[.bool r.permit, .int .i64 r.proto, .int .u32 r.sa, .int .i64 r.sn, .int .u32 r.da, .int .i64 r.dn, .int .u32 r.sl, .int .u32 r.sh, .int .u32 r.dl, .int .u32 r.dh]] w fun e w' => e = .returned (.tuple #[.string ⟨r.told.toArray⟩, .int .i64 r.toldE]) ∧ Below w.heap.size w w' := by
  have hm := may_any r (w.alloc (ruleObj r))
  have hk0 := heap_alloc_new w (ruleObj r)
  have hb0 := below1 w (ruleObj r)
  have hW : w.alloc (.cells #[.bool r.permit, .int .i64 r.proto, .int .u32 r.sa, .int .i64 r.sn, .int .u32 r.da, .int .i64 r.dn, .int .u32 r.sl, .int .u32 r.sh, .int .u32 r.dl, .int .u32 r.dh] 51) = w.alloc (ruleObj r) := rfl
  rw [hmay] at hm
  have ht := Lib.hid (told_yes hmay)
  obtain ⟨m0, m1, m2, m3, m4, m5, m6, m7⟩ := mayB_ok hmay
  have k2 := chk_ok m2
  have k3 := chk_ok m3
  have HP := Lib.hid hperm
  have hlen := Lib.hid (show (Lib.join [denyW, Lib.decDigits r.proto.toNat, prefT r.sa r.sn, prefT r.da r.dn, portT r.sl r.sh, portT r.dl r.dh] [32]).length ≤ 140737488355328 from words_len r denyW (Lib.decDigits r.proto.toNat) (by decide) (by have := dec32 (n := r.proto.toNat) (by omega); omega) k2.1 k2.2.1 k3.1 k3.2.1)
  have hwd : r.text = Lib.join [denyW, Lib.decDigits r.proto.toNat, prefT r.sa r.sn, prefT r.da r.dn, portT r.sl r.sh, portT r.dl r.dh] [32] := by
    unfold RuleV.text RuleV.words whatT protoT
    rw [hperm, if_pos hpr]
    rfl
  have HW := Lib.hid hwd
  have dp : r.proto ≥ 0 := hpr
  have K0 := Lib.hid (show ∀ V : World, (V.cell? ⟨w.heap.size, 2, none⟩ = some (.int .u32 r.sa) ∧ V.cell? ⟨w.heap.size, 3, none⟩ = some (.int .i64 r.sn) ∧ V.cell? ⟨w.heap.size, 4, none⟩ = some (.int .u32 r.da) ∧ V.cell? ⟨w.heap.size, 5, none⟩ = some (.int .i64 r.dn) ∧ V.cell? ⟨w.heap.size, 6, none⟩ = some (.int .u32 r.sl) ∧ V.cell? ⟨w.heap.size, 7, none⟩ = some (.int .u32 r.sh) ∧ V.cell? ⟨w.heap.size, 8, none⟩ = some (.int .u32 r.dl) ∧ V.cell? ⟨w.heap.size, 9, none⟩ = some (.int .u32 r.dh) ∧ Below w.heap.size w V) → Calls Tryd.prog 33 #[.agg #[.int .u32 r.sa, .int .i64 r.sn]] V fun e V' => e = .returned (.string ⟨(prefT r.sa r.sn).toArray⟩) ∧ V'.cell? ⟨w.heap.size, 2, none⟩ = some (.int .u32 r.sa) ∧ V'.cell? ⟨w.heap.size, 3, none⟩ = some (.int .i64 r.sn) ∧ V'.cell? ⟨w.heap.size, 4, none⟩ = some (.int .u32 r.da) ∧ V'.cell? ⟨w.heap.size, 5, none⟩ = some (.int .i64 r.dn) ∧ V'.cell? ⟨w.heap.size, 6, none⟩ = some (.int .u32 r.sl) ∧ V'.cell? ⟨w.heap.size, 7, none⟩ = some (.int .u32 r.sh) ∧ V'.cell? ⟨w.heap.size, 8, none⟩ = some (.int .u32 r.dl) ∧ V'.cell? ⟨w.heap.size, 9, none⟩ = some (.int .u32 r.dh) ∧ Below w.heap.size w V' from fun V ⟨h1, h2, h3, h4, h5, h6, h7, h8, h9⟩ => (prefI_any r.sa r.sn r.hsa (by omega) (by omega) V (hE.below h9)).mono fun e V' ⟨he, hb⟩ => ⟨he, cell_kept hb h1, cell_kept hb h2, cell_kept hb h3, cell_kept hb h4, cell_kept hb h5, cell_kept hb h6, cell_kept hb h7, cell_kept hb h8, below_call h9 hb⟩)
  have K1 := Lib.hid (show ∀ V : World, (V.cell? ⟨w.heap.size, 2, none⟩ = some (.int .u32 r.sa) ∧ V.cell? ⟨w.heap.size, 3, none⟩ = some (.int .i64 r.sn) ∧ V.cell? ⟨w.heap.size, 4, none⟩ = some (.int .u32 r.da) ∧ V.cell? ⟨w.heap.size, 5, none⟩ = some (.int .i64 r.dn) ∧ V.cell? ⟨w.heap.size, 6, none⟩ = some (.int .u32 r.sl) ∧ V.cell? ⟨w.heap.size, 7, none⟩ = some (.int .u32 r.sh) ∧ V.cell? ⟨w.heap.size, 8, none⟩ = some (.int .u32 r.dl) ∧ V.cell? ⟨w.heap.size, 9, none⟩ = some (.int .u32 r.dh) ∧ Below w.heap.size w V) → Calls Tryd.prog 33 #[.agg #[.int .u32 r.da, .int .i64 r.dn]] V fun e V' => e = .returned (.string ⟨(prefT r.da r.dn).toArray⟩) ∧ V'.cell? ⟨w.heap.size, 2, none⟩ = some (.int .u32 r.sa) ∧ V'.cell? ⟨w.heap.size, 3, none⟩ = some (.int .i64 r.sn) ∧ V'.cell? ⟨w.heap.size, 4, none⟩ = some (.int .u32 r.da) ∧ V'.cell? ⟨w.heap.size, 5, none⟩ = some (.int .i64 r.dn) ∧ V'.cell? ⟨w.heap.size, 6, none⟩ = some (.int .u32 r.sl) ∧ V'.cell? ⟨w.heap.size, 7, none⟩ = some (.int .u32 r.sh) ∧ V'.cell? ⟨w.heap.size, 8, none⟩ = some (.int .u32 r.dl) ∧ V'.cell? ⟨w.heap.size, 9, none⟩ = some (.int .u32 r.dh) ∧ Below w.heap.size w V' from fun V ⟨h1, h2, h3, h4, h5, h6, h7, h8, h9⟩ => (prefI_any r.da r.dn r.hda (by omega) (by omega) V (hE.below h9)).mono fun e V' ⟨he, hb⟩ => ⟨he, cell_kept hb h1, cell_kept hb h2, cell_kept hb h3, cell_kept hb h4, cell_kept hb h5, cell_kept hb h6, cell_kept hb h7, cell_kept hb h8, below_call h9 hb⟩)
  have K2 := Lib.hid (show ∀ V : World, (V.cell? ⟨w.heap.size, 2, none⟩ = some (.int .u32 r.sa) ∧ V.cell? ⟨w.heap.size, 3, none⟩ = some (.int .i64 r.sn) ∧ V.cell? ⟨w.heap.size, 4, none⟩ = some (.int .u32 r.da) ∧ V.cell? ⟨w.heap.size, 5, none⟩ = some (.int .i64 r.dn) ∧ V.cell? ⟨w.heap.size, 6, none⟩ = some (.int .u32 r.sl) ∧ V.cell? ⟨w.heap.size, 7, none⟩ = some (.int .u32 r.sh) ∧ V.cell? ⟨w.heap.size, 8, none⟩ = some (.int .u32 r.dl) ∧ V.cell? ⟨w.heap.size, 9, none⟩ = some (.int .u32 r.dh) ∧ Below w.heap.size w V) → Calls Tryd.prog 51 #[.agg #[.int .u32 r.sl, .int .u32 r.sh]] V fun e V' => e = .returned (.string ⟨(portT r.sl r.sh).toArray⟩) ∧ V'.cell? ⟨w.heap.size, 2, none⟩ = some (.int .u32 r.sa) ∧ V'.cell? ⟨w.heap.size, 3, none⟩ = some (.int .i64 r.sn) ∧ V'.cell? ⟨w.heap.size, 4, none⟩ = some (.int .u32 r.da) ∧ V'.cell? ⟨w.heap.size, 5, none⟩ = some (.int .i64 r.dn) ∧ V'.cell? ⟨w.heap.size, 6, none⟩ = some (.int .u32 r.sl) ∧ V'.cell? ⟨w.heap.size, 7, none⟩ = some (.int .u32 r.sh) ∧ V'.cell? ⟨w.heap.size, 8, none⟩ = some (.int .u32 r.dl) ∧ V'.cell? ⟨w.heap.size, 9, none⟩ = some (.int .u32 r.dh) ∧ Below w.heap.size w V' from fun V ⟨h1, h2, h3, h4, h5, h6, h7, h8, h9⟩ => (portT_any r.sl r.sh r.hsl r.hsh V (hE.below h9)).mono fun e V' ⟨he, hb⟩ => ⟨he, cell_kept hb h1, cell_kept hb h2, cell_kept hb h3, cell_kept hb h4, cell_kept hb h5, cell_kept hb h6, cell_kept hb h7, cell_kept hb h8, below_call h9 hb⟩)
  have K3 := Lib.hid (show ∀ V : World, (V.cell? ⟨w.heap.size, 2, none⟩ = some (.int .u32 r.sa) ∧ V.cell? ⟨w.heap.size, 3, none⟩ = some (.int .i64 r.sn) ∧ V.cell? ⟨w.heap.size, 4, none⟩ = some (.int .u32 r.da) ∧ V.cell? ⟨w.heap.size, 5, none⟩ = some (.int .i64 r.dn) ∧ V.cell? ⟨w.heap.size, 6, none⟩ = some (.int .u32 r.sl) ∧ V.cell? ⟨w.heap.size, 7, none⟩ = some (.int .u32 r.sh) ∧ V.cell? ⟨w.heap.size, 8, none⟩ = some (.int .u32 r.dl) ∧ V.cell? ⟨w.heap.size, 9, none⟩ = some (.int .u32 r.dh) ∧ Below w.heap.size w V) → Calls Tryd.prog 51 #[.agg #[.int .u32 r.dl, .int .u32 r.dh]] V fun e V' => e = .returned (.string ⟨(portT r.dl r.dh).toArray⟩) ∧ V'.cell? ⟨w.heap.size, 2, none⟩ = some (.int .u32 r.sa) ∧ V'.cell? ⟨w.heap.size, 3, none⟩ = some (.int .i64 r.sn) ∧ V'.cell? ⟨w.heap.size, 4, none⟩ = some (.int .u32 r.da) ∧ V'.cell? ⟨w.heap.size, 5, none⟩ = some (.int .i64 r.dn) ∧ V'.cell? ⟨w.heap.size, 6, none⟩ = some (.int .u32 r.sl) ∧ V'.cell? ⟨w.heap.size, 7, none⟩ = some (.int .u32 r.sh) ∧ V'.cell? ⟨w.heap.size, 8, none⟩ = some (.int .u32 r.dl) ∧ V'.cell? ⟨w.heap.size, 9, none⟩ = some (.int .u32 r.dh) ∧ Below w.heap.size w V' from fun V ⟨h1, h2, h3, h4, h5, h6, h7, h8, h9⟩ => (portT_any r.dl r.dh r.hdl r.hdh V (hE.below h9)).mono fun e V' ⟨he, hb⟩ => ⟨he, cell_kept hb h1, cell_kept hb h2, cell_kept hb h3, cell_kept hb h4, cell_kept hb h5, cell_kept hb h6, cell_kept hb h7, cell_kept hb h8, below_call h9 hb⟩)
  have KJ := Lib.hid (show ∀ V g, V.heap[g]? = some (.cells #[Value.string ⟨(denyW).toArray⟩, Value.string ⟨(Lib.decDigits r.proto.toNat).toArray⟩, Value.string ⟨(prefT r.sa r.sn).toArray⟩, Value.string ⟨(prefT r.da r.dn).toArray⟩, Value.string ⟨(portT r.sl r.sh).toArray⟩, Value.string ⟨(portT r.dl r.dh).toArray⟩] 9 (0, 0)) → Calls Tryd.prog 47 #[.slice (some ⟨g, 0, none⟩) 6 6, .string ⟨#[32]⟩] V fun e V' => e = .returned (.string ⟨r.text.toArray⟩) ∧ Below V.heap.size V V' from fun V g h => by
    have hj := joinW_any [⟨(denyW).toArray⟩, ⟨(Lib.decDigits r.proto.toNat).toArray⟩, ⟨(prefT r.sa r.sn).toArray⟩, ⟨(prefT r.da r.dn).toArray⟩, ⟨(portT r.sl r.sh).toArray⟩, ⟨(portT r.dl r.dh).toArray⟩] g V h (by simp) (by simp) (by simpa using hlen.out)
    rw [HW.out]
    simpa using hj)
  clear hmay hperm m2 m3 hwd
  go_enter Tryd.func17, Tryd.ntmps17
  go_upto_region 1 with fail
  try rw [hW]
  obtain ⟨c0, c1, c2, c3, c4, c5, c6, c7, c8, c9⟩ := rule_blk (r := r) hk0
  have hst : ((w.alloc (ruleObj r)).cell? ⟨w.heap.size, 2, none⟩ = some (.int .u32 r.sa) ∧ (w.alloc (ruleObj r)).cell? ⟨w.heap.size, 3, none⟩ = some (.int .i64 r.sn) ∧ (w.alloc (ruleObj r)).cell? ⟨w.heap.size, 4, none⟩ = some (.int .u32 r.da) ∧ (w.alloc (ruleObj r)).cell? ⟨w.heap.size, 5, none⟩ = some (.int .i64 r.dn) ∧ (w.alloc (ruleObj r)).cell? ⟨w.heap.size, 6, none⟩ = some (.int .u32 r.sl) ∧ (w.alloc (ruleObj r)).cell? ⟨w.heap.size, 7, none⟩ = some (.int .u32 r.sh) ∧ (w.alloc (ruleObj r)).cell? ⟨w.heap.size, 8, none⟩ = some (.int .u32 r.dl) ∧ (w.alloc (ruleObj r)).cell? ⟨w.heap.size, 9, none⟩ = some (.int .u32 r.dh) ∧ Below w.heap.size w (w.alloc (ruleObj r))) := ⟨c2, c3, c4, c5, c6, c7, c8, c9, hb0⟩
  generalize w.alloc (ruleObj r) = W at *
  clear hW
  go_wp2_with fail
  refine hm.mono ?_
  rintro e w1 ⟨rfl, hb⟩
  have hk1 := blk_below hb hk0
  have hb1 := below_call hb0 hb
  clear hb hb0 hk0 c0 c1 c2 c3 c4 c5 c6 c7 c8 c9 hm hst
  obtain ⟨c0, c1, c2, c3, c4, c5, c6, c7, c8, c9⟩ := rule_blk (r := r) hk1
  rw [HP.out] at c0
  go_wp2_with fail
  refine (itoaN_any _ (by omega) (by omega) _ (hE.below hb1)).mono ?_
  rintro e w2 ⟨rfl, hb⟩
  have hk2 := blk_below hb hk1
  have hb2 := below_call hb1 hb
  clear hb hb1 hk1 c0 c1 c2 c3 c4 c5 c6 c7 c8 c9
  obtain ⟨c0, c1, c2, c3, c4, c5, c6, c7, c8, c9⟩ := rule_blk (r := r) hk2
  go_upto_region 8 with fail
  have hE2 := hE.below hb2
  have F2 := cell_regrown c2
  have F3 := cell_regrown c3
  have F4 := cell_regrown c4
  have F5 := cell_regrown c5
  have F6 := cell_regrown c6
  have F7 := cell_regrown c7
  have F8 := cell_regrown c8
  have F9 := cell_regrown c9
  clear c0 c1 c2 c3 c4 c5 c6 c7 c8 c9
  have k1 := Lib.hid (show StrR 33 #[.agg #[.int .u32 r.sa, .int .i64 r.sn]] _ w2 from fun d os => prefI_any r.sa r.sn r.hsa (by omega) (by omega) _ (hE2.below (below_regrown w2 d os)))
  have k2 := Lib.hid (show StrR 33 #[.agg #[.int .u32 r.da, .int .i64 r.dn]] _ w2 from fun d os => prefI_any r.da r.dn r.hda (by omega) (by omega) _ (hE2.below (below_regrown w2 d os)))
  have k3 := Lib.hid (show StrR 51 #[.agg #[.int .u32 r.sl, .int .u32 r.sh]] _ w2 from fun d os => portT_any r.sl r.sh r.hsl r.hsh _ (hE2.below (below_regrown w2 d os)))
  have k4 := Lib.hid (show StrR 51 #[.agg #[.int .u32 r.dl, .int .u32 r.dh]] _ w2 from fun d os => portT_any r.dl r.dh r.hdl r.hdh _ (hE2.below (below_regrown w2 d os)))
  refine wp_region_tail_below 14 (by kernel_rfl) (by kernel_rfl) ?_
  simp only [List.take_succ_cons, List.take_zero, List.drop_succ_cons, List.drop_zero]
  repeat (first | go_big_quiet_step ((first | (go_at_call 33; with_reducible exact Calls.regrown_of (k1.out _ _)) | (go_at_call 33; with_reducible exact Calls.regrown_of (k2.out _ _)) | (go_at_call 51; with_reducible exact Calls.regrown_of (k3.out _ _)) | (go_at_call 51; with_reducible exact Calls.regrown_of (k4.out _ _)))) | quiet_step ((first | (go_at_call 33; with_reducible exact Calls.regrown_of (k1.out _ _)) | (go_at_call 33; with_reducible exact Calls.regrown_of (k2.out _ _)) | (go_at_call 51; with_reducible exact Calls.regrown_of (k3.out _ _)) | (go_at_call 51; with_reducible exact Calls.regrown_of (k4.out _ _)))))
  refine wpQuiet_nil ?_
  intro W3 hw'
  obtain ⟨⟨nq, osq⟩, hw''⟩ := hw'
  have hb3 := below_call hb2 (hw'' ▸ below_regrown w2 nq osq)
  clear hw'' F2 F3 F4 F5 F6 F7 F8 F9 k1 k2 k3 k4 hE2 K0 K1 K2 K3
  go_wp2_with fail
  refine (KJ.out _ _ (heap_alloc_new _ _)).mono ?_
  rintro e w4 ⟨rfl, hb⟩
  have hb4 := below_call (hb3.alloc hb3.size _) hb
  go_wp2
  go_ret2
  exact ⟨by rw [ht.out.1, ht.out.2]; rfl, hb4⟩
set_option maxRecDepth 100000 in
set_option maxHeartbeats 4000000 in
theorem ftText_da (r : RuleV) (w : World) (hE : Env w) (hmay : mayB r = true) (hperm : r.permit = false) (hpr : ¬ 0 ≤ r.proto) :
    Calls Tryd.prog 17 #[.agg #[.bool r.permit, .int .i64 r.proto, .int .u32 r.sa, .int .i64 r.sn, .int .u32 r.da, .int .i64 r.dn, .int .u32 r.sl, .int .u32 r.sh, .int .u32 r.dl, .int .u32 r.dh]] w fun e w' => e = .returned (.tuple #[.string ⟨r.told.toArray⟩, .int .i64 r.toldE]) ∧ Below w.heap.size w w' := by
  have hm := may_any r (w.alloc (ruleObj r))
  have hk0 := heap_alloc_new w (ruleObj r)
  have hb0 := below1 w (ruleObj r)
  have hW : w.alloc (.cells #[.bool r.permit, .int .i64 r.proto, .int .u32 r.sa, .int .i64 r.sn, .int .u32 r.da, .int .i64 r.dn, .int .u32 r.sl, .int .u32 r.sh, .int .u32 r.dl, .int .u32 r.dh] 51) = w.alloc (ruleObj r) := rfl
  rw [hmay] at hm
  have ht := Lib.hid (told_yes hmay)
  obtain ⟨m0, m1, m2, m3, m4, m5, m6, m7⟩ := mayB_ok hmay
  have k2 := chk_ok m2
  have k3 := chk_ok m3
  have HP := Lib.hid hperm
  have hlen := Lib.hid (show (Lib.join [denyW, anyW, prefT r.sa r.sn, prefT r.da r.dn, portT r.sl r.sh, portT r.dl r.dh] [32]).length ≤ 140737488355328 from words_len r denyW anyW (by decide) (by decide) k2.1 k2.2.1 k3.1 k3.2.1)
  have hwd : r.text = Lib.join [denyW, anyW, prefT r.sa r.sn, prefT r.da r.dn, portT r.sl r.sh, portT r.dl r.dh] [32] := by
    unfold RuleV.text RuleV.words whatT protoT
    rw [hperm, if_neg hpr]
    rfl
  have HW := Lib.hid hwd
  have dp : ¬ r.proto ≥ 0 := hpr
  have K0 := Lib.hid (show ∀ V : World, (V.cell? ⟨w.heap.size, 2, none⟩ = some (.int .u32 r.sa) ∧ V.cell? ⟨w.heap.size, 3, none⟩ = some (.int .i64 r.sn) ∧ V.cell? ⟨w.heap.size, 4, none⟩ = some (.int .u32 r.da) ∧ V.cell? ⟨w.heap.size, 5, none⟩ = some (.int .i64 r.dn) ∧ V.cell? ⟨w.heap.size, 6, none⟩ = some (.int .u32 r.sl) ∧ V.cell? ⟨w.heap.size, 7, none⟩ = some (.int .u32 r.sh) ∧ V.cell? ⟨w.heap.size, 8, none⟩ = some (.int .u32 r.dl) ∧ V.cell? ⟨w.heap.size, 9, none⟩ = some (.int .u32 r.dh) ∧ Below w.heap.size w V) → Calls Tryd.prog 33 #[.agg #[.int .u32 r.sa, .int .i64 r.sn]] V fun e V' => e = .returned (.string ⟨(prefT r.sa r.sn).toArray⟩) ∧ V'.cell? ⟨w.heap.size, 2, none⟩ = some (.int .u32 r.sa) ∧ V'.cell? ⟨w.heap.size, 3, none⟩ = some (.int .i64 r.sn) ∧ V'.cell? ⟨w.heap.size, 4, none⟩ = some (.int .u32 r.da) ∧ V'.cell? ⟨w.heap.size, 5, none⟩ = some (.int .i64 r.dn) ∧ V'.cell? ⟨w.heap.size, 6, none⟩ = some (.int .u32 r.sl) ∧ V'.cell? ⟨w.heap.size, 7, none⟩ = some (.int .u32 r.sh) ∧ V'.cell? ⟨w.heap.size, 8, none⟩ = some (.int .u32 r.dl) ∧ V'.cell? ⟨w.heap.size, 9, none⟩ = some (.int .u32 r.dh) ∧ Below w.heap.size w V' from fun V ⟨h1, h2, h3, h4, h5, h6, h7, h8, h9⟩ => (prefI_any r.sa r.sn r.hsa (by omega) (by omega) V (hE.below h9)).mono fun e V' ⟨he, hb⟩ => ⟨he, cell_kept hb h1, cell_kept hb h2, cell_kept hb h3, cell_kept hb h4, cell_kept hb h5, cell_kept hb h6, cell_kept hb h7, cell_kept hb h8, below_call h9 hb⟩)
  have K1 := Lib.hid (show ∀ V : World, (V.cell? ⟨w.heap.size, 2, none⟩ = some (.int .u32 r.sa) ∧ V.cell? ⟨w.heap.size, 3, none⟩ = some (.int .i64 r.sn) ∧ V.cell? ⟨w.heap.size, 4, none⟩ = some (.int .u32 r.da) ∧ V.cell? ⟨w.heap.size, 5, none⟩ = some (.int .i64 r.dn) ∧ V.cell? ⟨w.heap.size, 6, none⟩ = some (.int .u32 r.sl) ∧ V.cell? ⟨w.heap.size, 7, none⟩ = some (.int .u32 r.sh) ∧ V.cell? ⟨w.heap.size, 8, none⟩ = some (.int .u32 r.dl) ∧ V.cell? ⟨w.heap.size, 9, none⟩ = some (.int .u32 r.dh) ∧ Below w.heap.size w V) → Calls Tryd.prog 33 #[.agg #[.int .u32 r.da, .int .i64 r.dn]] V fun e V' => e = .returned (.string ⟨(prefT r.da r.dn).toArray⟩) ∧ V'.cell? ⟨w.heap.size, 2, none⟩ = some (.int .u32 r.sa) ∧ V'.cell? ⟨w.heap.size, 3, none⟩ = some (.int .i64 r.sn) ∧ V'.cell? ⟨w.heap.size, 4, none⟩ = some (.int .u32 r.da) ∧ V'.cell? ⟨w.heap.size, 5, none⟩ = some (.int .i64 r.dn) ∧ V'.cell? ⟨w.heap.size, 6, none⟩ = some (.int .u32 r.sl) ∧ V'.cell? ⟨w.heap.size, 7, none⟩ = some (.int .u32 r.sh) ∧ V'.cell? ⟨w.heap.size, 8, none⟩ = some (.int .u32 r.dl) ∧ V'.cell? ⟨w.heap.size, 9, none⟩ = some (.int .u32 r.dh) ∧ Below w.heap.size w V' from fun V ⟨h1, h2, h3, h4, h5, h6, h7, h8, h9⟩ => (prefI_any r.da r.dn r.hda (by omega) (by omega) V (hE.below h9)).mono fun e V' ⟨he, hb⟩ => ⟨he, cell_kept hb h1, cell_kept hb h2, cell_kept hb h3, cell_kept hb h4, cell_kept hb h5, cell_kept hb h6, cell_kept hb h7, cell_kept hb h8, below_call h9 hb⟩)
  have K2 := Lib.hid (show ∀ V : World, (V.cell? ⟨w.heap.size, 2, none⟩ = some (.int .u32 r.sa) ∧ V.cell? ⟨w.heap.size, 3, none⟩ = some (.int .i64 r.sn) ∧ V.cell? ⟨w.heap.size, 4, none⟩ = some (.int .u32 r.da) ∧ V.cell? ⟨w.heap.size, 5, none⟩ = some (.int .i64 r.dn) ∧ V.cell? ⟨w.heap.size, 6, none⟩ = some (.int .u32 r.sl) ∧ V.cell? ⟨w.heap.size, 7, none⟩ = some (.int .u32 r.sh) ∧ V.cell? ⟨w.heap.size, 8, none⟩ = some (.int .u32 r.dl) ∧ V.cell? ⟨w.heap.size, 9, none⟩ = some (.int .u32 r.dh) ∧ Below w.heap.size w V) → Calls Tryd.prog 51 #[.agg #[.int .u32 r.sl, .int .u32 r.sh]] V fun e V' => e = .returned (.string ⟨(portT r.sl r.sh).toArray⟩) ∧ V'.cell? ⟨w.heap.size, 2, none⟩ = some (.int .u32 r.sa) ∧ V'.cell? ⟨w.heap.size, 3, none⟩ = some (.int .i64 r.sn) ∧ V'.cell? ⟨w.heap.size, 4, none⟩ = some (.int .u32 r.da) ∧ V'.cell? ⟨w.heap.size, 5, none⟩ = some (.int .i64 r.dn) ∧ V'.cell? ⟨w.heap.size, 6, none⟩ = some (.int .u32 r.sl) ∧ V'.cell? ⟨w.heap.size, 7, none⟩ = some (.int .u32 r.sh) ∧ V'.cell? ⟨w.heap.size, 8, none⟩ = some (.int .u32 r.dl) ∧ V'.cell? ⟨w.heap.size, 9, none⟩ = some (.int .u32 r.dh) ∧ Below w.heap.size w V' from fun V ⟨h1, h2, h3, h4, h5, h6, h7, h8, h9⟩ => (portT_any r.sl r.sh r.hsl r.hsh V (hE.below h9)).mono fun e V' ⟨he, hb⟩ => ⟨he, cell_kept hb h1, cell_kept hb h2, cell_kept hb h3, cell_kept hb h4, cell_kept hb h5, cell_kept hb h6, cell_kept hb h7, cell_kept hb h8, below_call h9 hb⟩)
  have K3 := Lib.hid (show ∀ V : World, (V.cell? ⟨w.heap.size, 2, none⟩ = some (.int .u32 r.sa) ∧ V.cell? ⟨w.heap.size, 3, none⟩ = some (.int .i64 r.sn) ∧ V.cell? ⟨w.heap.size, 4, none⟩ = some (.int .u32 r.da) ∧ V.cell? ⟨w.heap.size, 5, none⟩ = some (.int .i64 r.dn) ∧ V.cell? ⟨w.heap.size, 6, none⟩ = some (.int .u32 r.sl) ∧ V.cell? ⟨w.heap.size, 7, none⟩ = some (.int .u32 r.sh) ∧ V.cell? ⟨w.heap.size, 8, none⟩ = some (.int .u32 r.dl) ∧ V.cell? ⟨w.heap.size, 9, none⟩ = some (.int .u32 r.dh) ∧ Below w.heap.size w V) → Calls Tryd.prog 51 #[.agg #[.int .u32 r.dl, .int .u32 r.dh]] V fun e V' => e = .returned (.string ⟨(portT r.dl r.dh).toArray⟩) ∧ V'.cell? ⟨w.heap.size, 2, none⟩ = some (.int .u32 r.sa) ∧ V'.cell? ⟨w.heap.size, 3, none⟩ = some (.int .i64 r.sn) ∧ V'.cell? ⟨w.heap.size, 4, none⟩ = some (.int .u32 r.da) ∧ V'.cell? ⟨w.heap.size, 5, none⟩ = some (.int .i64 r.dn) ∧ V'.cell? ⟨w.heap.size, 6, none⟩ = some (.int .u32 r.sl) ∧ V'.cell? ⟨w.heap.size, 7, none⟩ = some (.int .u32 r.sh) ∧ V'.cell? ⟨w.heap.size, 8, none⟩ = some (.int .u32 r.dl) ∧ V'.cell? ⟨w.heap.size, 9, none⟩ = some (.int .u32 r.dh) ∧ Below w.heap.size w V' from fun V ⟨h1, h2, h3, h4, h5, h6, h7, h8, h9⟩ => (portT_any r.dl r.dh r.hdl r.hdh V (hE.below h9)).mono fun e V' ⟨he, hb⟩ => ⟨he, cell_kept hb h1, cell_kept hb h2, cell_kept hb h3, cell_kept hb h4, cell_kept hb h5, cell_kept hb h6, cell_kept hb h7, cell_kept hb h8, below_call h9 hb⟩)
  have KJ := Lib.hid (show ∀ V g, V.heap[g]? = some (.cells #[Value.string ⟨(denyW).toArray⟩, Value.string ⟨(anyW).toArray⟩, Value.string ⟨(prefT r.sa r.sn).toArray⟩, Value.string ⟨(prefT r.da r.dn).toArray⟩, Value.string ⟨(portT r.sl r.sh).toArray⟩, Value.string ⟨(portT r.dl r.dh).toArray⟩] 9 (0, 0)) → Calls Tryd.prog 47 #[.slice (some ⟨g, 0, none⟩) 6 6, .string ⟨#[32]⟩] V fun e V' => e = .returned (.string ⟨r.text.toArray⟩) ∧ Below V.heap.size V V' from fun V g h => by
    have hj := joinW_any [⟨(denyW).toArray⟩, ⟨(anyW).toArray⟩, ⟨(prefT r.sa r.sn).toArray⟩, ⟨(prefT r.da r.dn).toArray⟩, ⟨(portT r.sl r.sh).toArray⟩, ⟨(portT r.dl r.dh).toArray⟩] g V h (by simp) (by simp) (by simpa using hlen.out)
    rw [HW.out]
    simpa using hj)
  clear hmay hperm m2 m3 hwd
  go_enter Tryd.func17, Tryd.ntmps17
  go_upto_region 1 with fail
  try rw [hW]
  obtain ⟨c0, c1, c2, c3, c4, c5, c6, c7, c8, c9⟩ := rule_blk (r := r) hk0
  have hst : ((w.alloc (ruleObj r)).cell? ⟨w.heap.size, 2, none⟩ = some (.int .u32 r.sa) ∧ (w.alloc (ruleObj r)).cell? ⟨w.heap.size, 3, none⟩ = some (.int .i64 r.sn) ∧ (w.alloc (ruleObj r)).cell? ⟨w.heap.size, 4, none⟩ = some (.int .u32 r.da) ∧ (w.alloc (ruleObj r)).cell? ⟨w.heap.size, 5, none⟩ = some (.int .i64 r.dn) ∧ (w.alloc (ruleObj r)).cell? ⟨w.heap.size, 6, none⟩ = some (.int .u32 r.sl) ∧ (w.alloc (ruleObj r)).cell? ⟨w.heap.size, 7, none⟩ = some (.int .u32 r.sh) ∧ (w.alloc (ruleObj r)).cell? ⟨w.heap.size, 8, none⟩ = some (.int .u32 r.dl) ∧ (w.alloc (ruleObj r)).cell? ⟨w.heap.size, 9, none⟩ = some (.int .u32 r.dh) ∧ Below w.heap.size w (w.alloc (ruleObj r))) := ⟨c2, c3, c4, c5, c6, c7, c8, c9, hb0⟩
  generalize w.alloc (ruleObj r) = W at *
  clear hW
  go_wp2_with fail
  refine hm.mono ?_
  rintro e w1 ⟨rfl, hb⟩
  have hk1 := blk_below hb hk0
  have hb1 := below_call hb0 hb
  clear hb hb0 hk0 c0 c1 c2 c3 c4 c5 c6 c7 c8 c9 hm hst
  obtain ⟨c0, c1, c2, c3, c4, c5, c6, c7, c8, c9⟩ := rule_blk (r := r) hk1
  rw [HP.out] at c0
  go_upto_region 8 with fail
  have hE2 := hE.below hb1
  have F2 := cell_regrown c2
  have F3 := cell_regrown c3
  have F4 := cell_regrown c4
  have F5 := cell_regrown c5
  have F6 := cell_regrown c6
  have F7 := cell_regrown c7
  have F8 := cell_regrown c8
  have F9 := cell_regrown c9
  clear c0 c1 c2 c3 c4 c5 c6 c7 c8 c9
  have k1 := Lib.hid (show StrR 33 #[.agg #[.int .u32 r.sa, .int .i64 r.sn]] _ w1 from fun d os => prefI_any r.sa r.sn r.hsa (by omega) (by omega) _ (hE2.below (below_regrown w1 d os)))
  have k2 := Lib.hid (show StrR 33 #[.agg #[.int .u32 r.da, .int .i64 r.dn]] _ w1 from fun d os => prefI_any r.da r.dn r.hda (by omega) (by omega) _ (hE2.below (below_regrown w1 d os)))
  have k3 := Lib.hid (show StrR 51 #[.agg #[.int .u32 r.sl, .int .u32 r.sh]] _ w1 from fun d os => portT_any r.sl r.sh r.hsl r.hsh _ (hE2.below (below_regrown w1 d os)))
  have k4 := Lib.hid (show StrR 51 #[.agg #[.int .u32 r.dl, .int .u32 r.dh]] _ w1 from fun d os => portT_any r.dl r.dh r.hdl r.hdh _ (hE2.below (below_regrown w1 d os)))
  refine wp_region_tail_below 14 (by kernel_rfl) (by kernel_rfl) ?_
  simp only [List.take_succ_cons, List.take_zero, List.drop_succ_cons, List.drop_zero]
  repeat (first | go_big_quiet_step ((first | (go_at_call 33; with_reducible exact Calls.regrown_of (k1.out _ _)) | (go_at_call 33; with_reducible exact Calls.regrown_of (k2.out _ _)) | (go_at_call 51; with_reducible exact Calls.regrown_of (k3.out _ _)) | (go_at_call 51; with_reducible exact Calls.regrown_of (k4.out _ _)))) | quiet_step ((first | (go_at_call 33; with_reducible exact Calls.regrown_of (k1.out _ _)) | (go_at_call 33; with_reducible exact Calls.regrown_of (k2.out _ _)) | (go_at_call 51; with_reducible exact Calls.regrown_of (k3.out _ _)) | (go_at_call 51; with_reducible exact Calls.regrown_of (k4.out _ _)))))
  refine wpQuiet_nil ?_
  intro W3 hw'
  obtain ⟨⟨nq, osq⟩, hw''⟩ := hw'
  have hb3 := below_call hb1 (hw'' ▸ below_regrown w1 nq osq)
  clear hw'' F2 F3 F4 F5 F6 F7 F8 F9 k1 k2 k3 k4 hE2 K0 K1 K2 K3
  go_wp2_with fail
  refine (KJ.out _ _ (heap_alloc_new _ _)).mono ?_
  rintro e w4 ⟨rfl, hb⟩
  have hb4 := below_call (hb3.alloc hb3.size _) hb
  go_wp2
  go_ret2
  exact ⟨by rw [ht.out.1, ht.out.2]; rfl, hb4⟩
set_option maxRecDepth 100000 in
set_option maxHeartbeats 4000000 in
theorem ftText_pn (r : RuleV) (w : World) (hE : Env w) (hmay : mayB r = true) (hperm : r.permit = true) (hpr : 0 ≤ r.proto) :
    Calls Tryd.prog 17 #[.agg #[.bool r.permit, .int .i64 r.proto, .int .u32 r.sa, .int .i64 r.sn, .int .u32 r.da, .int .i64 r.dn, .int .u32 r.sl, .int .u32 r.sh, .int .u32 r.dl, .int .u32 r.dh]] w fun e w' => e = .returned (.tuple #[.string ⟨r.told.toArray⟩, .int .i64 r.toldE]) ∧ Below w.heap.size w w' := by
  have hm := may_any r (w.alloc (ruleObj r))
  have hk0 := heap_alloc_new w (ruleObj r)
  have hb0 := below1 w (ruleObj r)
  have hW : w.alloc (.cells #[.bool r.permit, .int .i64 r.proto, .int .u32 r.sa, .int .i64 r.sn, .int .u32 r.da, .int .i64 r.dn, .int .u32 r.sl, .int .u32 r.sh, .int .u32 r.dl, .int .u32 r.dh] 51) = w.alloc (ruleObj r) := rfl
  rw [hmay] at hm
  have ht := Lib.hid (told_yes hmay)
  obtain ⟨m0, m1, m2, m3, m4, m5, m6, m7⟩ := mayB_ok hmay
  have k2 := chk_ok m2
  have k3 := chk_ok m3
  have HP := Lib.hid hperm
  have hlen := Lib.hid (show (Lib.join [permitW, Lib.decDigits r.proto.toNat, prefT r.sa r.sn, prefT r.da r.dn, portT r.sl r.sh, portT r.dl r.dh] [32]).length ≤ 140737488355328 from words_len r permitW (Lib.decDigits r.proto.toNat) (by decide) (by have := dec32 (n := r.proto.toNat) (by omega); omega) k2.1 k2.2.1 k3.1 k3.2.1)
  have hwd : r.text = Lib.join [permitW, Lib.decDigits r.proto.toNat, prefT r.sa r.sn, prefT r.da r.dn, portT r.sl r.sh, portT r.dl r.dh] [32] := by
    unfold RuleV.text RuleV.words whatT protoT
    rw [hperm, if_pos hpr]
    rfl
  have HW := Lib.hid hwd
  have dp : r.proto ≥ 0 := hpr
  have K0 := Lib.hid (show ∀ V : World, (V.cell? ⟨w.heap.size, 2, none⟩ = some (.int .u32 r.sa) ∧ V.cell? ⟨w.heap.size, 3, none⟩ = some (.int .i64 r.sn) ∧ V.cell? ⟨w.heap.size, 4, none⟩ = some (.int .u32 r.da) ∧ V.cell? ⟨w.heap.size, 5, none⟩ = some (.int .i64 r.dn) ∧ V.cell? ⟨w.heap.size, 6, none⟩ = some (.int .u32 r.sl) ∧ V.cell? ⟨w.heap.size, 7, none⟩ = some (.int .u32 r.sh) ∧ V.cell? ⟨w.heap.size, 8, none⟩ = some (.int .u32 r.dl) ∧ V.cell? ⟨w.heap.size, 9, none⟩ = some (.int .u32 r.dh) ∧ Below w.heap.size w V) → Calls Tryd.prog 33 #[.agg #[.int .u32 r.sa, .int .i64 r.sn]] V fun e V' => e = .returned (.string ⟨(prefT r.sa r.sn).toArray⟩) ∧ V'.cell? ⟨w.heap.size, 2, none⟩ = some (.int .u32 r.sa) ∧ V'.cell? ⟨w.heap.size, 3, none⟩ = some (.int .i64 r.sn) ∧ V'.cell? ⟨w.heap.size, 4, none⟩ = some (.int .u32 r.da) ∧ V'.cell? ⟨w.heap.size, 5, none⟩ = some (.int .i64 r.dn) ∧ V'.cell? ⟨w.heap.size, 6, none⟩ = some (.int .u32 r.sl) ∧ V'.cell? ⟨w.heap.size, 7, none⟩ = some (.int .u32 r.sh) ∧ V'.cell? ⟨w.heap.size, 8, none⟩ = some (.int .u32 r.dl) ∧ V'.cell? ⟨w.heap.size, 9, none⟩ = some (.int .u32 r.dh) ∧ Below w.heap.size w V' from fun V ⟨h1, h2, h3, h4, h5, h6, h7, h8, h9⟩ => (prefI_any r.sa r.sn r.hsa (by omega) (by omega) V (hE.below h9)).mono fun e V' ⟨he, hb⟩ => ⟨he, cell_kept hb h1, cell_kept hb h2, cell_kept hb h3, cell_kept hb h4, cell_kept hb h5, cell_kept hb h6, cell_kept hb h7, cell_kept hb h8, below_call h9 hb⟩)
  have K1 := Lib.hid (show ∀ V : World, (V.cell? ⟨w.heap.size, 2, none⟩ = some (.int .u32 r.sa) ∧ V.cell? ⟨w.heap.size, 3, none⟩ = some (.int .i64 r.sn) ∧ V.cell? ⟨w.heap.size, 4, none⟩ = some (.int .u32 r.da) ∧ V.cell? ⟨w.heap.size, 5, none⟩ = some (.int .i64 r.dn) ∧ V.cell? ⟨w.heap.size, 6, none⟩ = some (.int .u32 r.sl) ∧ V.cell? ⟨w.heap.size, 7, none⟩ = some (.int .u32 r.sh) ∧ V.cell? ⟨w.heap.size, 8, none⟩ = some (.int .u32 r.dl) ∧ V.cell? ⟨w.heap.size, 9, none⟩ = some (.int .u32 r.dh) ∧ Below w.heap.size w V) → Calls Tryd.prog 33 #[.agg #[.int .u32 r.da, .int .i64 r.dn]] V fun e V' => e = .returned (.string ⟨(prefT r.da r.dn).toArray⟩) ∧ V'.cell? ⟨w.heap.size, 2, none⟩ = some (.int .u32 r.sa) ∧ V'.cell? ⟨w.heap.size, 3, none⟩ = some (.int .i64 r.sn) ∧ V'.cell? ⟨w.heap.size, 4, none⟩ = some (.int .u32 r.da) ∧ V'.cell? ⟨w.heap.size, 5, none⟩ = some (.int .i64 r.dn) ∧ V'.cell? ⟨w.heap.size, 6, none⟩ = some (.int .u32 r.sl) ∧ V'.cell? ⟨w.heap.size, 7, none⟩ = some (.int .u32 r.sh) ∧ V'.cell? ⟨w.heap.size, 8, none⟩ = some (.int .u32 r.dl) ∧ V'.cell? ⟨w.heap.size, 9, none⟩ = some (.int .u32 r.dh) ∧ Below w.heap.size w V' from fun V ⟨h1, h2, h3, h4, h5, h6, h7, h8, h9⟩ => (prefI_any r.da r.dn r.hda (by omega) (by omega) V (hE.below h9)).mono fun e V' ⟨he, hb⟩ => ⟨he, cell_kept hb h1, cell_kept hb h2, cell_kept hb h3, cell_kept hb h4, cell_kept hb h5, cell_kept hb h6, cell_kept hb h7, cell_kept hb h8, below_call h9 hb⟩)
  have K2 := Lib.hid (show ∀ V : World, (V.cell? ⟨w.heap.size, 2, none⟩ = some (.int .u32 r.sa) ∧ V.cell? ⟨w.heap.size, 3, none⟩ = some (.int .i64 r.sn) ∧ V.cell? ⟨w.heap.size, 4, none⟩ = some (.int .u32 r.da) ∧ V.cell? ⟨w.heap.size, 5, none⟩ = some (.int .i64 r.dn) ∧ V.cell? ⟨w.heap.size, 6, none⟩ = some (.int .u32 r.sl) ∧ V.cell? ⟨w.heap.size, 7, none⟩ = some (.int .u32 r.sh) ∧ V.cell? ⟨w.heap.size, 8, none⟩ = some (.int .u32 r.dl) ∧ V.cell? ⟨w.heap.size, 9, none⟩ = some (.int .u32 r.dh) ∧ Below w.heap.size w V) → Calls Tryd.prog 51 #[.agg #[.int .u32 r.sl, .int .u32 r.sh]] V fun e V' => e = .returned (.string ⟨(portT r.sl r.sh).toArray⟩) ∧ V'.cell? ⟨w.heap.size, 2, none⟩ = some (.int .u32 r.sa) ∧ V'.cell? ⟨w.heap.size, 3, none⟩ = some (.int .i64 r.sn) ∧ V'.cell? ⟨w.heap.size, 4, none⟩ = some (.int .u32 r.da) ∧ V'.cell? ⟨w.heap.size, 5, none⟩ = some (.int .i64 r.dn) ∧ V'.cell? ⟨w.heap.size, 6, none⟩ = some (.int .u32 r.sl) ∧ V'.cell? ⟨w.heap.size, 7, none⟩ = some (.int .u32 r.sh) ∧ V'.cell? ⟨w.heap.size, 8, none⟩ = some (.int .u32 r.dl) ∧ V'.cell? ⟨w.heap.size, 9, none⟩ = some (.int .u32 r.dh) ∧ Below w.heap.size w V' from fun V ⟨h1, h2, h3, h4, h5, h6, h7, h8, h9⟩ => (portT_any r.sl r.sh r.hsl r.hsh V (hE.below h9)).mono fun e V' ⟨he, hb⟩ => ⟨he, cell_kept hb h1, cell_kept hb h2, cell_kept hb h3, cell_kept hb h4, cell_kept hb h5, cell_kept hb h6, cell_kept hb h7, cell_kept hb h8, below_call h9 hb⟩)
  have K3 := Lib.hid (show ∀ V : World, (V.cell? ⟨w.heap.size, 2, none⟩ = some (.int .u32 r.sa) ∧ V.cell? ⟨w.heap.size, 3, none⟩ = some (.int .i64 r.sn) ∧ V.cell? ⟨w.heap.size, 4, none⟩ = some (.int .u32 r.da) ∧ V.cell? ⟨w.heap.size, 5, none⟩ = some (.int .i64 r.dn) ∧ V.cell? ⟨w.heap.size, 6, none⟩ = some (.int .u32 r.sl) ∧ V.cell? ⟨w.heap.size, 7, none⟩ = some (.int .u32 r.sh) ∧ V.cell? ⟨w.heap.size, 8, none⟩ = some (.int .u32 r.dl) ∧ V.cell? ⟨w.heap.size, 9, none⟩ = some (.int .u32 r.dh) ∧ Below w.heap.size w V) → Calls Tryd.prog 51 #[.agg #[.int .u32 r.dl, .int .u32 r.dh]] V fun e V' => e = .returned (.string ⟨(portT r.dl r.dh).toArray⟩) ∧ V'.cell? ⟨w.heap.size, 2, none⟩ = some (.int .u32 r.sa) ∧ V'.cell? ⟨w.heap.size, 3, none⟩ = some (.int .i64 r.sn) ∧ V'.cell? ⟨w.heap.size, 4, none⟩ = some (.int .u32 r.da) ∧ V'.cell? ⟨w.heap.size, 5, none⟩ = some (.int .i64 r.dn) ∧ V'.cell? ⟨w.heap.size, 6, none⟩ = some (.int .u32 r.sl) ∧ V'.cell? ⟨w.heap.size, 7, none⟩ = some (.int .u32 r.sh) ∧ V'.cell? ⟨w.heap.size, 8, none⟩ = some (.int .u32 r.dl) ∧ V'.cell? ⟨w.heap.size, 9, none⟩ = some (.int .u32 r.dh) ∧ Below w.heap.size w V' from fun V ⟨h1, h2, h3, h4, h5, h6, h7, h8, h9⟩ => (portT_any r.dl r.dh r.hdl r.hdh V (hE.below h9)).mono fun e V' ⟨he, hb⟩ => ⟨he, cell_kept hb h1, cell_kept hb h2, cell_kept hb h3, cell_kept hb h4, cell_kept hb h5, cell_kept hb h6, cell_kept hb h7, cell_kept hb h8, below_call h9 hb⟩)
  have KJ := Lib.hid (show ∀ V g, V.heap[g]? = some (.cells #[Value.string ⟨(permitW).toArray⟩, Value.string ⟨(Lib.decDigits r.proto.toNat).toArray⟩, Value.string ⟨(prefT r.sa r.sn).toArray⟩, Value.string ⟨(prefT r.da r.dn).toArray⟩, Value.string ⟨(portT r.sl r.sh).toArray⟩, Value.string ⟨(portT r.dl r.dh).toArray⟩] 9 (0, 0)) → Calls Tryd.prog 47 #[.slice (some ⟨g, 0, none⟩) 6 6, .string ⟨#[32]⟩] V fun e V' => e = .returned (.string ⟨r.text.toArray⟩) ∧ Below V.heap.size V V' from fun V g h => by
    have hj := joinW_any [⟨(permitW).toArray⟩, ⟨(Lib.decDigits r.proto.toNat).toArray⟩, ⟨(prefT r.sa r.sn).toArray⟩, ⟨(prefT r.da r.dn).toArray⟩, ⟨(portT r.sl r.sh).toArray⟩, ⟨(portT r.dl r.dh).toArray⟩] g V h (by simp) (by simp) (by simpa using hlen.out)
    rw [HW.out]
    simpa using hj)
  clear hmay hperm m2 m3 hwd
  go_enter Tryd.func17, Tryd.ntmps17
  go_upto_region 1 with fail
  try rw [hW]
  obtain ⟨c0, c1, c2, c3, c4, c5, c6, c7, c8, c9⟩ := rule_blk (r := r) hk0
  have hst : ((w.alloc (ruleObj r)).cell? ⟨w.heap.size, 2, none⟩ = some (.int .u32 r.sa) ∧ (w.alloc (ruleObj r)).cell? ⟨w.heap.size, 3, none⟩ = some (.int .i64 r.sn) ∧ (w.alloc (ruleObj r)).cell? ⟨w.heap.size, 4, none⟩ = some (.int .u32 r.da) ∧ (w.alloc (ruleObj r)).cell? ⟨w.heap.size, 5, none⟩ = some (.int .i64 r.dn) ∧ (w.alloc (ruleObj r)).cell? ⟨w.heap.size, 6, none⟩ = some (.int .u32 r.sl) ∧ (w.alloc (ruleObj r)).cell? ⟨w.heap.size, 7, none⟩ = some (.int .u32 r.sh) ∧ (w.alloc (ruleObj r)).cell? ⟨w.heap.size, 8, none⟩ = some (.int .u32 r.dl) ∧ (w.alloc (ruleObj r)).cell? ⟨w.heap.size, 9, none⟩ = some (.int .u32 r.dh) ∧ Below w.heap.size w (w.alloc (ruleObj r))) := ⟨c2, c3, c4, c5, c6, c7, c8, c9, hb0⟩
  generalize w.alloc (ruleObj r) = W at *
  clear hW
  go_wp2_with fail
  refine hm.mono ?_
  rintro e w1 ⟨rfl, hb⟩
  have hk1 := blk_below hb hk0
  have hb1 := below_call hb0 hb
  clear hb hb0 hk0 c0 c1 c2 c3 c4 c5 c6 c7 c8 c9 hm hst
  obtain ⟨c0, c1, c2, c3, c4, c5, c6, c7, c8, c9⟩ := rule_blk (r := r) hk1
  rw [HP.out] at c0
  go_wp2_with fail
  refine (itoaN_any _ (by omega) (by omega) _ (hE.below hb1)).mono ?_
  rintro e w2 ⟨rfl, hb⟩
  have hk2 := blk_below hb hk1
  have hb2 := below_call hb1 hb
  clear hb hb1 hk1 c0 c1 c2 c3 c4 c5 c6 c7 c8 c9
  obtain ⟨c0, c1, c2, c3, c4, c5, c6, c7, c8, c9⟩ := rule_blk (r := r) hk2
  go_upto_region 8 with fail
  have hE2 := hE.below hb2
  have F2 := cell_regrown c2
  have F3 := cell_regrown c3
  have F4 := cell_regrown c4
  have F5 := cell_regrown c5
  have F6 := cell_regrown c6
  have F7 := cell_regrown c7
  have F8 := cell_regrown c8
  have F9 := cell_regrown c9
  clear c0 c1 c2 c3 c4 c5 c6 c7 c8 c9
  have k1 := Lib.hid (show StrR 33 #[.agg #[.int .u32 r.sa, .int .i64 r.sn]] _ w2 from fun d os => prefI_any r.sa r.sn r.hsa (by omega) (by omega) _ (hE2.below (below_regrown w2 d os)))
  have k2 := Lib.hid (show StrR 33 #[.agg #[.int .u32 r.da, .int .i64 r.dn]] _ w2 from fun d os => prefI_any r.da r.dn r.hda (by omega) (by omega) _ (hE2.below (below_regrown w2 d os)))
  have k3 := Lib.hid (show StrR 51 #[.agg #[.int .u32 r.sl, .int .u32 r.sh]] _ w2 from fun d os => portT_any r.sl r.sh r.hsl r.hsh _ (hE2.below (below_regrown w2 d os)))
  have k4 := Lib.hid (show StrR 51 #[.agg #[.int .u32 r.dl, .int .u32 r.dh]] _ w2 from fun d os => portT_any r.dl r.dh r.hdl r.hdh _ (hE2.below (below_regrown w2 d os)))
  refine wp_region_tail_below 14 (by kernel_rfl) (by kernel_rfl) ?_
  simp only [List.take_succ_cons, List.take_zero, List.drop_succ_cons, List.drop_zero]
  repeat (first | go_big_quiet_step ((first | (go_at_call 33; with_reducible exact Calls.regrown_of (k1.out _ _)) | (go_at_call 33; with_reducible exact Calls.regrown_of (k2.out _ _)) | (go_at_call 51; with_reducible exact Calls.regrown_of (k3.out _ _)) | (go_at_call 51; with_reducible exact Calls.regrown_of (k4.out _ _)))) | quiet_step ((first | (go_at_call 33; with_reducible exact Calls.regrown_of (k1.out _ _)) | (go_at_call 33; with_reducible exact Calls.regrown_of (k2.out _ _)) | (go_at_call 51; with_reducible exact Calls.regrown_of (k3.out _ _)) | (go_at_call 51; with_reducible exact Calls.regrown_of (k4.out _ _)))))
  refine wpQuiet_nil ?_
  intro W3 hw'
  obtain ⟨⟨nq, osq⟩, hw''⟩ := hw'
  have hb3 := below_call hb2 (hw'' ▸ below_regrown w2 nq osq)
  clear hw'' F2 F3 F4 F5 F6 F7 F8 F9 k1 k2 k3 k4 hE2 K0 K1 K2 K3
  go_wp2_with fail
  refine (KJ.out _ _ (heap_alloc_new _ _)).mono ?_
  rintro e w4 ⟨rfl, hb⟩
  have hb4 := below_call (hb3.alloc hb3.size _) hb
  go_wp2
  go_ret2
  exact ⟨by rw [ht.out.1, ht.out.2]; rfl, hb4⟩
set_option maxRecDepth 100000 in
set_option maxHeartbeats 4000000 in
theorem ftText_pa (r : RuleV) (w : World) (hE : Env w) (hmay : mayB r = true) (hperm : r.permit = true) (hpr : ¬ 0 ≤ r.proto) :
    Calls Tryd.prog 17 #[.agg #[.bool r.permit, .int .i64 r.proto, .int .u32 r.sa, .int .i64 r.sn, .int .u32 r.da, .int .i64 r.dn, .int .u32 r.sl, .int .u32 r.sh, .int .u32 r.dl, .int .u32 r.dh]] w fun e w' => e = .returned (.tuple #[.string ⟨r.told.toArray⟩, .int .i64 r.toldE]) ∧ Below w.heap.size w w' := by
  have hm := may_any r (w.alloc (ruleObj r))
  have hk0 := heap_alloc_new w (ruleObj r)
  have hb0 := below1 w (ruleObj r)
  have hW : w.alloc (.cells #[.bool r.permit, .int .i64 r.proto, .int .u32 r.sa, .int .i64 r.sn, .int .u32 r.da, .int .i64 r.dn, .int .u32 r.sl, .int .u32 r.sh, .int .u32 r.dl, .int .u32 r.dh] 51) = w.alloc (ruleObj r) := rfl
  rw [hmay] at hm
  have ht := Lib.hid (told_yes hmay)
  obtain ⟨m0, m1, m2, m3, m4, m5, m6, m7⟩ := mayB_ok hmay
  have k2 := chk_ok m2
  have k3 := chk_ok m3
  have HP := Lib.hid hperm
  have hlen := Lib.hid (show (Lib.join [permitW, anyW, prefT r.sa r.sn, prefT r.da r.dn, portT r.sl r.sh, portT r.dl r.dh] [32]).length ≤ 140737488355328 from words_len r permitW anyW (by decide) (by decide) k2.1 k2.2.1 k3.1 k3.2.1)
  have hwd : r.text = Lib.join [permitW, anyW, prefT r.sa r.sn, prefT r.da r.dn, portT r.sl r.sh, portT r.dl r.dh] [32] := by
    unfold RuleV.text RuleV.words whatT protoT
    rw [hperm, if_neg hpr]
    rfl
  have HW := Lib.hid hwd
  have dp : ¬ r.proto ≥ 0 := hpr
  have K0 := Lib.hid (show ∀ V : World, (V.cell? ⟨w.heap.size, 2, none⟩ = some (.int .u32 r.sa) ∧ V.cell? ⟨w.heap.size, 3, none⟩ = some (.int .i64 r.sn) ∧ V.cell? ⟨w.heap.size, 4, none⟩ = some (.int .u32 r.da) ∧ V.cell? ⟨w.heap.size, 5, none⟩ = some (.int .i64 r.dn) ∧ V.cell? ⟨w.heap.size, 6, none⟩ = some (.int .u32 r.sl) ∧ V.cell? ⟨w.heap.size, 7, none⟩ = some (.int .u32 r.sh) ∧ V.cell? ⟨w.heap.size, 8, none⟩ = some (.int .u32 r.dl) ∧ V.cell? ⟨w.heap.size, 9, none⟩ = some (.int .u32 r.dh) ∧ Below w.heap.size w V) → Calls Tryd.prog 33 #[.agg #[.int .u32 r.sa, .int .i64 r.sn]] V fun e V' => e = .returned (.string ⟨(prefT r.sa r.sn).toArray⟩) ∧ V'.cell? ⟨w.heap.size, 2, none⟩ = some (.int .u32 r.sa) ∧ V'.cell? ⟨w.heap.size, 3, none⟩ = some (.int .i64 r.sn) ∧ V'.cell? ⟨w.heap.size, 4, none⟩ = some (.int .u32 r.da) ∧ V'.cell? ⟨w.heap.size, 5, none⟩ = some (.int .i64 r.dn) ∧ V'.cell? ⟨w.heap.size, 6, none⟩ = some (.int .u32 r.sl) ∧ V'.cell? ⟨w.heap.size, 7, none⟩ = some (.int .u32 r.sh) ∧ V'.cell? ⟨w.heap.size, 8, none⟩ = some (.int .u32 r.dl) ∧ V'.cell? ⟨w.heap.size, 9, none⟩ = some (.int .u32 r.dh) ∧ Below w.heap.size w V' from fun V ⟨h1, h2, h3, h4, h5, h6, h7, h8, h9⟩ => (prefI_any r.sa r.sn r.hsa (by omega) (by omega) V (hE.below h9)).mono fun e V' ⟨he, hb⟩ => ⟨he, cell_kept hb h1, cell_kept hb h2, cell_kept hb h3, cell_kept hb h4, cell_kept hb h5, cell_kept hb h6, cell_kept hb h7, cell_kept hb h8, below_call h9 hb⟩)
  have K1 := Lib.hid (show ∀ V : World, (V.cell? ⟨w.heap.size, 2, none⟩ = some (.int .u32 r.sa) ∧ V.cell? ⟨w.heap.size, 3, none⟩ = some (.int .i64 r.sn) ∧ V.cell? ⟨w.heap.size, 4, none⟩ = some (.int .u32 r.da) ∧ V.cell? ⟨w.heap.size, 5, none⟩ = some (.int .i64 r.dn) ∧ V.cell? ⟨w.heap.size, 6, none⟩ = some (.int .u32 r.sl) ∧ V.cell? ⟨w.heap.size, 7, none⟩ = some (.int .u32 r.sh) ∧ V.cell? ⟨w.heap.size, 8, none⟩ = some (.int .u32 r.dl) ∧ V.cell? ⟨w.heap.size, 9, none⟩ = some (.int .u32 r.dh) ∧ Below w.heap.size w V) → Calls Tryd.prog 33 #[.agg #[.int .u32 r.da, .int .i64 r.dn]] V fun e V' => e = .returned (.string ⟨(prefT r.da r.dn).toArray⟩) ∧ V'.cell? ⟨w.heap.size, 2, none⟩ = some (.int .u32 r.sa) ∧ V'.cell? ⟨w.heap.size, 3, none⟩ = some (.int .i64 r.sn) ∧ V'.cell? ⟨w.heap.size, 4, none⟩ = some (.int .u32 r.da) ∧ V'.cell? ⟨w.heap.size, 5, none⟩ = some (.int .i64 r.dn) ∧ V'.cell? ⟨w.heap.size, 6, none⟩ = some (.int .u32 r.sl) ∧ V'.cell? ⟨w.heap.size, 7, none⟩ = some (.int .u32 r.sh) ∧ V'.cell? ⟨w.heap.size, 8, none⟩ = some (.int .u32 r.dl) ∧ V'.cell? ⟨w.heap.size, 9, none⟩ = some (.int .u32 r.dh) ∧ Below w.heap.size w V' from fun V ⟨h1, h2, h3, h4, h5, h6, h7, h8, h9⟩ => (prefI_any r.da r.dn r.hda (by omega) (by omega) V (hE.below h9)).mono fun e V' ⟨he, hb⟩ => ⟨he, cell_kept hb h1, cell_kept hb h2, cell_kept hb h3, cell_kept hb h4, cell_kept hb h5, cell_kept hb h6, cell_kept hb h7, cell_kept hb h8, below_call h9 hb⟩)
  have K2 := Lib.hid (show ∀ V : World, (V.cell? ⟨w.heap.size, 2, none⟩ = some (.int .u32 r.sa) ∧ V.cell? ⟨w.heap.size, 3, none⟩ = some (.int .i64 r.sn) ∧ V.cell? ⟨w.heap.size, 4, none⟩ = some (.int .u32 r.da) ∧ V.cell? ⟨w.heap.size, 5, none⟩ = some (.int .i64 r.dn) ∧ V.cell? ⟨w.heap.size, 6, none⟩ = some (.int .u32 r.sl) ∧ V.cell? ⟨w.heap.size, 7, none⟩ = some (.int .u32 r.sh) ∧ V.cell? ⟨w.heap.size, 8, none⟩ = some (.int .u32 r.dl) ∧ V.cell? ⟨w.heap.size, 9, none⟩ = some (.int .u32 r.dh) ∧ Below w.heap.size w V) → Calls Tryd.prog 51 #[.agg #[.int .u32 r.sl, .int .u32 r.sh]] V fun e V' => e = .returned (.string ⟨(portT r.sl r.sh).toArray⟩) ∧ V'.cell? ⟨w.heap.size, 2, none⟩ = some (.int .u32 r.sa) ∧ V'.cell? ⟨w.heap.size, 3, none⟩ = some (.int .i64 r.sn) ∧ V'.cell? ⟨w.heap.size, 4, none⟩ = some (.int .u32 r.da) ∧ V'.cell? ⟨w.heap.size, 5, none⟩ = some (.int .i64 r.dn) ∧ V'.cell? ⟨w.heap.size, 6, none⟩ = some (.int .u32 r.sl) ∧ V'.cell? ⟨w.heap.size, 7, none⟩ = some (.int .u32 r.sh) ∧ V'.cell? ⟨w.heap.size, 8, none⟩ = some (.int .u32 r.dl) ∧ V'.cell? ⟨w.heap.size, 9, none⟩ = some (.int .u32 r.dh) ∧ Below w.heap.size w V' from fun V ⟨h1, h2, h3, h4, h5, h6, h7, h8, h9⟩ => (portT_any r.sl r.sh r.hsl r.hsh V (hE.below h9)).mono fun e V' ⟨he, hb⟩ => ⟨he, cell_kept hb h1, cell_kept hb h2, cell_kept hb h3, cell_kept hb h4, cell_kept hb h5, cell_kept hb h6, cell_kept hb h7, cell_kept hb h8, below_call h9 hb⟩)
  have K3 := Lib.hid (show ∀ V : World, (V.cell? ⟨w.heap.size, 2, none⟩ = some (.int .u32 r.sa) ∧ V.cell? ⟨w.heap.size, 3, none⟩ = some (.int .i64 r.sn) ∧ V.cell? ⟨w.heap.size, 4, none⟩ = some (.int .u32 r.da) ∧ V.cell? ⟨w.heap.size, 5, none⟩ = some (.int .i64 r.dn) ∧ V.cell? ⟨w.heap.size, 6, none⟩ = some (.int .u32 r.sl) ∧ V.cell? ⟨w.heap.size, 7, none⟩ = some (.int .u32 r.sh) ∧ V.cell? ⟨w.heap.size, 8, none⟩ = some (.int .u32 r.dl) ∧ V.cell? ⟨w.heap.size, 9, none⟩ = some (.int .u32 r.dh) ∧ Below w.heap.size w V) → Calls Tryd.prog 51 #[.agg #[.int .u32 r.dl, .int .u32 r.dh]] V fun e V' => e = .returned (.string ⟨(portT r.dl r.dh).toArray⟩) ∧ V'.cell? ⟨w.heap.size, 2, none⟩ = some (.int .u32 r.sa) ∧ V'.cell? ⟨w.heap.size, 3, none⟩ = some (.int .i64 r.sn) ∧ V'.cell? ⟨w.heap.size, 4, none⟩ = some (.int .u32 r.da) ∧ V'.cell? ⟨w.heap.size, 5, none⟩ = some (.int .i64 r.dn) ∧ V'.cell? ⟨w.heap.size, 6, none⟩ = some (.int .u32 r.sl) ∧ V'.cell? ⟨w.heap.size, 7, none⟩ = some (.int .u32 r.sh) ∧ V'.cell? ⟨w.heap.size, 8, none⟩ = some (.int .u32 r.dl) ∧ V'.cell? ⟨w.heap.size, 9, none⟩ = some (.int .u32 r.dh) ∧ Below w.heap.size w V' from fun V ⟨h1, h2, h3, h4, h5, h6, h7, h8, h9⟩ => (portT_any r.dl r.dh r.hdl r.hdh V (hE.below h9)).mono fun e V' ⟨he, hb⟩ => ⟨he, cell_kept hb h1, cell_kept hb h2, cell_kept hb h3, cell_kept hb h4, cell_kept hb h5, cell_kept hb h6, cell_kept hb h7, cell_kept hb h8, below_call h9 hb⟩)
  have KJ := Lib.hid (show ∀ V g, V.heap[g]? = some (.cells #[Value.string ⟨(permitW).toArray⟩, Value.string ⟨(anyW).toArray⟩, Value.string ⟨(prefT r.sa r.sn).toArray⟩, Value.string ⟨(prefT r.da r.dn).toArray⟩, Value.string ⟨(portT r.sl r.sh).toArray⟩, Value.string ⟨(portT r.dl r.dh).toArray⟩] 9 (0, 0)) → Calls Tryd.prog 47 #[.slice (some ⟨g, 0, none⟩) 6 6, .string ⟨#[32]⟩] V fun e V' => e = .returned (.string ⟨r.text.toArray⟩) ∧ Below V.heap.size V V' from fun V g h => by
    have hj := joinW_any [⟨(permitW).toArray⟩, ⟨(anyW).toArray⟩, ⟨(prefT r.sa r.sn).toArray⟩, ⟨(prefT r.da r.dn).toArray⟩, ⟨(portT r.sl r.sh).toArray⟩, ⟨(portT r.dl r.dh).toArray⟩] g V h (by simp) (by simp) (by simpa using hlen.out)
    rw [HW.out]
    simpa using hj)
  clear hmay hperm m2 m3 hwd
  go_enter Tryd.func17, Tryd.ntmps17
  go_upto_region 1 with fail
  try rw [hW]
  obtain ⟨c0, c1, c2, c3, c4, c5, c6, c7, c8, c9⟩ := rule_blk (r := r) hk0
  have hst : ((w.alloc (ruleObj r)).cell? ⟨w.heap.size, 2, none⟩ = some (.int .u32 r.sa) ∧ (w.alloc (ruleObj r)).cell? ⟨w.heap.size, 3, none⟩ = some (.int .i64 r.sn) ∧ (w.alloc (ruleObj r)).cell? ⟨w.heap.size, 4, none⟩ = some (.int .u32 r.da) ∧ (w.alloc (ruleObj r)).cell? ⟨w.heap.size, 5, none⟩ = some (.int .i64 r.dn) ∧ (w.alloc (ruleObj r)).cell? ⟨w.heap.size, 6, none⟩ = some (.int .u32 r.sl) ∧ (w.alloc (ruleObj r)).cell? ⟨w.heap.size, 7, none⟩ = some (.int .u32 r.sh) ∧ (w.alloc (ruleObj r)).cell? ⟨w.heap.size, 8, none⟩ = some (.int .u32 r.dl) ∧ (w.alloc (ruleObj r)).cell? ⟨w.heap.size, 9, none⟩ = some (.int .u32 r.dh) ∧ Below w.heap.size w (w.alloc (ruleObj r))) := ⟨c2, c3, c4, c5, c6, c7, c8, c9, hb0⟩
  generalize w.alloc (ruleObj r) = W at *
  clear hW
  go_wp2_with fail
  refine hm.mono ?_
  rintro e w1 ⟨rfl, hb⟩
  have hk1 := blk_below hb hk0
  have hb1 := below_call hb0 hb
  clear hb hb0 hk0 c0 c1 c2 c3 c4 c5 c6 c7 c8 c9 hm hst
  obtain ⟨c0, c1, c2, c3, c4, c5, c6, c7, c8, c9⟩ := rule_blk (r := r) hk1
  rw [HP.out] at c0
  go_upto_region 8 with fail
  have hE2 := hE.below hb1
  have F2 := cell_regrown c2
  have F3 := cell_regrown c3
  have F4 := cell_regrown c4
  have F5 := cell_regrown c5
  have F6 := cell_regrown c6
  have F7 := cell_regrown c7
  have F8 := cell_regrown c8
  have F9 := cell_regrown c9
  clear c0 c1 c2 c3 c4 c5 c6 c7 c8 c9
  have k1 := Lib.hid (show StrR 33 #[.agg #[.int .u32 r.sa, .int .i64 r.sn]] _ w1 from fun d os => prefI_any r.sa r.sn r.hsa (by omega) (by omega) _ (hE2.below (below_regrown w1 d os)))
  have k2 := Lib.hid (show StrR 33 #[.agg #[.int .u32 r.da, .int .i64 r.dn]] _ w1 from fun d os => prefI_any r.da r.dn r.hda (by omega) (by omega) _ (hE2.below (below_regrown w1 d os)))
  have k3 := Lib.hid (show StrR 51 #[.agg #[.int .u32 r.sl, .int .u32 r.sh]] _ w1 from fun d os => portT_any r.sl r.sh r.hsl r.hsh _ (hE2.below (below_regrown w1 d os)))
  have k4 := Lib.hid (show StrR 51 #[.agg #[.int .u32 r.dl, .int .u32 r.dh]] _ w1 from fun d os => portT_any r.dl r.dh r.hdl r.hdh _ (hE2.below (below_regrown w1 d os)))
  refine wp_region_tail_below 14 (by kernel_rfl) (by kernel_rfl) ?_
  simp only [List.take_succ_cons, List.take_zero, List.drop_succ_cons, List.drop_zero]
  repeat (first | go_big_quiet_step ((first | (go_at_call 33; with_reducible exact Calls.regrown_of (k1.out _ _)) | (go_at_call 33; with_reducible exact Calls.regrown_of (k2.out _ _)) | (go_at_call 51; with_reducible exact Calls.regrown_of (k3.out _ _)) | (go_at_call 51; with_reducible exact Calls.regrown_of (k4.out _ _)))) | quiet_step ((first | (go_at_call 33; with_reducible exact Calls.regrown_of (k1.out _ _)) | (go_at_call 33; with_reducible exact Calls.regrown_of (k2.out _ _)) | (go_at_call 51; with_reducible exact Calls.regrown_of (k3.out _ _)) | (go_at_call 51; with_reducible exact Calls.regrown_of (k4.out _ _)))))
  refine wpQuiet_nil ?_
  intro W3 hw'
  obtain ⟨⟨nq, osq⟩, hw''⟩ := hw'
  have hb3 := below_call hb1 (hw'' ▸ below_regrown w1 nq osq)
  clear hw'' F2 F3 F4 F5 F6 F7 F8 F9 k1 k2 k3 k4 hE2 K0 K1 K2 K3
  go_wp2_with fail
  refine (KJ.out _ _ (heap_alloc_new _ _)).mono ?_
  rintro e w4 ⟨rfl, hb⟩
  have hb4 := below_call (hb3.alloc hb3.size _) hb
  go_wp2
  go_ret2
  exact ⟨by rw [ht.out.1, ht.out.2]; rfl, hb4⟩
set_option maxRecDepth 100000 in
set_option maxHeartbeats 1000000 in
theorem ftText_no (r : RuleV) (w : World) (hmay : mayB r = false) :
    Calls Tryd.prog 17 #[.agg #[.bool r.permit, .int .i64 r.proto, .int .u32 r.sa, .int .i64 r.sn, .int .u32 r.da, .int .i64 r.dn, .int .u32 r.sl, .int .u32 r.sh, .int .u32 r.dl, .int .u32 r.dh]] w fun e w' => e = .returned (.tuple #[.string ⟨r.told.toArray⟩, .int .i64 r.toldE]) ∧ Below w.heap.size w w' := by
  have hm := may_any r (w.alloc (ruleObj r))
  have hk0 := heap_alloc_new w (ruleObj r)
  have hb0 := below1 w (ruleObj r)
  have hW : w.alloc (.cells #[.bool r.permit, .int .i64 r.proto, .int .u32 r.sa, .int .i64 r.sn, .int .u32 r.da, .int .i64 r.dn, .int .u32 r.sl, .int .u32 r.sh, .int .u32 r.dl, .int .u32 r.dh] 51) = w.alloc (ruleObj r) := rfl
  rw [hmay] at hm
  have ht := Lib.hid (told_no hmay)
  clear hmay
  go_enter Tryd.func17, Tryd.ntmps17
  go_upto_region 1 with fail
  obtain ⟨c0, c1, c2, c3, c4, c5, c6, c7, c8, c9⟩ := rule_blk (r := r) hk0
  generalize w.alloc (ruleObj r) = W at *
  clear hW
  go_wp2_with fail
  refine hm.mono ?_
  rintro e w1 ⟨rfl, hb⟩
  have hbw := below_call hb0 hb
  go_wp2
  go_ret2
  exact ⟨by rw [ht.out.1, ht.out.2]; rfl, hbw⟩
theorem ftText_any (r : RuleV) (w : World) (hE : Env w) :
    Calls Tryd.prog 17 #[.agg #[.bool r.permit, .int .i64 r.proto, .int .u32 r.sa, .int .i64 r.sn, .int .u32 r.da, .int .i64 r.dn, .int .u32 r.sl, .int .u32 r.sh, .int .u32 r.dl, .int .u32 r.dh]] w fun e w' => e = .returned (.tuple #[.string ⟨r.told.toArray⟩, .int .i64 r.toldE]) ∧ Below w.heap.size w w' := by
  cases hmay : mayB r with
  | false => exact ftText_no r w hmay
  | true =>
    cases hperm : r.permit with
    | false =>
      by_cases hpr : 0 ≤ r.proto
      · exact hperm ▸ ftText_dn r w hE hmay hperm hpr
      · exact hperm ▸ ftText_da r w hE hmay hperm hpr
    | true =>
      by_cases hpr : 0 ≤ r.proto
      · exact hperm ▸ ftText_pn r w hE hmay hperm hpr
      · exact hperm ▸ ftText_pa r w hE hmay hperm hpr
end Go.Proofs.YtmgeknghgngliaaDoor

/-
  Small general lemmas, the third text: one element appended to a row of the call's own; no program in sight.
-/
namespace Go.Proofs.YtmgeknghgngliaaDoor
open Go Go.RowKit

/-- One element (its cells have just been laid in a block of their own) is appended to a row of the call's own. -/
theorem wpList_push {P : Program} {ops : Array Oper} {rest : List Oper} {o : Oper} {a : Act} {Q : Exit → Act → World → Prop} (hgd : o.guard = none) (s x : Operand) (t : TypeId)
    (ho : o.op = .call { callee := .builtin .append, args := #[s, x], argTypes := #[t, t] })
    (e : TypeId) (i : TypeInfo) (z : Value) (size bytes : Nat) (ht : P.underlying t = some (.slice e)) (hi : P.info? e = some i) (hz : i.zero = some z)
    (hsize : i.size = size) (hby : i.bytes = bytes) (hzs : z.cells.size = size) (hsz : 0 < size) (hb64 : bytes ≤ 64)
    {w0 : World} {base n : Nat} {v : Value} {xs : List Value} (es : List Value) (hs : a.eval s = v) {g0 : Nat} (hx : a.eval x = .slice (some ⟨g0, 0, none⟩) 1 1) (hg0 : g0 = w0.heap.size)
    (hown : w0.ownsRow base e size v n xs) (hes : es.length = size) (h1 : ∀ u ∈ es, u.oneCell' = true) (hn : n ≤ 1099511627776) (hbase : base ≤ w0.heap.size)
    {B : Nat} {a0 : World} (hb : Below B a0 w0) (hB : B ≤ base)
    (h : ∀ v' w', w'.ownsRow base e size v' (n + 1) (xs ++ es) → Below B a0 w' → wpList P ops Q rest (a.put o.dst v') w') : wpList P ops Q (o :: rest) a (w0.alloc (.cells es.toArray e)) := by
  subst hg0
  refine wpList_append_own _ hgd s x t ho base e i z size bytes ht hi hz hsize hby hzs hsz v n xs hs (hown.alloc _) ⟨w0.heap.size, 0, none⟩ 1 1 es hx (by omega) (cells_new w0 es e) h1 (by unfold maxLen; omega) ?_ (by simp; omega) ?_
  · calc (n + 1) * bytes ≤ (1099511627776 + 1) * 64 := Nat.mul_le_mul (by omega) hb64
      _ ≤ 140737488355328 := by decide
  · intro v' w' h2 h3 _
    exact h v' w' h2 (below_row (hb.alloc (by omega) _) (hown.alloc _) h3 (by simp; omega) hB)
/-- What a row of the call's own is made of. -/
theorem owns_block {w : World} {base : Nat} {e : TypeId} {size n : Nat} {g c : Nat} {xs : List Value} (h : w.ownsRow base e size (.slice (some ⟨g, 0, none⟩) n c) n xs) :
    ∃ cur : Array Value, w.heap[g]? = some (.cells cur e (0, 0)) ∧ n ≤ c ∧ c ≤ maxLen ∧ cur.size = c * size ∧ cur.toList.take (n * size) = xs ∧ base ≤ g := by
  obtain ⟨_, h2⟩ := h
  rcases h2 with ⟨h2, _⟩ | ⟨g', cap, cur, hv, hg, hh, hnc, hcm, hcs, ht⟩
  · cases h2
  · injection hv with h1 _ h3
    injection h1 with h1
    injection h1 with h1
    subst h1 h3
    exact ⟨cur, hh, hnc, hcm, hcs, ht, hg⟩
theorem owns_of_block {w : World} {base : Nat} {e : TypeId} {size n : Nat} {g c : Nat} {cur : Array Value} {xs : List Value} (hh : w.heap[g]? = some (.cells cur e (0, 0))) (hnc : n ≤ c) (hcm : c ≤ maxLen) (hcs : cur.size = c * size) (ht : cur.toList.take (n * size) = xs) (hl : xs.length = n * size) (hg : base ≤ g) :
    w.ownsRow base e size (.slice (some ⟨g, 0, none⟩) n c) n xs := ⟨hl, .inr ⟨g, c, cur, rfl, hg, hh, hnc, hcm, hcs, ht⟩⟩
theorem owns_nil (w : World) (base : Nat) (e : TypeId) (size : Nat) : w.ownsRow base e size (.slice none 0 0) 0 [] := ⟨by simp, .inl ⟨rfl, rfl⟩⟩

end Go.Proofs.YtmgeknghgngliaaDoor

/-
  Walks over the document's addresses: Parse.
-/
namespace Go.Proofs.YtmgeknghgngliaaDoor
open Go Go.RowKit Go.Sort

theorem Tryd.infoStr : (Tryd.prog.info? 9).map (fun i => (i.zero, i.size, i.bytes)) = some (some (.string ByteArray.empty), 1, 16) := by kernel_rfl
def PInv (l : List UInt8) (k f : Nat) (L : List ByteArray) : Prop :=
  (k ≤ l.length ∧ f ≤ k ∧ pieces 46 l = L.map (·.data.toList) ++ pieces 46 (l.drop f) ∧ (46 : UInt8) ∉ (l.drop f).take (k - f)) ∨ (k = l.length + 1 ∧ pieces 46 l = L.map (·.data.toList))
theorem one_str (x : ByteArray) : ∀ u ∈ [Value.string x], u.oneCell' = true := by intro u hu; simp at hu; subst hu; rfl
theorem pinv_start (l : List UInt8) : PInv l 0 0 [] := Or.inl ⟨Nat.zero_le _, Nat.le_refl _, by simp, by simp⟩
theorem pinv_skip {l : List UInt8} {k f : Nat} {L : List ByteArray} {x : UInt8} (h : PInv l k f L) (hk : l[k]? = some x) (hx : x ≠ 46) : PInv l (k + 1) f L := by
  have hkl := (List.getElem?_eq_some_iff.1 hk).1
  rcases h with ⟨h1, h2, h3, h4⟩ | ⟨h1, _⟩
  · refine Or.inl ⟨by omega, by omega, h3, ?_⟩
    rw [show k + 1 - f = (k - f) + 1 by omega, List.take_add_one]
    have e : (l.drop f)[k - f]? = some x := by rw [List.getElem?_drop, show f + (k - f) = k by omega, hk]
    rw [e]
    intro h
    rcases List.mem_append.1 h with h | h
    · exact h4 h
    · simp at h; exact hx h.symm
  · omega
theorem drop_split {l : List UInt8} {k f : Nat} (hf : f ≤ k) (hk : l[k]? = some 46) : l.drop f = (l.drop f).take (k - f) ++ 46 :: l.drop (k + 1) := by
  have hkl := (List.getElem?_eq_some_iff.1 hk).1
  have e : (l.drop f).drop (k - f) = 46 :: l.drop (k + 1) := by
    rw [List.drop_drop, show f + (k - f) = k by omega, List.drop_eq_getElem_cons hkl]
    congr 1
    exact Option.some.inj ((List.getElem?_eq_getElem hkl).symm.trans hk)
  rw [← e, List.take_append_drop]
theorem pinv_cut {l : List UInt8} {k f : Nat} {L : List ByteArray} {b : ByteArray} (h : PInv l k f L) (hk : l[k]? = some 46) (hb : b.data.toList = (l.drop f).take (k - f)) : PInv l (k + 1) (k + 1) (L ++ [b]) := by
  have hkl := (List.getElem?_eq_some_iff.1 hk).1
  rcases h with ⟨h1, h2, h3, h4⟩ | ⟨h1, _⟩
  · refine Or.inl ⟨by omega, Nat.le_refl _, ?_, by simp⟩
    rw [h3, drop_split h2 hk, pieces_cons _ h4, List.map_append, List.append_assoc]
    simp [hb]
  · omega
theorem pinv_end {l : List UInt8} {f : Nat} {L : List ByteArray} {b : ByteArray} (h : PInv l l.length f L) (hb : b.data.toList = (l.drop f).take (l.length - f)) : PInv l (l.length + 1) (l.length + 1) (L ++ [b]) := by
  rcases h with ⟨h1, h2, h3, h4⟩ | ⟨h1, _⟩
  · refine Or.inr ⟨rfl, ?_⟩
    have e : (l.drop f).take (l.length - f) = l.drop f := List.take_of_length_le (by simp)
    rw [e] at h4 hb
    rw [h3, pieces_none h4, List.map_append]
    simp [hb]
  · omega
theorem pinv_done {l : List UInt8} {f : Nat} {L : List ByteArray} (h : PInv l (l.length + 1) f L) : pieces 46 l = L.map (·.data.toList) := by
  rcases h with ⟨h1, _⟩ | ⟨_, h⟩
  · omega
  · exact h

end Go.Proofs.YtmgeknghgngliaaDoor

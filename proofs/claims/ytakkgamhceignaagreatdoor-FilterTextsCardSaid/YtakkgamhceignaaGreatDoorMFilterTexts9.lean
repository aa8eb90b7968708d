/-
  Joined texts: Ft1, Kit3, At4, Ft2.
-/
import Derived.Test.YtakkgamhceignaaGreatDoorMFilterTexts8
import Derived.Test.YtakkgamhceignaaGreatDoorMFilterTexts5
import Derived.Laws.OwnMore
import Derived.Test.YtakkgamhceignaaGreatDoorMFilterTexts7
import Derived.Test.YtakkgamhceignaaGreatDoorMFilterTexts6
/-
  The walk of filter.Text (written by wip/gen/genft1.py).
-/
namespace Go.Proofs.YtakkgamhceignaaGreatDoor
open Go Go.RowKit Go.Sort

set_option maxRecDepth 100000 in
set_option maxHeartbeats 4000000 in
theorem ftText_dn (r : RuleV) (w : World) (hE : Env w) (hmay : mayB r = true) (hperm : r.permit = false) (hpr : 0 ≤ r.proto) :
    Calls Tryz.prog 7 #[.agg #[.bool r.permit, .int .i64 r.proto, .int .u32 r.sa, .int .i64 r.sn, .int .u32 r.da, .int .i64 r.dn, .int .u32 r.sl, .int .u32 r.sh, .int .u32 r.dl, .int .u32 r.dh]] w fun e w' => e = .returned (.tuple #[.string ⟨r.told.toArray⟩, .int .i64 r.toldE]) ∧ Below w.heap.size w w' := by
  have hm := may_any r (w.alloc (ruleObj r))
  have hk0 := heap_alloc_new w (ruleObj r)
  have hb0 := below1 w (ruleObj r)
  have hW : w.alloc (.cells #[.bool r.permit, .int .i64 r.proto, .int .u32 r.sa, .int .i64 r.sn, .int .u32 r.da, .int .i64 r.dn, .int .u32 r.sl, .int .u32 r.sh, .int .u32 r.dl, .int .u32 r.dh] 29) = w.alloc (ruleObj r) := rfl
  rw [hmay] at hm
  have ht := Lib.hid (told_yes hmay)
  obtain ⟨m0, m1, m2, m3, m4, m5, m6, m7⟩ := mayB_ok hmay
  have k2 := chk_ok m2
  have k3 := chk_ok m3
  have HP := Lib.hid hperm
  have hlen := Lib.hid (show (Lib.join [denyW, Lib.decDigits r.proto.toNat, prefT r.sa r.sn, prefT r.da r.dn, portT r.sl r.sh, portT r.dl r.dh] [32]).length ≤ 140737488355328 from words_len r denyW (Lib.decDigits r.proto.toNat) (by decide) (by have := dec32 (n := r.proto.toNat) (by omega); omega) k2.1 k2.2.1 k3.1 k3.2.1)
  have hwd : r.text = Lib.join [denyW, Lib.decDigits r.proto.toNat, prefT r.sa r.sn, prefT r.da r.dn, portT r.sl r.sh, portT r.dl r.dh] [32] := by
    unfold RuleV.text RuleV.words whatT protoT
    rw [hperm, if_pos hpr]
    rfl
  have HW := Lib.hid hwd
  have dp : r.proto ≥ 0 := hpr
  have K0 := Lib.hid (show ∀ V : World, (V.cell? ⟨w.heap.size, 2, none⟩ = some (.int .u32 r.sa) ∧ V.cell? ⟨w.heap.size, 3, none⟩ = some (.int .i64 r.sn) ∧ V.cell? ⟨w.heap.size, 4, none⟩ = some (.int .u32 r.da) ∧ V.cell? ⟨w.heap.size, 5, none⟩ = some (.int .i64 r.dn) ∧ V.cell? ⟨w.heap.size, 6, none⟩ = some (.int .u32 r.sl) ∧ V.cell? ⟨w.heap.size, 7, none⟩ = some (.int .u32 r.sh) ∧ V.cell? ⟨w.heap.size, 8, none⟩ = some (.int .u32 r.dl) ∧ V.cell? ⟨w.heap.size, 9, none⟩ = some (.int .u32 r.dh) ∧ Below w.heap.size w V) → Calls Tryz.prog 33 #[.agg #[.int .u32 r.sa, .int .i64 r.sn]] V fun e V' => e = .returned (.string ⟨(prefT r.sa r.sn).toArray⟩) ∧ V'.cell? ⟨w.heap.size, 2, none⟩ = some (.int .u32 r.sa) ∧ V'.cell? ⟨w.heap.size, 3, none⟩ = some (.int .i64 r.sn) ∧ V'.cell? ⟨w.heap.size, 4, none⟩ = some (.int .u32 r.da) ∧ V'.cell? ⟨w.heap.size, 5, none⟩ = some (.int .i64 r.dn) ∧ V'.cell? ⟨w.heap.size, 6, none⟩ = some (.int .u32 r.sl) ∧ V'.cell? ⟨w.heap.size, 7, none⟩ = some (.int .u32 r.sh) ∧ V'.cell? ⟨w.heap.size, 8, none⟩ = some (.int .u32 r.dl) ∧ V'.cell? ⟨w.heap.size, 9, none⟩ = some (.int .u32 r.dh) ∧ Below w.heap.size w V' from fun V ⟨h1, h2, h3, h4, h5, h6, h7, h8, h9⟩ => (prefI_any r.sa r.sn r.hsa (by omega) (by omega) V (hE.below h9)).mono fun e V' ⟨he, hb⟩ => ⟨he, cell_kept hb h1, cell_kept hb h2, cell_kept hb h3, cell_kept hb h4, cell_kept hb h5, cell_kept hb h6, cell_kept hb h7, cell_kept hb h8, below_call h9 hb⟩)
  have K1 := Lib.hid (show ∀ V : World, (V.cell? ⟨w.heap.size, 2, none⟩ = some (.int .u32 r.sa) ∧ V.cell? ⟨w.heap.size, 3, none⟩ = some (.int .i64 r.sn) ∧ V.cell? ⟨w.heap.size, 4, none⟩ = some (.int .u32 r.da) ∧ V.cell? ⟨w.heap.size, 5, none⟩ = some (.int .i64 r.dn) ∧ V.cell? ⟨w.heap.size, 6, none⟩ = some (.int .u32 r.sl) ∧ V.cell? ⟨w.heap.size, 7, none⟩ = some (.int .u32 r.sh) ∧ V.cell? ⟨w.heap.size, 8, none⟩ = some (.int .u32 r.dl) ∧ V.cell? ⟨w.heap.size, 9, none⟩ = some (.int .u32 r.dh) ∧ Below w.heap.size w V) → Calls Tryz.prog 33 #[.agg #[.int .u32 r.da, .int .i64 r.dn]] V fun e V' => e = .returned (.string ⟨(prefT r.da r.dn).toArray⟩) ∧ V'.cell? ⟨w.heap.size, 2, none⟩ = some (.int .u32 r.sa) ∧ V'.cell? ⟨w.heap.size, 3, none⟩ = some (.int .i64 r.sn) ∧ V'.cell? ⟨w.heap.size, 4, none⟩ = some (.int .u32 r.da) ∧ V'.cell? ⟨w.heap.size, 5, none⟩ = some (.int .i64 r.dn) ∧ V'.cell? ⟨w.heap.size, 6, none⟩ = some (.int .u32 r.sl) ∧ V'.cell? ⟨w.heap.size, 7, none⟩ = some (.int .u32 r.sh) ∧ V'.cell? ⟨w.heap.size, 8, none⟩ = some (.int .u32 r.dl) ∧ V'.cell? ⟨w.heap.size, 9, none⟩ = some (.int .u32 r.dh) ∧ Below w.heap.size w V' from fun V ⟨h1, h2, h3, h4, h5, h6, h7, h8, h9⟩ => (prefI_any r.da r.dn r.hda (by omega) (by omega) V (hE.below h9)).mono fun e V' ⟨he, hb⟩ => ⟨he, cell_kept hb h1, cell_kept hb h2, cell_kept hb h3, cell_kept hb h4, cell_kept hb h5, cell_kept hb h6, cell_kept hb h7, cell_kept hb h8, below_call h9 hb⟩)
  have K2 := Lib.hid (show ∀ V : World, (V.cell? ⟨w.heap.size, 2, none⟩ = some (.int .u32 r.sa) ∧ V.cell? ⟨w.heap.size, 3, none⟩ = some (.int .i64 r.sn) ∧ V.cell? ⟨w.heap.size, 4, none⟩ = some (.int .u32 r.da) ∧ V.cell? ⟨w.heap.size, 5, none⟩ = some (.int .i64 r.dn) ∧ V.cell? ⟨w.heap.size, 6, none⟩ = some (.int .u32 r.sl) ∧ V.cell? ⟨w.heap.size, 7, none⟩ = some (.int .u32 r.sh) ∧ V.cell? ⟨w.heap.size, 8, none⟩ = some (.int .u32 r.dl) ∧ V.cell? ⟨w.heap.size, 9, none⟩ = some (.int .u32 r.dh) ∧ Below w.heap.size w V) → Calls Tryz.prog 34 #[.agg #[.int .u32 r.sl, .int .u32 r.sh]] V fun e V' => e = .returned (.string ⟨(portT r.sl r.sh).toArray⟩) ∧ V'.cell? ⟨w.heap.size, 2, none⟩ = some (.int .u32 r.sa) ∧ V'.cell? ⟨w.heap.size, 3, none⟩ = some (.int .i64 r.sn) ∧ V'.cell? ⟨w.heap.size, 4, none⟩ = some (.int .u32 r.da) ∧ V'.cell? ⟨w.heap.size, 5, none⟩ = some (.int .i64 r.dn) ∧ V'.cell? ⟨w.heap.size, 6, none⟩ = some (.int .u32 r.sl) ∧ V'.cell? ⟨w.heap.size, 7, none⟩ = some (.int .u32 r.sh) ∧ V'.cell? ⟨w.heap.size, 8, none⟩ = some (.int .u32 r.dl) ∧ V'.cell? ⟨w.heap.size, 9, none⟩ = some (.int .u32 r.dh) ∧ Below w.heap.size w V' from fun V ⟨h1, h2, h3, h4, h5, h6, h7, h8, h9⟩ => (portT_any r.sl r.sh r.hsl r.hsh V (hE.below h9)).mono fun e V' ⟨he, hb⟩ => ⟨he, cell_kept hb h1, cell_kept hb h2, cell_kept hb h3, cell_kept hb h4, cell_kept hb h5, cell_kept hb h6, cell_kept hb h7, cell_kept hb h8, below_call h9 hb⟩)
  have K3 := Lib.hid (show ∀ V : World, (V.cell? ⟨w.heap.size, 2, none⟩ = some (.int .u32 r.sa) ∧ V.cell? ⟨w.heap.size, 3, none⟩ = some (.int .i64 r.sn) ∧ V.cell? ⟨w.heap.size, 4, none⟩ = some (.int .u32 r.da) ∧ V.cell? ⟨w.heap.size, 5, none⟩ = some (.int .i64 r.dn) ∧ V.cell? ⟨w.heap.size, 6, none⟩ = some (.int .u32 r.sl) ∧ V.cell? ⟨w.heap.size, 7, none⟩ = some (.int .u32 r.sh) ∧ V.cell? ⟨w.heap.size, 8, none⟩ = some (.int .u32 r.dl) ∧ V.cell? ⟨w.heap.size, 9, none⟩ = some (.int .u32 r.dh) ∧ Below w.heap.size w V) → Calls Tryz.prog 34 #[.agg #[.int .u32 r.dl, .int .u32 r.dh]] V fun e V' => e = .returned (.string ⟨(portT r.dl r.dh).toArray⟩) ∧ V'.cell? ⟨w.heap.size, 2, none⟩ = some (.int .u32 r.sa) ∧ V'.cell? ⟨w.heap.size, 3, none⟩ = some (.int .i64 r.sn) ∧ V'.cell? ⟨w.heap.size, 4, none⟩ = some (.int .u32 r.da) ∧ V'.cell? ⟨w.heap.size, 5, none⟩ = some (.int .i64 r.dn) ∧ V'.cell? ⟨w.heap.size, 6, none⟩ = some (.int .u32 r.sl) ∧ V'.cell? ⟨w.heap.size, 7, none⟩ = some (.int .u32 r.sh) ∧ V'.cell? ⟨w.heap.size, 8, none⟩ = some (.int .u32 r.dl) ∧ V'.cell? ⟨w.heap.size, 9, none⟩ = some (.int .u32 r.dh) ∧ Below w.heap.size w V' from fun V ⟨h1, h2, h3, h4, h5, h6, h7, h8, h9⟩ => (portT_any r.dl r.dh r.hdl r.hdh V (hE.below h9)).mono fun e V' ⟨he, hb⟩ => ⟨he, cell_kept hb h1, cell_kept hb h2, cell_kept hb h3, cell_kept hb h4, cell_kept hb h5, cell_kept hb h6, cell_kept hb h7, cell_kept hb h8, below_call h9 hb⟩)
  have KJ := Lib.hid (show ∀ V g, V.heap[g]? = some (.cells #[Value.string ⟨(denyW).toArray⟩, Value.string ⟨(Lib.decDigits r.proto.toNat).toArray⟩, Value.string ⟨(prefT r.sa r.sn).toArray⟩, Value.string ⟨(prefT r.da r.dn).toArray⟩, Value.string ⟨(portT r.sl r.sh).toArray⟩, Value.string ⟨(portT r.dl r.dh).toArray⟩] 9 (0, 0)) → Calls Tryz.prog 32 #[.slice (some ⟨g, 0, none⟩) 6 6, .string ⟨#[32]⟩] V fun e V' => e = .returned (.string ⟨r.text.toArray⟩) ∧ Below V.heap.size V V' from fun V g h => by
    have hj := joinW_any [⟨(denyW).toArray⟩, ⟨(Lib.decDigits r.proto.toNat).toArray⟩, ⟨(prefT r.sa r.sn).toArray⟩, ⟨(prefT r.da r.dn).toArray⟩, ⟨(portT r.sl r.sh).toArray⟩, ⟨(portT r.dl r.dh).toArray⟩] g V h (by simp) (by simp) (by simpa using hlen.out)
    rw [HW.out]
    simpa using hj)
  clear hmay hperm m2 m3 hwd
  go_enter Tryz.func7, Tryz.ntmps7
  go_upto_region 1 with fail
  try rw [hW]
  obtain ⟨c0, c1, c2, c3, c4, c5, c6, c7, c8, c9⟩ := rule_blk (r := r) hk0
  have hst : ((w.alloc (ruleObj r)).cell? ⟨w.heap.size, 2, none⟩ = some (.int .u32 r.sa) ∧ (w.alloc (ruleObj r)).cell? ⟨w.heap.size, 3, none⟩ = some (.int .i64 r.sn) ∧ (w.alloc (ruleObj r)).cell? ⟨w.heap.size, 4, none⟩ = some (.int .u32 r.da) ∧ (w.alloc (ruleObj r)).cell? ⟨w.heap.size, 5, none⟩ = some (.int .i64 r.dn) ∧ (w.alloc (ruleObj r)).cell? ⟨w.heap.size, 6, none⟩ = some (.int .u32 r.sl) ∧ (w.alloc (ruleObj r)).cell? ⟨w.heap.size, 7, none⟩ = some (.int .u32 r.sh) ∧ (w.alloc (ruleObj r)).cell? ⟨w.heap.size, 8, none⟩ = some (.int .u32 r.dl) ∧ (w.alloc (ruleObj r)).cell? ⟨w.heap.size, 9, none⟩ = some (.int .u32 r.dh) ∧ Below w.heap.size w (w.alloc (ruleObj r))) := ⟨c2, c3, c4, c5, c6, c7, c8, c9, hb0⟩
  generalize w.alloc (ruleObj r) = W at *
  clear hW
  go_wp2_with fail
  refine hm.mono ?_
  rintro e w1 ⟨rfl, hb⟩
  have hk1 := blk_below hb hk0
  have hb1 := below_call hb0 hb
  clear hb hb0 hk0 c0 c1 c2 c3 c4 c5 c6 c7 c8 c9 hm hst
  obtain ⟨c0, c1, c2, c3, c4, c5, c6, c7, c8, c9⟩ := rule_blk (r := r) hk1
  rw [HP.out] at c0
  go_wp2_with fail
  refine (itoaN_any _ (by omega) (by omega) _ (hE.below hb1)).mono ?_
  rintro e w2 ⟨rfl, hb⟩
  have hk2 := blk_below hb hk1
  have hb2 := below_call hb1 hb
  clear hb hb1 hk1 c0 c1 c2 c3 c4 c5 c6 c7 c8 c9
  obtain ⟨c0, c1, c2, c3, c4, c5, c6, c7, c8, c9⟩ := rule_blk (r := r) hk2
  go_upto_region 8 with fail
  have hE2 := hE.below hb2
  have F2 := cell_regrown c2
  have F3 := cell_regrown c3
  have F4 := cell_regrown c4
  have F5 := cell_regrown c5
  have F6 := cell_regrown c6
  have F7 := cell_regrown c7
  have F8 := cell_regrown c8
  have F9 := cell_regrown c9
  clear c0 c1 c2 c3 c4 c5 c6 c7 c8 c9
  have k1 := Lib.hid (show StrR 33 #[.agg #[.int .u32 r.sa, .int .i64 r.sn]] _ w2 from fun d os => prefI_any r.sa r.sn r.hsa (by omega) (by omega) _ (hE2.below (below_regrown w2 d os)))
  have k2 := Lib.hid (show StrR 33 #[.agg #[.int .u32 r.da, .int .i64 r.dn]] _ w2 from fun d os => prefI_any r.da r.dn r.hda (by omega) (by omega) _ (hE2.below (below_regrown w2 d os)))
  have k3 := Lib.hid (show StrR 34 #[.agg #[.int .u32 r.sl, .int .u32 r.sh]] _ w2 from fun d os => portT_any r.sl r.sh r.hsl r.hsh _ (hE2.below (below_regrown w2 d os)))
  have k4 := Lib.hid (show StrR 34 #[.agg #[.int .u32 r.dl, .int .u32 r.dh]] _ w2 from fun d os => portT_any r.dl r.dh r.hdl r.hdh _ (hE2.below (below_regrown w2 d os)))
  refine wp_region_tail_below 14 (by kernel_rfl) (by kernel_rfl) ?_
  simp only [List.take_succ_cons, List.take_zero, List.drop_succ_cons, List.drop_zero]
  repeat (first | go_big_quiet_step ((first | (go_at_call 33; with_reducible exact Calls.regrown_of (k1.out _ _)) | (go_at_call 33; with_reducible exact Calls.regrown_of (k2.out _ _)) | (go_at_call 34; with_reducible exact Calls.regrown_of (k3.out _ _)) | (go_at_call 34; with_reducible exact Calls.regrown_of (k4.out _ _)))) | quiet_step ((first | (go_at_call 33; with_reducible exact Calls.regrown_of (k1.out _ _)) | (go_at_call 33; with_reducible exact Calls.regrown_of (k2.out _ _)) | (go_at_call 34; with_reducible exact Calls.regrown_of (k3.out _ _)) | (go_at_call 34; with_reducible exact Calls.regrown_of (k4.out _ _)))))
  refine wpQuiet_nil ?_
  intro W3 hw'
  obtain ⟨⟨nq, osq⟩, hw''⟩ := hw'
  have hb3 := below_call hb2 (hw'' ▸ below_regrown w2 nq osq)
  clear hw'' F2 F3 F4 F5 F6 F7 F8 F9 k1 k2 k3 k4 hE2 K0 K1 K2 K3
  go_wp2_with fail
  refine (KJ.out _ _ (heap_alloc_new _ _)).mono ?_
  rintro e w4 ⟨rfl, hb⟩
  have hb4 := below_call (hb3.alloc hb3.size _) hb
  go_wp2
  go_ret2
  exact ⟨by rw [ht.out.1, ht.out.2]; rfl, hb4⟩
set_option maxRecDepth 100000 in
set_option maxHeartbeats 4000000 in
theorem ftText_da (r : RuleV) (w : World) (hE : Env w) (hmay : mayB r = true) (hperm : r.permit = false) (hpr : ¬ 0 ≤ r.proto) :
    Calls Tryz.prog 7 #[.agg #[.bool r.permit, .int .i64 r.proto, .int .u32 r.sa, .int .i64 r.sn, .int .u32 r.da, .int .i64 r.dn, .int .u32 r.sl, .int .u32 r.sh, .int .u32 r.dl, .int .u32 r.dh]] w fun e w' => e = .returned (.tuple #[.string ⟨r.told.toArray⟩, .int .i64 r.toldE]) ∧ Below w.heap.size w w' := by
  have hm := may_any r (w.alloc (ruleObj r))
  have hk0 := heap_alloc_new w (ruleObj r)
  have hb0 := below1 w (ruleObj r)
  have hW : w.alloc (.cells #[.bool r.permit, .int .i64 r.proto, .int .u32 r.sa, .int .i64 r.sn, .int .u32 r.da, .int .i64 r.dn, .int .u32 r.sl, .int .u32 r.sh, .int .u32 r.dl, .int .u32 r.dh] 29) = w.alloc (ruleObj r) := rfl
  rw [hmay] at hm
  have ht := Lib.hid (told_yes hmay)
  obtain ⟨m0, m1, m2, m3, m4, m5, m6, m7⟩ := mayB_ok hmay
  have k2 := chk_ok m2
  have k3 := chk_ok m3
  have HP := Lib.hid hperm
  have hlen := Lib.hid (show (Lib.join [denyW, anyW, prefT r.sa r.sn, prefT r.da r.dn, portT r.sl r.sh, portT r.dl r.dh] [32]).length ≤ 140737488355328 from words_len r denyW anyW (by decide) (by decide) k2.1 k2.2.1 k3.1 k3.2.1)
  have hwd : r.text = Lib.join [denyW, anyW, prefT r.sa r.sn, prefT r.da r.dn, portT r.sl r.sh, portT r.dl r.dh] [32] := by
    unfold RuleV.text RuleV.words whatT protoT
    rw [hperm, if_neg hpr]
    rfl
  have HW := Lib.hid hwd
  have dp : ¬ r.proto ≥ 0 := hpr
  have K0 := Lib.hid (show ∀ V : World, (V.cell? ⟨w.heap.size, 2, none⟩ = some (.int .u32 r.sa) ∧ V.cell? ⟨w.heap.size, 3, none⟩ = some (.int .i64 r.sn) ∧ V.cell? ⟨w.heap.size, 4, none⟩ = some (.int .u32 r.da) ∧ V.cell? ⟨w.heap.size, 5, none⟩ = some (.int .i64 r.dn) ∧ V.cell? ⟨w.heap.size, 6, none⟩ = some (.int .u32 r.sl) ∧ V.cell? ⟨w.heap.size, 7, none⟩ = some (.int .u32 r.sh) ∧ V.cell? ⟨w.heap.size, 8, none⟩ = some (.int .u32 r.dl) ∧ V.cell? ⟨w.heap.size, 9, none⟩ = some (.int .u32 r.dh) ∧ Below w.heap.size w V) → Calls Tryz.prog 33 #[.agg #[.int .u32 r.sa, .int .i64 r.sn]] V fun e V' => e = .returned (.string ⟨(prefT r.sa r.sn).toArray⟩) ∧ V'.cell? ⟨w.heap.size, 2, none⟩ = some (.int .u32 r.sa) ∧ V'.cell? ⟨w.heap.size, 3, none⟩ = some (.int .i64 r.sn) ∧ V'.cell? ⟨w.heap.size, 4, none⟩ = some (.int .u32 r.da) ∧ V'.cell? ⟨w.heap.size, 5, none⟩ = some (.int .i64 r.dn) ∧ V'.cell? ⟨w.heap.size, 6, none⟩ = some (.int .u32 r.sl) ∧ V'.cell? ⟨w.heap.size, 7, none⟩ = some (.int .u32 r.sh) ∧ V'.cell? ⟨w.heap.size, 8, none⟩ = some (.int .u32 r.dl) ∧ V'.cell? ⟨w.heap.size, 9, none⟩ = some (.int .u32 r.dh) ∧ Below w.heap.size w V' from fun V ⟨h1, h2, h3, h4, h5, h6, h7, h8, h9⟩ => (prefI_any r.sa r.sn r.hsa (by omega) (by omega) V (hE.below h9)).mono fun e V' ⟨he, hb⟩ => ⟨he, cell_kept hb h1, cell_kept hb h2, cell_kept hb h3, cell_kept hb h4, cell_kept hb h5, cell_kept hb h6, cell_kept hb h7, cell_kept hb h8, below_call h9 hb⟩)
  have K1 := Lib.hid (show ∀ V : World, (V.cell? ⟨w.heap.size, 2, none⟩ = some (.int .u32 r.sa) ∧ V.cell? ⟨w.heap.size, 3, none⟩ = some (.int .i64 r.sn) ∧ V.cell? ⟨w.heap.size, 4, none⟩ = some (.int .u32 r.da) ∧ V.cell? ⟨w.heap.size, 5, none⟩ = some (.int .i64 r.dn) ∧ V.cell? ⟨w.heap.size, 6, none⟩ = some (.int .u32 r.sl) ∧ V.cell? ⟨w.heap.size, 7, none⟩ = some (.int .u32 r.sh) ∧ V.cell? ⟨w.heap.size, 8, none⟩ = some (.int .u32 r.dl) ∧ V.cell? ⟨w.heap.size, 9, none⟩ = some (.int .u32 r.dh) ∧ Below w.heap.size w V) → Calls Tryz.prog 33 #[.agg #[.int .u32 r.da, .int .i64 r.dn]] V fun e V' => e = .returned (.string ⟨(prefT r.da r.dn).toArray⟩) ∧ V'.cell? ⟨w.heap.size, 2, none⟩ = some (.int .u32 r.sa) ∧ V'.cell? ⟨w.heap.size, 3, none⟩ = some (.int .i64 r.sn) ∧ V'.cell? ⟨w.heap.size, 4, none⟩ = some (.int .u32 r.da) ∧ V'.cell? ⟨w.heap.size, 5, none⟩ = some (.int .i64 r.dn) ∧ V'.cell? ⟨w.heap.size, 6, none⟩ = some (.int .u32 r.sl) ∧ V'.cell? ⟨w.heap.size, 7, none⟩ = some (.int .u32 r.sh) ∧ V'.cell? ⟨w.heap.size, 8, none⟩ = some (.int .u32 r.dl) ∧ V'.cell? ⟨w.heap.size, 9, none⟩ = some (.int .u32 r.dh) ∧ Below w.heap.size w V' from fun V ⟨h1, h2, h3, h4, h5, h6, h7, h8, h9⟩ => (prefI_any r.da r.dn r.hda (by omega) (by omega) V (hE.below h9)).mono fun e V' ⟨he, hb⟩ => ⟨he, cell_kept hb h1, cell_kept hb h2, cell_kept hb h3, cell_kept hb h4, cell_kept hb h5, cell_kept hb h6, cell_kept hb h7, cell_kept hb h8, below_call h9 hb⟩)
  have K2 := Lib.hid (show ∀ V : World, (V.cell? ⟨w.heap.size, 2, none⟩ = some (.int .u32 r.sa) ∧ V.cell? ⟨w.heap.size, 3, none⟩ = some (.int .i64 r.sn) ∧ V.cell? ⟨w.heap.size, 4, none⟩ = some (.int .u32 r.da) ∧ V.cell? ⟨w.heap.size, 5, none⟩ = some (.int .i64 r.dn) ∧ V.cell? ⟨w.heap.size, 6, none⟩ = some (.int .u32 r.sl) ∧ V.cell? ⟨w.heap.size, 7, none⟩ = some (.int .u32 r.sh) ∧ V.cell? ⟨w.heap.size, 8, none⟩ = some (.int .u32 r.dl) ∧ V.cell? ⟨w.heap.size, 9, none⟩ = some (.int .u32 r.dh) ∧ Below w.heap.size w V) → Calls Tryz.prog 34 #[.agg #[.int .u32 r.sl, .int .u32 r.sh]] V fun e V' => e = .returned (.string ⟨(portT r.sl r.sh).toArray⟩) ∧ V'.cell? ⟨w.heap.size, 2, none⟩ = some (.int .u32 r.sa) ∧ V'.cell? ⟨w.heap.size, 3, none⟩ = some (.int .i64 r.sn) ∧ V'.cell? ⟨w.heap.size, 4, none⟩ = some (.int .u32 r.da) ∧ V'.cell? ⟨w.heap.size, 5, none⟩ = some (.int .i64 r.dn) ∧ V'.cell? ⟨w.heap.size, 6, none⟩ = some (.int .u32 r.sl) ∧ V'.cell? ⟨w.heap.size, 7, none⟩ = some (.int .u32 r.sh) ∧ V'.cell? ⟨w.heap.size, 8, none⟩ = some (.int .u32 r.dl) ∧ V'.cell? ⟨w.heap.size, 9, none⟩ = some (.int .u32 r.dh) ∧ Below w.heap.size w V' from fun V ⟨h1, h2, h3, h4, h5, h6, h7, h8, h9⟩ => (portT_any r.sl r.sh r.hsl r.hsh V (hE.below h9)).mono fun e V' ⟨he, hb⟩ => ⟨he, cell_kept hb h1, cell_kept hb h2, cell_kept hb h3, cell_kept hb h4, cell_kept hb h5, cell_kept hb h6, cell_kept hb h7, cell_kept hb h8, below_call h9 hb⟩)
  have K3 := Lib.hid (show ∀ V : World, (V.cell? ⟨w.heap.size, 2, none⟩ = some (.int .u32 r.sa) ∧ V.cell? ⟨w.heap.size, 3, none⟩ = some (.int .i64 r.sn) ∧ V.cell? ⟨w.heap.size, 4, none⟩ = some (.int .u32 r.da) ∧ V.cell? ⟨w.heap.size, 5, none⟩ = some (.int .i64 r.dn) ∧ V.cell? ⟨w.heap.size, 6, none⟩ = some (.int .u32 r.sl) ∧ V.cell? ⟨w.heap.size, 7, none⟩ = some (.int .u32 r.sh) ∧ V.cell? ⟨w.heap.size, 8, none⟩ = some (.int .u32 r.dl) ∧ V.cell? ⟨w.heap.size, 9, none⟩ = some (.int .u32 r.dh) ∧ Below w.heap.size w V) → Calls Tryz.prog 34 #[.agg #[.int .u32 r.dl, .int .u32 r.dh]] V fun e V' => e = .returned (.string ⟨(portT r.dl r.dh).toArray⟩) ∧ V'.cell? ⟨w.heap.size, 2, none⟩ = some (.int .u32 r.sa) ∧ V'.cell? ⟨w.heap.size, 3, none⟩ = some (.int .i64 r.sn) ∧ V'.cell? ⟨w.heap.size, 4, none⟩ = some (.int .u32 r.da) ∧ V'.cell? ⟨w.heap.size, 5, none⟩ = some (.int .i64 r.dn) ∧ V'.cell? ⟨w.heap.size, 6, none⟩ = some (.int .u32 r.sl) ∧ V'.cell? ⟨w.heap.size, 7, none⟩ = some (.int .u32 r.sh) ∧ V'.cell? ⟨w.heap.size, 8, none⟩ = some (.int .u32 r.dl) ∧ V'.cell? ⟨w.heap.size, 9, none⟩ = some (.int .u32 r.dh) ∧ Below w.heap.size w V' from fun V ⟨h1, h2, h3, h4, h5, h6, h7, h8, h9⟩ => (portT_any r.dl r.dh r.hdl r.hdh V (hE.below h9)).mono fun e V' ⟨he, hb⟩ => ⟨he, cell_kept hb h1, cell_kept hb h2, cell_kept hb h3, cell_kept hb h4, cell_kept hb h5, cell_kept hb h6, cell_kept hb h7, cell_kept hb h8, below_call h9 hb⟩)
  have KJ := Lib.hid (show ∀ V g, V.heap[g]? = some (.cells #[Value.string ⟨(denyW).toArray⟩, Value.string ⟨(anyW).toArray⟩, Value.string ⟨(prefT r.sa r.sn).toArray⟩, Value.string ⟨(prefT r.da r.dn).toArray⟩, Value.string ⟨(portT r.sl r.sh).toArray⟩, Value.string ⟨(portT r.dl r.dh).toArray⟩] 9 (0, 0)) → Calls Tryz.prog 32 #[.slice (some ⟨g, 0, none⟩) 6 6, .string ⟨#[32]⟩] V fun e V' => e = .returned (.string ⟨r.text.toArray⟩) ∧ Below V.heap.size V V' from fun V g h => by
    have hj := joinW_any [⟨(denyW).toArray⟩, ⟨(anyW).toArray⟩, ⟨(prefT r.sa r.sn).toArray⟩, ⟨(prefT r.da r.dn).toArray⟩, ⟨(portT r.sl r.sh).toArray⟩, ⟨(portT r.dl r.dh).toArray⟩] g V h (by simp) (by simp) (by simpa using hlen.out)
    rw [HW.out]
    simpa using hj)
  clear hmay hperm m2 m3 hwd
  go_enter Tryz.func7, Tryz.ntmps7
  go_upto_region 1 with fail
  try rw [hW]
  obtain ⟨c0, c1, c2, c3, c4, c5, c6, c7, c8, c9⟩ := rule_blk (r := r) hk0
  have hst : ((w.alloc (ruleObj r)).cell? ⟨w.heap.size, 2, none⟩ = some (.int .u32 r.sa) ∧ (w.alloc (ruleObj r)).cell? ⟨w.heap.size, 3, none⟩ = some (.int .i64 r.sn) ∧ (w.alloc (ruleObj r)).cell? ⟨w.heap.size, 4, none⟩ = some (.int .u32 r.da) ∧ (w.alloc (ruleObj r)).cell? ⟨w.heap.size, 5, none⟩ = some (.int .i64 r.dn) ∧ (w.alloc (ruleObj r)).cell? ⟨w.heap.size, 6, none⟩ = some (.int .u32 r.sl) ∧ (w.alloc (ruleObj r)).cell? ⟨w.heap.size, 7, none⟩ = some (.int .u32 r.sh) ∧ (w.alloc (ruleObj r)).cell? ⟨w.heap.size, 8, none⟩ = some (.int .u32 r.dl) ∧ (w.alloc (ruleObj r)).cell? ⟨w.heap.size, 9, none⟩ = some (.int .u32 r.dh) ∧ Below w.heap.size w (w.alloc (ruleObj r))) := ⟨c2, c3, c4, c5, c6, c7, c8, c9, hb0⟩
  generalize w.alloc (ruleObj r) = W at *
  clear hW
  go_wp2_with fail
  refine hm.mono ?_
  rintro e w1 ⟨rfl, hb⟩
  have hk1 := blk_below hb hk0
  have hb1 := below_call hb0 hb
  clear hb hb0 hk0 c0 c1 c2 c3 c4 c5 c6 c7 c8 c9 hm hst
  obtain ⟨c0, c1, c2, c3, c4, c5, c6, c7, c8, c9⟩ := rule_blk (r := r) hk1
  rw [HP.out] at c0
  go_upto_region 8 with fail
  have hE2 := hE.below hb1
  have F2 := cell_regrown c2
  have F3 := cell_regrown c3
  have F4 := cell_regrown c4
  have F5 := cell_regrown c5
  have F6 := cell_regrown c6
  have F7 := cell_regrown c7
  have F8 := cell_regrown c8
  have F9 := cell_regrown c9
  clear c0 c1 c2 c3 c4 c5 c6 c7 c8 c9
  have k1 := Lib.hid (show StrR 33 #[.agg #[.int .u32 r.sa, .int .i64 r.sn]] _ w1 from fun d os => prefI_any r.sa r.sn r.hsa (by omega) (by omega) _ (hE2.below (below_regrown w1 d os)))
  have k2 := Lib.hid (show StrR 33 #[.agg #[.int .u32 r.da, .int .i64 r.dn]] _ w1 from fun d os => prefI_any r.da r.dn r.hda (by omega) (by omega) _ (hE2.below (below_regrown w1 d os)))
  have k3 := Lib.hid (show StrR 34 #[.agg #[.int .u32 r.sl, .int .u32 r.sh]] _ w1 from fun d os => portT_any r.sl r.sh r.hsl r.hsh _ (hE2.below (below_regrown w1 d os)))
  have k4 := Lib.hid (show StrR 34 #[.agg #[.int .u32 r.dl, .int .u32 r.dh]] _ w1 from fun d os => portT_any r.dl r.dh r.hdl r.hdh _ (hE2.below (below_regrown w1 d os)))
  refine wp_region_tail_below 14 (by kernel_rfl) (by kernel_rfl) ?_
  simp only [List.take_succ_cons, List.take_zero, List.drop_succ_cons, List.drop_zero]
  repeat (first | go_big_quiet_step ((first | (go_at_call 33; with_reducible exact Calls.regrown_of (k1.out _ _)) | (go_at_call 33; with_reducible exact Calls.regrown_of (k2.out _ _)) | (go_at_call 34; with_reducible exact Calls.regrown_of (k3.out _ _)) | (go_at_call 34; with_reducible exact Calls.regrown_of (k4.out _ _)))) | quiet_step ((first | (go_at_call 33; with_reducible exact Calls.regrown_of (k1.out _ _)) | (go_at_call 33; with_reducible exact Calls.regrown_of (k2.out _ _)) | (go_at_call 34; with_reducible exact Calls.regrown_of (k3.out _ _)) | (go_at_call 34; with_reducible exact Calls.regrown_of (k4.out _ _)))))
  refine wpQuiet_nil ?_
  intro W3 hw'
  obtain ⟨⟨nq, osq⟩, hw''⟩ := hw'
  have hb3 := below_call hb1 (hw'' ▸ below_regrown w1 nq osq)
  clear hw'' F2 F3 F4 F5 F6 F7 F8 F9 k1 k2 k3 k4 hE2 K0 K1 K2 K3
  go_wp2_with fail
  refine (KJ.out _ _ (heap_alloc_new _ _)).mono ?_
  rintro e w4 ⟨rfl, hb⟩
  have hb4 := below_call (hb3.alloc hb3.size _) hb
  go_wp2
  go_ret2
  exact ⟨by rw [ht.out.1, ht.out.2]; rfl, hb4⟩
set_option maxRecDepth 100000 in
set_option maxHeartbeats 4000000 in
theorem ftText_pn (r : RuleV) (w : World) (hE : Env w) (hmay : mayB r = true) (hperm : r.permit = true) (hpr : 0 ≤ r.proto) :
    Calls Tryz.prog 7 #[.agg #[.bool r.permit, .int .i64 r.proto, .int .u32 r.sa, .int .i64 r.sn, .int .u32 r.da, .int .i64 r.dn, .int .u32 r.sl, .int .u32 r.sh, .int .u32 r.dl, .int .u32 r.dh]] w fun e w' => e = .returned (.tuple #[.string ⟨r.told.toArray⟩, .int .i64 r.toldE]) ∧ Below w.heap.size w w' := by
  have hm := may_any r (w.alloc (ruleObj r))
  have hk0 := heap_alloc_new w (ruleObj r)
  have hb0 := below1 w (ruleObj r)
  have hW : w.alloc (.cells #[.bool r.permit, .int .i64 r.proto, .int .u32 r.sa, .int .i64 r.sn, .int .u32 r.da, .int .i64 r.dn, .int .u32 r.sl, .int .u32 r.sh, .int .u32 r.dl, .int .u32 r.dh] 29) = w.alloc (ruleObj r) := rfl
  rw [hmay] at hm
  have ht := Lib.hid (told_yes hmay)
  obtain ⟨m0, m1, m2, m3, m4, m5, m6, m7⟩ := mayB_ok hmay
  have k2 := chk_ok m2
  have k3 := chk_ok m3
  have HP := Lib.hid hperm
  have hlen := Lib.hid (show (Lib.join [permitW, Lib.decDigits r.proto.toNat, prefT r.sa r.sn, prefT r.da r.dn, portT r.sl r.sh, portT r.dl r.dh] [32]).length ≤ 140737488355328 from words_len r permitW (Lib.decDigits r.proto.toNat) (by decide) (by have := dec32 (n := r.proto.toNat) (by omega); omega) k2.1 k2.2.1 k3.1 k3.2.1)
  have hwd : r.text = Lib.join [permitW, Lib.decDigits r.proto.toNat, prefT r.sa r.sn, prefT r.da r.dn, portT r.sl r.sh, portT r.dl r.dh] [32] := by
    unfold RuleV.text RuleV.words whatT protoT
    rw [hperm, if_pos hpr]
    rfl
  have HW := Lib.hid hwd
  have dp : r.proto ≥ 0 := hpr
  have K0 := Lib.hid (show ∀ V : World, (V.cell? ⟨w.heap.size, 2, none⟩ = some (.int .u32 r.sa) ∧ V.cell? ⟨w.heap.size, 3, none⟩ = some (.int .i64 r.sn) ∧ V.cell? ⟨w.heap.size, 4, none⟩ = some (.int .u32 r.da) ∧ V.cell? ⟨w.heap.size, 5, none⟩ = some (.int .i64 r.dn) ∧ V.cell? ⟨w.heap.size, 6, none⟩ = some (.int .u32 r.sl) ∧ V.cell? ⟨w.heap.size, 7, none⟩ = some (.int .u32 r.sh) ∧ V.cell? ⟨w.heap.size, 8, none⟩ = some (.int .u32 r.dl) ∧ V.cell? ⟨w.heap.size, 9, none⟩ = some (.int .u32 r.dh) ∧ Below w.heap.size w V) → Calls Tryz.prog 33 #[.agg #[.int .u32 r.sa, .int .i64 r.sn]] V fun e V' => e = .returned (.string ⟨(prefT r.sa r.sn).toArray⟩) ∧ V'.cell? ⟨w.heap.size, 2, none⟩ = some (.int .u32 r.sa) ∧ V'.cell? ⟨w.heap.size, 3, none⟩ = some (.int .i64 r.sn) ∧ V'.cell? ⟨w.heap.size, 4, none⟩ = some (.int .u32 r.da) ∧ V'.cell? ⟨w.heap.size, 5, none⟩ = some (.int .i64 r.dn) ∧ V'.cell? ⟨w.heap.size, 6, none⟩ = some (.int .u32 r.sl) ∧ V'.cell? ⟨w.heap.size, 7, none⟩ = some (.int .u32 r.sh) ∧ V'.cell? ⟨w.heap.size, 8, none⟩ = some (.int .u32 r.dl) ∧ V'.cell? ⟨w.heap.size, 9, none⟩ = some (.int .u32 r.dh) ∧ Below w.heap.size w V' from fun V ⟨h1, h2, h3, h4, h5, h6, h7, h8, h9⟩ => (prefI_any r.sa r.sn r.hsa (by omega) (by omega) V (hE.below h9)).mono fun e V' ⟨he, hb⟩ => ⟨he, cell_kept hb h1, cell_kept hb h2, cell_kept hb h3, cell_kept hb h4, cell_kept hb h5, cell_kept hb h6, cell_kept hb h7, cell_kept hb h8, below_call h9 hb⟩)
  have K1 := Lib.hid (show ∀ V : World, (V.cell? ⟨w.heap.size, 2, none⟩ = some (.int .u32 r.sa) ∧ V.cell? ⟨w.heap.size, 3, none⟩ = some (.int .i64 r.sn) ∧ V.cell? ⟨w.heap.size, 4, none⟩ = some (.int .u32 r.da) ∧ V.cell? ⟨w.heap.size, 5, none⟩ = some (.int .i64 r.dn) ∧ V.cell? ⟨w.heap.size, 6, none⟩ = some (.int .u32 r.sl) ∧ V.cell? ⟨w.heap.size, 7, none⟩ = some (.int .u32 r.sh) ∧ V.cell? ⟨w.heap.size, 8, none⟩ = some (.int .u32 r.dl) ∧ V.cell? ⟨w.heap.size, 9, none⟩ = some (.int .u32 r.dh) ∧ Below w.heap.size w V) → Calls Tryz.prog 33 #[.agg #[.int .u32 r.da, .int .i64 r.dn]] V fun e V' => e = .returned (.string ⟨(prefT r.da r.dn).toArray⟩) ∧ V'.cell? ⟨w.heap.size, 2, none⟩ = some (.int .u32 r.sa) ∧ V'.cell? ⟨w.heap.size, 3, none⟩ = some (.int .i64 r.sn) ∧ V'.cell? ⟨w.heap.size, 4, none⟩ = some (.int .u32 r.da) ∧ V'.cell? ⟨w.heap.size, 5, none⟩ = some (.int .i64 r.dn) ∧ V'.cell? ⟨w.heap.size, 6, none⟩ = some (.int .u32 r.sl) ∧ V'.cell? ⟨w.heap.size, 7, none⟩ = some (.int .u32 r.sh) ∧ V'.cell? ⟨w.heap.size, 8, none⟩ = some (.int .u32 r.dl) ∧ V'.cell? ⟨w.heap.size, 9, none⟩ = some (.int .u32 r.dh) ∧ Below w.heap.size w V' from fun V ⟨h1, h2, h3, h4, h5, h6, h7, h8, h9⟩ => (prefI_any r.da r.dn r.hda (by omega) (by omega) V (hE.below h9)).mono fun e V' ⟨he, hb⟩ => ⟨he, cell_kept hb h1, cell_kept hb h2, cell_kept hb h3, cell_kept hb h4, cell_kept hb h5, cell_kept hb h6, cell_kept hb h7, cell_kept hb h8, below_call h9 hb⟩)
  have K2 := Lib.hid (show ∀ V : World, (V.cell? ⟨w.heap.size, 2, none⟩ = some (.int .u32 r.sa) ∧ V.cell? ⟨w.heap.size, 3, none⟩ = some (.int .i64 r.sn) ∧ V.cell? ⟨w.heap.size, 4, none⟩ = some (.int .u32 r.da) ∧ V.cell? ⟨w.heap.size, 5, none⟩ = some (.int .i64 r.dn) ∧ V.cell? ⟨w.heap.size, 6, none⟩ = some (.int .u32 r.sl) ∧ V.cell? ⟨w.heap.size, 7, none⟩ = some (.int .u32 r.sh) ∧ V.cell? ⟨w.heap.size, 8, none⟩ = some (.int .u32 r.dl) ∧ V.cell? ⟨w.heap.size, 9, none⟩ = some (.int .u32 r.dh) ∧ Below w.heap.size w V) → Calls Tryz.prog 34 #[.agg #[.int .u32 r.sl, .int .u32 r.sh]] V fun e V' => e = .returned (.string ⟨(portT r.sl r.sh).toArray⟩) ∧ V'.cell? ⟨w.heap.size, 2, none⟩ = some (.int .u32 r.sa) ∧ V'.cell? ⟨w.heap.size, 3, none⟩ = some (.int .i64 r.sn) ∧ V'.cell? ⟨w.heap.size, 4, none⟩ = some (.int .u32 r.da) ∧ V'.cell? ⟨w.heap.size, 5, none⟩ = some (.int .i64 r.dn) ∧ V'.cell? ⟨w.heap.size, 6, none⟩ = some (.int .u32 r.sl) ∧ V'.cell? ⟨w.heap.size, 7, none⟩ = some (.int .u32 r.sh) ∧ V'.cell? ⟨w.heap.size, 8, none⟩ = some (.int .u32 r.dl) ∧ V'.cell? ⟨w.heap.size, 9, none⟩ = some (.int .u32 r.dh) ∧ Below w.heap.size w V' from fun V ⟨h1, h2, h3, h4, h5, h6, h7, h8, h9⟩ => (portT_any r.sl r.sh r.hsl r.hsh V (hE.below h9)).mono fun e V' ⟨he, hb⟩ => ⟨he, cell_kept hb h1, cell_kept hb h2, cell_kept hb h3, cell_kept hb h4, cell_kept hb h5, cell_kept hb h6, cell_kept hb h7, cell_kept hb h8, below_call h9 hb⟩)
  have K3 := Lib.hid (show ∀ V : World, (V.cell? ⟨w.heap.size, 2, none⟩ = some (.int .u32 r.sa) ∧ V.cell? ⟨w.heap.size, 3, none⟩ = some (.int .i64 r.sn) ∧ V.cell? ⟨w.heap.size, 4, none⟩ = some (.int .u32 r.da) ∧ V.cell? ⟨w.heap.size, 5, none⟩ = some (.int .i64 r.dn) ∧ V.cell? ⟨w.heap.size, 6, none⟩ = some (.int .u32 r.sl) ∧ V.cell? ⟨w.heap.size, 7, none⟩ = some (.int .u32 r.sh) ∧ V.cell? ⟨w.heap.size, 8, none⟩ = some (.int .u32 r.dl) ∧ V.cell? ⟨w.heap.size, 9, none⟩ = some (.int .u32 r.dh) ∧ Below w.heap.size w V) → Calls Tryz.prog 34 #[.agg #[.int .u32 r.dl, .int .u32 r.dh]] V fun e V' => e = .returned (.string ⟨(portT r.dl r.dh).toArray⟩) ∧ V'.cell? ⟨w.heap.size, 2, none⟩ = some (.int .u32 r.sa) ∧ V'.cell? ⟨w.heap.size, 3, none⟩ = some (.int .i64 r.sn) ∧ V'.cell? ⟨w.heap.size, 4, none⟩ = some (.int .u32 r.da) ∧ V'.cell? ⟨w.heap.size, 5, none⟩ = some (.int .i64 r.dn) ∧ V'.cell? ⟨w.heap.size, 6, none⟩ = some (.int .u32 r.sl) ∧ V'.cell? ⟨w.heap.size, 7, none⟩ = some (.int .u32 r.sh) ∧ V'.cell? ⟨w.heap.size, 8, none⟩ = some (.int .u32 r.dl) ∧ V'.cell? ⟨w.heap.size, 9, none⟩ = some (.int .u32 r.dh) ∧ Below w.heap.size w V' from fun V ⟨h1, h2, h3, h4, h5, h6, h7, h8, h9⟩ => (portT_any r.dl r.dh r.hdl r.hdh V (hE.below h9)).mono fun e V' ⟨he, hb⟩ => ⟨he, cell_kept hb h1, cell_kept hb h2, cell_kept hb h3, cell_kept hb h4, cell_kept hb h5, cell_kept hb h6, cell_kept hb h7, cell_kept hb h8, below_call h9 hb⟩)
  have KJ := Lib.hid (show ∀ V g, V.heap[g]? = some (.cells #[Value.string ⟨(permitW).toArray⟩, Value.string ⟨(Lib.decDigits r.proto.toNat).toArray⟩, Value.string ⟨(prefT r.sa r.sn).toArray⟩, Value.string ⟨(prefT r.da r.dn).toArray⟩, Value.string ⟨(portT r.sl r.sh).toArray⟩, Value.string ⟨(portT r.dl r.dh).toArray⟩] 9 (0, 0)) → Calls Tryz.prog 32 #[.slice (some ⟨g, 0, none⟩) 6 6, .string ⟨#[32]⟩] V fun e V' => e = .returned (.string ⟨r.text.toArray⟩) ∧ Below V.heap.size V V' from fun V g h => by
    have hj := joinW_any [⟨(permitW).toArray⟩, ⟨(Lib.decDigits r.proto.toNat).toArray⟩, ⟨(prefT r.sa r.sn).toArray⟩, ⟨(prefT r.da r.dn).toArray⟩, ⟨(portT r.sl r.sh).toArray⟩, ⟨(portT r.dl r.dh).toArray⟩] g V h (by simp) (by simp) (by simpa using hlen.out)
    rw [HW.out]
    simpa using hj)
  clear hmay hperm m2 m3 hwd
  go_enter Tryz.func7, Tryz.ntmps7
  go_upto_region 1 with fail
  try rw [hW]
  obtain ⟨c0, c1, c2, c3, c4, c5, c6, c7, c8, c9⟩ := rule_blk (r := r) hk0
  have hst : ((w.alloc (ruleObj r)).cell? ⟨w.heap.size, 2, none⟩ = some (.int .u32 r.sa) ∧ (w.alloc (ruleObj r)).cell? ⟨w.heap.size, 3, none⟩ = some (.int .i64 r.sn) ∧ (w.alloc (ruleObj r)).cell? ⟨w.heap.size, 4, none⟩ = some (.int .u32 r.da) ∧ (w.alloc (ruleObj r)).cell? ⟨w.heap.size, 5, none⟩ = some (.int .i64 r.dn) ∧ (w.alloc (ruleObj r)).cell? ⟨w.heap.size, 6, none⟩ = some (.int .u32 r.sl) ∧ (w.alloc (ruleObj r)).cell? ⟨w.heap.size, 7, none⟩ = some (.int .u32 r.sh) ∧ (w.alloc (ruleObj r)).cell? ⟨w.heap.size, 8, none⟩ = some (.int .u32 r.dl) ∧ (w.alloc (ruleObj r)).cell? ⟨w.heap.size, 9, none⟩ = some (.int .u32 r.dh) ∧ Below w.heap.size w (w.alloc (ruleObj r))) := ⟨c2, c3, c4, c5, c6, c7, c8, c9, hb0⟩
  generalize w.alloc (ruleObj r) = W at *
  clear hW
  go_wp2_with fail
  refine hm.mono ?_
  rintro e w1 ⟨rfl, hb⟩
  have hk1 := blk_below hb hk0
  have hb1 := below_call hb0 hb
  clear hb hb0 hk0 c0 c1 c2 c3 c4 c5 c6 c7 c8 c9 hm hst
  obtain ⟨c0, c1, c2, c3, c4, c5, c6, c7, c8, c9⟩ := rule_blk (r := r) hk1
  rw [HP.out] at c0
  go_wp2_with fail
  refine (itoaN_any _ (by omega) (by omega) _ (hE.below hb1)).mono ?_
  rintro e w2 ⟨rfl, hb⟩
  have hk2 := blk_below hb hk1
  have hb2 := below_call hb1 hb
  clear hb hb1 hk1 c0 c1 c2 c3 c4 c5 c6 c7 c8 c9
  obtain ⟨c0, c1, c2, c3, c4, c5, c6, c7, c8, c9⟩ := rule_blk (r := r) hk2
  go_upto_region 8 with fail
  have hE2 := hE.below hb2
  have F2 := cell_regrown c2
  have F3 := cell_regrown c3
  have F4 := cell_regrown c4
  have F5 := cell_regrown c5
  have F6 := cell_regrown c6
  have F7 := cell_regrown c7
  have F8 := cell_regrown c8
  have F9 := cell_regrown c9
  clear c0 c1 c2 c3 c4 c5 c6 c7 c8 c9
  have k1 := Lib.hid (show StrR 33 #[.agg #[.int .u32 r.sa, .int .i64 r.sn]] _ w2 from fun d os => prefI_any r.sa r.sn r.hsa (by omega) (by omega) _ (hE2.below (below_regrown w2 d os)))
  have k2 := Lib.hid (show StrR 33 #[.agg #[.int .u32 r.da, .int .i64 r.dn]] _ w2 from fun d os => prefI_any r.da r.dn r.hda (by omega) (by omega) _ (hE2.below (below_regrown w2 d os)))
  have k3 := Lib.hid (show StrR 34 #[.agg #[.int .u32 r.sl, .int .u32 r.sh]] _ w2 from fun d os => portT_any r.sl r.sh r.hsl r.hsh _ (hE2.below (below_regrown w2 d os)))
  have k4 := Lib.hid (show StrR 34 #[.agg #[.int .u32 r.dl, .int .u32 r.dh]] _ w2 from fun d os => portT_any r.dl r.dh r.hdl r.hdh _ (hE2.below (below_regrown w2 d os)))
  refine wp_region_tail_below 14 (by kernel_rfl) (by kernel_rfl) ?_
  simp only [List.take_succ_cons, List.take_zero, List.drop_succ_cons, List.drop_zero]
  repeat (first | go_big_quiet_step ((first | (go_at_call 33; with_reducible exact Calls.regrown_of (k1.out _ _)) | (go_at_call 33; with_reducible exact Calls.regrown_of (k2.out _ _)) | (go_at_call 34; with_reducible exact Calls.regrown_of (k3.out _ _)) | (go_at_call 34; with_reducible exact Calls.regrown_of (k4.out _ _)))) | quiet_step ((first | (go_at_call 33; with_reducible exact Calls.regrown_of (k1.out _ _)) | (go_at_call 33; with_reducible exact Calls.regrown_of (k2.out _ _)) | (go_at_call 34; with_reducible exact Calls.regrown_of (k3.out _ _)) | (go_at_call 34; with_reducible exact Calls.regrown_of (k4.out _ _)))))
  refine wpQuiet_nil ?_
  intro W3 hw'
  obtain ⟨⟨nq, osq⟩, hw''⟩ := hw'
  have hb3 := below_call hb2 (hw'' ▸ below_regrown w2 nq osq)
  clear hw'' F2 F3 F4 F5 F6 F7 F8 F9 k1 k2 k3 k4 hE2 K0 K1 K2 K3
  go_wp2_with fail
  refine (KJ.out _ _ (heap_alloc_new _ _)).mono ?_
  rintro e w4 ⟨rfl, hb⟩
  have hb4 := below_call (hb3.alloc hb3.size _) hb
  go_wp2
  go_ret2
  exact ⟨by rw [ht.out.1, ht.out.2]; rfl, hb4⟩
set_option maxRecDepth 100000 in
set_option maxHeartbeats 4000000 in
theorem ftText_pa (r : RuleV) (w : World) (hE : Env w) (hmay : mayB r = true) (hperm : r.permit = true) (hpr : ¬ 0 ≤ r.proto) :
    Calls Tryz.prog 7 #[.agg #[.bool r.permit, .int .i64 r.proto, .int .u32 r.sa, .int .i64 r.sn, .int .u32 r.da, .int .i64 r.dn, .int .u32 r.sl, .int .u32 r.sh, .int .u32 r.dl, .int .u32 r.dh]] w fun e w' => e = .returned (.tuple #[.string ⟨r.told.toArray⟩, .int .i64 r.toldE]) ∧ Below w.heap.size w w' := by
  have hm := may_any r (w.alloc (ruleObj r))
  have hk0 := heap_alloc_new w (ruleObj r)
  have hb0 := below1 w (ruleObj r)
  have hW : w.alloc (.cells #[.bool r.permit, .int .i64 r.proto, .int .u32 r.sa, .int .i64 r.sn, .int .u32 r.da, .int .i64 r.dn, .int .u32 r.sl, .int .u32 r.sh, .int .u32 r.dl, .int .u32 r.dh] 29) = w.alloc (ruleObj r) := rfl
  rw [hmay] at hm
  have ht := Lib.hid (told_yes hmay)
  obtain ⟨m0, m1, m2, m3, m4, m5, m6, m7⟩ := mayB_ok hmay
  have k2 := chk_ok m2
  have k3 := chk_ok m3
  have HP := Lib.hid hperm
  have hlen := Lib.hid (show (Lib.join [permitW, anyW, prefT r.sa r.sn, prefT r.da r.dn, portT r.sl r.sh, portT r.dl r.dh] [32]).length ≤ 140737488355328 from words_len r permitW anyW (by decide) (by decide) k2.1 k2.2.1 k3.1 k3.2.1)
  have hwd : r.text = Lib.join [permitW, anyW, prefT r.sa r.sn, prefT r.da r.dn, portT r.sl r.sh, portT r.dl r.dh] [32] := by
    unfold RuleV.text RuleV.words whatT protoT
    rw [hperm, if_neg hpr]
    rfl
  have HW := Lib.hid hwd
  have dp : ¬ r.proto ≥ 0 := hpr
  have K0 := Lib.hid (show ∀ V : World, (V.cell? ⟨w.heap.size, 2, none⟩ = some (.int .u32 r.sa) ∧ V.cell? ⟨w.heap.size, 3, none⟩ = some (.int .i64 r.sn) ∧ V.cell? ⟨w.heap.size, 4, none⟩ = some (.int .u32 r.da) ∧ V.cell? ⟨w.heap.size, 5, none⟩ = some (.int .i64 r.dn) ∧ V.cell? ⟨w.heap.size, 6, none⟩ = some (.int .u32 r.sl) ∧ V.cell? ⟨w.heap.size, 7, none⟩ = some (.int .u32 r.sh) ∧ V.cell? ⟨w.heap.size, 8, none⟩ = some (.int .u32 r.dl) ∧ V.cell? ⟨w.heap.size, 9, none⟩ = some (.int .u32 r.dh) ∧ Below w.heap.size w V) → Calls Tryz.prog 33 #[.agg #[.int .u32 r.sa, .int .i64 r.sn]] V fun e V' => e = .returned (.string ⟨(prefT r.sa r.sn).toArray⟩) ∧ V'.cell? ⟨w.heap.size, 2, none⟩ = some (.int .u32 r.sa) ∧ V'.cell? ⟨w.heap.size, 3, none⟩ = some (.int .i64 r.sn) ∧ V'.cell? ⟨w.heap.size, 4, none⟩ = some (.int .u32 r.da) ∧ V'.cell? ⟨w.heap.size, 5, none⟩ = some (.int .i64 r.dn) ∧ V'.cell? ⟨w.heap.size, 6, none⟩ = some (.int .u32 r.sl) ∧ V'.cell? ⟨w.heap.size, 7, none⟩ = some (.int .u32 r.sh) ∧ V'.cell? ⟨w.heap.size, 8, none⟩ = some (.int .u32 r.dl) ∧ V'.cell? ⟨w.heap.size, 9, none⟩ = some (.int .u32 r.dh) ∧ Below w.heap.size w V' from fun V ⟨h1, h2, h3, h4, h5, h6, h7, h8, h9⟩ => (prefI_any r.sa r.sn r.hsa (by omega) (by omega) V (hE.below h9)).mono fun e V' ⟨he, hb⟩ => ⟨he, cell_kept hb h1, cell_kept hb h2, cell_kept hb h3, cell_kept hb h4, cell_kept hb h5, cell_kept hb h6, cell_kept hb h7, cell_kept hb h8, below_call h9 hb⟩)
  have K1 := Lib.hid (show ∀ V : World, (V.cell? ⟨w.heap.size, 2, none⟩ = some (.int .u32 r.sa) ∧ V.cell? ⟨w.heap.size, 3, none⟩ = some (.int .i64 r.sn) ∧ V.cell? ⟨w.heap.size, 4, none⟩ = some (.int .u32 r.da) ∧ V.cell? ⟨w.heap.size, 5, none⟩ = some (.int .i64 r.dn) ∧ V.cell? ⟨w.heap.size, 6, none⟩ = some (.int .u32 r.sl) ∧ V.cell? ⟨w.heap.size, 7, none⟩ = some (.int .u32 r.sh) ∧ V.cell? ⟨w.heap.size, 8, none⟩ = some (.int .u32 r.dl) ∧ V.cell? ⟨w.heap.size, 9, none⟩ = some (.int .u32 r.dh) ∧ Below w.heap.size w V) → Calls Tryz.prog 33 #[.agg #[.int .u32 r.da, .int .i64 r.dn]] V fun e V' => e = .returned (.string ⟨(prefT r.da r.dn).toArray⟩) ∧ V'.cell? ⟨w.heap.size, 2, none⟩ = some (.int .u32 r.sa) ∧ V'.cell? ⟨w.heap.size, 3, none⟩ = some (.int .i64 r.sn) ∧ V'.cell? ⟨w.heap.size, 4, none⟩ = some (.int .u32 r.da) ∧ V'.cell? ⟨w.heap.size, 5, none⟩ = some (.int .i64 r.dn) ∧ V'.cell? ⟨w.heap.size, 6, none⟩ = some (.int .u32 r.sl) ∧ V'.cell? ⟨w.heap.size, 7, none⟩ = some (.int .u32 r.sh) ∧ V'.cell? ⟨w.heap.size, 8, none⟩ = some (.int .u32 r.dl) ∧ V'.cell? ⟨w.heap.size, 9, none⟩ = some (.int .u32 r.dh) ∧ Below w.heap.size w V' from fun V ⟨h1, h2, h3, h4, h5, h6, h7, h8, h9⟩ => (prefI_any r.da r.dn r.hda (by omega) (by omega) V (hE.below h9)).mono fun e V' ⟨he, hb⟩ => ⟨he, cell_kept hb h1, cell_kept hb h2, cell_kept hb h3, cell_kept hb h4, cell_kept hb h5, cell_kept hb h6, cell_kept hb h7, cell_kept hb h8, below_call h9 hb⟩)
  have K2 := Lib.hid (show ∀ V : World, (V.cell? ⟨w.heap.size, 2, none⟩ = some (.int .u32 r.sa) ∧ V.cell? ⟨w.heap.size, 3, none⟩ = some (.int .i64 r.sn) ∧ V.cell? ⟨w.heap.size, 4, none⟩ = some (.int .u32 r.da) ∧ V.cell? ⟨w.heap.size, 5, none⟩ = some (.int .i64 r.dn) ∧ V.cell? ⟨w.heap.size, 6, none⟩ = some (.int .u32 r.sl) ∧ V.cell? ⟨w.heap.size, 7, none⟩ = some (.int .u32 r.sh) ∧ V.cell? ⟨w.heap.size, 8, none⟩ = some (.int .u32 r.dl) ∧ V.cell? ⟨w.heap.size, 9, none⟩ = some (.int .u32 r.dh) ∧ Below w.heap.size w V) → Calls Tryz.prog 34 #[.agg #[.int .u32 r.sl, .int .u32 r.sh]] V fun e V' => e = .returned (.string ⟨(portT r.sl r.sh).toArray⟩) ∧ V'.cell? ⟨w.heap.size, 2, none⟩ = some (.int .u32 r.sa) ∧ V'.cell? ⟨w.heap.size, 3, none⟩ = some (.int .i64 r.sn) ∧ V'.cell? ⟨w.heap.size, 4, none⟩ = some (.int .u32 r.da) ∧ V'.cell? ⟨w.heap.size, 5, none⟩ = some (.int .i64 r.dn) ∧ V'.cell? ⟨w.heap.size, 6, none⟩ = some (.int .u32 r.sl) ∧ V'.cell? ⟨w.heap.size, 7, none⟩ = some (.int .u32 r.sh) ∧ V'.cell? ⟨w.heap.size, 8, none⟩ = some (.int .u32 r.dl) ∧ V'.cell? ⟨w.heap.size, 9, none⟩ = some (.int .u32 r.dh) ∧ Below w.heap.size w V' from fun V ⟨h1, h2, h3, h4, h5, h6, h7, h8, h9⟩ => (portT_any r.sl r.sh r.hsl r.hsh V (hE.below h9)).mono fun e V' ⟨he, hb⟩ => ⟨he, cell_kept hb h1, cell_kept hb h2, cell_kept hb h3, cell_kept hb h4, cell_kept hb h5, cell_kept hb h6, cell_kept hb h7, cell_kept hb h8, below_call h9 hb⟩)
  have K3 := Lib.hid (show ∀ V : World, (V.cell? ⟨w.heap.size, 2, none⟩ = some (.int .u32 r.sa) ∧ V.cell? ⟨w.heap.size, 3, none⟩ = some (.int .i64 r.sn) ∧ V.cell? ⟨w.heap.size, 4, none⟩ = some (.int .u32 r.da) ∧ V.cell? ⟨w.heap.size, 5, none⟩ = some (.int .i64 r.dn) ∧ V.cell? ⟨w.heap.size, 6, none⟩ = some (.int .u32 r.sl) ∧ V.cell? ⟨w.heap.size, 7, none⟩ = some (.int .u32 r.sh) ∧ V.cell? ⟨w.heap.size, 8, none⟩ = some (.int .u32 r.dl) ∧ V.cell? ⟨w.heap.size, 9, none⟩ = some (.int .u32 r.dh) ∧ Below w.heap.size w V) → Calls Tryz.prog 34 #[.agg #[.int .u32 r.dl, .int .u32 r.dh]] V fun e V' => e = .returned (.string ⟨(portT r.dl r.dh).toArray⟩) ∧ V'.cell? ⟨w.heap.size, 2, none⟩ = some (.int .u32 r.sa) ∧ V'.cell? ⟨w.heap.size, 3, none⟩ = some (.int .i64 r.sn) ∧ V'.cell? ⟨w.heap.size, 4, none⟩ = some (.int .u32 r.da) ∧ V'.cell? ⟨w.heap.size, 5, none⟩ = some (.int .i64 r.dn) ∧ V'.cell? ⟨w.heap.size, 6, none⟩ = some (.int .u32 r.sl) ∧ V'.cell? ⟨w.heap.size, 7, none⟩ = some (.int .u32 r.sh) ∧ V'.cell? ⟨w.heap.size, 8, none⟩ = some (.int .u32 r.dl) ∧ V'.cell? ⟨w.heap.size, 9, none⟩ = some (.int .u32 r.dh) ∧ Below w.heap.size w V' from fun V ⟨h1, h2, h3, h4, h5, h6, h7, h8, h9⟩ => (portT_any r.dl r.dh r.hdl r.hdh V (hE.below h9)).mono fun e V' ⟨he, hb⟩ => ⟨he, cell_kept hb h1, cell_kept hb h2, cell_kept hb h3, cell_kept hb h4, cell_kept hb h5, cell_kept hb h6, cell_kept hb h7, cell_kept hb h8, below_call h9 hb⟩)
  have KJ := Lib.hid (show ∀ V g, V.heap[g]? = some (.cells #[Value.string ⟨(permitW).toArray⟩, Value.string ⟨(anyW).toArray⟩, Value.string ⟨(prefT r.sa r.sn).toArray⟩, Value.string ⟨(prefT r.da r.dn).toArray⟩, Value.string ⟨(portT r.sl r.sh).toArray⟩, Value.string ⟨(portT r.dl r.dh).toArray⟩] 9 (0, 0)) → Calls Tryz.prog 32 #[.slice (some ⟨g, 0, none⟩) 6 6, .string ⟨#[32]⟩] V fun e V' => e = .returned (.string ⟨r.text.toArray⟩) ∧ Below V.heap.size V V' from fun V g h => by
    have hj := joinW_any [⟨(permitW).toArray⟩, ⟨(anyW).toArray⟩, ⟨(prefT r.sa r.sn).toArray⟩, ⟨(prefT r.da r.dn).toArray⟩, ⟨(portT r.sl r.sh).toArray⟩, ⟨(portT r.dl r.dh).toArray⟩] g V h (by simp) (by simp) (by simpa using hlen.out)
    rw [HW.out]
    simpa using hj)
  clear hmay hperm m2 m3 hwd
  go_enter Tryz.func7, Tryz.ntmps7
  go_upto_region 1 with fail
  try rw [hW]
  obtain ⟨c0, c1, c2, c3, c4, c5, c6, c7, c8, c9⟩ := rule_blk (r := r) hk0
  have hst : ((w.alloc (ruleObj r)).cell? ⟨w.heap.size, 2, none⟩ = some (.int .u32 r.sa) ∧ (w.alloc (ruleObj r)).cell? ⟨w.heap.size, 3, none⟩ = some (.int .i64 r.sn) ∧ (w.alloc (ruleObj r)).cell? ⟨w.heap.size, 4, none⟩ = some (.int .u32 r.da) ∧ (w.alloc (ruleObj r)).cell? ⟨w.heap.size, 5, none⟩ = some (.int .i64 r.dn) ∧ (w.alloc (ruleObj r)).cell? ⟨w.heap.size, 6, none⟩ = some (.int .u32 r.sl) ∧ (w.alloc (ruleObj r)).cell? ⟨w.heap.size, 7, none⟩ = some (.int .u32 r.sh) ∧ (w.alloc (ruleObj r)).cell? ⟨w.heap.size, 8, none⟩ = some (.int .u32 r.dl) ∧ (w.alloc (ruleObj r)).cell? ⟨w.heap.size, 9, none⟩ = some (.int .u32 r.dh) ∧ Below w.heap.size w (w.alloc (ruleObj r))) := ⟨c2, c3, c4, c5, c6, c7, c8, c9, hb0⟩
  generalize w.alloc (ruleObj r) = W at *
  clear hW
  go_wp2_with fail
  refine hm.mono ?_
  rintro e w1 ⟨rfl, hb⟩
  have hk1 := blk_below hb hk0
  have hb1 := below_call hb0 hb
  clear hb hb0 hk0 c0 c1 c2 c3 c4 c5 c6 c7 c8 c9 hm hst
  obtain ⟨c0, c1, c2, c3, c4, c5, c6, c7, c8, c9⟩ := rule_blk (r := r) hk1
  rw [HP.out] at c0
  go_upto_region 8 with fail
  have hE2 := hE.below hb1
  have F2 := cell_regrown c2
  have F3 := cell_regrown c3
  have F4 := cell_regrown c4
  have F5 := cell_regrown c5
  have F6 := cell_regrown c6
  have F7 := cell_regrown c7
  have F8 := cell_regrown c8
  have F9 := cell_regrown c9
  clear c0 c1 c2 c3 c4 c5 c6 c7 c8 c9
  have k1 := Lib.hid (show StrR 33 #[.agg #[.int .u32 r.sa, .int .i64 r.sn]] _ w1 from fun d os => prefI_any r.sa r.sn r.hsa (by omega) (by omega) _ (hE2.below (below_regrown w1 d os)))
  have k2 := Lib.hid (show StrR 33 #[.agg #[.int .u32 r.da, .int .i64 r.dn]] _ w1 from fun d os => prefI_any r.da r.dn r.hda (by omega) (by omega) _ (hE2.below (below_regrown w1 d os)))
  have k3 := Lib.hid (show StrR 34 #[.agg #[.int .u32 r.sl, .int .u32 r.sh]] _ w1 from fun d os => portT_any r.sl r.sh r.hsl r.hsh _ (hE2.below (below_regrown w1 d os)))
  have k4 := Lib.hid (show StrR 34 #[.agg #[.int .u32 r.dl, .int .u32 r.dh]] _ w1 from fun d os => portT_any r.dl r.dh r.hdl r.hdh _ (hE2.below (below_regrown w1 d os)))
  refine wp_region_tail_below 14 (by kernel_rfl) (by kernel_rfl) ?_
  simp only [List.take_succ_cons, List.take_zero, List.drop_succ_cons, List.drop_zero]
  repeat (first | go_big_quiet_step ((first | (go_at_call 33; with_reducible exact Calls.regrown_of (k1.out _ _)) | (go_at_call 33; with_reducible exact Calls.regrown_of (k2.out _ _)) | (go_at_call 34; with_reducible exact Calls.regrown_of (k3.out _ _)) | (go_at_call 34; with_reducible exact Calls.regrown_of (k4.out _ _)))) | quiet_step ((first | (go_at_call 33; with_reducible exact Calls.regrown_of (k1.out _ _)) | (go_at_call 33; with_reducible exact Calls.regrown_of (k2.out _ _)) | (go_at_call 34; with_reducible exact Calls.regrown_of (k3.out _ _)) | (go_at_call 34; with_reducible exact Calls.regrown_of (k4.out _ _)))))
  refine wpQuiet_nil ?_
  intro W3 hw'
  obtain ⟨⟨nq, osq⟩, hw''⟩ := hw'
  have hb3 := below_call hb1 (hw'' ▸ below_regrown w1 nq osq)
  clear hw'' F2 F3 F4 F5 F6 F7 F8 F9 k1 k2 k3 k4 hE2 K0 K1 K2 K3
  go_wp2_with fail
  refine (KJ.out _ _ (heap_alloc_new _ _)).mono ?_
  rintro e w4 ⟨rfl, hb⟩
  have hb4 := below_call (hb3.alloc hb3.size _) hb
  go_wp2
  go_ret2
  exact ⟨by rw [ht.out.1, ht.out.2]; rfl, hb4⟩
set_option maxRecDepth 100000 in
set_option maxHeartbeats 1000000 in
theorem ftText_no (r : RuleV) (w : World) (hmay : mayB r = false) :
    Calls Tryz.prog 7 #[.agg #[.bool r.permit, .int .i64 r.proto, .int .u32 r.sa, .int .i64 r.sn, .int .u32 r.da, .int .i64 r.dn, .int .u32 r.sl, .int .u32 r.sh, .int .u32 r.dl, .int .u32 r.dh]] w fun e w' => e = .returned (.tuple #[.string ⟨r.told.toArray⟩, .int .i64 r.toldE]) ∧ Below w.heap.size w w' := by
  have hm := may_any r (w.alloc (ruleObj r))
  have hk0 := heap_alloc_new w (ruleObj r)
  have hb0 := below1 w (ruleObj r)
  have hW : w.alloc (.cells #[.bool r.permit, .int .i64 r.proto, .int .u32 r.sa, .int .i64 r.sn, .int .u32 r.da, .int .i64 r.dn, .int .u32 r.sl, .int .u32 r.sh, .int .u32 r.dl, .int .u32 r.dh] 29) = w.alloc (ruleObj r) := rfl
  rw [hmay] at hm
  have ht := Lib.hid (told_no hmay)
  clear hmay
  go_enter Tryz.func7, Tryz.ntmps7
  go_upto_region 1 with fail
  obtain ⟨c0, c1, c2, c3, c4, c5, c6, c7, c8, c9⟩ := rule_blk (r := r) hk0
  generalize w.alloc (ruleObj r) = W at *
  clear hW
  go_wp2_with fail
  refine hm.mono ?_
  rintro e w1 ⟨rfl, hb⟩
  have hbw := below_call hb0 hb
  go_wp2
  go_ret2
  exact ⟨by rw [ht.out.1, ht.out.2]; rfl, hbw⟩
theorem ftText_any (r : RuleV) (w : World) (hE : Env w) :
    Calls Tryz.prog 7 #[.agg #[.bool r.permit, .int .i64 r.proto, .int .u32 r.sa, .int .i64 r.sn, .int .u32 r.da, .int .i64 r.dn, .int .u32 r.sl, .int .u32 r.sh, .int .u32 r.dl, .int .u32 r.dh]] w fun e w' => e = .returned (.tuple #[.string ⟨r.told.toArray⟩, .int .i64 r.toldE]) ∧ Below w.heap.size w w' := by
  cases hmay : mayB r with
  | false => exact ftText_no r w hmay
  | true =>
    cases hperm : r.permit with
    | false =>
      by_cases hpr : 0 ≤ r.proto
      · exact hperm ▸ ftText_dn r w hE hmay hperm hpr
      · exact hperm ▸ ftText_da r w hE hmay hperm hpr
    | true =>
      by_cases hpr : 0 ≤ r.proto
      · exact hperm ▸ ftText_pn r w hE hmay hperm hpr
      · exact hperm ▸ ftText_pa r w hE hmay hperm hpr
end Go.Proofs.YtakkgamhceignaaGreatDoor

/-
  Small general lemmas, the third text: one element appended to a row of the call's own; no program in sight.
-/
namespace Go.Proofs.YtakkgamhceignaaGreatDoor
open Go Go.RowKit

/-- One element (its cells have just been laid in a block of their own) is appended to a row of the call's own. -/
theorem wpList_push {P : Program} {ops : Array Oper} {rest : List Oper} {o : Oper} {a : Act} {Q : Exit → Act → World → Prop} (hgd : o.guard = none) (s x : Operand) (t : TypeId)
    (ho : o.op = .call { callee := .builtin .append, args := #[s, x], argTypes := #[t, t] })
    (e : TypeId) (i : TypeInfo) (z : Value) (size bytes : Nat) (ht : P.underlying t = some (.slice e)) (hi : P.info? e = some i) (hz : i.zero = some z)
    (hsize : i.size = size) (hby : i.bytes = bytes) (hzs : z.cells.size = size) (hsz : 0 < size) (hb64 : bytes ≤ 64)
    {w0 : World} {base n : Nat} {v : Value} {xs : List Value} (es : List Value) (hs : a.eval s = v) {g0 : Nat} (hx : a.eval x = .slice (some ⟨g0, 0, none⟩) 1 1) (hg0 : g0 = w0.heap.size)
    (hown : w0.ownsRow base e size v n xs) (hes : es.length = size) (h1 : ∀ u ∈ es, u.oneCell' = true) (hn : n ≤ 1099511627776) (hbase : base ≤ w0.heap.size)
    {B : Nat} {a0 : World} (hb : Below B a0 w0) (hB : B ≤ base)
    (h : ∀ v' w', w'.ownsRow base e size v' (n + 1) (xs ++ es) → Below B a0 w' → wpList P ops Q rest (a.put o.dst v') w') : wpList P ops Q (o :: rest) a (w0.alloc (.cells es.toArray e)) := by
  subst hg0
  refine wpList_append_own _ hgd s x t ho base e i z size bytes ht hi hz hsize hby hzs hsz v n xs hs (hown.alloc _) ⟨w0.heap.size, 0, none⟩ 1 1 es hx (by omega) (cells_new w0 es e) h1 (by unfold maxLen; omega) ?_ (by simp; omega) ?_
  · calc (n + 1) * bytes ≤ (1099511627776 + 1) * 64 := Nat.mul_le_mul (by omega) hb64
      _ ≤ 140737488355328 := by decide
  · intro v' w' h2 h3 _
    exact h v' w' h2 (below_row (hb.alloc (by omega) _) (hown.alloc _) h3 (by simp; omega) hB)
/-- What a row of the call's own is made of. -/
theorem owns_block {w : World} {base : Nat} {e : TypeId} {size n : Nat} {g c : Nat} {xs : List Value} (h : w.ownsRow base e size (.slice (some ⟨g, 0, none⟩) n c) n xs) :
    ∃ cur : Array Value, w.heap[g]? = some (.cells cur e (0, 0)) ∧ n ≤ c ∧ c ≤ maxLen ∧ cur.size = c * size ∧ cur.toList.take (n * size) = xs ∧ base ≤ g := by
  obtain ⟨_, h2⟩ := h
  rcases h2 with ⟨h2, _⟩ | ⟨g', cap, cur, hv, hg, hh, hnc, hcm, hcs, ht⟩
  · cases h2
  · injection hv with h1 _ h3
    injection h1 with h1
    injection h1 with h1
    subst h1 h3
    exact ⟨cur, hh, hnc, hcm, hcs, ht, hg⟩
theorem owns_of_block {w : World} {base : Nat} {e : TypeId} {size n : Nat} {g c : Nat} {cur : Array Value} {xs : List Value} (hh : w.heap[g]? = some (.cells cur e (0, 0))) (hnc : n ≤ c) (hcm : c ≤ maxLen) (hcs : cur.size = c * size) (ht : cur.toList.take (n * size) = xs) (hl : xs.length = n * size) (hg : base ≤ g) :
    w.ownsRow base e size (.slice (some ⟨g, 0, none⟩) n c) n xs := ⟨hl, .inr ⟨g, c, cur, rfl, hg, hh, hnc, hcm, hcs, ht⟩⟩
theorem owns_nil (w : World) (base : Nat) (e : TypeId) (size : Nat) : w.ownsRow base e size (.slice none 0 0) 0 [] := ⟨by simp, .inl ⟨rfl, rfl⟩⟩

end Go.Proofs.YtakkgamhceignaaGreatDoor

/-
  Walks over the document's addresses: Parse.
-/
namespace Go.Proofs.YtakkgamhceignaaGreatDoor
open Go Go.RowKit Go.Sort

theorem Tryz.infoStr : (Tryz.prog.info? 9).map (fun i => (i.zero, i.size, i.bytes)) = some (some (.string ByteArray.empty), 1, 16) := by kernel_rfl
def PInv (l : List UInt8) (k f : Nat) (L : List ByteArray) : Prop :=
  (k ≤ l.length ∧ f ≤ k ∧ pieces 46 l = L.map (·.data.toList) ++ pieces 46 (l.drop f) ∧ (46 : UInt8) ∉ (l.drop f).take (k - f)) ∨ (k = l.length + 1 ∧ pieces 46 l = L.map (·.data.toList))
theorem one_str (x : ByteArray) : ∀ u ∈ [Value.string x], u.oneCell' = true := by intro u hu; simp at hu; subst hu; rfl
theorem pinv_start (l : List UInt8) : PInv l 0 0 [] := Or.inl ⟨Nat.zero_le _, Nat.le_refl _, by simp, by simp⟩
theorem pinv_skip {l : List UInt8} {k f : Nat} {L : List ByteArray} {x : UInt8} (h : PInv l k f L) (hk : l[k]? = some x) (hx : x ≠ 46) : PInv l (k + 1) f L := by
  have hkl := (List.getElem?_eq_some_iff.1 hk).1
  rcases h with ⟨h1, h2, h3, h4⟩ | ⟨h1, _⟩
  · refine Or.inl ⟨by omega, by omega, h3, ?_⟩
    rw [show k + 1 - f = (k - f) + 1 by omega, List.take_add_one]
    have e : (l.drop f)[k - f]? = some x := by rw [List.getElem?_drop, show f + (k - f) = k by omega, hk]
    rw [e]
    intro h
    rcases List.mem_append.1 h with h | h
    · exact h4 h
    · simp at h; exact hx h.symm
  · omega
theorem drop_split {l : List UInt8} {k f : Nat} (hf : f ≤ k) (hk : l[k]? = some 46) : l.drop f = (l.drop f).take (k - f) ++ 46 :: l.drop (k + 1) := by
  have hkl := (List.getElem?_eq_some_iff.1 hk).1
  have e : (l.drop f).drop (k - f) = 46 :: l.drop (k + 1) := by
    rw [List.drop_drop, show f + (k - f) = k by omega, List.drop_eq_getElem_cons hkl]
    congr 1
    exact Option.some.inj ((List.getElem?_eq_getElem hkl).symm.trans hk)
  rw [← e, List.take_append_drop]
theorem pinv_cut {l : List UInt8} {k f : Nat} {L : List ByteArray} {b : ByteArray} (h : PInv l k f L) (hk : l[k]? = some 46) (hb : b.data.toList = (l.drop f).take (k - f)) : PInv l (k + 1) (k + 1) (L ++ [b]) := by
  have hkl := (List.getElem?_eq_some_iff.1 hk).1
  rcases h with ⟨h1, h2, h3, h4⟩ | ⟨h1, _⟩
  · refine Or.inl ⟨by omega, Nat.le_refl _, ?_, by simp⟩
    rw [h3, drop_split h2 hk, pieces_cons _ h4, List.map_append, List.append_assoc]
    simp [hb]
  · omega
theorem pinv_end {l : List UInt8} {f : Nat} {L : List ByteArray} {b : ByteArray} (h : PInv l l.length f L) (hb : b.data.toList = (l.drop f).take (l.length - f)) : PInv l (l.length + 1) (l.length + 1) (L ++ [b]) := by
  rcases h with ⟨h1, h2, h3, h4⟩ | ⟨h1, _⟩
  · refine Or.inr ⟨rfl, ?_⟩
    have e : (l.drop f).take (l.length - f) = l.drop f := List.take_of_length_le (by simp)
    rw [e] at h4 hb
    rw [h3, pieces_none h4, List.map_append]
    simp [hb]
  · omega
theorem pinv_done {l : List UInt8} {f : Nat} {L : List ByteArray} (h : PInv l (l.length + 1) f L) : pieces 46 l = L.map (·.data.toList) := by
  rcases h with ⟨h1, _⟩ | ⟨_, h⟩
  · omega
  · exact h

set_option maxRecDepth 100000 in
set_option maxHeartbeats 4000000 in
theorem refParse_any (s : ByteArray) (w : World) (hlim : s.size < 4294967281) :
    Calls Tryz.prog 65 #[.string s] w fun e w' => e = .returned (.tuple #[.int .u32 (adV (parseB s.data.toList)), .int .i64 (adE (parseB s.data.toList))]) ∧ Below w.heap.size w w' := by
  obtain ⟨i0, hi, hz0, hz1, hz2⟩ := info_parts Tryz.infoStr
  have HS := Lib.hid (show s.size = s.data.toList.length from (Array.length_toList).symm)
  have t9 := Tryz.underlying9
  have HQ := Lib.hid (show ∀ (i : Nat) (h : i < s.size), Hid (s.data.toList[i]? = some (s[i]'h)) from fun i h => Lib.hid (by
    rw [Array.getElem?_toList]
    exact Array.getElem?_eq_getElem (xs := s.data) (i := i) h))
  go_enter Tryz.func65, Tryz.ntmps65
  go_wp2
  go_loopw [4, 5, 6] (fun v fr i wr => ∃ (k f : Nat) (L : List ByteArray), i = .int .i64 k ∧ fr = .int .i64 f ∧ wr.ownsRow w.heap.size 9 1 v L.length (L.map Value.string) ∧ Hid (PInv s.data.toList k f L) ∧ f ≤ k ∧ k ≤ s.size + 1 ∧ L.length ≤ k ∧ Below w.heap.size w wr) (fun _ _ i _ => s.size + 1 - (intOf i).toNat)
  case atStart => exact ⟨0, 0, [], rfl, rfl, World.ownsRow_nil _ _ _ _, Lib.hid (pinv_start _), by omega, by omega, by simp, Below.refl _ _⟩
  case round =>
    obtain ⟨k, f, L, rfl, rfl, hown, hp, hf, hk, hLk, hb⟩ := hrel
    by_cases hlt : k < s.size
    · have hI3 : (k : Int) < (s.size : Int) := by omega
      have hI4 : (0 : Int) ≤ k := by omega
      have hI5 : (k : Int) ≤ (s.size : Int) := by omega
      have hI6 : ((k : Int) == (s.size : Int)) = false := by simp; omega
      have hx := HQ.out k hlt
      obtain ⟨v, hv⟩ : ∃ v : Int, ((s[k]'hlt).toNat : Int) = v := ⟨_, rfl⟩
      by_cases h46 : s[k]'hlt = 46
      · have hv2 : (v == 46) = true := by rw [← hv, h46]; rfl
        have hcut := Lib.hid (pinv_cut (b := s.extract f k) hp.out (by rw [hx.out, h46]) (by rw [Lib.extract_data]))
        clear h46 hx hp
        go_wp2_with (at_builtin; refine wpList_push rfl _ _ 76 rfl 9 i0 _ 1 16 Tryz.underlying76 hi hz0 hz1 hz2 rfl (by decide) (by decide) [.string (s.extract f k)] rfl rfl (by simp) hown rfl (one_str _) (by omega) hb.size hb (Nat.le_refl _) ?_; intro v2 w2 hown2 hb2)
        have hown3 : w2.ownsRow w.heap.size 9 1 v2 (L ++ [s.extract f k]).length ((L ++ [s.extract f k]).map Value.string) := by
          rw [List.length_append, List.map_append]; exact hown2
        clear hown2 hown
        go_wp2
        exact ⟨⟨k + 1, k + 1, L ++ [s.extract f k], by go_num, by go_num, hown3, hcut, by omega, by omega, by simp; omega, hb2⟩, by simp only [intOf]; omega⟩
      · have hv2 : (v == 46) = false := by
          simp
          intro h
          apply h46
          apply UInt8.toNat_inj.1
          have : (46 : UInt8).toNat = 46 := rfl
          omega
        have hskip := Lib.hid (pinv_skip hp.out hx.out h46)
        clear h46 hx hp
        go_wp2
        exact ⟨⟨k + 1, f, L, by go_num, rfl, hown, hskip, by omega, by omega, by omega, hb⟩, by simp only [intOf]; omega⟩
    · by_cases heq : k = s.size
      · subst heq
        have hI5 : (s.size : Int) ≤ (s.size : Int) := by omega
        have hI6 : ((s.size : Int) == (s.size : Int)) = true := by simp
        have hcut := Lib.hid (pinv_end (b := s.extract f s.size) (by have h := hp.out; rw [HS.out] at h; exact h) (by rw [Lib.extract_data, HS.out]))
        have hcut2 : Hid (PInv s.data.toList (s.size + 1) (s.size + 1) (L ++ [s.extract f s.size])) := Lib.hid (by have h := hcut.out; rw [← HS.out] at h; exact h)
        clear hcut hp hlt
        go_wp2_with (at_builtin; refine wpList_push rfl _ _ 76 rfl 9 i0 _ 1 16 Tryz.underlying76 hi hz0 hz1 hz2 rfl (by decide) (by decide) [.string (s.extract f s.size)] rfl rfl (by simp) hown rfl (one_str _) (by omega) hb.size hb (Nat.le_refl _) ?_; intro v2 w2 hown2 hb2)
        have hown3 : w2.ownsRow w.heap.size 9 1 v2 (L ++ [s.extract f s.size]).length ((L ++ [s.extract f s.size]).map Value.string) := by
          rw [List.length_append, List.map_append]; exact hown2
        clear hown2 hown
        go_wp2
        exact ⟨⟨s.size + 1, s.size + 1, L ++ [s.extract f s.size], by go_num, by go_num, hown3, hcut2, by omega, by omega, by simp; omega, hb2⟩, by simp only [intOf]; omega⟩
      · obtain rfl : k = s.size + 1 := by omega
        have hI5 : ¬ ((s.size + 1 : Nat) : Int) ≤ (s.size : Int) := by omega
        have hP := Lib.hid (pinv_done (by have h := hp.out; rw [HS.out] at h; exact h) : pieces 46 s.data.toList = L.map (·.data.toList))
        have hrd := Rd.of_own hown
        clear hp hlt heq
        obtain ⟨A, c, rfl, hcap⟩ := hrd.form
        by_cases h4 : L.length = 4
        · have hd : ((L.length : Int) != 4) = false := by simp; omega
          obtain ⟨b, off, c', hv, _, hbB, hcell⟩ := hrd.pos (by omega)
          injection hv with hv1 _ hv3
          subst hv1 hv3
          have HC := Lib.hid (show ∀ (j : Nat) (x : ByteArray), L[j]? = some x → wr.cell? ⟨b, off + j, none⟩ = some (.string x) from fun j x hx => hcell j _ (by rw [List.getElem?_map, hx]; rfl))
          have hQ := Lib.hid (parseB_four (l := s.data.toList) (by rw [hP.out]; simpa using h4))
          have HE := Lib.hid (show ∀ (k : Nat) (x : ByteArray), L[k]? = some x → (pieces 46 s.data.toList)[k]? = some x.data.toList from fun k x h => by rw [hP.out, List.getElem?_map, h]; rfl)
          clear hown hrd hcell hP
          go_wp2
          go_loop [7, 8] (fun a i => ∃ k n : Nat, i = .int .i64 k ∧ a = .int .i64 n ∧ k ≤ 4 ∧ Hid (accB (pieces 46 s.data.toList) k = some n)) (fun _ i => 4 - (intOf i).toNat)
          case atStart => exact ⟨0, 0, rfl, rfl, by omega, Lib.hid (show accB (pieces 46 s.data.toList) 0 = some 0 from rfl)⟩
          case round =>
            obtain ⟨k, n, rfl, rfl, hk4, hacc⟩ := hrel
            have hnb := accB_lt hacc.out hk4
            have hn32 : n < 4294967296 := Nat.lt_of_lt_of_le hnb (Nat.le_trans (Nat.pow_le_pow_right (by decide) hk4) (by decide))
            by_cases hk5 : k < 4
            · obtain ⟨x, hx⟩ : ∃ x, L[k]? = some x := ⟨_, List.getElem?_eq_getElem (by omega)⟩
              have hcx := HC.out k x hx
              have hpx := Lib.hid (HE.out k x hx)
              have hI7 : (k : Int) < 4 := by omega
              have hI8 : (0 : Int) ≤ k := by omega
              have hI9 : (k : Int) < (L.length : Int) := by omega
              clear hx hnb
              go_wp2_with fail
              refine (refRead_any x 255 (by omega) _).mono ?_
              rintro e w3 ⟨rfl, rfl⟩
              cases hrd : readB x.data.toList 255 with
              | none =>
                have hr := rdV_none hrd
                have hz := Lib.hid (show parseB s.data.toList = none by rw [hQ.out]; exact accB_none hpx.out hrd 4 hk5)
                clear hrd
                go_wp2
                go_ret2
                exact ⟨by rw [hz.out]; rfl, hb⟩
              | some v =>
                have hr := rdV_some hrd
                have hv := readB_le hrd
                have hstep := Lib.hid (accB_step hacc.out hpx.out hrd)
                have w1 : wrap64 (256 * (n : Int)) = 256 * (n : Int) := by unfold wrap64; omega
                have w2 : wrap64 (256 * (n : Int) + (v : Int)) = 256 * (n : Int) + (v : Int) := by unfold wrap64; omega
                have W2 := Lib.hid w2
                clear hrd
                go_wp2
                clear w1 w2
                exact ⟨⟨k + 1, n * 256 + v, by go_num, vint (by first | (rw [W2.out]; clear W2; omega) | (clear W2; omega)), by clear W2; omega, hstep⟩, by clear W2; simp only [intOf]; omega⟩
            · obtain rfl : k = 4 := by omega
              have hz := Lib.hid (show parseB s.data.toList = some n by rw [hQ.out]; exact hacc.out)
              clear hnb
              go_wp2
              go_ret2
              exact ⟨by rw [hz.out]; rfl, hb⟩
        · have hd : ((L.length : Int) != 4) = true := by simp; omega
          have hz := Lib.hid (parseB_not (l := s.data.toList) (by rw [hP.out]; simpa using h4))
          clear hown hrd h4
          go_wp2
          go_ret2
          exact ⟨by rw [hz.out]; rfl, hb⟩
end Go.Proofs.YtakkgamhceignaaGreatDoor

/-
  The walks of filter.ends and of filter.Parse.
-/
namespace Go.Proofs.YtakkgamhceignaaGreatDoor
open Go Go.RowKit Go.Lib Go.Sort

theorem uint16_yes (y : ByteArray) (hl : y.size < 4294967281) (u : Nat) (h : Lib.parseUintB 16 y.data.toList = .ok u) (w : World) :
    Calls Tryz.prog 41 #[.string y, .int .i64 10, .int .i64 16] w fun e w' => e = .returned (.tuple #[.int .u64 u, .nilIface]) ∧ Below w.heap.size w w' :=
  (Tryz.strconv_ParseUint_10_at16_ok y (by omega) u h w).mono fun _ _ hh => ⟨hh.1, below_of_atoi (t := 5) (hh.2.imp id fun e => ⟨_, e⟩)⟩
theorem uint16_no (y : ByteArray) (hl : y.size < 4294967281) (h : ∀ n, Lib.parseUintB 16 y.data.toList ≠ .ok n) (w : World) (hE : Env w) :
    Calls Tryz.prog 41 #[.string y, .int .i64 10, .int .i64 16] w fun e w' => (∃ (x : Int) (tq : TypeId) (vq : Value), e = .returned (.tuple #[.int .u64 x, .iface tq vq]) ∧ 0 ≤ x ∧ x < 65536) ∧ Below w.heap.size w w' := by
  cases hp : Lib.parseUintB 16 y.data.toList with
  | ok n => exact absurd hp (h n)
  | range =>
    obtain ⟨tp, p, hs⟩ := hE.ran
    refine (Tryz.strconv_ParseUint_10_at16_range y (by omega) hp _ w hs (Or.inr ⟨_, _, rfl⟩)).mono ?_
    rintro e w1 ⟨N, rfl, _, _, hb⟩
    exact ⟨⟨_, _, _, rfl, by omega, by omega⟩, hb⟩
  | _ =>
    obtain ⟨tp, p, hs⟩ := hE.syn
    refine (Tryz.strconv_ParseUint_10_at16_syntax y (by omega) hp _ w hs (Or.inr ⟨_, _, rfl⟩)).mono ?_
    rintro e w1 ⟨N, rfl, _, _, hb⟩
    exact ⟨⟨_, _, _, rfl, by omega, by omega⟩, hb⟩
theorem uint8_yes (y : ByteArray) (hl : y.size < 4294967281) (u : Nat) (h : Lib.parseUintB 8 y.data.toList = .ok u) (w : World) :
    Calls Tryz.prog 41 #[.string y, .int .i64 10, .int .i64 8] w fun e w' => e = .returned (.tuple #[.int .u64 u, .nilIface]) ∧ Below w.heap.size w w' :=
  (Tryz.strconv_ParseUint_10_at8_ok y (by omega) u h w).mono fun _ _ hh => ⟨hh.1, below_of_atoi (t := 5) (hh.2.imp id fun e => ⟨_, e⟩)⟩
theorem uint8_no (y : ByteArray) (hl : y.size < 4294967281) (h : ∀ n, Lib.parseUintB 8 y.data.toList ≠ .ok n) (w : World) (hE : Env w) :
    Calls Tryz.prog 41 #[.string y, .int .i64 10, .int .i64 8] w fun e w' => (∃ (x : Int) (tq : TypeId) (vq : Value), e = .returned (.tuple #[.int .u64 x, .iface tq vq]) ∧ 0 ≤ x ∧ x < 256) ∧ Below w.heap.size w w' := by
  cases hp : Lib.parseUintB 8 y.data.toList with
  | ok n => exact absurd hp (h n)
  | range =>
    obtain ⟨tp, p, hs⟩ := hE.ran
    refine (Tryz.strconv_ParseUint_10_at8_range y (by omega) hp _ w hs (Or.inr ⟨_, _, rfl⟩)).mono ?_
    rintro e w1 ⟨N, rfl, _, _, hb⟩
    exact ⟨⟨_, _, _, rfl, by omega, by omega⟩, hb⟩
  | _ =>
    obtain ⟨tp, p, hs⟩ := hE.syn
    refine (Tryz.strconv_ParseUint_10_at8_syntax y (by omega) hp _ w hs (Or.inr ⟨_, _, rfl⟩)).mono ?_
    rintro e w1 ⟨N, rfl, _, _, hb⟩
    exact ⟨⟨_, _, _, rfl, by omega, by omega⟩, hb⟩
set_option maxRecDepth 100000 in
set_option maxHeartbeats 4000000 in
theorem endsR_eq {w lo hi : List UInt8} {two : Bool} (h : Lib.cut w [45] = (lo, hi, two)) : endsR w = match Lib.parseUintB 16 lo, Lib.parseUintB 16 hi with
    | .ok a, .ok b => (a, b)
    | _, _ => (1, 0) := by
  unfold endsR
  rw [h]
  rfl
theorem ends_yes {w lo hi : List UInt8} {two : Bool} {a b : Nat} (h : Lib.cut w [45] = (lo, hi, two)) (ha : Lib.parseUintB 16 lo = .ok a) (hb : Lib.parseUintB 16 hi = .ok b) : endsR w = ((a : Int), (b : Int)) := by rw [endsR_eq h, ha, hb]
theorem ends_no1 {w lo hi : List UInt8} {two : Bool} (h : Lib.cut w [45] = (lo, hi, two)) (ha : ∀ n, Lib.parseUintB 16 lo ≠ .ok n) : endsR w = (1, 0) := by
  rw [endsR_eq h]
  split
  · rename_i e _; exact absurd e (ha _)
  · rfl
theorem ends_no2 {w lo hi : List UInt8} {two : Bool} (h : Lib.cut w [45] = (lo, hi, two)) (hb : ∀ n, Lib.parseUintB 16 hi ≠ .ok n) : endsR w = (1, 0) := by
  rw [endsR_eq h]
  split
  · rename_i e; exact absurd e (hb _)
  · rfl
theorem results_1s {fn : Func} {tmps : Array Value} {w : World} {g : Nat} {a b : Value} {t1 : Nat} (hf : fn.results = #[.cell t1 27]) (h1 : tmps.getD t1 undef = .pointer (some ⟨g, 0, none⟩))
    (k1 : w.heap[g]? = some (.cells #[a, b] 27 (0, 0))) :
    (results fn tmps).run Tryz.prog w = .ok (.agg #[a, b]) w := by
  obtain ⟨c0, c1, _, _⟩ := two_cells k1
  have h1' : tmps[t1]?.getD undef = .pointer (some ⟨g, 0, none⟩) := by simpa using h1
  simp [results, hf, h1', go_sem, c0, c1]
set_option maxRecDepth 100000 in
set_option maxHeartbeats 4000000 in
theorem ends_any (y : ByteArray) (hl : y.size < 4294967281) (w : World) (hE : Env w) :
    Calls Tryz.prog 40 #[.string y] w fun e w' => e = .returned (.agg #[.int .u32 (endsR y.data.toList).1, .int .u32 (endsR y.data.toList).2]) ∧ Below w.heap.size w w' := by
  generalize hX : Lib.cut y.data.toList [45] = X
  obtain ⟨lo, hi', two⟩ := X
  have HX := Lib.hid hX
  have hxl : y.data.toList.length = y.size := Array.length_toList
  have ll : lo.length ≤ y.size := by have := cut_fst_len y.data.toList [45]; rw [hX] at this; dsimp only at this; omega
  have lh : hi'.length ≤ y.size := by have := cut_snd_len y.data.toList [45]; rw [hX] at this; dsimp only at this; omega
  have sl : (⟨lo.toArray⟩ : ByteArray).size < 4294967281 := by show lo.length < _; omega
  have sh : (⟨hi'.toArray⟩ : ByteArray).size < 4294967281 := by show hi'.length < _; omega
  have hk0 := heap_alloc_new w (.cells #[.int .u32 0, .int .u32 0] 27)
  have hb0 : Below w.heap.size w (w.alloc (.cells #[.int .u32 0, .int .u32 0] 27)) := (Below.refl _ _).alloc (Nat.le_refl _) _
  have hE0 := hE.below hb0
  obtain ⟨m, hm⟩ := hE0.len
  have hC := Tryz.strings_Cut y ⟨#[45]⟩ m (w.alloc (.cells #[.int .u32 0, .int .u32 0] 27)) (by omega) hm
  rw [show ({ data := #[45] } : ByteArray).data.toList = [45] from rfl, hX] at hC
  dsimp only at hC
  clear hX hm hxl ll lh
  have HC := Lib.hid hC
  clear hC
  go_enter Tryz.func40, Tryz.ntmps40
  go_wp2_with fail
  generalize w.alloc (.cells #[.int .u32 0, .int .u32 0] 27) = W at *
  refine HC.out.mono ?_
  rintro e w2 ⟨rfl, nq, rfl⟩
  have hb2 : Below w.heap.size w (W.drewN nq) := below_drewN hb0 nq
  have hE2 := hE.below hb2
  have hk2 := heap_drewN (n := nq) hk0
  clear HC hE0 hk0 hb0
  generalize W.drewN nq = W2 at *
  by_cases ha : ∃ a, Lib.parseUintB 16 lo = .ok a
  · obtain ⟨a, ha⟩ := ha
    go_wp2_with fail
    refine (uint16_yes ⟨lo.toArray⟩ sl a ha W2).mono ?_
    rintro e w3 ⟨rfl, hb⟩
    have hk3 := blk_below hb hk2
    have hb3 := below_call hb2 hb
    have hE3 := hE.below hb3
    clear hb hb2 hk2 hE2
    by_cases hb' : ∃ b, Lib.parseUintB 16 hi' = .ok b
    · obtain ⟨b, hb'⟩ := hb'
      go_wp2_with fail
      refine (uint16_yes ⟨hi'.toArray⟩ sh b hb' w3).mono ?_
      rintro e w4 ⟨rfl, hb⟩
      have hk4 := blk_below hb hk3
      have hb4 := below_call hb3 hb
      clear hb hb3 hk3 hE3
      obtain ⟨c0, c1, f0, f1⟩ := two_cells hk4
      have HK := Lib.hid hk4
      have hz := Lib.hid (ends_yes HX.out ha hb')
      have la := uint16_le ha
      have lb := uint16_le hb'
      have d1 : (a : Int) % 4294967296 = a := by omega
      have d2 : (b : Int) % 4294967296 = b := by omega
      clear hk4
      go_wp2
      exact bodyPost_ret (results_1s (t1 := 2) (g := w.heap.size) Tryz.results40 rfl (set_1 (set_0 HK.out))) rfl ⟨by rw [hz.out], (hb4.setCell (Nat.le_refl _) _).setCell (Nat.le_refl _) _⟩
    · have hb' : ∀ n, Lib.parseUintB 16 (⟨hi'.toArray⟩ : ByteArray).data.toList ≠ .ok n := fun n e => hb' ⟨n, e⟩
      go_wp2_with fail
      refine (uint16_no ⟨hi'.toArray⟩ sh hb' w3 hE3).mono ?_
      rintro e w4 ⟨⟨xb, tb, qb, rfl, gb0, gb1⟩, hb⟩
      have hk4 := blk_below hb hk3
      have hb4 := below_call hb3 hb
      clear hb hb3 hk3 hE3
      obtain ⟨c0, c1, f0, f1⟩ := two_cells hk4
      have HK := Lib.hid hk4
      have hz := Lib.hid (ends_no2 HX.out hb')
      clear hk4
      go_wp2
      exact bodyPost_ret (results_1s (t1 := 2) (g := w.heap.size) Tryz.results40 rfl (set_1 (set_0 HK.out))) rfl ⟨by rw [hz.out], (hb4.setCell (Nat.le_refl _) _).setCell (Nat.le_refl _) _⟩
  · have ha : ∀ n, Lib.parseUintB 16 (⟨lo.toArray⟩ : ByteArray).data.toList ≠ .ok n := fun n e => ha ⟨n, e⟩
    go_wp2_with fail
    refine (uint16_no ⟨lo.toArray⟩ sl ha W2 hE2).mono ?_
    rintro e w3 ⟨⟨xa, ta, qa, rfl, ga0, ga1⟩, hb⟩
    have hk3 := blk_below hb hk2
    have hb3 := below_call hb2 hb
    have hE3 := hE.below hb3
    clear hb hb2 hk2 hE2
    by_cases hb' : ∃ b, Lib.parseUintB 16 hi' = .ok b
    · obtain ⟨b, hb'⟩ := hb'
      go_wp2_with fail
      refine (uint16_yes ⟨hi'.toArray⟩ sh b hb' w3).mono ?_
      rintro e w4 ⟨rfl, hb⟩
      have hk4 := blk_below hb hk3
      have hb4 := below_call hb3 hb
      clear hb hb3 hk3 hE3
      obtain ⟨c0, c1, f0, f1⟩ := two_cells hk4
      have HK := Lib.hid hk4
      have hz := Lib.hid (ends_no1 HX.out ha)
      clear hk4
      go_wp2
      exact bodyPost_ret (results_1s (t1 := 2) (g := w.heap.size) Tryz.results40 rfl (set_1 (set_0 HK.out))) rfl ⟨by rw [hz.out], (hb4.setCell (Nat.le_refl _) _).setCell (Nat.le_refl _) _⟩
    · have hb' : ∀ n, Lib.parseUintB 16 (⟨hi'.toArray⟩ : ByteArray).data.toList ≠ .ok n := fun n e => hb' ⟨n, e⟩
      go_wp2_with fail
      refine (uint16_no ⟨hi'.toArray⟩ sh hb' w3 hE3).mono ?_
      rintro e w4 ⟨⟨xb, tb, qb, rfl, gb0, gb1⟩, hb⟩
      have hk4 := blk_below hb hk3
      have hb4 := below_call hb3 hb
      clear hb hb3 hk3 hE3
      obtain ⟨c0, c1, f0, f1⟩ := two_cells hk4
      have HK := Lib.hid hk4
      have hz := Lib.hid (ends_no1 HX.out ha)
      clear hk4
      go_wp2
      exact bodyPost_ret (results_1s (t1 := 2) (g := w.heap.size) Tryz.results40 rfl (set_1 (set_0 HK.out))) rfl ⟨by rw [hz.out], (hb4.setCell (Nat.le_refl _) _).setCell (Nat.le_refl _) _⟩
end Go.Proofs.YtakkgamhceignaaGreatDoor

/-
  Walks over headers: Text.
-/
import Derived.Test.YtdlhpiknifcehaaDoorHd5
import Derived.Test.YtdlhpiknifcehaaDoorHdText
namespace Go.Proofs.YtdlhpiknifcehaaDoor
open Go Go.RowKit Go.Sort

theorem itoa_nat (n : Nat) : Lib.itoa (n : Int) = Lib.decDigits n := by unfold Lib.itoa; rw [if_neg (by omega), Int.toNat_natCast]
set_option maxRecDepth 100000 in
set_option maxHeartbeats 2000000 in
theorem endText_any (a p : Nat) (ha : a < 4294967296) (hp : p < 65536) (w : World) (hE : Env w) :
    Calls Tryd.prog 65 #[.int .u32 a, .int .u16 p] w fun e w' => e = .returned (.string ⟨(endL a p).toArray⟩) ∧ Below w.heap.size w w' := by
  have hZ := textA_size a
  have hI := Lib.itoa_length_le p (by omega) (by omega)
  go_enter Tryd.func65, Tryd.ntmps65
  go_wp2_with fail
  refine (addrText_any a ha w hE).mono ?_
  rintro e w1 ⟨rfl, hb1⟩
  have hE1 := hE.below hb1
  go_wp2_with fail
  refine (Tryd.strconv_Itoa _ (by omega) (by omega) _ hE1.tab).mono ?_
  rintro e w2 ⟨rfl, hb2⟩
  have hbw := below_call hb1 (below_of_grow hb2)
  clear hb1 hb2
  go_wp2
  go_ret
  refine ⟨congrArg Ending.returned (congrArg Value.string (byte_ext ?_)), hbw⟩
  show ((textA a ++ ⟨#[58]⟩ ++ ⟨(Lib.itoa p).toArray⟩ : ByteArray)).data.toList = endL a p
  rw [itoa_nat]
  simp [ByteArray.data_append, endL]
theorem endL_size (a p : Nat) (hp : p < 65536) : (⟨(endL a p).toArray⟩ : ByteArray).size ≤ 37 := by
  have hZ := textA_size a
  have hI := Lib.itoa_length_le p (by omega) (by omega)
  rw [itoa_nat] at hI
  show (endL a p).toArray.size ≤ 37
  have e : (textA a).size = (textA a).data.toList.length := Array.length_toList.symm
  rw [e] at hZ
  simp only [endL, List.size_toArray, List.length_append, List.length_cons]
  omega
set_option maxRecDepth 100000 in
set_option maxHeartbeats 2000000 in
theorem hdText_any (h : Hd) (ho : h.ok) (w : World) (hE : Env w) :
    Calls Tryd.prog 30 #[.agg #[.int .u32 h.src, .int .u32 h.dst, .int .u8 h.proto, .int .u16 h.sp, .int .u16 h.dp]] w fun e w' => e = .returned (.string h.text) ∧ Below w.heap.size w w' := by
  obtain ⟨s0, s1, d0, d1, p0, p1, a0, a1, b0, b1⟩ := ho
  obtain ⟨s, d, p, a, b⟩ := h
  dsimp only at *
  obtain ⟨s, rfl⟩ := Int.eq_ofNat_of_zero_le s0
  obtain ⟨d, rfl⟩ := Int.eq_ofNat_of_zero_le d0
  obtain ⟨p, rfl⟩ := Int.eq_ofNat_of_zero_le p0
  obtain ⟨a, rfl⟩ := Int.eq_ofNat_of_zero_le a0
  obtain ⟨b, rfl⟩ := Int.eq_ofNat_of_zero_le b0
  have k1 := endL_size s a (by omega)
  have k2 := endL_size d b (by omega)
  have k3 := Lib.itoa_length_le p (by omega) (by omega)
  go_enter Tryd.func30, Tryd.ntmps30
  go_upto_region 2 with fail
  have hk := heap_alloc_new w (Hd.cells ⟨s, d, p, a, b⟩)
  have hbW : Below w.heap.size w (w.alloc (Hd.cells ⟨s, d, p, a, b⟩)) := (Below.refl _ _).alloc (Nat.le_refl _) _
  have hEW := hE.below hbW
  have hW : w.alloc (.cells #[.int .u32 s, .int .u32 d, .int .u8 p, .int .u16 a, .int .u16 b] 48) = w.alloc (Hd.cells ⟨s, d, p, a, b⟩) := rfl
  rw [hW]
  generalize w.alloc (Hd.cells ⟨s, d, p, a, b⟩) = W at *
  clear hW
  obtain ⟨c0, c1, c2, c3, c4⟩ := hd_cell hk
  dsimp only at c0 c1 c2 c3 c4
  have F0 := cell_regrown c0
  have F1 := cell_regrown c1
  have F2 := cell_regrown c2
  have F3 := cell_regrown c3
  have F4 := cell_regrown c4
  have hX : ∀ (v : World), Env v → Calls Tryd.prog 65 #[.int .u32 s, .int .u16 a] v fun e w' => e = .returned (.string ⟨(endL s a).toArray⟩) ∧ Below v.heap.size v w' := fun v hv => endText_any s a (by omega) (by omega) v hv
  have hY : ∀ (v : World), Env v → Calls Tryd.prog 65 #[.int .u32 d, .int .u16 b] v fun e w' => e = .returned (.string ⟨(endL d b).toArray⟩) ∧ Below v.heap.size v w' := fun v hv => endText_any d b (by omega) (by omega) v hv
  generalize hq1 : (⟨(endL s a).toArray⟩ : ByteArray) = q1 at *
  generalize hq2 : (⟨(endL d b).toArray⟩ : ByteArray) = q2 at *
  have HX := Lib.hid hX
  have HY := Lib.hid hY
  clear hX hY
  refine wp_region_quiet_below (by kernel_rfl) (by kernel_rfl) ?_
  repeat (first | go_big_quiet_step ((first | (go_at_call 65; first | (with_reducible exact Calls.regrown_of (HX.out _ (hEW.below (below_regrown W _ _)))) | (with_reducible exact Calls.regrown_of (HY.out _ (hEW.below (below_regrown W _ _))))) | (go_at_call 57; exact Calls.regrown_of ((Tryd.strconv_Itoa _ (by omega) (by omega) _ (hEW.below (below_regrown W _ _)).tab).mono fun _ _ h => ⟨h.1, below_of_grow h.2⟩)))) | quiet_step ((first | (go_at_call 65; first | (with_reducible exact Calls.regrown_of (HX.out _ (hEW.below (below_regrown W _ _)))) | (with_reducible exact Calls.regrown_of (HY.out _ (hEW.below (below_regrown W _ _))))) | (go_at_call 57; exact Calls.regrown_of ((Tryd.strconv_Itoa _ (by omega) (by omega) _ (hEW.below (below_regrown W _ _)).tab).mono fun _ _ h => ⟨h.1, below_of_grow h.2⟩)))))
  refine wpQuiet_nil ?_
  intro _ hw'
  obtain ⟨⟨nq, osq⟩, hw''⟩ := hw'
  subst hw''
  go_wp2
  go_ret
  refine ⟨congrArg Ending.returned (congrArg Value.string (byte_ext ?_)), (hbW.trans ((below_regrown W nq osq).mono hbW.size))⟩
  rw [text_list]
  subst hq1 hq2
  show ((⟨(endL s a).toArray⟩ ++ ⟨#[32]⟩ ++ ⟨(endL d b).toArray⟩ ++ ⟨#[32]⟩ ++ ⟨(Lib.itoa p).toArray⟩ : ByteArray)).data.toList = _
  rw [itoa_nat]
  simp [ByteArray.data_append, Hd.textL]
end Go.Proofs.YtdlhpiknifcehaaDoor

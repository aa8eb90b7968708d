/-
  Walks over the document's addresses: Number, Text, PrefixText.
-/
import Derived.Test.YtdlhpiknifcehaaDoorAt1
namespace Go.Proofs.YtdlhpiknifcehaaDoor
open Go Go.RowKit Go.Sort

set_option maxRecDepth 100000 in
set_option maxHeartbeats 1000000 in
theorem refNumber_any (n : Int) (w : World) (h0 : -9223372036854775808 ≤ n) (h1 : n ≤ 9223372036854775807) :
    Calls Tryd.prog 59 #[.int .i64 n] w fun e w' => e = .returned (.string ⟨(Lib.itoa n).toArray⟩) ∧ Below w.heap.size w w' := by
  have hl := Lib.itoa_length_le n h0 h1
  by_cases hn : n < 0
  · have e1 : wrap64 (n + 1) = n + 1 := by unfold wrap64; omega
    have e2 : wrap64 (-(n + 1)) = -(n + 1) := by unfold wrap64; omega
    have e3 : IntKind.u64.wrap (-(n + 1)) = -(n + 1) := by simp [IntKind.wrap, IntKind.bits, IntKind.signed]; omega
    have e4 : IntKind.u64.wrap (-(n + 1) + 1) = -n := by simp [IntKind.wrap, IntKind.bits, IntKind.signed]; omega
    have HD := Lib.hid (fun v => digits_any (-n) v (by omega) (Lib.hid (by omega)))
    have hi : Lib.itoa n = 45 :: Lib.decDigits (-n).toNat := by
      unfold Lib.itoa
      rw [if_pos hn, show n.natAbs = (-n).toNat by omega]
    have hz : (Lib.decDigits (-n).toNat).length ≤ 21 := by rw [hi] at hl; simp at hl; omega
    have HI := Lib.hid hi
    have hneg : n < 0 := hn
    clear h0 h1 hl hi hn
    go_enter Tryd.func59, Tryd.ntmps59
    go_wp2_with fail
    refine (HD.out _).mono ?_
    rintro e w1 ⟨rfl, hb⟩
    go_wp2
    go_ret
    exact ⟨by rw [HI.out]; exact congrArg (fun x => Ending.returned (.string x)) (byte_ext (by simp [ByteArray.data_append])), hb⟩
  · have HD := Lib.hid (fun v => digits_any n v (by omega) (Lib.hid (by omega)))
    have hi := Lib.hid (show Lib.itoa n = Lib.decDigits n.toNat by unfold Lib.itoa; rw [if_neg hn])
    have e1 : IntKind.u64.wrap n = n := by simp [IntKind.wrap, IntKind.bits, IntKind.signed]; omega
    clear h0 h1
    go_enter Tryd.func59, Tryd.ntmps59
    go_wp2_with fail
    refine (HD.out _).mono ?_
    rintro e w1 ⟨rfl, hb⟩
    go_wp2
    go_ret
    exact ⟨by rw [hi.out]; rfl, hb⟩

theorem refNum_oct (a k : Nat) (v : World) : Calls Tryd.prog 59 #[.int .i64 (octet a k)] v fun e w' => e = .returned (.string ⟨(dec3 (octet a k)).toArray⟩) ∧ Below v.heap.size v w' := by
  have h0 := octet_lt a k
  have h := refNumber_any (octet a k) v (by omega) (by omega)
  rw [show Lib.itoa (octet a k : Int) = Lib.decDigits (octet a k) by unfold Lib.itoa; rw [if_neg (by omega), Int.toNat_natCast], dec3_eq (by omega)] at h
  exact h
set_option maxRecDepth 100000 in
set_option maxHeartbeats 2000000 in
theorem refText_any (a : Nat) (ha : a < 4294967296) (w : World) :
    Calls Tryd.prog 18 #[.int .u32 a] w fun e w' => e = .returned (.string (textA a)) ∧ Below w.heap.size w w' := by
  have i0 : (a : Int) / 16777216 = (octet a 0 : Int) := by unfold octet; simp only [Nat.reduceSub, Nat.reducePow]; omega
  have i1 : (a : Int) / 65536 % 256 = (octet a 1 : Int) := by unfold octet; simp only [Nat.reduceSub, Nat.reducePow]; omega
  have i2 : (a : Int) / 256 % 256 = (octet a 2 : Int) := by unfold octet; simp only [Nat.reduceSub, Nat.reducePow]; omega
  have i3 : (a : Int) % 256 = (octet a 3 : Int) := by unfold octet; simp only [Nat.reduceSub, Nat.pow_zero, Nat.div_one]; omega
  have n0 := Lib.hid (refNum_oct a 0)
  have n1 := Lib.hid (refNum_oct a 1)
  have n2 := Lib.hid (refNum_oct a 2)
  have n3 := Lib.hid (refNum_oct a 3)
  have z0 := dec3_len (octet a 0)
  have z1 := dec3_len (octet a 1)
  have z2 := dec3_len (octet a 2)
  have z3 := dec3_len (octet a 3)
  have hT := Lib.hid (textA_eq a)
  generalize dec3 (octet a 0) = x0 at *
  generalize dec3 (octet a 1) = x1 at *
  generalize dec3 (octet a 2) = x2 at *
  generalize dec3 (octet a 3) = x3 at *
  go_enter Tryd.func18, Tryd.ntmps18
  go_wp2_with fail
  refine (n0.out _).mono ?_
  rintro e w1 ⟨rfl, hb1⟩
  go_wp2_with fail
  refine (n1.out _).mono ?_
  rintro e w2 ⟨rfl, hb2⟩
  go_wp2_with fail
  refine (n2.out _).mono ?_
  rintro e w3 ⟨rfl, hb3⟩
  go_wp2_with fail
  refine (n3.out _).mono ?_
  rintro e w4 ⟨rfl, hb4⟩
  have hb := ((hb1.trans (hb2.mono hb1.size)).trans (hb3.mono (Nat.le_trans hb1.size hb2.size))).trans (hb4.mono (Nat.le_trans (Nat.le_trans hb1.size hb2.size) hb3.size))
  clear hb1 hb2 hb3 hb4
  go_wp2
  go_ret
  exact ⟨by rw [hT.out]; exact congrArg (fun x => Ending.returned (.string x)) (byte_ext (by simp [ByteArray.data_append])), hb⟩

set_option maxHeartbeats 1000000 in
theorem refPrefixText_any (a : Nat) (n : Int) (ha : a < 4294967296) (h0 : -9223372036854775808 ≤ n) (h1 : n ≤ 9223372036854775807) (w : World) :
    Calls Tryd.prog 20 #[.agg #[.int .u32 a, .int .i64 n]] w fun e w' => e = .returned (.string (textP a n)) ∧ Below w.heap.size w w' := by
  have hZ := textA_size a
  have hI := Lib.itoa_length_le n h0 h1
  go_enter Tryd.func20, Tryd.ntmps20
  go_wp2
  have c0 : (w.alloc (.cells #[.int .u32 a, .int .i64 n] 25)).cell? ⟨w.heap.size, 0, none⟩ = some (.int .u32 a) := by simp
  have c1 : (w.alloc (.cells #[.int .u32 a, .int .i64 n] 25)).cell? ⟨w.heap.size, 1, none⟩ = some (.int .i64 n) := by simp
  have hbW : Below w.heap.size w (w.alloc (.cells #[.int .u32 a, .int .i64 n] 25)) := (Below.refl _ _).alloc (Nat.le_refl _) _
  generalize w.alloc (.cells #[.int .u32 a, .int .i64 n] 25) = W at *
  have F0 := cell_regrown c0
  have F1 := cell_regrown c1
  refine wp_region_quiet_below (by kernel_rfl) (by kernel_rfl) ?_
  repeat (first | go_big_quiet_step ((first | (go_at_call 18; exact Calls.regrown_of (refText_any _ (by omega) _)) | (go_at_call 59; exact Calls.regrown_of (refNumber_any _ _ (by omega) (by omega))))) | quiet_step ((first | (go_at_call 18; exact Calls.regrown_of (refText_any _ (by omega) _)) | (go_at_call 59; exact Calls.regrown_of (refNumber_any _ _ (by omega) (by omega))))))
  refine wpQuiet_nil ?_
  intro _ hw'
  obtain ⟨⟨nq, osq⟩, hw''⟩ := hw'
  subst hw''
  go_wp2
  go_ret
  exact ⟨rfl, (hbW.trans ((below_regrown W nq osq).mono hbW.size))⟩
end Go.Proofs.YtdlhpiknifcehaaDoor

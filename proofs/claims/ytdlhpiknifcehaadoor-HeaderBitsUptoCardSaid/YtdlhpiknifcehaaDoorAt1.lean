/-
  Walks over the document's addresses: digits, Number, Read.
-/
import Derived.Test.YtdlhpiknifcehaaDoorBackMath
import Derived.Lib.ConvBytes
import Derived.Deep.DeepCutAuto
namespace Go.Proofs.YtdlhpiknifcehaaDoor
open Go Go.RowKit Go.Sort

theorem conv_one (w : World) (x : Int) (h0 : 0 ≤ x) (h1 : x < 256) : (convert 101 9 (.slice (some ⟨w.heap.size, 0, none⟩) 1 1)).run Tryd.prog (w.alloc (.cells #[.int .u8 x] 5)) = .ok (.string ⟨#[UInt8.ofNat x.toNat]⟩) (w.alloc (.cells #[.int .u8 x] 5)) := by
  have h := run_convert_bytes_back (P := Tryd.prog) (w.alloc (.cells #[.int .u8 x] 5)) 101 9 5 ⟨w.heap.size, 0, none⟩ 1 [UInt8.ofNat x.toNat] Tryd.underlying101 Tryd.underlying5 Tryd.underlying9 (fun j hj => by
    simp at hj
    subst hj
    have e : ((UInt8.ofNat x.toNat).toNat : Int) = x := by simp; omega
    have e2 : (⟨w.heap.size, 0, none⟩ : Addr).add 0 = ⟨w.heap.size, 0, none⟩ := rfl
    rw [e2, cell_of_row _ _ _ _ _ _ (heap_alloc_new w _)]
    simp only [List.getElem_cons_zero, e]
    rfl)
  exact h
theorem dec_len : ∀ (k n : Nat), n < 10 ^ (k + 1) → (Lib.decDigits n).length ≤ k + 1
  | 0, n, h => by rw [decDigits_small (by simpa using h)]; simp
  | k + 1, n, h => by
    by_cases h9 : n < 10
    · rw [decDigits_small h9]; simp
    · rw [decDigits_big h9, List.length_append]
      have := dec_len k (n / 10) (by rw [Nat.pow_succ] at h; omega)
      simp; omega
theorem dec_push {k n : Nat} {t : ByteArray} (h9 : 9 < k) (h : Lib.decDigits k ++ t.data.toList = Lib.decDigits n) : Lib.decDigits (k / 10) ++ ((⟨#[UInt8.ofNat (48 + k % 10)]⟩ : ByteArray) ++ t).data.toList = Lib.decDigits n := by
  rw [← h, decDigits_big (n := k) (by omega)]
  simp [ByteArray.data_append]
theorem dec_last {k n : Nat} {t : ByteArray} (h9 : ¬ 9 < k) (h : Lib.decDigits k ++ t.data.toList = Lib.decDigits n) : (⟨#[UInt8.ofNat (48 + k)]⟩ : ByteArray) ++ t = ⟨(Lib.decDigits n).toArray⟩ := by
  apply byte_ext
  show _ = Lib.decDigits n
  rw [← h, decDigits_small (by omega)]
  simp [ByteArray.data_append]
theorem size_le_of {k n : Nat} {t : ByteArray} (hn : n < 18446744073709551616) (h : Lib.decDigits k ++ t.data.toList = Lib.decDigits n) : t.size ≤ 20 := by
  have h1 := dec_len 19 n (Nat.lt_of_lt_of_le hn (by decide))
  rw [← h, List.length_append] at h1
  have e : t.size = t.data.toList.length := (Array.length_toList).symm
  rw [e]; omega
theorem dig_wrap (d : Int) (h0 : 0 ≤ d) (h1 : d < 10) : IntKind.u64.wrap (48 + d) = 48 + d ∧ (48 + d) % 256 = 48 + d := by
  refine ⟨?_, by omega⟩
  simp [IntKind.wrap, IntKind.bits, IntKind.signed]
  omega
set_option maxRecDepth 100000 in
set_option maxHeartbeats 1000000 in
theorem digits_any (n : Int) (w : World) (h0 : 0 ≤ n) (hn : Hid (n < 18446744073709551616)) :
    Calls Tryd.prog 83 #[.int .u64 n] w fun e w' => e = .returned (.string ⟨(Lib.decDigits n.toNat).toArray⟩) ∧ Below w.heap.size w w' := by
  go_enter Tryd.func83, Tryd.ntmps83
  go_wp2
  go_loopw [0, 3] (fun m s wr => ∃ (k : Int) (t : ByteArray), m = .int .u64 k ∧ s = .string t ∧ 0 ≤ k ∧ Hid (k < 18446744073709551616) ∧ Hid (Lib.decDigits k.toNat ++ t.data.toList = Lib.decDigits n.toNat) ∧ Below w.heap.size w wr) (fun m _ _ => (intOf m).toNat)
  case atStart => exact ⟨n, ⟨#[]⟩, rfl, rfl, h0, hn, Lib.hid (by simp), Below.refl _ _⟩
  case round =>
    obtain ⟨k, t, rfl, rfl, hk, hk2, hd, hb⟩ := hrel
    have hts := size_le_of (by have := hn.out; omega) hd.out
    by_cases h9 : 9 < k
    · have hI : k > 9 := h9
      go_upto_region 3 with fail
      have d0 : 0 ≤ k % 10 := by omega
      have d1 : k % 10 < 10 := by omega
      have e1 : k.tmod 10 = k % 10 := by rw [Int.tmod_eq_emod_of_nonneg hk]
      obtain ⟨e2, e3⟩ := dig_wrap (k % 10) d0 d1
      have e4 : k.tdiv 10 = k / 10 := Int.tdiv_eq_ediv_of_nonneg hk
      have hc := conv_one wr (48 + k % 10) (by omega) (by omega)
      rw [show (48 + k % 10).toNat = 48 + k.toNat % 10 by omega] at hc
      have hd2 := Lib.hid (dec_push (k := k.toNat) (by omega) hd.out)
      have hk3 := Lib.hid (show k / 10 < 18446744073709551616 by have := hk2.out; omega)
      have hw1 : IntKind.u64.wrap (k / 10) = k / 10 := by
        have := hk2.out
        simp [IntKind.wrap, IntKind.bits, IntKind.signed]; omega
      have hb2 := hb.alloc hb.size (.cells #[.int .u8 (48 + k % 10)] 5)
      generalize hx : UInt8.ofNat (48 + k.toNat % 10) = x at *
      clear hI hd hk2 hx
      go_wp2
      refine ⟨⟨k / 10, _, rfl, rfl, by omega, hk3, ?_, hb2⟩, by simp only [intOf]; omega⟩
      rw [show (k / 10).toNat = k.toNat / 10 by omega]
      exact hd2
    · have hI : ¬ k > 9 := h9
      go_upto_region 5 with fail
      obtain ⟨e2, e3⟩ := dig_wrap k hk (by omega)
      have hc := conv_one wr (48 + k) (by omega) (by omega)
      rw [show (48 + k).toNat = 48 + k.toNat by omega] at hc
      have hd2 := Lib.hid (dec_last (k := k.toNat) (by omega) hd.out)
      have hb2 := hb.alloc hb.size (.cells #[.int .u8 (48 + k)] 5)
      generalize hx : UInt8.ofNat (48 + k.toNat) = x at *
      clear hI hd hk2 hx
      go_wp2
      go_ret
      exact ⟨by rw [← hd2.out]; rfl, hb2⟩
end Go.Proofs.YtdlhpiknifcehaaDoor

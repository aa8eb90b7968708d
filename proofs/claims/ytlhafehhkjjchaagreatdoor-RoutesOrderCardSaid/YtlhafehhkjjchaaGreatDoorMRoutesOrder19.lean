/-
  Joined texts: Pu31, Rt4, RtText2, AdText, AdText2.
-/
import Derived.Shelf.Pu.ParseUintPublic10
import Derived.Shelf.Pu.Lower
import Derived.Lib.Hide
import Derived.Test.YtlhafehhkjjchaaGreatDoorMRoutesOrder18
import Derived.Lib.ConvBytes
import Derived.Shelf.Strings.Search3
import Derived.Test.YtlhafehhkjjchaaGreatDoorMRoutesOrder16
import Derived.Test.YtlhafehhkjjchaaGreatDoorMRoutesOrder2
import Derived.Test.YtlhafehhkjjchaaGreatDoorMRoutesOrder15
import Derived.Lib.SlicesS
/-
  strconv.ParseUint at base 10 and 31 bits: the shelf holds 8, 16, 32 and 64 bits alone. Walked over any program that lays the shelf's text of it.
-/
namespace Go.Proofs.YtlhafehhkjjchaaGreatDoor
open Go Go.Shelf Go.RowKit
variable {P : Program} {ρ : Ren}

/-- Where the loop over the digits stands: k bytes read, their number is a. -/
def At31 (bs : List UInt8) (k : Nat) (a : Int) : Prop :=
  ∃ m : Nat, a = m ∧ m ≤ 2147483647 ∧ Lib.parseUintM 2147483647 0 bs = Lib.parseUintM 2147483647 m (bs.drop k)
theorem at31_start (bs : List UInt8) : At31 bs 0 0 := ⟨0, rfl, by omega, rfl⟩
theorem At31.le {bs : List UInt8} {k : Nat} {a : Int} (h : At31 bs k a) : 0 ≤ a ∧ a ≤ 2147483647 := by
  obtain ⟨m, h1, h2, _⟩ := h; omega
theorem At31.next {bs : List UInt8} {k : Nat} {a : Int} {c : UInt8} (h : At31 bs k a) (hc : bs[k]? = some c) (h0 : 48 ≤ c.toNat) (h1 : c.toNat ≤ 57) (hle : a * 10 + ((c.toNat : Int) - 48) ≤ 2147483647) : At31 bs (k + 1) (a * 10 + ((c.toNat : Int) - 48)) := by
  obtain ⟨m, rfl, h2, h3⟩ := h
  obtain ⟨hk, hg⟩ := List.getElem?_eq_some_iff.1 hc
  refine ⟨m * 10 + (c.toNat - 48), by omega, by omega, ?_⟩
  rw [h3, List.drop_eq_getElem_cons hk, hg, Lib.parseUintM, if_pos ⟨h0, h1⟩, if_neg (by omega), if_neg (by omega)]
theorem At31.over {bs : List UInt8} {k : Nat} {a : Int} {c : UInt8} (h : At31 bs k a) (hc : bs[k]? = some c) (h0 : 48 ≤ c.toNat) (h1 : c.toNat ≤ 57) (hle : 2147483647 < a * 10 + ((c.toNat : Int) - 48)) : Lib.parseUintM 2147483647 0 bs = .range := by
  obtain ⟨m, rfl, h2, h3⟩ := h
  obtain ⟨hk, hg⟩ := List.getElem?_eq_some_iff.1 hc
  rw [h3, List.drop_eq_getElem_cons hk, hg, Lib.parseUintM, if_pos ⟨h0, h1⟩, if_neg (by omega), if_pos (by omega)]
theorem At31.odd {bs : List UInt8} {k : Nat} {a : Int} {c : UInt8} (h : At31 bs k a) (hc : bs[k]? = some c) (hd : ¬ (48 ≤ c.toNat ∧ c.toNat ≤ 57)) : Lib.parseUintM 2147483647 0 bs = Lib.NumEnd.syntax := by
  obtain ⟨m, rfl, h2, h3⟩ := h
  obtain ⟨hk, hg⟩ := List.getElem?_eq_some_iff.1 hc
  rw [h3, List.drop_eq_getElem_cons hk, hg, Lib.parseUintM, if_neg hd]
theorem At31.done {bs : List UInt8} {k : Nat} {a : Int} (h : At31 bs k a) (hk : bs.length ≤ k) : ∃ m : Nat, a = m ∧ Lib.parseUintM 2147483647 0 bs = .ok m := by
  obtain ⟨m, h1, h2, h3⟩ := h
  exact ⟨m, h1, by rw [h3, List.drop_eq_nil_of_le hk]; rfl⟩

set_option maxHeartbeats 32000000 in
set_option maxRecDepth 100000 in
/-- The inner function, at a string that is not empty. -/
theorem inner31 (L : LaysPu.n16 P ρ) (t : ByteArray) (hne : t.size ≠ 0) (hmax : t.size ≤ 9223372036854775806) (w : World) :
    Calls P (ρ.f 16) #[.string t, .int .i64 10, .int .i64 31] w fun e w' => e = .returned (Lib.uintTupleM (ρ.t 34) 2147483647 (Lib.parseUintM 2147483647 0 t.data.toList)) ∧ w' = Lib.bytesWorld w (ρ.t 5) t := by
  have mixed := L.mixed
  have t9 := L.t9; have a9 := L.a9; have z9 := L.z9; have v9 := L.v9
  have t3 := L.t3; have a3 := L.a3; have z3 := L.z3; have v3 := L.v3
  have t22 := L.t22; have a22 := L.a22; have z22 := L.z22; have v22 := L.v22
  have t24 := L.t24; have a24 := L.a24; have z24 := L.z24; have v24 := L.v24
  have t4 := L.t4; have a4 := L.a4; have z4 := L.z4; have v4 := L.v4
  have t34 := L.t34; have a34 := L.a34; have z34 := L.z34; have v34 := L.v34
  have t5 := L.t5; have a5 := L.a5; have z5 := L.z5; have v5 := L.v5
  have t36 := L.t36; have a36 := L.a36; have z36 := L.z36; have v36 := L.v36
  have t37 := L.t37; have a37 := L.a37; have z37 := L.z37; have v37 := L.v37
  have t0 := L.t0; have a0 := L.a0; have z0 := L.z0; have v0 := L.v0
  have e19 : ∀ args w, (callFunc (ρ.f 19) args).run P w = .ok (.enter (ρ.f 19) args) w := enters_of L.f19 (by kernel_rfl) rfl
  have hemp : t.toList.isEmpty = false := by
    rw [← decide_eq_emptyBytes]
    exact decide_eq_false (fun h => hne (by rw [h]; rfl))
  have hcv := Lib.run_convert_string_bytes (P := P) w (ρ.t 9) (ρ.t 37) (ρ.t 5) t (u := .string) L.t9 L.t37 L.t5
  have hB : ∀ j c, t.data.toList[j]? = some c → (Lib.bytesWorld w (ρ.t 5) t).cell? ⟨w.heap.size, j, none⟩ = some (.int .u8 (c : UInt8).toNat) := fun j c hj => by
    have h1 := Lib.bytesWorld_cell w (ρ.t 5) t j (by rw [Lib.size_eq]; exact (List.getElem?_eq_some_iff.1 hj).1)
    rw [List.getD_eq_getElem?_getD, hj] at h1
    exact h1
  have hLn : t.data.toList.length = t.size := by rw [Lib.size_eq]
  generalize Lib.bytesWorld w (ρ.t 5) t = W1 at *
  generalize t.data.toList = bs at *
  have hmv : IntKind.u64.wrap (IntKind.u64.wrap 2147483648 - 1) = 2147483647 := by
    rw [IntKind.wrap_u64, IntKind.wrap_u64]
    decide
  go_enter L.f16, BodyPu.n16_ntmps ρ
  go_wp2
  go_loop [12, 13, 101] (fun vu vn vi => ∃ (k : Nat) (a : Int), vu = .bool false ∧ vn = .int .u64 a ∧ vi = .int .i64 k ∧ k ≤ t.size ∧ Hid (At31 bs k a)) (fun _ _ vi => t.size - (intOf vi).toNat)
  case atStart => exact ⟨0, 0, rfl, rfl, rfl, by omega, at31_start bs⟩
  case round =>
    obtain ⟨k, a, rfl, rfl, rfl, hk, hh⟩ := hrel
    obtain ⟨a0, a1⟩ := hh.out.le
    by_cases hkn : k < t.size
    · obtain ⟨c, hget⟩ : ∃ c, bs[k]? = some c := ⟨_, List.getElem?_eq_getElem (by omega)⟩
      have hc := hB k c hget
      have hc256 : c.toNat < 256 := c.toNat_lt
      have HG := Lib.hid hget
      clear hB hget
      by_cases hdig : 48 ≤ c.toNat ∧ c.toNat ≤ 57
      · obtain ⟨hd0, hd1⟩ := hdig
        by_cases iov : 2147483647 < a * 10 + ((c.toNat : Int) - 48)
        · have hF := Lib.hid (hh.out.over HG.out hd0 hd1 iov)
          clear hh
          go_wp2
          go_ret2
          exact ⟨by rw [hF.out]; rfl, rfl⟩
        · have hN := Lib.hid (hh.out.next HG.out hd0 hd1 (by omega))
          have iov2 : a * 10 + ((c.toNat : Int) - 48) ≤ 2147483647 := by omega
          clear hh iov
          go_wp2
          refine ⟨⟨k + 1, a * 10 + ((c.toNat : Int) - 48), rfl, (by first | rfl | (congr 1; omega)), (by first | rfl | (congr 1; omega)), by omega, hN⟩, by simp [intOf]; omega⟩
      · have hF := Lib.hid (hh.out.odd HG.out hdig)
        clear hh
        have hv0 := bits_lo_u8 .or (c.toNat : Int) 32
        have hv1 := bits_hi_u8 .or (c.toNat : Int) 32
        have hu0 := bits_lo_u8 .or 95 32
        have hu1 := bits_hi_u8 .or 95 32
        go_wp2_with (go_at_fn (ρ.f 19); refine (AnyPu.internal_strconv_lower { L with } _ _).mono ?_; rintro e w' ⟨rfl, rfl⟩)
        all_goals go_ret2
        all_goals exact ⟨by rw [hF.out]; rfl, rfl⟩
    · obtain ⟨m, hm, hF⟩ := hh.out.done (by omega)
      have HF := Lib.hid hF
      have hkk : k = t.size := by omega
      subst hkk hm
      clear hh hF
      go_wp2
      go_ret2
      exact ⟨by rw [HF.out]; rfl, rfl⟩

/-- The inner function, at any string. -/
theorem at31 (L : LaysPu.n16 P ρ) (t : ByteArray) (hmax : t.size ≤ 9223372036854775806) (w : World) :
    Calls P (ρ.f 16) #[.string t, .int .i64 10, .int .i64 31] w fun e w' => e = .returned (Lib.uintTupleM (ρ.t 34) 2147483647 (Lib.parseUintB 31 t.data.toList)) ∧ (w' = w ∨ w' = Lib.bytesWorld w (ρ.t 5) t) := by
  by_cases h0 : t.size = 0
  · have ht : t = ⟨#[]⟩ := ByteArray.ext (Array.eq_empty_of_size_eq_zero h0)
    subst ht
    exact (AnyPu.internal_strconv_ParseUint_empty { L with } 10 31 w).mono fun e w' ⟨he, hw⟩ => ⟨he, Or.inl hw⟩
  · have hne : t.data.toList ≠ [] := fun h => h0 (by rw [Lib.size_eq, h]; rfl)
    refine (inner31 L t h0 hmax w).mono fun e w' ⟨he, hw⟩ => ⟨?_, Or.inr hw⟩
    rw [he, Lib.parseUintB, if_neg hne]

set_option maxHeartbeats 4000000 in
set_option maxRecDepth 100000 in
/-- A string that spells a number of 31 bits. -/
theorem parse31_ok (L : LaysPu.n14 P ρ) (s : ByteArray) (hmax : s.size ≤ 9223372036854775806) (u : Nat) (h : Lib.parseUintB 31 s.data.toList = .ok u) (w : World) :
    Calls P (ρ.f 14) #[.string s, .int .i64 10, .int .i64 31] w fun e w' => e = .returned (.tuple #[.int .u64 u, .nilIface]) ∧ Below w.heap.size w w' := by
  have mixed := L.mixed
  have t9 := L.t9; have a9 := L.a9; have z9 := L.z9; have v9 := L.v9
  have t3 := L.t3; have a3 := L.a3; have z3 := L.z3; have v3 := L.v3
  have t22 := L.t22; have a22 := L.a22; have z22 := L.z22; have v22 := L.v22
  have t24 := L.t24; have a24 := L.a24; have z24 := L.z24; have v24 := L.v24
  have t25 := L.t25; have a25 := L.a25; have z25 := L.z25; have v25 := L.v25
  have t4 := L.t4; have a4 := L.a4; have z4 := L.z4; have v4 := L.v4
  have e16 : ∀ args w, (callFunc (ρ.f 16) args).run P w = .ok (.enter (ρ.f 16) args) w := enters_of L.f16 (by kernel_rfl) rfl
  have hI : Calls P (ρ.f 16) #[.string s, .int .i64 10, .int .i64 31] w fun e w' => e = .returned (.tuple #[.int .u64 u, .nilIface]) ∧ Below w.heap.size w w' := by
    refine (at31 { L with } s hmax w).mono fun e w' ⟨he, hw⟩ => ⟨by rw [he, h]; rfl, ?_⟩
    rcases hw with rfl | rfl
    · exact Below.refl _ _
    · exact Lib.bytesWorld_below _ _ _
  clear h
  go_enter L.f14, BodyPu.n14_ntmps ρ
  go_wp2_with (go_at_fn (ρ.f 16); refine hI.mono ?_; rintro e W1 ⟨rfl, hW⟩)
  go_wp2
  go_ret2
  exact ⟨rfl, hW⟩

set_option maxHeartbeats 4000000 in
set_option maxRecDepth 100000 in
/-- Any other string. -/
theorem parse31_no (L : LaysPu.n14 P ρ) (s : ByteArray) (hlim : s.size ≤ 281474976710656) (h : ∀ u, Lib.parseUintB 31 s.data.toList ≠ .ok u) (te0 te1 : TypeId) (pe0 pe1 : Value) (w : World) (hv : w.cell? ⟨(ρ.g 0), 0, none⟩ = some (.iface te0 pe0)) (hr : w.cell? ⟨(ρ.g 1), 0, none⟩ = some (.iface te1 pe1)) :
    Calls P (ρ.f 14) #[.string s, .int .i64 10, .int .i64 31] w fun e w' => (∃ (x : Int) (tq : TypeId) (vq : Value), e = .returned (.tuple #[.int .u64 x, .iface tq vq]) ∧ 0 ≤ x ∧ x < 2147483648) ∧ Below w.heap.size w w' := by
  have mixed := L.mixed
  have t9 := L.t9; have a9 := L.a9; have z9 := L.z9; have v9 := L.v9
  have t3 := L.t3; have a3 := L.a3; have z3 := L.z3; have v3 := L.v3
  have t22 := L.t22; have a22 := L.a22; have z22 := L.z22; have v22 := L.v22
  have t24 := L.t24; have a24 := L.a24; have z24 := L.z24; have v24 := L.v24
  have t25 := L.t25; have a25 := L.a25; have z25 := L.z25; have v25 := L.v25
  have t4 := L.t4; have a4 := L.a4; have z4 := L.z4; have v4 := L.v4
  have e16 : ∀ args w, (callFunc (ρ.f 16) args).run P w = .ok (.enter (ρ.f 16) args) w := enters_of L.f16 (by kernel_rfl) rfl
  have e17 : ∀ args w, (callFunc (ρ.f 17) args).run P w = .ok (.enter (ρ.f 17) args) w := enters_of L.f17 (by kernel_rfl) rfl
  have hG0 : (ρ.g 0) < w.heap.size := Lib.lt_of_cell hv
  have hG1 : (ρ.g 1) < w.heap.size := Lib.lt_of_cell hr
  have hI := at31 { L with } s (by omega) w
  cases hp : Lib.parseUintB 31 s.data.toList with
  | ok u => exact absurd hp (h u)
  | range =>
    rw [hp] at hI
    have hI : Calls P (ρ.f 16) #[.string s, .int .i64 10, .int .i64 31] w fun e w' => e = .returned (.tuple #[.int .u64 2147483647, .iface (ρ.t 34) (.int .i64 1)]) ∧ (w' = w ∨ w' = Lib.bytesWorld w (ρ.t 5) s) := hI
    clear h hp
    go_enter L.f14, BodyPu.n14_ntmps ρ
    go_wp2_with (go_at_fn (ρ.f 16); refine hI.mono ?_)
    rintro e W1 ⟨rfl, hW⟩
    have hb1 : Below w.heap.size w W1 := by
      rcases hW with rfl | rfl
      · exact Below.refl _ _
      · exact Lib.bytesWorld_below _ _ _
    have hv1 : W1.cell? ⟨(ρ.g 1), 0, none⟩ = some (.iface te1 pe1) := (hb1.cell (show (⟨(ρ.g 1), 0, none⟩ : Addr).block < w.heap.size from hG1)).trans hr
    clear hW hv hr
    go_wp2_with (go_at_fn (ρ.f 17); refine (AnyPu.strconv_toError_range { L with } ⟨#[80, 97, 114, 115, 101, 85, 105, 110, 116]⟩ s 10 31 (.iface te1 pe1) _ hlim ?_ (Or.inr ⟨_, _, rfl⟩)).mono ?_)
    · exact hv1
    rintro e W2 ⟨N, rfl, h1, h2, h3⟩
    go_wp2
    go_ret2
    exact ⟨⟨_, _, _, rfl, by omega, by omega⟩, hb1.trans (h3.mono hb1.size)⟩
  | _ =>
    rw [hp] at hI
    have hI : Calls P (ρ.f 16) #[.string s, .int .i64 10, .int .i64 31] w fun e w' => e = .returned (.tuple #[.int .u64 0, .iface (ρ.t 34) (.int .i64 2)]) ∧ (w' = w ∨ w' = Lib.bytesWorld w (ρ.t 5) s) := hI
    clear h hp
    go_enter L.f14, BodyPu.n14_ntmps ρ
    go_wp2_with (go_at_fn (ρ.f 16); refine hI.mono ?_)
    rintro e W1 ⟨rfl, hW⟩
    have hb1 : Below w.heap.size w W1 := by
      rcases hW with rfl | rfl
      · exact Below.refl _ _
      · exact Lib.bytesWorld_below _ _ _
    have hv1 : W1.cell? ⟨(ρ.g 0), 0, none⟩ = some (.iface te0 pe0) := (hb1.cell (show (⟨(ρ.g 0), 0, none⟩ : Addr).block < w.heap.size from hG0)).trans hv
    clear hW hv hr
    go_wp2_with (go_at_fn (ρ.f 17); refine (AnyPu.strconv_toError_syntax { L with } ⟨#[80, 97, 114, 115, 101, 85, 105, 110, 116]⟩ s 10 31 (.iface te0 pe0) _ hlim ?_ (Or.inr ⟨_, _, rfl⟩)).mono ?_)
    · exact hv1
    rintro e W2 ⟨N, rfl, h1, h2, h3⟩
    go_wp2
    go_ret2
    exact ⟨⟨_, _, _, rfl, by omega, by omega⟩, hb1.trans (h3.mono hb1.size)⟩
end Go.Proofs.YtlhafehhkjjchaaGreatDoor

/-
  The walk of routes.name, and of routes.number.
-/
namespace Go.Proofs.YtlhafehhkjjchaaGreatDoor
open Go Go.RowKit Go.Lib Go.Sort

theorem name_bad {l : List UInt8} {i : Nat} {c : UInt8} (h : l[i]? = some c) (h1 : letB c = false) (h2 : i = 0 ∨ restB c = false) : nameB l = false := by
  cases l with
  | nil => rfl
  | cons b r =>
    cases hb : nameB (b :: r) with
    | false => rfl
    | true =>
      simp only [nameB, Bool.and_eq_true, List.all_eq_true, decide_eq_true_eq] at hb
      cases i with
      | zero =>
        simp only [List.getElem?_cons_zero, Option.some.injEq] at h
        subst h
        rw [h1] at hb
        exact absurd hb.1.2 (by decide)
      | succ i =>
        have hm := List.mem_of_getElem? (by simpa using h : r[i]? = some c)
        have := hb.2 c hm
        rcases h2 with h2 | h2
        · exact absurd h2 (by omega)
        · rw [h1, h2] at this
          exact absurd this (by decide)
theorem name_long {l : List UInt8} (h : 32 < l.length) : nameB l = false := by
  cases l with
  | nil => rfl
  | cons b r =>
    simp only [nameB]
    rw [decide_eq_false (by omega)]
    rfl
theorem name_good {l : List UInt8} (h0 : l ≠ []) (h1 : l.length ≤ 32) (h2 : ∀ (i : Nat) (c : UInt8), l[i]? = some c → letB c = true ∨ (i ≠ 0 ∧ restB c = true)) : nameB l = true := by
  cases l with
  | nil => exact absurd rfl h0
  | cons b r =>
    simp only [nameB, Bool.and_eq_true, List.all_eq_true, decide_eq_true_eq, Bool.or_eq_true]
    refine ⟨⟨h1, ?_⟩, fun x hx => ?_⟩
    · rcases h2 0 b rfl with h | h
      · exact h
      · exact absurd rfl h.1
    · obtain ⟨i, hi⟩ := List.getElem?_of_mem hx
      rcases h2 (i + 1) x (by simpa using hi) with h | h
      · exact Or.inl h
      · exact Or.inr h.2
set_option maxRecDepth 100000 in
/-- The four signs, as the program looks for them. -/
theorem dots (c : UInt8) : Lib.contains [45, 95, 46, 47] (Utf8.encode (c.toNat : Int)).data.toList = (decide (c.toNat = 45) || decide (c.toNat = 95) || decide (c.toNat = 46) || decide (c.toNat = 47)) := by
  have h : (List.range 256).all (fun n => Lib.contains [45, 95, 46, 47] (Utf8.encode (n : Int)).data.toList == (decide (n = 45) || decide (n = 95) || decide (n = 46) || decide (n = 47))) = true := by kernel_rfl
  exact beq_iff_eq.1 (List.all_eq_true.1 h c.toNat (List.mem_range.2 c.toNat_lt))
theorem letB_yes1 {c : UInt8} (h0 : 97 ≤ c.toNat) (h1 : c.toNat ≤ 122) : letB c = true := by simp [letB, h0, h1]
theorem letB_yes2 {c : UInt8} (h0 : 65 ≤ c.toNat) (h1 : c.toNat ≤ 90) : letB c = true := by simp [letB, h0, h1]
theorem letB_no {c : UInt8} (h0 : ¬ (97 ≤ c.toNat ∧ c.toNat ≤ 122)) (h1 : ¬ (65 ≤ c.toNat ∧ c.toNat ≤ 90)) : letB c = false := by
  simp only [letB, Bool.or_eq_false_iff, Bool.and_eq_false_iff, decide_eq_false_iff_not]
  omega
theorem restB_dig {c : UInt8} (h0 : 48 ≤ c.toNat) (h1 : c.toNat ≤ 57) : restB c = true := by simp [restB, h0, h1]
theorem restB_dot {c : UInt8} (h0 : ¬ (48 ≤ c.toNat ∧ c.toNat ≤ 57)) : restB c = (decide (c.toNat = 45) || decide (c.toNat = 95) || decide (c.toNat = 46) || decide (c.toNat = 47)) := by
  have : (decide (48 ≤ c.toNat) && decide (c.toNat ≤ 57)) = false := by
    simp only [Bool.and_eq_false_iff, decide_eq_false_iff_not]; omega
  rw [restB, this, Bool.false_or]
theorem belowBytes (w : World) (e : TypeId) (s : ByteArray) : Below w.heap.size w (Go.Lib.bytesWorld w e s) := ⟨rfl, rfl, rfl, by rw [Go.Lib.bytesWorld_size]; omega, fun k hk => Go.Lib.bytesWorld_at_old w e s k hk⟩

set_option maxRecDepth 100000 in
set_option maxHeartbeats 8000000 in
theorem name_any (l : List UInt8) : NameC l := by
  intro w hE
  obtain ⟨m, hm⟩ := hE.len
  by_cases h0 : l = []
  · subst h0
    go_enter Tryz.func26, Tryz.ntmps26
    go_wp2
    go_ret
    exact ⟨rfl, Below.refl _ _⟩
  have hsz : (⟨l.toArray⟩ : ByteArray).size = l.length := by show l.toArray.size = _; simp
  have hemp : ((⟨l.toArray⟩ : ByteArray).toList.isEmpty) = false := by
    rw [← decide_eq_emptyBytes]
    exact decide_eq_false (fun h => h0 (by have := congrArg (·.data.toList) h; simpa using this))
  by_cases h32 : 32 < l.length
  · have hI : ((⟨l.toArray⟩ : ByteArray).size : Int) > 32 := by omega
    have hn := Lib.hid (name_long h32)
    go_enter Tryz.func26, Tryz.ntmps26
    go_wp2
    go_ret
    exact ⟨by rw [hn.out]; rfl, Below.refl _ _⟩
  have hI : ¬ ((⟨l.toArray⟩ : ByteArray).size : Int) > 32 := by omega
  have hcv := Go.Lib.run_convert_string_bytes (P := Tryz.prog) w 9 79 5 ⟨l.toArray⟩ Tryz.underlying9 Tryz.underlying79 Tryz.underlying5
  have hc : ∀ (j : Nat) (c : UInt8), l[j]? = some c → (Go.Lib.bytesWorld w 5 ⟨l.toArray⟩).cell? ⟨w.heap.size, j, none⟩ = some (.int .u8 c.toNat) := fun j c hj => by
    have h1 := Go.Lib.bytesWorld_cell w 5 ⟨l.toArray⟩ j (by rw [hsz]; exact (List.getElem?_eq_some_iff.1 hj).1)
    rw [List.getD_eq_getElem?_getD] at h1
    simp only [hj, Option.getD_some] at h1
    exact h1
  have hb := belowBytes w 5 ⟨l.toArray⟩
  have hmW := cell_kept hb hm
  have HC := Lib.hid hc
  clear hc hm
  generalize Go.Lib.bytesWorld w 5 ⟨l.toArray⟩ = W at *
  generalize grownCap w (⟨l.toArray⟩ : ByteArray).size 0 5 = gc at *
  generalize (⟨l.toArray⟩ : ByteArray) = s at *
  go_enter Tryz.func26, Tryz.ntmps26
  go_wp2
  go_loop [3, 4, 5, 16] (fun _ _ _ v => ∃ k : Nat, v = .int .i64 k ∧ k ≤ l.length ∧ Hid (∀ (i : Nat) (c : UInt8), i < k → l[i]? = some c → letB c = true ∨ (i ≠ 0 ∧ restB c = true))) (fun _ _ _ v => l.length - (intOf v).toNat)
  case atStart => exact ⟨0, rfl, by omega, fun i c hi => absurd hi (by omega)⟩
  case round =>
    obtain ⟨k, rfl, hk, hok⟩ := hrel
    by_cases hlt : k < l.length
    · have hI : (k : Int) < (s.size : Int) := by omega
      have hk2 : k < s.size := by omega
      obtain ⟨c, hget⟩ : ∃ c, l[k]? = some c := ⟨_, List.getElem?_eq_getElem hlt⟩
      have hcell := HC.out k c hget
      have HG := Lib.hid hget
      have hnext : ∀ k' : Nat, k' = k + 1 → (letB c = true ∨ (k ≠ 0 ∧ restB c = true)) → Hid (∀ (i : Nat) (c : UInt8), i < k' → l[i]? = some c → letB c = true ∨ (i ≠ 0 ∧ restB c = true)) := by
        rintro _ rfl h i d hi hd
        by_cases hik : i = k
        · subst hik
          rw [HG.out] at hd
          injection hd with hd
          rw [← hd]; exact h
        · exact hok.out i d (by omega) hd
      have HN := Lib.hid hnext
      have HD := Lib.hid (dots c)
      clear hnext hget hok
      have hcls : ((97 : Int) ≤ (c.toNat : Int) ∧ (c.toNat : Int) ≤ (122 : Int)) ∨ (¬ (97 : Int) ≤ (c.toNat : Int) ∧ (65 : Int) ≤ (c.toNat : Int) ∧ (c.toNat : Int) ≤ (90 : Int)) ∨ (¬ (97 : Int) ≤ (c.toNat : Int) ∧ ¬ (65 : Int) ≤ (c.toNat : Int) ∧ ¬ (48 : Int) ≤ (c.toNat : Int)) ∨ (¬ (97 : Int) ≤ (c.toNat : Int) ∧ ¬ (65 : Int) ≤ (c.toNat : Int) ∧ (48 : Int) ≤ (c.toNat : Int) ∧ (c.toNat : Int) ≤ (57 : Int)) ∨ (¬ (97 : Int) ≤ (c.toNat : Int) ∧ ¬ (65 : Int) ≤ (c.toNat : Int) ∧ (48 : Int) ≤ (c.toNat : Int) ∧ ¬ (c.toNat : Int) ≤ (57 : Int)) ∨ (¬ (97 : Int) ≤ (c.toNat : Int) ∧ (65 : Int) ≤ (c.toNat : Int) ∧ ¬ (c.toNat : Int) ≤ (90 : Int) ∧ (48 : Int) ≤ (c.toNat : Int) ∧ ¬ (c.toNat : Int) ≤ (57 : Int)) ∨ ((97 : Int) ≤ (c.toNat : Int) ∧ ¬ (c.toNat : Int) ≤ (122 : Int) ∧ (65 : Int) ≤ (c.toNat : Int) ∧ ¬ (c.toNat : Int) ≤ (90 : Int) ∧ (48 : Int) ≤ (c.toNat : Int) ∧ ¬ (c.toNat : Int) ≤ (57 : Int)) := by omega
      have hkc : k = 0 ∨ ¬ (k : Int) = 0 := by omega
      rcases hcls with ⟨q0, q1⟩ | ⟨q0, q1, q2⟩ | ⟨q0, q1, q2⟩ | ⟨q0, q1, q2, q3⟩ | ⟨q0, q1, q2, q3⟩ | ⟨q0, q1, q2, q3, q4⟩ | ⟨q0, q1, q2, q3, q4, q5⟩
      · have HR := Lib.hid (HN.out _ rfl (Or.inl (letB_yes1 (by omega) (by omega))))
        clear HN HD
        go_wp2
        exact ⟨⟨k + 1, by go_num, by omega, HR.out⟩, by simp only [intOf]; omega⟩
      · have HR := Lib.hid (HN.out _ rfl (Or.inl (letB_yes2 (by omega) (by omega))))
        clear HN HD
        go_wp2
        exact ⟨⟨k + 1, by go_num, by omega, HR.out⟩, by simp only [intOf]; omega⟩
      · have hno := letB_no (c := c) (by omega) (by omega)
        rcases hkc with rfl | hk0
        · have hn := Lib.hid (name_bad HG.out hno (Or.inl rfl))
          clear HN HD hno
          go_wp2
          go_ret
          exact ⟨by rw [hn.out]; rfl, hb⟩
        · have hd := restB_dot (c := c) (by omega)
          rw [← HD.out] at hd
          have hC := Tryz.strings_Contains ⟨#[45, 95, 46, 47]⟩ (Utf8.encode (c.toNat : Int)) m W (by decide) hmW
          cases hr : restB c with
          | true =>
            have HR := Lib.hid (HN.out _ rfl (Or.inr ⟨by omega, hr⟩))
            rw [hr] at hd
            have hC2 : Calls Tryz.prog 47 #[.string ⟨#[45, 95, 46, 47]⟩, .string (Utf8.encode (c.toNat : Int))] W fun e w' => e = .returned (.bool true) ∧ w' = W := hC.mono fun e w' h => ⟨by rw [h.1]; exact congrArg (fun b => Ending.returned (.bool b)) hd.symm, h.2⟩
            have HC2 := Lib.hid hC2
            clear HN HD hno hd hr hC hC2
            go_wp2_with (go_at_call 47; refine HC2.out.mono ?_; rintro e w' ⟨rfl, rfl⟩)
            exact ⟨⟨k + 1, by go_num, by omega, HR.out⟩, by simp only [intOf]; omega⟩
          | false =>
            have hn := Lib.hid (name_bad HG.out hno (Or.inr hr))
            rw [hr] at hd
            have hC2 : Calls Tryz.prog 47 #[.string ⟨#[45, 95, 46, 47]⟩, .string (Utf8.encode (c.toNat : Int))] W fun e w' => e = .returned (.bool false) ∧ w' = W := hC.mono fun e w' h => ⟨by rw [h.1]; exact congrArg (fun b => Ending.returned (.bool b)) hd.symm, h.2⟩
            have HC2 := Lib.hid hC2
            clear HN HD hno hd hr hC hC2
            go_wp2_with (go_at_call 47; refine HC2.out.mono ?_; rintro e w' ⟨rfl, rfl⟩)
            go_ret
            exact ⟨by rw [hn.out]; rfl, hb⟩
      · have hno := letB_no (c := c) (by omega) (by omega)
        rcases hkc with rfl | hk0
        · have hn := Lib.hid (name_bad HG.out hno (Or.inl rfl))
          clear HN HD hno
          go_wp2
          go_ret
          exact ⟨by rw [hn.out]; rfl, hb⟩
        · have HR := Lib.hid (HN.out _ rfl (Or.inr ⟨by omega, restB_dig (by omega) (by omega)⟩))
          clear HN HD hno
          go_wp2
          exact ⟨⟨k + 1, by go_num, by omega, HR.out⟩, by simp only [intOf]; omega⟩
      · have hno := letB_no (c := c) (by omega) (by omega)
        rcases hkc with rfl | hk0
        · have hn := Lib.hid (name_bad HG.out hno (Or.inl rfl))
          clear HN HD hno
          go_wp2
          go_ret
          exact ⟨by rw [hn.out]; rfl, hb⟩
        · have hd := restB_dot (c := c) (by omega)
          rw [← HD.out] at hd
          have hC := Tryz.strings_Contains ⟨#[45, 95, 46, 47]⟩ (Utf8.encode (c.toNat : Int)) m W (by decide) hmW
          cases hr : restB c with
          | true =>
            have HR := Lib.hid (HN.out _ rfl (Or.inr ⟨by omega, hr⟩))
            rw [hr] at hd
            have hC2 : Calls Tryz.prog 47 #[.string ⟨#[45, 95, 46, 47]⟩, .string (Utf8.encode (c.toNat : Int))] W fun e w' => e = .returned (.bool true) ∧ w' = W := hC.mono fun e w' h => ⟨by rw [h.1]; exact congrArg (fun b => Ending.returned (.bool b)) hd.symm, h.2⟩
            have HC2 := Lib.hid hC2
            clear HN HD hno hd hr hC hC2
            go_wp2_with (go_at_call 47; refine HC2.out.mono ?_; rintro e w' ⟨rfl, rfl⟩)
            exact ⟨⟨k + 1, by go_num, by omega, HR.out⟩, by simp only [intOf]; omega⟩
          | false =>
            have hn := Lib.hid (name_bad HG.out hno (Or.inr hr))
            rw [hr] at hd
            have hC2 : Calls Tryz.prog 47 #[.string ⟨#[45, 95, 46, 47]⟩, .string (Utf8.encode (c.toNat : Int))] W fun e w' => e = .returned (.bool false) ∧ w' = W := hC.mono fun e w' h => ⟨by rw [h.1]; exact congrArg (fun b => Ending.returned (.bool b)) hd.symm, h.2⟩
            have HC2 := Lib.hid hC2
            clear HN HD hno hd hr hC hC2
            go_wp2_with (go_at_call 47; refine HC2.out.mono ?_; rintro e w' ⟨rfl, rfl⟩)
            go_ret
            exact ⟨by rw [hn.out]; rfl, hb⟩
      · have hno := letB_no (c := c) (by omega) (by omega)
        rcases hkc with rfl | hk0
        · have hn := Lib.hid (name_bad HG.out hno (Or.inl rfl))
          clear HN HD hno
          go_wp2
          go_ret
          exact ⟨by rw [hn.out]; rfl, hb⟩
        · have hd := restB_dot (c := c) (by omega)
          rw [← HD.out] at hd
          have hC := Tryz.strings_Contains ⟨#[45, 95, 46, 47]⟩ (Utf8.encode (c.toNat : Int)) m W (by decide) hmW
          cases hr : restB c with
          | true =>
            have HR := Lib.hid (HN.out _ rfl (Or.inr ⟨by omega, hr⟩))
            rw [hr] at hd
            have hC2 : Calls Tryz.prog 47 #[.string ⟨#[45, 95, 46, 47]⟩, .string (Utf8.encode (c.toNat : Int))] W fun e w' => e = .returned (.bool true) ∧ w' = W := hC.mono fun e w' h => ⟨by rw [h.1]; exact congrArg (fun b => Ending.returned (.bool b)) hd.symm, h.2⟩
            have HC2 := Lib.hid hC2
            clear HN HD hno hd hr hC hC2
            go_wp2_with (go_at_call 47; refine HC2.out.mono ?_; rintro e w' ⟨rfl, rfl⟩)
            exact ⟨⟨k + 1, by go_num, by omega, HR.out⟩, by simp only [intOf]; omega⟩
          | false =>
            have hn := Lib.hid (name_bad HG.out hno (Or.inr hr))
            rw [hr] at hd
            have hC2 : Calls Tryz.prog 47 #[.string ⟨#[45, 95, 46, 47]⟩, .string (Utf8.encode (c.toNat : Int))] W fun e w' => e = .returned (.bool false) ∧ w' = W := hC.mono fun e w' h => ⟨by rw [h.1]; exact congrArg (fun b => Ending.returned (.bool b)) hd.symm, h.2⟩
            have HC2 := Lib.hid hC2
            clear HN HD hno hd hr hC hC2
            go_wp2_with (go_at_call 47; refine HC2.out.mono ?_; rintro e w' ⟨rfl, rfl⟩)
            go_ret
            exact ⟨by rw [hn.out]; rfl, hb⟩
      · have hno := letB_no (c := c) (by omega) (by omega)
        rcases hkc with rfl | hk0
        · have hn := Lib.hid (name_bad HG.out hno (Or.inl rfl))
          clear HN HD hno
          go_wp2
          go_ret
          exact ⟨by rw [hn.out]; rfl, hb⟩
        · have hd := restB_dot (c := c) (by omega)
          rw [← HD.out] at hd
          have hC := Tryz.strings_Contains ⟨#[45, 95, 46, 47]⟩ (Utf8.encode (c.toNat : Int)) m W (by decide) hmW
          cases hr : restB c with
          | true =>
            have HR := Lib.hid (HN.out _ rfl (Or.inr ⟨by omega, hr⟩))
            rw [hr] at hd
            have hC2 : Calls Tryz.prog 47 #[.string ⟨#[45, 95, 46, 47]⟩, .string (Utf8.encode (c.toNat : Int))] W fun e w' => e = .returned (.bool true) ∧ w' = W := hC.mono fun e w' h => ⟨by rw [h.1]; exact congrArg (fun b => Ending.returned (.bool b)) hd.symm, h.2⟩
            have HC2 := Lib.hid hC2
            clear HN HD hno hd hr hC hC2
            go_wp2_with (go_at_call 47; refine HC2.out.mono ?_; rintro e w' ⟨rfl, rfl⟩)
            exact ⟨⟨k + 1, by go_num, by omega, HR.out⟩, by simp only [intOf]; omega⟩
          | false =>
            have hn := Lib.hid (name_bad HG.out hno (Or.inr hr))
            rw [hr] at hd
            have hC2 : Calls Tryz.prog 47 #[.string ⟨#[45, 95, 46, 47]⟩, .string (Utf8.encode (c.toNat : Int))] W fun e w' => e = .returned (.bool false) ∧ w' = W := hC.mono fun e w' h => ⟨by rw [h.1]; exact congrArg (fun b => Ending.returned (.bool b)) hd.symm, h.2⟩
            have HC2 := Lib.hid hC2
            clear HN HD hno hd hr hC hC2
            go_wp2_with (go_at_call 47; refine HC2.out.mono ?_; rintro e w' ⟨rfl, rfl⟩)
            go_ret
            exact ⟨by rw [hn.out]; rfl, hb⟩
    · have hI : ¬ (k : Int) < (s.size : Int) := by omega
      have hn := Lib.hid (name_good h0 (by omega) (fun i c hi => hok.out i c (by have := (List.getElem?_eq_some_iff.1 hi).1; omega) hi))
      go_wp2
      go_ret
      exact ⟨by rw [hn.out]; rfl, hb⟩
end Go.Proofs.YtlhafehhkjjchaaGreatDoor

/-
  The route that the document reads of a text's words: plain laws; no walk.
-/
namespace Go.Proofs.YtlhafehhkjjchaaGreatDoor
open Go Go.RowKit Go.Sort

/-- The document's number of a word: digits, at most eleven. -/
def num08 (w : List UInt8) : Int := if w = [] ∨ w.all isDig = false ∨ 11 < w.length then -1 else (valD 0 w : Nat)
theorem num08_bad {l : List UInt8} {i : Nat} {c : UInt8} (h : l[i]? = some c) (hc : isDig c = false) : num08 l = -1 := by
  unfold num08
  rw [if_pos (Or.inr (Or.inl ?_))]
  cases e : l.all isDig with
  | false => rfl
  | true => have := List.all_eq_true.1 e c (List.mem_of_getElem? h); rw [hc] at this; cases this
theorem num08_long {l : List UInt8} (h : 11 < l.length) : num08 l = -1 := by unfold num08; rw [if_pos (Or.inr (Or.inr h))]
theorem num08_nil : num08 [] = -1 := rfl
theorem num08_good {l : List UInt8} (h0 : l ≠ []) (h1 : l.all isDig = true) (h2 : ¬ 11 < l.length) : num08 l = (valD 0 l : Nat) := by
  unfold num08
  rw [if_neg]
  rintro (h | h | h)
  · exact h0 h
  · rw [h1] at h; cases h
  · exact h2 h
theorem num08_dec {n : Int} (h0 : 0 ≤ n) (h1 : n ≤ 2147483647) : num08 (Lib.decDigits n.toNat) = n := by
  rw [num08_good (decDigits_ne_nil _) (decDigits_all _), decDigits_val]
  · omega
  · intro h
    have := dec_long 9 n.toNat (by omega)
    omega
theorem num08_lt (w : List UInt8) : -1 ≤ num08 w ∧ num08 w < 100000000000 := by
  unfold num08
  split
  · omega
  · rename_i h
    have h1 : w.all isDig = true := by
      cases e : w.all isDig with
      | true => rfl
      | false => exact absurd (Or.inr (Or.inl e)) h
    have h2 : ¬ 11 < w.length := fun e => h (Or.inr (Or.inr e))
    have := valD_lt 11 w (by omega) h1
    omega
/-- What the document reads of the words behind the first five. -/
def scanD : Bool → List (List UInt8) → Int × List UInt8 × Bool → Int × List UInt8 × Bool
  | _, [], st => st
  | _, [x], st => if x = discW then (st.1, st.2.1, true) else st
  | b, x :: y :: t, st => if x = viaW ∧ b = true then scanD false t (adV (parseB y), st.2) else if x = onW then scanD false t (st.1, y, st.2.2) else if x = discW then scanD false (y :: t) (st.1, st.2.1, true) else scanD false (y :: t) st
def restD (w : List (List UInt8)) : Int × List UInt8 × Bool := scanD true w (0, [], false)
theorem scanD_lt : ∀ (b : Bool) (w : List (List UInt8)) (st : Int × List UInt8 × Bool), 0 ≤ st.1 ∧ st.1 < 4294967296 → 0 ≤ (scanD b w st).1 ∧ (scanD b w st).1 < 4294967296
  | _, [], st, h => h
  | _, [x], st, h => by unfold scanD; split <;> exact h
  | b, x :: y :: t, st, h => by
    rw [scanD]
    split
    · exact scanD_lt _ _ _ (adV_lt y)
    · split
      · exact scanD_lt _ _ _ h
      · split
        · exact scanD_lt _ _ _ h
        · exact scanD_lt _ _ _ h
theorem restD_lt (w : List (List UInt8)) : 0 ≤ (restD w).1 ∧ (restD w).1 < 4294967296 := scanD_lt _ _ _ (by simp)
theorem restD_words {r : RtV} (h : r.ok = true) : restD (r.hopW ++ (r.nmW ++ r.dcW)) = (r.ho, r.nm, r.dc) := by
  obtain ⟨_, _, _, _, _, _, h7, h8⟩ := rt_ok h
  have hh := r.hho
  have e := adV_text hh.1 hh.2
  have k1 : onW ≠ viaW := by decide
  have k2 : discW ≠ viaW := by decide
  have k3 : discW ≠ onW := by decide
  unfold RtV.hopW RtV.nmW RtV.dcW
  by_cases h0 : r.ho = 0 <;> by_cases hn : r.nm = [] <;> cases hd : r.dc <;> simp_all [restD, scanD]
/-- The route that the document reads of the words. -/
def candQ (w0 w1 w2 w3 w4 : List UInt8) (rest : List (List UInt8)) : RtV where
  a := ppA w0
  m := ppN w0
  fr := fromI w1
  di := num08 w2
  me := num08 w3
  ta := num08 w4
  nm := (restD rest).2.1
  ho := (restD rest).1
  dc := (restD rest).2.2
  ha := ppA_lt w0
  hm := by have := ppN_range w0; omega
  hfr := by have := fromI_lt w1; omega
  hdi := by have := num08_lt w2; omega
  hme := by have := num08_lt w3; omega
  hta := by have := num08_lt w4; omega
  hho := restD_lt rest
theorem candQ_words {r : RtV} (h : r.ok = true) : candQ (prefT r.a r.m) (fromW r.fr) (Lib.decDigits r.di.toNat) (Lib.decDigits r.me.toNat) (Lib.decDigits r.ta.toNat) (r.hopW ++ (r.nmW ++ r.dcW)) = r := by
  obtain ⟨h1, h2, h3, h4, h5, h6, h7, h8⟩ := rt_ok h
  have a1 := ppO_T r.ha.1 r.ha.2 h1
  have a2 := restD_words h
  refine rt_ext a1.1 a1.2.1 (fromI_W h2 h3) (num08_dec h4.1 h4.2) (num08_dec h5.1 h5.2) (num08_dec h6.1 h6.2) ?_ ?_ ?_
  · show (restD _).2.1 = _; rw [a2]
  · show (restD _).1 = _; rw [a2]
  · show (restD _).2.2 = _; rw [a2]
theorem roO_candQ {l w0 w1 w2 w3 w4 : List UInt8} {rest : List (List UInt8)} (hp : pieces 32 l = w0 :: w1 :: w2 :: w3 :: w4 :: rest) :
    roO l = if ppE w0 = 0 ∧ (candQ w0 w1 w2 w3 w4 rest).ok = true ∧ (candQ w0 w1 w2 w3 w4 rest).text = l then some (candQ w0 w1 w2 w3 w4 rest) else none := by
  split
  · rename_i h
    have e := roO_text h.2.1
    rw [h.2.2] at e
    exact e
  · rename_i h
    refine roO_no fun r hr ht => h ?_
    have w := rt_words hr
    rw [ht, hp] at w
    unfold RtV.words at w
    simp only [List.cons_append, List.nil_append] at w
    injection w with w0 w
    injection w with w1 w
    injection w with w2 w
    injection w with w3 w
    injection w with w4 w
    subst w0 w1 w2 w3 w4 w
    rw [candQ_words hr]
    exact ⟨rt_five hr, hr, ht⟩
end Go.Proofs.YtlhafehhkjjchaaGreatDoor

/-
  The text of an advert, and the advert of a text: plain laws; no walk.
-/
namespace Go.Proofs.YtlhafehhkjjchaaGreatDoor
open Go Go.RowKit Go.Sort

def prefW : List UInt8 := [112, 114, 101, 102]
def metrW : List UInt8 := [109, 101, 116, 114, 105, 99]
def peerW : List UInt8 := [112, 101, 101, 114]
def idW : List UInt8 := [105, 100]
def extW : List UInt8 := [101, 120, 116, 101, 114, 110, 97, 108]
def intW : List UInt8 := [105, 110, 116, 101, 114, 110, 97, 108]
def origW : List UInt8 := [111, 114, 105, 103, 105, 110]
def sessW : List UInt8 := [115, 101, 115, 115, 105, 111, 110]
def pathW : List UInt8 := [112, 97, 116, 104]
def commW : List UInt8 := [99, 111, 109, 109]
def clusW : List UInt8 := [99, 108, 117, 115, 116, 101, 114, 115]
def oneW : List UInt8 := [45, 49]
def sideT (b : Bool) : List UInt8 := if b then extW else intW
def sessT (n : Int) : List UInt8 := if n = -1 then oneW else Lib.decDigits n.toNat
def decT (n : Int) : List UInt8 := Lib.decDigits n.toNat
def addrT (n : Int) : List UInt8 := (textA n.toNat).data.toList
/-- May the advert be written? -/
def AvV.ok (r : AvV) : Bool := decide (chk r.a r.m = 0) && fineB r.pf && fineB r.me && (decide (r.ss = -1) || fineB r.ss)
def AvV.head (r : AvV) : List (List UInt8) := [prefT r.a r.m, viaW, addrT r.ho, prefW, decT r.pf, metrW, decT r.me, peerW, addrT r.pe, idW, addrT r.id, sideT r.ex, origW, addrT r.og, sessW, sessT r.ss, pathW]
def AvV.tail (r : AvV) : List (List UInt8) := r.pa.map decT ++ commW :: (r.co.map decT ++ clusW :: r.cl.map addrT)
def AvV.words (r : AvV) : List (List UInt8) := r.head ++ r.tail
def AvV.text (r : AvV) : List UInt8 := Lib.join r.words [32]
theorem av_ok {r : AvV} (h : r.ok = true) : chk r.a r.m = 0 ∧ (0 ≤ r.pf ∧ r.pf ≤ 2147483647) ∧ (0 ≤ r.me ∧ r.me ≤ 2147483647) ∧ (r.ss = -1 ∨ (0 ≤ r.ss ∧ r.ss ≤ 2147483647)) := by
  simp only [AvV.ok, Bool.and_eq_true, decide_eq_true_eq, fine_iff, Bool.or_eq_true] at h
  obtain ⟨⟨⟨h1, h2⟩, h3⟩, h4⟩ := h
  exact ⟨h1, h2, h3, h4⟩
theorem decT_no (n : Int) : (32 : UInt8) ∉ decT n := not_dec (by decide) _
theorem addrT_no (n : Int) : (32 : UInt8) ∉ addrT n := not_text (by decide) (by decide) _
theorem sideT_no (b : Bool) : (32 : UInt8) ∉ sideT b := by cases b <;> decide
theorem sessT_no (n : Int) : (32 : UInt8) ∉ sessT n := by
  unfold sessT
  split
  · decide
  · exact not_dec (by decide) _
theorem av_words_no {r : AvV} (h : r.ok = true) : ∀ x ∈ r.words, (32 : UInt8) ∉ x := by
  obtain ⟨h1, h2, h3, h4⟩ := av_ok h
  have k1 := chk_ok h1
  intro x hx
  simp only [AvV.words, AvV.head, AvV.tail, List.mem_append, List.mem_cons, List.not_mem_nil, or_false, List.mem_map] at hx
  rcases hx with (rfl | rfl | rfl | rfl | rfl | rfl | rfl | rfl | rfl | rfl | rfl | rfl | rfl | rfl | rfl | rfl | rfl) | ⟨n, _, rfl⟩ | rfl | ⟨n, _, rfl⟩ | rfl | ⟨n, _, rfl⟩
  all_goals first | exact prefT_no k1.1 | exact addrT_no _ | exact decT_no _ | exact sideT_no _ | exact sessT_no _ | decide
theorem av_words {r : AvV} (h : r.ok = true) : pieces 32 r.text = r.words := pieces_joinL 32 _ (by simp [AvV.words, AvV.head]) (av_words_no h)
theorem av_ext {r q : AvV} (h0 : r.a = q.a) (h1 : r.m = q.m) (h2 : r.ss = q.ss) (h3 : r.pf = q.pf) (h4 : r.me = q.me) (h5 : r.ho = q.ho) (h6 : r.pe = q.pe) (h7 : r.id = q.id) (h8 : r.ex = q.ex) (h9 : r.og = q.og) (h10 : r.pa = q.pa) (h11 : r.co = q.co) (h12 : r.cl = q.cl) : r = q := by
  cases r; cases q; simp_all
theorem decT_inj {m n : Int} (h0 : 0 ≤ m) (h1 : 0 ≤ n) (h : decT m = decT n) : m = n := by
  have := decDigits_inj h
  omega
theorem addrT_inj {m n : Int} (h0 : 0 ≤ m ∧ m < 4294967296) (h1 : 0 ≤ n ∧ n < 4294967296) (h : addrT m = addrT n) : m = n := by
  have e1 := adV_text h0.1 h0.2
  have e2 := adV_text h1.1 h1.2
  unfold addrT at h
  rw [h, e2] at e1
  exact e1.symm
/-- A number that a word is read to: any, if it is the text of none. -/
def NumRel (w : List UInt8) (x : Int) : Prop := ∀ n : Int, 0 ≤ n → n < 4294967296 → w = decT n → x = n
def AddrRel (w : List UInt8) (x : Int) : Prop := ∀ n : Int, 0 ≤ n → n < 4294967296 → w = addrT n → x = n
/-- The numbers that words are read to. -/
def ListRel (R : List UInt8 → Int → Prop) (ws : List (List UInt8)) (l : List Int) : Prop := ws.length = l.length ∧ ∀ (i : Nat) (w : List UInt8) (x : Int), ws[i]? = some w → l[i]? = some x → R w x
theorem listRel_nil (R) : ListRel R [] [] := ⟨rfl, fun i w x h => by simp at h⟩
theorem listRel_snoc {R} {ws : List (List UInt8)} {l : List Int} {w : List UInt8} {x : Int} (h : ListRel R ws l) (hx : R w x) : ListRel R (ws ++ [w]) (l ++ [x]) := by
  refine ⟨by simp [h.1], fun i w' x' hw hx' => ?_⟩
  by_cases hi : i < ws.length
  · rw [List.getElem?_append_left hi] at hw
    rw [List.getElem?_append_left (by have := h.1; omega)] at hx'
    exact h.2 i w' x' hw hx'
  · rw [List.getElem?_append_right (by omega)] at hw
    rw [List.getElem?_append_right (by have := h.1; omega)] at hx'
    have e1 : i - ws.length = 0 := by
      have := (List.getElem?_eq_some_iff.1 hw).1
      simp at this
      omega
    have e2 : i - l.length = 0 := by have := h.1; omega
    rw [e1] at hw
    rw [e2] at hx'
    simp at hw hx'
    rw [← hw, ← hx']
    exact hx
theorem listRel_dec {l q : List Int} (h : ListRel NumRel (q.map decT) l) (hq : u32s q) : l = q := by
  apply List.ext_getElem?
  intro i
  have hl := h.1
  rw [List.length_map] at hl
  by_cases hi : i < q.length
  · have a := List.getElem?_eq_getElem hi
    have b := List.getElem?_eq_getElem (l := l) (i := i) (by omega)
    have hm := hq _ (List.mem_of_getElem? a)
    have := h.2 i (decT q[i]) l[i] (by rw [List.getElem?_map, a]; rfl) b _ hm.1 hm.2 rfl
    rw [a, b, this]
  · rw [List.getElem?_eq_none (by omega), List.getElem?_eq_none (by omega)]
theorem listRel_addr {l q : List Int} (h : ListRel AddrRel (q.map addrT) l) (hq : u32s q) : l = q := by
  apply List.ext_getElem?
  intro i
  have hl := h.1
  rw [List.length_map] at hl
  by_cases hi : i < q.length
  · have a := List.getElem?_eq_getElem hi
    have b := List.getElem?_eq_getElem (l := l) (i := i) (by omega)
    have hm := hq _ (List.mem_of_getElem? a)
    have := h.2 i (addrT q[i]) l[i] (by rw [List.getElem?_map, a]; rfl) b _ hm.1 hm.2 rfl
    rw [a, b, this]
  · rw [List.getElem?_eq_none (by omega), List.getElem?_eq_none (by omega)]
theorem addrRel_adV (w : List UInt8) : AddrRel w (adV (parseB w)) := fun n h0 h1 e => by rw [e]; exact adV_text h0 h1
theorem numRel_uint {w : List UInt8} {x : Int} (h : ∀ n : Nat, Lib.parseUintB 32 w = .ok n → x = n) : NumRel w x := fun n h0 h1 e => by
  have := h n.toNat (by rw [e]; exact uint32_digits (by omega))
  omega
theorem numRel_num08 (w : List UInt8) : NumRel w (num08 w % 4294967296) := fun n h0 h1 e => by
  have hv : num08 w = n := by
    rw [e]
    unfold decT
    rw [num08_good (decDigits_ne_nil _) (decDigits_all _), decDigits_val]
    · omega
    · intro h
      have := dec_long 10 n.toNat (by omega)
      omega
  rw [hv]
  omega
end Go.Proofs.YtlhafehhkjjchaaGreatDoor

/-
  The advert of a text: that it is one; what words are read to (the program's way and the document's). Plain laws; no walk.
-/
namespace Go.Proofs.YtlhafehhkjjchaaGreatDoor
open Go Go.RowKit Go.Sort

theorem commW_dec (n : Int) : commW ≠ decT n := by
  intro h
  have := decDigits_all n.toNat
  unfold decT at h
  rw [← h] at this
  revert this; decide
theorem clusW_dec (n : Int) : clusW ≠ decT n := by
  intro h
  have := decDigits_all n.toNat
  unfold decT at h
  rw [← h] at this
  revert this; decide
theorem sess_dec {n : Int} (h : n ≠ -1) : sessT n = decT n := if_neg h
theorem oneW_dec (n : Int) : oneW ≠ decT n := by
  intro h
  have := decDigits_all n.toNat
  unfold decT at h
  rw [← h] at this
  revert this; decide
/-- What a word of a number is read to. -/
def Num31Rel (w : List UInt8) (x : Int) : Prop := ∀ n : Int, 0 ≤ n → n ≤ 2147483647 → w = decT n → x = n
def SessRel (w : List UInt8) (x : Int) : Prop := ∀ n : Int, (n = -1 ∨ (0 ≤ n ∧ n ≤ 2147483647)) → w = sessT n → x = n
theorem num31_rel (w : List UInt8) : Num31Rel w (num31 w) := fun n h0 h1 e => by rw [e]; exact num31_dec h0 h1
theorem num08_rel (w : List UInt8) : Num31Rel w (num08 w) := fun n h0 h1 e => by rw [e]; exact num08_dec h0 h1
theorem num31_one : num31 oneW = -1 := by decide +kernel
theorem sess31_rel (w : List UInt8) : SessRel w (num31 w) := fun n h e => by
  rcases h with rfl | ⟨h0, h1⟩
  · rw [e]; exact num31_one
  · rw [sess_dec (by omega)] at e
    exact num31_rel w n h0 h1 e
def sess08 (w : List UInt8) : Int := if w = oneW then -1 else num08 w
theorem sess08_rel (w : List UInt8) : SessRel w (sess08 w) := fun n h e => by
  unfold sess08
  rcases h with rfl | ⟨h0, h1⟩
  · exact if_pos e
  · rw [sess_dec (by omega)] at e
    rw [if_neg (by rw [e]; exact fun h => oneW_dec n h.symm)]
    exact num08_rel w n h0 h1 e
theorem sess08_lt (w : List UInt8) : -1 ≤ sess08 w ∧ sess08 w < 100000000000 := by
  unfold sess08
  split
  · omega
  · exact num08_lt w

/-- An advert out of what its words are read to. -/
def candA (w0 w2 w8 w10 w11 w13 : List UInt8) (pf me ss : Int) (pa co cl : List Int) (hpf : -9223372036854775808 ≤ pf ∧ pf ≤ 9223372036854775807) (hme : -9223372036854775808 ≤ me ∧ me ≤ 9223372036854775807) (hss : -9223372036854775808 ≤ ss ∧ ss ≤ 9223372036854775807) (hpa : u32s pa) (hco : u32s co) (hcl : u32s cl) : AvV where
  a := ppA w0
  m := ppN w0
  ss := ss
  pf := pf
  me := me
  ho := adV (parseB w2)
  pe := adV (parseB w8)
  id := adV (parseB w10)
  ex := decide (w11 = extW)
  og := adV (parseB w13)
  pa := pa
  co := co
  cl := cl
  ha := ppA_lt w0
  hm := by have := ppN_range w0; omega
  hss := hss
  hpf := hpf
  hme := hme
  hho := adV_lt w2
  hpe := adV_lt w8
  hid := adV_lt w10
  hog := adV_lt w13
  hpa := hpa
  hco := hco
  hcl := hcl
theorem side_ext (b : Bool) : decide (sideT b = extW) = b := by cases b <;> decide
theorem candA_fits {w0 w1 w2 w3 w4 w5 w6 w7 w8 w9 w10 w11 w12 w13 w14 w15 w16 : List UInt8} {rest : List (List UInt8)} {pf me ss : Int} {pa co cl : List Int} {hpf : -9223372036854775808 ≤ pf ∧ pf ≤ 9223372036854775807} {hme : -9223372036854775808 ≤ me ∧ me ≤ 9223372036854775807} {hss : -9223372036854775808 ≤ ss ∧ ss ≤ 9223372036854775807} {hpa : u32s pa} {hco : u32s co} {hcl : u32s cl}
    (h4 : Num31Rel w4 pf) (h6 : Num31Rel w6 me) (h15 : SessRel w15 ss) (hL : ∀ r : AvV, r.ok = true → rest = r.tail → pa = r.pa ∧ co = r.co ∧ cl = r.cl) {r : AvV} (hr : r.ok = true)
    (hw : r.words = w0 :: w1 :: w2 :: w3 :: w4 :: w5 :: w6 :: w7 :: w8 :: w9 :: w10 :: w11 :: w12 :: w13 :: w14 :: w15 :: w16 :: rest) :
    candA w0 w2 w8 w10 w11 w13 pf me ss pa co cl hpf hme hss hpa hco hcl = r := by
  unfold AvV.words AvV.head at hw
  simp only [List.cons_append, List.nil_append] at hw
  injection hw with e0 hw
  injection hw with e1 hw
  injection hw with e2 hw
  injection hw with e3 hw
  injection hw with e4 hw
  injection hw with e5 hw
  injection hw with e6 hw
  injection hw with e7 hw
  injection hw with e8 hw
  injection hw with e9 hw
  injection hw with e10 hw
  injection hw with e11 hw
  injection hw with e12 hw
  injection hw with e13 hw
  injection hw with e14 hw
  injection hw with e15 hw
  injection hw with e16 hw
  obtain ⟨k1, k2, k3, k4⟩ := av_ok hr
  have a1 := ppO_T r.ha.1 r.ha.2 k1
  obtain ⟨l1, l2, l3⟩ := hL r hr hw.symm
  refine av_ext ?_ ?_ ?_ ?_ ?_ ?_ ?_ ?_ ?_ ?_ l1 l2 l3
  · show ppA w0 = _; rw [← e0]; exact a1.1
  · show ppN w0 = _; rw [← e0]; exact a1.2.1
  · exact h15 r.ss k4 e15.symm
  · exact h4 r.pf k2.1 k2.2 e4.symm
  · exact h6 r.me k3.1 k3.2 e6.symm
  · show adV (parseB w2) = _; rw [← e2]; exact adV_text r.hho.1 r.hho.2
  · show adV (parseB w8) = _; rw [← e8]; exact adV_text r.hpe.1 r.hpe.2
  · show adV (parseB w10) = _; rw [← e10]; exact adV_text r.hid.1 r.hid.2
  · show decide (w11 = extW) = _; rw [← e11]; exact side_ext r.ex
  · show adV (parseB w13) = _; rw [← e13]; exact adV_text r.hog.1 r.hog.2

/-- Where the words of the lists stand. -/
theorem pa_comm (l : List Int) : commW ∉ l.map decT := by
  intro h
  obtain ⟨n, _, e⟩ := List.mem_map.1 h
  exact commW_dec n e.symm
theorem pa_clus (l : List Int) : clusW ∉ l.map decT := by
  intro h
  obtain ⟨n, _, e⟩ := List.mem_map.1 h
  exact clusW_dec n e.symm
theorem textA_first (a : Nat) : ∃ c t, (textA a).data.toList = c :: t ∧ isDig c = true := by
  rw [textA_eq, ← dec3_eq (Nat.lt_trans (octet_lt a 0) (by decide))]
  have h1 := decDigits_ne_nil (octet a 0)
  have h2 := decDigits_all (octet a 0)
  cases hd : Lib.decDigits (octet a 0) with
  | nil => exact absurd hd h1
  | cons c t =>
    rw [hd] at h2
    simp only [List.all_cons, Bool.and_eq_true] at h2
    exact ⟨c, t ++ 46 :: (dec3 (octet a 1) ++ 46 :: (dec3 (octet a 2) ++ 46 :: dec3 (octet a 3))), by simp, h2.1⟩
theorem addr_first (n : Int) : ∃ c t, addrT n = c :: t ∧ isDig c = true := by
  unfold addrT
  exact textA_first n.toNat
theorem comm_addr (n : Int) : commW ≠ addrT n := by
  intro h
  obtain ⟨c, t, e, hc⟩ := addr_first n
  rw [e] at h
  injection h with h _
  rw [← h] at hc
  revert hc; decide
theorem clus_addr (n : Int) : clusW ≠ addrT n := by
  intro h
  obtain ⟨c, t, e, hc⟩ := addr_first n
  rw [e] at h
  injection h with h _
  rw [← h] at hc
  revert hc; decide

/-- The index of a word. -/
theorem idx_words {L : List ByteArray} {A B : List (List UInt8)} {x : List UInt8} (hL : L.map (·.data.toList) = A ++ x :: B) (hA : x ∉ A) : Lib.idxOfS L ⟨x.toArray⟩ = A.length := by
  have hlen : L.length = A.length + (B.length + 1) := by
    have := congrArg List.length hL
    simpa using this
  have hget : ∀ j : Nat, j < L.length → (L.getD j ByteArray.empty).data.toList = (A ++ x :: B)[j]?.getD [] := by
    intro j hj
    rw [← hL, List.getElem?_map, List.getD_eq_getElem?_getD, List.getElem?_eq_getElem hj]
    rfl
  have h := Lib.idxFromS_hit (⟨x.toArray⟩ : ByteArray) L A.length 0 (by omega) ?_ ?_
  · simpa [Lib.idxOfS] using h
  · have h1 := hget A.length (by omega)
    rw [List.getElem?_append_right (Nat.le_refl _)] at h1
    simp at h1
    exact ByteArray.ext (Array.toList_inj.mp (by simpa using h1))
  · intro j hj e
    have h1 := hget j (by omega)
    rw [List.getElem?_append_left hj, List.getElem?_eq_getElem hj] at h1
    rw [e] at h1
    simp at h1
    exact hA (by rw [h1]; exact List.getElem_mem hj)
theorem head_len (r : AvV) : r.head.length = 17 := rfl
theorem prefT_slash (a n : Int) (h : 0 ≤ n) (x : List UInt8) (hx : (47 : UInt8) ∉ x) : x ≠ prefT a n := by
  intro e
  rw [prefT_nat h] at e
  exact hx (by rw [e]; simp)
theorem head_comm {r : AvV} (h : r.ok = true) : commW ∉ r.head := by
  obtain ⟨k1, k2, k3, k4⟩ := av_ok h
  have hn : 0 ≤ r.m := (chk_ok k1).1
  unfold AvV.head
  simp only [List.mem_cons, List.not_mem_nil, or_false, not_or]
  refine ⟨prefT_slash _ _ hn _ (by decide), by decide, comm_addr _, by decide, commW_dec _, by decide, commW_dec _, by decide, comm_addr _, by decide, comm_addr _, ?_, by decide, comm_addr _, by decide, ?_, by decide⟩
  · cases r.ex <;> decide
  · by_cases hs : r.ss = -1
    · rw [hs]; decide
    · rw [sess_dec hs]; exact commW_dec _
theorem head_clus {r : AvV} (h : r.ok = true) : clusW ∉ r.head := by
  obtain ⟨k1, k2, k3, k4⟩ := av_ok h
  have hn : 0 ≤ r.m := (chk_ok k1).1
  unfold AvV.head
  simp only [List.mem_cons, List.not_mem_nil, or_false, not_or]
  refine ⟨prefT_slash _ _ hn _ (by decide), by decide, clus_addr _, by decide, clusW_dec _, by decide, clusW_dec _, by decide, clus_addr _, by decide, clus_addr _, ?_, by decide, clus_addr _, by decide, ?_, by decide⟩
  · cases r.ex <;> decide
  · by_cases hs : r.ss = -1
    · rw [hs]; decide
    · rw [sess_dec hs]; exact clusW_dec _
/-- Where the program finds the two words in an advert's text. -/
theorem idx_prog {L : List ByteArray} {r : AvV} (h : r.ok = true) (hL : L.map (·.data.toList) = r.words) :
    Lib.idxOfS L ⟨commW.toArray⟩ = ((17 + r.pa.length : Nat) : Int) ∧ Lib.idxOfS L ⟨clusW.toArray⟩ = ((17 + r.pa.length + 1 + r.co.length : Nat) : Int) ∧ L.length = 17 + r.pa.length + 1 + r.co.length + 1 + r.cl.length := by
  refine ⟨?_, ?_, ?_⟩
  · have := idx_words (A := r.head ++ r.pa.map decT) (B := r.co.map decT ++ clusW :: r.cl.map addrT) (x := commW) (L := L) (by rw [hL]; simp [AvV.words, AvV.tail]) (by simp only [List.mem_append, not_or]; exact ⟨head_comm h, pa_comm _⟩)
    rw [this]
    simp [head_len]
  · have := idx_words (A := r.head ++ (r.pa.map decT ++ commW :: r.co.map decT)) (B := r.cl.map addrT) (x := clusW) (L := L) (by rw [hL]; simp [AvV.words, AvV.tail]) (by
      simp only [List.mem_append, List.mem_cons, not_or]
      exact ⟨head_clus h, pa_clus _, by decide, pa_clus _⟩)
    rw [this]
    simp [head_len]
    omega
  · have := congrArg List.length hL
    simp [AvV.words, AvV.tail, head_len] at this
    omega
theorem tail_pa (r : AvV) : r.tail.take r.pa.length = r.pa.map decT := by
  unfold AvV.tail
  rw [List.take_append_of_le_length (by simp), List.take_of_length_le (by simp)]
theorem tail_co (r : AvV) : (r.tail.drop (r.pa.length + 1)).take r.co.length = r.co.map decT := by
  unfold AvV.tail
  rw [List.drop_append, List.drop_of_length_le (by simp), List.nil_append, List.length_map, show r.pa.length + 1 - r.pa.length = 1 by omega]
  simp
theorem tail_cl (r : AvV) : r.tail.drop (r.pa.length + 1 + r.co.length + 1) = r.cl.map addrT := by
  unfold AvV.tail
  rw [List.drop_append, List.drop_of_length_le (by simp; omega), List.nil_append, List.length_map, show r.pa.length + 1 + r.co.length + 1 - r.pa.length = (r.co.length + 1) + 1 by omega, List.drop_succ_cons, List.drop_append, List.drop_of_length_le (by simp), List.nil_append, List.length_map, show r.co.length + 1 - r.co.length = 1 by omega]
  simp

/-- What the document has read: which list it is at, and the words of each. -/
structure DScan where
  part : Nat
  pw : List (List UInt8)
  cw : List (List UInt8)
  lw : List (List UInt8)
def DScan.step (s : DScan) (w : List UInt8) : DScan :=
  if w = commW ∧ s.part = 0 then { s with part := 1 }
  else if w = clusW ∧ s.part = 1 then { s with part := 2 }
  else if s.part = 0 then { s with pw := s.pw ++ [w] }
  else if s.part = 1 then { s with cw := s.cw ++ [w] }
  else { s with lw := s.lw ++ [w] }
def DScan.run (s : DScan) (ws : List (List UInt8)) : DScan := ws.foldl DScan.step s
theorem scan_pa : ∀ (l : List Int) (s : DScan), s.part = 0 → s.run (l.map decT) = { s with pw := s.pw ++ l.map decT }
  | [], s, _ => by simp [DScan.run]
  | n :: l, s, h => by
    have e : s.step (decT n) = { s with pw := s.pw ++ [decT n] } := by
      unfold DScan.step
      rw [if_neg (fun k => commW_dec n k.1.symm), if_neg (fun k => clusW_dec n k.1.symm), if_pos h]
    have := scan_pa l { s with pw := s.pw ++ [decT n] } h
    unfold DScan.run at this ⊢
    simp only [List.map_cons, List.foldl_cons]
    rw [e, this]
    simp
theorem scan_co : ∀ (l : List Int) (s : DScan), s.part = 1 → s.run (l.map decT) = { s with cw := s.cw ++ l.map decT }
  | [], s, _ => by simp [DScan.run]
  | n :: l, s, h => by
    have e : s.step (decT n) = { s with cw := s.cw ++ [decT n] } := by
      unfold DScan.step
      rw [if_neg (fun k => commW_dec n k.1.symm), if_neg (fun k => clusW_dec n k.1.symm), if_neg (by omega), if_pos h]
    have := scan_co l { s with cw := s.cw ++ [decT n] } h
    unfold DScan.run at this ⊢
    simp only [List.map_cons, List.foldl_cons]
    rw [e, this]
    simp
theorem scan_cl : ∀ (l : List Int) (s : DScan), s.part = 2 → s.run (l.map addrT) = { s with lw := s.lw ++ l.map addrT }
  | [], s, _ => by simp [DScan.run]
  | n :: l, s, h => by
    have e : s.step (addrT n) = { s with lw := s.lw ++ [addrT n] } := by
      unfold DScan.step
      rw [if_neg (by omega), if_neg (by omega), if_neg (by omega), if_neg (by omega)]
    have := scan_cl l { s with lw := s.lw ++ [addrT n] } h
    unfold DScan.run at this ⊢
    simp only [List.map_cons, List.foldl_cons]
    rw [e, this]
    simp
def scan0 : DScan := ⟨0, [], [], []⟩
theorem scan_tail (r : AvV) : scan0.run r.tail = ⟨2, r.pa.map decT, r.co.map decT, r.cl.map addrT⟩ := by
  unfold AvV.tail
  have e1 := scan_pa r.pa scan0 rfl
  have e2 := scan_co r.co ⟨1, r.pa.map decT, [], []⟩ rfl
  have e3 := scan_cl r.cl ⟨2, r.pa.map decT, r.co.map decT, []⟩ rfl
  unfold DScan.run at *
  rw [List.foldl_append, e1, List.foldl_cons, List.foldl_append]
  rw [show DScan.step { scan0 with pw := scan0.pw ++ r.pa.map decT } commW = ⟨1, r.pa.map decT, [], []⟩ from rfl, e2, List.foldl_cons]
  rw [show DScan.step { part := 1, pw := r.pa.map decT, cw := [] ++ r.co.map decT, lw := [] } clusW = ⟨2, r.pa.map decT, r.co.map decT, []⟩ from rfl, e3]
  rfl
theorem run_snoc (s : DScan) (ws : List (List UInt8)) (w : List UInt8) : s.run (ws ++ [w]) = (s.run ws).step w := by
  unfold DScan.run
  rw [List.foldl_append]; rfl

theorem av_inj {r q : AvV} (h : r.ok = true) (hq : q.ok = true) (e : r.text = q.text) : r = q := by
  have w := av_words h
  rw [e, av_words hq] at w
  have hw : q.head ++ q.tail = r.head ++ r.tail := w
  obtain ⟨hh, ht⟩ := List.append_inj hw (by rw [head_len, head_len])
  have hs := scan_tail q
  rw [ht, scan_tail r] at hs
  injection hs with _ s1 s2 s3
  have b1 : (r.pa.map decT) = (q.pa.map decT) := s1
  have b2 : (r.co.map decT) = (q.co.map decT) := s2
  have b3 : (r.cl.map addrT) = (q.cl.map addrT) := s3
  have key : ∀ t : AvV, t.ok = true → ∀ hd : List (List UInt8), t.head = hd → ∀ pa' co' cl' : List Int, pa' = t.pa → co' = t.co → cl' = t.cl → ∀ t' : AvV, t'.ok = true → t'.head = hd → pa' = t'.pa → co' = t'.co → cl' = t'.cl → t = t' := by
    intro t ht hd e1 pa' co' cl' p1 p2 p3 t' ht' e2 q1 q2 q3
    rw [← e2] at e1
    unfold AvV.head at e1
    injection e1 with x0 e1
    injection e1 with x1 e1
    injection e1 with x2 e1
    injection e1 with x3 e1
    injection e1 with x4 e1
    injection e1 with x5 e1
    injection e1 with x6 e1
    injection e1 with x7 e1
    injection e1 with x8 e1
    injection e1 with x9 e1
    injection e1 with x10 e1
    injection e1 with x11 e1
    injection e1 with x12 e1
    injection e1 with x13 e1
    injection e1 with x14 e1
    injection e1 with x15 e1
    obtain ⟨k1, k2, k3, k4⟩ := av_ok ht
    obtain ⟨m1, m2, m3, m4⟩ := av_ok ht'
    have a1 := ppO_T t.ha.1 t.ha.2 k1
    have a2 := ppO_T t'.ha.1 t'.ha.2 m1
    rw [x0] at a1
    have hs := sess31_rel _ t.ss k4 rfl
    rw [x15, sess31_rel _ t'.ss m4 rfl] at hs
    have hx := side_ext t.ex
    rw [x11, side_ext] at hx
    exact av_ext (a1.1.symm.trans a2.1) (a1.2.1.symm.trans a2.2.1) hs.symm (decT_inj k2.1 m2.1 x4) (decT_inj k3.1 m3.1 x6) (addrT_inj t.hho t'.hho x2) (addrT_inj t.hpe t'.hpe x8) (addrT_inj t.hid t'.hid x10) hx.symm (addrT_inj t.hog t'.hog x13) (p1.symm.trans q1) (p2.symm.trans q2) (p3.symm.trans q3)
  have d1 : r.pa = q.pa := listRel_dec (l := r.pa) (q := q.pa) (by rw [← b1]; exact ⟨by simp, fun i w x hw hx n n0 n1 e => by rw [List.getElem?_map, hx] at hw; injection hw with hw; rw [← hw] at e; exact decT_inj (r.hpa x (List.mem_of_getElem? hx)).1 n0 e⟩) q.hpa
  have d2 : r.co = q.co := listRel_dec (l := r.co) (q := q.co) (by rw [← b2]; exact ⟨by simp, fun i w x hw hx n n0 n1 e => by rw [List.getElem?_map, hx] at hw; injection hw with hw; rw [← hw] at e; exact decT_inj (r.hco x (List.mem_of_getElem? hx)).1 n0 e⟩) q.hco
  have d3 : r.cl = q.cl := listRel_addr (l := r.cl) (q := q.cl) (by rw [← b3]; exact ⟨by simp, fun i w x hw hx n n0 n1 e => by rw [List.getElem?_map, hx] at hw; injection hw with hw; rw [← hw] at e; exact addrT_inj (r.hcl x (List.mem_of_getElem? hx)) ⟨n0, n1⟩ e⟩) q.hcl
  exact key r h _ rfl _ _ _ rfl rfl rfl q hq hh d1 d2 d3
open Classical in
/-- The advert that a text is the text of. -/
noncomputable def avO (l : List UInt8) : Option AvV := if h : ∃ r : AvV, r.ok = true ∧ r.text = l then some h.choose else none
theorem avO_text {r : AvV} (h : r.ok = true) : avO r.text = some r := by
  have he : ∃ q : AvV, q.ok = true ∧ q.text = r.text := ⟨r, h, rfl⟩
  unfold avO
  rw [dif_pos he, av_inj he.choose_spec.1 h he.choose_spec.2]
theorem avO_some {l : List UInt8} {r : AvV} (h : avO l = some r) : r.ok = true ∧ r.text = l := by
  unfold avO at h
  split at h
  · rename_i he
    injection h with h
    rw [← h]
    exact he.choose_spec
  · cases h
theorem avO_no {l : List UInt8} (h : ∀ r : AvV, r.ok = true → r.text = l → False) : avO l = none := by
  cases e : avO l with
  | none => rfl
  | some r => exact (h r (avO_some e).1 (avO_some e).2).elim
theorem av_len {r : AvV} {l : List UInt8} (h : r.ok = true) (hl : r.text = l) : 19 ≤ (pieces 32 l).length := by
  rw [← hl, av_words h]
  simp [AvV.words, AvV.tail, head_len]
  omega
theorem avO_len {l : List UInt8} (h : (pieces 32 l).length < 19) : avO l = none := avO_no fun _ h1 h2 => by have := av_len h1 h2; omega
theorem avO_cand {l : List UInt8} {c : AvV} (hc : ∀ r : AvV, r.ok = true → r.words = pieces 32 l → c = r) : avO l = if c.ok = true ∧ c.text = l then some c else none := by
  split
  · rename_i h
    have e := avO_text h.1
    rw [h.2] at e
    exact e
  · rename_i h
    refine avO_no fun r hr ht => h ?_
    have := hc r hr (by rw [← ht, av_words hr])
    rw [this]
    exact ⟨hr, ht⟩
def av0 : AvV := ⟨0, 0, 0, 0, 0, 0, 0, 0, false, 0, [], [], [], by omega, by omega, by omega, by omega, by omega, by omega, by omega, by omega, by omega, u32s_nil, u32s_nil, u32s_nil⟩
/-- What ParseAdvert answers. -/
noncomputable def avV (l : List UInt8) : AvV := (avO l).getD av0
noncomputable def avE (l : List UInt8) : Int := if (avO l).isSome then 0 else 4
theorem av_none {l : List UInt8} (h : avO l = none) : avV l = av0 ∧ avE l = 4 := by unfold avV avE; rw [h]; exact ⟨rfl, rfl⟩
theorem av_some {l : List UInt8} {r : AvV} (h : avO l = some r) : avV l = r ∧ avE l = 0 := by unfold avV avE; rw [h]; exact ⟨rfl, rfl⟩
end Go.Proofs.YtlhafehhkjjchaaGreatDoor

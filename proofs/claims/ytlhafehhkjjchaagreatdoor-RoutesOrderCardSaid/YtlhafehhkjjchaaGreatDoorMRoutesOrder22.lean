/-
  Joined texts: Ft2.
-/
import Derived.Test.YtlhafehhkjjchaaGreatDoorMRoutesOrder21
import Derived.Test.YtlhafehhkjjchaaGreatDoorMRoutesOrder12
import Derived.Test.YtlhafehhkjjchaaGreatDoorMRoutesOrder17
/-
  The walks of filter.ends and of filter.Parse.
-/
namespace Go.Proofs.YtlhafehhkjjchaaGreatDoor
open Go Go.RowKit Go.Lib Go.Sort

theorem uint16_yes (y : ByteArray) (hl : y.size < 4294967281) (u : Nat) (h : Lib.parseUintB 16 y.data.toList = .ok u) (w : World) :
    Calls Tryz.prog 53 #[.string y, .int .i64 10, .int .i64 16] w fun e w' => e = .returned (.tuple #[.int .u64 u, .nilIface]) ∧ Below w.heap.size w w' :=
  (Tryz.strconv_ParseUint_10_at16_ok y (by omega) u h w).mono fun _ _ hh => ⟨hh.1, below_of_atoi (t := 5) (hh.2.imp id fun e => ⟨_, e⟩)⟩
theorem uint16_no (y : ByteArray) (hl : y.size < 4294967281) (h : ∀ n, Lib.parseUintB 16 y.data.toList ≠ .ok n) (w : World) (hE : Env w) :
    Calls Tryz.prog 53 #[.string y, .int .i64 10, .int .i64 16] w fun e w' => (∃ (x : Int) (tq : TypeId) (vq : Value), e = .returned (.tuple #[.int .u64 x, .iface tq vq]) ∧ 0 ≤ x ∧ x < 65536) ∧ Below w.heap.size w w' := by
  cases hp : Lib.parseUintB 16 y.data.toList with
  | ok n => exact absurd hp (h n)
  | range =>
    obtain ⟨tp, p, hs⟩ := hE.ran
    refine (Tryz.strconv_ParseUint_10_at16_range y (by omega) hp _ w hs (Or.inr ⟨_, _, rfl⟩)).mono ?_
    rintro e w1 ⟨N, rfl, _, _, hb⟩
    exact ⟨⟨_, _, _, rfl, by omega, by omega⟩, hb⟩
  | _ =>
    obtain ⟨tp, p, hs⟩ := hE.syn
    refine (Tryz.strconv_ParseUint_10_at16_syntax y (by omega) hp _ w hs (Or.inr ⟨_, _, rfl⟩)).mono ?_
    rintro e w1 ⟨N, rfl, _, _, hb⟩
    exact ⟨⟨_, _, _, rfl, by omega, by omega⟩, hb⟩
theorem uint8_yes (y : ByteArray) (hl : y.size < 4294967281) (u : Nat) (h : Lib.parseUintB 8 y.data.toList = .ok u) (w : World) :
    Calls Tryz.prog 53 #[.string y, .int .i64 10, .int .i64 8] w fun e w' => e = .returned (.tuple #[.int .u64 u, .nilIface]) ∧ Below w.heap.size w w' :=
  (Tryz.strconv_ParseUint_10_at8_ok y (by omega) u h w).mono fun _ _ hh => ⟨hh.1, below_of_atoi (t := 5) (hh.2.imp id fun e => ⟨_, e⟩)⟩
theorem uint8_no (y : ByteArray) (hl : y.size < 4294967281) (h : ∀ n, Lib.parseUintB 8 y.data.toList ≠ .ok n) (w : World) (hE : Env w) :
    Calls Tryz.prog 53 #[.string y, .int .i64 10, .int .i64 8] w fun e w' => (∃ (x : Int) (tq : TypeId) (vq : Value), e = .returned (.tuple #[.int .u64 x, .iface tq vq]) ∧ 0 ≤ x ∧ x < 256) ∧ Below w.heap.size w w' := by
  cases hp : Lib.parseUintB 8 y.data.toList with
  | ok n => exact absurd hp (h n)
  | range =>
    obtain ⟨tp, p, hs⟩ := hE.ran
    refine (Tryz.strconv_ParseUint_10_at8_range y (by omega) hp _ w hs (Or.inr ⟨_, _, rfl⟩)).mono ?_
    rintro e w1 ⟨N, rfl, _, _, hb⟩
    exact ⟨⟨_, _, _, rfl, by omega, by omega⟩, hb⟩
  | _ =>
    obtain ⟨tp, p, hs⟩ := hE.syn
    refine (Tryz.strconv_ParseUint_10_at8_syntax y (by omega) hp _ w hs (Or.inr ⟨_, _, rfl⟩)).mono ?_
    rintro e w1 ⟨N, rfl, _, _, hb⟩
    exact ⟨⟨_, _, _, rfl, by omega, by omega⟩, hb⟩
set_option maxRecDepth 100000 in
set_option maxHeartbeats 4000000 in
theorem endsR_eq {w lo hi : List UInt8} {two : Bool} (h : Lib.cut w [45] = (lo, hi, two)) : endsR w = match Lib.parseUintB 16 lo, Lib.parseUintB 16 hi with
    | .ok a, .ok b => (a, b)
    | _, _ => (1, 0) := by
  unfold endsR
  rw [h]
  rfl
theorem ends_yes {w lo hi : List UInt8} {two : Bool} {a b : Nat} (h : Lib.cut w [45] = (lo, hi, two)) (ha : Lib.parseUintB 16 lo = .ok a) (hb : Lib.parseUintB 16 hi = .ok b) : endsR w = ((a : Int), (b : Int)) := by rw [endsR_eq h, ha, hb]
theorem ends_no1 {w lo hi : List UInt8} {two : Bool} (h : Lib.cut w [45] = (lo, hi, two)) (ha : ∀ n, Lib.parseUintB 16 lo ≠ .ok n) : endsR w = (1, 0) := by
  rw [endsR_eq h]
  split
  · rename_i e _; exact absurd e (ha _)
  · rfl
theorem ends_no2 {w lo hi : List UInt8} {two : Bool} (h : Lib.cut w [45] = (lo, hi, two)) (hb : ∀ n, Lib.parseUintB 16 hi ≠ .ok n) : endsR w = (1, 0) := by
  rw [endsR_eq h]
  split
  · rename_i e; exact absurd e (hb _)
  · rfl
end Go.Proofs.YtlhafehhkjjchaaGreatDoor

/-
  Joined texts: Rt5.
-/
import Derived.Test.YtlhafehhkjjchaaGreatDoorMRoutesOrder19
import Derived.Test.YtlhafehhkjjchaaGreatDoorMRoutesOrder3
import Derived.Test.YtlhafehhkjjchaaGreatDoorMRoutesOrder17
/-
  The walks of routes.number and routes.numbers.
-/
namespace Go.Proofs.YtlhafehhkjjchaaGreatDoor
open Go Go.RowKit Go.Lib Go.Sort

theorem uint31_yes (y : ByteArray) (hl : y.size < 4294967281) (u : Nat) (h : Lib.parseUintB 31 y.data.toList = .ok u) (w : World) :
    Calls Tryz.prog 53 #[.string y, .int .i64 10, .int .i64 31] w fun e w' => e = .returned (.tuple #[.int .u64 u, .nilIface]) ∧ Below w.heap.size w w' :=
  parse31_ok Tryz.laysPu14 y (by omega) u h w
theorem uint31_no (y : ByteArray) (hl : y.size < 4294967281) (h : ∀ n, Lib.parseUintB 31 y.data.toList ≠ .ok n) (w : World) (hE : Env w) :
    Calls Tryz.prog 53 #[.string y, .int .i64 10, .int .i64 31] w fun e w' => (∃ (x : Int) (tq : TypeId) (vq : Value), e = .returned (.tuple #[.int .u64 x, .iface tq vq]) ∧ 0 ≤ x ∧ x < 2147483648) ∧ Below w.heap.size w w' := by
  obtain ⟨tp, p, hs⟩ := hE.syn
  obtain ⟨tq, q, hr⟩ := hE.ran
  exact parse31_no Tryz.laysPu14 y (by omega) h _ _ _ _ w hs hr
theorem num31_ok {l : List UInt8} {u : Nat} (h : Lib.parseUintB 31 l = .ok u) : num31 l = u := by unfold num31; rw [h]
theorem num31_bad {l : List UInt8} (h : ∀ n, Lib.parseUintB 31 l ≠ .ok n) : num31 l = -1 := by
  unfold num31
  split
  · rename_i n e; exact absurd e (h n)
  · rfl
set_option maxRecDepth 100000 in
set_option maxHeartbeats 1000000 in
theorem numR_any (y : ByteArray) (hl : y.size < 4294967281) (w : World) (hE : Env w) :
    Calls Tryz.prog 34 #[.string y] w fun e w' => e = .returned (.int .i64 (num31 y.data.toList)) ∧ Below w.heap.size w w' := by
  by_cases hp : ∃ u, Lib.parseUintB 31 y.data.toList = .ok u
  · obtain ⟨u, hu⟩ := hp
    have hlt := uint31_le hu
    have hn := Lib.hid (num31_ok hu)
    have hC := Lib.hid (uint31_yes y hl u hu w)
    clear hu
    go_enter Tryz.func34, Tryz.ntmps34
    go_wp2_with fail
    refine hC.out.mono ?_
    rintro e w1 ⟨rfl, hb⟩
    go_wp2
    go_ret
    exact ⟨by rw [hn.out]; rfl, hb⟩
  · have hb : ∀ n, Lib.parseUintB 31 y.data.toList ≠ .ok n := fun n h => hp ⟨n, h⟩
    have hn := Lib.hid (num31_bad hb)
    have hC := Lib.hid (uint31_no y hl hb w hE)
    clear hb hp
    go_enter Tryz.func34, Tryz.ntmps34
    go_wp2_with fail
    refine hC.out.mono ?_
    rintro e w1 ⟨⟨x, tq, vq, rfl, x0, x1⟩, hb⟩
    go_wp2
    go_ret
    exact ⟨by rw [hn.out]; rfl, hb⟩
theorem u32_yes (y : ByteArray) (hl : y.size < 4294967281) (u : Nat) (h : Lib.parseUintB 32 y.data.toList = .ok u) (w : World) :
    Calls Tryz.prog 53 #[.string y, .int .i64 10, .int .i64 32] w fun e w' => e = .returned (.tuple #[.int .u64 u, .nilIface]) ∧ Below w.heap.size w w' :=
  (Tryz.strconv_ParseUint_10_at32_ok y (by omega) u h w).mono fun _ _ hh => ⟨hh.1, below_of_atoi (t := 5) (hh.2.imp id fun e => ⟨_, e⟩)⟩
/-- What ParseUint makes of a word, at 32 bits: a number below 2^32, its number if it is one. -/
theorem u32_any (y : ByteArray) (hl : y.size < 4294967281) (w : World) (hE : Env w) :
    Calls Tryz.prog 53 #[.string y, .int .i64 10, .int .i64 32] w fun e w' => ∃ (x : Int) (v : Value), e = .returned (.tuple #[.int .u64 x, v]) ∧ 0 ≤ x ∧ x < 4294967296 ∧ NumRel y.data.toList x ∧ Below w.heap.size w w' := by
  cases hp : Lib.parseUintB 32 y.data.toList with
  | ok n =>
    have hn : n < 4294967296 := uint32_le hp
    exact (u32_yes y hl n hp w).mono fun e w' h => ⟨n, _, h.1, by omega, by omega, numRel_uint (fun m hm => by rw [hp] at hm; injection hm with hm; rw [hm]), h.2⟩
  | range =>
    obtain ⟨tp, p, hs⟩ := hE.ran
    refine (Tryz.strconv_ParseUint_10_at32_range y (by omega) hp _ w hs (Or.inr ⟨_, _, rfl⟩)).mono ?_
    rintro e w1 ⟨N, rfl, _, _, hb⟩
    exact ⟨_, _, rfl, by omega, by omega, numRel_uint (fun m hm => by rw [hp] at hm; cases hm), hb⟩
  | _ =>
    obtain ⟨tp, p, hs⟩ := hE.syn
    refine (Tryz.strconv_ParseUint_10_at32_syntax y (by omega) hp _ w hs (Or.inr ⟨_, _, rfl⟩)).mono ?_
    rintro e w1 ⟨N, rfl, _, _, hb⟩
    exact ⟨_, _, rfl, by omega, by omega, numRel_uint (fun m hm => by rw [hp] at hm; cases hm), hb⟩
theorem one_u32 (x : Int) : ∀ u ∈ [Value.int .u32 x], u.oneCell' = true := by
  intro u hu
  obtain rfl := List.mem_singleton.1 hu
  rfl
theorem Tryz.infoU32 : (Tryz.prog.info? 22).map (fun i => (i.zero, i.size, i.bytes)) = some (some (.int .u32 0), 1, 4) := by kernel_rfl
theorem u32s_snoc {l : List Int} {x : Int} (h : u32s l) (h0 : 0 ≤ x) (h1 : x < 4294967296) : u32s (l ++ [x]) := by
  intro y hy
  rcases List.mem_append.1 hy with hy | hy
  · exact h y hy
  · obtain rfl := List.mem_singleton.1 hy
    exact ⟨h0, h1⟩
end Go.Proofs.YtlhafehhkjjchaaGreatDoor

/-
  RoutesOrder: the row and its tied card (written by wip/genPD.py).
-/
import Derived.Test.YtlhafehhkjjchaaGreatDoorMRoutesOrder1
import Derived.Test.YtlhafehhkjjchaaGreatDoorMRoutesOrder26
import Derived.Lib.SmallJoins
import Derived.Test.YtlhafehhkjjchaaGreatDoorMRoutesOrder27
namespace Go.Proofs.YtlhafehhkjjchaaGreatDoor.routesOrder
open Go Go.ChangeShapes Go.WideShapes Go.ChangeAt Go.RowKit Go.Joins
open Go.ChangeMaps (open_string)

theorem bounds_i64 {a : Int} (h : (Lit.int .i64 a).wf = true) : -9223372036854775808 ≤ a ∧ a ≤ 9223372036854775807 := by
  simp [Lit.wf, IntKind.min, IntKind.max, IntKind.signed, IntKind.bits] at h
  omega
set_option maxRecDepth 100000 in
set_option maxHeartbeats 1000000 in
theorem lifted (os : Os) (started : os.Started) (H : Type) (enc : TypeId × Value → H) :
    ReturnsInHanded {} Tryz.checked os 3 .any (fun w args => (Rows.routesOrderSpec.pre enc Tryz.prog Tryz.f3 Rows.routesOrderRow.domain false w args ∧ laidMetH Tryz.prog Rows.routesOrderRow.laid w) ∧ sizedMet enc Tryz.prog Tryz.f3 (OpenSpec.ofChange Rows.routesOrderSpec) false w args) (Rows.routesOrderSpec.post enc Tryz.prog Tryz.f3 false true false false) := by
  refine returns_and_shaped (C := Tryz.checked) (X := fun w _ => laidMetH Tryz.prog theLaid w) (fun _ _ _ hh h => h.of_heap hh) own started (by kernel_rfl) Tryz.func3
    (ChangeSpec.witness_shaped (enc := enc) (C := Tryz.checked) (os := os) (X := fun w _ => laidMetH Tryz.prog theLaid w) false (laidWorld os) #[.agg #[.int .u32 0, .int .i64 0, .int .u8 0, .int .i64 0, .int .i64 0, .int .i64 0, .string ByteArray.empty, .int .u32 0, .bool false], .agg #[.int .u32 0, .int .i64 0, .int .u8 0, .int .i64 0, .int .i64 0, .int .i64 0, .string ByteArray.empty, .int .u32 0, .bool false], .agg #[.int .u32 0, .int .i64 0, .int .u8 0, .int .i64 0, .int .i64 0, .int .i64 0, .string ByteArray.empty, .int .u32 0, .bool false], .slice none 0 0, .agg #[.int .u32 0, .int .i64 0, .int .u32 0, .int .i64 0, .int .i64 0, .slice none 0 0, .slice none 0 0, .int .u32 0, .int .u32 0, .bool false, .int .u32 0, .slice none 0 0, .int .i64 0], .agg #[.int .u32 0, .int .i64 0, .int .u32 0, .int .i64 0, .int .i64 0, .slice none 0 0, .slice none 0 0, .int .u32 0, .int .u32 0, .bool false, .int .u32 0, .slice none 0 0, .int .i64 0], .agg #[.int .u32 0, .int .i64 0, .int .u32 0, .int .i64 0, .int .i64 0, .slice none 0 0, .slice none 0 0, .int .u32 0, .int .u32 0, .bool false, .int .u32 0, .slice none 0 0, .int .i64 0]] 8 (World.laidAll_os _ _ _)
      (World.shaped_of_ZipB (by kernel_rfl) (by kernel_rfl)) (by kernel_rfl) (by kernel_rfl) (by kernel_rfl) (laidWorld_met os _)) ?_
  intro W base args ds gs before hval0 hW hsz0 hL hS
  have hEnv := env_of hL hS
  have hval : ∀ (j : Nat) t v, Tryz.f3.params[j]? = some t → args[j]? = some v → Value.okWide Tryz.prog W .any base t v := hval0
  have hW' := hW
  obtain ⟨p, q, hA0, hV, rfl, hfz, hnd⟩ := hW
  have hA : DataW.TrodAll enc Tryz.prog W 0 (fun _ => true) true Tryz.f3.params.toList args.toList ds p := hA0
  rw [Tryz.params3] at hA hval
  have hsz : (DataW.weightsEach Tryz.prog (Tryz.f3.params.toList ++ Rows.routesOrderSpec.plain.varTypes Tryz.prog) (ds ++ gs)).all (· ≤ reachBytes) = true := hsz0
  rw [Tryz.params3] at hsz
  obtain ⟨v0, vs0, d0, ds0, p0, q0, hargs, rfl, rfl, h0, r0⟩ := trodAll_cons hA
  obtain ⟨v1, vs1, d1, ds1, p1, q1, rfl, rfl, rfl, h1, r1⟩ := trodAll_cons r0
  obtain ⟨v2, vs2, d2, ds2, p2, q2, rfl, rfl, rfl, h2, r2⟩ := trodAll_cons r1
  obtain ⟨v3, vs3, d3, ds3, p3, q3, rfl, rfl, rfl, h3, r3⟩ := trodAll_cons r2
  obtain ⟨v4, vs4, d4, ds4, p4, q4, rfl, rfl, rfl, h4, r4⟩ := trodAll_cons r3
  obtain ⟨v5, vs5, d5, ds5, p5, q5, rfl, rfl, rfl, h5, r5⟩ := trodAll_cons r4
  obtain ⟨v6, vs6, d6, ds6, p6, q6, rfl, rfl, rfl, h6, r6⟩ := trodAll_cons r5
  obtain ⟨rfl, rfl, rfl⟩ := trodAll_nil r6
  obtain rfl : args = #[v0, v1, v2, v3, v4, v5, v6] := by cases args; simp_all
  obtain ⟨rfl, rfl⟩ := trodVars_none hV
  obtain ⟨cs0, n0, rfl, hz0⟩ := open_agg Tryz.underlying27 (hval 0 27 v0 rfl rfl) h0
  obtain ⟨a0, rfl⟩ := elem_routeV _ _ _ hz0
  obtain ⟨cs1, n1, rfl, hz1⟩ := open_agg Tryz.underlying27 (hval 1 27 v1 rfl rfl) h1
  obtain ⟨a1, rfl⟩ := elem_routeV _ _ _ hz1
  obtain ⟨cs2, n2, rfl, hz2⟩ := open_agg Tryz.underlying27 (hval 2 27 v2 rfl rfl) h2
  obtain ⟨a2, rfl⟩ := elem_routeV _ _ _ hz2
  have ir3 : InReach Tryz.prog 28 d3 := fun m hm => by simpa using List.all_eq_true.1 hsz m (DataW.weights_mem_each (j := 3) rfl rfl m hm)
  obtain ⟨n3, hz3⟩ := open_sl Tryz.underlying28 (hval 3 28 v3 rfl rfl) h3
  obtain ⟨_, a3, hv3, rd3, len3, _, big3⟩ := open_rd2 (Q := fun _ => True) route_len (by decide) Tryz.underlying28 (by kernel_rfl) (fun n cs y h _ => (elem_routeV n cs y h).elim fun r hr => ⟨r, hr, trivial⟩) hz3 ir3
  obtain rfl := (List.cons.inj hv3).1
  have ir4 : InReach Tryz.prog 32 d4 := fun m hm => by simpa using List.all_eq_true.1 hsz m (DataW.weights_mem_each (j := 4) rfl rfl m hm)
  obtain ⟨cs4, n4, rfl, hz4⟩ := open_agg Tryz.underlying32 (hval 4 32 v4 rfl rfl) h4
  obtain ⟨a4, vp4, vo4, vl4, rfl, rp4, ro4, rl4, len4, np4, no4, nl4⟩ := elem_advert2 _ _ _ hz4 ir4
  have ir5 : InReach Tryz.prog 32 d5 := fun m hm => by simpa using List.all_eq_true.1 hsz m (DataW.weights_mem_each (j := 5) rfl rfl m hm)
  obtain ⟨cs5, n5, rfl, hz5⟩ := open_agg Tryz.underlying32 (hval 5 32 v5 rfl rfl) h5
  obtain ⟨a5, vp5, vo5, vl5, rfl, rp5, ro5, rl5, len5, np5, no5, nl5⟩ := elem_advert2 _ _ _ hz5 ir5
  have ir6 : InReach Tryz.prog 32 d6 := fun m hm => by simpa using List.all_eq_true.1 hsz m (DataW.weights_mem_each (j := 6) rfl rfl m hm)
  obtain ⟨cs6, n6, rfl, hz6⟩ := open_agg Tryz.underlying32 (hval 6 32 v6 rfl rfl) h6
  obtain ⟨a6, vp6, vo6, vl6, rfl, rp6, ro6, rl6, len6, np6, no6, nl6⟩ := elem_advert2 _ _ _ hz6 ir6
  refine (lawRtOrder_any a0 a1 a2 a3 _ vp4 vo4 vl4 vp5 vo5 vl5 vp6 vo6 vl6 a4 a5 a6 W hEnv rd3 ⟨⟨rp4, ro4, rl4⟩, by omega, by omega, by omega⟩ ⟨⟨rp5, ro5, rl5⟩, by omega, by omega, by omega⟩ ⟨⟨rp6, ro6, rl6⟩, by omega, by omega, by omega⟩).mono fun e W' ⟨he, hb⟩ => ?_
  subst he
  exact ⟨_, rfl, law_post laidOut hW' rfl (by kernel_rfl) Tryz.underlying4 (of_decide_eq_true (by kernel_rfl)) ⟨rfl, rfl, rfl⟩ hb⟩

theorem said : Rows.RoutesOrderSaid :=
  OpenClaim.holds_of_wide 3 Tryz.f3 rfl rfl rfl rfl rfl rfl rfl ⟨rfl, rfl, rfl, rfl, rfl⟩ rfl rfl rfl rfl rfl (by kernel_rfl) Tryz.func3 (by kernel_rfl)
    (of_decide_eq_true (by kernel_rfl)) (by unfold Func.isWrapper; first | (rw [if_pos (by decide +kernel)]; kernel_rfl) | (rw [if_neg (by decide +kernel)]; exact ⟨rfl, rfl⟩))
    (fun os started H enc _ => lifted os started H enc)

theorem plain (f : FuncId) (fn : Func) (hf : Tryz.pinned.checked.prog.funcNamed "waymark/waymarklaw08.RoutesOrder" = some f) (hfn : Tryz.pinned.checked.prog.funcs[f]? = some fn) :
    true = Tryz.pinned.checked.prog.looks [] ∧ ∀ (j : Nat) t, fn.params[j]? = some t → Tryz.pinned.checked.prog.wantsStandIn t = false := by
  obtain rfl : f = 3 := Option.some.inj ((show Tryz.prog.funcNamed "waymark/waymarklaw08.RoutesOrder" = some 3 by kernel_rfl).symm.trans hf) |>.symm
  obtain rfl : fn = Tryz.f3 := (Option.some.inj (Tryz.func3.symm.trans hfn)).symm
  refine ⟨by kernel_rfl, fun j t ht => ?_⟩
  rw [Tryz.params3] at ht
  have hm : t ∈ [27, 27, 27, 28, 32, 32, 32] := by simpa using Array.mem_of_getElem? ht
  have hall : ([27, 27, 27, 28, 32, 32, 32].all fun u => !Tryz.prog.wantsStandIn u) = true := by kernel_rfl
  exact (show Tryz.prog.wantsStandIn t = false by simpa using List.all_eq_true.1 hall t hm)
theorem proved : Rows.RoutesOrderCardSaid :=
  Claim7.holds_tied_plain_at .later [] _ _ _ _ said (fun _ h => by cases h) (by kernel_rfl) (fun _ h => by cases h) routesOrder_row_tie rfl ⟨rfl, rfl⟩ (by kernel_rfl) rfl plain (by kernel_rfl)
end Go.Proofs.YtlhafehhkjjchaaGreatDoor.routesOrder

/-
  RewriteKinds: the two kinds of rewrites do not touch one another, and what stands behind the same filter never applies: the law answers true at all rewrites, filters, every header and address, with no condition.
-/
import Derived.Test.YtdjikiakcfbklaaGreatMRewriteKinds1
import Derived.Test.YtdjikiakcfbklaaGreatMRewriteKinds13
import Derived.Test.YtdjikiakcfbklaaGreatMRewriteKinds14
import Derived.Lib.SmallJoins
namespace Go.Proofs.YtdjikiakcfbklaaGreat.rewriteKinds
open Go Go.ChangeShapes Go.WideShapes Go.ChangeAt Go.RowKit Go.Joins

set_option maxRecDepth 100000 in
set_option maxHeartbeats 1000000 in
theorem lifted (os : Os) (started : os.Started) (H : Type) (enc : TypeId × Value → H) :
    ReturnsInHanded {} Tryz.checked os 3 .any (Rows.rewriteKindsSpec.pre6 enc Tryz.prog Tryz.f3 Rows.rewriteKindsRow.domain false) (Rows.rewriteKindsSpec.post enc Tryz.prog Tryz.f3 false true false false) := by
  refine returnsInHanded_of_change_sized (C := Tryz.checked) own started (by kernel_rfl) Tryz.func3
    (ChangeSpec.witness6 (enc := enc) (C := Tryz.checked) false ⟨#[], #[.slice none 0 0, .slice none 0 0, .agg #[.int .u32 0, .int .u32 0, .int .u8 0, .int .u16 0, .int .u16 0], .int .u32 0], []⟩ 8 (by kernel_rfl) (by kernel_rfl) (by kernel_rfl) (by kernel_rfl)) ?_
  intro W base args ds gs before hval0 hW hcnd hsz0 hholds
  have hval : ∀ (j : Nat) t v, Tryz.f3.params[j]? = some t → args[j]? = some v → Value.okWide Tryz.prog W .any base t v := hval0
  have hW' := hW
  obtain ⟨p, q, hA0, hV, rfl, hfz, hnd⟩ := hW
  have hA : DataW.TrodAll enc Tryz.prog W 0 (fun _ => true) true Tryz.f3.params.toList args.toList ds p := hA0
  have hsz : (DataW.weightsEach Tryz.prog (Tryz.f3.params.toList ++ Rows.rewriteKindsSpec.plain.varTypes Tryz.prog) (ds ++ gs)).all (· ≤ reachBytes) = true := hsz0
  rw [Tryz.params3] at hA hval hsz
  obtain ⟨v0, vs0, d0, ds0, p0, q0, hargs, rfl, rfl, h0, r0⟩ := trodAll_cons hA
  obtain ⟨v1, vs1, d1, ds1, p1, q1, rfl, rfl, rfl, h1, r1⟩ := trodAll_cons r0
  obtain ⟨v2, vs2, d2, ds2, p2, q2, rfl, rfl, rfl, h2, r2⟩ := trodAll_cons r1
  obtain ⟨v3, vs3, d3, ds3, p3, q3, rfl, rfl, rfl, h3, r3⟩ := trodAll_cons r2
  obtain ⟨rfl, rfl, rfl⟩ := trodAll_nil r3
  obtain rfl : args = #[v0, v1, v2, v3] := by cases args; simp_all
  obtain ⟨rfl, rfl⟩ := trodVars_none hV
  have ir0 : InReach Tryz.prog 22 d0 := fun m hm => by simpa using List.all_eq_true.1 hsz m (DataW.weights_mem_each (j := 0) rfl rfl m hm)
  obtain ⟨n0, hz0⟩ := open_sl Tryz.underlying22 (hval 0 22 v0 rfl rfl) h0
  obtain ⟨_, a0, hv0, rd0, len0, _, big0⟩ := open_rd2 (Q := fun _ => True) rew_len (by decide) Tryz.underlying22 (by kernel_rfl) (fun n cs y h _ => (elem_rew n cs y h).elim fun r hr => ⟨r, hr, trivial⟩) hz0 ir0
  obtain rfl := (List.cons.inj hv0).1
  rw [show Tryz.prog.bytesOf 33 = 32 from by kernel_rfl] at big0
  have bg0 : a0.length * 32 ≤ 140737488355328 := Nat.le_trans big0 (by decide)
  have ir1 : InReach Tryz.prog 23 d1 := fun m hm => by simpa using List.all_eq_true.1 hsz m (DataW.weights_mem_each (j := 1) rfl rfl m hm)
  obtain ⟨n1, hz1⟩ := open_sl Tryz.underlying23 (hval 1 23 v1 rfl rfl) h1
  obtain ⟨_, a1, hv1, rd1, len1, q1q, _⟩ := open_rd2 (Q := fun f : FiltV => Rd W W.heap.size 10 f.v f.L.length (rcells f.L) ∧ f.L.length * 64 ≤ 140737488355328) filt_len (by decide) Tryz.underlying23 (by kernel_rfl) elem_filt hz1 ir1
  obtain rfl := (List.cons.inj hv1).1
  have fs1 : FsAt W W.heap.size _ a1 := ⟨rd1, q1q⟩
  obtain ⟨cs2, n2, rfl, hz2⟩ := open_agg Tryz.underlying28 (hval 2 28 v2 rfl rfl) h2
  obtain ⟨a2, rfl⟩ := elem_header _ _ _ hz2
  obtain ⟨a3, rfl, rfl, rfl, w3⟩ := open_int Tryz.underlying25 (hval 3 25 v3 rfl rfl) h3
  have b3 := bounds_u32 w3
  refine (lawKinds_any a0 _ a1 _ a2 a3 ⟨by omega, by omega⟩ W rd0 fs1 (by unfold maxLen at len1; omega) (by omega)).mono fun e W' ⟨he, hb⟩ => ?_
  subst he
  exact ⟨_, rfl, law_post laidOut hW' rfl (by kernel_rfl) Tryz.underlying4 (of_decide_eq_true (by kernel_rfl)) ⟨rfl, rfl, rfl⟩ hb⟩

theorem proved : Rows.RewriteKindsSaid :=
  OpenClaim.holds_of_wide 3 Tryz.f3 rfl rfl rfl rfl rfl rfl rfl ⟨rfl, rfl, rfl, rfl, rfl⟩ rfl rfl rfl rfl rfl (by kernel_rfl) Tryz.func3 (by kernel_rfl)
    (of_decide_eq_true (by kernel_rfl)) (by unfold Func.isWrapper; first | (rw [if_pos (by decide +kernel)]; kernel_rfl) | (rw [if_neg (by decide +kernel)]; exact ⟨rfl, rfl⟩))
    (fun os started H enc _ => lifted os started H enc)

end Go.Proofs.YtdjikiakcfbklaaGreat.rewriteKinds

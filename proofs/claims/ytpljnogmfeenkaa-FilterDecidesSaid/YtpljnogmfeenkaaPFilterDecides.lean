/-
  FilterDecides: which rule decides, and what is permitted, is told of each header: the law answers true at every filter, all headers and every rule, with no condition.
-/
import Derived.Test.YtpljnogmfeenkaaLift
import Derived.Test.YtpljnogmfeenkaaLawFD
import Derived.Test.YtpljnogmfeenkaaElem1
import Derived.Lib.SmallJoins
namespace Go.Proofs.Ytpljnogmfeenkaa.filterDecides
open Go Go.ChangeShapes Go.WideShapes Go.ChangeAt Go.RowKit Go.Joins

set_option maxRecDepth 100000 in
set_option maxHeartbeats 1000000 in
theorem lifted (os : Os) (started : os.Started) (H : Type) (enc : TypeId × Value → H) :
    ReturnsInHanded {} Try.checked os 4 .any (Rows.filterDecidesSpec.pre6 enc Try.prog Try.f4 Rows.filterDecidesRow.domain false) (Rows.filterDecidesSpec.post enc Try.prog Try.f4 false true false false) := by
  refine returnsInHanded_of_change (C := Try.checked) own started (by kernel_rfl) Try.func4
    (ChangeSpec.witness6 (enc := enc) (C := Try.checked) false ⟨#[], #[.agg #[.string ByteArray.empty, .slice none 0 0], .slice none 0 0, .agg #[.bool false, .int .i64 0, .int .u32 0, .int .i64 0, .int .u32 0, .int .i64 0, .int .u32 0, .int .u32 0, .int .u32 0, .int .u32 0]], []⟩ 8 (by kernel_rfl) (by kernel_rfl) (by kernel_rfl) (by kernel_rfl)) ?_
  intro W base args ds gs before hval0 hW hcnd _
  have hval : ∀ (j : Nat) t v, Try.f4.params[j]? = some t → args[j]? = some v → Value.okWide Try.prog W .any base t v := hval0
  have hW' := hW
  obtain ⟨p, q, hA0, hV, rfl, hfz, hnd⟩ := hW
  have hA : DataW.TrodAll enc Try.prog W 0 (fun _ => true) true Try.f4.params.toList args.toList ds p := hA0
  rw [Try.params4] at hA hval
  obtain ⟨v0, vs0, d0, ds0, p0, q0, hargs, rfl, rfl, h0, r0⟩ := trodAll_cons hA
  obtain ⟨v1, vs1, d1, ds1, p1, q1, rfl, rfl, rfl, h1, r1⟩ := trodAll_cons r0
  obtain ⟨v2, vs2, d2, ds2, p2, q2, rfl, rfl, rfl, h2, r2⟩ := trodAll_cons r1
  obtain ⟨rfl, rfl, rfl⟩ := trodAll_nil r2
  obtain rfl : args = #[v0, v1, v2] := by cases args; simp_all
  obtain ⟨rfl, rfl⟩ := trodVars_none hV
  obtain ⟨cs0, n0, rfl, hz0⟩ := open_agg Try.underlying34 (hval 0 34 v0 rfl rfl) h0
  obtain ⟨nm0, u0, a0, rfl, rd0, len0⟩ := elem_filter _ _ _ hz0
  obtain ⟨n1, hz1⟩ := open_sl Try.underlying35 (hval 1 35 v1 rfl rfl) h1
  obtain ⟨_, a1, hv1, rd1, len1⟩ := open_rd header_len (by decide) Try.underlying35 (by kernel_rfl) elem_header hz1
  obtain rfl := (List.cons.inj hv1).1
  obtain ⟨cs2, n2, rfl, hz2⟩ := open_agg Try.underlying39 (hval 2 39 v2 rfl rfl) h2
  obtain ⟨a2, rfl⟩ := elem_rule _ _ _ hz2
  refine (lawFD_any nm0 a0 _ a1 _ a2 W rd0 rd1).mono fun e W' ⟨he, hb⟩ => ?_
  subst he
  exact ⟨_, rfl, law_post laidOut hW' rfl (by kernel_rfl) Try.underlying4 (of_decide_eq_true (by kernel_rfl)) ⟨rfl, rfl, rfl⟩ hb⟩

theorem proved : Rows.FilterDecidesSaid :=
  OpenClaim.holds_of_wide 4 Try.f4 rfl rfl rfl rfl rfl rfl rfl ⟨rfl, rfl, rfl, rfl, rfl⟩ rfl rfl rfl rfl rfl (by kernel_rfl) Try.func4 (by kernel_rfl)
    (of_decide_eq_true (by kernel_rfl)) (by unfold Func.isWrapper; first | (rw [if_pos (by decide +kernel)]; kernel_rfl) | (rw [if_neg (by decide +kernel)]; exact ⟨rfl, rfl⟩))
    (fun os started H enc _ => lifted os started H enc)

end Go.Proofs.Ytpljnogmfeenkaa.filterDecides

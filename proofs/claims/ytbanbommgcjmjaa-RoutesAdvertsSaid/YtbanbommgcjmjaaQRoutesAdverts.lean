/-
  RoutesAdverts: adverts are put in order, each once, and held against each other, as the document says, in new memory, each list by itself: the law answers true at any two lists of adverts, with no condition.
-/
import Derived.Test.YtbanbommgcjmjaaMRoutesAdverts1
import Derived.Test.YtbanbommgcjmjaaMRoutesAdverts13
import Derived.Test.YtbanbommgcjmjaaMRoutesAdverts14
import Derived.Lib.SmallJoins
namespace Go.Proofs.Ytbanbommgcjmjaa.routesAdverts
open Go Go.ChangeShapes Go.WideShapes Go.ChangeAt Go.RowKit Go.Joins

set_option maxRecDepth 100000 in
set_option maxHeartbeats 1000000 in
theorem lifted (os : Os) (started : os.Started) (H : Type) (enc : TypeId × Value → H) :
    ReturnsInHanded {} Try.checked os 4 .any (Rows.routesAdvertsSpec.pre6 enc Try.prog Try.f4 Rows.routesAdvertsRow.domain false) (Rows.routesAdvertsSpec.post enc Try.prog Try.f4 false true false false) := by
  refine returnsInHanded_of_change_sized (C := Try.checked) own started (by kernel_rfl) Try.func4
    (ChangeSpec.witness6 (enc := enc) (C := Try.checked) false ⟨#[], #[.slice none 0 0, .slice none 0 0], []⟩ 8 (by kernel_rfl) (by kernel_rfl) (by kernel_rfl) (by kernel_rfl)) ?_
  intro W base args ds gs before hval0 hW hcnd hsz0 hholds
  have hval : ∀ (j : Nat) t v, Try.f4.params[j]? = some t → args[j]? = some v → Value.okWide Try.prog W .any base t v := hval0
  have hW' := hW
  obtain ⟨p, q, hA0, hV, rfl, hfz, hnd⟩ := hW
  have hA : DataW.TrodAll enc Try.prog W 0 (fun _ => true) true Try.f4.params.toList args.toList ds p := hA0
  have hsz : (DataW.weightsEach Try.prog (Try.f4.params.toList ++ Rows.routesAdvertsSpec.plain.varTypes Try.prog) (ds ++ gs)).all (· ≤ reachBytes) = true := hsz0
  rw [Try.params4] at hA hval hsz
  obtain ⟨v0, vs0, d0, ds0, p0, q0, hargs, rfl, rfl, h0, r0⟩ := trodAll_cons hA
  obtain ⟨v1, vs1, d1, ds1, p1, q1, rfl, rfl, rfl, h1, r1⟩ := trodAll_cons r0
  obtain ⟨rfl, rfl, rfl⟩ := trodAll_nil r1
  obtain rfl : args = #[v0, v1] := by cases args; simp_all
  obtain ⟨rfl, rfl⟩ := trodVars_none hV
  have ir0 : InReach Try.prog 32 d0 := fun m hm => by simpa using List.all_eq_true.1 hsz m (DataW.weights_mem_each (j := 0) rfl rfl m hm)
  obtain ⟨n0, hz0⟩ := open_sl Try.underlying32 (hval 0 32 v0 rfl rfl) h0
  obtain ⟨_, a0, hv0, rd0, len0, ok0, _⟩ := open_rd2 (Q := fun r : AdX => AdOk W W.heap.size r ∧ AdNil r ∧ LenK r) ad_len (by decide) Try.underlying32 (by kernel_rfl) elem_advertX hz0 ir0
  obtain rfl := (List.cons.inj hv0).1
  have ir1 : InReach Try.prog 32 d1 := fun m hm => by simpa using List.all_eq_true.1 hsz m (DataW.weights_mem_each (j := 1) rfl rfl m hm)
  obtain ⟨n1, hz1⟩ := open_sl Try.underlying32 (hval 1 32 v1 rfl rfl) h1
  obtain ⟨_, a1, hv1, rd1, len1, ok1, _⟩ := open_rd2 (Q := fun r : AdX => AdOk W W.heap.size r ∧ AdNil r ∧ LenK r) ad_len (by decide) Try.underlying32 (by kernel_rfl) elem_advertX hz1 ir1
  obtain rfl := (List.cons.inj hv1).1
  refine (lawAdverts_any a0 a1 _ _ W rd0 rd1 ok0 (fun x hx => (ok1 x hx).1)).mono fun e W' ⟨he, hb⟩ => ?_
  subst he
  exact ⟨_, rfl, law_post laidOut hW' rfl (by kernel_rfl) Try.underlying4 (of_decide_eq_true (by kernel_rfl)) ⟨rfl, rfl, rfl⟩ hb⟩

theorem proved : Rows.RoutesAdvertsSaid :=
  OpenClaim.holds_of_wide 4 Try.f4 rfl rfl rfl rfl rfl rfl rfl ⟨rfl, rfl, rfl, rfl, rfl⟩ rfl rfl rfl rfl rfl (by kernel_rfl) Try.func4 (by kernel_rfl)
    (of_decide_eq_true (by kernel_rfl)) (by unfold Func.isWrapper; first | (rw [if_pos (by decide +kernel)]; kernel_rfl) | (rw [if_neg (by decide +kernel)]; exact ⟨rfl, rfl⟩))
    (fun os started H enc _ => lifted os started H enc)

end Go.Proofs.Ytbanbommgcjmjaa.routesAdverts

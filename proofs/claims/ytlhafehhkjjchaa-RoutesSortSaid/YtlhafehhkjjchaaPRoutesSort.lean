/-
  RoutesSort: routes are put in order, each once, and held against each other, as the document says, in new memory: the law answers true at any two lists of routes, with no condition.
-/
import Derived.Test.YtlhafehhkjjchaaLift
import Derived.Test.YtlhafehhkjjchaaElemRo
import Derived.Lib.SmallJoins
namespace Go.Proofs.Ytlhafehhkjjchaa.routesSort
open Go Go.ChangeShapes Go.WideShapes Go.ChangeAt Go.RowKit Go.Joins

set_option maxRecDepth 100000 in
set_option maxHeartbeats 1000000 in
theorem lifted (os : Os) (started : os.Started) (H : Type) (enc : TypeId × Value → H) :
    ReturnsInHanded {} Try.checked os 3 .any (Rows.routesSortSpec.pre6 enc Try.prog Try.f3 Rows.routesSortRow.domain false) (Rows.routesSortSpec.post enc Try.prog Try.f3 false true false false) := by
  refine returnsInHanded_of_change_sized (C := Try.checked) own started (by kernel_rfl) Try.func3
    (ChangeSpec.witness6 (enc := enc) (C := Try.checked) false ⟨#[], #[.slice none 0 0, .slice none 0 0], []⟩ 8 (by kernel_rfl) (by kernel_rfl) (by kernel_rfl) (by kernel_rfl)) ?_
  intro W base args ds gs before hval0 hW hcnd hsz0 hholds
  have hval : ∀ (j : Nat) t v, Try.f3.params[j]? = some t → args[j]? = some v → Value.okWide Try.prog W .any base t v := hval0
  have hW' := hW
  obtain ⟨p, q, hA0, hV, rfl, hfz, hnd⟩ := hW
  have hA : DataW.TrodAll enc Try.prog W 0 (fun _ => true) true Try.f3.params.toList args.toList ds p := hA0
  have hsz : (DataW.weightsEach Try.prog (Try.f3.params.toList ++ Rows.routesSortSpec.plain.varTypes Try.prog) (ds ++ gs)).all (· ≤ reachBytes) = true := hsz0
  rw [Try.params3] at hA hval hsz
  obtain ⟨v0, vs0, d0, ds0, p0, q0, hargs, rfl, rfl, h0, r0⟩ := trodAll_cons hA
  obtain ⟨v1, vs1, d1, ds1, p1, q1, rfl, rfl, rfl, h1, r1⟩ := trodAll_cons r0
  obtain ⟨rfl, rfl, rfl⟩ := trodAll_nil r1
  obtain rfl : args = #[v0, v1] := by cases args; simp_all
  obtain ⟨rfl, rfl⟩ := trodVars_none hV
  have ir0 : InReach Try.prog 22 d0 := fun m hm => by simpa using List.all_eq_true.1 hsz m (DataW.weights_mem_each (j := 0) rfl rfl m hm)
  obtain ⟨n0, hz0⟩ := open_sl Try.underlying22 (hval 0 22 v0 rfl rfl) h0
  obtain ⟨_, a0, hv0, rd0, len0, _, big0⟩ := open_rd2 (Q := fun _ => True) route_len (by decide) Try.underlying22 (by kernel_rfl) (fun n cs y h _ => (elem_routeV n cs y h).elim fun r hr => ⟨r, hr, trivial⟩) hz0 ir0
  obtain rfl := (List.cons.inj hv0).1
  have nil0 := route_nil hz0
  have ir1 : InReach Try.prog 22 d1 := fun m hm => by simpa using List.all_eq_true.1 hsz m (DataW.weights_mem_each (j := 1) rfl rfl m hm)
  obtain ⟨n1, hz1⟩ := open_sl Try.underlying22 (hval 1 22 v1 rfl rfl) h1
  obtain ⟨_, a1, hv1, rd1, len1, _, big1⟩ := open_rd2 (Q := fun _ => True) route_len (by decide) Try.underlying22 (by kernel_rfl) (fun n cs y h _ => (elem_routeV n cs y h).elim fun r hr => ⟨r, hr, trivial⟩) hz1 ir1
  obtain rfl := (List.cons.inj hv1).1
  have nil1 := route_nil hz1
  refine (lawSortR_any a0 a1 _ _ W rd0 rd1 nil0).mono fun e W' ⟨he, hb⟩ => ?_
  subst he
  exact ⟨_, rfl, law_post laidOut hW' rfl (by kernel_rfl) Try.underlying4 (of_decide_eq_true (by kernel_rfl)) ⟨rfl, rfl, rfl⟩ hb⟩

theorem proved : Rows.RoutesSortSaid :=
  OpenClaim.holds_of_wide 3 Try.f3 rfl rfl rfl rfl rfl rfl rfl ⟨rfl, rfl, rfl, rfl, rfl⟩ rfl rfl rfl rfl rfl (by kernel_rfl) Try.func3 (by kernel_rfl)
    (of_decide_eq_true (by kernel_rfl)) (by unfold Func.isWrapper; first | (rw [if_pos (by decide +kernel)]; kernel_rfl) | (rw [if_neg (by decide +kernel)]; exact ⟨rfl, rfl⟩))
    (fun os started H enc _ => lifted os started H enc)

end Go.Proofs.Ytlhafehhkjjchaa.routesSort

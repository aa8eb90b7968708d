/-
  SpansPieces: numbers are cut just where a set begins or ends, as the document says, in new memory: the law answers true at every greatest number and all sets, where what it reads is of bulk at most 1048576.
-/
import Derived.Test.YthgmmajoinkblaaLift
import Derived.Test.YthgmmajoinkblaaLawSpPcs
import Derived.Test.YthgmmajoinkblaaElem5
import Derived.Lib.SmallJoins
import Derived.Deep.CondSized
namespace Go.Proofs.Ythgmmajoinkblaa.spansPieces
open Go Go.ChangeShapes Go.WideShapes Go.ChangeAt Go.RowKit Go.Joins

set_option maxRecDepth 100000 in
set_option maxHeartbeats 1000000 in
theorem lifted (os : Os) (started : os.Started) (H : Type) (enc : TypeId × Value → H) (F : Stop.Interp) :
    ReturnsInHanded {} Try.checked os 4 .any ((Rows.OpenSpec.upto Rows.spansPiecesSpec).pre6 enc Try.prog Try.f4 Rows.spansPiecesUptoRow.domain false) (((Rows.OpenSpec.upto Rows.spansPiecesSpec).at F).post enc Try.prog Try.f4 false true false false) := by
  refine returnsInHanded_of_cond_sized (C := Try.checked) (s := Rows.OpenSpec.upto Rows.spansPiecesSpec) (k := Rows.uptoSmall) rfl own started (by kernel_rfl) Try.func4
    (OpenSpec.witness (enc := enc) (C := Try.checked) (s := Rows.OpenSpec.upto Rows.spansPiecesSpec) (k := Rows.uptoSmall) rfl false ⟨#[], #[.int .u32 0, .slice none 0 0], []⟩ 8 (by kernel_rfl) (by kernel_rfl) (by kernel_rfl)
      (x := ([.lit (.int .u32 0), .nil], [], [])) (by kernel_rfl) rfl (by kernel_rfl)) ?_
  intro W base args ds gs before hval0 hW hcnd _ hsz0 hholds
  have hval : ∀ (j : Nat) t v, Try.f4.params[j]? = some t → args[j]? = some v → Value.okWide Try.prog W .any base t v := hval0
  have hW' := hW
  obtain ⟨p, q, hA0, hV, rfl, hfz, hnd⟩ := hW
  have hA : DataW.TrodAll enc Try.prog W 0 (fun _ => true) true Try.f4.params.toList args.toList ds p := hA0
  have hsz : (DataW.weightsEach Try.prog (Try.f4.params.toList ++ Rows.spansPiecesSpec.plain.varTypes Try.prog) (ds ++ gs)).all (· ≤ reachBytes) = true := hsz0
  rw [Try.params4] at hA hval hsz
  obtain ⟨v0, vs0, d0, ds0, p0, q0, hargs, rfl, rfl, h0, r0⟩ := trodAll_cons hA
  obtain ⟨v1, vs1, d1, ds1, p1, q1, rfl, rfl, rfl, h1, r1⟩ := trodAll_cons r0
  obtain ⟨rfl, rfl, rfl⟩ := trodAll_nil r1
  obtain rfl : args = #[v0, v1] := by cases args; simp_all
  obtain ⟨rfl, rfl⟩ := trodVars_none hV
  obtain ⟨a0, rfl, rfl, rfl, w0⟩ := open_int Try.underlying23 (hval 0 23 v0 rfl rfl) h0
  have b0 := bounds_u32 w0
  have ir1 : InReach Try.prog 35 d1 := fun m hm => by simpa using List.all_eq_true.1 hsz m (DataW.weights_mem_each (j := 1) rfl rfl m hm)
  obtain ⟨n1, hz1⟩ := open_sl Try.underlying35 (hval 1 35 v1 rfl rfl) h1
  obtain ⟨_, a1, hv1, rd1, len1, q1q, big1⟩ := open_rd2 (Q := fun s : SetV => Rd W W.heap.size 2 s.v s.L.length (scells s.L) ∧ s.L.length ≤ 17592186044416) set_len (by decide) Try.underlying35 (by kernel_rfl) elem_setB hz1 ir1
  obtain rfl := (List.cons.inj hv1).1
  rw [svals_flat] at rd1
  refine (show Calls _ _ _ _ (fun e w' => e = .returned (.bool true) ∧ Below W.heap.size W w') from lawPcs_any a1 _ a0 W ⟨rd1, fun x hx => (q1q x hx).1⟩ ⟨by omega, by omega⟩ fun x hx => (q1q x hx).2).mono fun e W' ⟨he, hb⟩ => ?_
  subst he
  exact ⟨_, rfl, law_post laidOut hW' rfl (by kernel_rfl) Try.underlying4 (of_decide_eq_true (by kernel_rfl)) ⟨rfl, rfl, rfl⟩ hb⟩

theorem proved : Rows.SpansPiecesUptoSaid :=
  OpenClaim.holds_of_cond 4 Try.f4 rfl rfl rfl rfl rfl rfl rfl ⟨rfl, rfl, rfl, rfl, rfl⟩ rfl rfl rfl rfl rfl (by kernel_rfl) Try.func4 (by kernel_rfl)
    (of_decide_eq_true (by kernel_rfl)) (by unfold Func.isWrapper; first | (rw [if_pos (by decide +kernel)]; kernel_rfl) | (rw [if_neg (by decide +kernel)]; exact ⟨rfl, rfl⟩))
    (fun os started H enc _ F => lifted os started H enc F)

end Go.Proofs.Ythgmmajoinkblaa.spansPieces

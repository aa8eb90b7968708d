/-
  LintRewrites: a rewriting that is found is never done: the law answers true at every device and all headers, where what it reads is of bulk at most 1048576.
-/
import Derived.Test.YthhcaoljejifeaaGreatMLintRewrites1
import Derived.Test.YthhcaoljejifeaaGreatMLintRewrites14
import Derived.Lib.SmallJoins
import Derived.Deep.CondSized
namespace Go.Proofs.YthhcaoljejifeaaGreat.lintRewrites
open Go Go.ChangeShapes Go.WideShapes Go.ChangeAt Go.RowKit Go.Joins

set_option maxRecDepth 100000 in
set_option maxHeartbeats 1000000 in
theorem lifted (os : Os) (started : os.Started) (H : Type) (enc : TypeId × Value → H) (F : Stop.Interp) :
    ReturnsInHanded {} Tryz.checked os 3 .any ((Rows.OpenSpec.upto Rows.lintRewritesSpec).pre6 enc Tryz.prog Tryz.f3 Rows.lintRewritesUptoRow.domain false) (((Rows.OpenSpec.upto Rows.lintRewritesSpec).at F).post enc Tryz.prog Tryz.f3 false true false false) := by
  refine returnsInHanded_of_cond_sized (C := Tryz.checked) (s := Rows.OpenSpec.upto Rows.lintRewritesSpec) (k := Rows.uptoSmall) rfl own started (by kernel_rfl) Tryz.func3
    (OpenSpec.witness (enc := enc) (C := Tryz.checked) (s := Rows.OpenSpec.upto Rows.lintRewritesSpec) (k := Rows.uptoSmall) rfl false ⟨#[], #[.agg #[.string ByteArray.empty, .int .u8 0, .slice none 0 0, .slice none 0 0, .slice none 0 0, .slice none 0 0, .slice none 0 0, .slice none 0 0, .slice none 0 0, .slice none 0 0, .slice none 0 0, .slice none 0 0], .slice none 0 0], []⟩ 8 (by kernel_rfl) (by kernel_rfl) (by kernel_rfl)
      (x := ([.agg [.lit (.string []), .lit (.int .u8 0), .nil, .nil, .nil, .nil, .nil, .nil, .nil, .nil, .nil, .nil], .nil], [], [])) (by kernel_rfl) rfl (by kernel_rfl)) ?_
  intro W base args ds gs before hval0 hW hcnd hbk hsz0 hholds
  have hval : ∀ (j : Nat) t v, Tryz.f3.params[j]? = some t → args[j]? = some v → Value.okWide Tryz.prog W .any base t v := hval0
  have hW' := hW
  obtain ⟨p, q, hA0, hV, rfl, hfz, hnd⟩ := hW
  have hA : DataW.TrodAll enc Tryz.prog W 0 (fun _ => true) true Tryz.f3.params.toList args.toList ds p := hA0
  rw [Tryz.params3] at hA hval
  obtain ⟨v0, vs0, d0, ds0, p0, q0, hargs, rfl, rfl, h0, r0⟩ := trodAll_cons hA
  obtain ⟨v1, vs1, d1, ds1, p1, q1, rfl, rfl, rfl, h1, r1⟩ := trodAll_cons r0
  obtain ⟨rfl, rfl, rfl⟩ := trodAll_nil r1
  obtain rfl : args = #[v0, v1] := by cases args; simp_all
  obtain ⟨rfl, rfl⟩ := trodVars_none hV
  have hbk2 : Rows.uptoBulkAll [d0, d1] ≤ 1048576 := by simpa [Rows.uptoSmall] using hbk
  have B0 : Bk d0 := Nat.le_trans (bulk_mem (List.mem_cons_self ..)) hbk2
  have B1 : Bk d1 := Nat.le_trans (bulk_mem (List.mem_cons_of_mem _ (List.mem_cons_self ..))) hbk2
  obtain ⟨cs0, n0, rfl, hz0⟩ := open_agg Tryz.underlying33 (hval 0 33 v0 rfl rfl) h0
  obtain ⟨c0, c1, c2, c6, c10, c11, vI, vF, vR, vP, vC, vQ, nI, Fs, R, P, C, Q, rfl, hI, hF, hR, hP, hC, hQ, b1, b2, b3, b4, b5⟩ := elem_devB _ _ _ hz0 B0
  obtain ⟨n1, hz1⟩ := open_sl Tryz.underlying34 (hval 1 34 v1 rfl rfl) h1
  obtain ⟨_, a1, hv1, rd1, _⟩ := open_rdB (Q := fun _ : HeaderV => True) header_len (by decide) Tryz.underlying34 (by kernel_rfl) (fun n cs y h _ => (elem_header n cs y h).elim fun r hr => ⟨r, hr, trivial⟩) hz1 B1
  obtain rfl := (List.cons.inj hv1).1
  refine (lawLintRw_any W c0 c1 c2 c6 c10 c11 vI vF vR vP vC vQ _ nI Fs R P C Q a1 hI hF hR hP hC hQ rd1 b1 b2 b3 b4 b5).mono fun e W' ⟨he, hb⟩ => ?_
  subst he
  exact ⟨_, rfl, law_post laidOut hW' rfl (by kernel_rfl) Tryz.underlying4 (of_decide_eq_true (by kernel_rfl)) ⟨rfl, rfl, rfl⟩ hb⟩

theorem proved : Rows.LintRewritesUptoSaid :=
  OpenClaim.holds_of_cond 3 Tryz.f3 rfl rfl rfl rfl rfl rfl rfl ⟨rfl, rfl, rfl, rfl, rfl⟩ rfl rfl rfl rfl rfl (by kernel_rfl) Tryz.func3 (by kernel_rfl)
    (of_decide_eq_true (by kernel_rfl)) (by unfold Func.isWrapper; first | (rw [if_pos (by decide +kernel)]; kernel_rfl) | (rw [if_neg (by decide +kernel)]; exact ⟨rfl, rfl⟩))
    (fun os started H enc _ F => lifted os started H enc F)

end Go.Proofs.YthhcaoljejifeaaGreat.lintRewrites

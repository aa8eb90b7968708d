/-
  What the sets' operations make, by members, lengths and counts. No program in sight.
-/
import Derived.Test.YtpljnogmfeenkaaSpMath4
namespace Go.Proofs.Ytpljnogmfeenkaa

def Real (P : Int → Bool) : Prop := ∃ R : List SpanV, NF R ∧ ∀ x, hasB R x = P x
theorem Real.ok {P : Int → Bool} (h : Real P) : NF (theSet P) ∧ ∀ x, hasB (theSet P) x = P x := by
  obtain ⟨R, h1, h2⟩ := h
  rw [theSet_eq h1 h2]
  exact ⟨h1, h2⟩
theorem Real.of {P : Int → Bool} {K : List SpanV} (h : ∀ x, hasB K x = P x) : Real P := ⟨formOf K, (formOf_ok K).1, fun x => by rw [(formOf_ok K).2, h]⟩
def orP (L M : List SpanV) : Int → Bool := fun x => hasB L x || hasB M x
def andP (L M : List SpanV) : Int → Bool := fun x => hasB L x && hasB M x
def lessP' (L M : List SpanV) : Int → Bool := fun x => hasB L x && !hasB M x
theorem real_or (L M : List SpanV) : Real (orP L M) := Real.of (K := L ++ M) (fun x => hasB_append L M x)
theorem real_and (L M : List SpanV) : Real (andP L M) := Real.of (K := meetAll L M) (fun x => hasB_meetAll L M x)
theorem real_not {most : Int} (hm : 0 ≤ most ∧ most < 4294967296) (L : List SpanV) : Real (notP most L) := ⟨notAll most (formOf L), (notAll_ok (formOf_ok L).1 hm).1, fun x => by rw [(notAll_ok (formOf_ok L).1 hm).2, notP_form]⟩
theorem less_eq (L M : List SpanV) : lessP' L M = andP L (theSet (notP 4294967295 M)) := by
  funext x
  unfold lessP' andP
  rw [(real_not (by omega) M).ok.2]
  unfold notP
  cases h : hasB L x with
  | false => rfl
  | true =>
    obtain ⟨s, _, h1, h2⟩ := hasB_iff.1 h
    have := s.hlo
    have := s.hhi
    have e1 : 0 ≤ x := by omega
    have e2 : x ≤ 4294967295 := by omega
    simp [e1, e2]
theorem real_less (L M : List SpanV) : Real (lessP' L M) := by rw [less_eq]; exact real_and _ _
theorem or_len (L M : List SpanV) : (theSet (orP L M)).length ≤ L.length + M.length := by
  rw [theSet_form (P := orP L M) (L := L ++ M) (fun x => hasB_append L M x)]
  have := formOf_len (L ++ M)
  rw [List.length_append] at this
  exact this
theorem and_len (L M : List SpanV) : (theSet (andP L M)).length ≤ L.length * M.length := by
  rw [theSet_form (P := andP L M) (L := meetAll L M) (fun x => hasB_meetAll L M x)]
  exact Nat.le_trans (formOf_len _) (meetAll_len L M)
theorem notS_len {most : Int} (hm : 0 ≤ most ∧ most < 4294967296) (L : List SpanV) : (theSet (notP most L)).length ≤ L.length + 1 := by
  rw [theSet_not hm]
  unfold notAll
  have h1 := notTo_len most (formOf L) (formOf L).length
  have h2 := formOf_len L
  have h3 : (lastOf (natAt (formOf L)) most).length ≤ 1 := by unfold lastOf; split <;> simp
  rw [List.length_append]; omega
theorem less_len (L M : List SpanV) : (theSet (lessP' L M)).length ≤ L.length * (M.length + 1) := by
  rw [less_eq]
  exact Nat.le_trans (and_len _ _) (Nat.mul_le_mul_left _ (notS_len (by omega) M))
/-- The numbers up to most. -/
def upto (most : Int) (hm : 0 ≤ most ∧ most < 4294967296) : SpanV := ⟨0, most, by omega, hm⟩
theorem upto_in {most : Int} (hm : 0 ≤ most ∧ most < 4294967296) (x : Int) : (upto most hm).inB x = (decide (0 ≤ x) && decide (x ≤ most)) := rfl
theorem and_not (most : Int) (hm : 0 ≤ most ∧ most < 4294967296) (L : List SpanV) : theSet (andP L (theSet (notP most L))) = [] := by
  refine theSet_eq trivial (fun x => ?_)
  unfold andP
  rw [(real_not hm L).ok.2, hasB_nil]
  unfold notP
  cases hasB L x <;> simp
theorem low_or (most : Int) (hm : 0 ≤ most ∧ most < 4294967296) (L : List SpanV) (x : Int) : (hasB (theSet (andP L [upto most hm])) x || hasB (theSet (notP most L)) x) = (upto most hm).inB x := by
  rw [(real_not hm L).ok.2, (real_and L [upto most hm]).ok.2]
  unfold notP andP
  rw [hasB_one, upto_in]
  cases hasB L x <;> cases decide (0 ≤ x) <;> cases decide (x ≤ most) <;> rfl
theorem low_both (most : Int) (hm : 0 ≤ most ∧ most < 4294967296) (L : List SpanV) (x : Int) : ¬ (hasB (theSet (andP L [upto most hm])) x = true ∧ hasB (theSet (notP most L)) x = true) := by
  rw [(real_not hm L).ok.2, (real_and L [upto most hm]).ok.2]
  unfold notP andP
  cases hasB L x <;> simp
theorem low_count (most : Int) (hm : 0 ≤ most ∧ most < 4294967296) (L : List SpanV) : cnt (theSet (andP L [upto most hm])) + cnt (theSet (notP most L)) = most + 1 := by
  obtain ⟨n, hn⟩ := big32
  rw [cnt_members hn (real_and L [upto most hm]).ok.1, cnt_members hn (real_not hm L).ok.1, ← cntP_add n (R := (upto most hm).inB) (fun x _ => ⟨(low_or most hm L x).symm, low_both most hm L x⟩), cntP_one _ (show 0 ≤ most from hm.1) n]
  show (if (n : Int) ≤ 0 then 0 else if (n : Int) ≤ most then (n : Int) - 0 else most - 0 + 1) = most + 1
  rw [if_neg (by omega), if_neg (by omega)]
  omega
theorem low_same (most : Int) (hm : 0 ≤ most ∧ most < 4294967296) (L : List SpanV) : formOf (theSet (orP (theSet (andP L [upto most hm])) (theSet (notP most L)))) = formOf [upto most hm] := by
  have h := (real_or (theSet (andP L [upto most hm])) (theSet (notP most L))).ok
  refine theSet_form (P := hasB (theSet (orP _ _))) (L := [upto most hm]) (fun x => ?_)
  rw [h.2, hasB_one]
  exact (low_or most hm L x).symm
theorem formOf_set {P : Int → Bool} (h : Real P) : formOf (theSet P) = theSet P := theSet_eq h.ok.1 (fun _ => rfl)

end Go.Proofs.Ytpljnogmfeenkaa

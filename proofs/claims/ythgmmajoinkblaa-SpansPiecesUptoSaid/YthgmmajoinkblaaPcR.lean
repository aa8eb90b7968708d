/-
  What Pieces hands back: the pieces between the starts.
-/
import Derived.Test.YthgmmajoinkblaaSp9
import Derived.Test.YthgmmajoinkblaaSpMath6
namespace Go.Proofs.Ythgmmajoinkblaa
open Go Go.RowKit Go.Lib Go.Sort

/-- The sets' lists. -/
def setsL (S : List SetV) : List (List SpanV) := S.map (·.L)
theorem pcs_zero {most : Int} (hm : 0 ≤ most ∧ most < 4294967296) : scells (pcs most 0 []) = [.int .u32 0, .int .u32 most] := by
  show [Value.int .u32 (0 % 4294967296), .int .u32 (most % 4294967296)] = _
  rw [Int.emod_eq_of_lt hm.1 hm.2]
  rfl
theorem pcs_step {most : Int} {C : List Int} {k : Nat} {x : Int} (hx : C[k]? = some x) (h0 : 0 < x) (h1 : x ≤ most) (hm : most < 4294967296) :
    ∃ (A : List SpanV) (t y : SpanV), A.length = k ∧ pcs most 0 (C.take k) = A ++ [t] ∧ y.lo = t.lo ∧ y.hi = x - 1 ∧ pcs most 0 (C.take (k + 1)) = A ++ [y] ++ [⟨x, most, by omega, by omega⟩] := by
  have hk : k < C.length := (List.getElem?_eq_some_iff.1 hx).1
  refine ⟨pin 0 (C.take k), spanAt (plast 0 (C.take k)) most, spanAt (plast 0 (C.take k)) (x - 1), ?_, rfl, rfl, ?_, ?_⟩
  · rw [pin_len, List.length_take]; omega
  · show (x - 1) % 4294967296 = x - 1
    omega
  · rw [List.take_add_one, hx, Option.toList_some, pcs_snoc]
    congr 2
    unfold spanAt
    congr 1 <;> omega
/-- What Pieces hands back. -/
def PiecesRes (most : Int) (T : List (List SpanV)) (w : World) (e : Ending) (w' : World) : Prop :=
  ∃ (v : Value) (k : Int) (C : List Int), e = .returned (.tuple #[v, .int .i64 k]) ∧ StartsOf most T C ∧
    (C.length < 65536 ∧ k = 0 ∧ w'.ownsRow w.heap.size 44 2 v (pcs most 0 C).length (scells (pcs most 0 C)) ∨ 65536 ≤ C.length ∧ k = 1 ∧ v = .slice none 0 0) ∧ Below w.heap.size w w'
/-- The pieces that the document's cuts make. -/
def dout (most : Int) (T : List (List SpanV)) : List Int → List SpanV
  | [] => []
  | a :: q => pcs most a (q.filter (turnB T))
theorem dout_skip {most : Int} {T : List (List SpanV)} {r : List Int} {m : Nat} {c : Int} (hc : r[m]? = some c) (ht : turnB T c = false) : dout most T ((0 :: r).take (m + 1 + 1)) = dout most T ((0 :: r).take (m + 1)) := by
  show pcs most 0 ((r.take (m + 1)).filter (turnB T)) = pcs most 0 ((r.take m).filter (turnB T))
  rw [List.take_add_one, hc, Option.toList_some, List.filter_append]
  simp [ht]
theorem dout_step {most : Int} {T : List (List SpanV)} {r : List Int} {m : Nat} {c : Int} (hc : r[m]? = some c) (ht : turnB T c = true) (h0 : 0 < c) (h1 : c ≤ most) (hm : most < 4294967296) :
    ∃ (A : List SpanV) (t y : SpanV), dout most T ((0 :: r).take (m + 1)) = A ++ [t] ∧ A.length ≤ m ∧ y.lo = t.lo ∧ y.hi = c - 1 ∧ dout most T ((0 :: r).take (m + 1 + 1)) = A ++ [y] ++ [⟨c, most, by omega, by omega⟩] := by
  refine ⟨pin 0 ((r.take m).filter (turnB T)), spanAt (plast 0 ((r.take m).filter (turnB T))) most, spanAt (plast 0 ((r.take m).filter (turnB T))) (c - 1), rfl, ?_, rfl, ?_, ?_⟩
  · rw [pin_len]
    have := List.length_filter_le (turnB T) (r.take m)
    rw [List.length_take] at this
    omega
  · show (c - 1) % 4294967296 = c - 1
    omega
  · show pcs most 0 ((r.take (m + 1)).filter (turnB T)) = _
    rw [List.take_add_one, hc, Option.toList_some, List.filter_append]
    have e : [c].filter (turnB T) = [c] := by simp [ht]
    rw [e, pcs_snoc]
    congr 2
    unfold spanAt
    congr 1 <;> omega
theorem allS_flat (S : List SetV) : allS S = (setsL S).flatten := by simp [allS, setsL, List.flatMap_def]
end Go.Proofs.Ythgmmajoinkblaa

/-
  The walks of spans.Count, Least, Same, of slices.Equal at spans, and of the document's Count and Spans.
-/
import Derived.Test.YthgmmajoinkblaaSp10
namespace Go.Proofs.Ythgmmajoinkblaa
open Go Go.RowKit Go.Lib Go.Sort

theorem cnt_snoc (A : List SpanV) (s : SpanV) : cnt (A ++ [s]) = cnt A + (s.hi - s.lo + 1) := by rw [cnt_append]; simp [cnt]

set_option maxRecDepth 100000 in
set_option maxHeartbeats 4000000 in
theorem count_any (L : List SpanV) (vl : Value) (w : World) (hl : Rd w w.heap.size 2 vl L.length (scells L)) (hlen : L.length ≤ 1099511627776) :
    Calls Try.prog 38 #[vl] w fun e w' => e = .returned (.int .u64 (cnt (formOf L))) ∧ Below w.heap.size w w' := by
  have hF := formOf_ok L
  have hFl := formOf_len L
  generalize hFF : formOf L = F at *
  have HFF := Lib.hid hFF
  clear hFF
  go_enter Try.func38, Try.ntmps38
  go_wp2_with fail
  refine (form_any L vl w hl hlen).mono ?_
  rintro e w1 ⟨v1, rfl, hown1, hb1⟩
  rw [HFF.out] at hown1
  have rd1 := Rd.of_own hown1
  obtain ⟨A1, c1, rfl, hc1⟩ := rd1.form
  have HR := Lib.hid rd1
  have hsz1 := hb1.size
  clear rd1 hown1
  go_wp2_with fail
  go_loopw [3, 9] (fun n i wr => ∃ j : Nat, i = .int .i64 j ∧ j ≤ F.length ∧ n = .int .u64 (cnt (F.take j)) ∧ Below w1.heap.size w1 wr) (fun _ i _ => F.length - (intOf i).toNat)
  case atStart => exact ⟨0, rfl, by omega, rfl, Below.refl _ _⟩
  case round =>
    obtain ⟨j, rfl, hj, rfl, hnx⟩ := hrel
    have hsz := hnx.size
    by_cases hlt : j < F.length
    · have hI : (j : Int) < (F.length : Int) := by omega
      obtain ⟨s, hs⟩ : ∃ s, F[j]? = some s := ⟨_, List.getElem?_eq_getElem hlt⟩
      obtain ⟨b, off, c', hv, _, hbB, hcell⟩ := (HR.out.below hnx).posAt (by omega)
      injection hv with hv1 _ hv3
      subst hv1 hv3
      have f0 : wr.cell? ⟨b, off + j * 2, none⟩ = some (.int .u32 s.lo) := hcell j 0 _ (scell hs rfl)
      have f1 : wr.cell? ⟨b, off + j * 2 + 1, none⟩ = some (.int .u32 s.hi) := hcell j 1 _ (scell hs rfl)
      have hsv := hF.1.ok s (List.mem_of_getElem? hs)
      have hlo := s.hlo
      have hhi := s.hhi
      have hst := cnt_succ hs
      have hr1 := cnt_take_le hF.1 (j + 1)
      have hr0 := cnt_take_le hF.1 j
      rw [hst] at hr1
      have HST := Lib.hid hst
      clear hst hcell hs
      generalize cnt (F.take j) = n at *
      have e1 : (s.hi - s.lo) % 4294967296 = s.hi - s.lo := by omega
      have e2 : (s.hi - s.lo + 1) % 18446744073709551616 = s.hi - s.lo + 1 := by omega
      have e3 : (n + (s.hi - s.lo + 1)) % 18446744073709551616 = n + (s.hi - s.lo + 1) := by omega
      go_wp2
      exact ⟨⟨j + 1, by go_num, by omega, by rw [HST.out], hnx.alloc hsz _⟩, by simp only [intOf]; omega⟩
    · obtain rfl : j = F.length := by omega
      rw [List.take_length]
      go_wp2
      go_ret
      exact ⟨rfl, hb1.trans (hnx.mono hsz1)⟩

def leastOf (F : List SpanV) : Int × Bool := match F with | [] => (0, false) | s :: _ => (s.lo, true)
end Go.Proofs.Ythgmmajoinkblaa

/-
  The walks of spans.Has, and of the document's Has and so.
-/
import Derived.Test.YthgmmajoinkblaaSp3
import Derived.Test.YthgmmajoinkblaaSpMath4
import Derived.Test.YthgmmajoinkblaaShelf2
namespace Go.Proofs.Ythgmmajoinkblaa
open Go Go.RowKit Go.Lib Go.Sort

theorem hasB_hit {L : List SpanV} {j : Nat} {s : SpanV} {x : Int} (h : L[j]? = some s) (h1 : s.lo ≤ x) (h2 : x ≤ s.hi) : hasB L x = true := hasB_iff.2 ⟨s, List.mem_of_getElem? h, h1, h2⟩

set_option maxRecDepth 100000 in
set_option maxHeartbeats 1000000 in
theorem refHas_any (L : List SpanV) (vl : Value) (x : Int) (w : World) (hl : Rd w w.heap.size 2 vl L.length (scells L)) (hlen : L.length ≤ 1099511627776) :
    Calls Try.prog 17 #[vl, .int .u32 x] w fun e w' => e = .returned (.bool (hasB L x)) ∧ w = w' := by
  obtain ⟨A0, c0, rfl, hc0⟩ := hl.form
  have HL := Lib.hid hl
  clear hl
  go_enter Try.func17, Try.ntmps17
  go_wp2
  go_loop [5] (fun i => ∃ j : Nat, i = .int .i64 j ∧ j ≤ L.length ∧ Hid (hasB L x = hasB (L.drop j) x)) (fun i => L.length - (intOf i).toNat)
  case atStart => exact ⟨0, rfl, by omega, rfl⟩
  case round =>
    obtain ⟨j, rfl, hj, hno⟩ := hrel
    by_cases hlt : j < L.length
    · have hI : (j : Int) < (L.length : Int) := by omega
      obtain ⟨s, hs⟩ : ∃ s, L[j]? = some s := ⟨_, List.getElem?_eq_getElem hlt⟩
      obtain ⟨b, off, c', hv, _, hbB, hcell⟩ := HL.out.posAt (by omega)
      injection hv with hv1 _ hv3
      subst hv1 hv3
      have f0 : w.cell? ⟨b, off + j * 2, none⟩ = some (.int .u32 s.lo) := hcell j 0 _ (scell hs rfl)
      have f1 : w.cell? ⟨b, off + j * 2 + 1, none⟩ = some (.int .u32 s.hi) := hcell j 1 _ (scell hs rfl)
      have hd : L.drop j = s :: L.drop (j + 1) := by
        obtain ⟨hj', e⟩ := List.getElem?_eq_some_iff.1 hs
        rw [List.drop_eq_getElem_cons hj', e]
      have HD := Lib.hid hd
      have HS := Lib.hid hs
      clear hcell hd hs
      by_cases h1 : s.lo ≤ x
      · by_cases h2 : x ≤ s.hi
        · go_wp2
          go_ret
          exact ⟨ret_bool (hasB_hit HS.out h1 h2).symm, rfl⟩
        · go_wp2
          refine ⟨⟨j + 1, by go_num, by omega, ?_⟩, by simp only [intOf]; omega⟩
          show _ = _
          rw [hno.out, HD.out]
          simp [hasB, SpanV.inB]
          omega
      · go_wp2
        refine ⟨⟨j + 1, by go_num, by omega, ?_⟩, by simp only [intOf]; omega⟩
        show _ = _
        rw [hno.out, HD.out]
        simp [hasB, SpanV.inB]
        omega
    · obtain rfl : j = L.length := by omega
      go_wp2
      go_ret
      refine ⟨ret_bool ?_, rfl⟩
      rw [hno.out, List.drop_length]
      rfl

end Go.Proofs.Ythgmmajoinkblaa

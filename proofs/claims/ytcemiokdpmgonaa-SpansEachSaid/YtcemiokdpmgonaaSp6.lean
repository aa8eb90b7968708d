/-
  The walks of spans.Has, and of the document's Has and so.
-/
import Derived.Test.YtcemiokdpmgonaaSp3
import Derived.Test.YtcemiokdpmgonaaSpMath4
import Derived.Test.YtcemiokdpmgonaaShelf2
namespace Go.Proofs.Ytcemiokdpmgonaa
open Go Go.RowKit Go.Lib Go.Sort

theorem hasB_hit {L : List SpanV} {j : Nat} {s : SpanV} {x : Int} (h : L[j]? = some s) (h1 : s.lo ≤ x) (h2 : x ≤ s.hi) : hasB L x = true := hasB_iff.2 ⟨s, List.mem_of_getElem? h, h1, h2⟩

set_option maxRecDepth 100000 in
set_option maxHeartbeats 1000000 in
theorem refHas_any (L : List SpanV) (vl : Value) (x : Int) (w : World) (hl : Rd w w.heap.size 2 vl L.length (scells L)) (hlen : L.length ≤ 1099511627776) :
    Calls Try.prog 26 #[vl, .int .u32 x] w fun e w' => e = .returned (.bool (hasB L x)) ∧ w = w' := by
  obtain ⟨A0, c0, rfl, hc0⟩ := hl.form
  have HL := Lib.hid hl
  clear hl
  go_enter Try.func26, Try.ntmps26
  go_wp2
  go_loop [5] (fun i => ∃ j : Nat, i = .int .i64 j ∧ j ≤ L.length ∧ Hid (hasB L x = hasB (L.drop j) x)) (fun i => L.length - (intOf i).toNat)
  case atStart => exact ⟨0, rfl, by omega, rfl⟩
  case round =>
    obtain ⟨j, rfl, hj, hno⟩ := hrel
    by_cases hlt : j < L.length
    · have hI : (j : Int) < (L.length : Int) := by omega
      obtain ⟨s, hs⟩ : ∃ s, L[j]? = some s := ⟨_, List.getElem?_eq_getElem hlt⟩
      obtain ⟨b, off, c', hv, _, hbB, hcell⟩ := HL.out.posAt (by omega)
      injection hv with hv1 _ hv3
      subst hv1 hv3
      have f0 : w.cell? ⟨b, off + j * 2, none⟩ = some (.int .u32 s.lo) := hcell j 0 _ (scell hs rfl)
      have f1 : w.cell? ⟨b, off + j * 2 + 1, none⟩ = some (.int .u32 s.hi) := hcell j 1 _ (scell hs rfl)
      have hd : L.drop j = s :: L.drop (j + 1) := by
        obtain ⟨hj', e⟩ := List.getElem?_eq_some_iff.1 hs
        rw [List.drop_eq_getElem_cons hj', e]
      have HD := Lib.hid hd
      have HS := Lib.hid hs
      clear hcell hd hs
      by_cases h1 : s.lo ≤ x
      · by_cases h2 : x ≤ s.hi
        · go_wp2
          go_ret
          exact ⟨ret_bool (hasB_hit HS.out h1 h2).symm, rfl⟩
        · go_wp2
          refine ⟨⟨j + 1, by go_num, by omega, ?_⟩, by simp only [intOf]; omega⟩
          show _ = _
          rw [hno.out, HD.out]
          simp [hasB, SpanV.inB]
          omega
      · go_wp2
        refine ⟨⟨j + 1, by go_num, by omega, ?_⟩, by simp only [intOf]; omega⟩
        show _ = _
        rw [hno.out, HD.out]
        simp [hasB, SpanV.inB]
        omega
    · obtain rfl : j = L.length := by omega
      go_wp2
      go_ret
      refine ⟨ret_bool ?_, rfl⟩
      rw [hno.out, List.drop_length]
      rfl

set_option maxRecDepth 100000 in
set_option maxHeartbeats 10000000 in
theorem so_any (A B : List SpanV) (va vb : Value) (x how : Int) (w : World) (ha : Rd w w.heap.size 2 va A.length (scells A)) (hb : Rd w w.heap.size 2 vb B.length (scells B)) (hla : A.length ≤ 1099511627776) (hlb : B.length ≤ 1099511627776) :
    Calls Try.prog 20 #[va, vb, .int .u32 x, .int .i64 how] w fun e w' => e = .returned (.bool (soB how A B x)) ∧ w = w' := by
  have hca := refHas_any A va x _ ha hla
  have hcb := refHas_any B vb x _ hb hlb
  have HA := Lib.hid hca
  have HB := Lib.hid hcb
  clear hca hcb ha hb
  have hso : (how = 1 ∧ soB how A B x = (hasB A x || hasB B x)) ∨ ((how == 1) = false ∧ how = 2 ∧ soB how A B x = (hasB A x && hasB B x)) ∨ ((how == 1) = false ∧ (how == 2) = false ∧ how = 3 ∧ soB how A B x = (hasB A x && !hasB B x)) ∨ ((how == 1) = false ∧ (how == 2) = false ∧ (how == 3) = false ∧ soB how A B x = !hasB A x) := by
    unfold soB
    by_cases h1 : how = 1
    · exact .inl ⟨h1, by rw [if_pos h1]⟩
    · by_cases h2 : how = 2
      · exact .inr (.inl ⟨by simp [h1], h2, by rw [if_neg h1, if_pos h2]⟩)
      · by_cases h3 : how = 3
        · exact .inr (.inr (.inl ⟨by simp [h1], by simp [h2], h3, by rw [if_neg h1, if_neg h2, if_pos h3]⟩))
        · exact .inr (.inr (.inr ⟨by simp [h1], by simp [h2], by simp [h3], by rw [if_neg h1, if_neg h2, if_neg h3]⟩))
  go_enter Try.func20, Try.ntmps20
  rcases hso with ⟨rfl, hs⟩ | ⟨g1, rfl, hs⟩ | ⟨g1, g2, rfl, hs⟩ | ⟨g1, g2, g3, hs⟩
  all_goals (
    rw [hs]
    clear hs
    cases hA : hasB A x
    all_goals (
      have HA' := HA.out
      rw [hA] at HA'
      have HA2 := Lib.hid HA'
      clear HA' hA
      go_wp2_with fail
      refine HA2.out.mono ?_; rintro e w' ⟨rfl, rfl⟩
      go_wp2_with (go_at_call 26; refine HB.out.mono ?_; rintro e w' ⟨rfl, rfl⟩)
      go_ret
      exact ⟨by simp, rfl⟩))

end Go.Proofs.Ytcemiokdpmgonaa

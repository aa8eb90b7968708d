/-
  slices.Sort at a row of the call's own, numbers of 32 bits.
-/
import Derived.Test.YthgmmajoinkblaaPq6
import Derived.Test.YthgmmajoinkblaaShelf
import Derived.Test.YthgmmajoinkblaaKit3
namespace Go.Proofs.Ythgmmajoinkblaa
open Go Go.RowKit Go.Sort

/-- The cells of a list of numbers. -/
def ucells (L : List Int) : List Value := L.map e32
theorem ucells_len (L : List Int) : (ucells L).length = L.length := by simp [ucells]
theorem ucells_one (L : List Int) : ∀ v ∈ ucells L, v.oneCell' = true := by
  intro v hv
  obtain ⟨x, _, rfl⟩ := List.mem_map.1 hv
  rfl
theorem ucell {L : List Int} {k : Nat} {x : Int} (h : L[k]? = some x) : (ucells L)[k]? = some (.int .u32 x) := by simp [ucells, h]
set_option maxHeartbeats 1000000 in
theorem insNilU (w : World) : Calls Try.prog 70 #[.slice none 0 0, .int .i64 0, .int .i64 0] w fun e w' => e = .returned (.tuple #[]) ∧ w' = w := by
  go_enter Try.func70, Try.ntmps70
  go_wp2
  go_loopw [6] (fun vi wr => vi = .int .i64 1 ∧ wr = w) (fun _ _ => 0)
  case atStart => exact ⟨rfl, rfl⟩
  case round =>
    obtain ⟨rfl, rfl⟩ := hrel
    go_wp2
    go_end0
    exact ⟨rfl, rfl⟩
set_option maxHeartbeats 1000000 in
theorem pdqNilU (w : World) : Calls Try.prog 56 #[.slice none 0 0, .int .i64 0, .int .i64 0, .int .i64 0] w fun e w' => e = .returned (.tuple #[]) ∧ w' = w := by
  go_enter Try.func56, Try.ntmps56
  go_wp2
  go_loopw [1, 2, 3, 8, 9] (fun v1 v2 v3 v8 v9 wr => v1 = .int .i64 0 ∧ v2 = .int .i64 0 ∧ v3 = .int .i64 0 ∧ v8 = .bool true ∧ v9 = .bool true ∧ wr = w) (fun _ _ _ _ _ _ => 0)
  case atStart => exact ⟨rfl, rfl, rfl, rfl, rfl, rfl⟩
  case round =>
    obtain ⟨rfl, rfl, rfl, rfl, rfl, rfl⟩ := hrel
    go_wp2_with fail
    refine (insNilU _).mono ?_
    rintro e w' ⟨rfl, rfl⟩
    go_wp2_with fail
    (try simp only [Exit.inBlock, Exit.then]); refine bodyPost_ret (results_none rfl _ _ _) rfl ?_
    exact ⟨rfl, rfl⟩
/-- The row behind the sort is the call's own still. -/
theorem owns_sortedU {w w' : World} {base g n c : Nat} {L : List Int} {d' : Array Int} (hown : w.ownsRow base 23 1 (.slice (some ⟨g, 0, none⟩) n c) n (ucells L)) (hd : d'.size = n) (hat : At e32 w g 0 d' w') :
    w'.ownsRow base 23 1 (.slice (some ⟨g, 0, none⟩) n c) n (ucells d'.toList) ∧ ∀ B, B ≤ base → B ≤ w.heap.size → Below B w w' := by
  obtain ⟨cur, hg, hnc, hcm, hcs, ht, hbg⟩ := owns_block hown
  obtain ⟨m, os, rfl⟩ := hat
  have hlt := lt_of_block hg
  have hg2 : (grow (RowW w g 0 m d') os).heap[g]? = some (.cells (putCells e32 0 d' cur) 23 (0, 0)) := by
    simp only [grow, RowW, putRow, mapBlock]
    rw [Array.getElem?_append_left (by simp; omega), Array.getElem?_modify, if_pos rfl]
    show Option.map _ w.heap[g]? = _
    rw [hg]
    rfl
  have hsz : (putCells e32 0 d' cur).size = cur.size := by simp [putCells]
  refine ⟨owns_of_block hg2 hnc hcm (by rw [hsz, hcs]) ?_ (by rw [ucells_len]; simp [hd]) hbg, fun B hB hB2 => ⟨rfl, rfl, rfl, ?_, fun k hk => ?_⟩⟩
  · apply List.ext_getElem?
    intro j
    by_cases hj : j < n * 1
    · rw [List.getElem?_take_of_lt hj, Array.getElem?_toList]
      have hjc : j < cur.size := by rw [hcs]; omega
      have hjd : j < d'.size := by omega
      simp only [putCells, Array.getElem?_mapIdx, Array.getElem?_eq_getElem hjc, Option.map_some, ucells, List.getElem?_map, Array.getElem?_toList, Array.getElem?_eq_getElem hjd]
      rw [if_pos (by omega), Nat.sub_zero, getElem!_pos d' j hjd]
    · rw [List.getElem?_eq_none (by simp [hsz, hcs]; omega), List.getElem?_eq_none (by rw [ucells_len]; simp [hd]; omega)]
  · simp [grow, putRow, mapBlock, Sort.ahead]
  · simp only [grow, putRow, mapBlock]
    rw [Array.getElem?_append_left (by simp [Sort.ahead]; omega), Array.getElem?_modify, if_neg (by omega)]
    rfl
set_option maxRecDepth 100000 in
set_option maxHeartbeats 1000000 in
theorem sortU_any (L : List Int) (v : Value) (base : Nat) (w : World) (hown : w.ownsRow base 23 1 v L.length (ucells L)) (hlen : L.length < 4611686018427387904) :
    Calls Try.prog 42 #[v] w fun e w' =>
      e = .returned (.tuple #[]) ∧ ∃ L' : List Int, L'.Perm L ∧ L'.Pairwise (· ≤ ·) ∧ w'.ownsRow base 23 1 v L'.length (ucells L') ∧ ∀ B, B ≤ base → B ≤ w.heap.size → Below B w w' := by
  obtain ⟨A, c, rfl, hA⟩ := owns_form hown
  have HL := Lib.hid (fun x w h0 h1 => Try.bits_Len x w h0 h1)
  rcases A with _ | ad
  · obtain ⟨h0, rfl⟩ : L.length = 0 ∧ c = 0 := by
      rcases hown.2 with ⟨h, h2⟩ | ⟨g, cap, cur, hv, _⟩
      · injection h with _ h1 h2
        omega
      · cases hv
    obtain rfl : L = [] := List.eq_nil_of_length_eq_zero h0
    have HO := Lib.hid hown
    clear hown hA h0
    go_enter Try.func42, Try.ntmps42
    go_wp2_with fail
    refine (HL.out 0 w (by omega) (by omega)).mono ?_
    rintro e w' ⟨rfl, rfl⟩
    go_wp2_with fail
    refine (show Calls _ _ _ _ _ from pdqNilU _).mono ?_
    rintro e w' ⟨rfl, rfl⟩
    go_wp2_with fail
    go_end0
    exact ⟨rfl, [], List.Perm.refl _, List.Pairwise.nil, HO.out, fun B _ _ => Below.refl _ _⟩
  · obtain ⟨cur, hg, hnc, hcm, hcs, ht, hbg⟩ : ∃ cur : Array Value, w.heap[ad.block]? = some (.cells cur 23 (0, 0)) ∧ L.length ≤ c ∧ c ≤ maxLen ∧ cur.size = c * 1 ∧ cur.toList.take (L.length * 1) = ucells L ∧ base ≤ ad.block ∧ ad = ⟨ad.block, 0, none⟩ := by
      rcases hown.2 with ⟨h, h2⟩ | ⟨g, cap, cur, hv, hb, hh, h1, h2, h3, h4⟩
      · cases h
      · injection hv with hv1 _ hv3
        injection hv1 with hv1
        subst hv1 hv3
        exact ⟨cur, hh, h1, h2, h3, h4, hb, rfl⟩
    obtain ⟨hbg, had⟩ := hbg
    obtain ⟨g, hgg⟩ : ∃ g, g = ad.block := ⟨_, rfl⟩
    rw [← hgg] at had hg hbg
    subst had
    have hlt := lt_of_block hg
    have hH : Holds e32 w g 0 L.toArray := fun j hj => by
      have hj' : j < L.length := by simpa using hj
      refine ⟨?_, hown.frozenAt j |> fun h => by simpa using h⟩
      have := hown.cellAt j (by omega)
      rw [Nat.zero_add, this, ucell (List.getElem?_eq_getElem hj')]
      simp [hj']
    have hs : (Sort.Below ltInt 0 L.toArray.size L.toArray) := Or.inl rfl
    have hbl : Lib.bitLen L.length < 4611686018427387904 := by
      have := Lib.bitLen_le L.length 64 (Nat.le_refl _) (by omega)
      omega
    have HP := Lib.hid (pdqU_any (L.length + 1) g 0 c 0 L.length (Lib.bitLen L.length) L.toArray w (by omega) hH hlt (Nat.zero_le _) (by simp) (by simpa using hlen) hbl (Or.inl rfl))
    have HO := Lib.hid hown
    have hps := pdq_sorts ltInt swo_ltInt L.toArray 0 L.length (Lib.bitLen L.length) true true (Nat.zero_le _) (by simp) (Or.inl rfl)
    have e0 : L.toArray.size = L.length := by simp
    rw [e0] at HP
    have HS := Lib.hid hps
    have h64 : (L.length : Int) ≤ 18446744073709551615 := by omega
    clear hown hg hnc hcm hcs ht hH hbl hps hA e0 hbg hgg
    go_enter Try.func42, Try.ntmps42
    go_wp2_with fail
    refine (HL.out (L.length : Int) w (by omega) h64).mono ?_
    rintro e w' ⟨rfl, rfl⟩
    go_wp2_with fail
    refine HP.out.mono ?_
    rintro e w' ⟨rfl, hat⟩
    have HAT := Lib.hid hat
    clear hat
    go_wp2_with fail
    go_end0
    obtain ⟨⟨hsz, _, hperm⟩, hsorted⟩ := HS.out
    have hsz2 : (pdq ltInt L.toArray 0 L.length (Lib.bitLen L.length) true true).size = L.length := by rw [hsz]; simp
    generalize pdq ltInt L.toArray 0 L.length (Lib.bitLen L.length) true true = D at *
    obtain ⟨h1, h2⟩ := owns_sortedU HO.out hsz2 HAT.out
    refine ⟨rfl, D.toList, ?_, ?_, ?_, h2⟩
    · have e1 : (D.extract 0 L.length).toList = D.toList := by rw [← hsz2]; simp
      have e2 : (L.toArray.extract 0 L.length).toList = L := by simp
      rw [e1, e2] at hperm
      exact hperm
    · rw [List.pairwise_iff_getElem]
      intro i j hi hj hij
      have hi' : i < D.size := by simpa using hi
      have hj' : j < D.size := by simpa using hj
      have h := hsorted i j (Nat.zero_le _) hij (by omega)
      unfold ltInt at h
      rw [decide_eq_false_iff_not] at h
      have e1 : D[i]! = D.toList[i] := by simp [hi']
      have e2 : D[j]! = D.toList[j] := by simp [hj']
      rw [e1, e2] at h
      omega
    · rw [show D.toList.length = L.length by simpa using hsz2]
      exact h1
end Go.Proofs.Ythgmmajoinkblaa

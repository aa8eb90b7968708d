/-
  Joined texts: Ro6, Ro7.
-/
import Derived.Test.YtlhafehhkjjchaaGreatDoorMRoutesOrder4
import Derived.Test.YtlhafehhkjjchaaGreatDoorMRoutesOrder5
import Derived.Deep.DeepCutAuto
import Derived.Deep.CutBlock
import Derived.Deep.RegionLaw
import Derived.StillTailTactics
import Derived.Test.YtlhafehhkjjchaaGreatDoorShelf3
/-
  The document's Sort of routes (written by wip/gen/genro6.py).
-/
namespace Go.Proofs.YtlhafehhkjjchaaGreatDoor
open Go Go.RowKit Go.Lib Go.Sort

/-- One element of at most 128 bytes (its cells have just been laid in a block of their own) is appended to a row of the call's own. -/
theorem wpList_push9 {P : Program} {ops : Array Oper} {rest : List Oper} {o : Oper} {a : Act} {Q : Exit → Act → World → Prop} (hgd : o.guard = none) (s x : Operand) (t : TypeId)
    (ho : o.op = .call { callee := .builtin .append, args := #[s, x], argTypes := #[t, t] })
    (e : TypeId) (i : TypeInfo) (z : Value) (size bytes : Nat) (ht : P.underlying t = some (.slice e)) (hi : P.info? e = some i) (hz : i.zero = some z)
    (hsize : i.size = size) (hby : i.bytes = bytes) (hzs : z.cells.size = size) (hsz : 0 < size) (hb64 : bytes ≤ 128)
    {w0 : World} {base n : Nat} {v : Value} {xs : List Value} (es : List Value) (hs : a.eval s = v) {g0 : Nat} (hx : a.eval x = .slice (some ⟨g0, 0, none⟩) 1 1) (hg0 : g0 = w0.heap.size)
    (hown : w0.ownsRow base e size v n xs) (hes : es.length = size) (h1 : ∀ u ∈ es, u.oneCell' = true) (hn : n ≤ 549755813888) (hbase : base ≤ w0.heap.size)
    {B : Nat} {a0 : World} (hb : Below B a0 w0) (hB : B ≤ base)
    (h : ∀ v' w', w'.ownsRow base e size v' (n + 1) (xs ++ es) → Below B a0 w' → wpList P ops Q rest (a.put o.dst v') w') : wpList P ops Q (o :: rest) a (w0.alloc (.cells es.toArray e)) := by
  subst hg0
  refine wpList_append_own _ hgd s x t ho base e i z size bytes ht hi hz hsize hby hzs hsz v n xs hs (hown.alloc _) ⟨w0.heap.size, 0, none⟩ 1 1 es hx (by omega) (cells_new w0 es e) h1 (by unfold maxLen; omega) ?_ (by simp; omega) ?_
  · calc (n + 1) * bytes ≤ (549755813888 + 1) * 128 := Nat.mul_le_mul (by omega) hb64
      _ ≤ 140737488355328 := by decide
  · intro v' w' h2 h3 _
    exact h v' w' h2 (below_row (hb.alloc (by omega) _) (hown.alloc _) h3 (by simp; omega) hB)
theorem sorted_nil : Sorted [] [] := ⟨List.Pairwise.nil, fun x => by simp⟩
theorem sorted_skip {l R : List RouteV} {x : RouteV} (h : Sorted l R) (hx : x ∈ R) : Sorted (l ++ [x]) R := by
  refine ⟨h.1, fun y => ?_⟩
  rw [List.mem_append, ← h.2 y]
  constructor
  · exact .inl
  · rintro (h1 | h1)
    · exact h1
    · rw [List.mem_singleton] at h1; rw [h1]; exact hx
theorem sorted_ins {l R : List RouteV} {x : RouteV} {k : Nat} (h : Sorted l R) (hk : k ≤ R.length) (hg : ∀ (i : Nat) y, k ≤ i → R[i]? = some y → cmpR x y < 0) (hl : 0 < k → ∃ y, R[k - 1]? = some y ∧ 0 < cmpR x y) : Sorted (l ++ [x]) (R.take k ++ x :: R.drop k) := by
  have hU : (R.take k ++ R.drop k).Pairwise (fun x y => cmpR x y < 0) := by rw [List.take_append_drop]; exact h.1
  obtain ⟨hA, hB, hC⟩ := List.pairwise_append.1 hU
  have hd : ∀ y ∈ R.drop k, cmpR x y < 0 := by
    intro y hy
    obtain ⟨i, hi, e⟩ := List.getElem_of_mem hy
    rw [List.getElem_drop] at e
    exact hg (k + i) y (by omega) (by rw [← e]; exact List.getElem?_eq_getElem _)
  have ht : ∀ y ∈ R.take k, cmpR y x < 0 := by
    intro y hy
    obtain ⟨i, hi, e⟩ := List.getElem_of_mem hy
    have hik : i < k := by simp at hi; omega
    rw [List.getElem_take] at e
    obtain ⟨z, hz, hzx⟩ := hl (by omega)
    have h1 := ord3_R.anti x z
    obtain ⟨hz1, hz2⟩ := List.getElem?_eq_some_iff.1 hz
    rcases Nat.eq_or_lt_of_le (show i ≤ k - 1 by omega) with e2 | e2
    · have : y = z := by rw [← e, ← hz2]; congr 1
      rw [this]; omega
    · have := List.pairwise_iff_getElem.1 h.1 i (k - 1) (by omega) hz1 e2
      rw [e, hz2] at this
      exact ord3_R.lt this (by omega)
  refine ⟨List.pairwise_append.2 ⟨hA, List.pairwise_cons.2 ⟨hd, hB⟩, fun a ha b hb => ?_⟩, fun y => ?_⟩
  · rcases List.mem_cons.1 hb with rfl | hb
    · exact ht a ha
    · exact hC a ha b hb
  · have hm : y ∈ R ↔ y ∈ R.take k ∨ y ∈ R.drop k := by rw [← List.mem_append, List.take_append_drop]
    have h2 := h.2 y
    simp only [List.mem_append, List.mem_cons, List.not_mem_nil, or_false, ← h2, hm]
    constructor
    · rintro (h | h | h)
      · exact .inl (.inl h)
      · exact .inr h
      · exact .inl (.inr h)
    · rintro ((h | h) | h)
      · exact .inl h
      · exact .inr (.inr h)
      · exact .inr (.inl h)
theorem ins_len {R : List RouteV} {x : RouteV} {k : Nat} (hk : k ≤ R.length) : (R.take k ++ x :: R.drop k).length = R.length + 1 := by simp; omega
theorem splice_len {α : Type} {A B C D : List α} (h : B.length = D.length) : splice (A ++ (B ++ C)) A.length D = A ++ (D ++ C) := by
  unfold splice
  rw [List.take_left', ← h, ← List.drop_drop, List.drop_left', List.drop_left'] <;> rfl
/-- The cells behind a copy one place up and a store into the gap. -/
theorem put_cells9 {cur : List Value} {R : List RouteV} {k : Nat} (x : RouteV) (hk : k ≤ R.length) (z : List Value) (hz : z.length = 9) (h : cur.take ((R.length + 1) * 9) = rvcells R ++ z) :
    (splice (splice cur ((k + 1) * 9) (rvcells (R.drop k))) (k * 9) x.enc).take ((R.length + 1) * 9) = rvcells (R.take k ++ x :: R.drop k) := by
  obtain ⟨A, hA⟩ : ∃ A, A = rvcells (R.take k) := ⟨_, rfl⟩
  obtain ⟨D, hD⟩ : ∃ D, D = rvcells (R.drop k) := ⟨_, rfl⟩
  have lA : A.length = k * 9 := by rw [hA, rvcells_len, List.length_take]; omega
  have lD : D.length = (R.length - k) * 9 := by rw [hD, rvcells_len, List.length_drop]
  have hR : rvcells R = A ++ D := by rw [hA, hD, ← rvcells_append, List.take_append_drop]
  obtain ⟨Z, hZ⟩ : ∃ Z, Z = cur.drop ((R.length + 1) * 9) := ⟨_, rfl⟩
  have hc : cur = A ++ ((D ++ z) ++ Z) := by
    rw [← List.take_append_drop ((R.length + 1) * 9) cur, h, hR, ← hZ]; simp
  obtain ⟨Y, V, hYV, lY⟩ : ∃ Y V, D ++ z = Y ++ V ∧ Y.length = 9 := ⟨(D ++ z).take 9, (D ++ z).drop 9, (List.take_append_drop _ _).symm, by simp; omega⟩
  have lV : V.length = D.length := by
    have := congrArg List.length hYV
    simp only [List.length_append] at this
    omega
  have e1 : cur = (A ++ Y) ++ (V ++ Z) := by rw [hc, hYV]; simp
  have l1 : (k + 1) * 9 = (A ++ Y).length := by rw [List.length_append]; omega
  rw [← hD, e1, l1, splice_len lV, List.append_assoc, ← lA, splice_len (by rw [lY]; rfl), rvcells_append, ← hA, show rvcells (x :: R.drop k) = x.enc ++ D from by rw [hD]; rfl]
  have l2 : (R.length + 1) * 9 = (A ++ (x.enc ++ D)).length := by
    simp only [List.length_append, route_len]; omega
  rw [show A ++ (x.enc ++ (D ++ Z)) = (A ++ (x.enc ++ D)) ++ Z by simp, List.take_left' l2.symm]
/-- The sorted list is handed back, in new memory. -/
def SortRes (L : List RouteV) (w : World) (e : Ending) (w' : World) : Prop :=
  ∃ (v : Value) (S : List RouteV), e = .returned v ∧ Sorted L S ∧ S.length ≤ L.length ∧ w'.ownsRow w.heap.size 27 9 v S.length (rvcells S) ∧ Below w.heap.size w w'
theorem own_upR {a w w' : World} {n : Nat} {v : Value} {xs : List Value} (h : w.ownsRow a.heap.size 27 9 v n xs) (hb : Below w.heap.size w w') : w'.ownsRow a.heap.size 27 9 v n xs := owns_kept_none h (only_of_below hb none)
end Go.Proofs.YtlhafehhkjjchaaGreatDoor

/-
  slices.SortFunc and slices.Compact at routes; routes.Sort (written by wip/gen/genro7.py).
-/
namespace Go.Proofs.YtlhafehhkjjchaaGreatDoor
open Go Go.RowKit Go.Lib Go.Sort

/-- The row behind the sort is the call's own still. -/
theorem owns_sorted {w : World} {base g n c m : Nat} {L : List RouteV} {d' : Array RouteV} {os : Array Obj} (hown : w.ownsRow base 27 9 (.slice (some ⟨g, 0, none⟩) n c) n (rvcells L)) (hH : HoldsK RouteV.enc 9 w g 0 L.toArray) (hd : d'.size = n) (hL : L.length = n) :
    (sortWorldK RouteV.enc 9 w g 0 m d' os).ownsRow base 27 9 (.slice (some ⟨g, 0, none⟩) n c) n (rvcells d'.toList) := by
  have hlt := (hown.lt g rfl).2
  obtain ⟨cur, hg, hnc, hcm, hcs, ht, hbg⟩ := owns_block hown
  have hK := holdsK_sortWorldK_c (enc := RouteV.enc) (k := 9) (w := w) (blk := g) (off := 0) L.toArray d' m os hH hlt (by simp [hd, hL])
  have hg2 : (sortWorldK RouteV.enc 9 w g 0 m d' os).heap[g]? = some (.cells (putCells id 0 (flatK RouteV.enc 9 d') cur) 27 (0, 0)) := by
    simp only [sortWorldK, grow, putRowK, putRow, mapBlock]
    rw [Array.getElem?_append_left (by simp; omega), Array.getElem?_modify, if_pos rfl]
    show Option.map _ w.heap[g]? = _
    rw [hg]
    rfl
  have hsz : (putCells id 0 (flatK RouteV.enc 9 d') cur).size = cur.size := by simp [putCells]
  refine owns_of_block hg2 hnc hcm (by rw [hsz, hcs]) ?_ (by rw [rvcells_len]; simp [hd]) hbg
  apply List.ext_getElem?
  intro j
  by_cases hj : j < n * 9
  · obtain ⟨u, hu⟩ : ∃ u, (rvcells d'.toList)[j]? = some u := ⟨_, List.getElem?_eq_getElem (by rw [rvcells_len]; simp [hd]; omega)⟩
    have h1 := cells_of_holdsK route_len hK j u hu
    rw [Nat.zero_add, cell_of_row _ g j _ _ (0, 0) hg2] at h1
    rw [List.getElem?_take_of_lt hj, hu, Array.getElem?_toList]
    exact h1
  · have e1 := rvcells_len d'.toList
    rw [List.getElem?_eq_none (by simp [hsz, hcs]; omega), List.getElem?_eq_none (by rw [e1]; simp [hd]; omega)]
theorem sortRoute_any (L : List RouteV) (v : Value) (base : Nat) (w : World) (hown : w.ownsRow base 27 9 v L.length (rvcells L)) (hlen : L.length < 4611686018427387904) :
    Calls Tryz.prog 21 #[v, .func (.func 5) #[] #[]] w fun e w' =>
      e = .returned (.tuple #[]) ∧ ∃ L' : List RouteV, L'.Perm L ∧ L'.Pairwise (fun x y => cmpR x y ≤ 0) ∧ w'.ownsRow base 27 9 v L'.length (rvcells L') ∧ ∀ B, B ≤ base → B ≤ w.heap.size → RowKit.Below B w w' := by
  rcases Nat.eq_zero_or_pos L.length with h0 | h0
  · obtain rfl : L = [] := List.eq_nil_of_length_eq_zero h0
    obtain ⟨A, c, rfl, _⟩ := owns_form hown
    refine (AnyF.slices_SortFunc_none Tryz.sortRoute A c (.func (.func 5) #[] #[]) w).mono fun e w' ⟨he, hw⟩ => ⟨he, [], List.Perm.refl _, List.Pairwise.nil, ?_, fun B _ _ => ?_⟩
    · subst hw; exact hown
    · subst hw; exact RowKit.Below.refl _ _
  · obtain ⟨A, c, rfl, hA⟩ := owns_form hown
    obtain ⟨g, rfl⟩ := hA h0
    have hg := hown.lt g rfl
    have hH : HoldsK RouteV.enc 9 w g 0 L.toArray := holdsK_of route_len (fun j u hu => by
      have := hown.cells (g := g) rfl j u hu
      have e : (⟨g, 0, none⟩ : Addr).add j = ⟨g, 0 + j, none⟩ := by simp [Addr.add]; omega
      rw [← e]; exact this) (fun j => hown.frozenAt j)
    have hcon := AnyQ.slices_SortFunc Tryz.sortRoute 9 Tryz.isAgg27 Tryz.sizeOf27 RouteV.enc route_len (fun x v hv => renc_one x v hv) cmpR swoR 5 #[] g 0 c L.toArray w (enters_of Tryz.func5 (by kernel_rfl) rfl) (fun _ _ _ _ x y => rcmp_any x y _) hH hg.2 (by simpa using hlen)
    rw [List.size_toArray] at hcon
    change Calls Tryz.prog 21 _ _ _ at hcon
    refine hcon.mono ?_
    rintro e w' ⟨he, d', n, os, hp, hs, hw⟩
    have hsz : d'.size = L.length := by simpa using hp.1
    subst hw
    refine ⟨he, d'.toList, ?_, ?_, ?_, fun B hB hB2 => below_sortWorldK (by omega) hB2⟩
    · have := hp.2.2
      rw [← hsz] at this
      have e1 : (d'.extract 0 d'.size).toList = d'.toList := by simp
      have e2 : (L.toArray.extract 0 d'.size).toList = L := by rw [hsz]; simp
      rw [e1, e2] at this
      exact this
    · rw [List.pairwise_iff_getElem]
      intro i j hi hj hij
      have h1 := hs i j (Nat.zero_le _) hij (by simpa [hsz] using hj)
      have e1 : d'[i]! = d'.toList[i] := by
        have : i < d'.size := by simpa using hi
        simp [this]
      have e2 : d'[j]! = d'.toList[j] := by
        have : j < d'.size := by simpa using hj
        simp [this]
      rw [e1, e2] at h1
      unfold ltOf at h1
      rw [decide_eq_false_iff_not] at h1
      have := ord3_R.anti d'.toList[i] d'.toList[j]
      omega
    · have := owns_sorted (m := n) (os := os) hown hH hsz rfl
      rw [show d'.toList.length = L.length by simpa using hsz]
      exact this

/-- What is left of the first n, runs of equals being one. -/
def ddTo (d : List RouteV) : Nat → List RouteV
  | 0 => []
  | n + 1 => if n ≠ 0 ∧ d[n]? = d[n - 1]? then ddTo d n else ddTo d n ++ (d[n]?).toList
theorem dd_len (d : List RouteV) : ∀ n, (ddTo d n).length ≤ n
  | 0 => Nat.le_refl _
  | n + 1 => by
    have := dd_len d n
    unfold ddTo
    split
    · omega
    · cases d[n]? <;> simp <;> omega
theorem dd_same {d : List RouteV} {n : Nat} (h : n ≠ 0) (he : d[n]? = d[n - 1]?) : ddTo d (n + 1) = ddTo d n := by rw [ddTo, if_pos ⟨h, he⟩]
theorem dd_new {d : List RouteV} {n : Nat} {x : RouteV} (hx : d[n]? = some x) (he : n ≠ 0 → d[n]? ≠ d[n - 1]?) : ddTo d (n + 1) = ddTo d n ++ [x] := by
  rw [ddTo, if_neg (fun h => he h.1 h.2), hx]; rfl
theorem dd_all {d : List RouteV} : ∀ {k : Nat}, k ≤ d.length → (∀ i, 1 ≤ i → i < k → d[i]? ≠ d[i - 1]?) → ddTo d k = d.take k
  | 0, _, _ => by simp [ddTo]
  | k + 1, hk, h => by
    have hx := List.getElem?_eq_getElem (l := d) (i := k) (by omega)
    rw [dd_new hx (fun h0 => h k (by omega) (by omega)), dd_all (by omega) (fun i h1 h2 => h i h1 (by omega)), List.take_add_one, hx]
    rfl
theorem dd_sorted {d : List RouteV} (hd : d.Pairwise (fun x y => cmpR x y ≤ 0)) : ∀ n, n ≤ d.length → Up (ddTo d n) ∧ ∀ x, x ∈ ddTo d n ↔ x ∈ d.take n
  | 0, _ => ⟨List.Pairwise.nil, fun x => by simp [ddTo]⟩
  | n + 1, hn => by
    obtain ⟨h1, h2⟩ := dd_sorted hd n (by omega)
    obtain ⟨x, hx⟩ : ∃ x, d[n]? = some x := ⟨_, List.getElem?_eq_getElem (by omega)⟩
    have hx' := List.getElem?_eq_some_iff.1 hx
    have htk : d.take (n + 1) = d.take n ++ [x] := by rw [List.take_add_one, hx]; rfl
    by_cases he : n ≠ 0 ∧ d[n]? = d[n - 1]?
    · rw [dd_same he.1 he.2]
      refine ⟨h1, fun y => ?_⟩
      rw [h2, htk, List.mem_append, List.mem_singleton]
      constructor
      · exact .inl
      · rintro (h | rfl)
        · exact h
        · rw [hx] at he
          have h0 := he.1
          exact List.mem_of_getElem? (i := n - 1) (by rw [List.getElem?_take_of_lt (by omega)]; exact he.2.symm)
    · rw [dd_new hx (fun h0 h3 => he ⟨h0, h3⟩)]
      refine ⟨List.pairwise_append.2 ⟨h1, List.pairwise_singleton _ _, fun y hy z hz => ?_⟩, fun y => ?_⟩
      · rw [List.mem_singleton] at hz
        subst hz
        obtain ⟨i, hi, e⟩ := List.getElem_of_mem ((h2 y).1 hy)
        have hin : i < n := by simp at hi; omega
        rw [List.getElem_take] at e
        obtain ⟨p, hp⟩ : ∃ p, d[n - 1]? = some p := ⟨_, List.getElem?_eq_getElem (by omega)⟩
        have hp' := List.getElem?_eq_some_iff.1 hp
        have hpz : cmpR p z ≤ 0 := by
          have := List.pairwise_iff_getElem.1 hd (n - 1) n hp'.1 hx'.1 (by omega)
          rw [hp'.2, hx'.2] at this
          exact this
        have hne : cmpR p z ≠ 0 := fun h => he ⟨by omega, by rw [hx, hp, cmpR_zero.1 h]⟩
        rcases Nat.eq_or_lt_of_le (show i ≤ n - 1 by omega) with e2 | e2
        · have : y = p := by rw [← e, ← hp'.2]; congr 1
          rw [this]; omega
        · have := List.pairwise_iff_getElem.1 hd i (n - 1) (by omega) hp'.1 e2
          rw [e, hp'.2] at this
          exact ord3_R.lt' this (by omega)
      · rw [htk, List.mem_append, List.mem_append, h2]
theorem take_splice {α : Type} {L : List α} {off m : Nat} {cs : List α} (h : off + cs.length ≤ L.length) (hm : m = off + cs.length) : (splice L off cs).take m = L.take off ++ cs := by
  unfold splice
  have e : (L.take off ++ cs).length = m := by rw [List.length_append, List.length_take]; omega
  rw [← List.append_assoc, List.take_left' e]
theorem splice_get {α : Type} {L : List α} {off j : Nat} {cs : List α} (h : off + cs.length ≤ L.length) (hj : off + cs.length ≤ j) : (splice L off cs)[j]? = L[j]? := by
  unfold splice
  rw [List.getElem?_append_right (by rw [List.length_take]; omega), List.getElem?_append_right (by rw [List.length_take]; omega), List.getElem?_drop]
  congr 1
  rw [List.length_take]; omega
theorem take_splice_low {α : Type} {L : List α} {off m : Nat} {cs : List α} (h : off ≤ L.length) (hm : m = off) : (splice L off cs).take m = L.take off := by
  unfold splice
  subst hm
  rw [List.take_left' (by rw [List.length_take]; omega)]
theorem Tryz.zeroRoute (w : World) : (zeroValue 27).run Tryz.prog w = .ok (.agg #[.int .u32 0, .int .i64 0, .int .u8 0, .int .i64 0, .int .i64 0, .int .i64 0, .string ByteArray.empty, .int .u32 0, .bool false]) w := by
  obtain ⟨i0, hi, hz0, _, _⟩ := info_parts Tryz.infoRoute
  simp [zeroValue, typeInfo, hi, hz0]
theorem zeroR_len (n : Nat) : (Builtin.zeroCells (Value.agg #[.int .u32 0, .int .i64 0, .int .u8 0, .int .i64 0, .int .i64 0, .int .i64 0, .string ByteArray.empty, .int .u32 0, .bool false]).cells n).toList.length = n * 9 := by
  simp [Builtin.zeroCells, Value.cells]
set_option maxRecDepth 100000 in
set_option maxHeartbeats 8000000 in
theorem compactR_any (d : List RouteV) (v : Value) (base B : Nat) (w : World) (hown : w.ownsRow base 27 9 v d.length (rvcells d)) (hlen : d.length ≤ 549755813888) (hB : B ≤ base) (hB2 : B ≤ w.heap.size) :
    Calls Tryz.prog 22 #[v] w fun e w' =>
      ∃ v', e = .returned v' ∧ w'.ownsRow base 27 9 v' (ddTo d d.length).length (rvcells (ddTo d d.length)) ∧ Below B w w' := by
  obtain ⟨A, c, rfl, hA⟩ := owns_form hown
  have HO := Lib.hid hown
  clear hown
  go_enter Tryz.func22, Tryz.ntmps22
  by_cases h2 : d.length < 2
  · have hI : (d.length : Int) < 2 := by omega
    have hdd : ddTo d d.length = d := by rw [dd_all (Nat.le_refl _) (fun i h1 h3 => by omega), List.take_length]
    go_wp2
    go_ret
    exact ⟨_, rfl, by first | exact HO.out | (rw [hdd]; exact HO.out), Below.refl _ _⟩
  · have hI : ¬ (d.length : Int) < 2 := by omega
    obtain ⟨g, rfl⟩ := hA (by omega)
    have hg : g < w.heap.size := (HO.out.lt g rfl).2
    have hnc : d.length ≤ c := by obtain ⟨cur, _, h, _⟩ := owns_block HO.out; exact h
    go_wp2
    go_loopw [3] (fun i wx => ∃ k : Nat, i = .int .i64 k ∧ 1 ≤ k ∧ k ≤ d.length ∧ Hid (∀ i, 1 ≤ i → i < k → d[i]? ≠ d[i - 1]?) ∧ Hid (Below w.heap.size w wx)) (fun i _ => d.length - (intOf i).toNat)
    case atStart => exact ⟨1, rfl, by omega, by omega, (fun i h1 h3 => absurd h3 (by omega)), Below.refl _ _⟩
    case round =>
      obtain ⟨k, rfl, hk1, hk, HD, HN⟩ := hrel
      rename World => wx
      by_cases hlt : k < d.length
      · have hJ : (k : Int) < (d.length : Int) := by omega
        obtain ⟨x, hx⟩ : ∃ x, d[k]? = some x := ⟨_, List.getElem?_eq_getElem hlt⟩
        obtain ⟨y, hy⟩ : ∃ y, d[k - 1]? = some y := ⟨_, List.getElem?_eq_getElem (by omega)⟩
        have hc9 : ∀ (j n : Nat) (z : RouteV) (v : Value), d[j]? = some z → z.enc[n]? = some v → wx.cell? ⟨g, j * 9 + n, none⟩ = some v := fun j n z v hz hv => (HN.out.cell (p := ⟨g, j * 9 + n, none⟩) hg).trans ((HO.out.cellAt (j * 9 + n) (by have := (List.getElem?_eq_some_iff.1 hv).1; rw [route_len] at this; have := (List.getElem?_eq_some_iff.1 hz).1; omega)).trans (rvcell hz hv))
        have f0 : wx.cell? ⟨g, k * 9, none⟩ = some (.int .u32 x.a) := hc9 k 0 x _ hx rfl
        have e0 : wx.cell? ⟨g, (k - 1) * 9, none⟩ = some (.int .u32 y.a) := hc9 (k - 1) 0 y _ hy rfl
        have F0 := cell_regrown f0
        have E0 := cell_regrown e0
        have f1 : wx.cell? ⟨g, k * 9 + 1, none⟩ = some (.int .i64 x.m) := hc9 k 1 x _ hx rfl
        have e1 : wx.cell? ⟨g, (k - 1) * 9 + 1, none⟩ = some (.int .i64 y.m) := hc9 (k - 1) 1 y _ hy rfl
        have F1 := cell_regrown f1
        have E1 := cell_regrown e1
        have f2 : wx.cell? ⟨g, k * 9 + 2, none⟩ = some (.int .u8 x.fr) := hc9 k 2 x _ hx rfl
        have e2 : wx.cell? ⟨g, (k - 1) * 9 + 2, none⟩ = some (.int .u8 y.fr) := hc9 (k - 1) 2 y _ hy rfl
        have F2 := cell_regrown f2
        have E2 := cell_regrown e2
        have f3 : wx.cell? ⟨g, k * 9 + 3, none⟩ = some (.int .i64 x.di) := hc9 k 3 x _ hx rfl
        have e3 : wx.cell? ⟨g, (k - 1) * 9 + 3, none⟩ = some (.int .i64 y.di) := hc9 (k - 1) 3 y _ hy rfl
        have F3 := cell_regrown f3
        have E3 := cell_regrown e3
        have f4 : wx.cell? ⟨g, k * 9 + 4, none⟩ = some (.int .i64 x.me) := hc9 k 4 x _ hx rfl
        have e4 : wx.cell? ⟨g, (k - 1) * 9 + 4, none⟩ = some (.int .i64 y.me) := hc9 (k - 1) 4 y _ hy rfl
        have F4 := cell_regrown f4
        have E4 := cell_regrown e4
        have f5 : wx.cell? ⟨g, k * 9 + 5, none⟩ = some (.int .i64 x.ta) := hc9 k 5 x _ hx rfl
        have e5 : wx.cell? ⟨g, (k - 1) * 9 + 5, none⟩ = some (.int .i64 y.ta) := hc9 (k - 1) 5 y _ hy rfl
        have F5 := cell_regrown f5
        have E5 := cell_regrown e5
        have f6 : wx.cell? ⟨g, k * 9 + 6, none⟩ = some (.string x.nm) := hc9 k 6 x _ hx rfl
        have e6 : wx.cell? ⟨g, (k - 1) * 9 + 6, none⟩ = some (.string y.nm) := hc9 (k - 1) 6 y _ hy rfl
        have F6 := cell_regrown f6
        have E6 := cell_regrown e6
        have f7 : wx.cell? ⟨g, k * 9 + 7, none⟩ = some (.int .u32 x.ho) := hc9 k 7 x _ hx rfl
        have e7 : wx.cell? ⟨g, (k - 1) * 9 + 7, none⟩ = some (.int .u32 y.ho) := hc9 (k - 1) 7 y _ hy rfl
        have F7 := cell_regrown f7
        have E7 := cell_regrown e7
        have f8 : wx.cell? ⟨g, k * 9 + 8, none⟩ = some (.bool x.dc) := hc9 k 8 x _ hx rfl
        have e8 : wx.cell? ⟨g, (k - 1) * 9 + 8, none⟩ = some (.bool y.dc) := hc9 (k - 1) 8 y _ hy rfl
        have F8 := cell_regrown f8
        have E8 := cell_regrown e8
        have HX := Lib.hid hx
        have HY := Lib.hid hy
        clear hc9 hx hy f0 e0 f1 e1 f2 e2 f3 e3 f4 e4 f5 e5 f6 e6 f7 e7 f8 e8
        by_cases he : x = y
        · have hEQ := fun W => eqlR_same he W
          have HE := Lib.hid he
          clear he
          go_wp2
          refine wp_region_quiet_below (by kernel_rfl) (by kernel_rfl) ?_
          repeat (first | go_big_quiet_step (fail) | quiet_step (fail))
          refine wpQuiet_nil ?_
          intro _ hw'
          obtain ⟨⟨nq, osq⟩, hw''⟩ := hw'
          subst hw''
          have hq := below_regrown wx nq osq
          have HQ := Lib.hid (HN.out.trans (hq.mono HN.out.size))
          have hown3 := owns_kept_none HO.out (only_of_below HQ.out none)
          obtain ⟨cur0, hg0, _, hcm, hcs, ht0, hbg⟩ := owns_block hown3
          have hm0 : (ddTo d (k + 1)).length = k := by
            rw [dd_same (by omega) (by rw [HX.out, HY.out, HE.out]), dd_all (by omega) HD.out, List.length_take]; omega
          have hT0 : cur0.toList.take (k * 9) = rvcells (ddTo d (k + 1)) := by
            rw [dd_same (by omega) (by rw [HX.out, HY.out, HE.out]), dd_all (by omega) HD.out]
            have e1 : rvcells d = rvcells (d.take k) ++ rvcells (d.drop k) := by rw [← rvcells_append, List.take_append_drop]
            have e2 := congrArg (List.take (k * 9)) ht0
            rw [List.take_take, show min (k * 9) (d.length * 9) = k * 9 from Nat.min_eq_left (by omega), e1, List.take_left' (by rw [rvcells_len, List.length_take]; omega)] at e2
            exact e2
          have hC0 : ∀ (j n : Nat) (z : RouteV) (v : Value), k ≤ j → d[j]? = some z → z.enc[n]? = some v → cur0.toList[j * 9 + n]? = some v := by
            intro j n z v _ hz hv
            have h1 := (List.getElem?_eq_some_iff.1 hv).1
            rw [route_len] at h1
            have h3 := (List.getElem?_eq_some_iff.1 hz).1
            have h4 := rvcell hz hv
            rw [← ht0, List.getElem?_take_of_lt (by omega)] at h4
            exact h4
          have HT0 := Lib.hid hT0
          have HC0 := Lib.hid hC0
          have HG0 := Lib.hid hg0
          have HB0 := Lib.hid (HQ.out.mono hB2)
          have HM0 := Lib.hid hm0
          have hcl : cur0.toList.length = c * 9 := by rw [Array.length_toList, hcs]
          have HCL := Lib.hid hcl
          clear hown3 hg0 ht0 hT0 hC0 hm0 hcl hcs HN HD F0 F1 F2 F3 F4 F5 F6 F7 F8 E0 E1 E2 E3 E4 E5 E6 E7 E8 hEQ HQ
          have hne : ¬ c = k := by omega
          have hkc : (k : Int) ≤ (c : Int) := by omega
          go_wp2
          go_loopw [3, 5] (fun a b wr => ∃ (m q : Nat) (cur : List Value), a = .int .i64 m ∧ b = .int .i64 q ∧ 1 ≤ q ∧ k + q ≤ d.length ∧ m + 1 ≤ k + q ∧ Hid (m = (ddTo d (k + q)).length) ∧ Hid (wr.heap[g]? = some (.cells cur.toArray 27 (0, 0))) ∧ Hid (cur.length = c * 9) ∧ Hid (cur.take (m * 9) = rvcells (ddTo d (k + q))) ∧ Hid (∀ (j n : Nat) (z : RouteV) (v : Value), k + q - 1 ≤ j → d[j]? = some z → z.enc[n]? = some v → cur[j * 9 + n]? = some v) ∧ Hid (Below B w wr)) (fun _ b _ => d.length - (intOf b).toNat)
          case atStart => exact ⟨k, 1, cur0.toList, rfl, rfl, by omega, by omega, by omega, HM0.out.symm, HG0.out, HCL.out, HT0.out, HC0.out, HB0.out⟩
          case round =>
            obtain ⟨m, q, cur, rfl, rfl, hq1, hkq, hmq, HM, HG, HL, HT, HC, HB⟩ := hrel
            rename World => wr
            clear HT0 HC0 HG0 HB0 HM0 HCL
            have hqd : (k : Int) + (q : Int) ≤ (d.length : Int) := by omega
            by_cases hlq : q < d.length - k
            · have hI2 : (q : Int) < ((d.length - k : Nat) : Int) := by omega
              have hI3 : ((q : Int) - 1) < ((d.length - k : Nat) : Int) := by omega
              have hI4 : (m : Int) < (d.length : Int) := by omega
              obtain ⟨x2, hx2⟩ : ∃ x2, d[k + q]? = some x2 := ⟨_, List.getElem?_eq_getElem (by omega)⟩
              obtain ⟨y2, hy2⟩ : ∃ y2, d[k + (q - 1)]? = some y2 := ⟨_, List.getElem?_eq_getElem (by omega)⟩
              have hcr : ∀ (i : Nat) (u : Value), cur[i]? = some u → wr.cell? ⟨g, i, none⟩ = some u := fun i u hu => by rw [cell_of_row wr g i _ _ (0, 0) HG.out]; simpa using hu
              have hcx : ∀ (n : Nat) (v : Value), x2.enc[n]? = some v → wr.cell? ⟨g, k * 9 + q * 9 + n, none⟩ = some v := fun n v hv => by rw [← Nat.add_mul]; exact hcr _ _ (HC.out (k + q) n x2 v (by omega) hx2 hv)
              have hcy : ∀ (n : Nat) (v : Value), y2.enc[n]? = some v → wr.cell? ⟨g, k * 9 + (q - 1) * 9 + n, none⟩ = some v := fun n v hv => by rw [← Nat.add_mul]; exact hcr _ _ (HC.out (k + (q - 1)) n y2 v (by omega) hy2 hv)
              have f0 : wr.cell? ⟨g, k * 9 + q * 9, none⟩ = some (.int .u32 x2.a) := hcx 0 _ rfl
              have e0 : wr.cell? ⟨g, k * 9 + (q - 1) * 9, none⟩ = some (.int .u32 y2.a) := hcy 0 _ rfl
              have F0 := cell_regrown f0
              have E0 := cell_regrown e0
              have f1 : wr.cell? ⟨g, k * 9 + q * 9 + 1, none⟩ = some (.int .i64 x2.m) := hcx 1 _ rfl
              have e1 : wr.cell? ⟨g, k * 9 + (q - 1) * 9 + 1, none⟩ = some (.int .i64 y2.m) := hcy 1 _ rfl
              have F1 := cell_regrown f1
              have E1 := cell_regrown e1
              have f2 : wr.cell? ⟨g, k * 9 + q * 9 + 2, none⟩ = some (.int .u8 x2.fr) := hcx 2 _ rfl
              have e2 : wr.cell? ⟨g, k * 9 + (q - 1) * 9 + 2, none⟩ = some (.int .u8 y2.fr) := hcy 2 _ rfl
              have F2 := cell_regrown f2
              have E2 := cell_regrown e2
              have f3 : wr.cell? ⟨g, k * 9 + q * 9 + 3, none⟩ = some (.int .i64 x2.di) := hcx 3 _ rfl
              have e3 : wr.cell? ⟨g, k * 9 + (q - 1) * 9 + 3, none⟩ = some (.int .i64 y2.di) := hcy 3 _ rfl
              have F3 := cell_regrown f3
              have E3 := cell_regrown e3
              have f4 : wr.cell? ⟨g, k * 9 + q * 9 + 4, none⟩ = some (.int .i64 x2.me) := hcx 4 _ rfl
              have e4 : wr.cell? ⟨g, k * 9 + (q - 1) * 9 + 4, none⟩ = some (.int .i64 y2.me) := hcy 4 _ rfl
              have F4 := cell_regrown f4
              have E4 := cell_regrown e4
              have f5 : wr.cell? ⟨g, k * 9 + q * 9 + 5, none⟩ = some (.int .i64 x2.ta) := hcx 5 _ rfl
              have e5 : wr.cell? ⟨g, k * 9 + (q - 1) * 9 + 5, none⟩ = some (.int .i64 y2.ta) := hcy 5 _ rfl
              have F5 := cell_regrown f5
              have E5 := cell_regrown e5
              have f6 : wr.cell? ⟨g, k * 9 + q * 9 + 6, none⟩ = some (.string x2.nm) := hcx 6 _ rfl
              have e6 : wr.cell? ⟨g, k * 9 + (q - 1) * 9 + 6, none⟩ = some (.string y2.nm) := hcy 6 _ rfl
              have F6 := cell_regrown f6
              have E6 := cell_regrown e6
              have f7 : wr.cell? ⟨g, k * 9 + q * 9 + 7, none⟩ = some (.int .u32 x2.ho) := hcx 7 _ rfl
              have e7 : wr.cell? ⟨g, k * 9 + (q - 1) * 9 + 7, none⟩ = some (.int .u32 y2.ho) := hcy 7 _ rfl
              have F7 := cell_regrown f7
              have E7 := cell_regrown e7
              have f8 : wr.cell? ⟨g, k * 9 + q * 9 + 8, none⟩ = some (.bool x2.dc) := hcx 8 _ rfl
              have e8 : wr.cell? ⟨g, k * 9 + (q - 1) * 9 + 8, none⟩ = some (.bool y2.dc) := hcy 8 _ rfl
              have F8 := cell_regrown f8
              have E8 := cell_regrown e8
              have HX2 := Lib.hid hx2
              have HY2 := Lib.hid hy2
              have hgw := lt_of_block HG.out
              clear hcr hcx hcy hx2 hy2 f0 e0 f1 e1 f2 e2 f3 e3 f4 e4 f5 e5 f6 e6 f7 e7 f8 e8
              by_cases he2 : x2 = y2
              · have hEQ := fun W => neqR_same he2 W
                have HE2 := Lib.hid he2
                clear he2
                go_wp2
                refine wp_region_quiet_below (by kernel_rfl) (by kernel_rfl) ?_
                repeat (first | go_big_quiet_step (fail) | quiet_step (fail))
                refine wpQuiet_nil ?_
                intro _ hw'
                obtain ⟨⟨nq, osq⟩, hw''⟩ := hw'
                subst hw''
                have hq := below_regrown wr nq osq
                have HQ2 := Lib.hid hq
                clear hq
                have hdd2 : ddTo d (k + (q + 1)) = ddTo d (k + q) := by
                  refine dd_same (n := k + q) (by omega) ?_
                  rw [HX2.out, show k + q - 1 = k + (q - 1) by omega, HY2.out, HE2.out]
                have HDD := Lib.hid hdd2
                clear hdd2 hEQ
                go_wp2
                refine ⟨⟨m, q + 1, cur, rfl, by go_num, by omega, by omega, by omega, ?_, (HQ2.out.block g hgw).trans HG.out, HL.out, ?_, fun j n z v hj => HC.out j n z v (by omega), HB.out.trans (HQ2.out.mono (Nat.le_trans hB2 HB.out.size))⟩, by simp only [intOf]; omega⟩
                · show m = _; rw [HDD.out]; exact HM.out
                · show _ = _; rw [HDD.out]; exact HT.out
              · have hEQ := fun W => neqR_not he2 W
                have HE2 := Lib.hid he2
                clear he2
                go_wp2
                refine wp_region_quiet_below (by kernel_rfl) (by kernel_rfl) ?_
                repeat (first | go_big_quiet_step (fail) | quiet_step (fail))
                refine wpQuiet_nil ?_
                intro _ hw'
                obtain ⟨⟨nq, osq⟩, hw''⟩ := hw'
                subst hw''
                have hq := below_regrown wr nq osq
                have HQ2 := Lib.hid hq
                have hG2 := (hq.block g hgw).trans HG.out
                have hB2' := HB.out.trans (hq.mono (Nat.le_trans hB2 HB.out.size))
                clear hq
                have hdd2 : ddTo d (k + (q + 1)) = ddTo d (k + q) ++ [x2] := by
                  refine dd_new (n := k + q) HX2.out (fun _ => ?_)
                  rw [HX2.out, show k + q - 1 = k + (q - 1) by omega, HY2.out]
                  intro h
                  injection h with h
                  exact HE2.out h
                have HDD := Lib.hid hdd2
                have hfit : m * 9 + x2.enc.length ≤ cur.length := by rw [HL.out, route_len]; omega
                clear hdd2 hEQ E0 E1 E2 E3 E4 E5 E6 E7 E8
                have g0 := F0 nq osq
                have g1 := F1 nq osq
                have g2 := F2 nq osq
                have g3 := F3 nq osq
                have g4 := F4 nq osq
                have g5 := F5 nq osq
                have g6 := F6 nq osq
                have g7 := F7 nq osq
                have g8 := F8 nq osq
                have HB3 := Lib.hid hB2'
                clear hB2'
                go_wp2_with (refine wpList_store_splice rfl _ _ 27 rfl 9 Tryz.sizeOf27 g (m * 9) rfl (.agg x2.enc.toArray) rfl cur 27 hG2 x2.enc rfl rfl hfit (renc_one x2) B w HB3.out (Nat.le_trans hB hbg) ?_; intro w5 hg5 hb5)
                have hlen5 : (splice cur (m * 9) x2.enc).length = c * 9 := by rw [length_splice _ _ _ hfit]; exact HL.out
                have htk5 : (splice cur (m * 9) x2.enc).take ((m + 1) * 9) = rvcells (ddTo d (k + (q + 1))) := by
                  rw [take_splice hfit (by rw [route_len]; omega), HDD.out, rvcells_snoc, HT.out]
                refine ⟨⟨m + 1, q + 1, splice cur (m * 9) x2.enc, by go_num, by go_num, by omega, by omega, by omega, ?_, hg5, hlen5, htk5, ?_, hb5⟩, by simp only [intOf]; omega⟩
                · show m + 1 = _
                  rw [HDD.out, List.length_append, ← HM.out]; rfl
                · intro j n z v hj hz hv
                  rw [splice_get hfit (by rw [route_len]; omega)]
                  exact HC.out j n z v (by omega) hz hv
            · obtain rfl : q = d.length - k := by omega
              have hgx := HG.out
              have ekq : k + (d.length - k) = d.length := by omega
              have HM2 : Hid (m = (ddTo d d.length).length) := by have h := HM.out; rw [ekq] at h; exact h
              have HT2 : Hid (cur.take (m * 9) = rvcells (ddTo d d.length)) := by have h := HT.out; rw [ekq] at h; exact h
              clear ekq HM HT HC
              have hmd : m < d.length := by omega
              have hnm : (m : Int) ≤ (c : Int) := by omega
              have hnc2 : ¬ c = m := by omega
              have hfz : m * 9 + (Builtin.zeroCells (Value.agg #[.int .u32 0, .int .i64 0, .int .u8 0, .int .i64 0, .int .i64 0, .int .i64 0, .string ByteArray.empty, .int .u32 0, .bool false]).cells (d.length - m)).toList.length ≤ cur.length := by rw [zeroR_len, HL.out]; omega
              go_wp2_with (refine wpList_clear_K rfl _ 28 rfl 27 Tryz.underlying28 (Value.agg #[.int .u32 0, .int .i64 0, .int .u8 0, .int .i64 0, .int .i64 0, .int .i64 0, .string ByteArray.empty, .int .u32 0, .bool false]) Tryz.zeroRoute (by intro v hv; simp only [Value.cells, List.mem_cons, List.not_mem_nil, or_false] at hv; rcases hv with rfl | rfl | rfl | rfl | rfl | rfl | rfl | rfl | rfl <;> rfl) (some ⟨g, m * 9, none⟩) (d.length - m) (c - m) rfl (by omega) g (m * 9) rfl cur 27 hgx _ rfl hfz B w HB.out (Nat.le_trans hB hbg) ?_; intro w5 hg5 hb5)
              go_ret
              have hl5 := length_splice cur (m * 9) _ hfz
              refine ⟨_, rfl, ?_, hb5⟩
              have hM := HM2.out
              rw [← hM]
              refine owns_of_block (cur := (splice cur (m * 9) _).toArray) hg5.out (by omega) hcm (by rw [List.size_toArray, hl5]; exact HL.out) ?_ (by rw [rvcells_len, ← hM]) hbg
              rw [← HT2.out]
              exact take_splice_low (by rw [HL.out]; omega) rfl
        · have hEQ := fun W => eqlR_not he W
          have HE := Lib.hid he
          clear he
          go_wp2
          refine wp_region_quiet_below (by kernel_rfl) (by kernel_rfl) ?_
          repeat (first | go_big_quiet_step (fail) | quiet_step (fail))
          refine wpQuiet_nil ?_
          intro _ hw'
          obtain ⟨⟨nq, osq⟩, hw''⟩ := hw'
          subst hw''
          have hq := below_regrown wx nq osq
          go_wp2
          refine ⟨⟨k + 1, rfl, by omega, by omega, ?_, HN.out.trans (hq.mono HN.out.size)⟩, by simp only [intOf]; omega⟩
          intro i h1 h3
          by_cases hik : i = k
          · subst hik
            rw [HX.out, HY.out]
            intro h
            injection h with h
            exact HE.out h
          · exact HD.out i h1 (by omega)
      · obtain rfl : k = d.length := by omega
        have hJ : ¬ (d.length : Int) < (d.length : Int) := by omega
        have hdd : ddTo d d.length = d := by rw [dd_all (Nat.le_refl _) HD.out, List.take_length]
        go_wp2
        go_ret
        exact ⟨_, rfl, by first | exact owns_kept_none HO.out (only_of_below HN.out none) | (rw [hdd]; exact owns_kept_none HO.out (only_of_below HN.out none)), HN.out.mono hB2⟩
end Go.Proofs.YtlhafehhkjjchaaGreatDoor

/-
  Joined texts: OpenS2, ElemAd.
-/
import Derived.Test.YtbanbommgcjmjaaMRoutesAdverts8
import Derived.SizedLaws
import Derived.Test.YtbanbommgcjmjaaMRoutesAdverts13
import Derived.Deep.Fields
/-
  Arguments opened to cells with their weights: no program in sight.
-/
namespace Go.Proofs.Ytbanbommgcjmjaa
open Go Go.RowKit Go.ChangeShapes Go.WideShapes Go.Deep

section
variable {H : Type} {enc : TypeId × Value → H} {P : Program} {w : World} {base : Nat} {spare : Nat → Bool} {held : Bool}
/-- All of a datum's weights are within the reach. -/
def InReach (P : Program) (t : TypeId) (d : DataW H) : Prop := ∀ m ∈ d.weights P t, m ≤ reachBytes
theorem mem_weightsAll {e : TypeId} {d : DataW H} : ∀ {ds : List (DataW H)}, d ∈ ds → ∀ n ∈ d.weights P e, n ∈ DataW.weightsAll P e ds
  | [], h, _, _ => by simp at h
  | x :: ds, h, n, hn => by
    rw [DataW.weightsAll, List.mem_append]
    rcases List.mem_cons.1 h with rfl | h
    · exact .inl hn
    · exact .inr (mem_weightsAll h n hn)
theorem sub_at2 {t : TypeId} {fs : Array Field} {n : Nat} {cs : List Value} {x : DataW H × List MemPlace} (ht : P.underlying t = some (.struct fs)) (h : DataW.trod enc P w base spare held n t cs = some x) (hw : InReach P t x.1) :
    cs.length = P.cellsOf t ∧ ∃ m, ∀ (j : Nat) (f : Field) (off : Nat) (ty : TypeId) (k : Nat), fs[j]? = some f → f.offset = off → f.type = ty → P.cellsOf ty = k → ∃ y, DataW.trod enc P w base spare held m ty ((cs.drop off).take k) = some y ∧ InReach P ty y.1 := by
  obtain ⟨xs, m, _, hx, hl, hlen, hf⟩ := DataW.trod_struct ht h
  refine ⟨hl, m, fun j f off ty k hj ho hty hk => ?_⟩
  have h1 := hf j f hj
  have hjl : j < xs.length := by rw [hlen]; exact (Array.getElem?_eq_some_iff.1 hj).1
  subst ho hty hk
  refine ⟨_, h1.trans (List.getElem?_eq_getElem hjl), fun q hq => hw q ?_⟩
  rw [hx]
  simp only [DataW.weights, ht]
  exact DataW.weights_mem_each (j := j) (t := f.type) (by simpa using congrArg (Option.map (·.type)) hj) (by simp [hjl]) q hq
theorem open_rd2 {α : Type} {encV : α → List Value} {Q : α → Prop} {k : Nat} (hk : ∀ x, (encV x).length = k) (hk0 : 0 < k) {t e : TypeId} {n : Nat} {cs : List Value} {x : DataW H × List MemPlace} (ht : P.underlying t = some (.slice e)) (hC : P.cellsOf e = k)
    (hel : ∀ n cs y, DataW.trod enc P w base spare held n e cs = some y → InReach P e y.1 → ∃ r, cs = encV r ∧ Q r) (h : DataW.trod enc P w base spare held n t cs = some x) (hw : InReach P t x.1) :
    ∃ (v : Value) (L : List α), cs = [v] ∧ Rd w w.heap.size k v L.length (L.flatMap encV) ∧ L.length ≤ maxLen ∧ (∀ r ∈ L, Q r) ∧ L.length * P.bytesOf e ≤ reachBytes := by
  rcases open_slice ht h with ⟨h0, _⟩ | ⟨a, len, cap, m, n', D, Pl, hcs, _, hl, hm, hmm, hx, hi⟩
  · exact ⟨_, [], h0, ⟨none, 0, rfl, by simp, by simp, fun h => absurd h (by simp)⟩, by simp, by simp, by simp⟩
  · have hlm : len ≤ m := by rw [hmm]; split <;> omega
    have hw1 : ∀ i, i < len → InReach P e (D i) := fun i hi' q hq => by
      refine hw q ?_
      rw [hx]
      simp only [DataW.weights, ht]
      refine List.mem_cons_of_mem _ (List.mem_append_left _ (mem_weightsAll (d := D i) ?_ q hq))
      exact List.mem_map.2 ⟨i, List.mem_range.2 hi', rfl⟩
    have hw2 : len * P.bytesOf e ≤ reachBytes := by
      have := hw ((((List.range len).map D).length + ((List.range (m - len)).map fun j => D (len + j)).length) * P.bytesOf e) (by rw [hx]; simp only [DataW.weights, ht]; exact List.mem_cons_self ..)
      refine Nat.le_trans (Nat.mul_le_mul_right _ ?_) this
      simp
    obtain ⟨L, hL, hq⟩ := list_told (Q := fun i r => w.cells? base (a.add (i * k)) k = some (encV r) ∧ Q r) len (fun i hi' => by
      obtain ⟨cs', hc, ht'⟩ := hi i (by omega)
      obtain ⟨r, hr, hQ⟩ := hel _ _ _ ht' (hw1 i hi')
      rw [hC] at hc
      exact ⟨r, by rw [hc, hr], hQ⟩)
    refine ⟨_, L, hcs, ⟨some a, cap, by rw [hL], by omega, flat_len encV k hk L, fun hpos => ?_⟩, by omega, fun r hr => ?_, by rw [hL]; exact hw2⟩
    · obtain ⟨b, off, sp⟩ := a
      have hz : ∃ u, w.cell? ⟨b, off, sp⟩ = some u := by
        obtain ⟨r, hr⟩ : ∃ r, L[0]? = some r := ⟨_, List.getElem?_eq_getElem hpos⟩
        obtain ⟨_, _, hat⟩ := World.cells?_some (hq 0 r hr).1
        have h1 := hat 0 hk0
        have h2 : (encV r)[0]? = some ((encV r)[0]'(by rw [hk]; exact hk0)) := List.getElem?_eq_getElem _
        rw [h2] at h1
        refine ⟨_, Eq.trans ?_ h1⟩
        simp [Addr.add]
      obtain ⟨u0, hu0⟩ := hz
      obtain rfl := Go.Proofs.cell_spot hu0
      refine ⟨b, off, rfl, ?_, fun j u hu => ?_⟩
      · rcases Nat.lt_or_ge b w.heap.size with h | h
        · exact h
        · have hn : w.heap[b]? = none := by simp [h]
          simp [World.cell?, hn] at hu0
      · obtain ⟨i, jj, r, hj, hjj, hr, hu'⟩ := flat_inv encV k hk L j u hu
        obtain ⟨_, _, hat⟩ := World.cells?_some (hq i r hr).1
        have h1 := hat jj hjj
        rw [hu'] at h1
        have e : (Addr.add ⟨b, off, none⟩ (i * k)).add jj = ⟨b, off + j, none⟩ := by
          rw [hj]; simp only [Addr.add]
          split <;> split <;> simp_all <;> omega
        rw [← e]; exact h1
    · obtain ⟨i, hi', he⟩ := List.getElem_of_mem hr
      exact (hq i r (by rw [← he]; exact List.getElem?_eq_getElem hi')).2
end

end Go.Proofs.Ytbanbommgcjmjaa

/-
  The cells of lists of adverts that came in (written by wip/gen/genelemad.py).
-/
namespace Go.Proofs.Ytbanbommgcjmjaa
open Go Go.RowKit Go.ChangeShapes Go.WideShapes Go.Deep

theorem trod_nilA {H : Type} {enc : TypeId × Value → H} {P : Program} {w : World} {base : Nat} {spare : Nat → Bool} {held : Bool} {t e : TypeId} {n : Nat} {v : Value} {x : DataW H × List MemPlace} (ht : P.underlying t = some (.slice e)) (h : DataW.trod enc P w base spare held n t [v] = some x) : ∀ n c, v = .slice none n c → c = 0 := by
  rcases open_slice ht h with ⟨h0, _⟩ | ⟨a, len, cap, m, n', D, Pl, hcs, _⟩
  · obtain rfl := (List.cons.inj h0).1
    intro n c hv
    injection hv with _ h1 h2
    omega
  · obtain rfl := (List.cons.inj hcs).1
    intro n c hv
    cases hv
theorem one_lenA (x : Int) : [Value.int .u32 x].length = 1 := rfl
theorem one_flatA (L : List Int) : (L.flatMap fun x => [Value.int .u32 x]) = L.map (Value.int .u32) := by
  induction L with
  | nil => rfl
  | cons a r ih => simp [List.flatMap_cons, ih]
theorem elem_u32sA {H : Type} {enc : TypeId × Value → H} {w : World} {base : Nat} {spare : Nat → Bool} {held : Bool} (n : Nat) (cs : List Value) (y : DataW H × List MemPlace) (h : DataW.trod enc Try.prog w base spare held n 33 cs = some y) (hw : InReach Try.prog 33 y.1) :
    ∃ (A : Option Addr) (C : Nat) (L : List Int), cs = [.slice A L.length C] ∧ Rd w w.heap.size 1 (.slice A L.length C) L.length (L.map (Value.int .u32)) ∧ L.length ≤ 35184372087808 ∧ u32s L ∧ (A = none → C = 0) := by
  obtain ⟨v, L, hv, hr, _, hq, hb⟩ := open_rd2 (Q := fun x : Int => 0 ≤ x ∧ x < 4294967296) one_lenA (by decide) Try.underlying33 (by kernel_rfl) (fun n cs y h _ => by
    obtain ⟨a, e, _, w0⟩ := DataW.trod_int Try.underlying23 h
    have b := bounds_u32 w0
    exact ⟨a, e, by omega, by omega⟩) h hw
  rw [one_flatA] at hr
  rw [show Try.prog.bytesOf 23 = 4 from by kernel_rfl] at hb
  subst hv
  have hn := trod_nilA Try.underlying33 h
  obtain ⟨A, C, rfl, _⟩ := hr.form
  exact ⟨A, C, L, rfl, hr, by have : reachBytes = 140737488351232 := rfl; rw [this] at hb; omega, hq, fun e => hn _ _ (by rw [e])⟩
theorem elem_adrsA {H : Type} {enc : TypeId × Value → H} {w : World} {base : Nat} {spare : Nat → Bool} {held : Bool} (n : Nat) (cs : List Value) (y : DataW H × List MemPlace) (h : DataW.trod enc Try.prog w base spare held n 34 cs = some y) (hw : InReach Try.prog 34 y.1) :
    ∃ (A : Option Addr) (C : Nat) (L : List Int), cs = [.slice A L.length C] ∧ Rd w w.heap.size 1 (.slice A L.length C) L.length (L.map (Value.int .u32)) ∧ L.length ≤ 35184372087808 ∧ u32s L ∧ (A = none → C = 0) := by
  obtain ⟨v, L, hv, hr, _, hq, hb⟩ := open_rd2 (Q := fun x : Int => 0 ≤ x ∧ x < 4294967296) one_lenA (by decide) Try.underlying34 (by kernel_rfl) (fun n cs y h _ => by
    obtain ⟨a, e, _, w0⟩ := DataW.trod_int Try.underlying24 h
    have b := bounds_u32 w0
    exact ⟨a, e, by omega, by omega⟩) h hw
  rw [one_flatA] at hr
  rw [show Try.prog.bytesOf 24 = 4 from by kernel_rfl] at hb
  subst hv
  have hn := trod_nilA Try.underlying34 h
  obtain ⟨A, C, rfl, _⟩ := hr.form
  exact ⟨A, C, L, rfl, hr, by have : reachBytes = 140737488351232 := rfl; rw [this] at hb; omega, hq, fun e => hn _ _ (by rw [e])⟩
set_option maxHeartbeats 1000000 in
theorem elem_advertX {H : Type} {enc : TypeId × Value → H} {w : World} {base : Nat} {spare : Nat → Bool} {held : Bool} (n : Nat) (cs : List Value) (x : DataW H × List MemPlace) (h : DataW.trod enc Try.prog w base spare held n 36 cs = some x) (hw : InReach Try.prog 36 x.1) :
    ∃ r : AdX, cs = r.enc ∧ (AdOk w w.heap.size r ∧ AdNil r ∧ LenK r) := by
  obtain ⟨l0, m0, s0⟩ := sub_at2 Try.underlying36 h hw
  rw [show Try.prog.cellsOf 36 = 13 from by kernel_rfl] at l0
  obtain ⟨c0, c1, c2, c3, c4, c5, c6, c7, c8, c9, c10, c11, c12, rfl⟩ : ∃ c0 c1 c2 c3 c4 c5 c6 c7 c8 c9 c10 c11 c12, cs = [c0, c1, c2, c3, c4, c5, c6, c7, c8, c9, c10, c11, c12] := by
    match cs, l0 with
    | [c0, c1, c2, c3, c4, c5, c6, c7, c8, c9, c10, c11, c12], _ => exact ⟨c0, c1, c2, c3, c4, c5, c6, c7, c8, c9, c10, c11, c12, rfl⟩
  obtain ⟨_, g0, z0⟩ := s0 0 _ 0 26 2 rfl rfl rfl (by kernel_rfl)
  replace g0 : DataW.trod enc Try.prog w base spare held m0 26 [c0, c1] = some _ := g0
  obtain ⟨l4, m4, s4⟩ := sub_at Try.underlying26 g0
  obtain ⟨_, ga⟩ := s4 0 _ 0 24 1 rfl rfl rfl (by kernel_rfl)
  replace ga : DataW.trod enc Try.prog w base spare held m4 24 [c0] = some _ := ga
  obtain ⟨v0, e0, _, w0⟩ := DataW.trod_int Try.underlying24 ga
  have b0 := bounds_u32 w0
  obtain rfl := (List.cons.inj e0).1
  obtain ⟨_, gb⟩ := s4 1 _ 1 3 1 rfl rfl rfl (by kernel_rfl)
  replace gb : DataW.trod enc Try.prog w base spare held m4 3 [c1] = some _ := gb
  obtain ⟨v1, e1, _, w1⟩ := DataW.trod_int Try.underlying3 gb
  have b1 := bounds_i64 w1
  obtain rfl := (List.cons.inj e1).1
  obtain ⟨_, g1, z1⟩ := s0 1 _ 2 24 1 rfl rfl rfl (by kernel_rfl)
  replace g1 : DataW.trod enc Try.prog w base spare held m0 24 [c2] = some _ := g1
  obtain ⟨v2, e2, _, w2⟩ := DataW.trod_int Try.underlying24 g1
  have b2 := bounds_u32 w2
  obtain rfl := (List.cons.inj e2).1
  obtain ⟨_, g2, z2⟩ := s0 2 _ 3 3 1 rfl rfl rfl (by kernel_rfl)
  replace g2 : DataW.trod enc Try.prog w base spare held m0 3 [c3] = some _ := g2
  obtain ⟨v3, e3, _, w3⟩ := DataW.trod_int Try.underlying3 g2
  have b3 := bounds_i64 w3
  obtain rfl := (List.cons.inj e3).1
  obtain ⟨_, g3, z3⟩ := s0 3 _ 4 3 1 rfl rfl rfl (by kernel_rfl)
  replace g3 : DataW.trod enc Try.prog w base spare held m0 3 [c4] = some _ := g3
  obtain ⟨v4, e4, _, w4⟩ := DataW.trod_int Try.underlying3 g3
  have b4 := bounds_i64 w4
  obtain rfl := (List.cons.inj e4).1
  obtain ⟨_, g4, z4⟩ := s0 4 _ 5 33 1 rfl rfl rfl (by kernel_rfl)
  replace g4 : DataW.trod enc Try.prog w base spare held m0 33 [c5] = some _ := g4
  obtain ⟨A5, C5, L5, e5, R5, n5, q5, k5⟩ := elem_u32sA _ _ _ g4 z4
  obtain rfl := (List.cons.inj e5).1
  obtain ⟨_, g5, z5⟩ := s0 5 _ 6 33 1 rfl rfl rfl (by kernel_rfl)
  replace g5 : DataW.trod enc Try.prog w base spare held m0 33 [c6] = some _ := g5
  obtain ⟨A6, C6, L6, e6, R6, n6, q6, k6⟩ := elem_u32sA _ _ _ g5 z5
  obtain rfl := (List.cons.inj e6).1
  obtain ⟨_, g6, z6⟩ := s0 6 _ 7 24 1 rfl rfl rfl (by kernel_rfl)
  replace g6 : DataW.trod enc Try.prog w base spare held m0 24 [c7] = some _ := g6
  obtain ⟨v7, e7, _, w7⟩ := DataW.trod_int Try.underlying24 g6
  have b7 := bounds_u32 w7
  obtain rfl := (List.cons.inj e7).1
  obtain ⟨_, g7, z7⟩ := s0 7 _ 8 24 1 rfl rfl rfl (by kernel_rfl)
  replace g7 : DataW.trod enc Try.prog w base spare held m0 24 [c8] = some _ := g7
  obtain ⟨v8, e8, _, w8⟩ := DataW.trod_int Try.underlying24 g7
  have b8 := bounds_u32 w8
  obtain rfl := (List.cons.inj e8).1
  obtain ⟨_, g8, z8⟩ := s0 8 _ 9 4 1 rfl rfl rfl (by kernel_rfl)
  replace g8 : DataW.trod enc Try.prog w base spare held m0 4 [c9] = some _ := g8
  obtain ⟨v9, e9, _⟩ := DataW.trod_bool Try.underlying4 g8
  obtain rfl := (List.cons.inj e9).1
  obtain ⟨_, g9, z9⟩ := s0 9 _ 10 24 1 rfl rfl rfl (by kernel_rfl)
  replace g9 : DataW.trod enc Try.prog w base spare held m0 24 [c10] = some _ := g9
  obtain ⟨v10, e10, _, w10⟩ := DataW.trod_int Try.underlying24 g9
  have b10 := bounds_u32 w10
  obtain rfl := (List.cons.inj e10).1
  obtain ⟨_, g10, z10⟩ := s0 10 _ 11 34 1 rfl rfl rfl (by kernel_rfl)
  replace g10 : DataW.trod enc Try.prog w base spare held m0 34 [c11] = some _ := g10
  obtain ⟨A11, C11, L11, e11, R11, n11, q11, k11⟩ := elem_adrsA _ _ _ g10 z10
  obtain rfl := (List.cons.inj e11).1
  obtain ⟨_, g11, z11⟩ := s0 11 _ 12 3 1 rfl rfl rfl (by kernel_rfl)
  replace g11 : DataW.trod enc Try.prog w base spare held m0 3 [c12] = some _ := g11
  obtain ⟨v12, e12, _, w12⟩ := DataW.trod_int Try.underlying3 g11
  have b12 := bounds_i64 w12
  obtain rfl := (List.cons.inj e12).1
  exact ⟨⟨⟨v0, v1, v12, v3, v4, v2, v7, v8, v9, v10, L5, L6, L11, ⟨by omega, by omega⟩, ⟨by omega, by omega⟩, ⟨by omega, by omega⟩, ⟨by omega, by omega⟩, ⟨by omega, by omega⟩, ⟨by omega, by omega⟩, ⟨by omega, by omega⟩, ⟨by omega, by omega⟩, ⟨by omega, by omega⟩, q5, q6, q11⟩, A5, C5, A6, C6, A11, C11⟩, rfl, ⟨R5, R6, R11, by dsimp only; omega⟩, ⟨k5, k6, k11⟩, n5, n6, n11⟩

end Go.Proofs.Ytbanbommgcjmjaa

/-
  Joined texts: OpenS, Sp2, SpMath2, SpMath3, Sp3, Rb6.
-/
import Derived.Test.YtdjikiakcfbklaaGreatMRewriteKinds4
import Derived.Deep.Slices
import Derived.ChangeSame
import Derived.Lib.LaidU8
import Derived.OpenShut
import Derived.WideShapes
import Derived.ChangeMaps5
import Derived.Test.YtdjikiakcfbklaaGreatMRewriteKinds8
import Derived.Laws.OwnMore
import Derived.Test.YtdjikiakcfbklaaGreatMRewriteKinds5
import Derived.Deep.DeepCutAuto
import Derived.StillTailTactics
/-
  Arguments opened to cells: structs of any depth, slices of structs of any length; no program in sight.
-/
namespace Go.Proofs.YtdjikiakcfbklaaGreat
open Go Go.RowKit Go.ChangeShapes Go.WideShapes Go.Deep

theorem list_told {α : Type} {Q : Nat → α → Prop} : ∀ n, (∀ i, i < n → ∃ r, Q i r) → ∃ L : List α, L.length = n ∧ ∀ i x, L[i]? = some x → Q i x
  | 0, _ => ⟨[], rfl, fun i x h => by simp at h⟩
  | n + 1, h => by
    obtain ⟨L, hl, hq⟩ := list_told n (fun i hi => h i (by omega))
    obtain ⟨r, hr⟩ := h n (by omega)
    refine ⟨L ++ [r], by simp [hl], fun i x hx => ?_⟩
    by_cases hi : i < L.length
    · rw [List.getElem?_append_left hi] at hx; exact hq i x hx
    · rw [List.getElem?_append_right (by omega)] at hx
      have : i - L.length = 0 := by
        have := (List.getElem?_eq_some_iff.1 hx).1
        simp at this; omega
      rw [this] at hx
      simp at hx
      subst hx
      have : i = n := by omega
      rw [this]; exact hr
theorem flat_inv {α : Type} (enc : α → List Value) (k : Nat) (hk : ∀ x, (enc x).length = k) (L : List α) (j : Nat) (u : Value) (h : (L.flatMap enc)[j]? = some u) :
    ∃ (i jj : Nat) (x : α), j = i * k + jj ∧ jj < k ∧ L[i]? = some x ∧ (enc x)[jj]? = some u := by
  have hj := (List.getElem?_eq_some_iff.1 h).1
  rw [flat_len enc k hk] at hj
  have hk0 : 0 < k := by
    rcases Nat.eq_zero_or_pos k with h0 | h0
    · subst h0; simp at hj
    · exact h0
  have hd : j / k < L.length := Nat.div_lt_of_lt_mul (by rw [Nat.mul_comm]; exact hj)
  have hm := Nat.mod_lt j hk0
  have hdm : j = j / k * k + j % k := by rw [Nat.mul_comm]; exact (Nat.div_add_mod j k).symm
  have hx := List.getElem?_eq_getElem hd
  have hu : (enc L[j / k])[j % k]? = some ((enc L[j / k])[j % k]'(by rw [hk]; exact hm)) := List.getElem?_eq_getElem _
  have hg := flat_get enc k hk L _ _ _ _ hx hu
  rw [← hdm, h] at hg
  exact ⟨j / k, j % k, _, hdm, hm, hx, hu.trans hg.symm⟩

section
variable {H : Type} {enc : TypeId × Value → H} {P : Program} {w : World} {base : Nat} {spare : Nat → Bool} {held : Bool}
theorem sub_at {t : TypeId} {fs : Array Field} {n : Nat} {cs : List Value} {x : DataW H × List MemPlace} (ht : P.underlying t = some (.struct fs)) (h : DataW.trod enc P w base spare held n t cs = some x) :
    cs.length = P.cellsOf t ∧ ∃ m, ∀ (j : Nat) (f : Field) (off : Nat) (ty : TypeId) (k : Nat), fs[j]? = some f → f.offset = off → f.type = ty → P.cellsOf ty = k → ∃ y, DataW.trod enc P w base spare held m ty ((cs.drop off).take k) = some y := by
  obtain ⟨xs, m, _, _, hl, hlen, hf⟩ := DataW.trod_struct ht h
  refine ⟨hl, m, fun j f off ty k hj ho hty hk => ?_⟩
  have h1 := hf j f hj
  have hjl : j < xs.length := by rw [hlen]; exact (Array.getElem?_eq_some_iff.1 hj).1
  subst ho hty hk
  exact ⟨_, h1.trans (List.getElem?_eq_getElem hjl)⟩
/-- A struct as a parameter. -/
theorem open_agg {r : Reach} {b0 : Nat} {t : TypeId} {fs : Array Field} {v : Value} {d : DataW H} {p : List MemPlace} (hs : P.underlying t = some (.struct fs)) (hv : Value.okWide P w r b0 t v) (h : DataW.Trod enc P w base spare held t v d p) :
    ∃ (cs : List Value) (n : Nat), v = .agg cs.toArray ∧ DataW.trod enc P w base spare held n t cs = some (d, p) := by
  obtain ⟨cs, rfl, _⟩ := okWide_struct hs hv
  obtain ⟨n, hf⟩ := h
  exact ⟨cs.toList, n, by simp, hf⟩
/-- A slice as a parameter. -/
theorem open_sl {r : Reach} {b0 : Nat} {t e : TypeId} {v : Value} {d : DataW H} {p : List MemPlace} (hs : P.underlying t = some (.slice e)) (hv : Value.okWide P w r b0 t v) (h : DataW.Trod enc P w base spare held t v d p) :
    ∃ n, DataW.trod enc P w base spare held n t [v] = some (d, p) := by
  obtain ⟨a, len, cap, rfl⟩ := okWide_slice hs hv
  exact h
/-- A slice whose elements' cells are told by one list each. -/
theorem open_rd {α : Type} {encV : α → List Value} {k : Nat} (hk : ∀ x, (encV x).length = k) (hk0 : 0 < k) {t e : TypeId} {n : Nat} {cs : List Value} {x : DataW H × List MemPlace} (ht : P.underlying t = some (.slice e)) (hC : P.cellsOf e = k)
    (hel : ∀ n cs y, DataW.trod enc P w base spare held n e cs = some y → ∃ r, cs = encV r) (h : DataW.trod enc P w base spare held n t cs = some x) :
    ∃ (v : Value) (L : List α), cs = [v] ∧ Rd w w.heap.size k v L.length (L.flatMap encV) ∧ L.length ≤ maxLen := by
  rcases open_slice ht h with ⟨h0, _⟩ | ⟨a, len, cap, m, n', D, Pl, hcs, _, hl, hm, hmm, _, hi⟩
  · exact ⟨_, [], h0, ⟨none, 0, rfl, by simp, by simp, fun h => absurd h (by simp)⟩, by simp⟩
  · have hlm : len ≤ m := by rw [hmm]; split <;> omega
    obtain ⟨L, hL, hq⟩ := list_told (Q := fun i r => w.cells? base (a.add (i * k)) k = some (encV r)) len (fun i hi' => by
      obtain ⟨cs', hc, ht'⟩ := hi i (by omega)
      obtain ⟨r, hr⟩ := hel _ _ _ ht'
      rw [hC] at hc
      exact ⟨r, by rw [hc, hr]⟩)
    refine ⟨_, L, hcs, ⟨some a, cap, by rw [hL], by omega, flat_len encV k hk L, fun hpos => ?_⟩, by omega⟩
    obtain ⟨b, off, sp⟩ := a
    have hz : ∃ u, w.cell? ⟨b, off, sp⟩ = some u := by
      obtain ⟨r, hr⟩ : ∃ r, L[0]? = some r := ⟨_, List.getElem?_eq_getElem hpos⟩
      obtain ⟨_, _, hat⟩ := World.cells?_some (hq 0 r hr)
      have h1 := hat 0 hk0
      have h2 : (encV r)[0]? = some ((encV r)[0]'(by rw [hk]; exact hk0)) := List.getElem?_eq_getElem _
      rw [h2] at h1
      refine ⟨_, Eq.trans ?_ h1⟩
      simp [Addr.add]
    obtain ⟨u0, hu0⟩ := hz
    obtain rfl := Go.Proofs.cell_spot hu0
    refine ⟨b, off, rfl, ?_, fun j u hu => ?_⟩
    · rcases Nat.lt_or_ge b w.heap.size with h | h
      · exact h
      · have hn : w.heap[b]? = none := by simp [h]
        simp [World.cell?, hn] at hu0
    · obtain ⟨i, jj, r, hj, hjj, hr, hu'⟩ := flat_inv encV k hk L j u hu
      obtain ⟨_, _, hat⟩ := World.cells?_some (hq i r hr)
      have h1 := hat jj hjj
      rw [hu'] at h1
      have e : (Addr.add ⟨b, off, none⟩ (i * k)).add jj = ⟨b, off + j, none⟩ := by
        rw [hj]; simp only [Addr.add]
        split <;> split <;> simp_all <;> omega
      rw [← e]; exact h1
end

end Go.Proofs.YtdjikiakcfbklaaGreat

/-
  Rows of structs and the shelf's sort: cells told both ways; the sort of spans.
-/
namespace Go.Proofs.YtdjikiakcfbklaaGreat
open Go Go.RowKit Go.Lib Go.Sort

section
variable {α : Type} [Inhabited α] {enc : α → List Value} {k : Nat}
theorem flatK_at (hk : ∀ x, (enc x).length = k) {L : List α} {j : Nat} {u : Value} (h : (L.flatMap enc)[j]? = some u) : (flatK enc k L.toArray)[j]! = u := by
  have hj := (List.getElem?_eq_some_iff.1 h).1
  rw [flat_len enc k hk] at hj
  rw [get_flatK _ _ _ _ (by simpa using hj)]
  obtain ⟨i, jj, x, rfl, hjj, hx, hu⟩ := flat_inv enc k hk L j u h
  have e1 : (i * k + jj) / k = i := by
    rw [Nat.mul_comm, Nat.mul_add_div (by omega), Nat.div_eq_of_lt hjj, Nat.add_zero]
  have e2 : (i * k + jj) % k = jj := by
    rw [Nat.mul_comm, Nat.mul_add_mod, Nat.mod_eq_of_lt hjj]
  rw [e1, e2]
  have hi := (List.getElem?_eq_some_iff.1 hx)
  have e3 : L.toArray[i]! = x := by
    have := get_bang hi.1
    rw [hx] at this
    injection this with this
    rw [this]
    simp
  rw [e3]
  have := get_bang (List.getElem?_eq_some_iff.1 hu).1
  rw [hu] at this
  injection this with this
  exact this.symm
theorem holdsK_of (hk : ∀ x, (enc x).length = k) {L : List α} {w : World} {g off : Nat} (h : ∀ j u, (L.flatMap enc)[j]? = some u → w.cell? ⟨g, off + j, none⟩ = some u) (hf : ∀ j, w.frozen? ⟨g, j, none⟩ = false) : HoldsK enc k w g off L.toArray := by
  intro j hj
  rw [size_flatK] at hj
  have hj' : j < (L.flatMap enc).length := by rw [flat_len enc k hk]; simpa using hj
  refine ⟨?_, hf _⟩
  rw [flatK_at hk (List.getElem?_eq_getElem hj')]
  exact h j _ (List.getElem?_eq_getElem hj')
theorem cells_of_holdsK (hk : ∀ x, (enc x).length = k) {d : Array α} {w : World} {g off : Nat} (h : HoldsK enc k w g off d) : ∀ j u, (d.toList.flatMap enc)[j]? = some u → w.cell? ⟨g, off + j, none⟩ = some u := by
  intro j u hu
  have hj := (List.getElem?_eq_some_iff.1 hu).1
  rw [flat_len enc k hk] at hj
  have := (h j (by rw [size_flatK]; simpa using hj)).1
  have e := flatK_at hk (L := d.toList) hu
  rw [show d.toList.toArray = d by simp] at e
  rw [e] at this
  exact this
theorem below_sortWorldK {w : World} {B g off m : Nat} {d : Array α} {os : Array Obj} (hg : B ≤ g) (hB : B ≤ w.heap.size) : RowKit.Below B w (sortWorldK enc k w g off m d os) := by
  refine ⟨rfl, rfl, rfl, ?_, fun i hi => ?_⟩
  · simp [sortWorldK, grow, putRowK, putRow, mapBlock]
  · have hne : i ≠ g := by omega
    simp only [sortWorldK, grow, putRowK, putRow, mapBlock]
    rw [Array.getElem?_append_left (by simp; omega), Array.getElem?_modify, if_neg (Ne.symm hne)]
    rfl
end

theorem ltS (x y : SpanV) : ltOf cmpS x y = decide (x.lo < y.lo ∨ (x.lo = y.lo ∧ x.hi < y.hi)) := by
  unfold ltOf cmpS
  rcases Int.lt_trichotomy x.lo y.lo with h | h | h
  · rw [cmpI_lt h]
    simp [firstNZ, h]
  · rw [h, cmpI_eq]
    rcases Int.lt_trichotomy x.hi y.hi with h2 | h2 | h2
    · rw [cmpI_lt h2]; simp [firstNZ, h2]
    · rw [h2, cmpI_eq]; simp [firstNZ]
    · rw [cmpI_gt h2]; simp [firstNZ]; omega
  · rw [cmpI_gt h]
    simp [firstNZ]; omega
theorem swoS : SWO (ltOf cmpS) where
  irrefl x := by rw [ltS]; simp
  trans x y z h1 h2 := by rw [ltS] at *; simp at *; omega
  ntrans x y z h1 h2 := by rw [ltS] at *; simp at *; omega

def scells (L : List SpanV) : List Value := L.flatMap SpanV.enc
theorem scell {L : List SpanV} {k i : Nat} {x : SpanV} {v : Value} (hr : L[k]? = some x) (hv : x.enc[i]? = some v) : (scells L)[k * 2 + i]? = some v := flat_get SpanV.enc 2 span_len L k i x v hr hv
def SortPost (L : List SpanV) (v : Value) (base : Nat) (w : World) (e : Ending) (w' : World) : Prop :=
  e = .returned (.tuple #[]) ∧ ∃ L' : List SpanV, L'.Perm L ∧ L'.Pairwise (fun x y => x.lo ≤ y.lo) ∧ Rd w' w'.heap.size 2 v L'.length (scells L') ∧ ∀ B, B ≤ base → B ≤ w.heap.size → RowKit.Below B w w'

theorem sortSpan_any (L : List SpanV) (v : Value) (base : Nat) (w : World) (hown : w.ownsRow base 72 2 v L.length (scells L)) (hlen : L.length < 4611686018427387904) :
    Calls Tryz.prog 105 #[v, .func (.func 106) #[] #[]] w fun e w' => SortPost L v base w e w' := by
  rcases Nat.eq_zero_or_pos L.length with h0 | h0
  · obtain rfl : L = [] := List.eq_nil_of_length_eq_zero h0
    obtain ⟨A, c, rfl, _⟩ := owns_form hown
    refine (AnyF.slices_SortFunc_none Tryz.sortSpan A c (.func (.func 106) #[] #[]) w).mono fun e w' ⟨he, hw⟩ => ⟨he, [], List.Perm.refl _, List.Pairwise.nil, ?_, fun B _ _ => ?_⟩
    · subst hw; exact Rd.of_own hown
    · subst hw; exact RowKit.Below.refl _ _
  · obtain ⟨A, c, rfl, hA⟩ := owns_form hown
    obtain ⟨g, rfl⟩ := hA h0
    have hg := hown.lt g rfl
    have hH : HoldsK SpanV.enc 2 w g 0 L.toArray := holdsK_of span_len (fun j u hu => by
      have := hown.cells (g := g) rfl j u hu
      have e : (⟨g, 0, none⟩ : Addr).add j = ⟨g, 0 + j, none⟩ := by simp [Addr.add]; omega
      rw [← e]; exact this) (fun j => hown.frozenAt j)
    have hcon := AnyQ.slices_SortFunc Tryz.sortSpan 2 Tryz.isAgg72 Tryz.sizeOf72 SpanV.enc span_len (fun x v hv => by simp [SpanV.enc] at hv; rcases hv with rfl | rfl <;> rfl) cmpS swoS 106 #[] g 0 c L.toArray w (enters_of Tryz.func106 (by kernel_rfl) rfl) (fun _ _ _ _ x y => formClos_any x y _) hH hg.2 (by simpa using hlen)
    rw [List.size_toArray] at hcon
    change Calls Tryz.prog 105 _ _ _ at hcon
    refine hcon.mono ?_
    rintro e w' ⟨he, d', n, os, hp, hs, hw⟩
    have hsz : d'.size = L.length := by simpa using hp.1
    subst hw
    have hK := holdsK_sortWorldK_c (enc := SpanV.enc) (k := 2) (w := w) (blk := g) (off := 0) L.toArray d' n os hH hg.2 (by simpa using hsz)
    refine ⟨he, d'.toList, ?_, ?_, ⟨_, c, ?_, ?_, ?_, fun _ => ⟨g, 0, rfl, ?_, fun j u hu => ?_⟩⟩, fun B hB hB2 => below_sortWorldK (by omega) hB2⟩
    · have := hp.2.2
      rw [← hsz] at this
      have e1 : (d'.extract 0 d'.size).toList = d'.toList := by simp
      have e2 : (L.toArray.extract 0 d'.size).toList = L := by rw [hsz]; simp
      rw [e1, e2] at this
      exact this
    · rw [List.pairwise_iff_getElem]
      intro i j hi hj hij
      have h1 := hs i j (Nat.zero_le _) hij (by simpa [hsz] using hj)
      rw [ltS] at h1
      have e1 : d'[i]! = d'.toList[i] := by
        have : i < d'.size := by simpa using hi
        simp [this]
      have e2 : d'[j]! = d'.toList[j] := by
        have : j < d'.size := by simpa using hj
        simp [this]
      rw [e1, e2] at h1
      simp at h1
      simp
      omega
    · have e1 : d'.toList.length = L.length := by simpa using hsz
      rw [e1]
    · have := hown
      obtain ⟨_, hq⟩ := this
      rcases hq with ⟨h1, _⟩ | ⟨g', cap, cur, h1, _, _, h2, _⟩
      · cases h1
      · injection h1 with _ _ h1
        rw [Array.length_toList, hsz, h1]
        exact h2
    · exact flat_len SpanV.enc 2 span_len _
    · have := size_sortWorldK_c (enc := SpanV.enc) (k := 2) (w := w) (blk := g) (off := 0) n d' os
      omega
    · exact cells_of_holdsK span_len hK j u hu

end Go.Proofs.YtdjikiakcfbklaaGreat

/-
  Sets of numbers as spans: the list in normal form with given members; one step of the merging. No program in sight.
-/
namespace Go.Proofs.YtdjikiakcfbklaaGreat

open Classical in
/-- The normal form of a set of numbers (if it has one). -/
noncomputable def theSet (P : Int → Bool) : List SpanV := if h : ∃ R : List SpanV, NF R ∧ ∀ x, hasB R x = P x then h.choose else []
theorem theSet_eq {P : Int → Bool} {R : List SpanV} (h : NF R) (hm : ∀ x, hasB R x = P x) : theSet P = R := by
  have he : ∃ R : List SpanV, NF R ∧ ∀ x, hasB R x = P x := ⟨R, h, hm⟩
  unfold theSet
  rw [dif_pos he]
  exact NF.unique he.choose_spec.1 h (fun x => (he.choose_spec.2 x).trans (hm x).symm)
theorem inB_iff {s : SpanV} {x : Int} : s.inB x = true ↔ s.lo ≤ x ∧ x ≤ s.hi := by simp [SpanV.inB]
theorem hasB_append (A B : List SpanV) (x : Int) : hasB (A ++ B) x = (hasB A x || hasB B x) := by simp [hasB]
theorem hasB_one (s : SpanV) (x : Int) : hasB [s] x = s.inB x := by simp [hasB]
theorem hasB_perm {A B : List SpanV} (h : A.Perm B) (x : Int) : hasB A x = hasB B x := by
  rw [Bool.eq_iff_iff, hasB_iff, hasB_iff]
  constructor
  · rintro ⟨s, hs, h1⟩; exact ⟨s, h.mem_iff.1 hs, h1⟩
  · rintro ⟨s, hs, h1⟩; exact ⟨s, h.mem_iff.2 hs, h1⟩
theorem NF.snoc : ∀ {A : List SpanV} {t : SpanV}, NF (A ++ [t]) ↔ NF A ∧ t.lo ≤ t.hi ∧ ∀ a ∈ A, a.hi + 1 < t.lo
  | [], t => by simp [NF]
  | s :: A, t => by
    have ih := @NF.snoc A t
    show (s.lo ≤ s.hi ∧ (∀ u ∈ A ++ [t], s.hi + 1 < u.lo) ∧ NF (A ++ [t])) ↔ _
    rw [ih]
    constructor
    · rintro ⟨h1, h2, h3, h4, h5⟩
      refine ⟨⟨h1, fun u hu => h2 u (List.mem_append_left _ hu), h3⟩, h4, fun a ha => ?_⟩
      rcases List.mem_cons.1 ha with rfl | ha
      · exact h2 t (List.mem_append_right _ (List.mem_singleton.2 rfl))
      · exact h5 a ha
    · rintro ⟨⟨h1, h2, h3⟩, h4, h5⟩
      refine ⟨h1, fun u hu => ?_, h3, h4, fun a ha => h5 a (List.mem_cons_of_mem _ ha)⟩
      rcases List.mem_append.1 hu with hu | hu
      · exact h2 u hu
      · obtain rfl := List.mem_singleton.1 hu
        exact h5 s (List.mem_cons_self ..)
/-- A span that reaches farther. -/
def SpanV.reach (t s : SpanV) : SpanV := ⟨t.lo, max t.hi s.hi, t.hlo, by have := t.hhi; have := s.hhi; omega⟩
theorem merge_in {A : List SpanV} {t s : SpanV} (h : NF (A ++ [t])) (hs : s.lo ≤ s.hi) (hts : t.lo ≤ s.lo) (hm : s.lo ≤ t.hi + 1) :
    NF (A ++ [t.reach s]) ∧ ∀ x, hasB (A ++ [t.reach s]) x = (hasB (A ++ [t]) x || s.inB x) := by
  obtain ⟨h1, h2, h3⟩ := NF.snoc.1 h
  refine ⟨NF.snoc.2 ⟨h1, ?_, h3⟩, fun x => ?_⟩
  · show t.lo ≤ max t.hi s.hi
    omega
  · rw [hasB_append, hasB_append, hasB_one, hasB_one, Bool.or_assoc]
    congr 1
    rw [Bool.eq_iff_iff, Bool.or_eq_true, inB_iff, inB_iff, inB_iff]
    show (t.lo ≤ x ∧ x ≤ max t.hi s.hi) ↔ _
    omega
theorem merge_new {A : List SpanV} {t s : SpanV} (h : NF (A ++ [t])) (hs : s.lo ≤ s.hi) (hm : t.hi + 1 < s.lo) : NF (A ++ [t] ++ [s]) := by
  obtain ⟨h1, h2, h3⟩ := NF.snoc.1 h
  refine NF.snoc.2 ⟨h, hs, fun a ha => ?_⟩
  rcases List.mem_append.1 ha with ha | ha
  · have := h3 a ha; omega
  · obtain rfl := List.mem_singleton.1 ha
    exact hm

end Go.Proofs.YtdjikiakcfbklaaGreat

/-
  Sets of numbers as spans: the merging of a sorted list; what is in both; what is in none. No program in sight.
-/
namespace Go.Proofs.YtdjikiakcfbklaaGreat

theorem hasB_nil (x : Int) : hasB [] x = false := rfl
theorem hasB_take_succ {L : List SpanV} {j : Nat} {s : SpanV} (h : L[j]? = some s) (x : Int) : hasB (L.take (j + 1)) x = (hasB (L.take j) x || s.inB x) := by
  rw [List.take_add_one, h, hasB_append]
  show _ = (_ || s.inB x)
  congr 1
  simp [hasB]
/-- One step of the merging. -/
def mstep (O : List SpanV) (s : SpanV) : List SpanV :=
  match O.getLast? with
  | none => [s]
  | some t => if s.lo ≤ t.hi + 1 then O.dropLast ++ [t.reach s] else O ++ [s]
theorem mstep_nil (s : SpanV) : mstep [] s = [s] := rfl
theorem mstep_in {A : List SpanV} {t s : SpanV} (h : s.lo ≤ t.hi + 1) : mstep (A ++ [t]) s = A ++ [t.reach s] := by
  simp [mstep, h]
theorem mstep_new {A : List SpanV} {t s : SpanV} (h : ¬ s.lo ≤ t.hi + 1) : mstep (A ++ [t]) s = A ++ [t] ++ [s] := by
  simp [mstep, h]
def mfold (L : List SpanV) : List SpanV := L.foldl mstep []
theorem mfold_succ {L : List SpanV} {j : Nat} {s : SpanV} (h : L[j]? = some s) : mfold (L.take (j + 1)) = mstep (mfold (L.take j)) s := by
  rw [List.take_add_one, h]
  simp [mfold, List.foldl_append]
theorem snoc_cases {α : Type} (O : List α) : O = [] ∨ ∃ A t, O = A ++ [t] := by
  rcases List.eq_nil_or_concat O with h | ⟨A, t, h⟩
  · exact .inl h
  · exact .inr ⟨A, t, by simpa using h⟩
theorem mfold_ok {L : List SpanV} (hs : L.Pairwise (fun x y => x.lo ≤ y.lo)) (hv : ∀ s ∈ L, s.lo ≤ s.hi) :
    ∀ j, j ≤ L.length → NF (mfold (L.take j)) ∧ (∀ x, hasB (mfold (L.take j)) x = hasB (L.take j) x) ∧ ∀ t ∈ mfold (L.take j), ∀ s ∈ L.drop j, t.lo ≤ s.lo := by
  intro j
  induction j with
  | zero => intro _; exact ⟨trivial, fun x => rfl, fun t ht => by simp [mfold] at ht⟩
  | succ j ih =>
    intro hj
    obtain ⟨h1, h2, h3⟩ := ih (by omega)
    obtain ⟨s, hsj⟩ : ∃ s, L[j]? = some s := ⟨_, List.getElem?_eq_getElem (by omega)⟩
    have hsm : s ∈ L := List.mem_of_getElem? hsj
    have hd : L.drop j = s :: L.drop (j + 1) := by
      obtain ⟨hj', e⟩ := List.getElem?_eq_some_iff.1 hsj
      rw [List.drop_eq_getElem_cons hj', e]
    have hsrest : ∀ u ∈ L.drop (j + 1), s.lo ≤ u.lo := by
      have := hs.sublist (List.drop_sublist j L)
      rw [hd] at this
      exact (List.pairwise_cons.1 this).1
    have h3' : ∀ t ∈ mfold (L.take j), t.lo ≤ s.lo := fun t ht => h3 t ht s (by rw [hd]; exact List.mem_cons_self ..)
    have h3'' : ∀ t ∈ mfold (L.take j), ∀ u ∈ L.drop (j + 1), t.lo ≤ u.lo := fun t ht u hu => h3 t ht u (by rw [hd]; exact List.mem_cons_of_mem _ hu)
    rw [mfold_succ hsj]
    have hmem : ∀ x, hasB (L.take (j + 1)) x = (hasB (mfold (L.take j)) x || s.inB x) := fun x => by rw [hasB_take_succ hsj, h2 x]
    generalize hO : mfold (L.take j) = O at *
    rcases snoc_cases O with rfl | ⟨A, t, rfl⟩
    · rw [mstep_nil]
      refine ⟨⟨hv s hsm, fun t ht => by simp at ht, trivial⟩, fun x => by rw [hmem, hasB_one, hasB_nil, Bool.false_or], fun t ht u hu => ?_⟩
      obtain rfl := List.mem_singleton.1 ht
      exact hsrest u hu
    · have htl : t.lo ≤ s.lo := h3' t (List.mem_append_right _ (List.mem_singleton.2 rfl))
      by_cases hm : s.lo ≤ t.hi + 1
      · rw [mstep_in hm]
        obtain ⟨k1, k2⟩ := merge_in h1 (hv s hsm) htl hm
        refine ⟨k1, fun x => by rw [k2, hmem], fun u hu v hv' => ?_⟩
        rcases List.mem_append.1 hu with hu | hu
        · exact h3'' u (List.mem_append_left _ hu) v hv'
        · obtain rfl := List.mem_singleton.1 hu
          exact h3'' t (List.mem_append_right _ (List.mem_singleton.2 rfl)) v hv'
      · rw [mstep_new hm]
        refine ⟨merge_new h1 (hv s hsm) (by omega), fun x => by rw [hasB_append, hasB_one, hmem], fun u hu v hv' => ?_⟩
        rcases List.mem_append.1 hu with hu | hu
        · exact h3'' u hu v hv'
        · obtain rfl := List.mem_singleton.1 hu
          exact hsrest v hv'
/-- The form of a list: what the program's three steps make is the list in normal form with the same members. -/
def okS (s : SpanV) : Bool := decide (s.lo ≤ s.hi)
theorem hasB_filter (L : List SpanV) (x : Int) : hasB (L.filter okS) x = hasB L x := by
  rw [Bool.eq_iff_iff, hasB_iff, hasB_iff]
  constructor
  · rintro ⟨s, hs, h1⟩; exact ⟨s, (List.mem_filter.1 hs).1, h1⟩
  · rintro ⟨s, hs, h1, h2⟩; exact ⟨s, List.mem_filter.2 ⟨hs, by simp [okS]; omega⟩, h1, h2⟩
noncomputable def formOf (L : List SpanV) : List SpanV := theSet (hasB L)
theorem formOf_eq {L L' : List SpanV} (hp : L'.Perm (L.filter okS)) (hs : L'.Pairwise (fun x y => x.lo ≤ y.lo)) :
    formOf L = mfold L' ∧ NF (mfold L') ∧ ∀ x, hasB (mfold L') x = hasB L x := by
  have hv : ∀ s ∈ L', s.lo ≤ s.hi := fun s h => by
    have := (List.mem_filter.1 (hp.mem_iff.1 h)).2
    simpa [okS] using this
  obtain ⟨h1, h2, _⟩ := mfold_ok hs hv L'.length (Nat.le_refl _)
  rw [List.take_length] at h1 h2
  have h3 : ∀ x, hasB (mfold L') x = hasB L x := fun x => by rw [h2, hasB_perm hp, hasB_filter]
  exact ⟨theSet_eq h1 h3, h1, h3⟩
theorem formOf_ok (L : List SpanV) : NF (formOf L) ∧ ∀ x, hasB (formOf L) x = hasB L x := by
  have hp : ((L.filter okS).mergeSort (fun x y => decide (x.lo ≤ y.lo))).Perm (L.filter okS) := List.mergeSort_perm _ _
  have hs : ((L.filter okS).mergeSort (fun x y => decide (x.lo ≤ y.lo))).Pairwise (fun x y => x.lo ≤ y.lo) := by
    have := List.pairwise_mergeSort (le := fun (x y : SpanV) => decide (x.lo ≤ y.lo)) (fun a b c h1 h2 => by simp at *; omega) (fun a b => by simp; omega) (L.filter okS)
    exact this.imp (fun h => by simpa using h)
  obtain ⟨h1, h2, h3⟩ := formOf_eq hp hs
  rw [h1]
  exact ⟨h2, h3⟩
theorem theSet_form {P : Int → Bool} {L : List SpanV} (h : ∀ x, hasB L x = P x) : theSet P = formOf L := by
  obtain ⟨h1, h2⟩ := formOf_ok L
  exact theSet_eq h1 (fun x => by rw [h2, h])
theorem mfold_len (L : List SpanV) : ∀ j, (mfold (L.take j)).length ≤ j := by
  intro j
  induction j with
  | zero => simp [mfold]
  | succ j ih =>
    rcases Nat.lt_or_ge j L.length with h | h
    · rw [mfold_succ (List.getElem?_eq_getElem h)]
      generalize mfold (L.take j) = O at *
      rcases snoc_cases O with rfl | ⟨A, t, rfl⟩
      · simp [mstep_nil]
      · by_cases hm : (L[j]).lo ≤ t.hi + 1
        · rw [mstep_in hm]; simp at *; omega
        · rw [mstep_new hm]; simp at *; omega
    · have e : L.take (j + 1) = L.take j := by rw [List.take_of_length_le h, List.take_of_length_le (by omega)]
      rw [e]; omega
theorem formOf_len (L : List SpanV) : (formOf L).length ≤ L.length := by
  have hp : ((L.filter okS).mergeSort (fun x y => decide (x.lo ≤ y.lo))).Perm (L.filter okS) := List.mergeSort_perm _ _
  have hs : ((L.filter okS).mergeSort (fun x y => decide (x.lo ≤ y.lo))).Pairwise (fun x y => x.lo ≤ y.lo) := by
    have := List.pairwise_mergeSort (le := fun (x y : SpanV) => decide (x.lo ≤ y.lo)) (fun a b c h1 h2 => by simp at *; omega) (fun a b => by simp; omega) (L.filter okS)
    exact this.imp (fun h => by simpa using h)
  rw [(formOf_eq hp hs).1]
  generalize hM : (L.filter okS).mergeSort (fun x y => decide (x.lo ≤ y.lo)) = M at *
  have := mfold_len M M.length
  rw [List.take_length] at this
  have := hp.length_eq
  have := List.length_filter_le okS L
  omega

/-- What two spans have in common. -/
def meet1 (s t : SpanV) : List SpanV := if max s.lo t.lo ≤ min s.hi t.hi then [⟨max s.lo t.lo, min s.hi t.hi, by have := s.hlo; have := t.hlo; omega, by have := s.hhi; have := t.hhi; omega⟩] else []
theorem hasB_meet1 (s t : SpanV) (x : Int) : hasB (meet1 s t) x = (s.inB x && t.inB x) := by
  unfold meet1
  rw [Bool.eq_iff_iff, Bool.and_eq_true, inB_iff, inB_iff]
  split
  · rw [hasB_one, inB_iff]; show (max s.lo t.lo ≤ x ∧ x ≤ min s.hi t.hi) ↔ _; omega
  · rw [hasB_nil]; simp; omega
def meetRow (s : SpanV) (B : List SpanV) : List SpanV := B.flatMap (meet1 s)
def meetAll (A B : List SpanV) : List SpanV := A.flatMap (fun s => meetRow s B)
theorem hasB_flatMap {α : Type} (f : α → List SpanV) (A : List α) (x : Int) : hasB (A.flatMap f) x = A.any fun a => hasB (f a) x := by
  induction A with
  | nil => rfl
  | cons a A ih => rw [List.flatMap_cons, hasB_append, ih, List.any_cons]
theorem hasB_meetAll (A B : List SpanV) (x : Int) : hasB (meetAll A B) x = (hasB A x && hasB B x) := by
  unfold meetAll meetRow
  rw [hasB_flatMap]
  simp only [hasB_flatMap, hasB_meet1]
  rw [Bool.eq_iff_iff]
  simp [hasB]
  constructor
  · rintro ⟨s, hs, t, ht, h1, h2⟩; exact ⟨⟨s, hs, h1⟩, t, ht, h2⟩
  · rintro ⟨⟨s, hs, h1⟩, t, ht, h2⟩; exact ⟨s, hs, t, ht, h1, h2⟩
theorem meetRow_succ {s t : SpanV} {B : List SpanV} {k : Nat} (h : B[k]? = some t) : meetRow s (B.take (k + 1)) = meetRow s (B.take k) ++ meet1 s t := by
  unfold meetRow
  rw [List.take_add_one, h, List.flatMap_append]
  simp
theorem meetAll_succ {s : SpanV} {A B : List SpanV} {k : Nat} (h : A[k]? = some s) : meetAll (A.take (k + 1)) B = meetAll (A.take k) B ++ meetRow s B := by
  unfold meetAll
  rw [List.take_add_one, h, List.flatMap_append]
  simp
theorem meet1_len (s t : SpanV) : (meet1 s t).length ≤ 1 := by unfold meet1; split <;> simp
theorem meetRow_len (s : SpanV) (B : List SpanV) : (meetRow s B).length ≤ B.length := by
  induction B with
  | nil => simp [meetRow]
  | cons t B ih =>
    have := meet1_len s t
    simp only [meetRow, List.flatMap_cons, List.length_append, List.length_cons] at *
    omega
theorem meetAll_len (A B : List SpanV) : (meetAll A B).length ≤ A.length * B.length := by
  induction A with
  | nil => simp [meetAll]
  | cons s A ih =>
    have := meetRow_len s B
    simp only [meetAll, List.flatMap_cons, List.length_append, List.length_cons, Nat.succ_mul] at *
    omega

/-- What is not in a list, up to most: step by step over its form. -/
def gapOf (at' most : Int) (s : SpanV) : List SpanV :=
  if h : 0 ≤ at' ∧ at' < s.lo ∧ at' ≤ most ∧ most < 4294967296 then [⟨at', min (s.lo - 1) most, by omega, by omega⟩] else []
def natAt (F : List SpanV) : Int := match F.getLast? with | none => 0 | some s => s.hi + 1
theorem natAt_succ {F : List SpanV} {k : Nat} {s : SpanV} (h : F[k]? = some s) : natAt (F.take (k + 1)) = s.hi + 1 := by
  rw [List.take_add_one, h]
  simp [natAt]
theorem natAt_range {F : List SpanV} : 0 ≤ natAt F ∧ natAt F ≤ 4294967296 := by
  rcases snoc_cases F with rfl | ⟨A, t, rfl⟩
  · simp [natAt]
  · simp [natAt]; have := t.hhi; omega
theorem hasB_natAt {F : List SpanV} (h : NF F) {x : Int} (hx : hasB F x = true) : x < natAt F := by
  rcases snoc_cases F with rfl | ⟨A, t, rfl⟩
  · simp [hasB] at hx
  · obtain ⟨h1, h2, h3⟩ := NF.snoc.1 h
    obtain ⟨s, hs, hx1, hx2⟩ := hasB_iff.1 hx
    have e : natAt (A ++ [t]) = t.hi + 1 := by simp [natAt]
    rw [e]
    rcases List.mem_append.1 hs with hs | hs
    · have := h3 s hs; omega
    · obtain rfl := List.mem_singleton.1 hs; omega
theorem NF.take {F : List SpanV} (h : NF F) : ∀ k, NF (F.take k) := by
  induction F with
  | nil => intro k; simp [NF]
  | cons s r ih =>
    intro k
    cases k with
    | zero => trivial
    | succ k => exact ⟨h.1, fun t ht => h.2.1 t (List.mem_of_mem_take ht), ih h.2.2 k⟩
theorem NF.at_le {F : List SpanV} (h : NF F) {k : Nat} {s : SpanV} (hk : F[k]? = some s) : natAt (F.take k) ≤ s.lo := by
  have h1 := h.take (k + 1)
  rw [List.take_add_one, hk] at h1
  obtain ⟨_, h3, h4⟩ := NF.snoc.1 (show NF (F.take k ++ [s]) from h1)
  rcases snoc_cases (F.take k) with e | ⟨A, t, e⟩
  · rw [e]; exact s.hlo.1
  · rw [e] at h4 ⊢
    have := h4 t (List.mem_append_right _ (List.mem_singleton.2 rfl))
    simp [natAt]; omega
def notTo (most : Int) (F : List SpanV) : Nat → List SpanV
  | 0 => []
  | k + 1 => notTo most F k ++ (match F[k]? with | some s => gapOf (natAt (F.take k)) most s | none => [])
theorem notTo_succ {most : Int} {F : List SpanV} {k : Nat} {s : SpanV} (h : F[k]? = some s) : notTo most F (k + 1) = notTo most F k ++ gapOf (natAt (F.take k)) most s := by
  rw [notTo, h]
def lastOf (at' most : Int) : List SpanV := if h : 0 ≤ at' ∧ at' ≤ most ∧ most < 4294967296 then [⟨at', most, by omega, by omega⟩] else []
def notAll (most : Int) (F : List SpanV) : List SpanV := notTo most F F.length ++ lastOf (natAt F) most
theorem gapOf_len (a m : Int) (s : SpanV) : (gapOf a m s).length ≤ 1 := by unfold gapOf; split <;> simp
theorem notTo_len (most : Int) (F : List SpanV) (k : Nat) : (notTo most F k).length ≤ k := by
  induction k with
  | zero => simp [notTo]
  | succ k ih =>
    rw [notTo, List.length_append]
    split
    · have := gapOf_len (natAt (F.take k)) most ‹_›; omega
    · simp; omega
/-- What is in none of a list, up to most. -/
def notP (most : Int) (L : List SpanV) (x : Int) : Bool := decide (0 ≤ x) && decide (x ≤ most) && !hasB L x
theorem notTo_ok {most : Int} {F : List SpanV} (hF : NF F) (hm : 0 ≤ most ∧ most < 4294967296) : ∀ k, k ≤ F.length →
    NF (notTo most F k) ∧ (∀ a ∈ notTo most F k, a.hi + 1 < natAt (F.take k)) ∧ ∀ x, hasB (notTo most F k) x = (notP most (F.take k) x && decide (x < natAt (F.take k))) := by
  intro k
  induction k with
  | zero =>
    intro _
    refine ⟨trivial, fun a ha => by simp [notTo] at ha, fun x => ?_⟩
    by_cases h0 : 0 ≤ x
    · have h1 : ¬ x < 0 := by omega
      simp [notTo, hasB_nil, natAt, h1]
    · simp [notTo, hasB_nil, notP, natAt, h0]
  | succ k ih =>
    intro hk
    obtain ⟨h1, h2, h3⟩ := ih (by omega)
    obtain ⟨s, hs⟩ : ∃ s, F[k]? = some s := ⟨_, List.getElem?_eq_getElem (by omega)⟩
    have hsv : s.lo ≤ s.hi := hF.ok s (List.mem_of_getElem? hs)
    have hat := hF.at_le hs
    have hat0 := (natAt_range (F := F.take k)).1
    rw [notTo_succ hs, natAt_succ hs]
    have hin : ∀ x, hasB (F.take k) x = true → x < natAt (F.take k) := fun x hx => hasB_natAt (hF.take k) hx
    generalize natAt (F.take k) = A at *
    have hmem : ∀ x, hasB (notTo most F k ++ gapOf A most s) x = (notP most (F.take (k + 1)) x && decide (x < s.hi + 1)) := by
      intro x
      have hin := hin x
      rw [hasB_append, h3, notP, notP, hasB_take_succ hs]
      have hg : hasB (gapOf A most s) x = (decide (A ≤ x) && decide (x < s.lo) && decide (x ≤ most)) := by
        unfold gapOf
        split
        · rw [hasB_one, Bool.eq_iff_iff, inB_iff]
          simp
          show A ≤ x ∧ x ≤ min (s.lo - 1) most ↔ _
          omega
        · rw [hasB_nil]
          simp
          omega
      rw [hg]
      have hi : s.inB x = (decide (s.lo ≤ x) && decide (x ≤ s.hi)) := rfl
      rw [hi]
      cases hx : hasB (F.take k) x with
      | true =>
        have := hin hx
        simp
        omega
      | false =>
        rw [Bool.eq_iff_iff]
        simp
        omega
    refine ⟨?_, ?_, hmem⟩
    · by_cases hg : 0 ≤ A ∧ A < s.lo ∧ A ≤ most ∧ most < 4294967296
      · rw [gapOf, dif_pos hg]
        refine NF.snoc.2 ⟨h1, ?_, fun a ha => h2 a ha⟩
        show A ≤ min (s.lo - 1) most
        omega
      · rw [gapOf, dif_neg hg, List.append_nil]
        exact h1
    · intro a ha
      rcases List.mem_append.1 ha with ha | ha
      · have := h2 a ha; omega
      · unfold gapOf at ha
        split at ha
        · obtain rfl := List.mem_singleton.1 ha
          show min (s.lo - 1) most + 1 < _
          omega
        · simp at ha
theorem notAll_ok {most : Int} {F : List SpanV} (hF : NF F) (hm : 0 ≤ most ∧ most < 4294967296) : NF (notAll most F) ∧ ∀ x, hasB (notAll most F) x = notP most F x := by
  obtain ⟨h1, h2, h3⟩ := notTo_ok hF hm F.length (Nat.le_refl _)
  rw [List.take_length] at h2 h3
  have hat0 := (natAt_range (F := F)).1
  have hin : ∀ x, hasB F x = true → x < natAt F := fun x hx => hasB_natAt hF hx
  unfold notAll
  generalize natAt F = A at *
  refine ⟨?_, fun x => ?_⟩
  · unfold lastOf
    split
    · rename_i hg
      exact NF.snoc.2 ⟨h1, hg.2.1, fun a ha => h2 a ha⟩
    · rw [List.append_nil]; exact h1
  · rw [hasB_append, h3]
    have hg : hasB (lastOf A most) x = (decide (A ≤ x) && decide (x ≤ most)) := by
      unfold lastOf
      split
      · rw [hasB_one, Bool.eq_iff_iff, inB_iff]; simp
      · rw [hasB_nil]; simp; intro _; omega
    rw [hg]
    have hin := hin x
    unfold notP
    cases hx : hasB F x with
    | true => have := hin hx; simp; omega
    | false => rw [Bool.eq_iff_iff]; simp; omega
theorem notP_form (most : Int) (L : List SpanV) : notP most (formOf L) = notP most L := by
  funext x; unfold notP; rw [(formOf_ok L).2]
theorem theSet_not {most : Int} (hm : 0 ≤ most ∧ most < 4294967296) (L : List SpanV) : theSet (notP most L) = notAll most (formOf L) := by
  obtain ⟨h1, h2⟩ := notAll_ok (formOf_ok L).1 hm
  exact theSet_eq h1 (fun x => by rw [h2, notP_form])

end Go.Proofs.YtdjikiakcfbklaaGreat

/-
  The walk of spans.Form.
-/
namespace Go.Proofs.YtdjikiakcfbklaaGreat
open Go Go.RowKit Go.Lib Go.Sort

theorem Tryz.infoSpan : (Tryz.prog.info? 72).map (fun i => (i.zero, i.size, i.bytes)) = some (some (.agg #[.int .u32 0, .int .u32 0]), 2, 8) := by kernel_rfl
theorem below_drew1 {B : Nat} {a w : World} (h : Below B a w) : Below B a w.drew := ⟨h.os, h.tape, h.output, h.size, h.block⟩
/-- A new list of spans is handed back; nothing that was there has turned. -/
def SetRes (R : List SpanV) (w : World) (e : Ending) (w' : World) : Prop :=
  ∃ v, e = .returned v ∧ w'.ownsRow w.heap.size 72 2 v R.length (scells R) ∧ Below w.heap.size w w'
theorem scells_one (L : List SpanV) : ∀ u ∈ scells L, u.oneCell' = true := by
  intro u hu
  obtain ⟨r, _, hr⟩ := List.mem_flatMap.1 hu
  simp only [SpanV.enc, List.mem_cons, List.not_mem_nil, or_false] at hr
  rcases hr with rfl | rfl <;> rfl
theorem enc_one (s : SpanV) : ∀ u ∈ s.enc, u.oneCell' = true := by
  intro u hu
  simp only [SpanV.enc, List.mem_cons, List.not_mem_nil, or_false] at hu
  rcases hu with rfl | rfl <;> rfl
theorem scells_len (L : List SpanV) : (scells L).length = L.length * 2 := flat_len SpanV.enc 2 span_len L
theorem scells_append (A B : List SpanV) : scells (A ++ B) = scells A ++ scells B := by simp [scells]
theorem scells_snoc (A : List SpanV) (s : SpanV) : scells (A ++ [s]) = scells A ++ s.enc := by simp [scells]
theorem filter_succ {L : List SpanV} {j : Nat} {s : SpanV} (h : L[j]? = some s) : (L.take (j + 1)).filter okS = (L.take j).filter okS ++ (if s.lo ≤ s.hi then [s] else []) := by
  rw [List.take_add_one, h, List.filter_append]
  congr 1
  by_cases hs : s.lo ≤ s.hi <;> simp [okS, hs]
theorem filter_take_len (L : List SpanV) (j : Nat) : ((L.take j).filter okS).length ≤ j := by
  have := List.length_filter_le okS (L.take j)
  simp at this; omega
theorem scells_set {A : List SpanV} {t y : SpanV} (h : y.lo = t.lo) : (scells (A ++ [t])).set (A.length * 2 + 1) (.int .u32 y.hi) = scells (A ++ [y]) := by
  rw [scells_snoc, scells_snoc, List.set_append_right _ _ (by rw [scells_len]; omega), scells_len, show A.length * 2 + 1 - A.length * 2 = 1 by omega]
  show scells A ++ [.int .u32 t.lo, .int .u32 y.hi] = scells A ++ [.int .u32 y.lo, .int .u32 y.hi]
  rw [h]

set_option maxRecDepth 100000 in
set_option maxHeartbeats 4000000 in
theorem form_any (L : List SpanV) (vl : Value) (w : World) (hl : Rd w w.heap.size 2 vl L.length (scells L)) (hlen : L.length ≤ 1099511627776) :
    Calls Tryz.prog 62 #[vl] w (SetRes (formOf L) w) := by
  obtain ⟨i0, hi, hz0, hz1, hz2⟩ := info_parts Tryz.infoSpan
  obtain ⟨A0, c0, rfl, hc0⟩ := hl.form
  have HL := Lib.hid hl
  clear hl
  go_enter Tryz.func62, Tryz.ntmps62
  go_wp2
  go_loopw [3, 12] (fun v i wr => ∃ j : Nat, i = .int .i64 j ∧ j ≤ L.length ∧ wr.ownsRow w.heap.size 72 2 v ((L.take j).filter okS).length (scells ((L.take j).filter okS)) ∧ Below w.heap.size w wr) (fun _ i _ => L.length - (intOf i).toNat)
  case atStart => exact ⟨0, rfl, by omega, World.ownsRow_nil _ _ _ _, Below.refl _ _⟩
  case round =>
    obtain ⟨j, rfl, hj, hown, hnx⟩ := hrel
    by_cases hlt : j < L.length
    · have hI : (j : Int) < (L.length : Int) := by omega
      obtain ⟨s, hs⟩ : ∃ s, L[j]? = some s := ⟨_, List.getElem?_eq_getElem hlt⟩
      obtain ⟨b, off, c', hv, _, hbB, hcell⟩ := (HL.out.below hnx).posAt (by omega)
      injection hv with hv1 _ hv3
      subst hv1 hv3
      have f0 : wr.cell? ⟨b, off + j * 2, none⟩ = some (.int .u32 s.lo) := hcell j 0 _ (scell hs rfl)
      have f1 : wr.cell? ⟨b, off + j * 2 + 1, none⟩ = some (.int .u32 s.hi) := hcell j 1 _ (scell hs rfl)
      have hfl := filter_take_len L j
      have hsz := hnx.size
      clear hcell
      have hstep := filter_succ hs
      have hbox := below1 wr (.cells #[.int .u32 s.lo, .int .u32 s.hi] 72)
      by_cases hok : s.lo ≤ s.hi
      · rw [if_pos hok] at hstep
        go_wp2_with (at_builtin; refine wpList_push rfl _ _ 107 rfl 72 i0 _ 2 8 Tryz.underlying107 hi hz0 hz1 hz2 rfl (by decide) (by decide) [.int .u32 s.lo, .int .u32 s.hi] rfl rfl (by simp) (hown.alloc _) rfl (enc_one s) (by omega) (by simp; omega) (hnx.alloc hsz _) (Nat.le_refl _) ?_; intro v2 w2 hown2 hb2)
        refine ⟨⟨j + 1, rfl, by omega, ?_, hb2⟩, by simp only [intOf]; omega⟩
        rw [hstep, scells_snoc, List.length_append]
        exact hown2
      · rw [if_neg hok, List.append_nil] at hstep
        go_wp2
        exact ⟨⟨j + 1, rfl, by omega, by rw [hstep]; exact hown.alloc _, hnx.alloc hsz _⟩, by simp only [intOf]; omega⟩
    · have hI : ¬ (j : Int) < (L.length : Int) := by omega
      obtain rfl : j = L.length := by omega
      rw [List.take_length] at hown
      have hfl := List.length_filter_le okS L
      have hsz := hnx.size
      go_wp2_with fail
      refine (sortSpan_any _ _ _ _ hown (by omega)).mono ?_
      rintro e w1 ⟨rfl, L', hperm, hpw, hR, hbel⟩
      have hb1 : Below w.heap.size w w1 := hnx.trans (hbel _ (Nat.le_refl _) hsz)
      have hlen' : L'.length ≤ L.length := by rw [hperm.length_eq]; exact hfl
      have hF := formOf_eq hperm hpw
      have hml := mfold_len L'
      have hsz1 := hb1.size
      obtain ⟨A2, c2, rfl, hc2⟩ := hR.form
      have HF := Lib.hid hF
      have HR := Lib.hid hR
      have HB1 := Lib.hid hb1
      have HML := Lib.hid hml
      clear hown hnx hfl hperm hpw hbel hF hb1 hml hR
      go_wp2
      go_loopw [6, 30] (fun v i wr => ∃ j : Nat, i = .int .i64 j ∧ j ≤ L'.length ∧ wr.ownsRow w1.heap.size 72 2 v (mfold (L'.take j)).length (scells (mfold (L'.take j))) ∧ Below w1.heap.size w1 wr) (fun _ i _ => L'.length - (intOf i).toNat)
      case atStart => exact ⟨0, rfl, by omega, World.ownsRow_nil _ _ _ _, Below.refl _ _⟩
      case round =>
        obtain ⟨j, rfl, hj, hown, hnx⟩ := hrel
        have hsz := hnx.size
        by_cases hlt : j < L'.length
        · have hI : (j : Int) < (L'.length : Int) := by omega
          obtain ⟨s, hs⟩ : ∃ s, L'[j]? = some s := ⟨_, List.getElem?_eq_getElem hlt⟩
          obtain ⟨b, off, c', hv, _, hbB, hcell⟩ := (HR.out.below hnx).posAt (by omega)
          injection hv with hv1 _ hv3
          subst hv1 hv3
          have f0 : wr.cell? ⟨b, off + j * 2, none⟩ = some (.int .u32 s.lo) := hcell j 0 _ (scell hs rfl)
          have f1 : wr.cell? ⟨b, off + j * 2 + 1, none⟩ = some (.int .u32 s.hi) := hcell j 1 _ (scell hs rfl)
          clear hcell
          have hstep := mfold_succ hs
          have hOl := HML.out j
          generalize mfold (L'.take j) = O at *
          have hHS := Lib.hid hstep
          clear hstep hs
          have hownA := hown.alloc (.cells #[.int .u32 s.lo, .int .u32 s.hi] 72)
          have hnxA := hnx.alloc hsz (.cells #[.int .u32 s.lo, .int .u32 s.hi] 72)
          have kb := blk1 wr (.cells #[.int .u32 s.lo, .int .u32 s.hi] 72)
          have hszA : w1.heap.size ≤ (wr.alloc (.cells #[.int .u32 s.lo, .int .u32 s.hi] 72)).heap.size := by simp; omega
          have hlo := s.hlo
          have hhi := s.hhi
          rcases snoc_cases O with rfl | ⟨A, t, rfl⟩
          · obtain ⟨A3, c3, rfl, _⟩ := owns_form hown
            have HO := Lib.hid hownA
            have HN := Lib.hid hnxA
            have HK := Lib.hid kb
            obtain ⟨x0, x1, _, _⟩ := two_cells kb
            clear hown hnx hownA hnxA kb
            go_wp2
            refine wp_region_quiet_below (by kernel_rfl) (by kernel_rfl) ?_
            repeat (first | go_big_quiet_step (fail) | quiet_step (fail))
            refine wpQuiet_nil ?_
            intro _ hw'
            obtain ⟨⟨nq, osq⟩, hw''⟩ := hw'
            subst hw''
            have hq := below_regrown (wr.alloc (.cells #[.int .u32 s.lo, .int .u32 s.hi] 72)) nq osq
            have own1 := owns_kept_none HO.out (only_of_below hq none)
            have nx1 := HN.out.trans (hq.mono hszA)
            have sz1 := nx1.size
            obtain ⟨y0, y1, _, _⟩ := two_cells (blk_below hq HK.out)
            clear x0 x1 HO HN HK f0 f1
            generalize grow (redrawn (wr.alloc (.cells #[.int .u32 s.lo, .int .u32 s.hi] 72)) nq) osq = W1 at *
            clear hq
            go_wp2_with (at_builtin; refine wpList_push rfl _ _ 107 rfl 72 i0 _ 2 8 Tryz.underlying107 hi hz0 hz1 hz2 rfl (by decide) (by decide) [.int .u32 s.lo, .int .u32 s.hi] rfl rfl (by simp) own1 rfl (enc_one s) (by simp) (by omega) nx1 (Nat.le_refl _) ?_; intro v2 w2 hown2 hb2)
            refine ⟨⟨j + 1, by go_num, by omega, ?_, hb2⟩, by simp only [intOf]; omega⟩
            rw [hHS.out, mstep_nil]
            exact hown2
          · have hl1 : (A ++ [t]).length = A.length + 1 := by simp
            rw [hl1] at hown hownA hOl
            obtain ⟨A3, c3, rfl, hA3⟩ := owns_form hown
            obtain ⟨g, rfl⟩ := hA3 (by omega)
            have e1 : (wr.alloc (.cells #[.int .u32 s.lo, .int .u32 s.hi] 72)).cell? ⟨g, A.length * 2 + 1, none⟩ = some (.int .u32 t.hi) := (hownA.cellAt (A.length * 2 + 1) (by omega)).trans (scell (L := A ++ [t]) (k := A.length) (i := 1) (x := t) (by simp) rfl)
            have HO := Lib.hid hownA
            have HN := Lib.hid hnxA
            have HK := Lib.hid kb
            obtain ⟨x0, x1, _, _⟩ := two_cells kb
            have F0 := cell_regrown x0
            have F1 := cell_regrown x1
            have F2 := cell_regrown e1
            have hthi := t.hhi
            clear hown hnx hownA hnxA kb
            have hm : (t.hi == 4294967295) = true ∨ ((t.hi == 4294967295) = false ∧ (t.hi + 1) % 4294967296 = t.hi + 1 ∧ decide (s.lo ≤ t.hi + 1) = true) ∨ ((t.hi == 4294967295) = false ∧ (t.hi + 1) % 4294967296 = t.hi + 1 ∧ decide (s.lo ≤ t.hi + 1) = false) := by
              by_cases h1 : t.hi = 4294967295
              · exact .inl (by simp [h1])
              · by_cases h2 : s.lo ≤ t.hi + 1
                · exact .inr (.inl ⟨by simp [h1], by omega, by simp [h2]⟩)
                · exact .inr (.inr ⟨by simp [h1], by omega, by simp; omega⟩)
            rcases hm with hm1 | ⟨hm1, hm2, hm3⟩ | ⟨hm1, hm2, hm3⟩
            · have hmg : s.lo ≤ t.hi + 1 := by
                have := eq_of_beq hm1
                omega
              have HM := Lib.hid hmg
              clear hmg
              go_wp2
              refine wp_region_quiet_below (by kernel_rfl) (by kernel_rfl) ?_
              repeat (first | go_big_quiet_step (fail) | quiet_step (fail))
              refine wpQuiet_nil ?_
              intro _ hw'
              obtain ⟨⟨nq, osq⟩, hw''⟩ := hw'
              subst hw''
              have hq := below_regrown (wr.alloc (.cells #[.int .u32 s.lo, .int .u32 s.hi] 72)) nq osq
              have own1 := owns_kept_none HO.out (only_of_below hq none)
              have nx1 := HN.out.trans (hq.mono hszA)
              have sz1 := nx1.size
              have kb1 := blk_below hq HK.out
              obtain ⟨y0, y1, _, _⟩ := two_cells kb1
              clear F0 F1 F2 x0 x1 e1 HO HN HK f0 f1
              generalize grow (redrawn (wr.alloc (.cells #[.int .u32 s.lo, .int .u32 s.hi] 72)) nq) osq = W1 at *
              clear hq
              have z1 : W1.cell? ⟨g, A.length * 2 + 1, none⟩ = some (.int .u32 t.hi) := (own1.cellAt (A.length * 2 + 1) (by omega)).trans (scell (L := A ++ [t]) (k := A.length) (i := 1) (x := t) (by simp) rfl)
              have z2 := own1.frozenAt (A.length * 2 + 1)
              have hgB := (own1.lt g rfl).1
              have hi1 : (0 : Int) ≤ (A.length : Int) := by omega
              have hi2 : (A.length : Int) < (A.length : Int) + 1 := by omega
              have hi3 : (A.length : Int) ≤ 9223372036854775807 := by omega
              have hi4 : IntKind.i64.wrap (A.length : Int) = (A.length : Int) := by rw [IntKind.wrap_i64]; omega
              go_wp2
              go_still_tail 14, (by kernel_rfl)
              have own2 := owns_kept_none own1 (only_drew (World.grownBy.refl W1 none))
              have nx2 := below_drew1 nx1
              have z3 : W1.drew.cell? ⟨g, A.length * 2 + 1, none⟩ = some (.int .u32 t.hi) := z1
              have z4 : W1.drew.frozen? ⟨g, A.length * 2 + 1, none⟩ = false := z2
              clear own1 nx1 z1 z2 kb1 y0 y1 sz1
              change wpList _ _ _ _ _ W1.drew
              generalize W1.drew = W2 at *
              go_wp2
              have s1 := (own2.stored (A.length * 2 + 1) (.int .u32 (max t.hi s.hi))).1
              rw [show (scells (A ++ [t])).set (A.length * 2 + 1) (.int .u32 (max t.hi s.hi)) = scells (A ++ [t.reach s]) from scells_set (A := A) (t := t) (y := t.reach s) rfl] at s1
              refine ⟨⟨j + 1, by go_num, by omega, ?_, nx2.setCell (p := ⟨g, A.length * 2 + 1, none⟩) hgB _⟩, by simp only [intOf]; omega⟩
              rw [hHS.out, mstep_in HM.out, List.length_append]
              exact s1
            · have hmg : s.lo ≤ t.hi + 1 := of_decide_eq_true hm3
              have HM := Lib.hid hmg
              clear hmg
              go_wp2
              refine wp_region_quiet_below (by kernel_rfl) (by kernel_rfl) ?_
              repeat (first | go_big_quiet_step (fail) | quiet_step (fail))
              refine wpQuiet_nil ?_
              intro _ hw'
              obtain ⟨⟨nq, osq⟩, hw''⟩ := hw'
              subst hw''
              have hq := below_regrown (wr.alloc (.cells #[.int .u32 s.lo, .int .u32 s.hi] 72)) nq osq
              have own1 := owns_kept_none HO.out (only_of_below hq none)
              have nx1 := HN.out.trans (hq.mono hszA)
              have sz1 := nx1.size
              have kb1 := blk_below hq HK.out
              obtain ⟨y0, y1, _, _⟩ := two_cells kb1
              clear F0 F1 F2 x0 x1 e1 HO HN HK f0 f1
              generalize grow (redrawn (wr.alloc (.cells #[.int .u32 s.lo, .int .u32 s.hi] 72)) nq) osq = W1 at *
              clear hq
              have z1 : W1.cell? ⟨g, A.length * 2 + 1, none⟩ = some (.int .u32 t.hi) := (own1.cellAt (A.length * 2 + 1) (by omega)).trans (scell (L := A ++ [t]) (k := A.length) (i := 1) (x := t) (by simp) rfl)
              have z2 := own1.frozenAt (A.length * 2 + 1)
              have hgB := (own1.lt g rfl).1
              have hi1 : (0 : Int) ≤ (A.length : Int) := by omega
              have hi2 : (A.length : Int) < (A.length : Int) + 1 := by omega
              have hi3 : (A.length : Int) ≤ 9223372036854775807 := by omega
              have hi4 : IntKind.i64.wrap (A.length : Int) = (A.length : Int) := by rw [IntKind.wrap_i64]; omega
              go_wp2
              go_still_tail 14, (by kernel_rfl)
              have own2 := owns_kept_none own1 (only_drew (World.grownBy.refl W1 none))
              have nx2 := below_drew1 nx1
              have z3 : W1.drew.cell? ⟨g, A.length * 2 + 1, none⟩ = some (.int .u32 t.hi) := z1
              have z4 : W1.drew.frozen? ⟨g, A.length * 2 + 1, none⟩ = false := z2
              clear own1 nx1 z1 z2 kb1 y0 y1 sz1
              change wpList _ _ _ _ _ W1.drew
              generalize W1.drew = W2 at *
              go_wp2
              have s1 := (own2.stored (A.length * 2 + 1) (.int .u32 (max t.hi s.hi))).1
              rw [show (scells (A ++ [t])).set (A.length * 2 + 1) (.int .u32 (max t.hi s.hi)) = scells (A ++ [t.reach s]) from scells_set (A := A) (t := t) (y := t.reach s) rfl] at s1
              refine ⟨⟨j + 1, by go_num, by omega, ?_, nx2.setCell (p := ⟨g, A.length * 2 + 1, none⟩) hgB _⟩, by simp only [intOf]; omega⟩
              rw [hHS.out, mstep_in HM.out, List.length_append]
              exact s1
            · have hmg : ¬ s.lo ≤ t.hi + 1 := of_decide_eq_false hm3
              have HM := Lib.hid hmg
              clear hmg
              go_wp2
              refine wp_region_quiet_below (by kernel_rfl) (by kernel_rfl) ?_
              repeat (first | go_big_quiet_step (fail) | quiet_step (fail))
              refine wpQuiet_nil ?_
              intro _ hw'
              obtain ⟨⟨nq, osq⟩, hw''⟩ := hw'
              subst hw''
              have hq := below_regrown (wr.alloc (.cells #[.int .u32 s.lo, .int .u32 s.hi] 72)) nq osq
              have own1 := owns_kept_none HO.out (only_of_below hq none)
              have nx1 := HN.out.trans (hq.mono hszA)
              have sz1 := nx1.size
              have kb1 := blk_below hq HK.out
              obtain ⟨y0, y1, _, _⟩ := two_cells kb1
              clear F0 F1 F2 x0 x1 e1 HO HN HK f0 f1
              generalize grow (redrawn (wr.alloc (.cells #[.int .u32 s.lo, .int .u32 s.hi] 72)) nq) osq = W1 at *
              clear hq
              go_wp2_with (at_builtin; refine wpList_push rfl _ _ 107 rfl 72 i0 _ 2 8 Tryz.underlying107 hi hz0 hz1 hz2 rfl (by decide) (by decide) [.int .u32 s.lo, .int .u32 s.hi] rfl rfl (by simp) own1 rfl (enc_one s) (by omega) (by omega) nx1 (Nat.le_refl _) ?_; intro v2 w2 hown2 hb2)
              refine ⟨⟨j + 1, by go_num, by omega, ?_, hb2⟩, by simp only [intOf]; omega⟩
              rw [hHS.out, mstep_new (by have := HM.out; omega), scells_snoc (A ++ [t]), List.length_append, hl1]
              exact hown2
        · obtain rfl : j = L'.length := by omega
          rw [List.take_length] at hown
          go_wp2
          go_ret
          refine ⟨_, rfl, ?_, HB1.out.trans (hnx.mono hsz1)⟩
          rw [HF.out.1]
          exact owns_base hown hsz1

end Go.Proofs.YtdjikiakcfbklaaGreat

/-
  The headers whose field is in a set (written by wip/gen/genrb6.py).
-/
namespace Go.Proofs.YtdjikiakcfbklaaGreat
open Go Go.RowKit Go.ChangeMaps Go.MapKept Go.Maps Go.Lib Go.Sort

/-- The field's bits are in a span. -/
def spanF (a n : Nat) (lo hi : Nat) : Fun := fun s => reachF a n lo true n s && reachF a n hi false n s
def numsF (a n M : Nat) (T : List SpanV) : Fun := fun s => T.any fun x => spanF a n x.lo.toNat (min x.hi.toNat M) s
theorem owns_le {w : World} {base n k : Nat} {e : TypeId} {v : Value} {xs : List Value} (h : w.ownsRow base e k v n xs) : n ≤ 1099511627776 * 1099511627776 ∧ (n : Int) ≤ 9223372036854775807 := by
  rcases h.2 with ⟨_, h2⟩ | ⟨g, cap, cur, _, _, _, h2, h3, _⟩
  · omega
  · unfold maxLen at h3; omega
theorem numsF_snoc (a n M : Nat) (T : List SpanV) (x : SpanV) : numsF a n M (T ++ [x]) = fun s => numsF a n M T s || spanF a n x.lo.toNat (min x.hi.toNat M) s := funext fun s => by
  simp [numsF]
theorem spanF_cut (a n lo hi u : Nat) : CutLe (spanF a n lo hi) u 9 := (reachF_cut a n lo u true n (Nat.le_refl _)).op2 (fun x y => x && y) (reachF_cut a n hi u false n (Nat.le_refl _))
theorem spanF_hang (a n lo hi : Nat) (h : a + n ≤ 104) : Hangs (spanF a n lo hi) 0 208 := (reachF_hang a n lo true h).op2 (fun x y => x && y) (reachF_hang a n hi false h)
theorem spanF_seg (a n lo hi : Nat) : Hangs (spanF a n lo hi) (2 * a) (2 * (a + n)) := ((reachF_hangs a n lo true n (Nat.le_refl _)).op2 (fun x y => x && y) (reachF_hangs a n hi false n (Nat.le_refl _))).mono (by omega) (Nat.le_refl _)
theorem spanF_wid (a n lo hi : Nat) (h : a + n ≤ 104) (hn : n ≤ 32) : Wid (spanF a n lo hi) 576 := (Wid.seg (spanF_seg a n lo hi) (by omega) (spanF_cut a n lo hi)).mono (by omega)
theorem SpRes.laid {w w1 w2 : World} {B S km : Nat} {A : Blks} {Mo : Nat} {σ : Sg} {F : Fun} {k m : Nat} {e : Ending} (h : SpRes w B S km A Mo σ F k m e w1) (hb : Below w1.heap.size w1 w2) : SpRes w B S km A Mo σ F k m e w2 := by
  obtain ⟨h1, h2⟩ := h
  rcases h2 with ⟨e1, e2, τ, e3, e4⟩ | ⟨r, τ, e1, e3, e4, e5⟩
  · exact ⟨h1.trans (e3.kept hb), .inl ⟨e1, e2, τ, e3.below hb, e4⟩⟩
  · exact ⟨h1.trans (e3.kept hb), .inr ⟨r, τ, e1, e3.below hb, e4, e5⟩⟩
section
variable {w : World} {B S km : Nat} {A : Blks} {Mo : Nat} {σ : Sg}
set_option maxRecDepth 100000
set_option maxHeartbeats 8000000
theorem numbers0_yes (h : SpOk w B S km A Mo σ) (L : List SpanV) (vl : Value) (hL : Rd w w.heap.size 2 vl L.length (scells L)) (hlen : L.length ≤ 1099511627776) (T U : List SpanV) (hR : formOf L = T ++ U) (hT : ∀ x ∈ T, x.lo ≤ 4294967295) (hU : U = [] ∨ ∃ u U', U = u :: U' ∧ 4294967295 < u.lo) (K : Nat)
    (hK : ∀ k, k ≤ T.length → Wid (numsF 0 32 4294967295 (T.take k)) K) (hl : σ.N.length + T.length * (K + 704) ≤ 2147483647) :
    Calls Tryz.prog 28 #[.pointer (some ⟨S, 0, none⟩), .int .i64 0, vl] w (SpRes w B S km A Mo σ (numsF 0 32 4294967295 T) (T.length * (K + 704)) (T.length * (K + 704))) := by
  have p0 : ∀ W : World, (W.alloc partsObj).cell? ⟨W.heap.size, 0, none⟩ = some (.int .i64 0) := fun W => (parts_at W 0 (by omega)).1
  have p1 : ∀ W : World, (W.alloc partsObj).cell? ⟨W.heap.size, 1, none⟩ = some (.int .i64 32) := fun W => (parts_at W 0 (by omega)).2
  have HS := Lib.hid h
  have HL := Lib.hid hL
  have HR := Lib.hid (And.intro hR (And.intro hT hU))
  have HK := Lib.hid hK
  have HLEN := Lib.hid hlen
  clear h hL hR hT hU hK hlen
  go_enter Tryz.func28, Tryz.ntmps28
  go_upto_region 6 with (go_at_call 61; (with_reducible refine (parts_any _).mono ?_); rintro e _ ⟨rfl, rfl⟩)
  have HB2 := Lib.hid (below2 w partsObj (.cells #[.int .i64 0, .int .i64 32] 89))
  have hk2 := blk1 (w.alloc partsObj) (.cells #[.int .i64 0, .int .i64 32] 89)
  have hs2 : (w.alloc partsObj).heap.size = w.heap.size + 1 := by simp
  rw [hs2] at hk2
  have HF2 := Lib.hid (HS.out.sp.ar.foreign_new HB2.out (k := w.heap.size + 1) (by omega) (lt_of_block hk2))
  have HNE : Hid (w.heap.size + 1 ≠ km) := Lib.hid (by have := HS.out.sp.fk.1; omega)
  have HS2 := Lib.hid (HS.out.below HB2.out)
  have HK2 := Lib.hid (HS.out.kept HB2.out)
  have HL2 := Lib.hid ((HL.out.below HB2.out).mono HB2.out.size)
  have b0 : ((w.alloc partsObj).alloc (.cells #[.int .i64 0, .int .i64 32] 89)).cell? ⟨w.heap.size + 1, 0, none⟩ = some (.int .i64 0) := cell_of_row _ _ 0 _ _ (0, 0) hk2
  have b1 : ((w.alloc partsObj).alloc (.cells #[.int .i64 0, .int .i64 32] 89)).cell? ⟨w.heap.size + 1, 1, none⟩ = some (.int .i64 32) := cell_of_row _ _ 1 _ _ (0, 0) hk2
  have HBK := Lib.hid hk2
  clear HB2 hk2 hs2 p0 p1 HS
  generalize (w.alloc partsObj).alloc (.cells #[.int .i64 0, .int .i64 32] 89) = w2 at *
  have HFM := Lib.hid (form_any L vl w2 HL2.out HLEN.out)
  rw [HR.out.1] at HFM
  have HLT : Hid (∀ k, k < T.length → ∃ x, (T ++ U)[k]? = some x ∧ T[k]? = some x ∧ x.lo ≤ 4294967295) := Lib.hid fun k hk => by
    refine ⟨T[k], ?_, ?_, HR.out.2.1 _ (List.getElem_mem hk)⟩
    · rw [List.getElem?_append_left hk, List.getElem?_eq_getElem hk]
    · rw [List.getElem?_eq_getElem hk]
  have HEND : Hid ((T ++ U).length = T.length ∨ ∃ x, (T ++ U)[T.length]? = some x ∧ 4294967295 < x.lo ∧ T.length < (T ++ U).length) := Lib.hid (by
    rcases HR.out.2.2 with rfl | ⟨u, U', rfl, hu⟩
    · exact .inl (by simp)
    · exact .inr ⟨u, by simp, hu, by simp⟩)
  have HTL : Hid (T.length ≤ (T ++ U).length) := Lib.hid (by simp)
  clear HR HL HL2 HLEN
  generalize T ++ U = R at *
  go_upto_region 9 with ((with_reducible refine HFM.out.mono ?_); rintro e w3 ⟨v3, rfl, ho3, hb3⟩; have HO3 := Lib.hid ho3; have HB3 := Lib.hid hb3; obtain ⟨A3, c3, hv3, hA3⟩ := owns_form ho3; subst hv3; have HA3 := Lib.hid hA3; clear hA3 ho3 hb3)
  have HS3 := Lib.hid (HS2.out.below HB3.out)
  have HK3 := Lib.hid (HK2.out.trans (HS2.out.kept HB3.out))
  have hk3 := blk_below HB3.out HBK.out
  have HF3 := Lib.hid (((HS2.out.kept HB3.out).same _ HF2.out HNE.out).2)
  have HBX : Hid (∀ W, KeptS A km w3 W → W.cell? ⟨w.heap.size + 1, 0, none⟩ = some (.int .i64 0) ∧ W.cell? ⟨w.heap.size + 1, 1, none⟩ = some (.int .i64 32)) := Lib.hid fun W hW => by
    have hk := (hW.same _ HF3.out HNE.out).1.trans hk3
    exact ⟨cell_of_row W _ 0 _ _ (0, 0) hk, cell_of_row W _ 1 _ _ (0, 0) hk⟩
  have HROW : Hid (∀ (k : Nat) (x : SpanV), R[k]? = some x → ∃ g, A3 = some ⟨g, 0, none⟩ ∧ ∀ W, KeptS A km w3 W → W.cell? ⟨g, k * 2, none⟩ = some (.int .u32 x.lo) ∧ W.cell? ⟨g, k * 2 + 1, none⟩ = some (.int .u32 x.hi)) := Lib.hid fun k x hx => by
    have hk := (List.getElem?_eq_some_iff.1 hx).1
    obtain ⟨g, rfl⟩ := HA3.out (by omega)
    have hlg := HO3.out.lt g rfl
    have hgf := HS2.out.sp.ar.foreign_new HB3.out hlg.1 hlg.2
    have hgk : g ≠ km := by have := HS2.out.sp.fk.1; omega
    refine ⟨g, rfl, fun W hW => ⟨(World.cell?_of_block (hW.same _ hgf hgk).1).trans ?_, (World.cell?_of_block (hW.same _ hgf hgk).1).trans ?_⟩⟩
    · exact (HO3.out.cellAt (k * 2) (by omega)).trans (scell (i := 0) hx rfl)
    · exact (HO3.out.cellAt (k * 2 + 1) (by omega)).trans (scell (i := 1) hx rfl)
  have hrl := (owns_le HO3.out).2
  clear HB3 hk3 HF3 HBK HO3 HA3 HF2 HS2 HK2 HFM b0 b1 HNE
  go_wp2
  go_loopw [10, 35] (fun r i wr => ∃ k : Nat, i = .int .i64 k ∧ k ≤ T.length ∧ ∃ (q : Nat) (τ : Sg), r = .int .i64 q ∧ Hid (SpOk wr B S km A Mo τ) ∧ Hid (To (k * (K + 704)) (k * (K + 704)) σ τ) ∧ Hid (Den τ q (numsF 0 32 4294967295 (T.take k))) ∧ Hid (KeptS A km w3 wr)) (fun _ i _ => R.length - (intOf i).toNat)
  case atStart => exact ⟨0, rfl, by omega, 0, σ, rfl, HS3, Lib.hid (by rw [Nat.zero_mul]; exact To.refl σ), Lib.hid (Den.zero HS3.out.ok), Lib.hid (KeptS.refl _ _ _)⟩
  case round =>
    obtain ⟨k, rfl, hk, q, τ, rfl, HSR, HTR, HDR, HKR⟩ := hrel
    have htl := HTL.out
    by_cases hlt : k < T.length
    · have hI : (k : Int) < (R.length : Int) := by omega
      obtain ⟨x, hx, hxT, hxM⟩ := HLT.out k hlt
      obtain ⟨g, rfl, hrow⟩ := HROW.out k x hx
      obtain ⟨r0, r1⟩ := hrow wr HKR.out
      obtain ⟨lo, hlo⟩ : ∃ lo : Nat, x.lo = lo := ⟨x.lo.toNat, by have := x.hlo; omega⟩
      obtain ⟨hi, hhi⟩ : ∃ hi : Nat, x.hi = hi := ⟨x.hi.toNat, by have := x.hhi; omega⟩
      have hlb := x.hlo
      have hhb := x.hhi
      have HTK : Hid (numsF 0 32 4294967295 (T.take (k + 1)) = fun s => numsF 0 32 4294967295 (T.take k) s || spanF 0 32 lo (min hi 4294967295) s) := Lib.hid (by
        rw [List.take_add_one, hxT]
        show numsF 0 32 4294967295 (T.take k ++ [x]) = _
        rw [numsF_snoc, hlo, hhi]
        rfl)
      rw [hlo] at r0 hxM hlb
      rw [hhi] at r1 hhb
      have hl1 : (lo : Int) ≤ 4294967295 := by omega
      have hl2 : (hi : Int) ≤ 4294967295 := by omega
      have hcmp : ¬ (lo : Int) > 4294967295 := by omega
      have hm1 : (k + 1) * (K + 704) ≤ T.length * (K + 704) := Nat.mul_le_mul_right _ hlt
      have hm2 : (k + 1) * (K + 704) = k * (K + 704) + (K + 704) := by rw [Nat.add_mul, Nat.one_mul]
      have HM := Lib.hid (And.intro hm1 hm2)
      clear hx hxT hlo hhi hrow hm1 hm2 hxM hlb hhb
      go_upto_region 11 with fail
      have hbs := below1 wr (.cells #[.int .u32 lo, .int .u32 hi] 72)
      have hks := blk1 wr (.cells #[.int .u32 lo, .int .u32 hi] 72)
      have HF4 := Lib.hid (HSR.out.sp.ar.foreign_new hbs (Nat.le_refl _) (lt_of_block hks))
      have HN4 : Hid (wr.heap.size ≠ km) := Lib.hid (by have := HSR.out.sp.fk.1; omega)
      have HS4 := Lib.hid (HSR.out.below hbs)
      have HK4 := Lib.hid (HKR.out.trans (HSR.out.kept hbs))
      have HBS : Hid (∀ W, KeptS A km (wr.alloc (.cells #[.int .u32 lo, .int .u32 hi] 72)) W → W.cell? ⟨wr.heap.size, 0, none⟩ = some (.int .u32 lo) ∧ W.cell? ⟨wr.heap.size, 1, none⟩ = some (.int .u32 hi)) := Lib.hid fun W hW => by
        have hk := (hW.same _ HF4.out HN4.out).1.trans hks
        exact ⟨cell_of_row W _ 0 _ _ (0, 0) hk, cell_of_row W _ 1 _ _ (0, 0) hk⟩
      clear hbs hks HF4 HN4 r0 r1
      generalize wr.alloc (.cells #[.int .u32 lo, .int .u32 hi] 72) = w4 at *
      obtain ⟨s0, s1⟩ := HBS.out w4 (KeptS.refl _ _ _)
      obtain ⟨b0, b1⟩ := HBX.out w4 HK4.out
      have hnl := HTR.out.nl
      have hm := HM.out
      have HRA := Lib.hid (show Calls Tryz.prog 63 #[.pointer (some ⟨S, 0, none⟩), .agg #[.int .i64 0, .int .i64 32], .int .u64 lo, .bool true] w4 (SpRes w4 B S km A Mo τ (reachF 0 32 lo true 32) (2 * 32) (2 * 32)) from reach_any HS4.out 0 32 lo true (by omega) (by omega) (by omega) (by omega))
      clear hnl hm
      go_upto_region 13 with ((with_reducible refine HRA.out.mono ?_); rintro e w5 hr5; obtain ⟨q5, c5, he5⟩ := hr5.form; have HR5 := Lib.hid hr5; subst he5; clear hr5)
      rcases HR5.out.two with ⟨rfl, rfl, hlt5, τ5, hs5, ht5⟩ | ⟨r5, τ5, rfl, rfl, hs5, ht5, hd5⟩
      · have HFIN := Lib.hid (SpRes.full (F := numsF 0 32 4294967295 T) (HK3.out.trans (HK4.out.trans HR5.out.1)) rfl (by have := HTR.out.hl; have := HM.out; omega) hs5 ((HTR.out.trans ht5).mono (show k * (K + 704) + 2 * 32 ≤ T.length * (K + 704) by have := HM.out; omega) (show k * (K + 704) + 2 * 32 ≤ T.length * (K + 704) by have := HM.out; omega)))
        clear hlt5 hs5 ht5
        go_wp2
        go_ret2
        exact HFIN.out
      · have HS5 := Lib.hid hs5
        have HT5 := Lib.hid (HTR.out.trans ht5)
        have HD5 := Lib.hid hd5
        have HDQ5 := Lib.hid (HDR.out.to ht5 HSR.out.ok hs5.ok)
        have HKS5 := Lib.hid HR5.out.1
        have HK5 := Lib.hid (HK4.out.trans HR5.out.1)
        clear hs5 ht5 hd5 HR5 HRA s0 s1 b0 b1
        obtain ⟨s0, s1⟩ := HBS.out w5 HKS5.out
        obtain ⟨b0, b1⟩ := HBX.out w5 HK5.out
        have hnl := HT5.out.nl
        have hm := HM.out
        have HRB := Lib.hid (show Calls Tryz.prog 63 #[.pointer (some ⟨S, 0, none⟩), .agg #[.int .i64 0, .int .i64 32], .int .u64 (min (hi : Int) 4294967295), .bool false] w5 (SpRes w5 B S km A Mo τ5 (reachF 0 32 (min hi 4294967295) false 32) (2 * 32) (2 * 32)) from by
          rw [show min (hi : Int) 4294967295 = ((min hi 4294967295 : Nat) : Int) by omega]
          exact reach_any HS5.out 0 32 (min hi 4294967295) false (by omega) (by omega) (by omega) (by omega))
        clear hnl hm
        go_upto_region 16 with ((with_reducible refine HRB.out.mono ?_); rintro e w6 hr6; obtain ⟨q6, c6, he6⟩ := hr6.form; have HR6 := Lib.hid hr6; subst he6; clear hr6)
        rcases HR6.out.two with ⟨rfl, rfl, hlt6, τ6, hs6, ht6⟩ | ⟨r6, τ6, rfl, rfl, hs6, ht6, hd6⟩
        · have HFIN := Lib.hid (SpRes.full (F := numsF 0 32 4294967295 T) (HK3.out.trans (HK5.out.trans HR6.out.1)) rfl (by have := HT5.out.hl; have := HM.out; omega) hs6 ((HT5.out.trans ht6).mono (show k * (K + 704) + 2 * 32 + 2 * 32 ≤ T.length * (K + 704) by have := HM.out; omega) (show k * (K + 704) + 2 * 32 + 2 * 32 ≤ T.length * (K + 704) by have := HM.out; omega)))
          clear hlt6 hs6 ht6
          go_wp2
          go_ret2
          exact HFIN.out
        · have HS6 := Lib.hid hs6
          have HT6 := Lib.hid (HT5.out.trans ht6)
          have HDQ6 := Lib.hid (HDQ5.out.to ht6 HS5.out.ok hs6.ok)
          have HK6 := Lib.hid (HK5.out.trans HR6.out.1)
          have c6 := hs6.sp.c0
          have hnl := HT6.out.nl
          have hm := HM.out
          have HAN := Lib.hid (show Calls Tryz.prog 43 #[.pointer (some ⟨A.a, 0, none⟩), .int .i64 r5, .int .i64 r6] w6 (SpRes w6 B S km A Mo τ6 (spanF 0 32 lo (min hi 4294967295)) 576 576) from hs6.and (HD5.out.to ht6 HS5.out.ok hs6.ok) hd6 (a := 576) (b := 576) (Grow.wid hs6.ok.wf.two (spanF_wid 0 32 lo (min hi 4294967295) (by omega) (by omega))) (by omega))
          clear hs6 ht6 hd6 HR6 HRB s0 s1 b0 b1 hnl hm HS5 HT5 HD5 HDQ5 HKS5 HK5
          go_upto_region 19 with ((with_reducible refine HAN.out.mono ?_); rintro e w7 hr7; obtain ⟨q7, c7, he7⟩ := hr7.form; have HR7 := Lib.hid hr7; subst he7; clear hr7)
          rcases HR7.out.two with ⟨rfl, rfl, hlt7, τ7, hs7, ht7⟩ | ⟨r7, τ7, rfl, rfl, hs7, ht7, hd7⟩
          · have HFIN := Lib.hid (SpRes.full (F := numsF 0 32 4294967295 T) (HK3.out.trans (HK6.out.trans HR7.out.1)) rfl (by have := HT6.out.hl; have := HM.out; omega) hs7 ((HT6.out.trans ht7).mono (show k * (K + 704) + 2 * 32 + 2 * 32 + 576 ≤ T.length * (K + 704) by have := HM.out; omega) (show k * (K + 704) + 2 * 32 + 2 * 32 + 576 ≤ T.length * (K + 704) by have := HM.out; omega)))
            clear hlt7 hs7 ht7
            go_wp2
            go_ret2
            exact HFIN.out
          · have HS7 := Lib.hid hs7
            have HT7 := Lib.hid (HT6.out.trans ht7)
            have HDQ7 := Lib.hid (HDQ6.out.to ht7 HS6.out.ok hs7.ok)
            have HK7 := Lib.hid (HK6.out.trans HR7.out.1)
            have c7 := hs7.sp.c0
            have hnl := HT7.out.nl
            have hm := HM.out
            have hwk := HK.out (k + 1) (by omega)
            rw [HTK.out] at hwk
            have HOR := Lib.hid (show Calls Tryz.prog 44 #[.pointer (some ⟨A.a, 0, none⟩), .int .i64 q, .int .i64 r7] w7 (SpRes w7 B S km A Mo τ7 (fun s => numsF 0 32 4294967295 (T.take k) s || spanF 0 32 lo (min hi 4294967295) s) K K) from hs7.or HDQ7.out hd7 (a := K) (b := K) (Grow.wid hs7.ok.wf.two hwk) (by omega))
            clear hs7 ht7 hd7 HR7 HAN hnl hm hwk HS6 HT6 HDQ6 HK6
            go_upto_region 22 with ((with_reducible refine HOR.out.mono ?_); rintro e w8 hr8; obtain ⟨q8, c8, he8⟩ := hr8.form; have HR8 := Lib.hid hr8; subst he8; clear hr8)
            rcases HR8.out.two with ⟨rfl, rfl, hlt8, τ8, hs8, ht8⟩ | ⟨r8, τ8, rfl, rfl, hs8, ht8, hd8⟩
            · have HFIN := Lib.hid (SpRes.full (F := numsF 0 32 4294967295 T) (HK3.out.trans (HK7.out.trans HR8.out.1)) rfl (by have := HT7.out.hl; have := HM.out; omega) hs8 ((HT7.out.trans ht8).mono (show k * (K + 704) + 2 * 32 + 2 * 32 + 576 + K ≤ T.length * (K + 704) by have := HM.out; omega) (show k * (K + 704) + 2 * 32 + 2 * 32 + 576 + K ≤ T.length * (K + 704) by have := HM.out; omega)))
              clear hlt8 hs8 ht8
              go_wp2
              go_ret2
              exact HFIN.out
            · have HS8 := Lib.hid hs8
              have HT8 := Lib.hid ((HT7.out.trans ht8).mono (show k * (K + 704) + 2 * 32 + 2 * 32 + 576 + K ≤ (k + 1) * (K + 704) by have := HM.out; omega) (show k * (K + 704) + 2 * 32 + 2 * 32 + 576 + K ≤ (k + 1) * (K + 704) by have := HM.out; omega))
              have HD8 : Hid (Den τ8 r8 (numsF 0 32 4294967295 (T.take (k + 1)))) := Lib.hid (by rw [HTK.out]; exact hd8)
              have HK8 := Lib.hid (HK7.out.trans HR8.out.1)
              clear hs8 ht8 hd8 HR8 HOR HS7 HT7 HDQ7 HK7
              go_wp2
              exact ⟨⟨k + 1, by go_num, by omega, r8, τ8, rfl, HS8, HT8, HD8, HK8⟩, by simp only [intOf]; omega⟩
    · obtain rfl : k = T.length := by omega
      have hfd := HDR.out
      rw [List.take_length] at hfd
      have HFIN : Hid (SpRes w B S km A Mo σ (numsF 0 32 4294967295 T) (T.length * (K + 704)) (T.length * (K + 704)) (.returned (.tuple #[.int .i64 q, .int .i64 0])) wr) := Lib.hid ⟨HK3.out.trans HKR.out, .inr ⟨q, τ, rfl, HSR.out, HTR.out, hfd⟩⟩
      clear hfd
      rcases HEND.out with hend | ⟨x, hx, hxl, hlen⟩
      · have hI : ¬ (T.length : Int) < (R.length : Int) := by omega
        clear hend
        go_wp2
        go_ret2
        exact HFIN.out
      · exact absurd hxl (by have := x.hlo; omega)
theorem numbers1_yes (h : SpOk w B S km A Mo σ) (L : List SpanV) (vl : Value) (hL : Rd w w.heap.size 2 vl L.length (scells L)) (hlen : L.length ≤ 1099511627776) (T U : List SpanV) (hR : formOf L = T ++ U) (hT : ∀ x ∈ T, x.lo ≤ 4294967295) (hU : U = [] ∨ ∃ u U', U = u :: U' ∧ 4294967295 < u.lo) (K : Nat)
    (hK : ∀ k, k ≤ T.length → Wid (numsF 32 32 4294967295 (T.take k)) K) (hl : σ.N.length + T.length * (K + 704) ≤ 2147483647) :
    Calls Tryz.prog 28 #[.pointer (some ⟨S, 0, none⟩), .int .i64 1, vl] w (SpRes w B S km A Mo σ (numsF 32 32 4294967295 T) (T.length * (K + 704)) (T.length * (K + 704))) := by
  have p0 : ∀ W : World, (W.alloc partsObj).cell? ⟨W.heap.size, 2, none⟩ = some (.int .i64 32) := fun W => (parts_at W 1 (by omega)).1
  have p1 : ∀ W : World, (W.alloc partsObj).cell? ⟨W.heap.size, 3, none⟩ = some (.int .i64 32) := fun W => (parts_at W 1 (by omega)).2
  have HS := Lib.hid h
  have HL := Lib.hid hL
  have HR := Lib.hid (And.intro hR (And.intro hT hU))
  have HK := Lib.hid hK
  have HLEN := Lib.hid hlen
  clear h hL hR hT hU hK hlen
  go_enter Tryz.func28, Tryz.ntmps28
  go_upto_region 6 with (go_at_call 61; (with_reducible refine (parts_any _).mono ?_); rintro e _ ⟨rfl, rfl⟩)
  have HB2 := Lib.hid (below2 w partsObj (.cells #[.int .i64 32, .int .i64 32] 89))
  have hk2 := blk1 (w.alloc partsObj) (.cells #[.int .i64 32, .int .i64 32] 89)
  have hs2 : (w.alloc partsObj).heap.size = w.heap.size + 1 := by simp
  rw [hs2] at hk2
  have HF2 := Lib.hid (HS.out.sp.ar.foreign_new HB2.out (k := w.heap.size + 1) (by omega) (lt_of_block hk2))
  have HNE : Hid (w.heap.size + 1 ≠ km) := Lib.hid (by have := HS.out.sp.fk.1; omega)
  have HS2 := Lib.hid (HS.out.below HB2.out)
  have HK2 := Lib.hid (HS.out.kept HB2.out)
  have HL2 := Lib.hid ((HL.out.below HB2.out).mono HB2.out.size)
  have b0 : ((w.alloc partsObj).alloc (.cells #[.int .i64 32, .int .i64 32] 89)).cell? ⟨w.heap.size + 1, 0, none⟩ = some (.int .i64 32) := cell_of_row _ _ 0 _ _ (0, 0) hk2
  have b1 : ((w.alloc partsObj).alloc (.cells #[.int .i64 32, .int .i64 32] 89)).cell? ⟨w.heap.size + 1, 1, none⟩ = some (.int .i64 32) := cell_of_row _ _ 1 _ _ (0, 0) hk2
  have HBK := Lib.hid hk2
  clear HB2 hk2 hs2 p0 p1 HS
  generalize (w.alloc partsObj).alloc (.cells #[.int .i64 32, .int .i64 32] 89) = w2 at *
  have HFM := Lib.hid (form_any L vl w2 HL2.out HLEN.out)
  rw [HR.out.1] at HFM
  have HLT : Hid (∀ k, k < T.length → ∃ x, (T ++ U)[k]? = some x ∧ T[k]? = some x ∧ x.lo ≤ 4294967295) := Lib.hid fun k hk => by
    refine ⟨T[k], ?_, ?_, HR.out.2.1 _ (List.getElem_mem hk)⟩
    · rw [List.getElem?_append_left hk, List.getElem?_eq_getElem hk]
    · rw [List.getElem?_eq_getElem hk]
  have HEND : Hid ((T ++ U).length = T.length ∨ ∃ x, (T ++ U)[T.length]? = some x ∧ 4294967295 < x.lo ∧ T.length < (T ++ U).length) := Lib.hid (by
    rcases HR.out.2.2 with rfl | ⟨u, U', rfl, hu⟩
    · exact .inl (by simp)
    · exact .inr ⟨u, by simp, hu, by simp⟩)
  have HTL : Hid (T.length ≤ (T ++ U).length) := Lib.hid (by simp)
  clear HR HL HL2 HLEN
  generalize T ++ U = R at *
  go_upto_region 9 with ((with_reducible refine HFM.out.mono ?_); rintro e w3 ⟨v3, rfl, ho3, hb3⟩; have HO3 := Lib.hid ho3; have HB3 := Lib.hid hb3; obtain ⟨A3, c3, hv3, hA3⟩ := owns_form ho3; subst hv3; have HA3 := Lib.hid hA3; clear hA3 ho3 hb3)
  have HS3 := Lib.hid (HS2.out.below HB3.out)
  have HK3 := Lib.hid (HK2.out.trans (HS2.out.kept HB3.out))
  have hk3 := blk_below HB3.out HBK.out
  have HF3 := Lib.hid (((HS2.out.kept HB3.out).same _ HF2.out HNE.out).2)
  have HBX : Hid (∀ W, KeptS A km w3 W → W.cell? ⟨w.heap.size + 1, 0, none⟩ = some (.int .i64 32) ∧ W.cell? ⟨w.heap.size + 1, 1, none⟩ = some (.int .i64 32)) := Lib.hid fun W hW => by
    have hk := (hW.same _ HF3.out HNE.out).1.trans hk3
    exact ⟨cell_of_row W _ 0 _ _ (0, 0) hk, cell_of_row W _ 1 _ _ (0, 0) hk⟩
  have HROW : Hid (∀ (k : Nat) (x : SpanV), R[k]? = some x → ∃ g, A3 = some ⟨g, 0, none⟩ ∧ ∀ W, KeptS A km w3 W → W.cell? ⟨g, k * 2, none⟩ = some (.int .u32 x.lo) ∧ W.cell? ⟨g, k * 2 + 1, none⟩ = some (.int .u32 x.hi)) := Lib.hid fun k x hx => by
    have hk := (List.getElem?_eq_some_iff.1 hx).1
    obtain ⟨g, rfl⟩ := HA3.out (by omega)
    have hlg := HO3.out.lt g rfl
    have hgf := HS2.out.sp.ar.foreign_new HB3.out hlg.1 hlg.2
    have hgk : g ≠ km := by have := HS2.out.sp.fk.1; omega
    refine ⟨g, rfl, fun W hW => ⟨(World.cell?_of_block (hW.same _ hgf hgk).1).trans ?_, (World.cell?_of_block (hW.same _ hgf hgk).1).trans ?_⟩⟩
    · exact (HO3.out.cellAt (k * 2) (by omega)).trans (scell (i := 0) hx rfl)
    · exact (HO3.out.cellAt (k * 2 + 1) (by omega)).trans (scell (i := 1) hx rfl)
  have hrl := (owns_le HO3.out).2
  clear HB3 hk3 HF3 HBK HO3 HA3 HF2 HS2 HK2 HFM b0 b1 HNE
  go_wp2
  go_loopw [10, 35] (fun r i wr => ∃ k : Nat, i = .int .i64 k ∧ k ≤ T.length ∧ ∃ (q : Nat) (τ : Sg), r = .int .i64 q ∧ Hid (SpOk wr B S km A Mo τ) ∧ Hid (To (k * (K + 704)) (k * (K + 704)) σ τ) ∧ Hid (Den τ q (numsF 32 32 4294967295 (T.take k))) ∧ Hid (KeptS A km w3 wr)) (fun _ i _ => R.length - (intOf i).toNat)
  case atStart => exact ⟨0, rfl, by omega, 0, σ, rfl, HS3, Lib.hid (by rw [Nat.zero_mul]; exact To.refl σ), Lib.hid (Den.zero HS3.out.ok), Lib.hid (KeptS.refl _ _ _)⟩
  case round =>
    obtain ⟨k, rfl, hk, q, τ, rfl, HSR, HTR, HDR, HKR⟩ := hrel
    have htl := HTL.out
    by_cases hlt : k < T.length
    · have hI : (k : Int) < (R.length : Int) := by omega
      obtain ⟨x, hx, hxT, hxM⟩ := HLT.out k hlt
      obtain ⟨g, rfl, hrow⟩ := HROW.out k x hx
      obtain ⟨r0, r1⟩ := hrow wr HKR.out
      obtain ⟨lo, hlo⟩ : ∃ lo : Nat, x.lo = lo := ⟨x.lo.toNat, by have := x.hlo; omega⟩
      obtain ⟨hi, hhi⟩ : ∃ hi : Nat, x.hi = hi := ⟨x.hi.toNat, by have := x.hhi; omega⟩
      have hlb := x.hlo
      have hhb := x.hhi
      have HTK : Hid (numsF 32 32 4294967295 (T.take (k + 1)) = fun s => numsF 32 32 4294967295 (T.take k) s || spanF 32 32 lo (min hi 4294967295) s) := Lib.hid (by
        rw [List.take_add_one, hxT]
        show numsF 32 32 4294967295 (T.take k ++ [x]) = _
        rw [numsF_snoc, hlo, hhi]
        rfl)
      rw [hlo] at r0 hxM hlb
      rw [hhi] at r1 hhb
      have hl1 : (lo : Int) ≤ 4294967295 := by omega
      have hl2 : (hi : Int) ≤ 4294967295 := by omega
      have hcmp : ¬ (lo : Int) > 4294967295 := by omega
      have hm1 : (k + 1) * (K + 704) ≤ T.length * (K + 704) := Nat.mul_le_mul_right _ hlt
      have hm2 : (k + 1) * (K + 704) = k * (K + 704) + (K + 704) := by rw [Nat.add_mul, Nat.one_mul]
      have HM := Lib.hid (And.intro hm1 hm2)
      clear hx hxT hlo hhi hrow hm1 hm2 hxM hlb hhb
      go_upto_region 11 with fail
      have hbs := below1 wr (.cells #[.int .u32 lo, .int .u32 hi] 72)
      have hks := blk1 wr (.cells #[.int .u32 lo, .int .u32 hi] 72)
      have HF4 := Lib.hid (HSR.out.sp.ar.foreign_new hbs (Nat.le_refl _) (lt_of_block hks))
      have HN4 : Hid (wr.heap.size ≠ km) := Lib.hid (by have := HSR.out.sp.fk.1; omega)
      have HS4 := Lib.hid (HSR.out.below hbs)
      have HK4 := Lib.hid (HKR.out.trans (HSR.out.kept hbs))
      have HBS : Hid (∀ W, KeptS A km (wr.alloc (.cells #[.int .u32 lo, .int .u32 hi] 72)) W → W.cell? ⟨wr.heap.size, 0, none⟩ = some (.int .u32 lo) ∧ W.cell? ⟨wr.heap.size, 1, none⟩ = some (.int .u32 hi)) := Lib.hid fun W hW => by
        have hk := (hW.same _ HF4.out HN4.out).1.trans hks
        exact ⟨cell_of_row W _ 0 _ _ (0, 0) hk, cell_of_row W _ 1 _ _ (0, 0) hk⟩
      clear hbs hks HF4 HN4 r0 r1
      generalize wr.alloc (.cells #[.int .u32 lo, .int .u32 hi] 72) = w4 at *
      obtain ⟨s0, s1⟩ := HBS.out w4 (KeptS.refl _ _ _)
      obtain ⟨b0, b1⟩ := HBX.out w4 HK4.out
      have hnl := HTR.out.nl
      have hm := HM.out
      have HRA := Lib.hid (show Calls Tryz.prog 63 #[.pointer (some ⟨S, 0, none⟩), .agg #[.int .i64 32, .int .i64 32], .int .u64 lo, .bool true] w4 (SpRes w4 B S km A Mo τ (reachF 32 32 lo true 32) (2 * 32) (2 * 32)) from reach_any HS4.out 32 32 lo true (by omega) (by omega) (by omega) (by omega))
      clear hnl hm
      go_upto_region 13 with ((with_reducible refine HRA.out.mono ?_); rintro e w5 hr5; obtain ⟨q5, c5, he5⟩ := hr5.form; have HR5 := Lib.hid hr5; subst he5; clear hr5)
      rcases HR5.out.two with ⟨rfl, rfl, hlt5, τ5, hs5, ht5⟩ | ⟨r5, τ5, rfl, rfl, hs5, ht5, hd5⟩
      · have HFIN := Lib.hid (SpRes.full (F := numsF 32 32 4294967295 T) (HK3.out.trans (HK4.out.trans HR5.out.1)) rfl (by have := HTR.out.hl; have := HM.out; omega) hs5 ((HTR.out.trans ht5).mono (show k * (K + 704) + 2 * 32 ≤ T.length * (K + 704) by have := HM.out; omega) (show k * (K + 704) + 2 * 32 ≤ T.length * (K + 704) by have := HM.out; omega)))
        clear hlt5 hs5 ht5
        go_wp2
        go_ret2
        exact HFIN.out
      · have HS5 := Lib.hid hs5
        have HT5 := Lib.hid (HTR.out.trans ht5)
        have HD5 := Lib.hid hd5
        have HDQ5 := Lib.hid (HDR.out.to ht5 HSR.out.ok hs5.ok)
        have HKS5 := Lib.hid HR5.out.1
        have HK5 := Lib.hid (HK4.out.trans HR5.out.1)
        clear hs5 ht5 hd5 HR5 HRA s0 s1 b0 b1
        obtain ⟨s0, s1⟩ := HBS.out w5 HKS5.out
        obtain ⟨b0, b1⟩ := HBX.out w5 HK5.out
        have hnl := HT5.out.nl
        have hm := HM.out
        have HRB := Lib.hid (show Calls Tryz.prog 63 #[.pointer (some ⟨S, 0, none⟩), .agg #[.int .i64 32, .int .i64 32], .int .u64 (min (hi : Int) 4294967295), .bool false] w5 (SpRes w5 B S km A Mo τ5 (reachF 32 32 (min hi 4294967295) false 32) (2 * 32) (2 * 32)) from by
          rw [show min (hi : Int) 4294967295 = ((min hi 4294967295 : Nat) : Int) by omega]
          exact reach_any HS5.out 32 32 (min hi 4294967295) false (by omega) (by omega) (by omega) (by omega))
        clear hnl hm
        go_upto_region 16 with ((with_reducible refine HRB.out.mono ?_); rintro e w6 hr6; obtain ⟨q6, c6, he6⟩ := hr6.form; have HR6 := Lib.hid hr6; subst he6; clear hr6)
        rcases HR6.out.two with ⟨rfl, rfl, hlt6, τ6, hs6, ht6⟩ | ⟨r6, τ6, rfl, rfl, hs6, ht6, hd6⟩
        · have HFIN := Lib.hid (SpRes.full (F := numsF 32 32 4294967295 T) (HK3.out.trans (HK5.out.trans HR6.out.1)) rfl (by have := HT5.out.hl; have := HM.out; omega) hs6 ((HT5.out.trans ht6).mono (show k * (K + 704) + 2 * 32 + 2 * 32 ≤ T.length * (K + 704) by have := HM.out; omega) (show k * (K + 704) + 2 * 32 + 2 * 32 ≤ T.length * (K + 704) by have := HM.out; omega)))
          clear hlt6 hs6 ht6
          go_wp2
          go_ret2
          exact HFIN.out
        · have HS6 := Lib.hid hs6
          have HT6 := Lib.hid (HT5.out.trans ht6)
          have HDQ6 := Lib.hid (HDQ5.out.to ht6 HS5.out.ok hs6.ok)
          have HK6 := Lib.hid (HK5.out.trans HR6.out.1)
          have c6 := hs6.sp.c0
          have hnl := HT6.out.nl
          have hm := HM.out
          have HAN := Lib.hid (show Calls Tryz.prog 43 #[.pointer (some ⟨A.a, 0, none⟩), .int .i64 r5, .int .i64 r6] w6 (SpRes w6 B S km A Mo τ6 (spanF 32 32 lo (min hi 4294967295)) 576 576) from hs6.and (HD5.out.to ht6 HS5.out.ok hs6.ok) hd6 (a := 576) (b := 576) (Grow.wid hs6.ok.wf.two (spanF_wid 32 32 lo (min hi 4294967295) (by omega) (by omega))) (by omega))
          clear hs6 ht6 hd6 HR6 HRB s0 s1 b0 b1 hnl hm HS5 HT5 HD5 HDQ5 HKS5 HK5
          go_upto_region 19 with ((with_reducible refine HAN.out.mono ?_); rintro e w7 hr7; obtain ⟨q7, c7, he7⟩ := hr7.form; have HR7 := Lib.hid hr7; subst he7; clear hr7)
          rcases HR7.out.two with ⟨rfl, rfl, hlt7, τ7, hs7, ht7⟩ | ⟨r7, τ7, rfl, rfl, hs7, ht7, hd7⟩
          · have HFIN := Lib.hid (SpRes.full (F := numsF 32 32 4294967295 T) (HK3.out.trans (HK6.out.trans HR7.out.1)) rfl (by have := HT6.out.hl; have := HM.out; omega) hs7 ((HT6.out.trans ht7).mono (show k * (K + 704) + 2 * 32 + 2 * 32 + 576 ≤ T.length * (K + 704) by have := HM.out; omega) (show k * (K + 704) + 2 * 32 + 2 * 32 + 576 ≤ T.length * (K + 704) by have := HM.out; omega)))
            clear hlt7 hs7 ht7
            go_wp2
            go_ret2
            exact HFIN.out
          · have HS7 := Lib.hid hs7
            have HT7 := Lib.hid (HT6.out.trans ht7)
            have HDQ7 := Lib.hid (HDQ6.out.to ht7 HS6.out.ok hs7.ok)
            have HK7 := Lib.hid (HK6.out.trans HR7.out.1)
            have c7 := hs7.sp.c0
            have hnl := HT7.out.nl
            have hm := HM.out
            have hwk := HK.out (k + 1) (by omega)
            rw [HTK.out] at hwk
            have HOR := Lib.hid (show Calls Tryz.prog 44 #[.pointer (some ⟨A.a, 0, none⟩), .int .i64 q, .int .i64 r7] w7 (SpRes w7 B S km A Mo τ7 (fun s => numsF 32 32 4294967295 (T.take k) s || spanF 32 32 lo (min hi 4294967295) s) K K) from hs7.or HDQ7.out hd7 (a := K) (b := K) (Grow.wid hs7.ok.wf.two hwk) (by omega))
            clear hs7 ht7 hd7 HR7 HAN hnl hm hwk HS6 HT6 HDQ6 HK6
            go_upto_region 22 with ((with_reducible refine HOR.out.mono ?_); rintro e w8 hr8; obtain ⟨q8, c8, he8⟩ := hr8.form; have HR8 := Lib.hid hr8; subst he8; clear hr8)
            rcases HR8.out.two with ⟨rfl, rfl, hlt8, τ8, hs8, ht8⟩ | ⟨r8, τ8, rfl, rfl, hs8, ht8, hd8⟩
            · have HFIN := Lib.hid (SpRes.full (F := numsF 32 32 4294967295 T) (HK3.out.trans (HK7.out.trans HR8.out.1)) rfl (by have := HT7.out.hl; have := HM.out; omega) hs8 ((HT7.out.trans ht8).mono (show k * (K + 704) + 2 * 32 + 2 * 32 + 576 + K ≤ T.length * (K + 704) by have := HM.out; omega) (show k * (K + 704) + 2 * 32 + 2 * 32 + 576 + K ≤ T.length * (K + 704) by have := HM.out; omega)))
              clear hlt8 hs8 ht8
              go_wp2
              go_ret2
              exact HFIN.out
            · have HS8 := Lib.hid hs8
              have HT8 := Lib.hid ((HT7.out.trans ht8).mono (show k * (K + 704) + 2 * 32 + 2 * 32 + 576 + K ≤ (k + 1) * (K + 704) by have := HM.out; omega) (show k * (K + 704) + 2 * 32 + 2 * 32 + 576 + K ≤ (k + 1) * (K + 704) by have := HM.out; omega))
              have HD8 : Hid (Den τ8 r8 (numsF 32 32 4294967295 (T.take (k + 1)))) := Lib.hid (by rw [HTK.out]; exact hd8)
              have HK8 := Lib.hid (HK7.out.trans HR8.out.1)
              clear hs8 ht8 hd8 HR8 HOR HS7 HT7 HDQ7 HK7
              go_wp2
              exact ⟨⟨k + 1, by go_num, by omega, r8, τ8, rfl, HS8, HT8, HD8, HK8⟩, by simp only [intOf]; omega⟩
    · obtain rfl : k = T.length := by omega
      have hfd := HDR.out
      rw [List.take_length] at hfd
      have HFIN : Hid (SpRes w B S km A Mo σ (numsF 32 32 4294967295 T) (T.length * (K + 704)) (T.length * (K + 704)) (.returned (.tuple #[.int .i64 q, .int .i64 0])) wr) := Lib.hid ⟨HK3.out.trans HKR.out, .inr ⟨q, τ, rfl, HSR.out, HTR.out, hfd⟩⟩
      clear hfd
      rcases HEND.out with hend | ⟨x, hx, hxl, hlen⟩
      · have hI : ¬ (T.length : Int) < (R.length : Int) := by omega
        clear hend
        go_wp2
        go_ret2
        exact HFIN.out
      · exact absurd hxl (by have := x.hlo; omega)
theorem numbers2_yes (h : SpOk w B S km A Mo σ) (L : List SpanV) (vl : Value) (hL : Rd w w.heap.size 2 vl L.length (scells L)) (hlen : L.length ≤ 1099511627776) (T U : List SpanV) (hR : formOf L = T ++ U) (hT : ∀ x ∈ T, x.lo ≤ 255) (hU : U = [] ∨ ∃ u U', U = u :: U' ∧ 255 < u.lo) (K : Nat)
    (hK : ∀ k, k ≤ T.length → Wid (numsF 64 8 255 (T.take k)) K) (hl : σ.N.length + T.length * (K + 608) ≤ 2147483647) :
    Calls Tryz.prog 28 #[.pointer (some ⟨S, 0, none⟩), .int .i64 2, vl] w (SpRes w B S km A Mo σ (numsF 64 8 255 T) (T.length * (K + 608)) (T.length * (K + 608))) := by
  have p0 : ∀ W : World, (W.alloc partsObj).cell? ⟨W.heap.size, 4, none⟩ = some (.int .i64 64) := fun W => (parts_at W 2 (by omega)).1
  have p1 : ∀ W : World, (W.alloc partsObj).cell? ⟨W.heap.size, 5, none⟩ = some (.int .i64 8) := fun W => (parts_at W 2 (by omega)).2
  have HS := Lib.hid h
  have HL := Lib.hid hL
  have HR := Lib.hid (And.intro hR (And.intro hT hU))
  have HK := Lib.hid hK
  have HLEN := Lib.hid hlen
  clear h hL hR hT hU hK hlen
  go_enter Tryz.func28, Tryz.ntmps28
  go_upto_region 6 with (go_at_call 61; (with_reducible refine (parts_any _).mono ?_); rintro e _ ⟨rfl, rfl⟩)
  have HB2 := Lib.hid (below2 w partsObj (.cells #[.int .i64 64, .int .i64 8] 89))
  have hk2 := blk1 (w.alloc partsObj) (.cells #[.int .i64 64, .int .i64 8] 89)
  have hs2 : (w.alloc partsObj).heap.size = w.heap.size + 1 := by simp
  rw [hs2] at hk2
  have HF2 := Lib.hid (HS.out.sp.ar.foreign_new HB2.out (k := w.heap.size + 1) (by omega) (lt_of_block hk2))
  have HNE : Hid (w.heap.size + 1 ≠ km) := Lib.hid (by have := HS.out.sp.fk.1; omega)
  have HS2 := Lib.hid (HS.out.below HB2.out)
  have HK2 := Lib.hid (HS.out.kept HB2.out)
  have HL2 := Lib.hid ((HL.out.below HB2.out).mono HB2.out.size)
  have b0 : ((w.alloc partsObj).alloc (.cells #[.int .i64 64, .int .i64 8] 89)).cell? ⟨w.heap.size + 1, 0, none⟩ = some (.int .i64 64) := cell_of_row _ _ 0 _ _ (0, 0) hk2
  have b1 : ((w.alloc partsObj).alloc (.cells #[.int .i64 64, .int .i64 8] 89)).cell? ⟨w.heap.size + 1, 1, none⟩ = some (.int .i64 8) := cell_of_row _ _ 1 _ _ (0, 0) hk2
  have HBK := Lib.hid hk2
  clear HB2 hk2 hs2 p0 p1 HS
  generalize (w.alloc partsObj).alloc (.cells #[.int .i64 64, .int .i64 8] 89) = w2 at *
  have HFM := Lib.hid (form_any L vl w2 HL2.out HLEN.out)
  rw [HR.out.1] at HFM
  have HLT : Hid (∀ k, k < T.length → ∃ x, (T ++ U)[k]? = some x ∧ T[k]? = some x ∧ x.lo ≤ 255) := Lib.hid fun k hk => by
    refine ⟨T[k], ?_, ?_, HR.out.2.1 _ (List.getElem_mem hk)⟩
    · rw [List.getElem?_append_left hk, List.getElem?_eq_getElem hk]
    · rw [List.getElem?_eq_getElem hk]
  have HEND : Hid ((T ++ U).length = T.length ∨ ∃ x, (T ++ U)[T.length]? = some x ∧ 255 < x.lo ∧ T.length < (T ++ U).length) := Lib.hid (by
    rcases HR.out.2.2 with rfl | ⟨u, U', rfl, hu⟩
    · exact .inl (by simp)
    · exact .inr ⟨u, by simp, hu, by simp⟩)
  have HTL : Hid (T.length ≤ (T ++ U).length) := Lib.hid (by simp)
  clear HR HL HL2 HLEN
  generalize T ++ U = R at *
  go_upto_region 9 with ((with_reducible refine HFM.out.mono ?_); rintro e w3 ⟨v3, rfl, ho3, hb3⟩; have HO3 := Lib.hid ho3; have HB3 := Lib.hid hb3; obtain ⟨A3, c3, hv3, hA3⟩ := owns_form ho3; subst hv3; have HA3 := Lib.hid hA3; clear hA3 ho3 hb3)
  have HS3 := Lib.hid (HS2.out.below HB3.out)
  have HK3 := Lib.hid (HK2.out.trans (HS2.out.kept HB3.out))
  have hk3 := blk_below HB3.out HBK.out
  have HF3 := Lib.hid (((HS2.out.kept HB3.out).same _ HF2.out HNE.out).2)
  have HBX : Hid (∀ W, KeptS A km w3 W → W.cell? ⟨w.heap.size + 1, 0, none⟩ = some (.int .i64 64) ∧ W.cell? ⟨w.heap.size + 1, 1, none⟩ = some (.int .i64 8)) := Lib.hid fun W hW => by
    have hk := (hW.same _ HF3.out HNE.out).1.trans hk3
    exact ⟨cell_of_row W _ 0 _ _ (0, 0) hk, cell_of_row W _ 1 _ _ (0, 0) hk⟩
  have HROW : Hid (∀ (k : Nat) (x : SpanV), R[k]? = some x → ∃ g, A3 = some ⟨g, 0, none⟩ ∧ ∀ W, KeptS A km w3 W → W.cell? ⟨g, k * 2, none⟩ = some (.int .u32 x.lo) ∧ W.cell? ⟨g, k * 2 + 1, none⟩ = some (.int .u32 x.hi)) := Lib.hid fun k x hx => by
    have hk := (List.getElem?_eq_some_iff.1 hx).1
    obtain ⟨g, rfl⟩ := HA3.out (by omega)
    have hlg := HO3.out.lt g rfl
    have hgf := HS2.out.sp.ar.foreign_new HB3.out hlg.1 hlg.2
    have hgk : g ≠ km := by have := HS2.out.sp.fk.1; omega
    refine ⟨g, rfl, fun W hW => ⟨(World.cell?_of_block (hW.same _ hgf hgk).1).trans ?_, (World.cell?_of_block (hW.same _ hgf hgk).1).trans ?_⟩⟩
    · exact (HO3.out.cellAt (k * 2) (by omega)).trans (scell (i := 0) hx rfl)
    · exact (HO3.out.cellAt (k * 2 + 1) (by omega)).trans (scell (i := 1) hx rfl)
  have hrl := (owns_le HO3.out).2
  clear HB3 hk3 HF3 HBK HO3 HA3 HF2 HS2 HK2 HFM b0 b1 HNE
  go_wp2
  go_loopw [10, 35] (fun r i wr => ∃ k : Nat, i = .int .i64 k ∧ k ≤ T.length ∧ ∃ (q : Nat) (τ : Sg), r = .int .i64 q ∧ Hid (SpOk wr B S km A Mo τ) ∧ Hid (To (k * (K + 608)) (k * (K + 608)) σ τ) ∧ Hid (Den τ q (numsF 64 8 255 (T.take k))) ∧ Hid (KeptS A km w3 wr)) (fun _ i _ => R.length - (intOf i).toNat)
  case atStart => exact ⟨0, rfl, by omega, 0, σ, rfl, HS3, Lib.hid (by rw [Nat.zero_mul]; exact To.refl σ), Lib.hid (Den.zero HS3.out.ok), Lib.hid (KeptS.refl _ _ _)⟩
  case round =>
    obtain ⟨k, rfl, hk, q, τ, rfl, HSR, HTR, HDR, HKR⟩ := hrel
    have htl := HTL.out
    by_cases hlt : k < T.length
    · have hI : (k : Int) < (R.length : Int) := by omega
      obtain ⟨x, hx, hxT, hxM⟩ := HLT.out k hlt
      obtain ⟨g, rfl, hrow⟩ := HROW.out k x hx
      obtain ⟨r0, r1⟩ := hrow wr HKR.out
      obtain ⟨lo, hlo⟩ : ∃ lo : Nat, x.lo = lo := ⟨x.lo.toNat, by have := x.hlo; omega⟩
      obtain ⟨hi, hhi⟩ : ∃ hi : Nat, x.hi = hi := ⟨x.hi.toNat, by have := x.hhi; omega⟩
      have hlb := x.hlo
      have hhb := x.hhi
      have HTK : Hid (numsF 64 8 255 (T.take (k + 1)) = fun s => numsF 64 8 255 (T.take k) s || spanF 64 8 lo (min hi 255) s) := Lib.hid (by
        rw [List.take_add_one, hxT]
        show numsF 64 8 255 (T.take k ++ [x]) = _
        rw [numsF_snoc, hlo, hhi]
        rfl)
      rw [hlo] at r0 hxM hlb
      rw [hhi] at r1 hhb
      have hl1 : (lo : Int) ≤ 4294967295 := by omega
      have hl2 : (hi : Int) ≤ 4294967295 := by omega
      have hcmp : ¬ (lo : Int) > 255 := by omega
      have hm1 : (k + 1) * (K + 608) ≤ T.length * (K + 608) := Nat.mul_le_mul_right _ hlt
      have hm2 : (k + 1) * (K + 608) = k * (K + 608) + (K + 608) := by rw [Nat.add_mul, Nat.one_mul]
      have HM := Lib.hid (And.intro hm1 hm2)
      clear hx hxT hlo hhi hrow hm1 hm2 hxM hlb hhb
      go_upto_region 11 with fail
      have hbs := below1 wr (.cells #[.int .u32 lo, .int .u32 hi] 72)
      have hks := blk1 wr (.cells #[.int .u32 lo, .int .u32 hi] 72)
      have HF4 := Lib.hid (HSR.out.sp.ar.foreign_new hbs (Nat.le_refl _) (lt_of_block hks))
      have HN4 : Hid (wr.heap.size ≠ km) := Lib.hid (by have := HSR.out.sp.fk.1; omega)
      have HS4 := Lib.hid (HSR.out.below hbs)
      have HK4 := Lib.hid (HKR.out.trans (HSR.out.kept hbs))
      have HBS : Hid (∀ W, KeptS A km (wr.alloc (.cells #[.int .u32 lo, .int .u32 hi] 72)) W → W.cell? ⟨wr.heap.size, 0, none⟩ = some (.int .u32 lo) ∧ W.cell? ⟨wr.heap.size, 1, none⟩ = some (.int .u32 hi)) := Lib.hid fun W hW => by
        have hk := (hW.same _ HF4.out HN4.out).1.trans hks
        exact ⟨cell_of_row W _ 0 _ _ (0, 0) hk, cell_of_row W _ 1 _ _ (0, 0) hk⟩
      clear hbs hks HF4 HN4 r0 r1
      generalize wr.alloc (.cells #[.int .u32 lo, .int .u32 hi] 72) = w4 at *
      obtain ⟨s0, s1⟩ := HBS.out w4 (KeptS.refl _ _ _)
      obtain ⟨b0, b1⟩ := HBX.out w4 HK4.out
      have hnl := HTR.out.nl
      have hm := HM.out
      have HRA := Lib.hid (show Calls Tryz.prog 63 #[.pointer (some ⟨S, 0, none⟩), .agg #[.int .i64 64, .int .i64 8], .int .u64 lo, .bool true] w4 (SpRes w4 B S km A Mo τ (reachF 64 8 lo true 8) (2 * 8) (2 * 8)) from reach_any HS4.out 64 8 lo true (by omega) (by omega) (by omega) (by omega))
      clear hnl hm
      go_upto_region 13 with ((with_reducible refine HRA.out.mono ?_); rintro e w5 hr5; obtain ⟨q5, c5, he5⟩ := hr5.form; have HR5 := Lib.hid hr5; subst he5; clear hr5)
      rcases HR5.out.two with ⟨rfl, rfl, hlt5, τ5, hs5, ht5⟩ | ⟨r5, τ5, rfl, rfl, hs5, ht5, hd5⟩
      · have HFIN := Lib.hid (SpRes.full (F := numsF 64 8 255 T) (HK3.out.trans (HK4.out.trans HR5.out.1)) rfl (by have := HTR.out.hl; have := HM.out; omega) hs5 ((HTR.out.trans ht5).mono (show k * (K + 608) + 2 * 8 ≤ T.length * (K + 608) by have := HM.out; omega) (show k * (K + 608) + 2 * 8 ≤ T.length * (K + 608) by have := HM.out; omega)))
        clear hlt5 hs5 ht5
        go_wp2
        go_ret2
        exact HFIN.out
      · have HS5 := Lib.hid hs5
        have HT5 := Lib.hid (HTR.out.trans ht5)
        have HD5 := Lib.hid hd5
        have HDQ5 := Lib.hid (HDR.out.to ht5 HSR.out.ok hs5.ok)
        have HKS5 := Lib.hid HR5.out.1
        have HK5 := Lib.hid (HK4.out.trans HR5.out.1)
        clear hs5 ht5 hd5 HR5 HRA s0 s1 b0 b1
        obtain ⟨s0, s1⟩ := HBS.out w5 HKS5.out
        obtain ⟨b0, b1⟩ := HBX.out w5 HK5.out
        have hnl := HT5.out.nl
        have hm := HM.out
        have HRB := Lib.hid (show Calls Tryz.prog 63 #[.pointer (some ⟨S, 0, none⟩), .agg #[.int .i64 64, .int .i64 8], .int .u64 (min (hi : Int) 255), .bool false] w5 (SpRes w5 B S km A Mo τ5 (reachF 64 8 (min hi 255) false 8) (2 * 8) (2 * 8)) from by
          rw [show min (hi : Int) 255 = ((min hi 255 : Nat) : Int) by omega]
          exact reach_any HS5.out 64 8 (min hi 255) false (by omega) (by omega) (by omega) (by omega))
        clear hnl hm
        go_upto_region 16 with ((with_reducible refine HRB.out.mono ?_); rintro e w6 hr6; obtain ⟨q6, c6, he6⟩ := hr6.form; have HR6 := Lib.hid hr6; subst he6; clear hr6)
        rcases HR6.out.two with ⟨rfl, rfl, hlt6, τ6, hs6, ht6⟩ | ⟨r6, τ6, rfl, rfl, hs6, ht6, hd6⟩
        · have HFIN := Lib.hid (SpRes.full (F := numsF 64 8 255 T) (HK3.out.trans (HK5.out.trans HR6.out.1)) rfl (by have := HT5.out.hl; have := HM.out; omega) hs6 ((HT5.out.trans ht6).mono (show k * (K + 608) + 2 * 8 + 2 * 8 ≤ T.length * (K + 608) by have := HM.out; omega) (show k * (K + 608) + 2 * 8 + 2 * 8 ≤ T.length * (K + 608) by have := HM.out; omega)))
          clear hlt6 hs6 ht6
          go_wp2
          go_ret2
          exact HFIN.out
        · have HS6 := Lib.hid hs6
          have HT6 := Lib.hid (HT5.out.trans ht6)
          have HDQ6 := Lib.hid (HDQ5.out.to ht6 HS5.out.ok hs6.ok)
          have HK6 := Lib.hid (HK5.out.trans HR6.out.1)
          have c6 := hs6.sp.c0
          have hnl := HT6.out.nl
          have hm := HM.out
          have HAN := Lib.hid (show Calls Tryz.prog 43 #[.pointer (some ⟨A.a, 0, none⟩), .int .i64 r5, .int .i64 r6] w6 (SpRes w6 B S km A Mo τ6 (spanF 64 8 lo (min hi 255)) 576 576) from hs6.and (HD5.out.to ht6 HS5.out.ok hs6.ok) hd6 (a := 576) (b := 576) (Grow.wid hs6.ok.wf.two (spanF_wid 64 8 lo (min hi 255) (by omega) (by omega))) (by omega))
          clear hs6 ht6 hd6 HR6 HRB s0 s1 b0 b1 hnl hm HS5 HT5 HD5 HDQ5 HKS5 HK5
          go_upto_region 19 with ((with_reducible refine HAN.out.mono ?_); rintro e w7 hr7; obtain ⟨q7, c7, he7⟩ := hr7.form; have HR7 := Lib.hid hr7; subst he7; clear hr7)
          rcases HR7.out.two with ⟨rfl, rfl, hlt7, τ7, hs7, ht7⟩ | ⟨r7, τ7, rfl, rfl, hs7, ht7, hd7⟩
          · have HFIN := Lib.hid (SpRes.full (F := numsF 64 8 255 T) (HK3.out.trans (HK6.out.trans HR7.out.1)) rfl (by have := HT6.out.hl; have := HM.out; omega) hs7 ((HT6.out.trans ht7).mono (show k * (K + 608) + 2 * 8 + 2 * 8 + 576 ≤ T.length * (K + 608) by have := HM.out; omega) (show k * (K + 608) + 2 * 8 + 2 * 8 + 576 ≤ T.length * (K + 608) by have := HM.out; omega)))
            clear hlt7 hs7 ht7
            go_wp2
            go_ret2
            exact HFIN.out
          · have HS7 := Lib.hid hs7
            have HT7 := Lib.hid (HT6.out.trans ht7)
            have HDQ7 := Lib.hid (HDQ6.out.to ht7 HS6.out.ok hs7.ok)
            have HK7 := Lib.hid (HK6.out.trans HR7.out.1)
            have c7 := hs7.sp.c0
            have hnl := HT7.out.nl
            have hm := HM.out
            have hwk := HK.out (k + 1) (by omega)
            rw [HTK.out] at hwk
            have HOR := Lib.hid (show Calls Tryz.prog 44 #[.pointer (some ⟨A.a, 0, none⟩), .int .i64 q, .int .i64 r7] w7 (SpRes w7 B S km A Mo τ7 (fun s => numsF 64 8 255 (T.take k) s || spanF 64 8 lo (min hi 255) s) K K) from hs7.or HDQ7.out hd7 (a := K) (b := K) (Grow.wid hs7.ok.wf.two hwk) (by omega))
            clear hs7 ht7 hd7 HR7 HAN hnl hm hwk HS6 HT6 HDQ6 HK6
            go_upto_region 22 with ((with_reducible refine HOR.out.mono ?_); rintro e w8 hr8; obtain ⟨q8, c8, he8⟩ := hr8.form; have HR8 := Lib.hid hr8; subst he8; clear hr8)
            rcases HR8.out.two with ⟨rfl, rfl, hlt8, τ8, hs8, ht8⟩ | ⟨r8, τ8, rfl, rfl, hs8, ht8, hd8⟩
            · have HFIN := Lib.hid (SpRes.full (F := numsF 64 8 255 T) (HK3.out.trans (HK7.out.trans HR8.out.1)) rfl (by have := HT7.out.hl; have := HM.out; omega) hs8 ((HT7.out.trans ht8).mono (show k * (K + 608) + 2 * 8 + 2 * 8 + 576 + K ≤ T.length * (K + 608) by have := HM.out; omega) (show k * (K + 608) + 2 * 8 + 2 * 8 + 576 + K ≤ T.length * (K + 608) by have := HM.out; omega)))
              clear hlt8 hs8 ht8
              go_wp2
              go_ret2
              exact HFIN.out
            · have HS8 := Lib.hid hs8
              have HT8 := Lib.hid ((HT7.out.trans ht8).mono (show k * (K + 608) + 2 * 8 + 2 * 8 + 576 + K ≤ (k + 1) * (K + 608) by have := HM.out; omega) (show k * (K + 608) + 2 * 8 + 2 * 8 + 576 + K ≤ (k + 1) * (K + 608) by have := HM.out; omega))
              have HD8 : Hid (Den τ8 r8 (numsF 64 8 255 (T.take (k + 1)))) := Lib.hid (by rw [HTK.out]; exact hd8)
              have HK8 := Lib.hid (HK7.out.trans HR8.out.1)
              clear hs8 ht8 hd8 HR8 HOR HS7 HT7 HDQ7 HK7
              go_wp2
              exact ⟨⟨k + 1, by go_num, by omega, r8, τ8, rfl, HS8, HT8, HD8, HK8⟩, by simp only [intOf]; omega⟩
    · obtain rfl : k = T.length := by omega
      have hfd := HDR.out
      rw [List.take_length] at hfd
      have HFIN : Hid (SpRes w B S km A Mo σ (numsF 64 8 255 T) (T.length * (K + 608)) (T.length * (K + 608)) (.returned (.tuple #[.int .i64 q, .int .i64 0])) wr) := Lib.hid ⟨HK3.out.trans HKR.out, .inr ⟨q, τ, rfl, HSR.out, HTR.out, hfd⟩⟩
      clear hfd
      rcases HEND.out with hend | ⟨x, hx, hxl, hlen⟩
      · have hI : ¬ (T.length : Int) < (R.length : Int) := by omega
        clear hend
        go_wp2
        go_ret2
        exact HFIN.out
      · have hI : (T.length : Int) < (R.length : Int) := by omega
        obtain ⟨g, rfl, hrow⟩ := HROW.out T.length x hx
        obtain ⟨r0, r1⟩ := hrow wr HKR.out
        obtain ⟨lo, hlo⟩ : ∃ lo : Nat, x.lo = lo := ⟨x.lo.toNat, by have := x.hlo; omega⟩
        obtain ⟨hi, hhi⟩ : ∃ hi : Nat, x.hi = hi := ⟨x.hi.toNat, by have := x.hhi; omega⟩
        have hlb := x.hlo
        have hhb := x.hhi
        rw [hlo] at r0 hxl hlb
        rw [hhi] at r1 hhb
        have hl1 : (lo : Int) ≤ 4294967295 := by omega
        have hl2 : (hi : Int) ≤ 4294967295 := by omega
        have hcmp : (lo : Int) > 255 := by omega
        have hbs := below1 wr (.cells #[.int .u32 lo, .int .u32 hi] 72)
        have HS4 := Lib.hid (SpRes.laid HFIN.out hbs)
        have s0 : (wr.alloc (.cells #[.int .u32 lo, .int .u32 hi] 72)).cell? ⟨wr.heap.size, 0, none⟩ = some (.int .u32 lo) := cell_of_row _ _ 0 _ _ (0, 0) (blk1 wr _)
        obtain ⟨b0, b1⟩ := HBX.out _ (HKR.out.trans (HSR.out.kept hbs))
        clear hx hrow hxl hlen hlo hhi hlb hhb hbs
        go_wp2
        go_ret2
        exact HS4.out
theorem numbers3_yes (h : SpOk w B S km A Mo σ) (L : List SpanV) (vl : Value) (hL : Rd w w.heap.size 2 vl L.length (scells L)) (hlen : L.length ≤ 1099511627776) (T U : List SpanV) (hR : formOf L = T ++ U) (hT : ∀ x ∈ T, x.lo ≤ 65535) (hU : U = [] ∨ ∃ u U', U = u :: U' ∧ 65535 < u.lo) (K : Nat)
    (hK : ∀ k, k ≤ T.length → Wid (numsF 72 16 65535 (T.take k)) K) (hl : σ.N.length + T.length * (K + 640) ≤ 2147483647) :
    Calls Tryz.prog 28 #[.pointer (some ⟨S, 0, none⟩), .int .i64 3, vl] w (SpRes w B S km A Mo σ (numsF 72 16 65535 T) (T.length * (K + 640)) (T.length * (K + 640))) := by
  have p0 : ∀ W : World, (W.alloc partsObj).cell? ⟨W.heap.size, 6, none⟩ = some (.int .i64 72) := fun W => (parts_at W 3 (by omega)).1
  have p1 : ∀ W : World, (W.alloc partsObj).cell? ⟨W.heap.size, 7, none⟩ = some (.int .i64 16) := fun W => (parts_at W 3 (by omega)).2
  have HS := Lib.hid h
  have HL := Lib.hid hL
  have HR := Lib.hid (And.intro hR (And.intro hT hU))
  have HK := Lib.hid hK
  have HLEN := Lib.hid hlen
  clear h hL hR hT hU hK hlen
  go_enter Tryz.func28, Tryz.ntmps28
  go_upto_region 6 with (go_at_call 61; (with_reducible refine (parts_any _).mono ?_); rintro e _ ⟨rfl, rfl⟩)
  have HB2 := Lib.hid (below2 w partsObj (.cells #[.int .i64 72, .int .i64 16] 89))
  have hk2 := blk1 (w.alloc partsObj) (.cells #[.int .i64 72, .int .i64 16] 89)
  have hs2 : (w.alloc partsObj).heap.size = w.heap.size + 1 := by simp
  rw [hs2] at hk2
  have HF2 := Lib.hid (HS.out.sp.ar.foreign_new HB2.out (k := w.heap.size + 1) (by omega) (lt_of_block hk2))
  have HNE : Hid (w.heap.size + 1 ≠ km) := Lib.hid (by have := HS.out.sp.fk.1; omega)
  have HS2 := Lib.hid (HS.out.below HB2.out)
  have HK2 := Lib.hid (HS.out.kept HB2.out)
  have HL2 := Lib.hid ((HL.out.below HB2.out).mono HB2.out.size)
  have b0 : ((w.alloc partsObj).alloc (.cells #[.int .i64 72, .int .i64 16] 89)).cell? ⟨w.heap.size + 1, 0, none⟩ = some (.int .i64 72) := cell_of_row _ _ 0 _ _ (0, 0) hk2
  have b1 : ((w.alloc partsObj).alloc (.cells #[.int .i64 72, .int .i64 16] 89)).cell? ⟨w.heap.size + 1, 1, none⟩ = some (.int .i64 16) := cell_of_row _ _ 1 _ _ (0, 0) hk2
  have HBK := Lib.hid hk2
  clear HB2 hk2 hs2 p0 p1 HS
  generalize (w.alloc partsObj).alloc (.cells #[.int .i64 72, .int .i64 16] 89) = w2 at *
  have HFM := Lib.hid (form_any L vl w2 HL2.out HLEN.out)
  rw [HR.out.1] at HFM
  have HLT : Hid (∀ k, k < T.length → ∃ x, (T ++ U)[k]? = some x ∧ T[k]? = some x ∧ x.lo ≤ 65535) := Lib.hid fun k hk => by
    refine ⟨T[k], ?_, ?_, HR.out.2.1 _ (List.getElem_mem hk)⟩
    · rw [List.getElem?_append_left hk, List.getElem?_eq_getElem hk]
    · rw [List.getElem?_eq_getElem hk]
  have HEND : Hid ((T ++ U).length = T.length ∨ ∃ x, (T ++ U)[T.length]? = some x ∧ 65535 < x.lo ∧ T.length < (T ++ U).length) := Lib.hid (by
    rcases HR.out.2.2 with rfl | ⟨u, U', rfl, hu⟩
    · exact .inl (by simp)
    · exact .inr ⟨u, by simp, hu, by simp⟩)
  have HTL : Hid (T.length ≤ (T ++ U).length) := Lib.hid (by simp)
  clear HR HL HL2 HLEN
  generalize T ++ U = R at *
  go_upto_region 9 with ((with_reducible refine HFM.out.mono ?_); rintro e w3 ⟨v3, rfl, ho3, hb3⟩; have HO3 := Lib.hid ho3; have HB3 := Lib.hid hb3; obtain ⟨A3, c3, hv3, hA3⟩ := owns_form ho3; subst hv3; have HA3 := Lib.hid hA3; clear hA3 ho3 hb3)
  have HS3 := Lib.hid (HS2.out.below HB3.out)
  have HK3 := Lib.hid (HK2.out.trans (HS2.out.kept HB3.out))
  have hk3 := blk_below HB3.out HBK.out
  have HF3 := Lib.hid (((HS2.out.kept HB3.out).same _ HF2.out HNE.out).2)
  have HBX : Hid (∀ W, KeptS A km w3 W → W.cell? ⟨w.heap.size + 1, 0, none⟩ = some (.int .i64 72) ∧ W.cell? ⟨w.heap.size + 1, 1, none⟩ = some (.int .i64 16)) := Lib.hid fun W hW => by
    have hk := (hW.same _ HF3.out HNE.out).1.trans hk3
    exact ⟨cell_of_row W _ 0 _ _ (0, 0) hk, cell_of_row W _ 1 _ _ (0, 0) hk⟩
  have HROW : Hid (∀ (k : Nat) (x : SpanV), R[k]? = some x → ∃ g, A3 = some ⟨g, 0, none⟩ ∧ ∀ W, KeptS A km w3 W → W.cell? ⟨g, k * 2, none⟩ = some (.int .u32 x.lo) ∧ W.cell? ⟨g, k * 2 + 1, none⟩ = some (.int .u32 x.hi)) := Lib.hid fun k x hx => by
    have hk := (List.getElem?_eq_some_iff.1 hx).1
    obtain ⟨g, rfl⟩ := HA3.out (by omega)
    have hlg := HO3.out.lt g rfl
    have hgf := HS2.out.sp.ar.foreign_new HB3.out hlg.1 hlg.2
    have hgk : g ≠ km := by have := HS2.out.sp.fk.1; omega
    refine ⟨g, rfl, fun W hW => ⟨(World.cell?_of_block (hW.same _ hgf hgk).1).trans ?_, (World.cell?_of_block (hW.same _ hgf hgk).1).trans ?_⟩⟩
    · exact (HO3.out.cellAt (k * 2) (by omega)).trans (scell (i := 0) hx rfl)
    · exact (HO3.out.cellAt (k * 2 + 1) (by omega)).trans (scell (i := 1) hx rfl)
  have hrl := (owns_le HO3.out).2
  clear HB3 hk3 HF3 HBK HO3 HA3 HF2 HS2 HK2 HFM b0 b1 HNE
  go_wp2
  go_loopw [10, 35] (fun r i wr => ∃ k : Nat, i = .int .i64 k ∧ k ≤ T.length ∧ ∃ (q : Nat) (τ : Sg), r = .int .i64 q ∧ Hid (SpOk wr B S km A Mo τ) ∧ Hid (To (k * (K + 640)) (k * (K + 640)) σ τ) ∧ Hid (Den τ q (numsF 72 16 65535 (T.take k))) ∧ Hid (KeptS A km w3 wr)) (fun _ i _ => R.length - (intOf i).toNat)
  case atStart => exact ⟨0, rfl, by omega, 0, σ, rfl, HS3, Lib.hid (by rw [Nat.zero_mul]; exact To.refl σ), Lib.hid (Den.zero HS3.out.ok), Lib.hid (KeptS.refl _ _ _)⟩
  case round =>
    obtain ⟨k, rfl, hk, q, τ, rfl, HSR, HTR, HDR, HKR⟩ := hrel
    have htl := HTL.out
    by_cases hlt : k < T.length
    · have hI : (k : Int) < (R.length : Int) := by omega
      obtain ⟨x, hx, hxT, hxM⟩ := HLT.out k hlt
      obtain ⟨g, rfl, hrow⟩ := HROW.out k x hx
      obtain ⟨r0, r1⟩ := hrow wr HKR.out
      obtain ⟨lo, hlo⟩ : ∃ lo : Nat, x.lo = lo := ⟨x.lo.toNat, by have := x.hlo; omega⟩
      obtain ⟨hi, hhi⟩ : ∃ hi : Nat, x.hi = hi := ⟨x.hi.toNat, by have := x.hhi; omega⟩
      have hlb := x.hlo
      have hhb := x.hhi
      have HTK : Hid (numsF 72 16 65535 (T.take (k + 1)) = fun s => numsF 72 16 65535 (T.take k) s || spanF 72 16 lo (min hi 65535) s) := Lib.hid (by
        rw [List.take_add_one, hxT]
        show numsF 72 16 65535 (T.take k ++ [x]) = _
        rw [numsF_snoc, hlo, hhi]
        rfl)
      rw [hlo] at r0 hxM hlb
      rw [hhi] at r1 hhb
      have hl1 : (lo : Int) ≤ 4294967295 := by omega
      have hl2 : (hi : Int) ≤ 4294967295 := by omega
      have hcmp : ¬ (lo : Int) > 65535 := by omega
      have hm1 : (k + 1) * (K + 640) ≤ T.length * (K + 640) := Nat.mul_le_mul_right _ hlt
      have hm2 : (k + 1) * (K + 640) = k * (K + 640) + (K + 640) := by rw [Nat.add_mul, Nat.one_mul]
      have HM := Lib.hid (And.intro hm1 hm2)
      clear hx hxT hlo hhi hrow hm1 hm2 hxM hlb hhb
      go_upto_region 11 with fail
      have hbs := below1 wr (.cells #[.int .u32 lo, .int .u32 hi] 72)
      have hks := blk1 wr (.cells #[.int .u32 lo, .int .u32 hi] 72)
      have HF4 := Lib.hid (HSR.out.sp.ar.foreign_new hbs (Nat.le_refl _) (lt_of_block hks))
      have HN4 : Hid (wr.heap.size ≠ km) := Lib.hid (by have := HSR.out.sp.fk.1; omega)
      have HS4 := Lib.hid (HSR.out.below hbs)
      have HK4 := Lib.hid (HKR.out.trans (HSR.out.kept hbs))
      have HBS : Hid (∀ W, KeptS A km (wr.alloc (.cells #[.int .u32 lo, .int .u32 hi] 72)) W → W.cell? ⟨wr.heap.size, 0, none⟩ = some (.int .u32 lo) ∧ W.cell? ⟨wr.heap.size, 1, none⟩ = some (.int .u32 hi)) := Lib.hid fun W hW => by
        have hk := (hW.same _ HF4.out HN4.out).1.trans hks
        exact ⟨cell_of_row W _ 0 _ _ (0, 0) hk, cell_of_row W _ 1 _ _ (0, 0) hk⟩
      clear hbs hks HF4 HN4 r0 r1
      generalize wr.alloc (.cells #[.int .u32 lo, .int .u32 hi] 72) = w4 at *
      obtain ⟨s0, s1⟩ := HBS.out w4 (KeptS.refl _ _ _)
      obtain ⟨b0, b1⟩ := HBX.out w4 HK4.out
      have hnl := HTR.out.nl
      have hm := HM.out
      have HRA := Lib.hid (show Calls Tryz.prog 63 #[.pointer (some ⟨S, 0, none⟩), .agg #[.int .i64 72, .int .i64 16], .int .u64 lo, .bool true] w4 (SpRes w4 B S km A Mo τ (reachF 72 16 lo true 16) (2 * 16) (2 * 16)) from reach_any HS4.out 72 16 lo true (by omega) (by omega) (by omega) (by omega))
      clear hnl hm
      go_upto_region 13 with ((with_reducible refine HRA.out.mono ?_); rintro e w5 hr5; obtain ⟨q5, c5, he5⟩ := hr5.form; have HR5 := Lib.hid hr5; subst he5; clear hr5)
      rcases HR5.out.two with ⟨rfl, rfl, hlt5, τ5, hs5, ht5⟩ | ⟨r5, τ5, rfl, rfl, hs5, ht5, hd5⟩
      · have HFIN := Lib.hid (SpRes.full (F := numsF 72 16 65535 T) (HK3.out.trans (HK4.out.trans HR5.out.1)) rfl (by have := HTR.out.hl; have := HM.out; omega) hs5 ((HTR.out.trans ht5).mono (show k * (K + 640) + 2 * 16 ≤ T.length * (K + 640) by have := HM.out; omega) (show k * (K + 640) + 2 * 16 ≤ T.length * (K + 640) by have := HM.out; omega)))
        clear hlt5 hs5 ht5
        go_wp2
        go_ret2
        exact HFIN.out
      · have HS5 := Lib.hid hs5
        have HT5 := Lib.hid (HTR.out.trans ht5)
        have HD5 := Lib.hid hd5
        have HDQ5 := Lib.hid (HDR.out.to ht5 HSR.out.ok hs5.ok)
        have HKS5 := Lib.hid HR5.out.1
        have HK5 := Lib.hid (HK4.out.trans HR5.out.1)
        clear hs5 ht5 hd5 HR5 HRA s0 s1 b0 b1
        obtain ⟨s0, s1⟩ := HBS.out w5 HKS5.out
        obtain ⟨b0, b1⟩ := HBX.out w5 HK5.out
        have hnl := HT5.out.nl
        have hm := HM.out
        have HRB := Lib.hid (show Calls Tryz.prog 63 #[.pointer (some ⟨S, 0, none⟩), .agg #[.int .i64 72, .int .i64 16], .int .u64 (min (hi : Int) 65535), .bool false] w5 (SpRes w5 B S km A Mo τ5 (reachF 72 16 (min hi 65535) false 16) (2 * 16) (2 * 16)) from by
          rw [show min (hi : Int) 65535 = ((min hi 65535 : Nat) : Int) by omega]
          exact reach_any HS5.out 72 16 (min hi 65535) false (by omega) (by omega) (by omega) (by omega))
        clear hnl hm
        go_upto_region 16 with ((with_reducible refine HRB.out.mono ?_); rintro e w6 hr6; obtain ⟨q6, c6, he6⟩ := hr6.form; have HR6 := Lib.hid hr6; subst he6; clear hr6)
        rcases HR6.out.two with ⟨rfl, rfl, hlt6, τ6, hs6, ht6⟩ | ⟨r6, τ6, rfl, rfl, hs6, ht6, hd6⟩
        · have HFIN := Lib.hid (SpRes.full (F := numsF 72 16 65535 T) (HK3.out.trans (HK5.out.trans HR6.out.1)) rfl (by have := HT5.out.hl; have := HM.out; omega) hs6 ((HT5.out.trans ht6).mono (show k * (K + 640) + 2 * 16 + 2 * 16 ≤ T.length * (K + 640) by have := HM.out; omega) (show k * (K + 640) + 2 * 16 + 2 * 16 ≤ T.length * (K + 640) by have := HM.out; omega)))
          clear hlt6 hs6 ht6
          go_wp2
          go_ret2
          exact HFIN.out
        · have HS6 := Lib.hid hs6
          have HT6 := Lib.hid (HT5.out.trans ht6)
          have HDQ6 := Lib.hid (HDQ5.out.to ht6 HS5.out.ok hs6.ok)
          have HK6 := Lib.hid (HK5.out.trans HR6.out.1)
          have c6 := hs6.sp.c0
          have hnl := HT6.out.nl
          have hm := HM.out
          have HAN := Lib.hid (show Calls Tryz.prog 43 #[.pointer (some ⟨A.a, 0, none⟩), .int .i64 r5, .int .i64 r6] w6 (SpRes w6 B S km A Mo τ6 (spanF 72 16 lo (min hi 65535)) 576 576) from hs6.and (HD5.out.to ht6 HS5.out.ok hs6.ok) hd6 (a := 576) (b := 576) (Grow.wid hs6.ok.wf.two (spanF_wid 72 16 lo (min hi 65535) (by omega) (by omega))) (by omega))
          clear hs6 ht6 hd6 HR6 HRB s0 s1 b0 b1 hnl hm HS5 HT5 HD5 HDQ5 HKS5 HK5
          go_upto_region 19 with ((with_reducible refine HAN.out.mono ?_); rintro e w7 hr7; obtain ⟨q7, c7, he7⟩ := hr7.form; have HR7 := Lib.hid hr7; subst he7; clear hr7)
          rcases HR7.out.two with ⟨rfl, rfl, hlt7, τ7, hs7, ht7⟩ | ⟨r7, τ7, rfl, rfl, hs7, ht7, hd7⟩
          · have HFIN := Lib.hid (SpRes.full (F := numsF 72 16 65535 T) (HK3.out.trans (HK6.out.trans HR7.out.1)) rfl (by have := HT6.out.hl; have := HM.out; omega) hs7 ((HT6.out.trans ht7).mono (show k * (K + 640) + 2 * 16 + 2 * 16 + 576 ≤ T.length * (K + 640) by have := HM.out; omega) (show k * (K + 640) + 2 * 16 + 2 * 16 + 576 ≤ T.length * (K + 640) by have := HM.out; omega)))
            clear hlt7 hs7 ht7
            go_wp2
            go_ret2
            exact HFIN.out
          · have HS7 := Lib.hid hs7
            have HT7 := Lib.hid (HT6.out.trans ht7)
            have HDQ7 := Lib.hid (HDQ6.out.to ht7 HS6.out.ok hs7.ok)
            have HK7 := Lib.hid (HK6.out.trans HR7.out.1)
            have c7 := hs7.sp.c0
            have hnl := HT7.out.nl
            have hm := HM.out
            have hwk := HK.out (k + 1) (by omega)
            rw [HTK.out] at hwk
            have HOR := Lib.hid (show Calls Tryz.prog 44 #[.pointer (some ⟨A.a, 0, none⟩), .int .i64 q, .int .i64 r7] w7 (SpRes w7 B S km A Mo τ7 (fun s => numsF 72 16 65535 (T.take k) s || spanF 72 16 lo (min hi 65535) s) K K) from hs7.or HDQ7.out hd7 (a := K) (b := K) (Grow.wid hs7.ok.wf.two hwk) (by omega))
            clear hs7 ht7 hd7 HR7 HAN hnl hm hwk HS6 HT6 HDQ6 HK6
            go_upto_region 22 with ((with_reducible refine HOR.out.mono ?_); rintro e w8 hr8; obtain ⟨q8, c8, he8⟩ := hr8.form; have HR8 := Lib.hid hr8; subst he8; clear hr8)
            rcases HR8.out.two with ⟨rfl, rfl, hlt8, τ8, hs8, ht8⟩ | ⟨r8, τ8, rfl, rfl, hs8, ht8, hd8⟩
            · have HFIN := Lib.hid (SpRes.full (F := numsF 72 16 65535 T) (HK3.out.trans (HK7.out.trans HR8.out.1)) rfl (by have := HT7.out.hl; have := HM.out; omega) hs8 ((HT7.out.trans ht8).mono (show k * (K + 640) + 2 * 16 + 2 * 16 + 576 + K ≤ T.length * (K + 640) by have := HM.out; omega) (show k * (K + 640) + 2 * 16 + 2 * 16 + 576 + K ≤ T.length * (K + 640) by have := HM.out; omega)))
              clear hlt8 hs8 ht8
              go_wp2
              go_ret2
              exact HFIN.out
            · have HS8 := Lib.hid hs8
              have HT8 := Lib.hid ((HT7.out.trans ht8).mono (show k * (K + 640) + 2 * 16 + 2 * 16 + 576 + K ≤ (k + 1) * (K + 640) by have := HM.out; omega) (show k * (K + 640) + 2 * 16 + 2 * 16 + 576 + K ≤ (k + 1) * (K + 640) by have := HM.out; omega))
              have HD8 : Hid (Den τ8 r8 (numsF 72 16 65535 (T.take (k + 1)))) := Lib.hid (by rw [HTK.out]; exact hd8)
              have HK8 := Lib.hid (HK7.out.trans HR8.out.1)
              clear hs8 ht8 hd8 HR8 HOR HS7 HT7 HDQ7 HK7
              go_wp2
              exact ⟨⟨k + 1, by go_num, by omega, r8, τ8, rfl, HS8, HT8, HD8, HK8⟩, by simp only [intOf]; omega⟩
    · obtain rfl : k = T.length := by omega
      have hfd := HDR.out
      rw [List.take_length] at hfd
      have HFIN : Hid (SpRes w B S km A Mo σ (numsF 72 16 65535 T) (T.length * (K + 640)) (T.length * (K + 640)) (.returned (.tuple #[.int .i64 q, .int .i64 0])) wr) := Lib.hid ⟨HK3.out.trans HKR.out, .inr ⟨q, τ, rfl, HSR.out, HTR.out, hfd⟩⟩
      clear hfd
      rcases HEND.out with hend | ⟨x, hx, hxl, hlen⟩
      · have hI : ¬ (T.length : Int) < (R.length : Int) := by omega
        clear hend
        go_wp2
        go_ret2
        exact HFIN.out
      · have hI : (T.length : Int) < (R.length : Int) := by omega
        obtain ⟨g, rfl, hrow⟩ := HROW.out T.length x hx
        obtain ⟨r0, r1⟩ := hrow wr HKR.out
        obtain ⟨lo, hlo⟩ : ∃ lo : Nat, x.lo = lo := ⟨x.lo.toNat, by have := x.hlo; omega⟩
        obtain ⟨hi, hhi⟩ : ∃ hi : Nat, x.hi = hi := ⟨x.hi.toNat, by have := x.hhi; omega⟩
        have hlb := x.hlo
        have hhb := x.hhi
        rw [hlo] at r0 hxl hlb
        rw [hhi] at r1 hhb
        have hl1 : (lo : Int) ≤ 4294967295 := by omega
        have hl2 : (hi : Int) ≤ 4294967295 := by omega
        have hcmp : (lo : Int) > 65535 := by omega
        have hbs := below1 wr (.cells #[.int .u32 lo, .int .u32 hi] 72)
        have HS4 := Lib.hid (SpRes.laid HFIN.out hbs)
        have s0 : (wr.alloc (.cells #[.int .u32 lo, .int .u32 hi] 72)).cell? ⟨wr.heap.size, 0, none⟩ = some (.int .u32 lo) := cell_of_row _ _ 0 _ _ (0, 0) (blk1 wr _)
        obtain ⟨b0, b1⟩ := HBX.out _ (HKR.out.trans (HSR.out.kept hbs))
        clear hx hrow hxl hlen hlo hhi hlb hhb hbs
        go_wp2
        go_ret2
        exact HS4.out
theorem numbers4_yes (h : SpOk w B S km A Mo σ) (L : List SpanV) (vl : Value) (hL : Rd w w.heap.size 2 vl L.length (scells L)) (hlen : L.length ≤ 1099511627776) (T U : List SpanV) (hR : formOf L = T ++ U) (hT : ∀ x ∈ T, x.lo ≤ 65535) (hU : U = [] ∨ ∃ u U', U = u :: U' ∧ 65535 < u.lo) (K : Nat)
    (hK : ∀ k, k ≤ T.length → Wid (numsF 88 16 65535 (T.take k)) K) (hl : σ.N.length + T.length * (K + 640) ≤ 2147483647) :
    Calls Tryz.prog 28 #[.pointer (some ⟨S, 0, none⟩), .int .i64 4, vl] w (SpRes w B S km A Mo σ (numsF 88 16 65535 T) (T.length * (K + 640)) (T.length * (K + 640))) := by
  have p0 : ∀ W : World, (W.alloc partsObj).cell? ⟨W.heap.size, 8, none⟩ = some (.int .i64 88) := fun W => (parts_at W 4 (by omega)).1
  have p1 : ∀ W : World, (W.alloc partsObj).cell? ⟨W.heap.size, 9, none⟩ = some (.int .i64 16) := fun W => (parts_at W 4 (by omega)).2
  have HS := Lib.hid h
  have HL := Lib.hid hL
  have HR := Lib.hid (And.intro hR (And.intro hT hU))
  have HK := Lib.hid hK
  have HLEN := Lib.hid hlen
  clear h hL hR hT hU hK hlen
  go_enter Tryz.func28, Tryz.ntmps28
  go_upto_region 6 with (go_at_call 61; (with_reducible refine (parts_any _).mono ?_); rintro e _ ⟨rfl, rfl⟩)
  have HB2 := Lib.hid (below2 w partsObj (.cells #[.int .i64 88, .int .i64 16] 89))
  have hk2 := blk1 (w.alloc partsObj) (.cells #[.int .i64 88, .int .i64 16] 89)
  have hs2 : (w.alloc partsObj).heap.size = w.heap.size + 1 := by simp
  rw [hs2] at hk2
  have HF2 := Lib.hid (HS.out.sp.ar.foreign_new HB2.out (k := w.heap.size + 1) (by omega) (lt_of_block hk2))
  have HNE : Hid (w.heap.size + 1 ≠ km) := Lib.hid (by have := HS.out.sp.fk.1; omega)
  have HS2 := Lib.hid (HS.out.below HB2.out)
  have HK2 := Lib.hid (HS.out.kept HB2.out)
  have HL2 := Lib.hid ((HL.out.below HB2.out).mono HB2.out.size)
  have b0 : ((w.alloc partsObj).alloc (.cells #[.int .i64 88, .int .i64 16] 89)).cell? ⟨w.heap.size + 1, 0, none⟩ = some (.int .i64 88) := cell_of_row _ _ 0 _ _ (0, 0) hk2
  have b1 : ((w.alloc partsObj).alloc (.cells #[.int .i64 88, .int .i64 16] 89)).cell? ⟨w.heap.size + 1, 1, none⟩ = some (.int .i64 16) := cell_of_row _ _ 1 _ _ (0, 0) hk2
  have HBK := Lib.hid hk2
  clear HB2 hk2 hs2 p0 p1 HS
  generalize (w.alloc partsObj).alloc (.cells #[.int .i64 88, .int .i64 16] 89) = w2 at *
  have HFM := Lib.hid (form_any L vl w2 HL2.out HLEN.out)
  rw [HR.out.1] at HFM
  have HLT : Hid (∀ k, k < T.length → ∃ x, (T ++ U)[k]? = some x ∧ T[k]? = some x ∧ x.lo ≤ 65535) := Lib.hid fun k hk => by
    refine ⟨T[k], ?_, ?_, HR.out.2.1 _ (List.getElem_mem hk)⟩
    · rw [List.getElem?_append_left hk, List.getElem?_eq_getElem hk]
    · rw [List.getElem?_eq_getElem hk]
  have HEND : Hid ((T ++ U).length = T.length ∨ ∃ x, (T ++ U)[T.length]? = some x ∧ 65535 < x.lo ∧ T.length < (T ++ U).length) := Lib.hid (by
    rcases HR.out.2.2 with rfl | ⟨u, U', rfl, hu⟩
    · exact .inl (by simp)
    · exact .inr ⟨u, by simp, hu, by simp⟩)
  have HTL : Hid (T.length ≤ (T ++ U).length) := Lib.hid (by simp)
  clear HR HL HL2 HLEN
  generalize T ++ U = R at *
  go_upto_region 9 with ((with_reducible refine HFM.out.mono ?_); rintro e w3 ⟨v3, rfl, ho3, hb3⟩; have HO3 := Lib.hid ho3; have HB3 := Lib.hid hb3; obtain ⟨A3, c3, hv3, hA3⟩ := owns_form ho3; subst hv3; have HA3 := Lib.hid hA3; clear hA3 ho3 hb3)
  have HS3 := Lib.hid (HS2.out.below HB3.out)
  have HK3 := Lib.hid (HK2.out.trans (HS2.out.kept HB3.out))
  have hk3 := blk_below HB3.out HBK.out
  have HF3 := Lib.hid (((HS2.out.kept HB3.out).same _ HF2.out HNE.out).2)
  have HBX : Hid (∀ W, KeptS A km w3 W → W.cell? ⟨w.heap.size + 1, 0, none⟩ = some (.int .i64 88) ∧ W.cell? ⟨w.heap.size + 1, 1, none⟩ = some (.int .i64 16)) := Lib.hid fun W hW => by
    have hk := (hW.same _ HF3.out HNE.out).1.trans hk3
    exact ⟨cell_of_row W _ 0 _ _ (0, 0) hk, cell_of_row W _ 1 _ _ (0, 0) hk⟩
  have HROW : Hid (∀ (k : Nat) (x : SpanV), R[k]? = some x → ∃ g, A3 = some ⟨g, 0, none⟩ ∧ ∀ W, KeptS A km w3 W → W.cell? ⟨g, k * 2, none⟩ = some (.int .u32 x.lo) ∧ W.cell? ⟨g, k * 2 + 1, none⟩ = some (.int .u32 x.hi)) := Lib.hid fun k x hx => by
    have hk := (List.getElem?_eq_some_iff.1 hx).1
    obtain ⟨g, rfl⟩ := HA3.out (by omega)
    have hlg := HO3.out.lt g rfl
    have hgf := HS2.out.sp.ar.foreign_new HB3.out hlg.1 hlg.2
    have hgk : g ≠ km := by have := HS2.out.sp.fk.1; omega
    refine ⟨g, rfl, fun W hW => ⟨(World.cell?_of_block (hW.same _ hgf hgk).1).trans ?_, (World.cell?_of_block (hW.same _ hgf hgk).1).trans ?_⟩⟩
    · exact (HO3.out.cellAt (k * 2) (by omega)).trans (scell (i := 0) hx rfl)
    · exact (HO3.out.cellAt (k * 2 + 1) (by omega)).trans (scell (i := 1) hx rfl)
  have hrl := (owns_le HO3.out).2
  clear HB3 hk3 HF3 HBK HO3 HA3 HF2 HS2 HK2 HFM b0 b1 HNE
  go_wp2
  go_loopw [10, 35] (fun r i wr => ∃ k : Nat, i = .int .i64 k ∧ k ≤ T.length ∧ ∃ (q : Nat) (τ : Sg), r = .int .i64 q ∧ Hid (SpOk wr B S km A Mo τ) ∧ Hid (To (k * (K + 640)) (k * (K + 640)) σ τ) ∧ Hid (Den τ q (numsF 88 16 65535 (T.take k))) ∧ Hid (KeptS A km w3 wr)) (fun _ i _ => R.length - (intOf i).toNat)
  case atStart => exact ⟨0, rfl, by omega, 0, σ, rfl, HS3, Lib.hid (by rw [Nat.zero_mul]; exact To.refl σ), Lib.hid (Den.zero HS3.out.ok), Lib.hid (KeptS.refl _ _ _)⟩
  case round =>
    obtain ⟨k, rfl, hk, q, τ, rfl, HSR, HTR, HDR, HKR⟩ := hrel
    have htl := HTL.out
    by_cases hlt : k < T.length
    · have hI : (k : Int) < (R.length : Int) := by omega
      obtain ⟨x, hx, hxT, hxM⟩ := HLT.out k hlt
      obtain ⟨g, rfl, hrow⟩ := HROW.out k x hx
      obtain ⟨r0, r1⟩ := hrow wr HKR.out
      obtain ⟨lo, hlo⟩ : ∃ lo : Nat, x.lo = lo := ⟨x.lo.toNat, by have := x.hlo; omega⟩
      obtain ⟨hi, hhi⟩ : ∃ hi : Nat, x.hi = hi := ⟨x.hi.toNat, by have := x.hhi; omega⟩
      have hlb := x.hlo
      have hhb := x.hhi
      have HTK : Hid (numsF 88 16 65535 (T.take (k + 1)) = fun s => numsF 88 16 65535 (T.take k) s || spanF 88 16 lo (min hi 65535) s) := Lib.hid (by
        rw [List.take_add_one, hxT]
        show numsF 88 16 65535 (T.take k ++ [x]) = _
        rw [numsF_snoc, hlo, hhi]
        rfl)
      rw [hlo] at r0 hxM hlb
      rw [hhi] at r1 hhb
      have hl1 : (lo : Int) ≤ 4294967295 := by omega
      have hl2 : (hi : Int) ≤ 4294967295 := by omega
      have hcmp : ¬ (lo : Int) > 65535 := by omega
      have hm1 : (k + 1) * (K + 640) ≤ T.length * (K + 640) := Nat.mul_le_mul_right _ hlt
      have hm2 : (k + 1) * (K + 640) = k * (K + 640) + (K + 640) := by rw [Nat.add_mul, Nat.one_mul]
      have HM := Lib.hid (And.intro hm1 hm2)
      clear hx hxT hlo hhi hrow hm1 hm2 hxM hlb hhb
      go_upto_region 11 with fail
      have hbs := below1 wr (.cells #[.int .u32 lo, .int .u32 hi] 72)
      have hks := blk1 wr (.cells #[.int .u32 lo, .int .u32 hi] 72)
      have HF4 := Lib.hid (HSR.out.sp.ar.foreign_new hbs (Nat.le_refl _) (lt_of_block hks))
      have HN4 : Hid (wr.heap.size ≠ km) := Lib.hid (by have := HSR.out.sp.fk.1; omega)
      have HS4 := Lib.hid (HSR.out.below hbs)
      have HK4 := Lib.hid (HKR.out.trans (HSR.out.kept hbs))
      have HBS : Hid (∀ W, KeptS A km (wr.alloc (.cells #[.int .u32 lo, .int .u32 hi] 72)) W → W.cell? ⟨wr.heap.size, 0, none⟩ = some (.int .u32 lo) ∧ W.cell? ⟨wr.heap.size, 1, none⟩ = some (.int .u32 hi)) := Lib.hid fun W hW => by
        have hk := (hW.same _ HF4.out HN4.out).1.trans hks
        exact ⟨cell_of_row W _ 0 _ _ (0, 0) hk, cell_of_row W _ 1 _ _ (0, 0) hk⟩
      clear hbs hks HF4 HN4 r0 r1
      generalize wr.alloc (.cells #[.int .u32 lo, .int .u32 hi] 72) = w4 at *
      obtain ⟨s0, s1⟩ := HBS.out w4 (KeptS.refl _ _ _)
      obtain ⟨b0, b1⟩ := HBX.out w4 HK4.out
      have hnl := HTR.out.nl
      have hm := HM.out
      have HRA := Lib.hid (show Calls Tryz.prog 63 #[.pointer (some ⟨S, 0, none⟩), .agg #[.int .i64 88, .int .i64 16], .int .u64 lo, .bool true] w4 (SpRes w4 B S km A Mo τ (reachF 88 16 lo true 16) (2 * 16) (2 * 16)) from reach_any HS4.out 88 16 lo true (by omega) (by omega) (by omega) (by omega))
      clear hnl hm
      go_upto_region 13 with ((with_reducible refine HRA.out.mono ?_); rintro e w5 hr5; obtain ⟨q5, c5, he5⟩ := hr5.form; have HR5 := Lib.hid hr5; subst he5; clear hr5)
      rcases HR5.out.two with ⟨rfl, rfl, hlt5, τ5, hs5, ht5⟩ | ⟨r5, τ5, rfl, rfl, hs5, ht5, hd5⟩
      · have HFIN := Lib.hid (SpRes.full (F := numsF 88 16 65535 T) (HK3.out.trans (HK4.out.trans HR5.out.1)) rfl (by have := HTR.out.hl; have := HM.out; omega) hs5 ((HTR.out.trans ht5).mono (show k * (K + 640) + 2 * 16 ≤ T.length * (K + 640) by have := HM.out; omega) (show k * (K + 640) + 2 * 16 ≤ T.length * (K + 640) by have := HM.out; omega)))
        clear hlt5 hs5 ht5
        go_wp2
        go_ret2
        exact HFIN.out
      · have HS5 := Lib.hid hs5
        have HT5 := Lib.hid (HTR.out.trans ht5)
        have HD5 := Lib.hid hd5
        have HDQ5 := Lib.hid (HDR.out.to ht5 HSR.out.ok hs5.ok)
        have HKS5 := Lib.hid HR5.out.1
        have HK5 := Lib.hid (HK4.out.trans HR5.out.1)
        clear hs5 ht5 hd5 HR5 HRA s0 s1 b0 b1
        obtain ⟨s0, s1⟩ := HBS.out w5 HKS5.out
        obtain ⟨b0, b1⟩ := HBX.out w5 HK5.out
        have hnl := HT5.out.nl
        have hm := HM.out
        have HRB := Lib.hid (show Calls Tryz.prog 63 #[.pointer (some ⟨S, 0, none⟩), .agg #[.int .i64 88, .int .i64 16], .int .u64 (min (hi : Int) 65535), .bool false] w5 (SpRes w5 B S km A Mo τ5 (reachF 88 16 (min hi 65535) false 16) (2 * 16) (2 * 16)) from by
          rw [show min (hi : Int) 65535 = ((min hi 65535 : Nat) : Int) by omega]
          exact reach_any HS5.out 88 16 (min hi 65535) false (by omega) (by omega) (by omega) (by omega))
        clear hnl hm
        go_upto_region 16 with ((with_reducible refine HRB.out.mono ?_); rintro e w6 hr6; obtain ⟨q6, c6, he6⟩ := hr6.form; have HR6 := Lib.hid hr6; subst he6; clear hr6)
        rcases HR6.out.two with ⟨rfl, rfl, hlt6, τ6, hs6, ht6⟩ | ⟨r6, τ6, rfl, rfl, hs6, ht6, hd6⟩
        · have HFIN := Lib.hid (SpRes.full (F := numsF 88 16 65535 T) (HK3.out.trans (HK5.out.trans HR6.out.1)) rfl (by have := HT5.out.hl; have := HM.out; omega) hs6 ((HT5.out.trans ht6).mono (show k * (K + 640) + 2 * 16 + 2 * 16 ≤ T.length * (K + 640) by have := HM.out; omega) (show k * (K + 640) + 2 * 16 + 2 * 16 ≤ T.length * (K + 640) by have := HM.out; omega)))
          clear hlt6 hs6 ht6
          go_wp2
          go_ret2
          exact HFIN.out
        · have HS6 := Lib.hid hs6
          have HT6 := Lib.hid (HT5.out.trans ht6)
          have HDQ6 := Lib.hid (HDQ5.out.to ht6 HS5.out.ok hs6.ok)
          have HK6 := Lib.hid (HK5.out.trans HR6.out.1)
          have c6 := hs6.sp.c0
          have hnl := HT6.out.nl
          have hm := HM.out
          have HAN := Lib.hid (show Calls Tryz.prog 43 #[.pointer (some ⟨A.a, 0, none⟩), .int .i64 r5, .int .i64 r6] w6 (SpRes w6 B S km A Mo τ6 (spanF 88 16 lo (min hi 65535)) 576 576) from hs6.and (HD5.out.to ht6 HS5.out.ok hs6.ok) hd6 (a := 576) (b := 576) (Grow.wid hs6.ok.wf.two (spanF_wid 88 16 lo (min hi 65535) (by omega) (by omega))) (by omega))
          clear hs6 ht6 hd6 HR6 HRB s0 s1 b0 b1 hnl hm HS5 HT5 HD5 HDQ5 HKS5 HK5
          go_upto_region 19 with ((with_reducible refine HAN.out.mono ?_); rintro e w7 hr7; obtain ⟨q7, c7, he7⟩ := hr7.form; have HR7 := Lib.hid hr7; subst he7; clear hr7)
          rcases HR7.out.two with ⟨rfl, rfl, hlt7, τ7, hs7, ht7⟩ | ⟨r7, τ7, rfl, rfl, hs7, ht7, hd7⟩
          · have HFIN := Lib.hid (SpRes.full (F := numsF 88 16 65535 T) (HK3.out.trans (HK6.out.trans HR7.out.1)) rfl (by have := HT6.out.hl; have := HM.out; omega) hs7 ((HT6.out.trans ht7).mono (show k * (K + 640) + 2 * 16 + 2 * 16 + 576 ≤ T.length * (K + 640) by have := HM.out; omega) (show k * (K + 640) + 2 * 16 + 2 * 16 + 576 ≤ T.length * (K + 640) by have := HM.out; omega)))
            clear hlt7 hs7 ht7
            go_wp2
            go_ret2
            exact HFIN.out
          · have HS7 := Lib.hid hs7
            have HT7 := Lib.hid (HT6.out.trans ht7)
            have HDQ7 := Lib.hid (HDQ6.out.to ht7 HS6.out.ok hs7.ok)
            have HK7 := Lib.hid (HK6.out.trans HR7.out.1)
            have c7 := hs7.sp.c0
            have hnl := HT7.out.nl
            have hm := HM.out
            have hwk := HK.out (k + 1) (by omega)
            rw [HTK.out] at hwk
            have HOR := Lib.hid (show Calls Tryz.prog 44 #[.pointer (some ⟨A.a, 0, none⟩), .int .i64 q, .int .i64 r7] w7 (SpRes w7 B S km A Mo τ7 (fun s => numsF 88 16 65535 (T.take k) s || spanF 88 16 lo (min hi 65535) s) K K) from hs7.or HDQ7.out hd7 (a := K) (b := K) (Grow.wid hs7.ok.wf.two hwk) (by omega))
            clear hs7 ht7 hd7 HR7 HAN hnl hm hwk HS6 HT6 HDQ6 HK6
            go_upto_region 22 with ((with_reducible refine HOR.out.mono ?_); rintro e w8 hr8; obtain ⟨q8, c8, he8⟩ := hr8.form; have HR8 := Lib.hid hr8; subst he8; clear hr8)
            rcases HR8.out.two with ⟨rfl, rfl, hlt8, τ8, hs8, ht8⟩ | ⟨r8, τ8, rfl, rfl, hs8, ht8, hd8⟩
            · have HFIN := Lib.hid (SpRes.full (F := numsF 88 16 65535 T) (HK3.out.trans (HK7.out.trans HR8.out.1)) rfl (by have := HT7.out.hl; have := HM.out; omega) hs8 ((HT7.out.trans ht8).mono (show k * (K + 640) + 2 * 16 + 2 * 16 + 576 + K ≤ T.length * (K + 640) by have := HM.out; omega) (show k * (K + 640) + 2 * 16 + 2 * 16 + 576 + K ≤ T.length * (K + 640) by have := HM.out; omega)))
              clear hlt8 hs8 ht8
              go_wp2
              go_ret2
              exact HFIN.out
            · have HS8 := Lib.hid hs8
              have HT8 := Lib.hid ((HT7.out.trans ht8).mono (show k * (K + 640) + 2 * 16 + 2 * 16 + 576 + K ≤ (k + 1) * (K + 640) by have := HM.out; omega) (show k * (K + 640) + 2 * 16 + 2 * 16 + 576 + K ≤ (k + 1) * (K + 640) by have := HM.out; omega))
              have HD8 : Hid (Den τ8 r8 (numsF 88 16 65535 (T.take (k + 1)))) := Lib.hid (by rw [HTK.out]; exact hd8)
              have HK8 := Lib.hid (HK7.out.trans HR8.out.1)
              clear hs8 ht8 hd8 HR8 HOR HS7 HT7 HDQ7 HK7
              go_wp2
              exact ⟨⟨k + 1, by go_num, by omega, r8, τ8, rfl, HS8, HT8, HD8, HK8⟩, by simp only [intOf]; omega⟩
    · obtain rfl : k = T.length := by omega
      have hfd := HDR.out
      rw [List.take_length] at hfd
      have HFIN : Hid (SpRes w B S km A Mo σ (numsF 88 16 65535 T) (T.length * (K + 640)) (T.length * (K + 640)) (.returned (.tuple #[.int .i64 q, .int .i64 0])) wr) := Lib.hid ⟨HK3.out.trans HKR.out, .inr ⟨q, τ, rfl, HSR.out, HTR.out, hfd⟩⟩
      clear hfd
      rcases HEND.out with hend | ⟨x, hx, hxl, hlen⟩
      · have hI : ¬ (T.length : Int) < (R.length : Int) := by omega
        clear hend
        go_wp2
        go_ret2
        exact HFIN.out
      · have hI : (T.length : Int) < (R.length : Int) := by omega
        obtain ⟨g, rfl, hrow⟩ := HROW.out T.length x hx
        obtain ⟨r0, r1⟩ := hrow wr HKR.out
        obtain ⟨lo, hlo⟩ : ∃ lo : Nat, x.lo = lo := ⟨x.lo.toNat, by have := x.hlo; omega⟩
        obtain ⟨hi, hhi⟩ : ∃ hi : Nat, x.hi = hi := ⟨x.hi.toNat, by have := x.hhi; omega⟩
        have hlb := x.hlo
        have hhb := x.hhi
        rw [hlo] at r0 hxl hlb
        rw [hhi] at r1 hhb
        have hl1 : (lo : Int) ≤ 4294967295 := by omega
        have hl2 : (hi : Int) ≤ 4294967295 := by omega
        have hcmp : (lo : Int) > 65535 := by omega
        have hbs := below1 wr (.cells #[.int .u32 lo, .int .u32 hi] 72)
        have HS4 := Lib.hid (SpRes.laid HFIN.out hbs)
        have s0 : (wr.alloc (.cells #[.int .u32 lo, .int .u32 hi] 72)).cell? ⟨wr.heap.size, 0, none⟩ = some (.int .u32 lo) := cell_of_row _ _ 0 _ _ (0, 0) (blk1 wr _)
        obtain ⟨b0, b1⟩ := HBX.out _ (HKR.out.trans (HSR.out.kept hbs))
        clear hx hrow hxl hlen hlo hhi hlb hhb hbs
        go_wp2
        go_ret2
        exact HS4.out
end
end Go.Proofs.YtdjikiakcfbklaaGreat

/-
  Joined texts: SpMath, Cmp, Sp1, OpenS, Sp2, SpMath2, SpMath3, Sp3.
-/
import Derived.Test.YtbahehmfhjkgeaaGreatMFilterOrder1
import Derived.Test.YtbahehmfhjkgeaaGreatProg
import Derived.Test.YtbahehmfhjkgeaaGreatShelf4
import Derived.Deep.RegionHeld3
import Derived.Deep.Slices
import Derived.ChangeSame
import Derived.Lib.LaidU8
import Derived.OpenShut
import Derived.WideShapes
import Derived.ChangeMaps5
import Derived.Laws.OwnMore
import Derived.Deep.DeepCutAuto
import Derived.StillTailTactics
/-
  Sets of numbers as spans: the normal form is told by its members. No program in sight.
-/
namespace Go.Proofs.YtbahehmfhjkgeaaGreat

structure SpanV where
  lo : Int
  hi : Int
  hlo : 0 ≤ lo ∧ lo < 4294967296
  hhi : 0 ≤ hi ∧ hi < 4294967296
instance : Inhabited SpanV := ⟨⟨0, 0, by omega, by omega⟩⟩
theorem SpanV.eq {s t : SpanV} (h1 : s.lo = t.lo) (h2 : s.hi = t.hi) : s = t := by
  cases s; cases t; simp_all
def SpanV.inB (s : SpanV) (x : Int) : Bool := decide (s.lo ≤ x) && decide (x ≤ s.hi)
def hasB (L : List SpanV) (x : Int) : Bool := L.any fun s => s.inB x
theorem hasB_iff {L : List SpanV} {x : Int} : hasB L x = true ↔ ∃ s ∈ L, s.lo ≤ x ∧ x ≤ s.hi := by
  simp [hasB, SpanV.inB]
/-- The normal form: rising, none empty, none touching the next. -/
def NF : List SpanV → Prop
  | [] => True
  | s :: r => s.lo ≤ s.hi ∧ (∀ t ∈ r, s.hi + 1 < t.lo) ∧ NF r
theorem NF.ok {L : List SpanV} (h : NF L) : ∀ s ∈ L, s.lo ≤ s.hi := by
  induction L with
  | nil => intro s hs; simp at hs
  | cons t r ih =>
    intro s hs
    rcases List.mem_cons.1 hs with rfl | hs
    · exact h.1
    · exact ih h.2.2 s hs
theorem NF.head {s : SpanV} {r : List SpanV} (h : NF (s :: r)) {x : Int} (hx : hasB (s :: r) x = true) : s.lo ≤ x := by
  obtain ⟨t, ht, h1, h2⟩ := hasB_iff.1 hx
  rcases List.mem_cons.1 ht with rfl | ht
  · exact h1
  · have := h.2.1 t ht
    have := h.1
    omega
theorem NF.unique : ∀ {A B : List SpanV}, NF A → NF B → (∀ x, hasB A x = hasB B x) → A = B
  | [], [], _, _, _ => rfl
  | [], t :: q, _, hB, h => by
    have := h t.lo
    have h2 : hasB (t :: q) t.lo = true := hasB_iff.2 ⟨t, List.mem_cons_self .., by omega, hB.1⟩
    rw [h2] at this
    simp [hasB] at this
  | s :: r, [], hA, _, h => by
    have := h s.lo
    have h2 : hasB (s :: r) s.lo = true := hasB_iff.2 ⟨s, List.mem_cons_self .., by omega, hA.1⟩
    rw [h2] at this
    simp [hasB] at this
  | s :: r, t :: q, hA, hB, h => by
    have a1 : hasB (s :: r) s.lo = true := hasB_iff.2 ⟨s, List.mem_cons_self .., by omega, hA.1⟩
    have b1 : hasB (t :: q) t.lo = true := hasB_iff.2 ⟨t, List.mem_cons_self .., by omega, hB.1⟩
    have l1 := hB.head ((h s.lo).symm.trans a1)
    have l2 := hA.head ((h t.lo).trans b1)
    have hlo : s.lo = t.lo := by omega
    have key : ∀ {s t : SpanV} {r q : List SpanV}, NF (s :: r) → NF (t :: q) → s.lo = t.lo → (∀ x, hasB (s :: r) x = hasB (t :: q) x) → ¬ s.hi < t.hi := by
      intro s t r q hA hB hlo h hlt
      have h1 : hasB (t :: q) (s.hi + 1) = true := hasB_iff.2 ⟨t, List.mem_cons_self .., by have := hA.1; omega, by omega⟩
      obtain ⟨u, hu, h2, h3⟩ := hasB_iff.1 ((h _).trans h1)
      rcases List.mem_cons.1 hu with rfl | hu
      · omega
      · have := hA.2.1 u hu; omega
    have n1 := key hA hB hlo h
    have n2 := key hB hA hlo.symm (fun x => (h x).symm)
    have e : s = t := SpanV.eq hlo (by omega)
    subst e
    have rest : ∀ {s : SpanV} {r : List SpanV}, NF (s :: r) → ∀ x, hasB r x = (hasB (s :: r) x && decide (s.hi < x)) := by
      intro s r hA x
      rw [Bool.eq_iff_iff, Bool.and_eq_true, decide_eq_true_eq, hasB_iff, hasB_iff]
      constructor
      · rintro ⟨u, hu, h1, h2⟩
        have := hA.2.1 u hu
        exact ⟨⟨u, List.mem_cons_of_mem _ hu, h1, h2⟩, by omega⟩
      · rintro ⟨⟨u, hu, h1, h2⟩, h3⟩
        rcases List.mem_cons.1 hu with rfl | hu
        · omega
        · exact ⟨u, hu, h1, h2⟩
    rw [NF.unique hA.2.2 hB.2.2 (fun x => by rw [rest hA x, rest hB x, h x])]

end Go.Proofs.YtbahehmfhjkgeaaGreat

/-
  Walks over package cmp at the types of this seat: Compare and Or.
-/
namespace Go.Proofs.YtbahehmfhjkgeaaGreat
open Go Go.RowKit

/-- -1, 0, 1. -/
def cmpI (x y : Int) : Int := if x < y then -1 else if y < x then 1 else 0
theorem cmpI_lt {x y : Int} (h : x < y) : cmpI x y = -1 := if_pos h
theorem cmpI_gt {x y : Int} (h : y < x) : cmpI x y = 1 := by unfold cmpI; rw [if_neg (by omega), if_pos h]
theorem cmpI_eq (x : Int) : cmpI x x = 0 := by unfold cmpI; rw [if_neg (by omega), if_neg (by omega)]
/-- The first that is not 0. -/
def firstNZ : List Int → Int
  | [] => 0
  | x :: l => if x = 0 then firstNZ l else x
theorem firstNZ_take (l : List Int) (k : Nat) (x : Int) (hx : l[k]? = some x) (h : ∀ j, j < k → l[j]? = some 0) (hn : x ≠ 0) : firstNZ l = x := by
  induction l generalizing k with
  | nil => simp at hx
  | cons y l ih =>
    cases k with
    | zero => simp at hx; subst hx; unfold firstNZ; rw [if_neg hn]
    | succ k =>
      have h0 := h 0 (by omega)
      simp at h0
      subst h0
      unfold firstNZ; rw [if_pos rfl]
      exact ih k (by simpa using hx) (fun j hj => by simpa using h (j + 1) (by omega))
theorem firstNZ_zero (l : List Int) (h : ∀ j, j < l.length → l[j]? = some 0) : firstNZ l = 0 := by
  induction l with
  | nil => rfl
  | cons y l ih =>
    have h0 := h 0 (by simp)
    simp at h0
    subst h0
    unfold firstNZ; rw [if_pos rfl]
    exact ih (fun j hj => by simpa using h (j + 1) (by simp; omega))




set_option maxHeartbeats 400000 in
theorem cmpU32_any (x y : Int) (w : World) : Calls Tryz.prog 191 #[.int .u32 x, .int .u32 y] w fun e w' => e = .returned (.int .i64 (cmpI x y)) ∧ w = w' := by
  have hx : (x != x) = false := by simp
  have hy : (y != y) = false := by simp
  rcases Int.lt_trichotomy x y with h | h | h
  · have hE := Lib.hid (cmpI_lt h)
    go_enter Tryz.func191, Tryz.ntmps191
    go_wp2
    go_ret
    exact ⟨ret_int hE.out.symm, rfl⟩
  · subst h
    have hE := Lib.hid (cmpI_eq x)
    go_enter Tryz.func191, Tryz.ntmps191
    go_wp2
    go_ret
    exact ⟨ret_int hE.out.symm, rfl⟩
  · have hE := Lib.hid (cmpI_gt h)
    have h' : ¬ x < y := by omega
    go_enter Tryz.func191, Tryz.ntmps191
    go_wp2
    go_ret
    exact ⟨ret_int hE.out.symm, rfl⟩

set_option maxHeartbeats 400000 in
theorem cmpOr_any (l : List Int) (v : Value) (w : World) (h : Rd w w.heap.size 1 v l.length (l.map (Value.int .i64))) (hlen : l.length ≤ 4294967296) :
    Calls Tryz.prog 190 #[v] w fun e w' => e = .returned (.int .i64 (firstNZ l)) ∧ w = w' := by
  by_cases h0 : l.length = 0
  · obtain ⟨A, c, rfl, hc⟩ := h.form
    have e1 : l = [] := List.eq_nil_of_length_eq_zero h0
    subst e1
    go_enter Tryz.func190, Tryz.ntmps190
    go_wp2
    refine wp_loop_rounds 1 ?_
    rw [rounds_succ]
    go_wp2
    go_ret
    exact ⟨rfl, rfl⟩
  · obtain ⟨b, off, c, rfl, hc, hbB, hcell⟩ := h.pos (by omega)
    clear h
    go_enter Tryz.func190, Tryz.ntmps190
    go_wp2
    go_loop [8] (fun i => ∃ k : Nat, i = .int .i64 k ∧ k ≤ l.length ∧ ∀ j, j < k → l[j]? = some 0) (fun i => l.length - (intOf i).toNat)
    case atStart => exact ⟨0, rfl, by omega, fun j hj => absurd hj (by omega)⟩
    case round =>
      obtain ⟨k, rfl, hk, hz⟩ := hrel
      have HZ := Lib.hid hz
      clear hz
      by_cases hlt : k < l.length
      · obtain ⟨x, hx⟩ : ∃ x, l[k]? = some x := ⟨_, List.getElem?_eq_getElem hlt⟩
        have ca : w.cell? ⟨b, off + k, none⟩ = some (.int .i64 x) := hcell k _ (by simp [hx])
        have hI : (k : Int) < (l.length : Int) := by omega
        have HX := Lib.hid hx
        have HC := Lib.hid hcell
        clear hx hcell
        by_cases e : x = 0
        · have E := Lib.hid e
          have e' : (x != 0) = false := by simp [e]
          clear e
          go_wp2
          go_round
          case rel =>
            refine ⟨k + 1, by go_num, by omega, fun j hj => ?_⟩
            by_cases hjk : j = k
            · subst hjk; rw [HX.out, E.out]
            · exact HZ.out j (by omega)
          case measure => simp only [intOf]; omega
        · have E := Lib.hid e
          have e' : (x != 0) = true := by simp [e]
          clear e
          go_wp2
          go_ret
          exact ⟨ret_int (firstNZ_take l k x HX.out HZ.out E.out).symm, rfl⟩
      · go_wp2
        go_ret
        exact ⟨ret_int (firstNZ_zero l (fun j hj => HZ.out j (by omega))).symm, rfl⟩

end Go.Proofs.YtbahehmfhjkgeaaGreat

/-
  Walks over the layer of spans: the closure of Form, the sort of spans.
-/
namespace Go.Proofs.YtbahehmfhjkgeaaGreat
open Go Go.RowKit Go.Lib Go.Sort

def SpanV.enc (s : SpanV) : List Value := [.int .u32 s.lo, .int .u32 s.hi]
theorem span_len (s : SpanV) : s.enc.length = 2 := rfl
def cmpS (x y : SpanV) : Int := firstNZ [cmpI x.lo y.lo, cmpI x.hi y.hi]

set_option maxHeartbeats 1000000 in
theorem formClos_any (x y : SpanV) (w : World) :
    Calls Tryz.prog 189 #[.agg #[.int .u32 x.lo, .int .u32 x.hi], .agg #[.int .u32 y.lo, .int .u32 y.hi]] w fun e w' => e = .returned (.int .i64 (cmpS x y)) ∧ ∃ q os', w' = grow (w.drewN q) os' := by
  have hBX : ∃ os, (w.alloc (.cells #[.int .u32 x.lo, .int .u32 x.hi] 41)).alloc (.cells #[.int .u32 y.lo, .int .u32 y.hi] 41) = grow w os := ⟨_, by rw [alloc_eq_grow, alloc_eq_grow, grow_grow]⟩
  have HB := Lib.hid hBX
  clear hBX
  go_enter Tryz.func189, Tryz.ntmps189
  go_wp2
  obtain ⟨k0, k1⟩ := blk2 w (.cells #[.int .u32 x.lo, .int .u32 x.hi] 41) (.cells #[.int .u32 y.lo, .int .u32 y.hi] 41)
  obtain ⟨c0, c1, _, _⟩ := two_cells k0
  obtain ⟨c2, c3, _, _⟩ := two_cells k1
  have hsz := lt_of_block k1
  clear k0 k1
  obtain ⟨os0, hos⟩ := HB.out
  have HOS := Lib.hid hos
  clear hos HB
  generalize (w.alloc (.cells #[.int .u32 x.lo, .int .u32 x.hi] 41)).alloc (.cells #[.int .u32 y.lo, .int .u32 y.hi] 41) = W at *
  go_region_held3 (fun w' => w'.cell? ⟨w.heap.size, 0, none⟩ = some (.int .u32 x.lo) ∧ w'.cell? ⟨w.heap.size, 1, none⟩ = some (.int .u32 x.hi) ∧ w'.cell? ⟨w.heap.size + 1, 0, none⟩ = some (.int .u32 y.lo) ∧ w'.cell? ⟨w.heap.size + 1, 1, none⟩ = some (.int .u32 y.hi)) (go_keep)
    (first | (go_at_call 191; refine (cmpU32_any _ _ _).mono ?_; rintro e w' ⟨rfl, rfl⟩) | (go_at_call 190; refine (cmpOr_any [cmpI x.lo y.lo, cmpI x.hi y.hi] _ _ (Rd.of_blk (cs := #[.int .i64 (cmpI x.lo y.lo), .int .i64 (cmpI x.hi y.hi)]) (t := 3) (heap_drew (heap_alloc_new _ _)) (Nat.le_refl _) rfl) (by simp)).mono ?_; rintro e w' ⟨rfl, rfl⟩))
  all_goals go_wp2
  go_ret
  refine ⟨rfl, 1, os0 ++ #[.cells #[.int .i64 (cmpI x.lo y.lo), .int .i64 (cmpI x.hi y.hi)] 3], ?_⟩
  rw [HOS.out, alloc_eq_grow, grow_grow]
  rfl

end Go.Proofs.YtbahehmfhjkgeaaGreat

/-
  Arguments opened to cells: structs of any depth, slices of structs of any length; no program in sight.
-/
namespace Go.Proofs.YtbahehmfhjkgeaaGreat
open Go Go.RowKit Go.ChangeShapes Go.WideShapes Go.Deep

theorem list_told {α : Type} {Q : Nat → α → Prop} : ∀ n, (∀ i, i < n → ∃ r, Q i r) → ∃ L : List α, L.length = n ∧ ∀ i x, L[i]? = some x → Q i x
  | 0, _ => ⟨[], rfl, fun i x h => by simp at h⟩
  | n + 1, h => by
    obtain ⟨L, hl, hq⟩ := list_told n (fun i hi => h i (by omega))
    obtain ⟨r, hr⟩ := h n (by omega)
    refine ⟨L ++ [r], by simp [hl], fun i x hx => ?_⟩
    by_cases hi : i < L.length
    · rw [List.getElem?_append_left hi] at hx; exact hq i x hx
    · rw [List.getElem?_append_right (by omega)] at hx
      have : i - L.length = 0 := by
        have := (List.getElem?_eq_some_iff.1 hx).1
        simp at this; omega
      rw [this] at hx
      simp at hx
      subst hx
      have : i = n := by omega
      rw [this]; exact hr
theorem flat_inv {α : Type} (enc : α → List Value) (k : Nat) (hk : ∀ x, (enc x).length = k) (L : List α) (j : Nat) (u : Value) (h : (L.flatMap enc)[j]? = some u) :
    ∃ (i jj : Nat) (x : α), j = i * k + jj ∧ jj < k ∧ L[i]? = some x ∧ (enc x)[jj]? = some u := by
  have hj := (List.getElem?_eq_some_iff.1 h).1
  rw [flat_len enc k hk] at hj
  have hk0 : 0 < k := by
    rcases Nat.eq_zero_or_pos k with h0 | h0
    · subst h0; simp at hj
    · exact h0
  have hd : j / k < L.length := Nat.div_lt_of_lt_mul (by rw [Nat.mul_comm]; exact hj)
  have hm := Nat.mod_lt j hk0
  have hdm : j = j / k * k + j % k := by rw [Nat.mul_comm]; exact (Nat.div_add_mod j k).symm
  have hx := List.getElem?_eq_getElem hd
  have hu : (enc L[j / k])[j % k]? = some ((enc L[j / k])[j % k]'(by rw [hk]; exact hm)) := List.getElem?_eq_getElem _
  have hg := flat_get enc k hk L _ _ _ _ hx hu
  rw [← hdm, h] at hg
  exact ⟨j / k, j % k, _, hdm, hm, hx, hu.trans hg.symm⟩

section
variable {H : Type} {enc : TypeId × Value → H} {P : Program} {w : World} {base : Nat} {spare : Nat → Bool} {held : Bool}
theorem sub_at {t : TypeId} {fs : Array Field} {n : Nat} {cs : List Value} {x : DataW H × List MemPlace} (ht : P.underlying t = some (.struct fs)) (h : DataW.trod enc P w base spare held n t cs = some x) :
    cs.length = P.cellsOf t ∧ ∃ m, ∀ (j : Nat) (f : Field) (off : Nat) (ty : TypeId) (k : Nat), fs[j]? = some f → f.offset = off → f.type = ty → P.cellsOf ty = k → ∃ y, DataW.trod enc P w base spare held m ty ((cs.drop off).take k) = some y := by
  obtain ⟨xs, m, _, _, hl, hlen, hf⟩ := DataW.trod_struct ht h
  refine ⟨hl, m, fun j f off ty k hj ho hty hk => ?_⟩
  have h1 := hf j f hj
  have hjl : j < xs.length := by rw [hlen]; exact (Array.getElem?_eq_some_iff.1 hj).1
  subst ho hty hk
  exact ⟨_, h1.trans (List.getElem?_eq_getElem hjl)⟩
/-- A struct as a parameter. -/
theorem open_agg {r : Reach} {b0 : Nat} {t : TypeId} {fs : Array Field} {v : Value} {d : DataW H} {p : List MemPlace} (hs : P.underlying t = some (.struct fs)) (hv : Value.okWide P w r b0 t v) (h : DataW.Trod enc P w base spare held t v d p) :
    ∃ (cs : List Value) (n : Nat), v = .agg cs.toArray ∧ DataW.trod enc P w base spare held n t cs = some (d, p) := by
  obtain ⟨cs, rfl, _⟩ := okWide_struct hs hv
  obtain ⟨n, hf⟩ := h
  exact ⟨cs.toList, n, by simp, hf⟩
/-- A slice whose elements' cells are told by one list each. -/
theorem open_rd {α : Type} {encV : α → List Value} {k : Nat} (hk : ∀ x, (encV x).length = k) (hk0 : 0 < k) {t e : TypeId} {n : Nat} {cs : List Value} {x : DataW H × List MemPlace} (ht : P.underlying t = some (.slice e)) (hC : P.cellsOf e = k)
    (hel : ∀ n cs y, DataW.trod enc P w base spare held n e cs = some y → ∃ r, cs = encV r) (h : DataW.trod enc P w base spare held n t cs = some x) :
    ∃ (v : Value) (L : List α), cs = [v] ∧ Rd w w.heap.size k v L.length (L.flatMap encV) ∧ L.length ≤ maxLen := by
  rcases open_slice ht h with ⟨h0, _⟩ | ⟨a, len, cap, m, n', D, Pl, hcs, _, hl, hm, hmm, _, hi⟩
  · exact ⟨_, [], h0, ⟨none, 0, rfl, by simp, by simp, fun h => absurd h (by simp)⟩, by simp⟩
  · have hlm : len ≤ m := by rw [hmm]; split <;> omega
    obtain ⟨L, hL, hq⟩ := list_told (Q := fun i r => w.cells? base (a.add (i * k)) k = some (encV r)) len (fun i hi' => by
      obtain ⟨cs', hc, ht'⟩ := hi i (by omega)
      obtain ⟨r, hr⟩ := hel _ _ _ ht'
      rw [hC] at hc
      exact ⟨r, by rw [hc, hr]⟩)
    refine ⟨_, L, hcs, ⟨some a, cap, by rw [hL], by omega, flat_len encV k hk L, fun hpos => ?_⟩, by omega⟩
    obtain ⟨b, off, sp⟩ := a
    have hz : ∃ u, w.cell? ⟨b, off, sp⟩ = some u := by
      obtain ⟨r, hr⟩ : ∃ r, L[0]? = some r := ⟨_, List.getElem?_eq_getElem hpos⟩
      obtain ⟨_, _, hat⟩ := World.cells?_some (hq 0 r hr)
      have h1 := hat 0 hk0
      have h2 : (encV r)[0]? = some ((encV r)[0]'(by rw [hk]; exact hk0)) := List.getElem?_eq_getElem _
      rw [h2] at h1
      refine ⟨_, Eq.trans ?_ h1⟩
      simp [Addr.add]
    obtain ⟨u0, hu0⟩ := hz
    obtain rfl := Go.Proofs.cell_spot hu0
    refine ⟨b, off, rfl, ?_, fun j u hu => ?_⟩
    · rcases Nat.lt_or_ge b w.heap.size with h | h
      · exact h
      · have hn : w.heap[b]? = none := by simp [h]
        simp [World.cell?, hn] at hu0
    · obtain ⟨i, jj, r, hj, hjj, hr, hu'⟩ := flat_inv encV k hk L j u hu
      obtain ⟨_, _, hat⟩ := World.cells?_some (hq i r hr)
      have h1 := hat jj hjj
      rw [hu'] at h1
      have e : (Addr.add ⟨b, off, none⟩ (i * k)).add jj = ⟨b, off + j, none⟩ := by
        rw [hj]; simp only [Addr.add]
        split <;> split <;> simp_all <;> omega
      rw [← e]; exact h1
end

end Go.Proofs.YtbahehmfhjkgeaaGreat

/-
  Rows of structs and the shelf's sort: cells told both ways; the sort of spans.
-/
namespace Go.Proofs.YtbahehmfhjkgeaaGreat
open Go Go.RowKit Go.Lib Go.Sort

section
variable {α : Type} [Inhabited α] {enc : α → List Value} {k : Nat}
theorem flatK_at (hk : ∀ x, (enc x).length = k) {L : List α} {j : Nat} {u : Value} (h : (L.flatMap enc)[j]? = some u) : (flatK enc k L.toArray)[j]! = u := by
  have hj := (List.getElem?_eq_some_iff.1 h).1
  rw [flat_len enc k hk] at hj
  rw [get_flatK _ _ _ _ (by simpa using hj)]
  obtain ⟨i, jj, x, rfl, hjj, hx, hu⟩ := flat_inv enc k hk L j u h
  have e1 : (i * k + jj) / k = i := by
    rw [Nat.mul_comm, Nat.mul_add_div (by omega), Nat.div_eq_of_lt hjj, Nat.add_zero]
  have e2 : (i * k + jj) % k = jj := by
    rw [Nat.mul_comm, Nat.mul_add_mod, Nat.mod_eq_of_lt hjj]
  rw [e1, e2]
  have hi := (List.getElem?_eq_some_iff.1 hx)
  have e3 : L.toArray[i]! = x := by
    have := get_bang hi.1
    rw [hx] at this
    injection this with this
    rw [this]
    simp
  rw [e3]
  have := get_bang (List.getElem?_eq_some_iff.1 hu).1
  rw [hu] at this
  injection this with this
  exact this.symm
theorem holdsK_of (hk : ∀ x, (enc x).length = k) {L : List α} {w : World} {g off : Nat} (h : ∀ j u, (L.flatMap enc)[j]? = some u → w.cell? ⟨g, off + j, none⟩ = some u) (hf : ∀ j, w.frozen? ⟨g, j, none⟩ = false) : HoldsK enc k w g off L.toArray := by
  intro j hj
  rw [size_flatK] at hj
  have hj' : j < (L.flatMap enc).length := by rw [flat_len enc k hk]; simpa using hj
  refine ⟨?_, hf _⟩
  rw [flatK_at hk (List.getElem?_eq_getElem hj')]
  exact h j _ (List.getElem?_eq_getElem hj')
theorem cells_of_holdsK (hk : ∀ x, (enc x).length = k) {d : Array α} {w : World} {g off : Nat} (h : HoldsK enc k w g off d) : ∀ j u, (d.toList.flatMap enc)[j]? = some u → w.cell? ⟨g, off + j, none⟩ = some u := by
  intro j u hu
  have hj := (List.getElem?_eq_some_iff.1 hu).1
  rw [flat_len enc k hk] at hj
  have := (h j (by rw [size_flatK]; simpa using hj)).1
  have e := flatK_at hk (L := d.toList) hu
  rw [show d.toList.toArray = d by simp] at e
  rw [e] at this
  exact this
theorem below_sortWorldK {w : World} {B g off m : Nat} {d : Array α} {os : Array Obj} (hg : B ≤ g) (hB : B ≤ w.heap.size) : RowKit.Below B w (sortWorldK enc k w g off m d os) := by
  refine ⟨rfl, rfl, rfl, ?_, fun i hi => ?_⟩
  · simp [sortWorldK, grow, putRowK, putRow, mapBlock]
  · have hne : i ≠ g := by omega
    simp only [sortWorldK, grow, putRowK, putRow, mapBlock]
    rw [Array.getElem?_append_left (by simp; omega), Array.getElem?_modify, if_neg (Ne.symm hne)]
    rfl
end

theorem ltS (x y : SpanV) : ltOf cmpS x y = decide (x.lo < y.lo ∨ (x.lo = y.lo ∧ x.hi < y.hi)) := by
  unfold ltOf cmpS
  rcases Int.lt_trichotomy x.lo y.lo with h | h | h
  · rw [cmpI_lt h]
    simp [firstNZ, h]
  · rw [h, cmpI_eq]
    rcases Int.lt_trichotomy x.hi y.hi with h2 | h2 | h2
    · rw [cmpI_lt h2]; simp [firstNZ, h2]
    · rw [h2, cmpI_eq]; simp [firstNZ]
    · rw [cmpI_gt h2]; simp [firstNZ]; omega
  · rw [cmpI_gt h]
    simp [firstNZ]; omega
theorem swoS : SWO (ltOf cmpS) where
  irrefl x := by rw [ltS]; simp
  trans x y z h1 h2 := by rw [ltS] at *; simp at *; omega
  ntrans x y z h1 h2 := by rw [ltS] at *; simp at *; omega

def scells (L : List SpanV) : List Value := L.flatMap SpanV.enc
theorem scell {L : List SpanV} {k i : Nat} {x : SpanV} {v : Value} (hr : L[k]? = some x) (hv : x.enc[i]? = some v) : (scells L)[k * 2 + i]? = some v := flat_get SpanV.enc 2 span_len L k i x v hr hv
def SortPost (L : List SpanV) (v : Value) (base : Nat) (w : World) (e : Ending) (w' : World) : Prop :=
  e = .returned (.tuple #[]) ∧ ∃ L' : List SpanV, L'.Perm L ∧ L'.Pairwise (fun x y => x.lo ≤ y.lo) ∧ Rd w' w'.heap.size 2 v L'.length (scells L') ∧ ∀ B, B ≤ base → B ≤ w.heap.size → RowKit.Below B w w'

theorem sortSpan_any (L : List SpanV) (v : Value) (base : Nat) (w : World) (hown : w.ownsRow base 41 2 v L.length (scells L)) (hlen : L.length < 4611686018427387904) :
    Calls Tryz.prog 188 #[v, .func (.func 189) #[] #[]] w fun e w' => SortPost L v base w e w' := by
  rcases Nat.eq_zero_or_pos L.length with h0 | h0
  · obtain rfl : L = [] := List.eq_nil_of_length_eq_zero h0
    obtain ⟨A, c, rfl, _⟩ := owns_form hown
    refine (AnyF.slices_SortFunc_none Tryz.sortSpan A c (.func (.func 189) #[] #[]) w).mono fun e w' ⟨he, hw⟩ => ⟨he, [], List.Perm.refl _, List.Pairwise.nil, ?_, fun B _ _ => ?_⟩
    · subst hw; exact Rd.of_own hown
    · subst hw; exact RowKit.Below.refl _ _
  · obtain ⟨A, c, rfl, hA⟩ := owns_form hown
    obtain ⟨g, rfl⟩ := hA h0
    have hg := hown.lt g rfl
    have hH : HoldsK SpanV.enc 2 w g 0 L.toArray := holdsK_of span_len (fun j u hu => by
      have := hown.cells (g := g) rfl j u hu
      have e : (⟨g, 0, none⟩ : Addr).add j = ⟨g, 0 + j, none⟩ := by simp [Addr.add]; omega
      rw [← e]; exact this) (fun j => hown.frozenAt j)
    have hcon := AnyQ.slices_SortFunc Tryz.sortSpan 2 Tryz.isAgg41 Tryz.sizeOf41 SpanV.enc span_len (fun x v hv => by simp [SpanV.enc] at hv; rcases hv with rfl | rfl <;> rfl) cmpS swoS 189 #[] g 0 c L.toArray w (enters_of Tryz.func189 (by kernel_rfl) rfl) (fun _ _ _ _ x y => formClos_any x y _) hH hg.2 (by simpa using hlen)
    rw [List.size_toArray] at hcon
    change Calls Tryz.prog 188 _ _ _ at hcon
    refine hcon.mono ?_
    rintro e w' ⟨he, d', n, os, hp, hs, hw⟩
    have hsz : d'.size = L.length := by simpa using hp.1
    subst hw
    have hK := holdsK_sortWorldK_c (enc := SpanV.enc) (k := 2) (w := w) (blk := g) (off := 0) L.toArray d' n os hH hg.2 (by simpa using hsz)
    refine ⟨he, d'.toList, ?_, ?_, ⟨_, c, ?_, ?_, ?_, fun _ => ⟨g, 0, rfl, ?_, fun j u hu => ?_⟩⟩, fun B hB hB2 => below_sortWorldK (by omega) hB2⟩
    · have := hp.2.2
      rw [← hsz] at this
      have e1 : (d'.extract 0 d'.size).toList = d'.toList := by simp
      have e2 : (L.toArray.extract 0 d'.size).toList = L := by rw [hsz]; simp
      rw [e1, e2] at this
      exact this
    · rw [List.pairwise_iff_getElem]
      intro i j hi hj hij
      have h1 := hs i j (Nat.zero_le _) hij (by simpa [hsz] using hj)
      rw [ltS] at h1
      have e1 : d'[i]! = d'.toList[i] := by
        have : i < d'.size := by simpa using hi
        simp [this]
      have e2 : d'[j]! = d'.toList[j] := by
        have : j < d'.size := by simpa using hj
        simp [this]
      rw [e1, e2] at h1
      simp at h1
      simp
      omega
    · have e1 : d'.toList.length = L.length := by simpa using hsz
      rw [e1]
    · have := hown
      obtain ⟨_, hq⟩ := this
      rcases hq with ⟨h1, _⟩ | ⟨g', cap, cur, h1, _, _, h2, _⟩
      · cases h1
      · injection h1 with _ _ h1
        rw [Array.length_toList, hsz, h1]
        exact h2
    · exact flat_len SpanV.enc 2 span_len _
    · have := size_sortWorldK_c (enc := SpanV.enc) (k := 2) (w := w) (blk := g) (off := 0) n d' os
      omega
    · exact cells_of_holdsK span_len hK j u hu

end Go.Proofs.YtbahehmfhjkgeaaGreat

/-
  Sets of numbers as spans: the list in normal form with given members; one step of the merging. No program in sight.
-/
namespace Go.Proofs.YtbahehmfhjkgeaaGreat

open Classical in
/-- The normal form of a set of numbers (if it has one). -/
noncomputable def theSet (P : Int → Bool) : List SpanV := if h : ∃ R : List SpanV, NF R ∧ ∀ x, hasB R x = P x then h.choose else []
theorem theSet_eq {P : Int → Bool} {R : List SpanV} (h : NF R) (hm : ∀ x, hasB R x = P x) : theSet P = R := by
  have he : ∃ R : List SpanV, NF R ∧ ∀ x, hasB R x = P x := ⟨R, h, hm⟩
  unfold theSet
  rw [dif_pos he]
  exact NF.unique he.choose_spec.1 h (fun x => (he.choose_spec.2 x).trans (hm x).symm)
theorem inB_iff {s : SpanV} {x : Int} : s.inB x = true ↔ s.lo ≤ x ∧ x ≤ s.hi := by simp [SpanV.inB]
theorem hasB_append (A B : List SpanV) (x : Int) : hasB (A ++ B) x = (hasB A x || hasB B x) := by simp [hasB]
theorem hasB_one (s : SpanV) (x : Int) : hasB [s] x = s.inB x := by simp [hasB]
theorem hasB_perm {A B : List SpanV} (h : A.Perm B) (x : Int) : hasB A x = hasB B x := by
  rw [Bool.eq_iff_iff, hasB_iff, hasB_iff]
  constructor
  · rintro ⟨s, hs, h1⟩; exact ⟨s, h.mem_iff.1 hs, h1⟩
  · rintro ⟨s, hs, h1⟩; exact ⟨s, h.mem_iff.2 hs, h1⟩
theorem NF.snoc : ∀ {A : List SpanV} {t : SpanV}, NF (A ++ [t]) ↔ NF A ∧ t.lo ≤ t.hi ∧ ∀ a ∈ A, a.hi + 1 < t.lo
  | [], t => by simp [NF]
  | s :: A, t => by
    have ih := @NF.snoc A t
    show (s.lo ≤ s.hi ∧ (∀ u ∈ A ++ [t], s.hi + 1 < u.lo) ∧ NF (A ++ [t])) ↔ _
    rw [ih]
    constructor
    · rintro ⟨h1, h2, h3, h4, h5⟩
      refine ⟨⟨h1, fun u hu => h2 u (List.mem_append_left _ hu), h3⟩, h4, fun a ha => ?_⟩
      rcases List.mem_cons.1 ha with rfl | ha
      · exact h2 t (List.mem_append_right _ (List.mem_singleton.2 rfl))
      · exact h5 a ha
    · rintro ⟨⟨h1, h2, h3⟩, h4, h5⟩
      refine ⟨h1, fun u hu => ?_, h3, h4, fun a ha => h5 a (List.mem_cons_of_mem _ ha)⟩
      rcases List.mem_append.1 hu with hu | hu
      · exact h2 u hu
      · obtain rfl := List.mem_singleton.1 hu
        exact h5 s (List.mem_cons_self ..)
/-- A span that reaches farther. -/
def SpanV.reach (t s : SpanV) : SpanV := ⟨t.lo, max t.hi s.hi, t.hlo, by have := t.hhi; have := s.hhi; omega⟩
theorem merge_in {A : List SpanV} {t s : SpanV} (h : NF (A ++ [t])) (hs : s.lo ≤ s.hi) (hts : t.lo ≤ s.lo) (hm : s.lo ≤ t.hi + 1) :
    NF (A ++ [t.reach s]) ∧ ∀ x, hasB (A ++ [t.reach s]) x = (hasB (A ++ [t]) x || s.inB x) := by
  obtain ⟨h1, h2, h3⟩ := NF.snoc.1 h
  refine ⟨NF.snoc.2 ⟨h1, ?_, h3⟩, fun x => ?_⟩
  · show t.lo ≤ max t.hi s.hi
    omega
  · rw [hasB_append, hasB_append, hasB_one, hasB_one, Bool.or_assoc]
    congr 1
    rw [Bool.eq_iff_iff, Bool.or_eq_true, inB_iff, inB_iff, inB_iff]
    show (t.lo ≤ x ∧ x ≤ max t.hi s.hi) ↔ _
    omega
theorem merge_new {A : List SpanV} {t s : SpanV} (h : NF (A ++ [t])) (hs : s.lo ≤ s.hi) (hm : t.hi + 1 < s.lo) : NF (A ++ [t] ++ [s]) := by
  obtain ⟨h1, h2, h3⟩ := NF.snoc.1 h
  refine NF.snoc.2 ⟨h, hs, fun a ha => ?_⟩
  rcases List.mem_append.1 ha with ha | ha
  · have := h3 a ha; omega
  · obtain rfl := List.mem_singleton.1 ha
    exact hm

end Go.Proofs.YtbahehmfhjkgeaaGreat

/-
  Sets of numbers as spans: the merging of a sorted list; what is in both; what is in none. No program in sight.
-/
namespace Go.Proofs.YtbahehmfhjkgeaaGreat

theorem hasB_nil (x : Int) : hasB [] x = false := rfl
theorem hasB_take_succ {L : List SpanV} {j : Nat} {s : SpanV} (h : L[j]? = some s) (x : Int) : hasB (L.take (j + 1)) x = (hasB (L.take j) x || s.inB x) := by
  rw [List.take_add_one, h, hasB_append]
  show _ = (_ || s.inB x)
  congr 1
  simp [hasB]
/-- One step of the merging. -/
def mstep (O : List SpanV) (s : SpanV) : List SpanV :=
  match O.getLast? with
  | none => [s]
  | some t => if s.lo ≤ t.hi + 1 then O.dropLast ++ [t.reach s] else O ++ [s]
theorem mstep_nil (s : SpanV) : mstep [] s = [s] := rfl
theorem mstep_in {A : List SpanV} {t s : SpanV} (h : s.lo ≤ t.hi + 1) : mstep (A ++ [t]) s = A ++ [t.reach s] := by
  simp [mstep, h]
theorem mstep_new {A : List SpanV} {t s : SpanV} (h : ¬ s.lo ≤ t.hi + 1) : mstep (A ++ [t]) s = A ++ [t] ++ [s] := by
  simp [mstep, h]
def mfold (L : List SpanV) : List SpanV := L.foldl mstep []
theorem mfold_succ {L : List SpanV} {j : Nat} {s : SpanV} (h : L[j]? = some s) : mfold (L.take (j + 1)) = mstep (mfold (L.take j)) s := by
  rw [List.take_add_one, h]
  simp [mfold, List.foldl_append]
theorem snoc_cases {α : Type} (O : List α) : O = [] ∨ ∃ A t, O = A ++ [t] := by
  rcases List.eq_nil_or_concat O with h | ⟨A, t, h⟩
  · exact .inl h
  · exact .inr ⟨A, t, by simpa using h⟩
theorem mfold_ok {L : List SpanV} (hs : L.Pairwise (fun x y => x.lo ≤ y.lo)) (hv : ∀ s ∈ L, s.lo ≤ s.hi) :
    ∀ j, j ≤ L.length → NF (mfold (L.take j)) ∧ (∀ x, hasB (mfold (L.take j)) x = hasB (L.take j) x) ∧ ∀ t ∈ mfold (L.take j), ∀ s ∈ L.drop j, t.lo ≤ s.lo := by
  intro j
  induction j with
  | zero => intro _; exact ⟨trivial, fun x => rfl, fun t ht => by simp [mfold] at ht⟩
  | succ j ih =>
    intro hj
    obtain ⟨h1, h2, h3⟩ := ih (by omega)
    obtain ⟨s, hsj⟩ : ∃ s, L[j]? = some s := ⟨_, List.getElem?_eq_getElem (by omega)⟩
    have hsm : s ∈ L := List.mem_of_getElem? hsj
    have hd : L.drop j = s :: L.drop (j + 1) := by
      obtain ⟨hj', e⟩ := List.getElem?_eq_some_iff.1 hsj
      rw [List.drop_eq_getElem_cons hj', e]
    have hsrest : ∀ u ∈ L.drop (j + 1), s.lo ≤ u.lo := by
      have := hs.sublist (List.drop_sublist j L)
      rw [hd] at this
      exact (List.pairwise_cons.1 this).1
    have h3' : ∀ t ∈ mfold (L.take j), t.lo ≤ s.lo := fun t ht => h3 t ht s (by rw [hd]; exact List.mem_cons_self ..)
    have h3'' : ∀ t ∈ mfold (L.take j), ∀ u ∈ L.drop (j + 1), t.lo ≤ u.lo := fun t ht u hu => h3 t ht u (by rw [hd]; exact List.mem_cons_of_mem _ hu)
    rw [mfold_succ hsj]
    have hmem : ∀ x, hasB (L.take (j + 1)) x = (hasB (mfold (L.take j)) x || s.inB x) := fun x => by rw [hasB_take_succ hsj, h2 x]
    generalize hO : mfold (L.take j) = O at *
    rcases snoc_cases O with rfl | ⟨A, t, rfl⟩
    · rw [mstep_nil]
      refine ⟨⟨hv s hsm, fun t ht => by simp at ht, trivial⟩, fun x => by rw [hmem, hasB_one, hasB_nil, Bool.false_or], fun t ht u hu => ?_⟩
      obtain rfl := List.mem_singleton.1 ht
      exact hsrest u hu
    · have htl : t.lo ≤ s.lo := h3' t (List.mem_append_right _ (List.mem_singleton.2 rfl))
      by_cases hm : s.lo ≤ t.hi + 1
      · rw [mstep_in hm]
        obtain ⟨k1, k2⟩ := merge_in h1 (hv s hsm) htl hm
        refine ⟨k1, fun x => by rw [k2, hmem], fun u hu v hv' => ?_⟩
        rcases List.mem_append.1 hu with hu | hu
        · exact h3'' u (List.mem_append_left _ hu) v hv'
        · obtain rfl := List.mem_singleton.1 hu
          exact h3'' t (List.mem_append_right _ (List.mem_singleton.2 rfl)) v hv'
      · rw [mstep_new hm]
        refine ⟨merge_new h1 (hv s hsm) (by omega), fun x => by rw [hasB_append, hasB_one, hmem], fun u hu v hv' => ?_⟩
        rcases List.mem_append.1 hu with hu | hu
        · exact h3'' u hu v hv'
        · obtain rfl := List.mem_singleton.1 hu
          exact hsrest v hv'
/-- The form of a list: what the program's three steps make is the list in normal form with the same members. -/
def okS (s : SpanV) : Bool := decide (s.lo ≤ s.hi)
theorem hasB_filter (L : List SpanV) (x : Int) : hasB (L.filter okS) x = hasB L x := by
  rw [Bool.eq_iff_iff, hasB_iff, hasB_iff]
  constructor
  · rintro ⟨s, hs, h1⟩; exact ⟨s, (List.mem_filter.1 hs).1, h1⟩
  · rintro ⟨s, hs, h1, h2⟩; exact ⟨s, List.mem_filter.2 ⟨hs, by simp [okS]; omega⟩, h1, h2⟩
noncomputable def formOf (L : List SpanV) : List SpanV := theSet (hasB L)
theorem formOf_eq {L L' : List SpanV} (hp : L'.Perm (L.filter okS)) (hs : L'.Pairwise (fun x y => x.lo ≤ y.lo)) :
    formOf L = mfold L' ∧ NF (mfold L') ∧ ∀ x, hasB (mfold L') x = hasB L x := by
  have hv : ∀ s ∈ L', s.lo ≤ s.hi := fun s h => by
    have := (List.mem_filter.1 (hp.mem_iff.1 h)).2
    simpa [okS] using this
  obtain ⟨h1, h2, _⟩ := mfold_ok hs hv L'.length (Nat.le_refl _)
  rw [List.take_length] at h1 h2
  have h3 : ∀ x, hasB (mfold L') x = hasB L x := fun x => by rw [h2, hasB_perm hp, hasB_filter]
  exact ⟨theSet_eq h1 h3, h1, h3⟩
theorem mfold_len (L : List SpanV) : ∀ j, (mfold (L.take j)).length ≤ j := by
  intro j
  induction j with
  | zero => simp [mfold]
  | succ j ih =>
    rcases Nat.lt_or_ge j L.length with h | h
    · rw [mfold_succ (List.getElem?_eq_getElem h)]
      generalize mfold (L.take j) = O at *
      rcases snoc_cases O with rfl | ⟨A, t, rfl⟩
      · simp [mstep_nil]
      · by_cases hm : (L[j]).lo ≤ t.hi + 1
        · rw [mstep_in hm]; simp at *; omega
        · rw [mstep_new hm]; simp at *; omega
    · have e : L.take (j + 1) = L.take j := by rw [List.take_of_length_le h, List.take_of_length_le (by omega)]
      rw [e]; omega
/-- What two spans have in common. -/
def meet1 (s t : SpanV) : List SpanV := if max s.lo t.lo ≤ min s.hi t.hi then [⟨max s.lo t.lo, min s.hi t.hi, by have := s.hlo; have := t.hlo; omega, by have := s.hhi; have := t.hhi; omega⟩] else []
def meetRow (s : SpanV) (B : List SpanV) : List SpanV := B.flatMap (meet1 s)
def meetAll (A B : List SpanV) : List SpanV := A.flatMap (fun s => meetRow s B)
/-- What is not in a list, up to most: step by step over its form. -/
def gapOf (at' most : Int) (s : SpanV) : List SpanV :=
  if h : 0 ≤ at' ∧ at' < s.lo ∧ at' ≤ most ∧ most < 4294967296 then [⟨at', min (s.lo - 1) most, by omega, by omega⟩] else []
def natAt (F : List SpanV) : Int := match F.getLast? with | none => 0 | some s => s.hi + 1
theorem NF.take {F : List SpanV} (h : NF F) : ∀ k, NF (F.take k) := by
  induction F with
  | nil => intro k; simp [NF]
  | cons s r ih =>
    intro k
    cases k with
    | zero => trivial
    | succ k => exact ⟨h.1, fun t ht => h.2.1 t (List.mem_of_mem_take ht), ih h.2.2 k⟩
def notTo (most : Int) (F : List SpanV) : Nat → List SpanV
  | 0 => []
  | k + 1 => notTo most F k ++ (match F[k]? with | some s => gapOf (natAt (F.take k)) most s | none => [])
def lastOf (at' most : Int) : List SpanV := if h : 0 ≤ at' ∧ at' ≤ most ∧ most < 4294967296 then [⟨at', most, by omega, by omega⟩] else []
def notAll (most : Int) (F : List SpanV) : List SpanV := notTo most F F.length ++ lastOf (natAt F) most
/-- What is in none of a list, up to most. -/
def notP (most : Int) (L : List SpanV) (x : Int) : Bool := decide (0 ≤ x) && decide (x ≤ most) && !hasB L x
end Go.Proofs.YtbahehmfhjkgeaaGreat

/-
  The walk of spans.Form.
-/
namespace Go.Proofs.YtbahehmfhjkgeaaGreat
open Go Go.RowKit Go.Lib Go.Sort

theorem Tryz.infoSpan : (Tryz.prog.info? 41).map (fun i => (i.zero, i.size, i.bytes)) = some (some (.agg #[.int .u32 0, .int .u32 0]), 2, 8) := by kernel_rfl
theorem below_drew1 {B : Nat} {a w : World} (h : Below B a w) : Below B a w.drew := ⟨h.os, h.tape, h.output, h.size, h.block⟩
/-- A new list of spans is handed back; nothing that was there has turned. -/
def SetRes (R : List SpanV) (w : World) (e : Ending) (w' : World) : Prop :=
  ∃ v, e = .returned v ∧ w'.ownsRow w.heap.size 41 2 v R.length (scells R) ∧ Below w.heap.size w w'
theorem enc_one (s : SpanV) : ∀ u ∈ s.enc, u.oneCell' = true := by
  intro u hu
  simp only [SpanV.enc, List.mem_cons, List.not_mem_nil, or_false] at hu
  rcases hu with rfl | rfl <;> rfl
theorem scells_len (L : List SpanV) : (scells L).length = L.length * 2 := flat_len SpanV.enc 2 span_len L
theorem scells_snoc (A : List SpanV) (s : SpanV) : scells (A ++ [s]) = scells A ++ s.enc := by simp [scells]
theorem filter_succ {L : List SpanV} {j : Nat} {s : SpanV} (h : L[j]? = some s) : (L.take (j + 1)).filter okS = (L.take j).filter okS ++ (if s.lo ≤ s.hi then [s] else []) := by
  rw [List.take_add_one, h, List.filter_append]
  congr 1
  by_cases hs : s.lo ≤ s.hi <;> simp [okS, hs]
theorem filter_take_len (L : List SpanV) (j : Nat) : ((L.take j).filter okS).length ≤ j := by
  have := List.length_filter_le okS (L.take j)
  simp at this; omega
theorem scells_set {A : List SpanV} {t y : SpanV} (h : y.lo = t.lo) : (scells (A ++ [t])).set (A.length * 2 + 1) (.int .u32 y.hi) = scells (A ++ [y]) := by
  rw [scells_snoc, scells_snoc, List.set_append_right _ _ (by rw [scells_len]; omega), scells_len, show A.length * 2 + 1 - A.length * 2 = 1 by omega]
  show scells A ++ [.int .u32 t.lo, .int .u32 y.hi] = scells A ++ [.int .u32 y.lo, .int .u32 y.hi]
  rw [h]

set_option maxRecDepth 100000 in
set_option maxHeartbeats 4000000 in
theorem form_any (L : List SpanV) (vl : Value) (w : World) (hl : Rd w w.heap.size 2 vl L.length (scells L)) (hlen : L.length ≤ 1099511627776) :
    Calls Tryz.prog 99 #[vl] w (SetRes (formOf L) w) := by
  obtain ⟨i0, hi, hz0, hz1, hz2⟩ := info_parts Tryz.infoSpan
  obtain ⟨A0, c0, rfl, hc0⟩ := hl.form
  have HL := Lib.hid hl
  clear hl
  go_enter Tryz.func99, Tryz.ntmps99
  go_wp2
  go_loopw [3, 12] (fun v i wr => ∃ j : Nat, i = .int .i64 j ∧ j ≤ L.length ∧ wr.ownsRow w.heap.size 41 2 v ((L.take j).filter okS).length (scells ((L.take j).filter okS)) ∧ Below w.heap.size w wr) (fun _ i _ => L.length - (intOf i).toNat)
  case atStart => exact ⟨0, rfl, by omega, World.ownsRow_nil _ _ _ _, Below.refl _ _⟩
  case round =>
    obtain ⟨j, rfl, hj, hown, hnx⟩ := hrel
    by_cases hlt : j < L.length
    · have hI : (j : Int) < (L.length : Int) := by omega
      obtain ⟨s, hs⟩ : ∃ s, L[j]? = some s := ⟨_, List.getElem?_eq_getElem hlt⟩
      obtain ⟨b, off, c', hv, _, hbB, hcell⟩ := (HL.out.below hnx).posAt (by omega)
      injection hv with hv1 _ hv3
      subst hv1 hv3
      have f0 : wr.cell? ⟨b, off + j * 2, none⟩ = some (.int .u32 s.lo) := hcell j 0 _ (scell hs rfl)
      have f1 : wr.cell? ⟨b, off + j * 2 + 1, none⟩ = some (.int .u32 s.hi) := hcell j 1 _ (scell hs rfl)
      have hfl := filter_take_len L j
      have hsz := hnx.size
      clear hcell
      have hstep := filter_succ hs
      have hbox := below1 wr (.cells #[.int .u32 s.lo, .int .u32 s.hi] 41)
      by_cases hok : s.lo ≤ s.hi
      · rw [if_pos hok] at hstep
        go_wp2_with (at_builtin; refine wpList_push rfl _ _ 68 rfl 41 i0 _ 2 8 Tryz.underlying68 hi hz0 hz1 hz2 rfl (by decide) (by decide) [.int .u32 s.lo, .int .u32 s.hi] rfl rfl (by simp) (hown.alloc _) rfl (enc_one s) (by omega) (by simp; omega) (hnx.alloc hsz _) (Nat.le_refl _) ?_; intro v2 w2 hown2 hb2)
        refine ⟨⟨j + 1, rfl, by omega, ?_, hb2⟩, by simp only [intOf]; omega⟩
        rw [hstep, scells_snoc, List.length_append]
        exact hown2
      · rw [if_neg hok, List.append_nil] at hstep
        go_wp2
        exact ⟨⟨j + 1, rfl, by omega, by rw [hstep]; exact hown.alloc _, hnx.alloc hsz _⟩, by simp only [intOf]; omega⟩
    · have hI : ¬ (j : Int) < (L.length : Int) := by omega
      obtain rfl : j = L.length := by omega
      rw [List.take_length] at hown
      have hfl := List.length_filter_le okS L
      have hsz := hnx.size
      go_wp2_with fail
      refine (sortSpan_any _ _ _ _ hown (by omega)).mono ?_
      rintro e w1 ⟨rfl, L', hperm, hpw, hR, hbel⟩
      have hb1 : Below w.heap.size w w1 := hnx.trans (hbel _ (Nat.le_refl _) hsz)
      have hlen' : L'.length ≤ L.length := by rw [hperm.length_eq]; exact hfl
      have hF := formOf_eq hperm hpw
      have hml := mfold_len L'
      have hsz1 := hb1.size
      obtain ⟨A2, c2, rfl, hc2⟩ := hR.form
      have HF := Lib.hid hF
      have HR := Lib.hid hR
      have HB1 := Lib.hid hb1
      have HML := Lib.hid hml
      clear hown hnx hfl hperm hpw hbel hF hb1 hml hR
      go_wp2
      go_loopw [6, 30] (fun v i wr => ∃ j : Nat, i = .int .i64 j ∧ j ≤ L'.length ∧ wr.ownsRow w1.heap.size 41 2 v (mfold (L'.take j)).length (scells (mfold (L'.take j))) ∧ Below w1.heap.size w1 wr) (fun _ i _ => L'.length - (intOf i).toNat)
      case atStart => exact ⟨0, rfl, by omega, World.ownsRow_nil _ _ _ _, Below.refl _ _⟩
      case round =>
        obtain ⟨j, rfl, hj, hown, hnx⟩ := hrel
        have hsz := hnx.size
        by_cases hlt : j < L'.length
        · have hI : (j : Int) < (L'.length : Int) := by omega
          obtain ⟨s, hs⟩ : ∃ s, L'[j]? = some s := ⟨_, List.getElem?_eq_getElem hlt⟩
          obtain ⟨b, off, c', hv, _, hbB, hcell⟩ := (HR.out.below hnx).posAt (by omega)
          injection hv with hv1 _ hv3
          subst hv1 hv3
          have f0 : wr.cell? ⟨b, off + j * 2, none⟩ = some (.int .u32 s.lo) := hcell j 0 _ (scell hs rfl)
          have f1 : wr.cell? ⟨b, off + j * 2 + 1, none⟩ = some (.int .u32 s.hi) := hcell j 1 _ (scell hs rfl)
          clear hcell
          have hstep := mfold_succ hs
          have hOl := HML.out j
          generalize mfold (L'.take j) = O at *
          have hHS := Lib.hid hstep
          clear hstep hs
          have hownA := hown.alloc (.cells #[.int .u32 s.lo, .int .u32 s.hi] 41)
          have hnxA := hnx.alloc hsz (.cells #[.int .u32 s.lo, .int .u32 s.hi] 41)
          have kb := blk1 wr (.cells #[.int .u32 s.lo, .int .u32 s.hi] 41)
          have hszA : w1.heap.size ≤ (wr.alloc (.cells #[.int .u32 s.lo, .int .u32 s.hi] 41)).heap.size := by simp; omega
          have hlo := s.hlo
          have hhi := s.hhi
          rcases snoc_cases O with rfl | ⟨A, t, rfl⟩
          · obtain ⟨A3, c3, rfl, _⟩ := owns_form hown
            have HO := Lib.hid hownA
            have HN := Lib.hid hnxA
            have HK := Lib.hid kb
            obtain ⟨x0, x1, _, _⟩ := two_cells kb
            clear hown hnx hownA hnxA kb
            go_wp2
            refine wp_region_quiet_below (by kernel_rfl) (by kernel_rfl) ?_
            repeat (first | go_big_quiet_step (fail) | quiet_step (fail))
            refine wpQuiet_nil ?_
            intro _ hw'
            obtain ⟨⟨nq, osq⟩, hw''⟩ := hw'
            subst hw''
            have hq := below_regrown (wr.alloc (.cells #[.int .u32 s.lo, .int .u32 s.hi] 41)) nq osq
            have own1 := owns_kept_none HO.out (only_of_below hq none)
            have nx1 := HN.out.trans (hq.mono hszA)
            have sz1 := nx1.size
            obtain ⟨y0, y1, _, _⟩ := two_cells (blk_below hq HK.out)
            clear x0 x1 HO HN HK f0 f1
            generalize grow (redrawn (wr.alloc (.cells #[.int .u32 s.lo, .int .u32 s.hi] 41)) nq) osq = W1 at *
            clear hq
            go_wp2_with (at_builtin; refine wpList_push rfl _ _ 68 rfl 41 i0 _ 2 8 Tryz.underlying68 hi hz0 hz1 hz2 rfl (by decide) (by decide) [.int .u32 s.lo, .int .u32 s.hi] rfl rfl (by simp) own1 rfl (enc_one s) (by simp) (by omega) nx1 (Nat.le_refl _) ?_; intro v2 w2 hown2 hb2)
            refine ⟨⟨j + 1, by go_num, by omega, ?_, hb2⟩, by simp only [intOf]; omega⟩
            rw [hHS.out, mstep_nil]
            exact hown2
          · have hl1 : (A ++ [t]).length = A.length + 1 := by simp
            rw [hl1] at hown hownA hOl
            obtain ⟨A3, c3, rfl, hA3⟩ := owns_form hown
            obtain ⟨g, rfl⟩ := hA3 (by omega)
            have e1 : (wr.alloc (.cells #[.int .u32 s.lo, .int .u32 s.hi] 41)).cell? ⟨g, A.length * 2 + 1, none⟩ = some (.int .u32 t.hi) := (hownA.cellAt (A.length * 2 + 1) (by omega)).trans (scell (L := A ++ [t]) (k := A.length) (i := 1) (x := t) (by simp) rfl)
            have HO := Lib.hid hownA
            have HN := Lib.hid hnxA
            have HK := Lib.hid kb
            obtain ⟨x0, x1, _, _⟩ := two_cells kb
            have F0 := cell_regrown x0
            have F1 := cell_regrown x1
            have F2 := cell_regrown e1
            have hthi := t.hhi
            clear hown hnx hownA hnxA kb
            have hm : (t.hi == 4294967295) = true ∨ ((t.hi == 4294967295) = false ∧ (t.hi + 1) % 4294967296 = t.hi + 1 ∧ decide (s.lo ≤ t.hi + 1) = true) ∨ ((t.hi == 4294967295) = false ∧ (t.hi + 1) % 4294967296 = t.hi + 1 ∧ decide (s.lo ≤ t.hi + 1) = false) := by
              by_cases h1 : t.hi = 4294967295
              · exact .inl (by simp [h1])
              · by_cases h2 : s.lo ≤ t.hi + 1
                · exact .inr (.inl ⟨by simp [h1], by omega, by simp [h2]⟩)
                · exact .inr (.inr ⟨by simp [h1], by omega, by simp; omega⟩)
            rcases hm with hm1 | ⟨hm1, hm2, hm3⟩ | ⟨hm1, hm2, hm3⟩
            · have hmg : s.lo ≤ t.hi + 1 := by
                have := eq_of_beq hm1
                omega
              have HM := Lib.hid hmg
              clear hmg
              go_wp2
              refine wp_region_quiet_below (by kernel_rfl) (by kernel_rfl) ?_
              repeat (first | go_big_quiet_step (fail) | quiet_step (fail))
              refine wpQuiet_nil ?_
              intro _ hw'
              obtain ⟨⟨nq, osq⟩, hw''⟩ := hw'
              subst hw''
              have hq := below_regrown (wr.alloc (.cells #[.int .u32 s.lo, .int .u32 s.hi] 41)) nq osq
              have own1 := owns_kept_none HO.out (only_of_below hq none)
              have nx1 := HN.out.trans (hq.mono hszA)
              have sz1 := nx1.size
              have kb1 := blk_below hq HK.out
              obtain ⟨y0, y1, _, _⟩ := two_cells kb1
              clear F0 F1 F2 x0 x1 e1 HO HN HK f0 f1
              generalize grow (redrawn (wr.alloc (.cells #[.int .u32 s.lo, .int .u32 s.hi] 41)) nq) osq = W1 at *
              clear hq
              have z1 : W1.cell? ⟨g, A.length * 2 + 1, none⟩ = some (.int .u32 t.hi) := (own1.cellAt (A.length * 2 + 1) (by omega)).trans (scell (L := A ++ [t]) (k := A.length) (i := 1) (x := t) (by simp) rfl)
              have z2 := own1.frozenAt (A.length * 2 + 1)
              have hgB := (own1.lt g rfl).1
              have hi1 : (0 : Int) ≤ (A.length : Int) := by omega
              have hi2 : (A.length : Int) < (A.length : Int) + 1 := by omega
              have hi3 : (A.length : Int) ≤ 9223372036854775807 := by omega
              have hi4 : IntKind.i64.wrap (A.length : Int) = (A.length : Int) := by rw [IntKind.wrap_i64]; omega
              go_wp2
              go_still_tail 14, (by kernel_rfl)
              have own2 := owns_kept_none own1 (only_drew (World.grownBy.refl W1 none))
              have nx2 := below_drew1 nx1
              have z3 : W1.drew.cell? ⟨g, A.length * 2 + 1, none⟩ = some (.int .u32 t.hi) := z1
              have z4 : W1.drew.frozen? ⟨g, A.length * 2 + 1, none⟩ = false := z2
              clear own1 nx1 z1 z2 kb1 y0 y1 sz1
              change wpList _ _ _ _ _ W1.drew
              generalize W1.drew = W2 at *
              go_wp2
              have s1 := (own2.stored (A.length * 2 + 1) (.int .u32 (max t.hi s.hi))).1
              rw [show (scells (A ++ [t])).set (A.length * 2 + 1) (.int .u32 (max t.hi s.hi)) = scells (A ++ [t.reach s]) from scells_set (A := A) (t := t) (y := t.reach s) rfl] at s1
              refine ⟨⟨j + 1, by go_num, by omega, ?_, nx2.setCell (p := ⟨g, A.length * 2 + 1, none⟩) hgB _⟩, by simp only [intOf]; omega⟩
              rw [hHS.out, mstep_in HM.out, List.length_append]
              exact s1
            · have hmg : s.lo ≤ t.hi + 1 := of_decide_eq_true hm3
              have HM := Lib.hid hmg
              clear hmg
              go_wp2
              refine wp_region_quiet_below (by kernel_rfl) (by kernel_rfl) ?_
              repeat (first | go_big_quiet_step (fail) | quiet_step (fail))
              refine wpQuiet_nil ?_
              intro _ hw'
              obtain ⟨⟨nq, osq⟩, hw''⟩ := hw'
              subst hw''
              have hq := below_regrown (wr.alloc (.cells #[.int .u32 s.lo, .int .u32 s.hi] 41)) nq osq
              have own1 := owns_kept_none HO.out (only_of_below hq none)
              have nx1 := HN.out.trans (hq.mono hszA)
              have sz1 := nx1.size
              have kb1 := blk_below hq HK.out
              obtain ⟨y0, y1, _, _⟩ := two_cells kb1
              clear F0 F1 F2 x0 x1 e1 HO HN HK f0 f1
              generalize grow (redrawn (wr.alloc (.cells #[.int .u32 s.lo, .int .u32 s.hi] 41)) nq) osq = W1 at *
              clear hq
              have z1 : W1.cell? ⟨g, A.length * 2 + 1, none⟩ = some (.int .u32 t.hi) := (own1.cellAt (A.length * 2 + 1) (by omega)).trans (scell (L := A ++ [t]) (k := A.length) (i := 1) (x := t) (by simp) rfl)
              have z2 := own1.frozenAt (A.length * 2 + 1)
              have hgB := (own1.lt g rfl).1
              have hi1 : (0 : Int) ≤ (A.length : Int) := by omega
              have hi2 : (A.length : Int) < (A.length : Int) + 1 := by omega
              have hi3 : (A.length : Int) ≤ 9223372036854775807 := by omega
              have hi4 : IntKind.i64.wrap (A.length : Int) = (A.length : Int) := by rw [IntKind.wrap_i64]; omega
              go_wp2
              go_still_tail 14, (by kernel_rfl)
              have own2 := owns_kept_none own1 (only_drew (World.grownBy.refl W1 none))
              have nx2 := below_drew1 nx1
              have z3 : W1.drew.cell? ⟨g, A.length * 2 + 1, none⟩ = some (.int .u32 t.hi) := z1
              have z4 : W1.drew.frozen? ⟨g, A.length * 2 + 1, none⟩ = false := z2
              clear own1 nx1 z1 z2 kb1 y0 y1 sz1
              change wpList _ _ _ _ _ W1.drew
              generalize W1.drew = W2 at *
              go_wp2
              have s1 := (own2.stored (A.length * 2 + 1) (.int .u32 (max t.hi s.hi))).1
              rw [show (scells (A ++ [t])).set (A.length * 2 + 1) (.int .u32 (max t.hi s.hi)) = scells (A ++ [t.reach s]) from scells_set (A := A) (t := t) (y := t.reach s) rfl] at s1
              refine ⟨⟨j + 1, by go_num, by omega, ?_, nx2.setCell (p := ⟨g, A.length * 2 + 1, none⟩) hgB _⟩, by simp only [intOf]; omega⟩
              rw [hHS.out, mstep_in HM.out, List.length_append]
              exact s1
            · have hmg : ¬ s.lo ≤ t.hi + 1 := of_decide_eq_false hm3
              have HM := Lib.hid hmg
              clear hmg
              go_wp2
              refine wp_region_quiet_below (by kernel_rfl) (by kernel_rfl) ?_
              repeat (first | go_big_quiet_step (fail) | quiet_step (fail))
              refine wpQuiet_nil ?_
              intro _ hw'
              obtain ⟨⟨nq, osq⟩, hw''⟩ := hw'
              subst hw''
              have hq := below_regrown (wr.alloc (.cells #[.int .u32 s.lo, .int .u32 s.hi] 41)) nq osq
              have own1 := owns_kept_none HO.out (only_of_below hq none)
              have nx1 := HN.out.trans (hq.mono hszA)
              have sz1 := nx1.size
              have kb1 := blk_below hq HK.out
              obtain ⟨y0, y1, _, _⟩ := two_cells kb1
              clear F0 F1 F2 x0 x1 e1 HO HN HK f0 f1
              generalize grow (redrawn (wr.alloc (.cells #[.int .u32 s.lo, .int .u32 s.hi] 41)) nq) osq = W1 at *
              clear hq
              go_wp2_with (at_builtin; refine wpList_push rfl _ _ 68 rfl 41 i0 _ 2 8 Tryz.underlying68 hi hz0 hz1 hz2 rfl (by decide) (by decide) [.int .u32 s.lo, .int .u32 s.hi] rfl rfl (by simp) own1 rfl (enc_one s) (by omega) (by omega) nx1 (Nat.le_refl _) ?_; intro v2 w2 hown2 hb2)
              refine ⟨⟨j + 1, by go_num, by omega, ?_, hb2⟩, by simp only [intOf]; omega⟩
              rw [hHS.out, mstep_new (by have := HM.out; omega), scells_snoc (A ++ [t]), List.length_append, hl1]
              exact hown2
        · obtain rfl : j = L'.length := by omega
          rw [List.take_length] at hown
          go_wp2
          go_ret
          refine ⟨_, rfl, ?_, HB1.out.trans (hnx.mono hsz1)⟩
          rw [HF.out.1]
          exact owns_base hown hsz1

end Go.Proofs.YtbahehmfhjkgeaaGreat

/-
  The order of routes: plain laws; no walk.
-/
import Derived.Test.YtlhafehhkjjchaaRo2
import Derived.Shelf.SlSortCmp.WholeK
namespace Go.Proofs.Ytlhafehhkjjchaa
open Go Go.RowKit Go.Sort

/-- A comparison by -, 0, +: it may be turned about, and what is not above goes on. -/
structure Ord3 {α : Type} (f : α → α → Int) : Prop where
  anti : ∀ x y, f x y = - f y x
  tr : ∀ x y z, f x y ≤ 0 → f y z ≤ 0 → f x z ≤ 0
theorem Ord3.self {α : Type} {f : α → α → Int} (h : Ord3 f) (x : α) : f x x = 0 := by have := h.anti x x; omega
theorem Ord3.zero {α : Type} {f : α → α → Int} (h : Ord3 f) {x y z : α} (h1 : f x y = 0) (h2 : f y z = 0) : f x z = 0 := by
  have a := h.tr x y z (by omega) (by omega)
  have h3 := h.anti x y
  have h4 := h.anti y z
  have b := h.tr z y x (by omega) (by omega)
  have h5 := h.anti x z
  omega
theorem Ord3.lt {α : Type} {f : α → α → Int} (h : Ord3 f) {x y z : α} (h1 : f x y < 0) (h2 : f y z ≤ 0) : f x z < 0 := by
  by_cases h3 : f x z < 0
  · exact h3
  · have h4 := h.anti x z
    have h5 := h.tr y z x h2 (by omega)
    have h6 := h.anti x y
    omega
theorem Ord3.lt' {α : Type} {f : α → α → Int} (h : Ord3 f) {x y z : α} (h1 : f x y ≤ 0) (h2 : f y z < 0) : f x z < 0 := by
  by_cases h3 : f x z < 0
  · exact h3
  · have h4 := h.anti x z
    have h5 := h.tr z x y (by omega) h1
    have h6 := h.anti y z
    omega
theorem Ord3.on {α β : Type} {f : α → α → Int} (h : Ord3 f) (g : β → α) : Ord3 (fun x y => f (g x) (g y)) := ⟨fun _ _ => h.anti _ _, fun _ _ _ => h.tr _ _ _⟩
theorem ord3_zero {α : Type} : Ord3 (fun (_ _ : α) => (0 : Int)) := ⟨fun _ _ => rfl, fun _ _ _ _ _ => Int.le_refl _⟩
theorem Ord3.cons {α : Type} {f g : α → α → Int} (hf : Ord3 f) (hg : Ord3 g) : Ord3 (fun x y => if f x y = 0 then g x y else f x y) := by
  refine ⟨fun x y => ?_, fun x y z h1 h2 => ?_⟩
  · have := hf.anti x y
    have := hg.anti x y
    show (if f x y = 0 then g x y else f x y) = - (if f y x = 0 then g y x else f y x)
    by_cases h : f x y = 0
    · rw [if_pos h, if_pos (by omega)]; omega
    · rw [if_neg h, if_neg (by omega)]; omega
  · replace h1 : (if f x y = 0 then g x y else f x y) ≤ 0 := h1
    replace h2 : (if f y z = 0 then g y z else f y z) ≤ 0 := h2
    show (if f x z = 0 then g x z else f x z) ≤ 0
    by_cases e1 : f x y = 0
    · rw [if_pos e1] at h1
      by_cases e2 : f y z = 0
      · rw [if_pos e2] at h2
        rw [if_pos (hf.zero e1 e2)]
        exact hg.tr _ _ _ h1 h2
      · rw [if_neg e2] at h2
        have := hf.lt' (x := x) (y := y) (z := z) (by omega) (by omega)
        rw [if_neg (by omega)]; omega
    · rw [if_neg e1] at h1
      have h3 : f y z ≤ 0 := by
        by_cases e2 : f y z = 0
        · omega
        · rw [if_neg e2] at h2; exact h2
      have := hf.lt (x := x) (y := y) (z := z) (by omega) h3
      rw [if_neg (by omega)]; omega
theorem ord3_I : Ord3 cmpI := by
  refine ⟨fun x y => ?_, fun x y z h1 h2 => ?_⟩
  · unfold cmpI; split <;> split <;> omega
  · unfold cmpI at *; split at h1 <;> split at h2 <;> (repeat' split) <;> first | omega | (split at h1 <;> omega) | (split at h2 <;> omega)
theorem cmpI_zero {x y : Int} : cmpI x y = 0 ↔ x = y := by
  constructor
  · intro h; unfold cmpI at h; split at h
    · omega
    · split at h <;> omega
  · rintro rfl; exact cmpI_eq x
theorem ord3_B : Ord3 cmpB := ⟨fun x y => by cases x <;> cases y <;> rfl, fun x y z => by cases x <;> cases y <;> cases z <;> simp [cmpB]⟩
theorem cmpB_zero {x y : Bool} : cmpB x y = 0 ↔ x = y := by cases x <;> cases y <;> simp [cmpB]
theorem bl_irrefl : ∀ x : List UInt8, Op.bytesLess x x = false
  | [] => rfl
  | a :: x => by
    have h : ¬ a < a := UInt8.lt_irrefl a
    simp [Op.bytesLess, bl_irrefl x, h]
theorem bl_trans : ∀ x y z : List UInt8, Op.bytesLess x y = true → Op.bytesLess y z = true → Op.bytesLess x z = true
  | [], [], _, h, _ => by simp [Op.bytesLess] at h
  | [], _ :: _, [], _, h => by simp [Op.bytesLess] at h
  | [], _ :: _, _ :: _, _, _ => rfl
  | _ :: _, [], _, h, _ => by simp [Op.bytesLess] at h
  | _ :: _, _ :: _, [], _, h => by simp [Op.bytesLess] at h
  | a :: x, b :: y, c :: z, h1, h2 => by
    simp only [Op.bytesLess, Bool.or_eq_true, decide_eq_true_eq, Bool.and_eq_true, beq_iff_eq] at *
    rcases h1 with h1 | ⟨rfl, h1⟩
    · rcases h2 with h2 | ⟨rfl, h2⟩
      · exact .inl (UInt8.lt_trans h1 h2)
      · exact .inl h1
    · rcases h2 with h2 | ⟨rfl, h2⟩
      · exact .inl h2
      · exact .inr ⟨rfl, bl_trans x y z h1 h2⟩
theorem bl_total : ∀ x y : List UInt8, Op.bytesLess x y = false → Op.bytesLess y x = false → x = y
  | [], [], _, _ => rfl
  | [], _ :: _, h, _ => by simp [Op.bytesLess] at h
  | _ :: _, [], _, h => by simp [Op.bytesLess] at h
  | a :: x, b :: y, h1, h2 => by
    simp only [Op.bytesLess, Bool.or_eq_false_iff, decide_eq_false_iff_not, Bool.and_eq_false_iff] at *
    have e : a = b := by
      have h3 := h1.1
      have h4 := h2.1
      rw [UInt8.lt_iff_toNat_lt] at h3 h4
      exact UInt8.toNat_inj.1 (by omega)
    subst e
    rw [bl_total x y (by simpa using h1.2) (by simpa using h2.2)]
theorem str_eq_of {s t : ByteArray} (h : s.toList = t.toList) : s = t := by
  rw [Go.ByteArray.toList_eq, Go.ByteArray.toList_eq] at h
  exact ByteArray.ext (Array.toList_inj.mp h)
theorem cmpSt_le {s t : ByteArray} : cmpSt s t ≤ 0 ↔ Op.bytesLess s.toList t.toList = true ∨ s = t := by
  unfold cmpSt
  by_cases h1 : Op.bytesLess s.toList t.toList = true
  · rw [if_pos h1]; simp [h1]
  · rw [if_neg h1]
    by_cases h2 : s = t
    · subst h2; simp
    · have : ¬ (s.toList == t.toList) = true := fun h => h2 (str_eq_of (by simpa using h))
      rw [if_neg this]; simp [h1, h2]
theorem cmpSt_zero {s t : ByteArray} : cmpSt s t = 0 ↔ s = t := by
  unfold cmpSt
  by_cases h1 : Op.bytesLess s.toList t.toList = true
  · rw [if_pos h1]
    constructor
    · intro h; omega
    · rintro rfl; rw [bl_irrefl] at h1; cases h1
  · rw [if_neg h1]
    by_cases h2 : s = t
    · subst h2; simp
    · have : ¬ (s.toList == t.toList) = true := fun h => h2 (str_eq_of (by simpa using h))
      rw [if_neg this]; simp [h2]
theorem ord3_S : Ord3 cmpSt := by
  refine ⟨fun x y => ?_, fun x y z h1 h2 => ?_⟩
  · unfold cmpSt
    cases h1 : Op.bytesLess x.toList y.toList with
    | true =>
      have h2 : Op.bytesLess y.toList x.toList = false := by
        cases h : Op.bytesLess y.toList x.toList with
        | false => rfl
        | true => have := bl_trans _ _ _ h1 h; rw [bl_irrefl] at this; cases this
      have h3 : (y.toList == x.toList) = false := by
        cases h : (y.toList == x.toList) with
        | false => rfl
        | true =>
          have e : y.toList = x.toList := by simpa using h
          rw [e, bl_irrefl] at h1; cases h1
      simp [h2, h3]
    | false =>
      cases h2 : Op.bytesLess y.toList x.toList with
      | true =>
        have h3 : (x.toList == y.toList) = false := by
          cases h : (x.toList == y.toList) with
          | false => rfl
          | true =>
            have e : x.toList = y.toList := by simpa using h
            rw [e, bl_irrefl] at h2; cases h2
        simp [h3]
      | false =>
        have e := bl_total _ _ h1 h2
        simp [e]
  · rw [cmpSt_le] at *
    rcases h1 with h1 | rfl
    · rcases h2 with h2 | rfl
      · exact .inl (bl_trans _ _ _ h1 h2)
      · exact .inl h1
    · exact h2
theorem firstNZ_cons (x : Int) (l : List Int) : firstNZ (x :: l) = if x = 0 then firstNZ l else x := rfl
theorem ord3_R : Ord3 cmpR := by
  have h0 := ord3_zero (α := RouteV)
  have hp : Ord3 (fun (r s : RouteV) => firstNZ [cmpI r.a s.a, cmpI r.m s.m]) := (ord3_I.on RouteV.a).cons ((ord3_I.on RouteV.m).cons h0)
  exact hp.cons ((ord3_I.on RouteV.fr).cons ((ord3_I.on RouteV.di).cons ((ord3_I.on RouteV.me).cons ((ord3_I.on RouteV.ta).cons ((ord3_I.on RouteV.ho).cons ((ord3_S.on RouteV.nm).cons ((ord3_B.on RouteV.dc).cons h0)))))))
theorem nz_cons {x : Int} {l : List Int} : firstNZ (x :: l) = 0 ↔ x = 0 ∧ firstNZ l = 0 := by
  rw [firstNZ_cons]
  by_cases h : x = 0
  · rw [if_pos h]; simp [h]
  · rw [if_neg h]; simp [h]
theorem cmpR_zero {r s : RouteV} : cmpR r s = 0 ↔ r = s := by
  unfold cmpR
  rw [nz_cons, nz_cons, nz_cons, nz_cons, nz_cons, nz_cons, nz_cons, nz_cons, nz_cons, nz_cons]
  simp only [cmpI_zero, cmpB_zero, cmpSt_zero]
  constructor
  · rintro ⟨⟨h1, h2, _⟩, h3, h4, h5, h6, h7, h8, h9, _⟩
    cases r; cases s; simp_all
  · rintro rfl
    simp [firstNZ]
theorem swoR : SWO (ltOf cmpR) where
  irrefl x := by unfold ltOf; rw [ord3_R.self]; rfl
  trans x y z h1 h2 := by unfold ltOf at *; simp only [decide_eq_true_eq] at *; exact ord3_R.lt h1 (by omega)
  ntrans x y z h1 h2 := by
    unfold ltOf at *
    simp only [decide_eq_false_iff_not] at *
    have a1 := ord3_R.anti x y
    have a2 := ord3_R.anti y z
    have a3 := ord3_R.anti x z
    have := ord3_R.tr z y x (by omega) (by omega)
    omega

/-- In order, each once. -/
def Up (L : List RouteV) : Prop := L.Pairwise (fun x y => cmpR x y < 0)
theorem up_unique : ∀ {L M : List RouteV}, Up L → Up M → (∀ x, x ∈ L ↔ x ∈ M) → L = M
  | [], [], _, _, _ => rfl
  | [], y :: M, _, _, h => by have := (h y).2 (List.mem_cons_self ..); simp at this
  | x :: L, [], _, _, h => by have := (h x).1 (List.mem_cons_self ..); simp at this
  | x :: L, y :: M, hL, hM, h => by
    unfold Up at *
    obtain ⟨hx, hL'⟩ := List.pairwise_cons.1 hL
    obtain ⟨hy, hM'⟩ := List.pairwise_cons.1 hM
    have e : x = y := by
      rcases List.mem_cons.1 ((h x).1 (List.mem_cons_self ..)) with e | e
      · exact e
      · rcases List.mem_cons.1 ((h y).2 (List.mem_cons_self ..)) with e2 | e2
        · exact e2.symm
        · have h1 := hy x e
          have h2 := hx y e2
          have := ord3_R.anti x y
          omega
    subst e
    rw [up_unique hL' hM' (fun z => ?_)]
    have hz := h z
    constructor
    · intro hm
      rcases List.mem_cons.1 (hz.1 (List.mem_cons_of_mem _ hm)) with e | e
      · subst e
        have h1 := hx z hm
        have := ord3_R.self z
        omega
      · exact e
    · intro hm
      rcases List.mem_cons.1 (hz.2 (List.mem_cons_of_mem _ hm)) with e | e
      · subst e
        have h1 := hy z hm
        have := ord3_R.self z
        omega
      · exact e
/-- S is l in order, each once. -/
def Sorted (l S : List RouteV) : Prop := Up S ∧ ∀ x, x ∈ S ↔ x ∈ l
theorem Sorted.eq {l S T : List RouteV} (h : Sorted l S) (k : Sorted l T) : S = T := up_unique h.1 k.1 (fun x => (h.2 x).trans (k.2 x).symm)
end Go.Proofs.Ytlhafehhkjjchaa

/-
  Joined texts: Wb3, Bm7, Bm8, Bn1, Rn1, Bm12, Sg, Rb1, Wid2, Rb3, Math, A1, Bits, Addr.
-/
import Derived.Test.YthhcaoljejifeaaGreatMLintRewrites2
import Derived.Laws.OwnMore
import Derived.Deep.CutBlock
import Derived.IntWalk
import Derived.Laws.BitsAllLaws
import Derived.Deep.RegionHeld3
import Derived.Deep.DeepCutAuto
import Derived.Below
import Derived.Test.YthhcaoljejifeaaGreatProg
import Derived.WalkKit
import Derived.WalkSpells
import Derived.WalkLawsBesides
import Derived.Lib.Hide
import Derived.Test.YthhcaoljejifeaaGreatMLintRewrites1
import Derived.Test.YthhcaoljejifeaaGreatShelf
/-
  How lists of indices part: by prefixes, by single values, by intervals. No program in sight.
-/
namespace Go.Proofs.YthhcaoljejifeaaGreat

theorem filter_lt {T : List Nat} {i : Nat} (h : i ∈ T) : (T.filter fun j => decide (j ≠ i)).length < T.length := by
  have h1 := len_parts (fun j => decide (j ≠ i)) T
  have h2 : 0 < (T.filter fun j => !decide (j ≠ i)).length := List.length_pos_of_mem (List.mem_filter.2 ⟨h, by simp⟩)
  omega
theorem max_of (g : Nat → Nat) : ∀ {T : List Nat}, T ≠ [] → ∃ i ∈ T, ∀ j ∈ T, g j ≤ g i
  | [], h => absurd rfl h
  | [a], _ => ⟨a, List.mem_singleton.2 rfl, fun j hj => by rw [List.mem_singleton.1 hj]; exact Nat.le_refl _⟩
  | a :: b :: r, _ => by
    obtain ⟨i, hi, hm⟩ := max_of g (T := b :: r) (by simp)
    rcases Nat.le_total (g a) (g i) with h | h
    · refine ⟨i, List.mem_cons_of_mem _ hi, fun j hj => ?_⟩
      rcases List.mem_cons.1 hj with rfl | hj
      · exact h
      · exact hm j hj
    · refine ⟨a, List.mem_cons_self .., fun j hj => ?_⟩
      rcases List.mem_cons.1 hj with rfl | hj
      · exact Nat.le_refl _
      · exact Nat.le_trans (hm j hj) h
/-! Prefixes. -/
def preP (n : Nat) (len pr : Nat → Nat) (i x : Nat) : Bool := x / 2 ^ (n - len i) == pr i
def preL (w : Nat → Nat) : Nat → Nat
  | 0 => 0
  | c + 1 => preL w c + w (c + 1)
theorem preL_mono {w : Nat → Nat} : Mono (preL w) := fun i j h => by
  induction h with
  | refl => exact Nat.le_refl _
  | step _ ih => exact Nat.le_trans ih (Nat.le_add_right _ _)
theorem pre_split (n : Nat) (len pr : Nat → Nat) : ∀ (k : Nat) (T : List Nat), T.length ≤ k → ∃ A : List (List Nat), (∀ x, T.filter (fun i => preP n len pr i x) ∈ A ∨ T.filter (fun i => preP n len pr i x) = []) ∧ ∀ w : Nat → Nat, Mono w → (A.map fun U => w U.length).sum ≤ preL w T.length
  | 0, T, h => by
    obtain rfl : T = [] := List.eq_nil_of_length_eq_zero (by omega)
    exact ⟨[], fun x => .inr rfl, fun w _ => by simp⟩
  | k + 1, T, h => by
    by_cases hT : T = []
    · subst hT
      exact ⟨[], fun x => .inr rfl, fun w _ => by simp⟩
    · obtain ⟨i, hi, hmax⟩ := max_of len hT
      have hlt := filter_lt hi
      obtain ⟨A, hA, hw⟩ := pre_split n len pr k (T.filter fun j => decide (j ≠ i)) (by omega)
      refine ⟨(T.filter fun j => preP n len pr j (pr i * 2 ^ (n - len i))) :: A, fun x => ?_, fun w mw => ?_⟩
      · by_cases hx : preP n len pr i x = true
        · refine .inl ?_
          rw [show T.filter (fun j => preP n len pr j x) = T.filter fun j => preP n len pr j (pr i * 2 ^ (n - len i)) from ?_]
          · exact List.mem_cons_self ..
          · refine List.filter_congr fun j hj => ?_
            have hl := hmax j hj
            unfold preP at hx ⊢
            simp only [beq_iff_eq] at hx
            have key : ∀ z, z / 2 ^ (n - len i) = pr i → z / 2 ^ (n - len j) = pr i / 2 ^ ((n - len j) - (n - len i)) := fun z hz => by
              rw [← hz, Nat.div_div_eq_div_mul, ← Nat.pow_add]
              congr 2; omega
            rw [key x hx, key _ (Nat.mul_div_cancel _ (Nat.two_pow_pos _))]
        · have e : T.filter (fun j => preP n len pr j x) = (T.filter fun j => decide (j ≠ i)).filter fun j => preP n len pr j x := by
            rw [List.filter_filter]
            refine List.filter_congr fun j _ => ?_
            by_cases hj : j = i
            · subst hj; simp [hx]
            · simp [hj]
          rw [e]
          exact (hA x).imp (List.mem_cons_of_mem _) id
      · have h1 := hw w mw
        have h2 := mw _ _ (List.length_filter_le (fun j => preP n len pr j (pr i * 2 ^ (n - len i))) T)
        obtain ⟨c, hc⟩ : ∃ c, T.length = c + 1 := ⟨T.length - 1, by omega⟩
        have h3 := preL_mono (w := w) _ _ (show (T.filter fun j => decide (j ≠ i)).length ≤ c by omega)
        rw [hc] at h2 ⊢
        simp only [List.map_cons, List.sum_cons]
        show _ ≤ preL w c + w (c + 1)
        omega
theorem pre_flat (n : Nat) (len pr : Nat → Nat) (i d y x x' : Nat) (hy : y ∉ [pr i * 2 ^ (n - len i)].map (· / 2 ^ d)) (hx : x / 2 ^ d = y) (hx' : x' / 2 ^ d = y) : preP n len pr i x = preP n len pr i x' := by
  unfold preP
  rcases Nat.le_total d (n - len i) with h | h
  · have key : ∀ z, z / 2 ^ d = y → z / 2 ^ (n - len i) = y / 2 ^ ((n - len i) - d) := fun z hz => by
      rw [← hz, Nat.div_div_eq_div_mul, ← Nat.pow_add]
      congr 2; omega
    rw [key x hx, key x' hx']
  · have key : ∀ z, z / 2 ^ d = y → (z / 2 ^ (n - len i) == pr i) = false := fun z hz => by
      rw [beq_eq_false_iff_ne]
      intro h1
      refine hy (List.mem_map.2 ⟨_, List.mem_singleton.2 rfl, ?_⟩)
      have e : 2 ^ d = 2 ^ (n - len i) * 2 ^ (d - (n - len i)) := by rw [← Nat.pow_add]; congr 1; omega
      rw [← hz, e, ← Nat.div_div_eq_div_mul, ← Nat.div_div_eq_div_mul, h1, Nat.mul_div_cancel _ (Nat.two_pow_pos _)]
    rw [key x hx, key x' hx']
def preFd (a n : Nat) (len pr : Nat → Nat) : Fd := ⟨a, n, 1, preP n len pr, fun i => [pr i * 2 ^ (n - len i)], preL⟩
theorem preFd_ok (a n : Nat) (len pr : Nat → Nat) : FdOk (preFd a n len pr) :=
  ⟨fun _ => Nat.le_refl _, fun i d y x x' => pre_flat n len pr i d y x x', fun T => pre_split n len pr T.length T (Nat.le_refl _), fun _ _ => preL_mono⟩
/-! Single values. -/
def ptP (any : Nat → Bool) (v : Nat → Nat) (i x : Nat) : Bool := any i || x == v i
def maxTo (g : Nat → Nat) : Nat → Nat
  | 0 => g 0
  | m + 1 => max (maxTo g m) (g (m + 1))
theorem maxTo_ge (g : Nat → Nat) : ∀ {n m : Nat}, m ≤ n → g m ≤ maxTo g n
  | 0, m, h => by obtain rfl : m = 0 := by omega
                  exact Nat.le_refl _
  | n + 1, m, h => by
    rcases Nat.lt_or_ge n m with h1 | h1
    · obtain rfl : m = n + 1 := by omega
      exact Nat.le_max_right ..
    · exact Nat.le_trans (maxTo_ge g h1) (Nat.le_max_left ..)
theorem maxTo_le {g h : Nat → Nat} : ∀ {n : Nat}, (∀ m, m ≤ n → g m ≤ h m) → maxTo g n ≤ maxTo h n
  | 0, hh => hh 0 (Nat.le_refl _)
  | n + 1, hh => by
    have h1 := maxTo_le (n := n) fun m hm => hh m (by omega)
    have h2 := hh (n + 1) (Nat.le_refl _)
    show max _ _ ≤ max _ _
    omega
theorem maxTo_up (g : Nat → Nat) : Mono (maxTo g) := fun i j h => by
  induction h with
  | refl => exact Nat.le_refl _
  | step _ ih => exact Nat.le_trans ih (Nat.le_max_left ..)
def ptL (w : Nat → Nat) (c : Nat) : Nat := maxTo (fun m => m * w (c - m + 1) + w (c - m)) c
theorem ptL_mono {w : Nat → Nat} (hw : Mono w) : Mono (ptL w) := fun i j h => by
  unfold ptL
  refine Nat.le_trans (maxTo_le fun m _ => ?_) (maxTo_up _ _ _ h)
  exact Nat.add_le_add (Nat.mul_le_mul_left _ (hw _ _ (by omega))) (hw _ _ (by omega))
theorem nodup_lenN : ∀ {A B : List Nat}, A.Nodup → (∀ x ∈ A, x ∈ B) → A.length ≤ B.length
  | [], _, _, _ => by simp
  | a :: r, B, hn, hs => by
    have hn' := List.nodup_cons.1 hn
    have ha := hs a (List.mem_cons_self ..)
    have h1 : ∀ x ∈ r, x ∈ B.erase a := fun x hx => by
      have hxa : x ≠ a := fun e => hn'.1 (e ▸ hx)
      exact (List.mem_erase_of_ne hxa).2 (hs x (List.mem_cons_of_mem _ hx))
    have h2 := nodup_lenN hn'.2 h1
    rw [List.length_erase_of_mem ha] at h2
    have := List.length_pos_of_mem ha
    simp only [List.length_cons]
    omega
theorem each_once : ∀ l : List Nat, ∃ V : List Nat, V.Nodup ∧ ∀ x, x ∈ V ↔ x ∈ l
  | [] => ⟨[], List.nodup_nil, fun _ => Iff.rfl⟩
  | a :: r => by
    obtain ⟨V, h1, h2⟩ := each_once r
    by_cases h : a ∈ V
    · exact ⟨V, h1, fun x => by
        rw [List.mem_cons, h2]
        exact ⟨.inr, fun hx => hx.elim (fun e => (h2 x).1 (e ▸ h)) id⟩⟩
    · exact ⟨a :: V, List.nodup_cons.2 ⟨h, h1⟩, fun x => by rw [List.mem_cons, List.mem_cons, h2]⟩
theorem pt_split (any : Nat → Bool) (v : Nat → Nat) (T : List Nat) : ∃ A : List (List Nat), (∀ x, T.filter (fun i => ptP any v i x) ∈ A ∨ T.filter (fun i => ptP any v i x) = []) ∧ ∀ w : Nat → Nat, Mono w → (A.map fun U => w U.length).sum ≤ ptL w T.length := by
  obtain ⟨V, hVn, hV0⟩ := each_once ((T.filter fun i => !any i).map v)
  have hV : ∀ x, x ∈ V ↔ ∃ i ∈ T, any i = false ∧ v i = x := fun x => by
    rw [hV0, List.mem_map]
    constructor
    · rintro ⟨i, hi, rfl⟩
      obtain ⟨h1, h2⟩ := List.mem_filter.1 hi
      exact ⟨i, h1, by simpa using h2, rfl⟩
    · rintro ⟨i, h1, h2, rfl⟩
      exact ⟨i, List.mem_filter.2 ⟨h1, by simp [h2]⟩, rfl⟩
  have hsub : ∀ (p : Nat → Bool) (W : List Nat), W.Nodup → (∀ q ∈ W, q ∈ V ∧ ∀ i ∈ T, any i = false → v i = q → p i = false) → (T.filter p).length + W.length ≤ T.length := fun p W hW hq => by
    have h1 := len_parts p T
    have h2 : W.length ≤ ((T.filter fun i => !p i).map v).length := nodup_lenN hW fun q hqW => by
      obtain ⟨h3, h4⟩ := hq q hqW
      obtain ⟨i, hi, ha, rfl⟩ := (hV q).1 h3
      exact List.mem_map.2 ⟨i, List.mem_filter.2 ⟨hi, by simp [h4 i hi ha rfl]⟩, rfl⟩
    rw [List.length_map] at h2
    omega
  refine ⟨(V.map fun x => T.filter fun i => ptP any v i x) ++ [T.filter any], fun x => .inl ?_, fun w mw => ?_⟩
  · by_cases hx : x ∈ V
    · exact List.mem_append_left _ (List.mem_map.2 ⟨x, hx, rfl⟩)
    · refine List.mem_append_right _ (List.mem_singleton.2 (List.filter_congr fun i hi => ?_))
      unfold ptP
      cases ha : any i with
      | true => rfl
      | false =>
        have : x ≠ v i := fun e => hx ((hV x).2 ⟨i, hi, ha, e.symm⟩)
        simpa using this
  · have hm : V.length ≤ T.length := by
      have := hsub (fun _ => false) V hVn fun q hq => ⟨hq, fun _ _ _ _ => rfl⟩
      omega
    have h1 : ∀ x ∈ V, w (T.filter fun i => ptP any v i x).length ≤ w (T.length - V.length + 1) := fun x hx => mw _ _ (by
      have h := hsub (fun i => ptP any v i x) (V.erase x) (hVn.erase _) fun q hq => ⟨List.mem_of_mem_erase hq, fun i _ ha hv => by
        have hne : q ≠ x := ((List.Nodup.mem_erase_iff hVn).1 hq).1
        unfold ptP
        rw [ha, hv]
        simpa using fun e : x = q => hne e.symm⟩
      rw [List.length_erase_of_mem hx] at h
      have := List.length_pos_of_mem hx
      omega)
    have h2 : w (T.filter any).length ≤ w (T.length - V.length) := mw _ _ (by
      have h := hsub any V hVn fun q hq => ⟨hq, fun _ _ ha _ => ha⟩
      omega)
    have h3 : ((V.map fun x => T.filter fun i => ptP any v i x).map fun U => w U.length).sum ≤ V.length * w (T.length - V.length + 1) := by
      rw [List.map_map]
      refine Nat.le_trans (sum_le (g := fun _ => w (T.length - V.length + 1)) h1) (Nat.le_of_eq ?_)
      have h4 : ∀ (l : List Nat) (z : Nat), (l.map fun _ => z).sum = l.length * z := fun l z => by
        induction l with
        | nil => simp
        | cons a r ih => simp [ih, Nat.add_mul]; omega
      exact h4 _ _
    rw [List.map_append, List.sum_append]
    simp only [List.map_cons, List.map_nil, List.sum_cons, List.sum_nil]
    have h5 := maxTo_ge (fun m => m * w (T.length - m + 1) + w (T.length - m)) hm
    unfold ptL
    omega
theorem pt_flat (any : Nat → Bool) (v : Nat → Nat) (i d y x x' : Nat) (hy : y ∉ [v i].map (· / 2 ^ d)) (hx : x / 2 ^ d = y) (hx' : x' / 2 ^ d = y) : ptP any v i x = ptP any v i x' := by
  have key : ∀ z, z / 2 ^ d = y → (z == v i) = false := fun z hz => by
    rw [beq_eq_false_iff_ne]
    rintro rfl
    exact hy (List.mem_map.2 ⟨_, List.mem_singleton.2 rfl, hz⟩)
  unfold ptP
  rw [key x hx, key x' hx']
def ptFd (a n : Nat) (any : Nat → Bool) (v : Nat → Nat) : Fd := ⟨a, n, 1, ptP any v, fun i => [v i], ptL⟩
theorem ptFd_ok (a n : Nat) (any : Nat → Bool) (v : Nat → Nat) : FdOk (ptFd a n any v) :=
  ⟨fun _ => Nat.le_refl _, fun i d y x x' => pt_flat any v i d y x x', fun T => pt_split any v T, fun _ => ptL_mono⟩
/-! Intervals. -/
def ivP (lo hi : Nat → Nat) (i x : Nat) : Bool := decide (lo i ≤ x) && decide (x ≤ hi i)
def ivS (w : Nat → Nat) (c : Nat) : Nat → Nat
  | 0 => w 0
  | j + 1 => ivS w c j + w (min (j + 1) (2 * c - (j + 1)))
def ivL (w : Nat → Nat) (c : Nat) : Nat := ivS w c (2 * c)
theorem ivS_eq (w : Nat → Nat) (c : Nat) : ∀ n, ivS w c n = ((List.range (n + 1)).map fun j => w (min j (2 * c - j))).sum
  | 0 => by simp [ivS]
  | n + 1 => by
    rw [List.range_succ, List.map_append, List.sum_append]
    show ivS w c n + _ = _
    rw [ivS_eq w c n]
    simp
theorem ivL_mono {w : Nat → Nat} (hw : Mono w) : Mono (ivL w) := fun i j h => by
  unfold ivL
  rw [ivS_eq, ivS_eq]
  have e : List.range (2 * j + 1) = List.range (2 * i + 1) ++ (List.range (2 * j - 2 * i)).map (2 * i + 1 + ·) := by
    rw [show 2 * j + 1 = (2 * i + 1) + (2 * j - 2 * i) by omega, List.range_add]
  rw [e, List.map_append, List.sum_append]
  exact Nat.le_trans (sum_le fun x _ => hw _ _ (by omega)) (Nat.le_add_right _ _)
theorem filter_same {p q : Nat → Bool} : ∀ {T : List Nat}, (∀ i ∈ T, p i = true → q i = true) → (T.filter q).length ≤ (T.filter p).length → ∀ i ∈ T, p i = q i
  | [], _, _, i, h => by cases h
  | a :: r, h1, h2, i, hi => by
    have hle : (r.filter p).length ≤ (r.filter q).length := by
      have e : r.filter p = (r.filter q).filter p := by
        rw [List.filter_filter]
        refine List.filter_congr fun j hj => ?_
        cases hp : p j with
        | false => rfl
        | true => rw [h1 j (List.mem_cons_of_mem _ hj) hp]; rfl
      rw [e]
      exact List.length_filter_le _ _
    have ha := h1 a (List.mem_cons_self ..)
    have hr : (r.filter q).length ≤ (r.filter p).length ∧ p a = q a := by
      cases hpa : p a with
      | true =>
        have hqa := ha hpa
        rw [List.filter_cons_of_pos hpa, List.filter_cons_of_pos hqa] at h2
        simp only [List.length_cons] at h2
        exact ⟨by omega, hqa.symm⟩
      | false =>
        rw [show (a :: r).filter p = r.filter p from List.filter_cons_of_neg (by rw [hpa]; simp)] at h2
        cases hqa : q a with
        | true =>
          rw [List.filter_cons_of_pos hqa] at h2
          simp only [List.length_cons] at h2
          omega
        | false =>
          rw [show (a :: r).filter q = r.filter q from List.filter_cons_of_neg (by rw [hqa]; simp)] at h2
          exact ⟨h2, rfl⟩
    rcases List.mem_cons.1 hi with rfl | hi
    · exact hr.2
    · exact filter_same (fun j hj => h1 j (List.mem_cons_of_mem _ hj)) hr.1 i hi
theorem iv_split (lo hi : Nat → Nat) (T : List Nat) : ∃ A : List (List Nat), (∀ x, T.filter (fun i => ivP lo hi i x) ∈ A ∨ T.filter (fun i => ivP lo hi i x) = []) ∧ ∀ w : Nat → Nat, Mono w → (A.map fun U => w U.length).sum ≤ ivL w T.length := by
  let st := fun x => (T.filter fun i => decide (lo i ≤ x)).length
  let en := fun x => (T.filter fun i => decide (hi i < x)).length
  have hst : ∀ x y, x ≤ y → st x ≤ st y := fun x y h => by
    have e : (T.filter fun i => decide (lo i ≤ x)) = (T.filter fun i => decide (lo i ≤ y)).filter fun i => decide (lo i ≤ x) := by
      rw [List.filter_filter]
      refine List.filter_congr fun i _ => ?_
      by_cases h1 : lo i ≤ x
      · have : lo i ≤ y := by omega
        simp [h1, this]
      · simp [h1]
    show (T.filter fun i => decide (lo i ≤ x)).length ≤ _
    rw [e]
    exact List.length_filter_le _ _
  have hen : ∀ x y, x ≤ y → en x ≤ en y := fun x y h => by
    have e : (T.filter fun i => decide (hi i < x)) = (T.filter fun i => decide (hi i < y)).filter fun i => decide (hi i < x) := by
      rw [List.filter_filter]
      refine List.filter_congr fun i _ => ?_
      by_cases h1 : hi i < x
      · have : hi i < y := by omega
        simp [h1, this]
      · simp [h1]
    show (T.filter fun i => decide (hi i < x)).length ≤ _
    rw [e]
    exact List.length_filter_le _ _
  have hsame : ∀ x y, x ≤ y → st x + en x = st y + en y → T.filter (fun i => ivP lo hi i x) = T.filter fun i => ivP lo hi i y := fun x y h hs => by
    have h1 := hst x y h
    have h2 := hen x y h
    have e1 := filter_same (T := T) (p := fun i => decide (lo i ≤ x)) (q := fun i => decide (lo i ≤ y)) (fun i _ hp => by simp at hp ⊢; omega) (show st y ≤ st x by omega)
    have e2 := filter_same (T := T) (p := fun i => decide (hi i < x)) (q := fun i => decide (hi i < y)) (fun i _ hp => by simp at hp ⊢; omega) (show en y ≤ en x by omega)
    refine List.filter_congr fun i hi' => ?_
    have a1 := e1 i hi'
    have a2 := e2 i hi'
    simp only [decide_eq_decide] at a1 a2
    unfold ivP
    rw [show decide (lo i ≤ x) = decide (lo i ≤ y) from decide_eq_decide.2 a1, show decide (x ≤ hi i) = decide (y ≤ hi i) from decide_eq_decide.2 (by omega)]
  have hlen : ∀ x, (T.filter fun i => ivP lo hi i x).length ≤ min (st x + en x) (2 * T.length - (st x + en x)) := fun x => by
    have h1 : (T.filter fun i => ivP lo hi i x).length ≤ st x := by
      have e : (T.filter fun i => ivP lo hi i x) = (T.filter fun i => decide (lo i ≤ x)).filter fun i => decide (x ≤ hi i) := by
        rw [List.filter_filter]
        exact List.filter_congr fun i _ => by unfold ivP; rw [Bool.and_comm]
      rw [e]
      exact List.length_filter_le _ _
    have h2 : (T.filter fun i => ivP lo hi i x).length + en x ≤ T.length := by
      have h := len_parts (fun i => decide (hi i < x)) T
      have e : (T.filter fun i => ivP lo hi i x) = (T.filter fun i => !decide (hi i < x)).filter fun i => decide (lo i ≤ x) := by
        rw [List.filter_filter]
        refine List.filter_congr fun i _ => ?_
        unfold ivP
        by_cases h3 : hi i < x
        · have : ¬ x ≤ hi i := by omega
          simp [h3, this]
        · have : x ≤ hi i := by omega
          simp [h3, this]
      have h4 : (T.filter fun i => ivP lo hi i x).length ≤ (T.filter fun i => !decide (hi i < x)).length := by
        rw [e]
        exact List.length_filter_le _ _
      show _ + (T.filter fun i => decide (hi i < x)).length ≤ _
      omega
    have h3 : st x ≤ T.length := List.length_filter_le _ _
    omega
  open Classical in
  refine ⟨(List.range (2 * T.length + 1)).map fun j => if h : ∃ x, st x + en x = j then T.filter fun i => ivP lo hi i h.choose else [], fun x => .inl ?_, fun w mw => ?_⟩
  · refine List.mem_map.2 ⟨st x + en x, List.mem_range.2 ?_, ?_⟩
    · have h1 : st x ≤ T.length := List.length_filter_le _ _
      have h2 : en x ≤ T.length := List.length_filter_le _ _
      omega
    · have hx : ∃ z, st z + en z = st x + en x := ⟨x, rfl⟩
      rw [dif_pos hx]
      have hc := hx.choose_spec
      rcases Nat.le_total hx.choose x with h | h
      · exact hsame _ _ h hc
      · exact (hsame _ _ h hc.symm).symm
  · unfold ivL
    rw [ivS_eq, List.map_map]
    refine sum_le fun j _ => ?_
    show w (if h : ∃ x, st x + en x = j then T.filter fun i => ivP lo hi i h.choose else []).length ≤ _
    by_cases h : ∃ x, st x + en x = j
    · rw [dif_pos h]
      have h1 := hlen h.choose
      have h2 := h.choose_spec
      rw [h2] at h1
      exact mw _ _ h1
    · rw [dif_neg h]
      exact mw _ _ (Nat.zero_le _)
theorem iv_flat (lo hi : Nat → Nat) (i d y x x' : Nat) (hy : y ∉ [lo i, hi i].map (· / 2 ^ d)) (hx : x / 2 ^ d = y) (hx' : x' / 2 ^ d = y) : ivP lo hi i x = ivP lo hi i x' := by
  have hl : y ≠ lo i / 2 ^ d := fun e => hy (List.mem_map.2 ⟨lo i, by simp, e.symm⟩)
  have hh : y ≠ hi i / 2 ^ d := fun e => hy (List.mem_map.2 ⟨hi i, by simp, e.symm⟩)
  have k1 : ∀ z, z / 2 ^ d = y → ∀ c, y ≠ c / 2 ^ d → (c ≤ z ↔ c / 2 ^ d < y) := fun z hz c hc => by
    constructor
    · intro h
      have := Nat.div_le_div_right (c := 2 ^ d) h
      omega
    · intro h
      rcases Nat.lt_or_ge z c with h1 | h1
      · have := Nat.div_le_div_right (c := 2 ^ d) (Nat.le_of_lt h1)
        omega
      · exact h1
  have k2 : ∀ z, z / 2 ^ d = y → ∀ c, y ≠ c / 2 ^ d → (z ≤ c ↔ y < c / 2 ^ d) := fun z hz c hc => by
    constructor
    · intro h
      have := Nat.div_le_div_right (c := 2 ^ d) h
      omega
    · intro h
      rcases Nat.lt_or_ge c z with h1 | h1
      · have := Nat.div_le_div_right (c := 2 ^ d) (Nat.le_of_lt h1)
        omega
      · exact h1
  unfold ivP
  rw [decide_eq_decide.2 ((k1 x hx _ hl).trans (k1 x' hx' _ hl).symm), decide_eq_decide.2 ((k2 x hx _ hh).trans (k2 x' hx' _ hh).symm)]
def ivFd (a n : Nat) (lo hi : Nat → Nat) : Fd := ⟨a, n, 2, ivP lo hi, fun i => [lo i, hi i], ivL⟩
theorem ivFd_ok (a n : Nat) (lo hi : Nat → Nat) : FdOk (ivFd a n lo hi) :=
  ⟨fun _ => Nat.le_refl _, fun i d y x x' => iv_flat lo hi i d y x x', fun T => iv_split lo hi T, fun _ => ivL_mono⟩
end Go.Proofs.YthhcaoljejifeaaGreat

/-
  The arena's check, Var, Ite and what is made of it.
-/
namespace Go.Proofs.YthhcaoljejifeaaGreat
open Go Go.RowKit Go.ChangeMaps Go.MapKept Go.Maps Go.Lib Go.Sort

theorem givenL_get (G : List Nat) (f : Nat) : getM (givenL G) (.int .i64 f) = if f ∈ G then some (.bool true) else none := by
  induction G with
  | nil => rfl
  | cons a r ih =>
    show getM ((Value.int .i64 (a : Int), Value.bool true) :: givenL r) _ = _
    unfold getM at ih ⊢
    by_cases h : a = f
    · subst h
      rw [List.find?_cons_of_pos (by simp), if_pos (List.mem_cons_self ..)]
      rfl
    · rw [List.find?_cons_of_neg (by simp; omega), ih]
      by_cases hm : f ∈ r
      · rw [if_pos hm, if_pos (List.mem_cons_of_mem _ hm)]
      · rw [if_neg hm, if_neg (fun h' => by rcases List.mem_cons.1 h' with e | e; exact h e.symm; exact hm e)]
set_option maxRecDepth 100000 in
set_option maxHeartbeats 4000000 in
/-- Nodes that were given are nodes. -/
theorem check_any {w : World} {B : Nat} {A : Blks} {V Mo : Nat} {N : List Nd} {H G : List Nat} (hA : ArAt w B A V Mo N H G) (l : List Nat) (g c : Nat) (hv : ∀ (i x : Nat), l[i]? = some x → w.cell? ⟨g, i, none⟩ = some (.int .i64 x))
    (hG : ∀ x ∈ l, x ∈ G ∧ x ≤ 2147483647) (hl : l.length ≤ 1000) :
    Calls Tryz.prog 50 #[A.val, .slice (some ⟨g, 0, none⟩) l.length c] w fun e w' => e = .returned (.int .i64 0) ∧ Below w.heap.size w w' := by
  obtain ⟨nv, hN⟩ := hA
  have a5 : w.cell? ⟨A.a, 5, none⟩ = some (.map (some A.g)) := hN.cellAt rfl
  have HL := Lib.hid (fun (x : Nat) (hx : x ∈ l) => (show (Instr.lookup 118 (.map (some A.g)) (.int .i64 x) false).run Tryz.prog w = .ok (.bool true) w from by
    have h1 := hN.given.look i64_keyed Tryz.underlying118 (zero_bool w) false (key_i64 (a := (x : Int)) (by have := (hG x hx).2; omega))
    rw [givenL_get, if_pos (hG x hx).1] at h1
    exact h1))
  have HV := Lib.hid hv
  clear hN hv hG
  unfold Blks.val
  go_enter Tryz.func50, Tryz.ntmps50
  go_wp2
  go_loop [11] (fun i => ∃ k : Nat, i = .int .i64 k ∧ k ≤ l.length) (fun i => l.length - (intOf i).toNat)
  case atStart => exact ⟨0, rfl, by omega⟩
  case round =>
    obtain ⟨k, rfl, hk⟩ := hrel
    by_cases hlt : k < l.length
    · have hI : (k : Int) < (l.length : Int) := by omega
      obtain ⟨x, hx⟩ : ∃ x, l[k]? = some x := ⟨_, List.getElem?_eq_getElem hlt⟩
      have hc := HV.out k x hx
      have hlook := HL.out x (List.mem_of_getElem? hx)
      clear hx
      go_wp2
      exact ⟨⟨k + 1, by go_num, by omega⟩, by simp only [intOf]; omega⟩
    · obtain rfl : k = l.length := by omega
      have hI : ¬ (l.length : Int) < (l.length : Int) := by omega
      go_wp2
      go_ret
      exact ⟨rfl, Below.refl _ _⟩
/-- What an operation comes to: a node, then give. -/
def OpRes (w : World) (B : Nat) (A : Blks) (V Mo : Nat) (H G : List Nat) (T : Nat → List Nd → Prop) (e : Ending) (w' : World) : Prop :=
  ∃ (r : Nat) (N' : List Nd) (w1 : World), T r N' ∧ WF N' ∧ r < N'.length ∧ Kept A w w1 ∧ GiveRes w1 B A V Mo N' H G r e w'
theorem GiveRes.form {w : World} {B : Nat} {A : Blks} {V Mo : Nat} {N : List Nd} {H G : List Nat} {f : Nat} {e : Ending} {w' : World} (h : GiveRes w B A V Mo N H G f e w') : ∃ q c : Int, e = .returned (.tuple #[.int .i64 q, .int .i64 c]) := by
  rcases h with ⟨_, rfl, _⟩ | ⟨_, rfl, _⟩
  · exact ⟨_, _, rfl⟩
  · exact ⟨_, _, rfl⟩
theorem ext_ok {N N' : List Nd} (e : Ext N N') {F : List Nat} (h : FOk N F) : FOk N' F := ⟨h.1, fun i hi => ⟨(h.2 i hi).1, Nat.lt_of_lt_of_le (h.2 i hi).2 e.len⟩⟩
theorem new_cells (w : World) (l : List Nat) (t : TypeId) : ∀ (i x : Nat), l[i]? = some x → (w.alloc (.cells (l.map fun (n : Nat) => Value.int .i64 (n : Int)).toArray t)).cell? ⟨w.heap.size, i, none⟩ = some (.int .i64 x) := by
  intro i x hx
  have hb := blk1 w (.cells (l.map fun (n : Nat) => Value.int .i64 (n : Int)).toArray t)
  rw [cell_of_row _ _ i _ _ (0, 0) hb]
  simp [hx]
set_option maxRecDepth 100000 in
set_option maxHeartbeats 8000000 in
theorem Ite_any {w : World} {B : Nat} {A : Blks} {V Mo : Nat} {N : List Nd} {H G : List Nat} (f g h : Nat) (hA : ArAt w B A V Mo N H G) (hf : f ∈ G ∧ f < N.length) (hg : g ∈ G ∧ g < N.length) (hh : h ∈ G ∧ h < N.length) (hH : FOk N H) (hc : Cap N f g h) :
    Calls Tryz.prog 36 #[A.val, .int .i64 f, .int .i64 g, .int .i64 h] w (OpRes w B A V Mo H G (IteTo N f g h)) := by
  have hle : N.length ≤ 2147483647 := by obtain ⟨_, h⟩ := hA; exact h.le
  have hA1 := hA.below (below1 w (.cells ([f, g, h].map fun (n : Nat) => Value.int .i64 (n : Int)).toArray 3))
  have hk1 := Kept.of_below (A := A) hA.a_lt (below1 w (.cells ([f, g, h].map fun (n : Nat) => Value.int .i64 (n : Int)).toArray 3))
  have hck := check_any hA1 [f, g, h] w.heap.size 3 (new_cells w [f, g, h] 3) (by
    intro x hx
    simp at hx
    rcases hx with rfl | rfl | rfl
    · exact ⟨hf.1, by omega⟩
    · exact ⟨hg.1, by omega⟩
    · exact ⟨hh.1, by omega⟩) (by simp)
  have HA1 := Lib.hid hA1
  have HK1 := Lib.hid hk1
  have HCK := Lib.hid hck
  have HC := Lib.hid hc
  have HH := Lib.hid hH
  have f1 := hf.2
  have g1 := hg.2
  have h1 := hh.2
  have f2 : (f : Int) ≤ 2147483646 := by omega
  have g2 : (g : Int) ≤ 2147483646 := by omega
  have h2 : (h : Int) ≤ 2147483646 := by omega
  clear hA hA1 hk1 hck hc hH hf hg hh
  unfold Blks.val at *
  go_enter Tryz.func36, Tryz.ntmps36
  go_wp2_with (first
    | (refine HCK.out.mono ?_; rintro e W2 ⟨rfl, hb2⟩; have HA2 := Lib.hid (HA1.out.below hb2); have HK2 := Lib.hid (HK1.out.trans (Kept.of_below (A := A) HA1.out.a_lt hb2)); have HIT := Lib.hid (ite_any _ W2 B A V Mo N H G f g h (Nat.le_refl _) HA2.out f1 g1 h1 HC.out); unfold Blks.val at HIT; clear hb2)
    | ((with_reducible refine HIT.out.mono ?_); rintro e W3 ⟨r, N3, rfl, hto, hA3, hk3⟩; have HTO := Lib.hid hto; have HK3 := Lib.hid (HK2.out.trans hk3); have HGI := Lib.hid (give_any r hA3 hto.lt (ext_ok hto.ext HH.out)); unfold Blks.val at HGI; clear hto hA3 hk3)
    | ((with_reducible refine HGI.out.mono ?_); rintro e W4 hgv; have HGV := Lib.hid hgv; obtain ⟨q, ec, rfl⟩ := hgv.form; clear hgv))
  go_ret2
  exact ⟨r, N3, W3, HTO.out, HTO.out.wf, HTO.out.lt, HK3.out, HGV.out⟩
end Go.Proofs.YthhcaoljejifeaaGreat

/-
  The arena's Not, And, Or, Xor, Var.
-/
namespace Go.Proofs.YthhcaoljejifeaaGreat
open Go Go.RowKit Go.ChangeMaps Go.MapKept Go.Maps Go.Lib Go.Sort

theorem OpRes.form {w : World} {B : Nat} {A : Blks} {V Mo : Nat} {H G : List Nat} {T : Nat → List Nd → Prop} {e : Ending} {w' : World} (h : OpRes w B A V Mo H G T e w') : ∃ q c : Int, e = .returned (.tuple #[.int .i64 q, .int .i64 c]) := by
  obtain ⟨_, _, _, _, _, _, _, h⟩ := h
  exact h.form
section
variable {w : World} {B : Nat} {A : Blks} {V Mo : Nat} {N : List Nd} {H G : List Nat}
set_option maxRecDepth 100000
set_option maxHeartbeats 4000000
theorem Not_any (f : Nat) (hA : ArAt w B A V Mo N H G) (hf : f ∈ G ∧ f < N.length) (h0 : 0 ∈ G) (h1 : 1 ∈ G) (hH : FOk N H) (hc : Cap N f 0 1) :
    Calls Tryz.prog 82 #[A.val, .int .i64 f] w (OpRes w B A V Mo H G (IteTo N f 0 1)) := by
  have h2 : 2 ≤ N.length := by obtain ⟨_, h⟩ := hA; exact h.wf.two
  have hI := Ite_any f 0 1 hA hf ⟨h0, by omega⟩ ⟨h1, by omega⟩ hH hc
  unfold Blks.val at *
  have HI := Lib.hid hI
  clear hI hA
  go_enter Tryz.func82, Tryz.ntmps82
  go_wp2_with (refine HI.out.mono ?_; rintro e W2 ho; have HO := Lib.hid ho; obtain ⟨q, c, rfl⟩ := ho.form; clear ho)
  go_ret2
  exact HO.out
theorem And_any (f g : Nat) (hA : ArAt w B A V Mo N H G) (hf : f ∈ G ∧ f < N.length) (hg : g ∈ G ∧ g < N.length) (h0 : 0 ∈ G) (hH : FOk N H) (hc : Cap N f g 0) :
    Calls Tryz.prog 62 #[A.val, .int .i64 f, .int .i64 g] w (OpRes w B A V Mo H G (IteTo N f g 0)) := by
  have h2 : 2 ≤ N.length := by obtain ⟨_, h⟩ := hA; exact h.wf.two
  have hI := Ite_any f g 0 hA hf hg ⟨h0, by omega⟩ hH hc
  unfold Blks.val at *
  have HI := Lib.hid hI
  clear hI hA
  go_enter Tryz.func62, Tryz.ntmps62
  go_wp2_with (refine HI.out.mono ?_; rintro e W2 ho; have HO := Lib.hid ho; obtain ⟨q, c, rfl⟩ := ho.form; clear ho)
  go_ret2
  exact HO.out
theorem Or_any (f g : Nat) (hA : ArAt w B A V Mo N H G) (hf : f ∈ G ∧ f < N.length) (hg : g ∈ G ∧ g < N.length) (h1 : 1 ∈ G) (hH : FOk N H) (hc : Cap N f 1 g) :
    Calls Tryz.prog 37 #[A.val, .int .i64 f, .int .i64 g] w (OpRes w B A V Mo H G (IteTo N f 1 g)) := by
  have h2 : 2 ≤ N.length := by obtain ⟨_, h⟩ := hA; exact h.wf.two
  have hI := Ite_any f 1 g hA hf ⟨h1, by omega⟩ hg hH hc
  unfold Blks.val at *
  have HI := Lib.hid hI
  clear hI hA
  go_enter Tryz.func37, Tryz.ntmps37
  go_wp2_with (refine HI.out.mono ?_; rintro e W2 ho; have HO := Lib.hid ho; obtain ⟨q, c, rfl⟩ := ho.form; clear ho)
  go_ret2
  exact HO.out
theorem Var_any (i : Nat) (hA : ArAt w B A V Mo N H G) (hi : i < V) (hV : V ≤ 256) (hH : FOk N H) (hcap : ∀ r N', MkTo N i 0 1 r N' → N'.length ≤ 2147483647) :
    Calls Tryz.prog 81 #[A.val, .int .i64 i] w (OpRes w B A V Mo H G (MkTo N i 0 1)) := by
  have hwf : WF N := by obtain ⟨_, h⟩ := hA; exact h.wf
  have h2 := hwf.two
  have e0 : (nd N 0).v = 256 := by rw [hwf.ends 0 (by omega)]
  have e1 : (nd N 1).v = 256 := by rw [hwf.ends 1 (by omega)]
  have hM := mk_any i 0 1 hA (by omega) (by omega) (by omega) (by omega) (by omega) hcap
  have a0 : w.cell? ⟨A.a, 0, none⟩ = some (.int .i64 V) := by obtain ⟨_, h⟩ := hA; exact h.cellAt rfl
  have i1 : (i : Int) ≤ 255 := by omega
  have i2 : ¬ (i : Int) < 0 := by omega
  have i3 : ¬ (V : Int) ≤ (i : Int) := by omega
  unfold Blks.val at *
  have HM := Lib.hid hM
  have HH := Lib.hid hH
  have HW := Lib.hid (And.intro hwf (And.intro e0 e1))
  clear hM hA hcap hH hwf e0 e1
  go_enter Tryz.func81, Tryz.ntmps81
  go_wp2_with fail
  refine HM.out.mono ?_
  rintro e W2 ⟨r, N2, rfl, hm, hA2, hk2⟩
  have hgd := MkTo.good hm HW.out.1 (by omega) (by omega) (by rw [HW.out.2.1]; omega) (by rw [HW.out.2.2]; omega)
  have HMK := Lib.hid hm
  have HGD := Lib.hid hgd
  have HK := Lib.hid hk2
  have HGI := Lib.hid (give_any r hA2 hgd.2.2.1 (ext_ok hgd.1 HH.out))
  unfold Blks.val at HGI
  clear hm hA2 hk2 hgd
  go_wp2_with (refine HGI.out.mono ?_; rintro e W4 hgv; have HGV := Lib.hid hgv; obtain ⟨q, ec, rfl⟩ := hgv.form; clear hgv)
  go_ret2
  exact ⟨r, N2, W2, HMK.out, HGD.out.2.1, HGD.out.2.2.1, HK.out, HGV.out⟩
end
end Go.Proofs.YthhcaoljejifeaaGreat

/-
  An arena is made.
-/
namespace Go.Proofs.YthhcaoljejifeaaGreat
open Go Go.RowKit Go.ChangeMaps Go.MapKept Go.Maps Go.Lib Go.Sort

def N0 : List Nd := [⟨256, 0, 0⟩, ⟨256, 0, 0⟩]
theorem N0_wf : WF N0 := by
  refine ⟨by decide, fun i hi => ?_, fun i h2 hi => ?_, fun i h2 hi => ?_, fun i h2 hi => ?_, fun i h2 hi => ?_, fun i h2 hi => ?_, fun i j h2 hi => ?_⟩
  · obtain rfl | rfl : i = 0 ∨ i = 1 := by omega
    · rfl
    · rfl
  all_goals (exact absurd (show i < 2 from hi) (by omega))
theorem newArena {w w1 w2 : World} {V Mo : Nat} (hg1 : ((((w.alloc (.cells #[.int .i32 256, .int .i32 0, .int .i32 0, .int .i32 256, .int .i32 0, .int .i32 0] 114)).alloc (.map #[] 0)).alloc (.map #[] 0)).alloc (.map #[] 0)).grownBy w1 (some (w.heap.size + 1 + 1 + 1)))
    (hm2 : MapAt Tryz.prog 3 w2 (w.heap.size + 1 + 1 + 1) (putM (putM [] (.int .i64 0) (.bool true)) (.int .i64 1) (.bool true))) (hg2 : w1.grownBy w2 (some (w.heap.size + 1 + 1 + 1))) :
    ArAt ((w2.alloc (.map #[] 0)).alloc (.cells #[.int .i64 V, .int .i64 Mo, .slice (some ⟨w.heap.size, 0, none⟩) 2 2, .map (some (w.heap.size + 1)), .map (some (w.heap.size + 1 + 1)), .map (some (w.heap.size + 1 + 1 + 1)), .map (some w2.heap.size)] 121)) w.heap.size
      ⟨w2.heap.size + 1, w.heap.size + 1, w.heap.size + 1 + 1, w.heap.size + 1 + 1 + 1, w2.heap.size⟩ V Mo N0 [] [0, 1] ∧
    Below w.heap.size w ((w2.alloc (.map #[] 0)).alloc (.cells #[.int .i64 V, .int .i64 Mo, .slice (some ⟨w.heap.size, 0, none⟩) 2 2, .map (some (w.heap.size + 1)), .map (some (w.heap.size + 1 + 1)), .map (some (w.heap.size + 1 + 1 + 1)), .map (some w2.heap.size)] 121)) := by
  have hput : putM (putM [] (.int .i64 0) (.bool true)) (.int .i64 1) (.bool true) = givenL [0, 1] := by
    unfold putM
    simp [givenL]
  rw [hput] at hm2
  have hrow : (w.alloc (.cells #[.int .i32 256, .int .i32 0, .int .i32 0, .int .i32 256, .int .i32 0, .int .i32 0] 114)).ownsRow w.heap.size 114 3 (.slice (some ⟨w.heap.size, 0, none⟩) 2 2) 2 (ncells N0) :=
    World.ownsRow_lit w #[.int .i32 256, .int .i32 0, .int .i32 0, .int .i32 256, .int .i32 0, .int .i32 0] 2 (Nat.le_refl _) (by unfold maxLen; omega) rfl
  have s1 : (w.alloc (.cells #[.int .i32 256, .int .i32 0, .int .i32 0, .int .i32 256, .int .i32 0, .int .i32 0] 114)).heap.size = w.heap.size + 1 := by simp
  have hb1 := below1 w (.cells #[.int .i32 256, .int .i32 0, .int .i32 0, .int .i32 256, .int .i32 0, .int .i32 0] 114)
  generalize w.alloc (.cells #[.int .i32 256, .int .i32 0, .int .i32 0, .int .i32 256, .int .i32 0, .int .i32 0] 114) = W1 at *
  have hby := MapAt.made Tryz.prog 114 W1
  have s2 : (W1.alloc (.map #[] 0)).heap.size = w.heap.size + 1 + 1 := by simp [s1]
  have hb2 := below1 W1 (.map #[] 0)
  rw [s1] at hby
  generalize W1.alloc (.map #[] 0) = W2 at *
  have hit := MapAt.made Tryz.prog 140 W2
  have s3 : (W2.alloc (.map #[] 0)).heap.size = w.heap.size + 1 + 1 + 1 := by simp [s2]
  have hb3 := below1 W2 (.map #[] 0)
  rw [s2] at hit
  generalize W2.alloc (.map #[] 0) = W3 at *
  have s4 : (W3.alloc (.map #[] 0)).heap.size = w.heap.size + 1 + 1 + 1 + 1 := by simp [s3]
  have hb4 := below1 W3 (.map #[] 0)
  generalize W3.alloc (.map #[] 0) = W4 at *
  have z1 := hg1.size
  have z2 := hg2.size
  rw [s4] at z1
  have hhd := MapAt.made Tryz.prog 21 w2
  have s5 : (w2.alloc (.map #[] 0)).heap.size = w2.heap.size + 1 := by simp
  have hb5 := below1 w2 (.map #[] 0)
  generalize w2.alloc (.map #[] 0) = W5 at *
  have har := blk1 W5 (.cells #[.int .i64 V, .int .i64 Mo, .slice (some ⟨w.heap.size, 0, none⟩) 2 2, .map (some (w.heap.size + 1)), .map (some (w.heap.size + 1 + 1)), .map (some (w.heap.size + 1 + 1 + 1)), .map (some w2.heap.size)] 121)
  have hb6 := below1 W5 (.cells #[.int .i64 V, .int .i64 Mo, .slice (some ⟨w.heap.size, 0, none⟩) 2 2, .map (some (w.heap.size + 1)), .map (some (w.heap.size + 1 + 1)), .map (some (w.heap.size + 1 + 1 + 1)), .map (some w2.heap.size)] 121)
  rw [s5] at har
  generalize W5.alloc (.cells #[.int .i64 V, .int .i64 Mo, .slice (some ⟨w.heap.size, 0, none⟩) 2 2, .map (some (w.heap.size + 1)), .map (some (w.heap.size + 1 + 1)), .map (some (w.heap.size + 1 + 1 + 1)), .map (some w2.heap.size)] 121) = W6 at *
  rw [s1] at hb2
  rw [s2] at hb3
  rw [s3] at hb4
  rw [s5] at hb6
  have up : ∀ k, k < w2.heap.size → W6.heap[k]? = w2.heap[k]? := fun k hk => (hb6.block k (by omega)).trans (hb5.block k hk)
  have mid : ∀ k, k < w.heap.size + 1 + 1 + 1 → W6.heap[k]? = W4.heap[k]? := fun k hk =>
    (up k (by omega)).trans ((hg2.block k (by omega) (fun e => by injection e; omega)).trans (hg1.block k (by omega) (fun e => by injection e; omega)))
  have m3 : ∀ k, k < w.heap.size + 1 + 1 + 1 → W6.heap[k]? = W3.heap[k]? := fun k hk => (mid k hk).trans (hb4.block k hk)
  have m2 : ∀ k, k < w.heap.size + 1 + 1 → W6.heap[k]? = W2.heap[k]? := fun k hk => (m3 k (by omega)).trans (hb3.block k hk)
  have m1 : ∀ k, k < w.heap.size + 1 → W6.heap[k]? = W1.heap[k]? := fun k hk => (m2 k (by omega)).trans (hb2.block k hk)
  refine ⟨⟨.slice (some ⟨w.heap.size, 0, none⟩) 2 2, har, ?_, ⟨[], hby.same (m2 _ (by omega)), ?_⟩, ⟨[], hit.same (m3 _ (by omega)), ?_⟩, hm2.same (up _ (by omega)), hhd.same (hb6.block _ (by omega)), ?_, ?_, ?_, N0_wf, by decide⟩, ?_⟩
  · refine owns_like hrow fun k hk => m1 k ?_
    have : some w.heap.size = some k := hk
    injection this
    omega
  · exact ⟨fun i h2 hi => absurd (show i < 2 from hi) (by omega), fun n u hu => by cases hu⟩
  · exact fun f g k u hu => by cases hu
  · simp only [Blks.list, List.nodup_cons, List.mem_cons, List.not_mem_nil, or_false, not_or]
    refine ⟨⟨by omega, by omega, by omega, by omega⟩, ⟨by omega, by omega, by omega⟩, ⟨by omega, by omega⟩, by omega, by simp⟩
  · intro k hk
    simp only [Blks.list, List.mem_cons, List.not_mem_nil, or_false] at hk
    omega
  · intro k hk e
    have e : some w.heap.size = some k := e
    injection e with e
    simp only [Blks.list, List.mem_cons, List.not_mem_nil, or_false] at hk
    omega
  · refine ⟨hb6.os.trans (hb5.os.trans (hg2.os.trans (hg1.os.trans (hb4.os.trans (hb3.os.trans (hb2.os.trans hb1.os)))))), hb6.tape.trans (hb5.tape.trans (hg2.tape.trans (hg1.tape.trans (hb4.tape.trans (hb3.tape.trans (hb2.tape.trans hb1.tape)))))),
      hb6.output.trans (hb5.output.trans (hg2.output.trans (hg1.output.trans (hb4.output.trans (hb3.output.trans (hb2.output.trans hb1.output)))))), ?_, fun k hk => (m1 k (by omega)).trans (hb1.block k hk)⟩
    have := hb6.size
    have := hb5.size
    omega
set_option maxRecDepth 100000 in
set_option maxHeartbeats 4000000 in
theorem bddNew_any (w : World) (V Mo : Nat) (hV : V ≤ 256) (hMo : Mo ≤ 4194304) :
    Calls Tryz.prog 32 #[.int .i64 V, .int .i64 Mo] w fun e w' => ∃ A : Blks, e = .returned (.tuple #[A.val, .int .i64 0]) ∧ ArAt w' w.heap.size A V Mo N0 [] [0, 1] ∧ Below w.heap.size w w' := by
  have hk0 := key_i64 (a := 0) (by omega)
  have hk1 := key_i64 (a := 1) (by omega)
  have hmm := @run_makeMap Tryz.prog
  have g1 : ¬ (V : Int) < 0 := by omega
  have g2 : ¬ (256 : Int) < (V : Int) := by omega
  have g3 : ¬ (Mo : Int) < 0 := by omega
  have g4 : ¬ (4194304 : Int) < (Mo : Int) := by omega
  have hM : MapAt Tryz.prog 3 ((((w.alloc (.cells #[.int .i32 256, .int .i32 0, .int .i32 0, .int .i32 256, .int .i32 0, .int .i32 0] 114)).alloc (.map #[] 0)).alloc (.map #[] 0)).alloc (.map #[] 0)) (w.heap.size + 1 + 1 + 1) [] := by
    have := MapAt.made Tryz.prog 3 (((w.alloc (.cells #[.int .i32 256, .int .i32 0, .int .i32 0, .int .i32 256, .int .i32 0, .int .i32 0] 114)).alloc (.map #[] 0)).alloc (.map #[] 0))
    simpa using this
  go_enter Tryz.func32, Tryz.ntmps32
  go_wp2_with (first
    | (refine wpList_mapIns rfl _ _ _ 118 4 rfl i64_keyed Tryz.underlying118 rfl hM (.int .i64 0) (.bool true) _ rfl rfl hk0 ?_; intro w1 hm1 hg1)
    | (refine wpList_mapIns rfl _ _ _ 118 4 rfl i64_keyed Tryz.underlying118 rfl hm1 (.int .i64 1) (.bool true) _ rfl rfl hk1 ?_; intro w2 hm2 hg2))
  have hfin := Lib.hid (newArena (V := V) (Mo := Mo) hg1 hm2 hg2)
  clear hM hm1 hg1 hm2 hg2
  go_ret2
  exact ⟨_, rfl, hfin.out.1, hfin.out.2⟩
end Go.Proofs.YthhcaoljejifeaaGreat

/-
  A space is made.
-/
namespace Go.Proofs.YthhcaoljejifeaaGreat
open Go Go.RowKit Go.ChangeMaps Go.MapKept Go.Maps Go.Lib Go.Sort

/-- A space in memory. -/
structure SpAt (w : World) (B S km : Nat) (A : Blks) (Mo : Nat) (N : List Nd) (H G : List Nat) (K : List (Value × Value)) : Prop where
  ar : ArAt w B A 208 Mo N H G
  cells : w.heap[S]? = some (.cells #[.pointer (some ⟨A.a, 0, none⟩), .map (some km)] 101 (0, 0))
  fs : Foreign A w S
  known : MapAt Tryz.prog 3 w km K
  fk : Foreign A w km
  ne : S ≠ km
theorem SpAt.below {w w' : World} {B S km : Nat} {A : Blks} {Mo : Nat} {N : List Nd} {H G : List Nat} {K : List (Value × Value)} (h : SpAt w B S km A Mo N H G K) (hb : Below w.heap.size w w') : SpAt w' B S km A Mo N H G K :=
  ⟨h.ar.below hb, blk_below hb h.cells, ((Kept.of_below h.ar.a_lt hb).same _ h.fs).2, h.known.same (hb.block _ h.known.lt), ((Kept.of_below h.ar.a_lt hb).same _ h.fk).2, h.ne⟩
/-- The space behind a step of its arena. -/
theorem SpAt.step {w w' : World} {B S km : Nat} {A : Blks} {Mo : Nat} {N N' : List Nd} {H G H' G' : List Nat} {K : List (Value × Value)} (h : SpAt w B S km A Mo N H G K) (ha : ArAt w' B A 208 Mo N' H' G') (hk : Kept A w w') : SpAt w' B S km A Mo N' H' G' K :=
  ⟨ha, (hk.same _ h.fs).1.trans h.cells, (hk.same _ h.fs).2, h.known.same (hk.same _ h.fk).1, (hk.same _ h.fk).2, h.ne⟩
theorem SpAt.c0 {w : World} {B S km : Nat} {A : Blks} {Mo : Nat} {N : List Nd} {H G : List Nat} {K : List (Value × Value)} (h : SpAt w B S km A Mo N H G K) : w.cell? ⟨S, 0, none⟩ = some (.pointer (some ⟨A.a, 0, none⟩)) := by
  rw [cell_of_row w _ 0 _ _ (0, 0) h.cells]; rfl
theorem SpAt.c1 {w : World} {B S km : Nat} {A : Blks} {Mo : Nat} {N : List Nd} {H G : List Nat} {K : List (Value × Value)} (h : SpAt w B S km A Mo N H G K) : w.cell? ⟨S, 1, none⟩ = some (.map (some km)) := by
  rw [cell_of_row w _ 1 _ _ (0, 0) h.cells]; rfl
set_option maxRecDepth 100000 in
set_option maxHeartbeats 4000000 in
theorem relNew_any (w : World) (Mo : Nat) (hMo : Mo ≤ 4194304) :
    Calls Tryz.prog 14 #[.int .i64 Mo] w fun e w' => ∃ (S km : Nat) (A : Blks), e = .returned (.tuple #[.pointer (some ⟨S, 0, none⟩), .int .i64 0]) ∧ SpAt w' w.heap.size S km A Mo N0 [] [0, 1] [] ∧ Below w.heap.size w w' ∧ w.heap.size ≤ S ∧ w.heap.size ≤ km := by
  have hmm := @run_makeMap Tryz.prog
  have g3 : ¬ (Mo : Int) < 0 := by omega
  have g4 : ¬ (4194304 : Int) < (Mo : Int) := by omega
  go_enter Tryz.func14, Tryz.ntmps14
  go_wp2_with (refine (bddNew_any w 208 Mo (by omega) hMo).mono ?_; rintro e w1 ⟨A, rfl, hA, hb⟩; have HA := Lib.hid hA; have HB := Lib.hid hb; clear hA hb; unfold Blks.val)
  go_ret2
  have b2 := below2 w1 (.map #[] 0) (.cells #[.pointer (some ⟨A.a, 0, none⟩), .map (some w1.heap.size)] 101)
  have hm := (MapAt.made Tryz.prog 3 w1)
  have s1 : (w1.alloc (.map #[] 0)).heap.size = w1.heap.size + 1 := by simp
  have hc := blk1 (w1.alloc (.map #[] 0)) (.cells #[.pointer (some ⟨A.a, 0, none⟩), .map (some w1.heap.size)] 101)
  rw [s1] at hc
  have hb3 := below1 (w1.alloc (.map #[] 0)) (.cells #[.pointer (some ⟨A.a, 0, none⟩), .map (some w1.heap.size)] 101)
  have z := HB.out.size
  exact ⟨w1.heap.size + 1, w1.heap.size, A, rfl, ⟨HA.out.below b2, hc, HA.out.foreign_new b2 (by omega) (lt_of_block hc), hm.same (hb3.block _ hm.lt), HA.out.foreign_new b2 (Nat.le_refl _) (by simp; omega), by omega⟩, HB.out.trans (b2.mono z), by omega, by omega⟩
end Go.Proofs.YthhcaoljejifeaaGreat

/-
  The arena's Xor.
-/
namespace Go.Proofs.YthhcaoljejifeaaGreat
open Go Go.RowKit Go.ChangeMaps Go.MapKept Go.Maps Go.Lib Go.Sort

/-- What Xor's two steps come to. -/
def XorTo (N : List Nd) (f g r : Nat) (N' : List Nd) : Prop := ∃ (q : Nat) (N1 : List Nd), IteTo N g 0 1 q N1 ∧ IteTo N1 f q g r N'
end Go.Proofs.YthhcaoljejifeaaGreat

/-
  A space and what its nodes say.
-/
namespace Go.Proofs.YthhcaoljejifeaaGreat
open Go Go.RowKit Go.ChangeMaps Go.MapKept Go.Maps Go.Lib Go.Sort

/-- What a space has: nodes, the held, the given, what is known. -/
structure Sg where
  N : List Nd
  H : List Nat
  G : List Nat
  K : List (Value × Value)
def IsSet (N : List Nd) (g : Nat) : Prop := ∀ v, v % 2 = 1 → Free (fun s => ev N s g) v
structure SgOk (Mo : Nat) (σ : Sg) : Prop where
  wf : WF σ.N
  hok : FOk σ.N σ.H
  cl : Cl σ.N σ.H
  g : ∀ g ∈ σ.G, g < σ.N.length ∧ (g < 2 ∨ g ∈ σ.H) ∧ Hangs (fun s => ev σ.N s g) 0 208
  g0 : 0 ∈ σ.G
  g1 : 1 ∈ σ.G
  k : ∀ p ∈ σ.K, ∃ g ∈ σ.G, p.1 = .int .i64 (g : Int) ∧ (p.2 = .int .i64 1 ∨ p.2 = .int .i64 2 ∧ IsSet σ.N g)
  mo : σ.H.length ≤ Mo
  le : σ.N.length ≤ 2147483647
structure SpOk (w : World) (B S km : Nat) (A : Blks) (Mo : Nat) (σ : Sg) : Prop where
  sp : SpAt w B S km A Mo σ.N σ.H σ.G σ.K
  ok : SgOk Mo σ
/-- The space went on: at most k nodes more, at most m more held. -/
structure To (k m : Nat) (σ τ : Sg) : Prop where
  ext : Ext σ.N τ.N
  nl : τ.N.length ≤ σ.N.length + k
  hl : τ.H.length ≤ σ.H.length + m
  g : ∀ g ∈ σ.G, g ∈ τ.G
  h : ∀ g ∈ σ.H, g ∈ τ.H
theorem To.refl (σ : Sg) : To 0 0 σ σ := ⟨Ext.refl _, Nat.le_refl _, Nat.le_refl _, fun _ h => h, fun _ h => h⟩
theorem To.trans {k m k' m' : Nat} {a b c : Sg} (h : To k m a b) (g : To k' m' b c) : To (k + k') (m + m') a c :=
  ⟨h.ext.trans g.ext, by have := h.nl; have := g.nl; omega, by have := h.hl; have := g.hl; omega, fun x hx => g.g x (h.g x hx), fun x hx => g.h x (h.h x hx)⟩
theorem To.mono {k m k' m' : Nat} {a b : Sg} (h : To k m a b) (hk : k ≤ k') (hm : m ≤ m') : To k' m' a b :=
  ⟨h.ext, by have := h.nl; omega, by have := h.hl; omega, h.g, h.h⟩
/-- A given node says F. -/
def Den (σ : Sg) (g : Nat) (F : Fun) : Prop := g ∈ σ.G ∧ ∀ s, ev σ.N s g = F s
theorem Den.to {k m Mo Mo' : Nat} {σ τ : Sg} {g : Nat} {F : Fun} (h : Den σ g F) (t : To k m σ τ) (o : SgOk Mo σ) (p : SgOk Mo' τ) : Den τ g F :=
  ⟨t.g g h.1, fun s => (t.ext.ev o.wf p.wf s (o.g g h.1).1).trans (h.2 s)⟩
theorem Den.zero {Mo : Nat} {σ : Sg} (o : SgOk Mo σ) : Den σ 0 (fun _ => false) := ⟨o.g0, fun _ => rfl⟩
theorem Den.one {Mo : Nat} {σ : Sg} (o : SgOk Mo σ) : Den σ 1 (fun _ => true) := ⟨o.g1, fun _ => rfl⟩
theorem Den.hangs {Mo : Nat} {σ : Sg} {g : Nat} {F : Fun} (h : Den σ g F) (o : SgOk Mo σ) : Hangs F 0 208 := by
  have := (o.g g h.1).2.2
  rw [show (fun s => ev σ.N s g) = F from funext h.2] at this
  exact this
/-- One node for one function. -/
theorem Den.same {Mo : Nat} {σ : Sg} {g h : Nat} {F : Fun} (a : Den σ g F) (b : Den σ h F) (o : SgOk Mo σ) : g = h :=
  o.wf.canon (g + h) g h (by omega) (by omega) (o.g g a.1).1 (o.g h b.1).1 fun s => (a.2 s).trans (b.2 s).symm
theorem Den.level {Mo : Nat} {σ : Sg} {g v : Nat} {F : Fun} (h : Den σ g F) (o : SgOk Mo σ) (hF : Hangs F (v + 1) 256) (hv : v < 256) : v < (nd σ.N g).v :=
  o.wf.level (o.g g h.1).1 (m := v + 1) (by omega) fun s t e => by
    rw [h.2, h.2]
    exact hF s t fun u h1 _ => e u h1
theorem Den.grow {Mo : Nat} {σ : Sg} {g : Nat} {F : Fun} (h : Den σ g F) (o : SgOk Mo σ) : Grow σ.N σ.H F 0 0 := by
  have := Grow.old (H := σ.H) o.wf (o.g g h.1).1 (o.g g h.1).2.1
  rw [show (fun s => ev σ.N s g) = F from funext h.2] at this
  exact this
theorem Den.step {Mo : Nat} {σ : Sg} {g h v : Nat} {F G : Fun} (a : Den σ g F) (b : Den σ h G) (o : SgOk Mo σ) (hv : v < 208) (hF : Hangs F (v + 1) 256) (hG : Hangs G (v + 1) 256) : Grow σ.N σ.H (fun s => if s v then F s else G s) 1 1 := by
  have := Grow.step (H := σ.H) o.wf (by omega : v < 256) (o.g g a.1).1 (o.g h b.1).1 (a.level o hF (by omega)) (b.level o hG (by omega)) (o.g g a.1).2.1 (o.g h b.1).2.1
  rw [show (fun s : Nat → Bool => if s v then ev σ.N s g else ev σ.N s h) = fun s => if s v then F s else G s from funext fun s => by rw [a.2, b.2]] at this
  exact this
/-- A node that is the answer F of an operation. -/
structure Ans (N : List Nd) (F : Fun) (r : Nat) (N' : List Nd) : Prop where
  ext : Ext N N'
  wf : WF N'
  lt : r < N'.length
  sem : ∀ s, ev N' s r = F s
  new : ∀ i, N.length ≤ i → i < N'.length → Rch N' r i
theorem IteTo.ans {N N' : List Nd} {f g h r : Nat} (t : IteTo N f g h r N') : Ans N (fun s => if ev N s f then ev N s g else ev N s h) r N' := ⟨t.ext, t.wf, t.lt, t.sem, t.new⟩
/-- Nothing but the space has turned. -/
structure KeptS (A : Blks) (km : Nat) (w w' : World) : Prop where
  os : w'.os = w.os
  tape : w'.tape = w.tape
  output : w'.output = w.output
  size : w.heap.size ≤ w'.heap.size
  same : ∀ k, Foreign A w k → k ≠ km → w'.heap[k]? = w.heap[k]? ∧ Foreign A w' k
theorem KeptS.refl (A : Blks) (km : Nat) (w : World) : KeptS A km w w := ⟨rfl, rfl, rfl, Nat.le_refl _, fun _ h _ => ⟨rfl, h⟩⟩
theorem KeptS.trans {A : Blks} {km : Nat} {a b c : World} (h : KeptS A km a b) (g : KeptS A km b c) : KeptS A km a c :=
  ⟨g.os.trans h.os, g.tape.trans h.tape, g.output.trans h.output, Nat.le_trans h.size g.size, fun k hk hn => ⟨(g.same k (h.same k hk hn).2 hn).1.trans (h.same k hk hn).1, (g.same k (h.same k hk hn).2 hn).2⟩⟩
theorem Kept.space {A : Blks} {w w' : World} (h : Kept A w w') (km : Nat) : KeptS A km w w' := ⟨h.os, h.tape, h.output, h.size, fun k hk _ => h.same k hk⟩
theorem SpOk.below {w w' : World} {B S km : Nat} {A : Blks} {Mo : Nat} {σ : Sg} (h : SpOk w B S km A Mo σ) (hb : Below w.heap.size w w') : SpOk w' B S km A Mo σ := ⟨h.sp.below hb, h.ok⟩
theorem SpOk.kept {w w' : World} {B S km : Nat} {A : Blks} {Mo : Nat} {σ : Sg} (h : SpOk w B S km A Mo σ) (hb : Below w.heap.size w w') : KeptS A km w w' := (Kept.of_below h.sp.ar.a_lt hb).space km
/-- What a call on a space comes to: F's node, or no room. -/
def SpRes (w : World) (B S km : Nat) (A : Blks) (Mo : Nat) (σ : Sg) (F : Fun) (k m : Nat) (e : Ending) (w' : World) : Prop :=
  KeptS A km w w' ∧ ((e = .returned (.tuple #[.int .i64 0, .int .i64 3]) ∧ Mo < σ.H.length + m ∧ ∃ τ, SpOk w' B S km A Mo τ ∧ To k m σ τ) ∨
    ∃ (r : Nat) (τ : Sg), e = .returned (.tuple #[.int .i64 r, .int .i64 0]) ∧ SpOk w' B S km A Mo τ ∧ To k m σ τ ∧ Den τ r F)
theorem SpOk.op' {w : World} {B S km : Nat} {A : Blks} {Mo : Nat} {σ : Sg} (h : SpOk w B S km A Mo σ) {T : Nat → List Nd → Prop} {e : Ending} {w' : World} {F : Fun} {k m : Nat} (ho : OpRes w B A 208 Mo σ.H σ.G T e w')
    (hT : ∀ r N', T r N' → (Ext σ.N N' ∧ ∀ s, ev N' s r = F s) ∧ N'.length ≤ σ.N.length + k ∧ (newL N' σ.H r).length ≤ m) (hF : Hangs F 0 208) : SpRes w B S km A Mo σ F k m e w' := by
  obtain ⟨r, N', w1, t, wf', rlt, hk, hgv⟩ := ho
  obtain ⟨⟨aext, asem⟩, g1, g2⟩ := hT r N' t
  have hcl := h.ok.cl.ext aext fun i hi => (h.ok.hok.2 i hi).2
  have hhok := ext_ok aext h.ok.hok
  have hgd : ∀ g ∈ σ.G, g < N'.length ∧ (g < 2 ∨ g ∈ σ.H) ∧ Hangs (fun s => ev N' s g) 0 208 := fun g hg => by
    obtain ⟨p1, p2, p3⟩ := h.ok.g g hg
    refine ⟨Nat.lt_of_lt_of_le p1 aext.len, p2, ?_⟩
    rw [show (fun s => ev N' s g) = fun s => ev σ.N s g from funext fun s => aext.ev h.ok.wf wf' s p1]
    exact p3
  have hkd : ∀ p ∈ σ.K, ∃ g ∈ σ.G, p.1 = .int .i64 (g : Int) ∧ (p.2 = .int .i64 1 ∨ p.2 = .int .i64 2 ∧ IsSet N' g) := fun p hp => by
    obtain ⟨g, q1, q2, q3⟩ := h.ok.k p hp
    refine ⟨g, q1, q2, q3.imp id fun q => ⟨q.1, ?_⟩⟩
    unfold IsSet
    rw [show (fun s => ev N' s g) = fun s => ev σ.N s g from funext fun s => aext.ev h.ok.wf wf' s (h.ok.g g q1).1]
    exact q.2
  have hle : ∀ {H' G'} {w'' : World}, ArAt w'' B A 208 Mo N' H' G' → N'.length ≤ 2147483647 := fun ha => by obtain ⟨_, x⟩ := ha; exact x.le
  rcases hgv with ⟨f1, rfl, ha, hk2⟩ | ⟨f1, rfl, ha, hk2⟩
  · refine ⟨(hk.trans hk2).space km, .inl ⟨rfl, by omega, ⟨N', σ.H, σ.G, σ.K⟩, ⟨h.sp.step ha (hk.trans hk2), wf', hhok, hcl, hgd, h.ok.g0, h.ok.g1, hkd, h.ok.mo, hle ha⟩, aext, g1, Nat.le_add_right _ _, fun _ x => x, fun _ x => x⟩⟩
  · obtain ⟨c1, c2⟩ := newL_cl wf' hcl rlt
    have hG : ∀ g ∈ σ.G, g ∈ addL σ.G r := fun g hg => by unfold addL; split; exact hg; exact List.mem_append_left _ hg
    have hr : r ∈ addL σ.G r := by unfold addL; split; assumption; simp
    have hG2 : ∀ g ∈ addL σ.G r, g ∈ σ.G ∨ g = r := fun g hg => by
      unfold addL at hg
      split at hg
      · exact .inl hg
      · simpa using hg
    refine ⟨(hk.trans hk2).space km, .inr ⟨r, ⟨N', σ.H ++ newL N' σ.H r, addL σ.G r, σ.K⟩, rfl, ⟨h.sp.step ha (hk.trans hk2), wf', ⟨?_, fun i hi => ?_⟩, c1, fun g hg => ?_, hG 0 h.ok.g0, hG 1 h.ok.g1, fun p hp => ?_, by simpa using f1, hle ha⟩, ⟨aext, g1, by simp; omega, hG, fun _ x => List.mem_append_left _ x⟩, hr, asem⟩⟩
    · exact List.nodup_append.2 ⟨hhok.1, (newL_ok wf' σ.H rlt).1, fun x hx y hy e => newL_off N' σ.H r y hy (e ▸ hx)⟩
    · rcases List.mem_append.1 hi with hi | hi
      · exact hhok.2 i hi
      · exact (newL_ok wf' σ.H rlt).2 i hi
    · rcases hG2 g hg with hg | rfl
      · obtain ⟨p1, p2, p3⟩ := hgd g hg
        exact ⟨p1, p2.imp id fun x => List.mem_append_left _ x, p3⟩
      · refine ⟨rlt, ?_, ?_⟩
        · rcases Nat.lt_or_ge g 2 with x | x
          · exact .inl x
          · exact .inr (c2 x)
        · show Hangs (fun s => ev N' s g) 0 208
          rw [show (fun s => ev N' s g) = F from funext asem]
          exact hF
    · obtain ⟨g, q1, q2⟩ := hkd p hp
      exact ⟨g, hG g q1, q2⟩
theorem SpOk.op {w : World} {B S km : Nat} {A : Blks} {Mo : Nat} {σ : Sg} (h : SpOk w B S km A Mo σ) {T : Nat → List Nd → Prop} {e : Ending} {w' : World} {F : Fun} {k m : Nat} (ho : OpRes w B A 208 Mo σ.H σ.G T e w')
    (hT : ∀ r N', T r N' → Ans σ.N F r N') (hF : Hangs F 0 208) (hg : Grow σ.N σ.H F k m) : SpRes w B S km A Mo σ F k m e w' :=
  h.op' ho (fun r N' t => ⟨⟨(hT r N' t).ext, (hT r N' t).sem⟩, hg r N' (hT r N' t).ext (hT r N' t).wf (hT r N' t).lt (hT r N' t).sem (hT r N' t).new⟩) hF
section
variable {w : World} {B S km : Nat} {A : Blks} {Mo : Nat} {σ : Sg}
theorem SpRes.form {F : Fun} {k m : Nat} {e : Ending} {w' : World} (h : SpRes w B S km A Mo σ F k m e w') : ∃ q c : Int, e = .returned (.tuple #[.int .i64 q, .int .i64 c]) := by
  rcases h.2 with ⟨rfl, _⟩ | ⟨_, _, rfl, _⟩
  · exact ⟨_, _, rfl⟩
  · exact ⟨_, _, rfl⟩
theorem Ans.same {N N' : List Nd} {F G : Fun} {r : Nat} (a : Ans N F r N') (h : ∀ s, F s = G s) : Ans N G r N' := ⟨a.ext, a.wf, a.lt, fun s => (a.sem s).trans (h s), a.new⟩
theorem MkTo.ans {N N' : List Nd} {v lo hi r : Nat} (m : MkTo N v lo hi r N') (h : WF N) (hlo : lo < N.length) (hhi : hi < N.length) (hvl : v < (nd N lo).v) (hvh : v < (nd N hi).v) : Ans N (fun s => if s v then ev N s hi else ev N s lo) r N' := by
  obtain ⟨a, b, c, d⟩ := m.good h hlo hhi hvl hvh
  refine ⟨a, b, c, d, fun i h1 h2 => ?_⟩
  rcases m with ⟨rfl, rfl, rfl⟩ | ⟨hne, _, hr, hn, rfl⟩ | ⟨hne, hnew, rfl, rfl⟩
  · omega
  · omega
  · have : i = N.length := by simp at h2; omega
    rw [this]
    exact .refl _
theorem SpOk.var (h : SpOk w B S km A Mo σ) (i : Nat) (hi : i < 208) (hl : σ.N.length + 1 ≤ 2147483647) :
    Calls Tryz.prog 81 #[.pointer (some ⟨A.a, 0, none⟩), .int .i64 i] w (SpRes w B S km A Mo σ (fun s => s i) 1 1) := by
  have two := h.ok.wf.two
  have e0 : (nd σ.N 0).v = 256 := by rw [h.ok.wf.ends 0 (by omega)]
  have e1 : (nd σ.N 1).v = 256 := by rw [h.ok.wf.ends 1 (by omega)]
  have hgr := (Den.one h.ok).step (Den.zero h.ok) h.ok hi (Hangs.const true _ _) (Hangs.const false _ _)
  rw [show (fun s : Nat → Bool => if s i then true else false) = fun s => s i from funext fun s => by cases s i <;> rfl] at hgr
  refine (Var_any i h.sp.ar hi (by omega) h.ok.hok fun r N' m => ?_).mono fun e w' ho => h.op ho (fun r N' m => ?_) ((Hangs.var i).mono (by omega) (by omega)) hgr
  · rcases m with ⟨_, _, rfl⟩ | ⟨_, _, _, _, rfl⟩ | ⟨_, _, _, rfl⟩
    · omega
    · omega
    · simpa using hl
  · exact (m.ans h.ok.wf (by omega) (by omega) (by omega) (by omega)).same fun s => by rw [ev_zero, ev_one]; cases s i <;> rfl
theorem SpOk.ite (h : SpOk w B S km A Mo σ) {f g k : Nat} {F G K : Fun} (hf : Den σ f F) (hg : Den σ g G) (hk : Den σ k K) {a b : Nat} (hgr : Grow σ.N σ.H (fun s => if F s then G s else K s) a b) (hl : σ.N.length + a ≤ 2147483647) :
    Calls Tryz.prog 36 #[.pointer (some ⟨A.a, 0, none⟩), .int .i64 f, .int .i64 g, .int .i64 k] w (SpRes w B S km A Mo σ (fun s => if F s then G s else K s) a b) := by
  have e : (fun s => if ev σ.N s f then ev σ.N s g else ev σ.N s k) = fun s => if F s then G s else K s := funext fun s => by rw [hf.2, hg.2, hk.2]
  have hgr' := hgr
  rw [← e] at hgr'
  refine (Ite_any f g k h.sp.ar ⟨hf.1, (h.ok.g f hf.1).1⟩ ⟨hg.1, (h.ok.g g hg.1).1⟩ ⟨hk.1, (h.ok.g k hk.1).1⟩ h.ok.hok (hgr'.cap hl)).mono fun e' w' ho => h.op ho (fun r N' t => ?_) ((hf.hangs h.ok).op (fun x y z => if x then y else z) (hg.hangs h.ok) (hk.hangs h.ok)) hgr
  exact t.ans.same fun s => congrFun e s
theorem SpOk.not (h : SpOk w B S km A Mo σ) {f : Nat} {F : Fun} (hf : Den σ f F) {a b : Nat} (hgr : Grow σ.N σ.H (fun s => !F s) a b) (hl : σ.N.length + a ≤ 2147483647) :
    Calls Tryz.prog 82 #[.pointer (some ⟨A.a, 0, none⟩), .int .i64 f] w (SpRes w B S km A Mo σ (fun s => !F s) a b) := by
  have e : (fun s => if ev σ.N s f then ev σ.N s 0 else ev σ.N s 1) = fun s => !F s := funext fun s => by rw [hf.2, ev_zero, ev_one]; cases F s <;> rfl
  have hgr' := hgr
  rw [← e] at hgr'
  refine (Not_any f h.sp.ar ⟨hf.1, (h.ok.g f hf.1).1⟩ h.ok.g0 h.ok.g1 h.ok.hok (hgr'.cap hl)).mono fun e' w' ho => h.op ho (fun r N' t => ?_) ((hf.hangs h.ok).op1 (fun x => !x)) hgr
  exact t.ans.same fun s => congrFun e s
theorem SpOk.and (h : SpOk w B S km A Mo σ) {f g : Nat} {F G : Fun} (hf : Den σ f F) (hg : Den σ g G) {a b : Nat} (hgr : Grow σ.N σ.H (fun s => F s && G s) a b) (hl : σ.N.length + a ≤ 2147483647) :
    Calls Tryz.prog 62 #[.pointer (some ⟨A.a, 0, none⟩), .int .i64 f, .int .i64 g] w (SpRes w B S km A Mo σ (fun s => F s && G s) a b) := by
  have e : (fun s => if ev σ.N s f then ev σ.N s g else ev σ.N s 0) = fun s => F s && G s := funext fun s => by rw [hf.2, hg.2, ev_zero]; cases F s <;> rfl
  have hgr' := hgr
  rw [← e] at hgr'
  refine (And_any f g h.sp.ar ⟨hf.1, (h.ok.g f hf.1).1⟩ ⟨hg.1, (h.ok.g g hg.1).1⟩ h.ok.g0 h.ok.hok (hgr'.cap hl)).mono fun e' w' ho => h.op ho (fun r N' t => ?_) ((hf.hangs h.ok).op2 (fun x y => x && y) (hg.hangs h.ok)) hgr
  exact t.ans.same fun s => congrFun e s
theorem SpOk.or (h : SpOk w B S km A Mo σ) {f g : Nat} {F G : Fun} (hf : Den σ f F) (hg : Den σ g G) {a b : Nat} (hgr : Grow σ.N σ.H (fun s => F s || G s) a b) (hl : σ.N.length + a ≤ 2147483647) :
    Calls Tryz.prog 37 #[.pointer (some ⟨A.a, 0, none⟩), .int .i64 f, .int .i64 g] w (SpRes w B S km A Mo σ (fun s => F s || G s) a b) := by
  have e : (fun s => if ev σ.N s f then ev σ.N s 1 else ev σ.N s g) = fun s => F s || G s := funext fun s => by rw [hf.2, hg.2, ev_one]; cases F s <;> rfl
  have hgr' := hgr
  rw [← e] at hgr'
  refine (Or_any f g h.sp.ar ⟨hf.1, (h.ok.g f hf.1).1⟩ ⟨hg.1, (h.ok.g g hg.1).1⟩ h.ok.g1 h.ok.hok (hgr'.cap hl)).mono fun e' w' ho => h.op ho (fun r N' t => ?_) ((hf.hangs h.ok).op2 (fun x y => x || y) (hg.hangs h.ok)) hgr
  exact t.ans.same fun s => congrFun e s
end
end Go.Proofs.YthhcaoljejifeaaGreat

/-
  A number's bits laid in a space.
-/
namespace Go.Proofs.YthhcaoljejifeaaGreat
open Go Go.RowKit Go.ChangeMaps Go.MapKept Go.Maps Go.Lib Go.Sort

def litF (x : Nat) (b : Bool) (F : Fun) : Fun := fun s => (s x == b) && F s
/-- The last m bits of a field's n, read from the last one up, are v's. -/
def bitsF (a o n v : Nat) : Nat → Fun
  | 0 => fun _ => true
  | m + 1 => litF (2 * (a + (n - 1 - m)) + o) (v.testBit m) (bitsF a o n v m)
theorem Hangs.lit {F : Fun} {x a b : Nat} (c : Bool) (h : Hangs F a b) (h1 : x ≤ a) (h2 : x < b) : Hangs (litF x c F) x b := fun s t e => by
  unfold litF
  rw [e x (Nat.le_refl _) h2, h s t fun u h3 h4 => e u (by omega) h4]
theorem bitsF_hangs (a o n v : Nat) (ho : o < 2) : ∀ m, m ≤ n → Hangs (bitsF a o n v m) (2 * (a + (n - m)) + o) (2 * (a + n) + o)
  | 0, _ => Hangs.const true _ _
  | m + 1, hm => by
    have := bitsF_hangs a o n v ho m (by omega)
    rw [show n - (m + 1) = n - 1 - m from by omega]
    exact this.lit _ (by omega) (by omega)
theorem SpRes.after {w w1 w' : World} {B S km : Nat} {A : Blks} {Mo : Nat} {σ τ : Sg} {F : Fun} {k m k' m' : Nat} {e : Ending} (t : To k m σ τ) (hk : KeptS A km w w1) (h : SpRes w1 B S km A Mo τ F k' m' e w') : SpRes w B S km A Mo σ F (k + k') (m + m') e w' := by
  refine ⟨hk.trans h.1, ?_⟩
  rcases h.2 with ⟨h1, h2, τ', h3, h4⟩ | ⟨r, τ', h1, h2, h3, h4⟩
  · exact .inl ⟨h1, by have := t.hl; omega, τ', h3, t.trans h4⟩
  · exact .inr ⟨r, τ', h1, h2, t.trans h3, h4⟩
theorem SpRes.mono {w w' : World} {B S km : Nat} {A : Blks} {Mo : Nat} {σ : Sg} {F : Fun} {k m k' m' : Nat} {e : Ending} (h : SpRes w B S km A Mo σ F k m e w') (hk : k ≤ k') (hm : m ≤ m') : SpRes w B S km A Mo σ F k' m' e w' := by
  refine ⟨h.1, ?_⟩
  rcases h.2 with ⟨h1, h2, τ', h3, h4⟩ | ⟨r, τ', h1, h2, h3, h4⟩
  · exact .inl ⟨h1, by omega, τ', h3, h4.mono hk hm⟩
  · exact .inr ⟨r, τ', h1, h2, h3.mono hk hm, h4⟩
/-- No room: whatever was asked. -/
theorem SpRes.full {w w' : World} {B S km : Nat} {A : Blks} {Mo : Nat} {σ τ : Sg} {F : Fun} {k m : Nat} {e : Ending} (hk : KeptS A km w w') (h1 : e = .returned (.tuple #[.int .i64 0, .int .i64 3])) (h2 : Mo < σ.H.length + m) (h3 : SpOk w' B S km A Mo τ) (h4 : To k m σ τ) : SpRes w B S km A Mo σ F k m e w' :=
  ⟨hk, .inl ⟨h1, h2, τ, h3, h4⟩⟩
theorem Den.lit {Mo : Nat} {σ : Sg} {g x : Nat} {F : Fun} (a : Den σ g F) (o : SgOk Mo σ) (hx : x < 208) (hF : Hangs F (x + 1) 256) (b : Bool) : Grow σ.N σ.H (litF x b F) 1 1 := by
  cases b
  · have := (Den.zero o).step a o hx (Hangs.const false _ _) hF
    rw [show (fun s : Nat → Bool => if s x then false else F s) = litF x false F from funext fun s => by unfold litF; cases s x <;> rfl] at this
    exact this
  · have := a.step (Den.zero o) o hx hF (Hangs.const false _ _)
    rw [show (fun s : Nat → Bool => if s x then F s else false) = litF x true F from funext fun s => by unfold litF; cases s x <;> rfl] at this
    exact this
theorem Den.notvar {Mo : Nat} {σ : Sg} {x : Nat} (o : SgOk Mo σ) (hx : x < 208) : Grow σ.N σ.H (fun s => !s x) 1 1 := by
  have := (Den.zero o).step (Den.one o) o hx (Hangs.const false _ _) (Hangs.const true _ _)
  rw [show (fun s : Nat → Bool => if s x then false else true) = fun s => !s x from funext fun s => by cases s x <;> rfl] at this
  exact this
set_option maxHeartbeats 400000 in
theorem now_any (i : Nat) (w : World) (hi : i < 1000) : Calls Tryz.prog 73 #[.int .i64 i] w fun e w' => e = .returned (.int .i64 ((2 * i + 0 : Nat) : Int)) ∧ w' = w := by
  go_enter Tryz.func73, Tryz.ntmps73
  go_wp2
  go_ret
  exact ⟨by go_num, rfl⟩
/-- A function of bits: the bit's variable. -/
structure VarF (vf : FuncId) (o : Nat) : Prop where
  o2 : o < 2
  en : ∀ (args : Array Value) (w : World), (callFunc vf args).run Tryz.prog w = .ok (.enter vf args) w
  calls : ∀ (i : Nat) (w : World), i < 1000 → Calls Tryz.prog vf #[.int .i64 i] w fun e w' => e = .returned (.int .i64 ((2 * i + o : Nat) : Int)) ∧ w' = w
theorem nowF : VarF 73 0 := ⟨by omega, fun _ _ => by go_simp, now_any⟩
theorem bit_u64 (v m : Nat) (hv : v < 4294967296) : bits .and .u64 ((v : Int) / 2 ^ m) 1 = if v.testBit m then 1 else 0 := by
  have e : ((v : Int) / 2 ^ m) = ((v / 2 ^ m : Nat) : Int) := by
    simp
  have hlt : v / 2 ^ m ≤ v := Nat.div_le_self _ _
  rw [e, show (1 : Int) = ((1 : Nat) : Int) from rfl, u64_and_nat _ _ (by omega) (by omega), Nat.and_one_is_mod, Nat.testBit_eq_decide_div_mod_eq]
  have : v / 2 ^ m % 2 = 0 ∨ v / 2 ^ m % 2 = 1 := by omega
  rcases this with h | h <;> simp [h]
theorem SpRes.two {w w' : World} {B S km : Nat} {A : Blks} {Mo : Nat} {σ : Sg} {F : Fun} {k m : Nat} {q c : Int} (h : SpRes w B S km A Mo σ F k m (.returned (.tuple #[.int .i64 q, .int .i64 c])) w') :
    (q = 0 ∧ c = 3 ∧ Mo < σ.H.length + m ∧ ∃ τ, SpOk w' B S km A Mo τ ∧ To k m σ τ) ∨ ∃ (r : Nat) (τ : Sg), q = r ∧ c = 0 ∧ SpOk w' B S km A Mo τ ∧ To k m σ τ ∧ Den τ r F := by
  rcases h.2 with ⟨h1, h2⟩ | ⟨r, τ, h1, h2⟩
  · injection h1 with h1
    simp at h1
    exact .inl ⟨h1.1, h1.2, h2⟩
  · injection h1 with h1
    simp at h1
    exact .inr ⟨r, τ, h1.1, h1.2, h2⟩
theorem SpRes.c0 {w w' : World} {B S km : Nat} {A : Blks} {Mo : Nat} {σ : Sg} {F : Fun} {k m : Nat} {e : Ending} (h : SpRes w B S km A Mo σ F k m e w') : w'.cell? ⟨S, 0, none⟩ = some (.pointer (some ⟨A.a, 0, none⟩)) := by
  rcases h.2 with ⟨_, _, _, h, _⟩ | ⟨_, _, _, h, _⟩ <;> exact h.sp.c0
set_option maxRecDepth 100000 in
set_option maxHeartbeats 2000000 in
theorem bits_any {w : World} {B S km : Nat} {A : Blks} {Mo : Nat} {σ : Sg} (h : SpOk w B S km A Mo σ) {vf : FuncId} {o : Nat} (V : VarF vf o) (a n v : Nat) (hn : a + n ≤ 104) (hn32 : n ≤ 32) (hv : v < 4294967296) (hl : σ.N.length + 3 * n ≤ 2147483647) :
    Calls Tryz.prog 71 #[.pointer (some ⟨S, 0, none⟩), .int .i64 a, .int .i64 n, .int .u64 v, .func (.func vf) #[] #[]] w (SpRes w B S km A Mo σ (bitsF a o n v n) (3 * n) (3 * n)) := by
  have HS := Lib.hid h
  have hen := V.en
  have HV := Lib.hid V
  have hn1 : (n : Int) ≤ 104 := by omega
  have ha1 : (a : Int) ≤ 104 := by omega
  clear h V
  go_enter Tryz.func71, Tryz.ntmps71
  go_wp2
  go_loopw [12, 13] (fun f i wr => ∃ m : Nat, m ≤ n ∧ i = .int .i64 ((n : Int) - 1 - m) ∧ ∃ (r : Nat) (τ : Sg), f = .int .i64 r ∧ Hid (SpOk wr B S km A Mo τ) ∧ Hid (To (3 * m) (3 * m) σ τ) ∧ Hid (Den τ r (bitsF a o n v m)) ∧ Hid (KeptS A km w wr)) (fun _ i _ => (intOf i + 1).toNat)
  case atStart => exact ⟨0, by omega, by simp, 1, σ, rfl, HS, Lib.hid (To.refl σ), Lib.hid (Den.one HS.out.ok), Lib.hid (KeptS.refl _ _ _)⟩
  case round =>
    obtain ⟨m, hm, rfl, r, τ, rfl, HS1, HT1, HD1, HK1⟩ := hrel
    by_cases hlt : m < n
    · have hI : (n : Int) - 1 - m ≥ 0 := by omega
      have c0 := HS1.out.sp.c0
      obtain ⟨x, hx⟩ : ∃ x, x = 2 * (a + (n - 1 - m)) + o := ⟨_, rfl⟩
      have hxi : ((a + (n - 1 - m) : Nat) : Int) = (a : Int) + ((n : Int) - 1 - m) := by omega
      have ho := HV.out.o2
      have HN := Lib.hid (show ∀ W, Calls Tryz.prog vf #[.int .i64 ((a : Int) + ((n : Int) - 1 - m))] W (fun e w' => e = .returned (.int .i64 (x : Int)) ∧ w' = W) from fun W => by
        have := HV.out.calls (a + (n - 1 - m)) W (by omega)
        rw [hxi, ← hx] at this
        exact this)
      have hwd : Below wr.heap.size wr wr.drew := ⟨rfl, rfl, rfl, Nat.le_refl _, fun _ _ => rfl⟩
      have HSD := Lib.hid (HS1.out.below hwd)
      have HKD := Lib.hid (HK1.out.trans (HS1.out.kept hwd))
      have hnl := HT1.out.nl
      have hvar := Lib.hid (HSD.out.var x (by omega) (by omega))
      have hw1 : IntKind.i64.wrap ((a : Int) + ((n : Int) - 1 - m)) = (a : Int) + ((n : Int) - 1 - m) := IntWalk.i64_in _ (by omega)
      have HX := Lib.hid hx
      clear hxi hnl hwd ho hx
      go_upto_region 5 with fail
      go_region_held3 (fun w' => w'.cell? ⟨S, 0, none⟩ = some (.pointer (some ⟨A.a, 0, none⟩))) (first | exact hcs | go_keep) ((first
        | ((with_reducible refine (HN.out _).mono ?_); rintro e _ ⟨rfl, rfl⟩)
        | ((with_reducible refine hvar.out.mono ?_); rintro e W5 hr5; obtain ⟨q5, c5, he5⟩ := hr5.form; have HR5 := Lib.hid hr5; subst he5; have hcs : W5.cell? ⟨S, 0, none⟩ = some (.pointer (some ⟨A.a, 0, none⟩)) := hr5.c0; clear hr5)))
      have hfin5 := HR5.out.two
      clear hcs
      rcases hfin5 with ⟨rfl, rfl, hlt5, τ5, hs5, ht5⟩ | ⟨r5, τ5, rfl, rfl, hs5, ht5, hd5⟩
      · have HFIN := Lib.hid (SpRes.full (F := bitsF a o n v n) (HKD.out.trans HR5.out.1) rfl (by have := HT1.out.hl; omega) hs5 ((HT1.out.trans ht5).mono (show 3 * m + 1 ≤ 3 * n by omega) (show 3 * m + 1 ≤ 3 * n by omega)))
        clear hlt5 hs5 ht5
        go_wp2
        go_ret2
        exact HFIN.out
      · have HS5 := Lib.hid hs5
        have HT5 := Lib.hid (HT1.out.trans ht5)
        have HD5 := Lib.hid hd5
        have HK5 := Lib.hid (HKD.out.trans HR5.out.1)
        have c5 := hs5.sp.c0
        have HD5r := Lib.hid (HD1.out.to ht5 HS1.out.ok hs5.ok)
        clear hs5 ht5 hd5 HR5 hvar HN
        have hsh : (n : Int) - 1 - ((n : Int) - 1 - m) = m := by omega
        have hn5 := HT5.out.nl
        have hh5 := HT5.out.hl
        have hxl : x < 208 := by have := HX.out; have := HV.out.o2; omega
        have HLF : Hid (∀ (W : World) (q : Nat) (τ6 : Sg) (k : Nat), k ≤ 1 → SpOk W B S km A Mo τ6 → To k k τ5 τ6 → KeptS A km w W → Den τ6 q (fun s => s x == v.testBit m) → Calls Tryz.prog 62 #[.pointer (some ⟨A.a, 0, none⟩), .int .i64 q, .int .i64 r] W (fun e w' => ∃ Q C : Int, e = .returned (.tuple #[.int .i64 Q, .int .i64 C]) ∧ ((Q = 0 ∧ C = 3 ∧ SpRes w B S km A Mo σ (bitsF a o n v n) (3 * n) (3 * n) e w') ∨
            ∃ (r' : Nat) (τ' : Sg), Q = r' ∧ C = 0 ∧ SpOk w' B S km A Mo τ' ∧ To (3 * (m + 1)) (3 * (m + 1)) σ τ' ∧ Den τ' r' (bitsF a o n v (m + 1)) ∧ KeptS A km w w'))) := Lib.hid (by
          intro W q τ6 k hk h6 t6 k6 d6
          have hrd := HD5r.out.to t6 HS5.out.ok h6.ok
          have hgr := hrd.lit h6.ok hxl ((bitsF_hangs a o n v HV.out.o2 m hm).mono (show x + 1 ≤ 2 * (a + (n - m)) + o by have := HX.out; omega) (by have := HV.out.o2; omega)) (v.testBit m)
          have n6 := t6.nl
          have l6 := t6.hl
          have t7 := HT5.out.trans t6
          refine (h6.and d6 hrd (a := 1) (b := 1) hgr (by omega)).mono fun e w' hr => ?_
          obtain ⟨Q, C, rfl⟩ := hr.form
          refine ⟨Q, C, rfl, ?_⟩
          rcases hr.two with ⟨h1, h2, h3, τ', h4, h5⟩ | ⟨r', τ', h1, h2, h4, h5, h6⟩
          · subst h1 h2
            exact .inl ⟨rfl, rfl, SpRes.full (k6.trans hr.1) rfl (by omega) h4 ((t7.trans h5).mono (by omega) (by omega))⟩
          · refine .inr ⟨r', τ', h1, h2, h4, (t7.trans h5).mono (by omega) (by omega), ?_, k6.trans hr.1⟩
            have : bitsF a o n v (m + 1) = fun s => (s x == v.testBit m) && bitsF a o n v m s := by rw [HX.out]; rfl
            rw [this]
            exact h6)
        clear hn5 hh5 hxl HD5r
        cases hb : v.testBit m with
        | false =>
          have hbit : bits .and .u64 ((v : Int) / 2 ^ m) 1 = 0 := by rw [bit_u64 v m hv, hb]; rfl
          have hnot := Lib.hid (HS5.out.not HD5.out (a := 1) (b := 1) (Den.notvar HS5.out.ok (by have := HX.out; have := HV.out.o2; omega)) (by have := HT5.out.nl; omega))
          rw [hb] at HLF
          clear hb
          go_upto_region 10 with ((with_reducible refine hnot.out.mono ?_); rintro e W6 hr6; obtain ⟨q6, c6, he6⟩ := hr6.form; subst he6; have HR6 := Lib.hid hr6; clear hr6)
          rcases HR6.out.two with ⟨rfl, rfl, hlt6, τ6, hs6, ht6⟩ | ⟨r6, τ6, rfl, rfl, hs6, ht6, hd6⟩
          · have HFIN := Lib.hid (SpRes.full (F := bitsF a o n v n) (HK5.out.trans HR6.out.1) rfl (by have := HT5.out.hl; omega) hs6 ((HT5.out.trans ht6).mono (show 3 * m + 1 + 1 ≤ 3 * n by omega) (show 3 * m + 1 + 1 ≤ 3 * n by omega)))
            clear hlt6 hs6 ht6
            go_wp2
            go_ret2
            exact HFIN.out
          · have c6 := hs6.sp.c0
            have HAND := Lib.hid (HLF.out W6 r6 τ6 1 (by omega) hs6 ht6 (HK5.out.trans HR6.out.1) (by
              refine ⟨hd6.1, fun s => (hd6.2 s).trans ?_⟩
              show (!s x) = (s x == false)
              cases s x <;> rfl))
            clear hs6 ht6 hd6 HR6 hnot HLF c5
            go_upto_region 13 with ((with_reducible refine HAND.out.mono ?_); rintro e W7 ⟨q7, c7, he7, hr7⟩; subst he7; have HR7 := Lib.hid hr7; clear hr7)
            rcases HR7.out with ⟨rfl, rfl, hr⟩ | ⟨r7, τ7, rfl, rfl, hs7, ht7, hd7, hk7⟩
            · have HFIN := Lib.hid hr
              clear hr HR7
              go_wp2
              go_ret2
              exact HFIN.out
            · have HS7 := Lib.hid hs7
              have HT7 := Lib.hid ht7
              have HD7 := Lib.hid hd7
              have HK7 := Lib.hid hk7
              clear hs7 ht7 hd7 hk7 HR7 HAND
              go_wp2
              exact ⟨⟨m + 1, by omega, by go_num, r7, τ7, rfl, HS7, HT7, HD7, HK7⟩, by simp only [intOf]; omega⟩
        | true =>
          have hbit : bits .and .u64 ((v : Int) / 2 ^ m) 1 = 1 := by rw [bit_u64 v m hv, hb]; rfl
          rw [hb] at HLF
          have HAND := Lib.hid (HLF.out W5 r5 τ5 0 (by omega) HS5.out (To.refl _) HK5.out (by
              refine ⟨HD5.out.1, fun s => (HD5.out.2 s).trans ?_⟩
              show s x = (s x == true)
              cases s x <;> rfl))
          clear HLF hb
          go_upto_region 13 with ((with_reducible refine HAND.out.mono ?_); rintro e W7 ⟨q7, c7, he7, hr7⟩; subst he7; have HR7 := Lib.hid hr7; clear hr7)
          rcases HR7.out with ⟨rfl, rfl, hr⟩ | ⟨r7, τ7, rfl, rfl, hs7, ht7, hd7, hk7⟩
          · have HFIN := Lib.hid hr
            clear hr HR7
            go_wp2
            go_ret2
            exact HFIN.out
          · have HS7 := Lib.hid hs7
            have HT7 := Lib.hid ht7
            have HD7 := Lib.hid hd7
            have HK7 := Lib.hid hk7
            clear hs7 ht7 hd7 hk7 HR7 HAND
            go_wp2
            exact ⟨⟨m + 1, by omega, by go_num, r7, τ7, rfl, HS7, HT7, HD7, HK7⟩, by simp only [intOf]; omega⟩
    · obtain rfl : m = n := by omega
      have hI : ¬ (m : Int) - 1 - m ≥ 0 := by omega
      have HFIN : Hid (SpRes w B S km A Mo σ (bitsF a o m v m) (3 * m) (3 * m) (.returned (.tuple #[.int .i64 r, .int .i64 0])) wr) := Lib.hid ⟨HK1.out, .inr ⟨r, τ, rfl, HS1.out, HT1.out, HD1.out⟩⟩
      go_wp2
      go_ret2
      exact HFIN.out
end Go.Proofs.YthhcaoljejifeaaGreat

/-
  Diagrams, plain: how many nodes stand ahead of nodes that are held already. No program in sight.
-/
namespace Go.Proofs.YthhcaoljejifeaaGreat

/-- Between a node and one beneath it, behind the variable u: a node that is what is left there. -/
theorem Rch.cross {N : List Nd} (w : WF N) {u : Nat} {r i : Nat} (h : Rch N r i) (hr : r < N.length) (hu : u < (nd N i).v) : ∃ j s, Rch N r j ∧ Rch N j i ∧ ∀ t, ev N (mixS (u + 1) s t) r = ev N t j := by
  have here : ∀ r i, Rch N r i → r < N.length → u < (nd N r).v → ∃ j s, Rch N r j ∧ Rch N j i ∧ ∀ t, ev N (mixS (u + 1) s t) r = ev N t j := fun r i h hr hu =>
    ⟨r, fun _ => false, .refl r, h, fun t => ev_agree w r _ _ hr fun v hv => mixS_high _ _ (by omega)⟩
  induction h with
  | refl i => exact here i i (.refl i) hr hu
  | @lo r i a b h ih =>
    rcases Nat.lt_or_ge u (nd N r).v with hv | hv
    · exact here r i (.lo a b h) hr hv
    · have h1 := w.lo _ a b
      have h2 := w.vlo _ a b
      obtain ⟨j, s, j1, j2, hs⟩ := ih (by omega) hu
      refine ⟨j, put s (nd N r).v false, .lo a b j1, j2, fun t => ?_⟩
      rw [ev_node w _ a b, mixS_low _ _ (by omega), put_same, if_neg (by simp), ← hs t]
      refine ev_agree w _ _ _ (by omega) fun v hv => ?_
      unfold mixS
      split
      · exact put_other (by omega)
      · rfl
  | @hi r i a b h ih =>
    rcases Nat.lt_or_ge u (nd N r).v with hv | hv
    · exact here r i (.hi a b h) hr hv
    · have h1 := w.hi _ a b
      have h2 := w.vhi _ a b
      obtain ⟨j, s, j1, j2, hs⟩ := ih (by omega) hu
      refine ⟨j, put s (nd N r).v true, .hi a b j1, j2, fun t => ?_⟩
      rw [ev_node w _ a b, mixS_low _ _ (by omega), put_same, if_pos rfl, ← hs t]
      refine ev_agree w _ _ _ (by omega) fun v hv => ?_
      unfold mixS
      split
      · exact put_other (by omega)
      · rfl
/-- Behind u all that is left has nodes that are held: only the nodes up to u are new. -/
theorem Grow.top {N : List Nd} {H : List Nat} {F : Fun} {u : Nat} (w : WF N) (hH : Cl N H) (hHl : ∀ i ∈ H, i < N.length) (c : Nat → Nat) (hc : ∀ v, v ≤ u → Free F v ∨ CutLe F v (c v))
    (hu : ∀ s, ∃ g, g < N.length ∧ (g < 2 ∨ g ∈ H) ∧ ∀ t, F (mixS (u + 1) s t) = ev N t g) : Grow N H F (sumTo c (u + 1)) (sumTo c (u + 1)) := fun r N' e w' hr hs hn => by
  have hl := e.len
  have old : ∀ i, Rch N' r i → u < (nd N' i).v → i < N.length ∧ (i < 2 ∨ i ∈ H) := fun i hi hui => by
    obtain ⟨j, s, j1, j2, hj⟩ := hi.cross w' hr hui
    obtain ⟨g, g1, g2, g3⟩ := hu s
    have hjl := j1.lt w' hr
    have : j = g := w'.canon (j + g) j g (by omega) (by omega) hjl (by omega) fun t => by rw [← hj t, hs, g3, e.ev w w' t g1]
    subst this
    have hle := j2.le w' hjl
    refine ⟨by omega, ?_⟩
    rcases Nat.lt_or_ge i 2 with i2 | i2
    · exact .inl i2
    · rcases g2 with g2 | g2
      · omega
      · exact .inr ((hH.ext e hHl).rch j2 g2 i2)
  have bound : ∀ l : List Nat, l.Nodup → (∀ i ∈ l, 2 ≤ i ∧ Rch N' r i ∧ (nd N' i).v ≤ u) → l.length ≤ sumTo c (u + 1) := fun l hd hm => by
    refine by_label (fun i => (nd N' i).v) c (u + 1) l (fun i hi => by have := (hm i hi).2.2; show (nd N' i).v < u + 1; omega) fun v hv => ?_
    have hm' : ∀ i ∈ (l.filter fun i => decide ((nd N' i).v = v)), i ∈ l ∧ (nd N' i).v = v := fun i hi => by
      have := List.mem_filter.1 hi
      exact ⟨this.1, by simpa using this.2⟩
    rcases hc v (by omega) with hf | ⟨L, hL, hcc⟩
    · refine Nat.le_trans (Nat.le_of_eq ?_) (Nat.zero_le _)
      rw [List.length_eq_zero_iff, List.eq_nil_iff_forall_not_mem]
      intro i hi
      obtain ⟨h1, h2⟩ := hm' i hi
      refine not_free w' hr (hm i h1).2.1 (hm i h1).1 ?_
      rw [h2, show (fun s => ev N' s r) = F from funext hs]
      exact hf
    · refine Nat.le_trans (inj_len _ L (fun i s => ev N' s i) (hd.filter _) (fun i hi => ?_) fun i hi j hj e => ?_) hL
      · obtain ⟨h1, h2⟩ := hm' i hi
        obtain ⟨s, hs'⟩ := (hm i h1).2.1.path w' hr
        have := hcc s
        rw [show cof F v s = fun t => ev N' t i from funext fun t => by rw [← hs' t, h2]; exact (hs _).symm] at this
        exact this
      · have h1 := hm i (hm' i hi).1
        have h2 := hm j (hm' j hj).1
        have := h1.2.1.lt w' hr
        have := h2.2.1.lt w' hr
        exact w'.canon (i + j) i j (by omega) (by omega) (by omega) (by omega) fun s => congrFun e s
  constructor
  · have hd : ((List.range (N'.length - N.length)).map (· + N.length)).Nodup := by
      refine List.Pairwise.map _ (fun a b h => ?_) List.nodup_range
      omega
    have two := w.two
    have := bound _ hd (fun i hi => by
      simp only [List.mem_map, List.mem_range] at hi
      obtain ⟨a, ha, rfl⟩ := hi
      have hr' := hn (a + N.length) (by omega) (by omega)
      refine ⟨by omega, hr', ?_⟩
      rcases Nat.lt_or_ge u (nd N' (a + N.length)).v with h | h
      · have := (old _ hr' h).1
        omega
      · exact h)
    simp at this
    omega
  · refine bound _ (newL_ok w' H hr).1 fun i hi => ?_
    rcases dfs_rch w' H _ _ _ hr i hi with h | ⟨h2, h⟩
    · cases h
    · refine ⟨h2, h, ?_⟩
      rcases Nat.lt_or_ge u (nd N' i).v with h' | h'
      · rcases (old i h h').2 with h3 | h3
        · omega
        · exact absurd h3 (newL_off N' H r i hi)
      · exact h'
/-- All that is left is false, or one of k. -/
def CutF (F : Fun) (v k : Nat) : Prop := ∃ L : List Fun, L.length ≤ k ∧ ∀ s, cof F v s ∈ (fun _ => false) :: L
theorem CutF.le {F : Fun} {v k : Nat} (h : CutF F v k) : CutLe F v (k + 1) := by
  obtain ⟨L, a, b⟩ := h
  exact ⟨_, by simp; exact a, b⟩
theorem Hangs.aheadF {F : Fun} {a b v : Nat} (h : Hangs F a b) (hv : v ≤ a) : CutF F v 1 := by
  obtain ⟨L, h1, h2⟩ := h.ahead hv
  exact ⟨L, h1, fun s => List.mem_cons_of_mem _ (h2 s)⟩
end Go.Proofs.YthhcaoljejifeaaGreat

/-
  From each header to those with the same bits, but for those of a part (written by wip/gen/genrb3.py).
-/
namespace Go.Proofs.YthhcaoljejifeaaGreat
open Go Go.RowKit Go.ChangeMaps Go.MapKept Go.Maps Go.Lib Go.Sort

theorem sumTo_two (a p q : Nat) : ∀ n, sumTo (fun v => if v = a then p else if v = a + 1 then q else 0) n ≤ (if a < n then p else 0) + (if a + 1 < n then q else 0)
  | 0 => by simp [sumTo]
  | n + 1 => by
    have ih := sumTo_two a p q n
    show sumTo _ n + (if n = a then p else if n = a + 1 then q else 0) ≤ _
    by_cases h1 : n = a
    · subst h1
      rw [if_neg (by omega), if_neg (by omega)] at ih
      rw [if_pos rfl, if_pos (by omega), if_neg (by omega)]
      omega
    · rw [if_neg h1]
      by_cases h2 : n = a + 1
      · subst h2
        rw [if_pos (by omega), if_neg (by omega)] at ih
        rw [if_pos rfl, if_pos (by omega), if_pos (by omega)]
        omega
      · rw [if_neg h2]
        by_cases l1 : a < n
        · by_cases l2 : a + 1 < n
          · rw [if_pos l1, if_pos l2] at ih
            rw [if_pos (by omega), if_pos (by omega)]
            exact ih
          · omega
        · rw [if_neg l1, if_neg (by omega)] at ih
          rw [if_neg (by omega), if_neg (by omega)]
          exact ih
theorem Wid.two {F : Fun} {a p q : Nat} (ha : a + 1 < 256) (h : Hangs F a (a + 2)) (h1 : CutLe F a p) (h2 : CutLe F (a + 1) q) : Wid F (p + q) := by
  refine ⟨_, fun v hv => ?_, Nat.le_trans (sumTo_two a p q 256) (by rw [if_pos (by omega), if_pos ha]; exact Nat.le_refl _)⟩
  by_cases e1 : v = a
  · subst e1
    refine .inr ?_
    simp only [if_true]
    exact h1
  · by_cases e2 : v = a + 1
    · subst e2
      refine .inr ?_
      simp only [e1, if_false, if_true]
      exact h2
    · exact .inl (h.free (by omega))
/-- Two cofactors at the second of two variables. -/
theorem CutLe.second {F : Fun} {a b : Nat} (h : Hangs F a b) : CutLe F (a + 1) 2 := by
  refine ⟨[fun t => F (put t a false), fun t => F (put t a true)], Nat.le_refl _, fun s => ?_⟩
  have e : cof F (a + 1) s = fun t => F (put t a (s a)) := funext fun t => h _ _ fun u h1 h2 => by
    rcases Nat.eq_or_lt_of_le h1 with e | e
    · subst e
      rw [mixS_low _ _ (by omega), put_same]
    · rw [mixS_high _ _ (by omega), put_other (by omega)]
  rw [e]
  cases s a <;> simp
def xorF (a : Nat) : Fun := fun s => s a != s (a + 1)
/-- The bits i of 2 i and 2 i + 1 are the same, and more. -/
def eqF (a : Nat) (F : Fun) : Fun := fun s => (s a == s (a + 1)) && F s
def sameF (a nb : Nat) : Nat → Fun
  | 0 => fun _ => true
  | m + 1 => if a ≤ 103 - m ∧ 103 - m < a + nb then sameF a nb m else eqF (2 * (103 - m)) (sameF a nb m)
theorem Hangs.eqF {F : Fun} {x a b : Nat} (h : Hangs F a b) (h1 : x + 2 ≤ a) (h2 : x + 2 ≤ b) : Hangs (eqF x F) x b := fun s t e => by
  unfold Go.Proofs.YthhcaoljejifeaaGreat.eqF
  rw [e x (by omega) (by omega), e (x + 1) (by omega) (by omega), h s t fun u h3 h4 => e u (by omega) h4]
theorem sumTo_pair (a p q : Nat) : sumTo (fun v => if v = a then p else if v = a + 1 then q else 0) (a + 2) ≤ p + q := by
  have := sumTo_two a p q (a + 2)
  rw [if_pos (by omega), if_pos (by omega)] at this
  exact this
/-- Two variables ahead of a node that is held: three nodes more. -/
theorem Den.pair {Mo : Nat} {σ : Sg} {g a : Nat} {F G : Fun} (d : Den σ g F) (o : SgOk Mo σ) (ha : a + 2 ≤ 208) (hG : Hangs G a 208) (hc : ∀ s, (∀ t, G (mixS (a + 1 + 1) s t) = F t) ∨ (∀ t, G (mixS (a + 1 + 1) s t) = false)) : Grow σ.N σ.H G 3 3 := by
  refine (Grow.top (u := a + 1) o.wf o.cl (fun i hi => (o.hok.2 i hi).2) (fun v => if v = a then 1 else if v = a + 1 then 2 else 0) (fun v hv => ?_) fun s => ?_).mono (sumTo_pair a 1 2) (sumTo_pair a 1 2)
  · by_cases e1 : v = a
    · subst e1
      refine .inr ?_
      simp only [if_true]
      exact hG.ahead (Nat.le_refl _)
    · by_cases e2 : v = a + 1
      · subst e2
        refine .inr ?_
        simp only [e1, if_false, if_true]
        exact CutLe.second hG
      · exact .inl (hG.free (by omega))
  · rcases hc s with h | h
    · exact ⟨g, (o.g g d.1).1, (o.g g d.1).2.1, fun t => by rw [h t, d.2]⟩
    · exact ⟨0, by have := o.wf.two; omega, .inl (by omega), fun t => by rw [h t, ev_zero]⟩
end Go.Proofs.YthhcaoljejifeaaGreat

/-
  Plain lemmas on numbers that the walks of this seat use; no program in sight.
-/
namespace Go.Proofs.YthhcaoljejifeaaGreat
open Go.RowKit

/-- Two to the k, as an integer, behind a name. -/
def p2 (k : Nat) : Int := 2 ^ k
theorem p2_zero : p2 0 = 1 := rfl
theorem p2_succ (k : Nat) : p2 (k + 1) = 2 * p2 k := by unfold p2; rw [Int.pow_succ]; omega
theorem p2_pos (k : Nat) : 1 ≤ p2 k := by
  induction k with
  | zero => simp [p2_zero]
  | succ k ih => rw [p2_succ]; omega
theorem p2_mono {j k : Nat} (h : j ≤ k) : p2 j ≤ p2 k := by
  induction k with
  | zero => have : j = 0 := by omega
            subst this; exact Int.le_refl _
  | succ k ih =>
    rcases Nat.lt_or_ge j (k + 1) with h1 | h1
    · have := ih (by omega); have := p2_pos k; rw [p2_succ]; omega
    · have : j = k + 1 := by omega
      subst this; exact Int.le_refl _
theorem p2_32 : p2 32 = 4294967296 := by decide
theorem p2_le32 {k : Nat} (h : k ≤ 32) : p2 k ≤ 4294967296 := by have := p2_mono h; rw [p2_32] at this; exact this


/-- How many addresses are in a prefix of n bits. -/
def sz (n : Int) : Int := p2 (32 - n.toNat)
theorem sz_pos (n : Int) : 1 ≤ sz n := p2_pos _
theorem sz_le (n : Int) : sz n ≤ 4294967296 := p2_le32 (by omega)
/-- The refusal of a prefix: 0, 1 (bits out of range), 10 (bits behind the mask). -/
def chk (a n : Int) : Int := if n < 0 ∨ 32 < n then 1 else if a % sz n = 0 then 0 else 10
theorem chk_range (a n : Int) (h : n < 0 ∨ 32 < n) : chk a n = 1 := by unfold chk; rw [if_pos h]
theorem chk_zero (a n : Int) (h0 : 0 ≤ n) (h1 : n ≤ 32) (h : a % sz n = 0) : chk a n = 0 := by unfold chk; rw [if_neg (by omega), if_pos h]
theorem chk_mask (a n : Int) (h0 : 0 ≤ n) (h1 : n ≤ 32) (h : ¬ a % sz n = 0) : chk a n = 10 := by unfold chk; rw [if_neg (by omega), if_neg h]
theorem chk_ok {a n : Int} (h : chk a n = 0) : 0 ≤ n ∧ n ≤ 32 ∧ a % sz n = 0 := by
  unfold chk at h
  split at h
  · simp at h
  · split at h
    · rename_i h1 h2; exact ⟨by omega, by omega, h2⟩
    · simp at h
/-- Is an address in a prefix? -/
def inB (x a n : Int) : Bool := decide (chk a n = 0 ∧ a ≤ x ∧ x < a + sz n)


/-- The exponent of the greatest power of two, at most 2^k, that divides the place and does not go beyond the end. -/
def pick (a e : Int) : Nat → Nat
  | 0 => 0
  | k + 1 => if a % p2 (k + 1) = 0 ∧ a + p2 (k + 1) ≤ e then k + 1 else pick a e k
/-- The prefixes of the places from a up to (not with) e. -/
def cutL (e : Int) : Nat → Int → List (Int × Int)
  | 0, _ => []
  | f + 1, a => if a < e then (a, 32 - (pick a e 32 : Int)) :: cutL e f (a + p2 (pick a e 32)) else []
end Go.Proofs.YthhcaoljejifeaaGreat

/-
  Walks over the leaves of the addresses' layer: the reference's size, the program's behind.
-/
namespace Go.Proofs.YthhcaoljejifeaaGreat
open Go.RowKit

set_option maxHeartbeats 400000 in
theorem size_any (n : Int) (w : World) (h0 : 0 ≤ n) (h1 : n ≤ 32) :
    Calls Tryz.prog 54 #[.int .i64 n] w fun e w' => e = .returned (.int .u64 (sz n)) ∧ w = w' := by
  obtain ⟨m, rfl⟩ := Int.eq_ofNat_of_zero_le h0
  have hm : m ≤ 32 := by omega
  clear h0
  go_enter Tryz.func54, Tryz.ntmps54
  go_wp2
  go_loop [3, 4] (fun out i => ∃ j : Nat, m + j ≤ 32 ∧ i = .int .i64 ↑(m + j) ∧ out = .int .u64 (p2 j)) (fun _ i => 32 - (intOf i).toNat)
  case atStart => exact ⟨0, by omega, rfl, rfl⟩
  case round =>
    obtain ⟨j, hj, rfl, rfl⟩ := hrel
    have hp := p2_pos j
    have hq := p2_le32 (k := j) (by omega)
    by_cases hlt : m + j < 32
    · go_wp2
      go_round
      case rel => exact ⟨j + 1, by omega, by go_num, by rw [p2_succ]⟩
      case measure => simp [intOf]; omega
    · have e : 32 - m = j := by omega
      have E := Lib.hid e
      clear e
      go_wp2
      go_ret
      unfold sz
      rw [Int.toNat_natCast, E.out]
      exact ⟨rfl, rfl⟩

end Go.Proofs.YthhcaoljejifeaaGreat

/-
  Plain lemmas on bits and powers of two, in the words of the model's operations on numbers; no program in sight.
-/
namespace Go.Proofs.YthhcaoljejifeaaGreat
open Go Go.RowKit

theorem p2_cast (k : Nat) : p2 k = ((2 ^ k : Nat) : Int) := by unfold p2; simp
theorem sz_nat (n : Int) : sz n = ((2 ^ (32 - n.toNat) : Nat) : Int) := p2_cast _

theorem and_sz (a n : Int) (ha : 0 ≤ a) (hb : a < 4294967296) : bits .and .u32 a (sz n - 1) = a % sz n := by
  obtain ⟨a, rfl⟩ := Int.eq_ofNat_of_zero_le ha
  have hp := sz_pos n
  have hq := sz_le n
  rw [u32_and _ _ ha hb (by omega) (by omega), sz_nat]
  have e : (((2 ^ (32 - n.toNat) : Nat) : Int) - 1).toNat = 2 ^ (32 - n.toNat) - 1 := by omega
  rw [e, Int.toNat_natCast, Nat.and_two_pow_sub_one_eq_mod]
  exact Int.natCast_emod _ _

/-- The leading zeros of a number of 32 bits. -/
def lz32 (x : Int) : Int := 32 - (Lib.bitLen x.toNat : Int)
end Go.Proofs.YthhcaoljejifeaaGreat

/-
  Walks over the addresses' layer: behind, Check, In, Within; the program's and the reference's.
-/
namespace Go.Proofs.YthhcaoljejifeaaGreat
open Go Go.RowKit Go.Sort

theorem behind_val (n : Int) (h0 : 0 ≤ n) (h1 : n ≤ 32) : IntKind.u64.wrap (IntKind.u64.wrap (2 ^ (32 - n).toNat) - 1) % 4294967296 = sz n - 1 := by
  have e : (32 - n).toNat = 32 - n.toNat := by omega
  have hp := p2_pos (32 - n.toNat)
  have hq := p2_le32 (k := 32 - n.toNat) (by omega)
  rw [e]
  show IntKind.u64.wrap (IntKind.u64.wrap (p2 (32 - n.toNat)) - 1) % 4294967296 = p2 (32 - n.toNat) - 1
  simp only [IntKind.wrap, IntKind.bits, IntKind.signed]
  omega
set_option maxHeartbeats 400000 in
theorem behind_any (n : Int) (w : World) (h0 : 0 ≤ n) (h1 : n ≤ 32) :
    Calls Tryz.prog 63 #[.int .i64 n] w fun e w' => e = .returned (.int .u32 (sz n - 1)) ∧ w = w' := by
  have hv := Lib.hid (behind_val n h0 h1)
  go_enter Tryz.func63, Tryz.ntmps63
  go_wp2
  go_ret
  exact ⟨ret_int hv.out, rfl⟩

set_option maxHeartbeats 400000 in
theorem addrCheck_any (a n : Int) (w : World) (ha : 0 ≤ a) (hb : a < 4294967296) :
    Calls Tryz.prog 47 #[.agg #[.int .u32 a, .int .i64 n]] w fun e w' => e = .returned (.int .i64 (chk a n)) ∧ Below w.heap.size w w' := by
  by_cases hr : n < 0 ∨ 32 < n
  · have hc := Lib.hid (chk_range a n hr)
    rcases hr with hr | hr
    · go_enter Tryz.func47, Tryz.ntmps47
      go_wp2
      go_ret
      exact ⟨ret_int hc.out.symm, (Below.refl _ _).alloc (Nat.le_refl _) _⟩
    · have hr' : ¬ n < 0 := by omega
      go_enter Tryz.func47, Tryz.ntmps47
      go_wp2
      go_ret
      exact ⟨ret_int hc.out.symm, (Below.refl _ _).alloc (Nat.le_refl _) _⟩
  · have h0 : 0 ≤ n := by omega
    have h1 : n ≤ 32 := by omega
    clear hr
    have ea := and_sz a n ha hb
    by_cases hm : a % sz n = 0
    · have hc := Lib.hid (chk_zero a n h0 h1 hm)
      have hd : (bits .and .u32 a (sz n - 1) != 0) = false := by rw [ea, hm]; rfl
      clear ea hm
      go_enter Tryz.func47, Tryz.ntmps47
      go_wp2
      go_quiet ((go_at_call 63; exact quiet_left (behind_any _ _ (by omega) (by omega))))
      go_wp2
      go_ret
      exact ⟨ret_int hc.out.symm, below_drewN ((Below.refl _ _).alloc (Nat.le_refl _) _) _⟩
    · have hc := Lib.hid (chk_mask a n h0 h1 hm)
      have hd : (bits .and .u32 a (sz n - 1) != 0) = true := by rw [ea]; simp [hm]
      clear ea hm
      go_enter Tryz.func47, Tryz.ntmps47
      go_wp2
      go_quiet ((go_at_call 63; exact quiet_left (behind_any _ _ (by omega) (by omega))))
      go_wp2
      go_ret
      exact ⟨ret_int hc.out.symm, below_drewN ((Below.refl _ _).alloc (Nat.le_refl _) _) _⟩

set_option maxHeartbeats 400000 in
theorem refCheck_any (a n : Int) (w : World) (ha : 0 ≤ a) (hb : a < 4294967296) :
    Calls Tryz.prog 39 #[.agg #[.int .u32 a, .int .i64 n]] w fun e w' => e = .returned (.int .i64 (chk a n)) ∧ Below w.heap.size w w' := by
  by_cases hr : n < 0 ∨ 32 < n
  · have hc := Lib.hid (chk_range a n hr)
    rcases hr with hr | hr
    · go_enter Tryz.func39, Tryz.ntmps39
      go_wp2
      go_ret
      exact ⟨ret_int hc.out.symm, (Below.refl _ _).alloc (Nat.le_refl _) _⟩
    · have hr' : ¬ n < 0 := by omega
      go_enter Tryz.func39, Tryz.ntmps39
      go_wp2
      go_ret
      exact ⟨ret_int hc.out.symm, (Below.refl _ _).alloc (Nat.le_refl _) _⟩
  · have h0 : 0 ≤ n := by omega
    have h1 : n ≤ 32 := by omega
    have hp := sz_pos n
    have hq := sz_le n
    clear hr
    by_cases hm : a % sz n = 0
    · have hc := Lib.hid (chk_zero a n h0 h1 hm)
      have hd : (a % sz n != 0) = false := by rw [hm]; rfl
      clear hm
      go_enter Tryz.func39, Tryz.ntmps39
      go_wp2
      go_quiet ((go_at_call 54; exact quiet_left (size_any _ _ (by omega) (by omega))))
      go_wp2
      go_ret
      exact ⟨ret_int hc.out.symm, below_drewN ((Below.refl _ _).alloc (Nat.le_refl _) _) _⟩
    · have hc := Lib.hid (chk_mask a n h0 h1 hm)
      have hd : (a % sz n != 0) = true := by simp [hm]
      clear hm
      go_enter Tryz.func39, Tryz.ntmps39
      go_wp2
      go_quiet ((go_at_call 54; exact quiet_left (size_any _ _ (by omega) (by omega))))
      go_wp2
      go_ret
      exact ⟨ret_int hc.out.symm, below_drewN ((Below.refl _ _).alloc (Nat.le_refl _) _) _⟩

end Go.Proofs.YthhcaoljejifeaaGreat

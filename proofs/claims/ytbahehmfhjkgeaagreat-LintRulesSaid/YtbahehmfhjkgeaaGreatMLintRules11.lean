/-
  Joined texts: Wb3, Wb4, Fc2, Fc5, Fc6, FoM, FoS, LnC.
-/
import Derived.Test.YtbahehmfhjkgeaaGreatMLintRules10
import Derived.Deep.DeepCutAuto
/-
  How lists of indices part: by prefixes, by single values, by intervals. No program in sight.
-/
namespace Go.Proofs.YtbahehmfhjkgeaaGreat

theorem filter_lt {T : List Nat} {i : Nat} (h : i ∈ T) : (T.filter fun j => decide (j ≠ i)).length < T.length := by
  have h1 := len_parts (fun j => decide (j ≠ i)) T
  have h2 : 0 < (T.filter fun j => !decide (j ≠ i)).length := List.length_pos_of_mem (List.mem_filter.2 ⟨h, by simp⟩)
  omega
theorem max_of (g : Nat → Nat) : ∀ {T : List Nat}, T ≠ [] → ∃ i ∈ T, ∀ j ∈ T, g j ≤ g i
  | [], h => absurd rfl h
  | [a], _ => ⟨a, List.mem_singleton.2 rfl, fun j hj => by rw [List.mem_singleton.1 hj]; exact Nat.le_refl _⟩
  | a :: b :: r, _ => by
    obtain ⟨i, hi, hm⟩ := max_of g (T := b :: r) (by simp)
    rcases Nat.le_total (g a) (g i) with h | h
    · refine ⟨i, List.mem_cons_of_mem _ hi, fun j hj => ?_⟩
      rcases List.mem_cons.1 hj with rfl | hj
      · exact h
      · exact hm j hj
    · refine ⟨a, List.mem_cons_self .., fun j hj => ?_⟩
      rcases List.mem_cons.1 hj with rfl | hj
      · exact Nat.le_refl _
      · exact Nat.le_trans (hm j hj) h
/-! Prefixes. -/
def preP (n : Nat) (len pr : Nat → Nat) (i x : Nat) : Bool := x / 2 ^ (n - len i) == pr i
def preL (w : Nat → Nat) : Nat → Nat
  | 0 => 0
  | c + 1 => preL w c + w (c + 1)
theorem preL_mono {w : Nat → Nat} : Mono (preL w) := fun i j h => by
  induction h with
  | refl => exact Nat.le_refl _
  | step _ ih => exact Nat.le_trans ih (Nat.le_add_right _ _)
theorem pre_split (n : Nat) (len pr : Nat → Nat) : ∀ (k : Nat) (T : List Nat), T.length ≤ k → ∃ A : List (List Nat), (∀ x, T.filter (fun i => preP n len pr i x) ∈ A ∨ T.filter (fun i => preP n len pr i x) = []) ∧ ∀ w : Nat → Nat, Mono w → (A.map fun U => w U.length).sum ≤ preL w T.length
  | 0, T, h => by
    obtain rfl : T = [] := List.eq_nil_of_length_eq_zero (by omega)
    exact ⟨[], fun x => .inr rfl, fun w _ => by simp⟩
  | k + 1, T, h => by
    by_cases hT : T = []
    · subst hT
      exact ⟨[], fun x => .inr rfl, fun w _ => by simp⟩
    · obtain ⟨i, hi, hmax⟩ := max_of len hT
      have hlt := filter_lt hi
      obtain ⟨A, hA, hw⟩ := pre_split n len pr k (T.filter fun j => decide (j ≠ i)) (by omega)
      refine ⟨(T.filter fun j => preP n len pr j (pr i * 2 ^ (n - len i))) :: A, fun x => ?_, fun w mw => ?_⟩
      · by_cases hx : preP n len pr i x = true
        · refine .inl ?_
          rw [show T.filter (fun j => preP n len pr j x) = T.filter fun j => preP n len pr j (pr i * 2 ^ (n - len i)) from ?_]
          · exact List.mem_cons_self ..
          · refine List.filter_congr fun j hj => ?_
            have hl := hmax j hj
            unfold preP at hx ⊢
            simp only [beq_iff_eq] at hx
            have key : ∀ z, z / 2 ^ (n - len i) = pr i → z / 2 ^ (n - len j) = pr i / 2 ^ ((n - len j) - (n - len i)) := fun z hz => by
              rw [← hz, Nat.div_div_eq_div_mul, ← Nat.pow_add]
              congr 2; omega
            rw [key x hx, key _ (Nat.mul_div_cancel _ (Nat.two_pow_pos _))]
        · have e : T.filter (fun j => preP n len pr j x) = (T.filter fun j => decide (j ≠ i)).filter fun j => preP n len pr j x := by
            rw [List.filter_filter]
            refine List.filter_congr fun j _ => ?_
            by_cases hj : j = i
            · subst hj; simp [hx]
            · simp [hj]
          rw [e]
          exact (hA x).imp (List.mem_cons_of_mem _) id
      · have h1 := hw w mw
        have h2 := mw _ _ (List.length_filter_le (fun j => preP n len pr j (pr i * 2 ^ (n - len i))) T)
        obtain ⟨c, hc⟩ : ∃ c, T.length = c + 1 := ⟨T.length - 1, by omega⟩
        have h3 := preL_mono (w := w) _ _ (show (T.filter fun j => decide (j ≠ i)).length ≤ c by omega)
        rw [hc] at h2 ⊢
        simp only [List.map_cons, List.sum_cons]
        show _ ≤ preL w c + w (c + 1)
        omega
theorem pre_flat (n : Nat) (len pr : Nat → Nat) (i d y x x' : Nat) (hy : y ∉ [pr i * 2 ^ (n - len i)].map (· / 2 ^ d)) (hx : x / 2 ^ d = y) (hx' : x' / 2 ^ d = y) : preP n len pr i x = preP n len pr i x' := by
  unfold preP
  rcases Nat.le_total d (n - len i) with h | h
  · have key : ∀ z, z / 2 ^ d = y → z / 2 ^ (n - len i) = y / 2 ^ ((n - len i) - d) := fun z hz => by
      rw [← hz, Nat.div_div_eq_div_mul, ← Nat.pow_add]
      congr 2; omega
    rw [key x hx, key x' hx']
  · have key : ∀ z, z / 2 ^ d = y → (z / 2 ^ (n - len i) == pr i) = false := fun z hz => by
      rw [beq_eq_false_iff_ne]
      intro h1
      refine hy (List.mem_map.2 ⟨_, List.mem_singleton.2 rfl, ?_⟩)
      have e : 2 ^ d = 2 ^ (n - len i) * 2 ^ (d - (n - len i)) := by rw [← Nat.pow_add]; congr 1; omega
      rw [← hz, e, ← Nat.div_div_eq_div_mul, ← Nat.div_div_eq_div_mul, h1, Nat.mul_div_cancel _ (Nat.two_pow_pos _)]
    rw [key x hx, key x' hx']
def preFd (a n : Nat) (len pr : Nat → Nat) : Fd := ⟨a, n, 1, preP n len pr, fun i => [pr i * 2 ^ (n - len i)], preL⟩
theorem preFd_ok (a n : Nat) (len pr : Nat → Nat) : FdOk (preFd a n len pr) :=
  ⟨fun _ => Nat.le_refl _, fun i d y x x' => pre_flat n len pr i d y x x', fun T => pre_split n len pr T.length T (Nat.le_refl _), fun _ _ => preL_mono⟩
/-! Single values. -/
def ptP (any : Nat → Bool) (v : Nat → Nat) (i x : Nat) : Bool := any i || x == v i
def maxTo (g : Nat → Nat) : Nat → Nat
  | 0 => g 0
  | m + 1 => max (maxTo g m) (g (m + 1))
theorem maxTo_ge (g : Nat → Nat) : ∀ {n m : Nat}, m ≤ n → g m ≤ maxTo g n
  | 0, m, h => by obtain rfl : m = 0 := by omega
                  exact Nat.le_refl _
  | n + 1, m, h => by
    rcases Nat.lt_or_ge n m with h1 | h1
    · obtain rfl : m = n + 1 := by omega
      exact Nat.le_max_right ..
    · exact Nat.le_trans (maxTo_ge g h1) (Nat.le_max_left ..)
theorem maxTo_le {g h : Nat → Nat} : ∀ {n : Nat}, (∀ m, m ≤ n → g m ≤ h m) → maxTo g n ≤ maxTo h n
  | 0, hh => hh 0 (Nat.le_refl _)
  | n + 1, hh => by
    have h1 := maxTo_le (n := n) fun m hm => hh m (by omega)
    have h2 := hh (n + 1) (Nat.le_refl _)
    show max _ _ ≤ max _ _
    omega
theorem maxTo_up (g : Nat → Nat) : Mono (maxTo g) := fun i j h => by
  induction h with
  | refl => exact Nat.le_refl _
  | step _ ih => exact Nat.le_trans ih (Nat.le_max_left ..)
def ptL (w : Nat → Nat) (c : Nat) : Nat := maxTo (fun m => m * w (c - m + 1) + w (c - m)) c
theorem ptL_mono {w : Nat → Nat} (hw : Mono w) : Mono (ptL w) := fun i j h => by
  unfold ptL
  refine Nat.le_trans (maxTo_le fun m _ => ?_) (maxTo_up _ _ _ h)
  exact Nat.add_le_add (Nat.mul_le_mul_left _ (hw _ _ (by omega))) (hw _ _ (by omega))
theorem nodup_lenN : ∀ {A B : List Nat}, A.Nodup → (∀ x ∈ A, x ∈ B) → A.length ≤ B.length
  | [], _, _, _ => by simp
  | a :: r, B, hn, hs => by
    have hn' := List.nodup_cons.1 hn
    have ha := hs a (List.mem_cons_self ..)
    have h1 : ∀ x ∈ r, x ∈ B.erase a := fun x hx => by
      have hxa : x ≠ a := fun e => hn'.1 (e ▸ hx)
      exact (List.mem_erase_of_ne hxa).2 (hs x (List.mem_cons_of_mem _ hx))
    have h2 := nodup_lenN hn'.2 h1
    rw [List.length_erase_of_mem ha] at h2
    have := List.length_pos_of_mem ha
    simp only [List.length_cons]
    omega
theorem each_once : ∀ l : List Nat, ∃ V : List Nat, V.Nodup ∧ ∀ x, x ∈ V ↔ x ∈ l
  | [] => ⟨[], List.nodup_nil, fun _ => Iff.rfl⟩
  | a :: r => by
    obtain ⟨V, h1, h2⟩ := each_once r
    by_cases h : a ∈ V
    · exact ⟨V, h1, fun x => by
        rw [List.mem_cons, h2]
        exact ⟨.inr, fun hx => hx.elim (fun e => (h2 x).1 (e ▸ h)) id⟩⟩
    · exact ⟨a :: V, List.nodup_cons.2 ⟨h, h1⟩, fun x => by rw [List.mem_cons, List.mem_cons, h2]⟩
theorem pt_split (any : Nat → Bool) (v : Nat → Nat) (T : List Nat) : ∃ A : List (List Nat), (∀ x, T.filter (fun i => ptP any v i x) ∈ A ∨ T.filter (fun i => ptP any v i x) = []) ∧ ∀ w : Nat → Nat, Mono w → (A.map fun U => w U.length).sum ≤ ptL w T.length := by
  obtain ⟨V, hVn, hV0⟩ := each_once ((T.filter fun i => !any i).map v)
  have hV : ∀ x, x ∈ V ↔ ∃ i ∈ T, any i = false ∧ v i = x := fun x => by
    rw [hV0, List.mem_map]
    constructor
    · rintro ⟨i, hi, rfl⟩
      obtain ⟨h1, h2⟩ := List.mem_filter.1 hi
      exact ⟨i, h1, by simpa using h2, rfl⟩
    · rintro ⟨i, h1, h2, rfl⟩
      exact ⟨i, List.mem_filter.2 ⟨h1, by simp [h2]⟩, rfl⟩
  have hsub : ∀ (p : Nat → Bool) (W : List Nat), W.Nodup → (∀ q ∈ W, q ∈ V ∧ ∀ i ∈ T, any i = false → v i = q → p i = false) → (T.filter p).length + W.length ≤ T.length := fun p W hW hq => by
    have h1 := len_parts p T
    have h2 : W.length ≤ ((T.filter fun i => !p i).map v).length := nodup_lenN hW fun q hqW => by
      obtain ⟨h3, h4⟩ := hq q hqW
      obtain ⟨i, hi, ha, rfl⟩ := (hV q).1 h3
      exact List.mem_map.2 ⟨i, List.mem_filter.2 ⟨hi, by simp [h4 i hi ha rfl]⟩, rfl⟩
    rw [List.length_map] at h2
    omega
  refine ⟨(V.map fun x => T.filter fun i => ptP any v i x) ++ [T.filter any], fun x => .inl ?_, fun w mw => ?_⟩
  · by_cases hx : x ∈ V
    · exact List.mem_append_left _ (List.mem_map.2 ⟨x, hx, rfl⟩)
    · refine List.mem_append_right _ (List.mem_singleton.2 (List.filter_congr fun i hi => ?_))
      unfold ptP
      cases ha : any i with
      | true => rfl
      | false =>
        have : x ≠ v i := fun e => hx ((hV x).2 ⟨i, hi, ha, e.symm⟩)
        simpa using this
  · have hm : V.length ≤ T.length := by
      have := hsub (fun _ => false) V hVn fun q hq => ⟨hq, fun _ _ _ _ => rfl⟩
      omega
    have h1 : ∀ x ∈ V, w (T.filter fun i => ptP any v i x).length ≤ w (T.length - V.length + 1) := fun x hx => mw _ _ (by
      have h := hsub (fun i => ptP any v i x) (V.erase x) (hVn.erase _) fun q hq => ⟨List.mem_of_mem_erase hq, fun i _ ha hv => by
        have hne : q ≠ x := ((List.Nodup.mem_erase_iff hVn).1 hq).1
        unfold ptP
        rw [ha, hv]
        simpa using fun e : x = q => hne e.symm⟩
      rw [List.length_erase_of_mem hx] at h
      have := List.length_pos_of_mem hx
      omega)
    have h2 : w (T.filter any).length ≤ w (T.length - V.length) := mw _ _ (by
      have h := hsub any V hVn fun q hq => ⟨hq, fun _ _ ha _ => ha⟩
      omega)
    have h3 : ((V.map fun x => T.filter fun i => ptP any v i x).map fun U => w U.length).sum ≤ V.length * w (T.length - V.length + 1) := by
      rw [List.map_map]
      refine Nat.le_trans (sum_le (g := fun _ => w (T.length - V.length + 1)) h1) (Nat.le_of_eq ?_)
      have h4 : ∀ (l : List Nat) (z : Nat), (l.map fun _ => z).sum = l.length * z := fun l z => by
        induction l with
        | nil => simp
        | cons a r ih => simp [ih, Nat.add_mul]; omega
      exact h4 _ _
    rw [List.map_append, List.sum_append]
    simp only [List.map_cons, List.map_nil, List.sum_cons, List.sum_nil]
    have h5 := maxTo_ge (fun m => m * w (T.length - m + 1) + w (T.length - m)) hm
    unfold ptL
    omega
theorem pt_flat (any : Nat → Bool) (v : Nat → Nat) (i d y x x' : Nat) (hy : y ∉ [v i].map (· / 2 ^ d)) (hx : x / 2 ^ d = y) (hx' : x' / 2 ^ d = y) : ptP any v i x = ptP any v i x' := by
  have key : ∀ z, z / 2 ^ d = y → (z == v i) = false := fun z hz => by
    rw [beq_eq_false_iff_ne]
    rintro rfl
    exact hy (List.mem_map.2 ⟨_, List.mem_singleton.2 rfl, hz⟩)
  unfold ptP
  rw [key x hx, key x' hx']
def ptFd (a n : Nat) (any : Nat → Bool) (v : Nat → Nat) : Fd := ⟨a, n, 1, ptP any v, fun i => [v i], ptL⟩
theorem ptFd_ok (a n : Nat) (any : Nat → Bool) (v : Nat → Nat) : FdOk (ptFd a n any v) :=
  ⟨fun _ => Nat.le_refl _, fun i d y x x' => pt_flat any v i d y x x', fun T => pt_split any v T, fun _ => ptL_mono⟩
/-! Intervals. -/
def ivP (lo hi : Nat → Nat) (i x : Nat) : Bool := decide (lo i ≤ x) && decide (x ≤ hi i)
def ivS (w : Nat → Nat) (c : Nat) : Nat → Nat
  | 0 => w 0
  | j + 1 => ivS w c j + w (min (j + 1) (2 * c - (j + 1)))
def ivL (w : Nat → Nat) (c : Nat) : Nat := ivS w c (2 * c)
theorem ivS_eq (w : Nat → Nat) (c : Nat) : ∀ n, ivS w c n = ((List.range (n + 1)).map fun j => w (min j (2 * c - j))).sum
  | 0 => by simp [ivS]
  | n + 1 => by
    rw [List.range_succ, List.map_append, List.sum_append]
    show ivS w c n + _ = _
    rw [ivS_eq w c n]
    simp
theorem ivL_mono {w : Nat → Nat} (hw : Mono w) : Mono (ivL w) := fun i j h => by
  unfold ivL
  rw [ivS_eq, ivS_eq]
  have e : List.range (2 * j + 1) = List.range (2 * i + 1) ++ (List.range (2 * j - 2 * i)).map (2 * i + 1 + ·) := by
    rw [show 2 * j + 1 = (2 * i + 1) + (2 * j - 2 * i) by omega, List.range_add]
  rw [e, List.map_append, List.sum_append]
  exact Nat.le_trans (sum_le fun x _ => hw _ _ (by omega)) (Nat.le_add_right _ _)
theorem filter_same {p q : Nat → Bool} : ∀ {T : List Nat}, (∀ i ∈ T, p i = true → q i = true) → (T.filter q).length ≤ (T.filter p).length → ∀ i ∈ T, p i = q i
  | [], _, _, i, h => by cases h
  | a :: r, h1, h2, i, hi => by
    have hle : (r.filter p).length ≤ (r.filter q).length := by
      have e : r.filter p = (r.filter q).filter p := by
        rw [List.filter_filter]
        refine List.filter_congr fun j hj => ?_
        cases hp : p j with
        | false => rfl
        | true => rw [h1 j (List.mem_cons_of_mem _ hj) hp]; rfl
      rw [e]
      exact List.length_filter_le _ _
    have ha := h1 a (List.mem_cons_self ..)
    have hr : (r.filter q).length ≤ (r.filter p).length ∧ p a = q a := by
      cases hpa : p a with
      | true =>
        have hqa := ha hpa
        rw [List.filter_cons_of_pos hpa, List.filter_cons_of_pos hqa] at h2
        simp only [List.length_cons] at h2
        exact ⟨by omega, hqa.symm⟩
      | false =>
        rw [show (a :: r).filter p = r.filter p from List.filter_cons_of_neg (by rw [hpa]; simp)] at h2
        cases hqa : q a with
        | true =>
          rw [List.filter_cons_of_pos hqa] at h2
          simp only [List.length_cons] at h2
          omega
        | false =>
          rw [show (a :: r).filter q = r.filter q from List.filter_cons_of_neg (by rw [hqa]; simp)] at h2
          exact ⟨h2, rfl⟩
    rcases List.mem_cons.1 hi with rfl | hi
    · exact hr.2
    · exact filter_same (fun j hj => h1 j (List.mem_cons_of_mem _ hj)) hr.1 i hi
theorem iv_split (lo hi : Nat → Nat) (T : List Nat) : ∃ A : List (List Nat), (∀ x, T.filter (fun i => ivP lo hi i x) ∈ A ∨ T.filter (fun i => ivP lo hi i x) = []) ∧ ∀ w : Nat → Nat, Mono w → (A.map fun U => w U.length).sum ≤ ivL w T.length := by
  let st := fun x => (T.filter fun i => decide (lo i ≤ x)).length
  let en := fun x => (T.filter fun i => decide (hi i < x)).length
  have hst : ∀ x y, x ≤ y → st x ≤ st y := fun x y h => by
    have e : (T.filter fun i => decide (lo i ≤ x)) = (T.filter fun i => decide (lo i ≤ y)).filter fun i => decide (lo i ≤ x) := by
      rw [List.filter_filter]
      refine List.filter_congr fun i _ => ?_
      by_cases h1 : lo i ≤ x
      · have : lo i ≤ y := by omega
        simp [h1, this]
      · simp [h1]
    show (T.filter fun i => decide (lo i ≤ x)).length ≤ _
    rw [e]
    exact List.length_filter_le _ _
  have hen : ∀ x y, x ≤ y → en x ≤ en y := fun x y h => by
    have e : (T.filter fun i => decide (hi i < x)) = (T.filter fun i => decide (hi i < y)).filter fun i => decide (hi i < x) := by
      rw [List.filter_filter]
      refine List.filter_congr fun i _ => ?_
      by_cases h1 : hi i < x
      · have : hi i < y := by omega
        simp [h1, this]
      · simp [h1]
    show (T.filter fun i => decide (hi i < x)).length ≤ _
    rw [e]
    exact List.length_filter_le _ _
  have hsame : ∀ x y, x ≤ y → st x + en x = st y + en y → T.filter (fun i => ivP lo hi i x) = T.filter fun i => ivP lo hi i y := fun x y h hs => by
    have h1 := hst x y h
    have h2 := hen x y h
    have e1 := filter_same (T := T) (p := fun i => decide (lo i ≤ x)) (q := fun i => decide (lo i ≤ y)) (fun i _ hp => by simp at hp ⊢; omega) (show st y ≤ st x by omega)
    have e2 := filter_same (T := T) (p := fun i => decide (hi i < x)) (q := fun i => decide (hi i < y)) (fun i _ hp => by simp at hp ⊢; omega) (show en y ≤ en x by omega)
    refine List.filter_congr fun i hi' => ?_
    have a1 := e1 i hi'
    have a2 := e2 i hi'
    simp only [decide_eq_decide] at a1 a2
    unfold ivP
    rw [show decide (lo i ≤ x) = decide (lo i ≤ y) from decide_eq_decide.2 a1, show decide (x ≤ hi i) = decide (y ≤ hi i) from decide_eq_decide.2 (by omega)]
  have hlen : ∀ x, (T.filter fun i => ivP lo hi i x).length ≤ min (st x + en x) (2 * T.length - (st x + en x)) := fun x => by
    have h1 : (T.filter fun i => ivP lo hi i x).length ≤ st x := by
      have e : (T.filter fun i => ivP lo hi i x) = (T.filter fun i => decide (lo i ≤ x)).filter fun i => decide (x ≤ hi i) := by
        rw [List.filter_filter]
        exact List.filter_congr fun i _ => by unfold ivP; rw [Bool.and_comm]
      rw [e]
      exact List.length_filter_le _ _
    have h2 : (T.filter fun i => ivP lo hi i x).length + en x ≤ T.length := by
      have h := len_parts (fun i => decide (hi i < x)) T
      have e : (T.filter fun i => ivP lo hi i x) = (T.filter fun i => !decide (hi i < x)).filter fun i => decide (lo i ≤ x) := by
        rw [List.filter_filter]
        refine List.filter_congr fun i _ => ?_
        unfold ivP
        by_cases h3 : hi i < x
        · have : ¬ x ≤ hi i := by omega
          simp [h3, this]
        · have : x ≤ hi i := by omega
          simp [h3, this]
      have h4 : (T.filter fun i => ivP lo hi i x).length ≤ (T.filter fun i => !decide (hi i < x)).length := by
        rw [e]
        exact List.length_filter_le _ _
      show _ + (T.filter fun i => decide (hi i < x)).length ≤ _
      omega
    have h3 : st x ≤ T.length := List.length_filter_le _ _
    omega
  open Classical in
  refine ⟨(List.range (2 * T.length + 1)).map fun j => if h : ∃ x, st x + en x = j then T.filter fun i => ivP lo hi i h.choose else [], fun x => .inl ?_, fun w mw => ?_⟩
  · refine List.mem_map.2 ⟨st x + en x, List.mem_range.2 ?_, ?_⟩
    · have h1 : st x ≤ T.length := List.length_filter_le _ _
      have h2 : en x ≤ T.length := List.length_filter_le _ _
      omega
    · have hx : ∃ z, st z + en z = st x + en x := ⟨x, rfl⟩
      rw [dif_pos hx]
      have hc := hx.choose_spec
      rcases Nat.le_total hx.choose x with h | h
      · exact hsame _ _ h hc
      · exact (hsame _ _ h hc.symm).symm
  · unfold ivL
    rw [ivS_eq, List.map_map]
    refine sum_le fun j _ => ?_
    show w (if h : ∃ x, st x + en x = j then T.filter fun i => ivP lo hi i h.choose else []).length ≤ _
    by_cases h : ∃ x, st x + en x = j
    · rw [dif_pos h]
      have h1 := hlen h.choose
      have h2 := h.choose_spec
      rw [h2] at h1
      exact mw _ _ h1
    · rw [dif_neg h]
      exact mw _ _ (Nat.zero_le _)
theorem iv_flat (lo hi : Nat → Nat) (i d y x x' : Nat) (hy : y ∉ [lo i, hi i].map (· / 2 ^ d)) (hx : x / 2 ^ d = y) (hx' : x' / 2 ^ d = y) : ivP lo hi i x = ivP lo hi i x' := by
  have hl : y ≠ lo i / 2 ^ d := fun e => hy (List.mem_map.2 ⟨lo i, by simp, e.symm⟩)
  have hh : y ≠ hi i / 2 ^ d := fun e => hy (List.mem_map.2 ⟨hi i, by simp, e.symm⟩)
  have k1 : ∀ z, z / 2 ^ d = y → ∀ c, y ≠ c / 2 ^ d → (c ≤ z ↔ c / 2 ^ d < y) := fun z hz c hc => by
    constructor
    · intro h
      have := Nat.div_le_div_right (c := 2 ^ d) h
      omega
    · intro h
      rcases Nat.lt_or_ge z c with h1 | h1
      · have := Nat.div_le_div_right (c := 2 ^ d) (Nat.le_of_lt h1)
        omega
      · exact h1
  have k2 : ∀ z, z / 2 ^ d = y → ∀ c, y ≠ c / 2 ^ d → (z ≤ c ↔ y < c / 2 ^ d) := fun z hz c hc => by
    constructor
    · intro h
      have := Nat.div_le_div_right (c := 2 ^ d) h
      omega
    · intro h
      rcases Nat.lt_or_ge c z with h1 | h1
      · have := Nat.div_le_div_right (c := 2 ^ d) (Nat.le_of_lt h1)
        omega
      · exact h1
  unfold ivP
  rw [decide_eq_decide.2 ((k1 x hx _ hl).trans (k1 x' hx' _ hl).symm), decide_eq_decide.2 ((k2 x hx _ hh).trans (k2 x' hx' _ hh).symm)]
def ivFd (a n : Nat) (lo hi : Nat → Nat) : Fd := ⟨a, n, 2, ivP lo hi, fun i => [lo i, hi i], ivL⟩
theorem ivFd_ok (a n : Nat) (lo hi : Nat → Nat) : FdOk (ivFd a n lo hi) :=
  ⟨fun _ => Nat.le_refl _, fun i d y x x' => iv_flat lo hi i d y x x', fun T => iv_split lo hi T, fun _ => ivL_mono⟩
end Go.Proofs.YtbahehmfhjkgeaaGreat

/-
  Rules as boxes: how many nodes their sets have at most (plain).
-/
namespace Go.Proofs.YtbahehmfhjkgeaaGreat
open Go Go.RowKit Go.ChangeMaps Go.MapKept Go.Maps Go.Lib Go.Sort

/-- A box of headers. -/
structure Bx where
  l1 : Nat
  p1 : Nat
  l2 : Nat
  p2 : Nat
  any : Bool
  v : Nat
  lo : Nat
  hi : Nat
  lo2 : Nat
  hi2 : Nat
def boxP (b : Bx) (s : Nat → Bool) : Bool := (valF 0 s 32 / 2 ^ (32 - b.l1) == b.p1) && (valF 32 s 32 / 2 ^ (32 - b.l2) == b.p2) && (b.any || valF 64 s 8 == b.v) && (decide (b.lo ≤ valF 72 s 16) && decide (valF 72 s 16 ≤ b.hi)) && (decide (b.lo2 ≤ valF 88 s 16) && decide (valF 88 s 16 ≤ b.hi2))
def boxFs (B : Nat → Bx) : List Fd := [preFd 0 32 (fun i => (B i).l1) (fun i => (B i).p1), preFd 32 32 (fun i => (B i).l2) (fun i => (B i).p2), ptFd 64 8 (fun i => (B i).any) (fun i => (B i).v), ivFd 72 16 (fun i => (B i).lo) (fun i => (B i).hi), ivFd 88 16 (fun i => (B i).lo2) (fun i => (B i).hi2)]
theorem box_alive (B : Nat → Bx) (T : List Nat) (s : Nat → Bool) : aliveL (boxFs B) T s = T.filter fun i => boxP (B i) s := by
  show ((((T.filter _).filter _).filter _).filter _).filter _ = _
  simp only [List.filter_filter]
  refine List.filter_congr fun i _ => ?_
  simp only [ivFd, ptFd, preFd, ivP, ptP, preP, boxP]
  generalize (valF 0 s 32 / 2 ^ (32 - (B i).l1) == (B i).p1) = a
  generalize (valF 32 s 32 / 2 ^ (32 - (B i).l2) == (B i).p2) = b
  generalize ((B i).any || valF 64 s 8 == (B i).v) = c
  generalize (decide ((B i).lo ≤ valF 72 s 16) && decide (valF 72 s 16 ≤ (B i).hi)) = d
  generalize (decide ((B i).lo2 ≤ valF 88 s 16) && decide (valF 88 s 16 ≤ (B i).hi2)) = e
  cases a <;> cases b <;> cases c <;> cases d <;> cases e <;> rfl
/-- The bound for k boxes. -/
def bW (k : Nat) : Nat := 32 * (1 * k) + (32 * (1 * preL idN k) + (8 * (1 * preL (preL idN) k) + (16 * (2 * preL (preL (ptL idN)) k) + (16 * (2 * preL (preL (ptL (ivL idN))) k) + 0))))
theorem box_wid (B : Nat → Bx) (T : List Nat) (Φ : List Nat → Bool) : WidB (fun s => Φ (T.filter fun i => boxP (B i) s)) (bW T.length) := by
  have h := widB_box (fs := boxFs B) (by simp [boxFs, preFd, ptFd, ivFd]) (fun f hf => by
    simp only [boxFs, List.mem_cons, List.not_mem_nil, or_false] at hf
    rcases hf with rfl | rfl | rfl | rfl | rfl
    · exact preFd_ok ..
    · exact preFd_ok ..
    · exact ptFd_ok ..
    · exact ivFd_ok ..
    · exact ivFd_ok ..) T Φ
  rw [show (fun s => Φ (aliveL (boxFs B) T s)) = fun s => Φ (T.filter fun i => boxP (B i) s) from funext fun s => by rw [box_alive]] at h
  exact h
/-! The bits' functions, by the fields' numbers. -/
theorem tailF_head (a : Nat) (s : Nat → Bool) (m : Nat) : ∀ d, tailF a s m (d + 1) = (if s (2 * (a + m)) then 1 else 0) * 2 ^ d + tailF a s (m + 1) d
  | 0 => by simp [tailF]
  | d + 1 => by
    have ih := tailF_head a s m d
    show 2 * tailF a s m (d + 1) + (if s (2 * (a + m + (d + 1))) then 1 else 0) = _ + (2 * tailF a s (m + 1) d + (if s (2 * (a + (m + 1) + d)) then 1 else 0))
    rw [ih, show a + m + (d + 1) = a + (m + 1) + d by omega, Nat.pow_succ, ← Nat.mul_assoc]
    omega
theorem mod_bit (v m : Nat) : v % 2 ^ (m + 1) = (if v.testBit m then 1 else 0) * 2 ^ m + v % 2 ^ m := by
  rw [Nat.mod_pow_succ, Nat.testBit_eq_decide_div_mod_eq]
  rcases Nat.mod_two_eq_zero_or_one (v / 2 ^ m) with h | h <;> simp [h] <;> omega
theorem bits_tail (a n v : Nat) (s : Nat → Bool) : ∀ m, m ≤ n → bitsF a 0 n v m s = (tailF a s (n - m) m == v % 2 ^ m)
  | 0, _ => by simp [bitsF, tailF, Nat.mod_one]
  | m + 1, hm => by
    have ih := bits_tail a n v s m (by omega)
    show ((s (2 * (a + (n - 1 - m)) + 0) == v.testBit m) && bitsF a 0 n v m s) = _
    rw [ih, show n - m = (n - (m + 1)) + 1 by omega, tailF_head, show n - 1 - m = n - (m + 1) by omega, mod_bit, Nat.add_zero]
    have h1 := tailF_lt a s (n - (m + 1) + 1) m
    have h2 := Nat.mod_lt v (Nat.two_pow_pos m)
    generalize tailF a s (n - (m + 1) + 1) m = x at *
    generalize v % 2 ^ m = y at *
    generalize 2 ^ m = z at *
    cases hs : s (2 * (a + (n - (m + 1)))) <;> cases hv : v.testBit m <;> rw [Bool.eq_iff_iff] <;> simp
    all_goals omega
theorem bits_val (a n v : Nat) (s : Nat → Bool) (hn : n ≤ 32) (hv : v < 2 ^ n) : bitsF a 0 n v n s = (valF a s 32 / 2 ^ (32 - n) == v) := by
  rw [bits_tail a n v s n (Nat.le_refl _), Nat.sub_self, Nat.mod_eq_of_lt hv]
  have h1 := valF_split a s n (32 - n)
  rw [show n + (32 - n) = 32 by omega] at h1
  have h2 := valF_split a s 0 n
  rw [Nat.zero_add] at h2
  have h3 : valF a s n = tailF a s 0 n := by rw [h2]; show 0 * 2 ^ n + _ = _; omega
  rw [h1, Nat.mul_comm, Nat.mul_add_div (Nat.two_pow_pos _), Nat.div_eq_of_lt (tailF_lt ..), Nat.add_zero, h3]
theorem reach_tail (a n v : Nat) (up : Bool) (s : Nat → Bool) : ∀ m, m ≤ n → reachF a n v up m s = if up then decide (v % 2 ^ m ≤ tailF a s (n - m) m) else decide (tailF a s (n - m) m ≤ v % 2 ^ m)
  | 0, _ => by simp [reachF, tailF, Nat.mod_one]
  | m + 1, hm => by
    have ih := reach_tail a n v up s m (by omega)
    show (if s (2 * (a + (n - 1 - m))) then (if v.testBit m then reachF a n v up m s else up) else (if v.testBit m then !up else reachF a n v up m s)) = _
    rw [ih, show n - m = (n - (m + 1)) + 1 by omega, tailF_head, show n - 1 - m = n - (m + 1) by omega, mod_bit]
    have h1 := tailF_lt a s (n - (m + 1) + 1) m
    have h2 := Nat.mod_lt v (Nat.two_pow_pos m)
    generalize tailF a s (n - (m + 1) + 1) m = x at *
    generalize v % 2 ^ m = y at *
    generalize 2 ^ m = z at *
    cases hs : s (2 * (a + (n - (m + 1)))) <;> cases hv : v.testBit m <;> cases up <;> simp
    all_goals omega
theorem span_val (a n lo hi : Nat) (s : Nat → Bool) (hl : lo < 2 ^ n) (hh : hi < 2 ^ n) : spanF a n lo hi s = (decide (lo ≤ valF a s n) && decide (valF a s n ≤ hi)) := by
  have h2 := valF_split a s 0 n
  rw [Nat.zero_add] at h2
  have h3 : valF a s n = tailF a s 0 n := by rw [h2]; show 0 * 2 ^ n + _ = _; omega
  unfold spanF
  rw [reach_tail a n lo true s n (Nat.le_refl _), reach_tail a n hi false s n (Nat.le_refl _), Nat.sub_self, Nat.mod_eq_of_lt hl, Nat.mod_eq_of_lt hh, h3]
  rfl
/-- The first j of a rule's asks, as a box. -/
def rbx (r : RuleV) (j : Nat) : Bx where
  l1 := if 1 ≤ j then r.sn.toNat else 0
  p1 := if 1 ≤ j then r.sa.toNat / 2 ^ (32 - r.sn.toNat) else 0
  l2 := if 2 ≤ j then r.dn.toNat else 0
  p2 := if 2 ≤ j then r.da.toNat / 2 ^ (32 - r.dn.toNat) else 0
  any := decide (¬ 5 ≤ j)
  v := r.proto.toNat
  lo := if 3 ≤ j then r.sl.toNat else 0
  hi := if 3 ≤ j then r.sh.toNat else 65535
  lo2 := if 4 ≤ j then r.dl.toNat else 0
  hi2 := if 4 ≤ j then r.dh.toNat else 65535
theorem pre_top (a len : Nat) (h : len ≤ 32) (ha : a < 4294967296) : a / 2 ^ (32 - len) < 2 ^ len := by
  rw [Nat.div_lt_iff_lt_mul (Nat.two_pow_pos _), ← Nat.pow_add, show len + (32 - len) = 32 by omega]
  exact ha
theorem rbx_eq {r : RuleV} (ok : RuleOk r) {j : Nat} (hj : j ≤ asksN r) (s : Nat → Bool) : boxP (rbx r j) s = ruleK r j s := by
  have h5 : j ≤ 5 := by unfold asksN at hj; split at hj <;> omega
  have b1 := r.hsa
  have b2 := r.hda
  have b3 := r.hsl
  have b4 := r.hdl
  have o1 := ok.s.2
  have o2 := ok.d.2
  have o3 := ok.sp
  have o4 := ok.dp
  have o5 := ok.p
  have v1 := valF_lt 0 s 32
  have v2 := valF_lt 32 s 32
  have v4 := valF_lt 72 s 16
  have v5 := valF_lt 88 s 16
  have a0 : askF r 0 s = (valF 0 s 32 / 2 ^ (32 - r.sn.toNat) == r.sa.toNat / 2 ^ (32 - r.sn.toNat)) := bits_val _ _ _ _ (by omega) (pre_top _ _ (by omega) (by omega))
  have a1 : askF r 1 s = (valF 32 s 32 / 2 ^ (32 - r.dn.toNat) == r.da.toNat / 2 ^ (32 - r.dn.toNat)) := bits_val _ _ _ _ (by omega) (pre_top _ _ (by omega) (by omega))
  have a2 : askF r 2 s = (decide (r.sl.toNat ≤ valF 72 s 16) && decide (valF 72 s 16 ≤ r.sh.toNat)) := span_val _ _ _ _ _ (by show _ < 65536; omega) (by show _ < 65536; omega)
  have a3 : askF r 3 s = (decide (r.dl.toNat ≤ valF 88 s 16) && decide (valF 88 s 16 ≤ r.dh.toNat)) := span_val _ _ _ _ _ (by show _ < 65536; omega) (by show _ < 65536; omega)
  have a4 : askF r 4 s = (valF 64 s 8 == r.proto.toNat) := by
    refine (span_val 64 8 _ _ s (by show _ < 256; omega) (by show _ < 256; omega)).trans ?_
    rw [Bool.eq_iff_iff]
    simp only [Bool.and_eq_true, decide_eq_true_eq, beq_iff_eq]
    omega
  have z1 : (valF 0 s 32 / 2 ^ (32 - 0) == 0) = true := by rw [Nat.div_eq_of_lt (by simpa using v1)]; rfl
  have z2 : (valF 32 s 32 / 2 ^ (32 - 0) == 0) = true := by rw [Nat.div_eq_of_lt (by simpa using v2)]; rfl
  have z4 : decide (valF 72 s 16 ≤ 65535) = true := by simp; omega
  have z5 : decide (valF 88 s 16 ≤ 65535) = true := by simp; omega
  have z6 : ∀ n : Nat, decide (0 ≤ n) = true := fun n => by simp
  obtain rfl | rfl | rfl | rfl | rfl | rfl : j = 0 ∨ j = 1 ∨ j = 2 ∨ j = 3 ∨ j = 4 ∨ j = 5 := by omega
  · show (((valF 0 s 32 / 2 ^ (32 - 0) == 0) && (valF 32 s 32 / 2 ^ (32 - 0) == 0) && true && (decide (0 ≤ valF 72 s 16) && decide (valF 72 s 16 ≤ 65535)) && (decide (0 ≤ valF 88 s 16) && decide (valF 88 s 16 ≤ 65535))) : Bool) = true
    rw [z1, z2, z4, z5, z6, z6]; rfl
  · show (((valF 0 s 32 / 2 ^ (32 - r.sn.toNat) == r.sa.toNat / 2 ^ (32 - r.sn.toNat)) && (valF 32 s 32 / 2 ^ (32 - 0) == 0) && true && (decide (0 ≤ valF 72 s 16) && decide (valF 72 s 16 ≤ 65535)) && (decide (0 ≤ valF 88 s 16) && decide (valF 88 s 16 ≤ 65535))) : Bool) = (true && askF r 0 s)
    rw [z2, z4, z5, z6, z6, a0]; simp
  · show (((valF 0 s 32 / 2 ^ (32 - r.sn.toNat) == r.sa.toNat / 2 ^ (32 - r.sn.toNat)) && (valF 32 s 32 / 2 ^ (32 - r.dn.toNat) == r.da.toNat / 2 ^ (32 - r.dn.toNat)) && true && (decide (0 ≤ valF 72 s 16) && decide (valF 72 s 16 ≤ 65535)) && (decide (0 ≤ valF 88 s 16) && decide (valF 88 s 16 ≤ 65535))) : Bool) = (true && askF r 0 s && askF r 1 s)
    rw [z4, z5, z6, z6, a0, a1]; simp
  · show (((valF 0 s 32 / 2 ^ (32 - r.sn.toNat) == r.sa.toNat / 2 ^ (32 - r.sn.toNat)) && (valF 32 s 32 / 2 ^ (32 - r.dn.toNat) == r.da.toNat / 2 ^ (32 - r.dn.toNat)) && true && (decide (r.sl.toNat ≤ valF 72 s 16) && decide (valF 72 s 16 ≤ r.sh.toNat)) && (decide (0 ≤ valF 88 s 16) && decide (valF 88 s 16 ≤ 65535))) : Bool) = (true && askF r 0 s && askF r 1 s && askF r 2 s)
    rw [z5, z6, a0, a1, a2]; simp
  · show (((valF 0 s 32 / 2 ^ (32 - r.sn.toNat) == r.sa.toNat / 2 ^ (32 - r.sn.toNat)) && (valF 32 s 32 / 2 ^ (32 - r.dn.toNat) == r.da.toNat / 2 ^ (32 - r.dn.toNat)) && true && (decide (r.sl.toNat ≤ valF 72 s 16) && decide (valF 72 s 16 ≤ r.sh.toNat)) && (decide (r.dl.toNat ≤ valF 88 s 16) && decide (valF 88 s 16 ≤ r.dh.toNat))) : Bool) = (true && askF r 0 s && askF r 1 s && askF r 2 s && askF r 3 s)
    rw [a0, a1, a2, a3]; simp
  · show (((valF 0 s 32 / 2 ^ (32 - r.sn.toNat) == r.sa.toNat / 2 ^ (32 - r.sn.toNat)) && (valF 32 s 32 / 2 ^ (32 - r.dn.toNat) == r.da.toNat / 2 ^ (32 - r.dn.toNat)) && (false || valF 64 s 8 == r.proto.toNat) && (decide (r.sl.toNat ≤ valF 72 s 16) && decide (valF 72 s 16 ≤ r.sh.toNat)) && (decide (r.dl.toNat ≤ valF 88 s 16) && decide (valF 88 s 16 ≤ r.dh.toNat))) : Bool) = (true && askF r 0 s && askF r 1 s && askF r 2 s && askF r 3 s && askF r 4 s)
    rw [a0, a1, a2, a3, a4]
    generalize (valF 0 s 32 / 2 ^ (32 - r.sn.toNat) == r.sa.toNat / 2 ^ (32 - r.sn.toNat)) = a
    generalize (valF 32 s 32 / 2 ^ (32 - r.dn.toNat) == r.da.toNat / 2 ^ (32 - r.dn.toNat)) = b
    generalize (valF 64 s 8 == r.proto.toNat) = c
    generalize (decide (r.sl.toNat ≤ valF 72 s 16) && decide (valF 72 s 16 ≤ r.sh.toNat)) = d
    generalize (decide (r.dl.toNat ≤ valF 88 s 16) && decide (valF 88 s 16 ≤ r.dh.toNat)) = e
    cases a <;> cases b <;> cases c <;> cases d <;> cases e <;> rfl
/-- A rule's own function, by the first j asks. -/
theorem ruleK_widB {r : RuleV} (ok : RuleOk r) {j : Nat} (hj : j ≤ asksN r) : WidB (ruleK r j) (bW 1) := by
  have h := box_wid (fun _ => rbx r j) [0] fun l => !l.isEmpty
  rw [show (fun s => !(([0] : List Nat).filter fun _ => boxP (rbx r j) s).isEmpty) = ruleK r j from funext fun s => by
    rw [← rbx_eq ok hj s]
    cases hb : boxP (rbx r j) s <;> simp] at h
  exact h
/-- Which of the rules hold a header. -/
def hits (L : List RuleV) (T : List Nat) (s : Nat → Bool) : List Nat := T.filter fun i => ruleAt L i s
theorem hits_widB {L : List RuleV} (ok : ∀ (k : Nat) (r : RuleV), L[k]? = some r → RuleOk r) (T : List Nat) (hT : ∀ i ∈ T, i < L.length) (Φ : List Nat → Bool) : WidB (fun s => Φ (hits L T s)) (bW T.length) := by
  have h := box_wid (fun i => match L[i]? with | some r => rbx r (asksN r) | none => ⟨0, 0, 0, 0, true, 0, 0, 0, 0, 0⟩) T Φ
  refine (congrArg (fun F => WidB F (bW T.length)) (funext fun s => ?_)).mp h
  congr 1
  refine List.filter_congr fun i hi => ?_
  obtain ⟨r, hr⟩ : ∃ r, L[i]? = some r := ⟨_, List.getElem?_eq_getElem (hT i hi)⟩
  rw [ruleAt_eq hr, hr]
  exact rbx_eq (ok i r hr) (Nat.le_refl _) s
theorem hits_range (L : List RuleV) (k : Nat) (s : Nat → Bool) : leftF L k s = (hits L (List.range k) s).isEmpty := by
  rw [Bool.eq_iff_iff]
  unfold leftF hits
  rw [Bool.not_eq_true', List.any_eq_false, List.isEmpty_iff, List.filter_eq_nil_iff]
  constructor
  · intro h i hi
    unfold ruleAt
    cases hr : L[i]? with
    | none => simp
    | some r =>
      have := h r (List.mem_iff_getElem?.2 ⟨i, by rw [List.getElem?_take_of_lt (List.mem_range.1 hi)]; exact hr⟩)
      simpa using this
  · intro h r hr
    obtain ⟨i, hi⟩ := List.mem_iff_getElem?.1 hr
    have hik : i < k := by
      have := (List.getElem?_eq_some_iff.1 hi).1
      rw [List.length_take] at this
      omega
    rw [List.getElem?_take_of_lt hik] at hi
    have := h i (List.mem_range.2 hik)
    rw [ruleAt_eq hi] at this
    exact this
end Go.Proofs.YtbahehmfhjkgeaaGreat

/-
  A rule's set, its cost told by the sharp bound (written by wip/gen/genfc.py).
-/
namespace Go.Proofs.YtbahehmfhjkgeaaGreat
open Go Go.RowKit Go.ChangeMaps Go.MapKept Go.Maps Go.Lib Go.Sort

/-- A function that takes c nodes at most, or has a node. -/
def Fits (σ : Sg) (F : Fun) (c : Nat) : Prop := WidB F c ∨ ∃ g, Den σ g F
theorem Fits.grow {σ τ : Sg} {F : Fun} {c k m Mo Mo' : Nat} (h : Fits σ F c) (t : To k m σ τ) (o : SgOk Mo σ) (p : SgOk Mo' τ) : Grow τ.N τ.H F c c := by
  rcases h with h | ⟨g, h⟩
  · exact Grow.widB p.wf.two h
  · exact ((h.to t o p).grow p).mono (Nat.zero_le _) (Nat.zero_le _)
theorem Fits.to {σ τ : Sg} {F : Fun} {c k m Mo Mo' : Nat} (h : Fits σ F c) (t : To k m σ τ) (o : SgOk Mo σ) (p : SgOk Mo' τ) : Fits τ F c := h.imp id fun ⟨g, h⟩ => ⟨g, h.to t o p⟩
theorem sumTo_up (c : Nat → Nat) {i j : Nat} (h : i ≤ j) : sumTo c i ≤ sumTo c j := by
  induction h with
  | refl => exact Nat.le_refl _
  | step _ ih => exact Nat.le_trans ih (Nat.le_add_right _ _)
def rcst (cd cl : Nat → Nat) (k : Nat) : Nat := 6760 + cd k + cl k
section
variable {w : World} {B S km : Nat} {A : Blks} {Mo : Nat} {σ : Sg}
set_option maxRecDepth 100000
set_option maxHeartbeats 8000000
theorem rule_c (h : SpOk w B S km A Mo σ) (r : RuleV) (ok : RuleOk r) (hl : σ.N.length + 6760 ≤ 2147483647) :
    Calls Tryz.prog 51 #[.pointer (some ⟨S, 0, none⟩), .agg #[.bool r.permit, .int .i64 r.proto, .int .u32 r.sa, .int .i64 r.sn, .int .u32 r.da, .int .i64 r.dn, .int .u32 r.sl, .int .u32 r.sh, .int .u32 r.dl, .int .u32 r.dh]] w
      (SpRes w B S km A Mo σ (ruleF r) (6760) (6760)) := by
  obtain ⟨i0, hif, hz0, hz1, hz2⟩ := info_parts Tryz.infoFn0
  have hW : (w.alloc (.cells #[.pointer (some ⟨S, 0, none⟩)] 26)).alloc (.cells #[.bool r.permit, .int .i64 r.proto, .int .u32 r.sa, .int .i64 r.sn, .int .u32 r.da, .int .i64 r.dn, .int .u32 r.sl, .int .u32 r.sh, .int .u32 r.dl, .int .u32 r.dh] 43) = (w.alloc (.cells #[.pointer (some ⟨S, 0, none⟩)] 26)).alloc (.cells #[.bool r.permit, .int .i64 r.proto, .int .u32 r.sa, .int .i64 r.sn, .int .u32 r.da, .int .i64 r.dn, .int .u32 r.sl, .int .u32 r.sh, .int .u32 r.dl, .int .u32 r.dh] 43) := rfl
  have hbw := below2 w (.cells #[.pointer (some ⟨S, 0, none⟩)] 26) (.cells #[.bool r.permit, .int .i64 r.proto, .int .u32 r.sa, .int .i64 r.sn, .int .u32 r.da, .int .i64 r.dn, .int .u32 r.sl, .int .u32 r.sh, .int .u32 r.dl, .int .u32 r.dh] 43)
  have hs1 : (w.alloc (.cells #[.pointer (some ⟨S, 0, none⟩)] 26)).heap.size = w.heap.size + 1 := by simp
  have hks := blk_below (below1 (w.alloc (.cells #[.pointer (some ⟨S, 0, none⟩)] 26)) (.cells #[.bool r.permit, .int .i64 r.proto, .int .u32 r.sa, .int .i64 r.sn, .int .u32 r.da, .int .i64 r.dn, .int .u32 r.sl, .int .u32 r.sh, .int .u32 r.dl, .int .u32 r.dh] 43)) (blk1 w (.cells #[.pointer (some ⟨S, 0, none⟩)] 26))
  have hkr := blk1 (w.alloc (.cells #[.pointer (some ⟨S, 0, none⟩)] 26)) (.cells #[.bool r.permit, .int .i64 r.proto, .int .u32 r.sa, .int .i64 r.sn, .int .u32 r.da, .int .i64 r.dn, .int .u32 r.sl, .int .u32 r.sh, .int .u32 r.dl, .int .u32 r.dh] 43)
  rw [hs1] at hkr
  have HSZ : Hid (((w.alloc (.cells #[.pointer (some ⟨S, 0, none⟩)] 26)).alloc (.cells #[.bool r.permit, .int .i64 r.proto, .int .u32 r.sa, .int .i64 r.sn, .int .u32 r.da, .int .i64 r.dn, .int .u32 r.sl, .int .u32 r.sh, .int .u32 r.dl, .int .u32 r.dh] 43)).heap.size = w.heap.size + 1 + 1) := Lib.hid (by simp)
  have HAB := Lib.hid (show AskBox _ S w.heap.size (w.heap.size + 1) r from ⟨hks, hkr⟩)
  have HF1 := Lib.hid (h.sp.ar.foreign_new hbw (Nat.le_refl _) (lt_of_block hks))
  have HF2 := Lib.hid (h.sp.ar.foreign_new hbw (show w.heap.size ≤ w.heap.size + 1 by omega) (lt_of_block hkr))
  have HNE : Hid (w.heap.size ≠ km ∧ w.heap.size + 1 ≠ km) := Lib.hid (by have := h.sp.fk.1; omega)
  have HS := Lib.hid (h.below hbw)
  have HK := Lib.hid (h.kept hbw)
  have HOK := Lib.hid ok
  have c1 : ((w.alloc (.cells #[.pointer (some ⟨S, 0, none⟩)] 26)).alloc (.cells #[.bool r.permit, .int .i64 r.proto, .int .u32 r.sa, .int .i64 r.sn, .int .u32 r.da, .int .i64 r.dn, .int .u32 r.sl, .int .u32 r.sh, .int .u32 r.dl, .int .u32 r.dh] 43)).cell? ⟨w.heap.size + 1, 1, none⟩ = some (.int .i64 r.proto) := cell_of_row _ _ 1 _ _ (0, 0) hkr
  clear h hbw hks hkr hs1 ok hW
  go_enter Tryz.func51, Tryz.ntmps51
  go_upto_region 1 with fail
  generalize (w.alloc (.cells #[.pointer (some ⟨S, 0, none⟩)] 26)).alloc (.cells #[.bool r.permit, .int .i64 r.proto, .int .u32 r.sa, .int .i64 r.sn, .int .u32 r.da, .int .i64 r.dn, .int .u32 r.sl, .int .u32 r.sh, .int .u32 r.dl, .int .u32 r.dh] 43) = w0 at *
  have HROW := Lib.hid (show (w0.alloc (.cells #[askV w.heap.size (w.heap.size + 1) 0, askV w.heap.size (w.heap.size + 1) 1, askV w.heap.size (w.heap.size + 1) 2, askV w.heap.size (w.heap.size + 1) 3] 95)).ownsRow w0.heap.size 95 1 (.slice (some ⟨w0.heap.size, 0, none⟩) 4 4) 4 [askV w.heap.size (w.heap.size + 1) 0, askV w.heap.size (w.heap.size + 1) 1, askV w.heap.size (w.heap.size + 1) 2, askV w.heap.size (w.heap.size + 1) 3] from
    World.ownsRow_lit w0 #[askV w.heap.size (w.heap.size + 1) 0, askV w.heap.size (w.heap.size + 1) 1, askV w.heap.size (w.heap.size + 1) 2, askV w.heap.size (w.heap.size + 1) 3] 4 (Nat.le_refl _) (by unfold maxLen; omega) rfl)
  have HB1 := Lib.hid (below1 w0 (.cells #[askV w.heap.size (w.heap.size + 1) 0, askV w.heap.size (w.heap.size + 1) 1, askV w.heap.size (w.heap.size + 1) 2, askV w.heap.size (w.heap.size + 1) 3] 95))
  have hWV : w0.alloc (.cells #[.func (.func 108) #[] #[.pointer (some ⟨w.heap.size, 0, none⟩), .pointer (some ⟨w.heap.size + 1, 0, none⟩)], .func (.func 109) #[] #[.pointer (some ⟨w.heap.size, 0, none⟩), .pointer (some ⟨w.heap.size + 1, 0, none⟩)], .func (.func 110) #[] #[.pointer (some ⟨w.heap.size, 0, none⟩), .pointer (some ⟨w.heap.size + 1, 0, none⟩)], .func (.func 111) #[] #[.pointer (some ⟨w.heap.size, 0, none⟩), .pointer (some ⟨w.heap.size + 1, 0, none⟩)]] 95) = w0.alloc (.cells #[askV w.heap.size (w.heap.size + 1) 0, askV w.heap.size (w.heap.size + 1) 1, askV w.heap.size (w.heap.size + 1) 2, askV w.heap.size (w.heap.size + 1) 3] 95) := rfl
  go_upto_region 2 with fail
  clear hWV
  generalize w0.alloc (.cells #[askV w.heap.size (w.heap.size + 1) 0, askV w.heap.size (w.heap.size + 1) 1, askV w.heap.size (w.heap.size + 1) 2, askV w.heap.size (w.heap.size + 1) 3] 95) = w1 at *
  have d1 : w1.cell? ⟨w.heap.size + 1, 1, none⟩ = some (.int .i64 r.proto) := cell_of_row _ _ 1 _ _ (0, 0) (blk_below HB1.out HAB.out.r)
  clear c1
  by_cases hp : 0 ≤ r.proto
  · have hpi : r.proto ≥ 0 := hp
    have hne : asksN r = 5 := if_pos hp
    have HN := Lib.hid hne
    have hbs := HB1.out.size
    clear hp hne
    go_upto_region 4 with (at_builtin; refine wpList_push2 (v := .slice (some ⟨w0.heap.size, 0, none⟩) 4 4) rfl _ _ 196 rfl 95 i0 _ 1 8 Tryz.underlying196 hif hz0 hz1 hz2 rfl (by decide) (by decide) [askV w.heap.size (w.heap.size + 1) 4] rfl rfl rfl HROW.out rfl (by intro u hu; simp at hu; subst hu; rfl) (by omega) hbs ?_; intro v2 w2 hown2 hg2 hmv2; obtain ⟨A2, c2, hv2, hA2⟩ := owns_form hown2; subst hv2; have HO2 := Lib.hid hown2; have HA2 := Lib.hid hA2; have HB2 := Lib.hid (below_grown HB1.out hbs hg2 (fun g hg => by have : some w0.heap.size = some g := hg; injection this; omega)); clear hown2 hg2 hmv2 hA2)
    clear HROW hbs
    have HS2 := Lib.hid (HS.out.below HB2.out)
    have HK2 := Lib.hid (HK.out.trans (HS.out.kept HB2.out))
    have HAB2 := Lib.hid (show AskBox w2 S w.heap.size (w.heap.size + 1) r from ⟨blk_below HB2.out HAB.out.s, blk_below HB2.out HAB.out.r⟩)
    have HG2 := Lib.hid (And.intro (((HS.out.kept HB2.out).same _ HF1.out HNE.out.1).2) (((HS.out.kept HB2.out).same _ HF2.out HNE.out.2).2))
    have HBOX : Hid (∀ W, KeptS A km w2 W → AskBox W S w.heap.size (w.heap.size + 1) r) := Lib.hid fun W hW => ⟨(hW.same _ HG2.out.1 HNE.out.1).1.trans HAB2.out.s, (hW.same _ HG2.out.2 HNE.out.2).1.trans HAB2.out.r⟩
    have HCELL : Hid (∀ k, k < 5 → ∃ g, A2 = some ⟨g, 0, none⟩ ∧ ∀ W, KeptS A km w2 W → W.cell? ⟨g, k, none⟩ = some (askV w.heap.size (w.heap.size + 1) k)) := Lib.hid fun k hk => by
      obtain ⟨g, hg⟩ := HA2.out (by omega)
      have hlg := HO2.out.lt g (by rw [hg]; rfl)
      have hgf := HS.out.sp.ar.foreign_new HB2.out hlg.1 hlg.2
      have hgk : g ≠ km := by have := HS.out.sp.fk.1; omega
      refine ⟨g, hg, fun W hW => (World.cell?_of_block (hW.same _ hgf hgk).1).trans ?_⟩
      have ho := HO2.out
      rw [hg] at ho
      refine (ho.cellAt k (by omega)).trans ?_
      obtain rfl | rfl | rfl | rfl | rfl : k = 0 ∨ k = 1 ∨ k = 2 ∨ k = 3 ∨ k = 4 := by omega
      all_goals rfl
    clear HO2 HB2 HA2 HAB HF1 HF2 HSZ HAB2 HG2 HNE HS HK
    go_wp2
    go_loopw [7, 26] (fun f i wr => ∃ k : Nat, i = .int .i64 k ∧ k ≤ 5 ∧ ∃ (q : Nat) (τ : Sg), f = .int .i64 q ∧ Hid (SpOk wr B S km A Mo τ) ∧ Hid (To (k * 1352) (k * 1352) σ τ) ∧ Hid (Den τ q (ruleK r k)) ∧ Hid (KeptS A km w2 wr)) (fun _ i _ => 5 - (intOf i).toNat)
    case atStart => exact ⟨0, rfl, by omega, 1, σ, rfl, HS2, Lib.hid (by rw [Nat.zero_mul]; exact To.refl σ), Lib.hid (Den.one HS2.out.ok), Lib.hid (KeptS.refl _ _ _)⟩
    case round =>
      obtain ⟨k, rfl, hk, q, τ, rfl, HSR, HTR, HDR, HKR⟩ := hrel
      by_cases hlt : k < 5
      · have hI : (k : Int) < 5 := by omega
        obtain ⟨g, hge, hcell⟩ := HCELL.out k hlt
        have hcl := hcell wr HKR.out
        obtain ⟨fid, hfv, hen, hcall⟩ := ask_yes (B := B) (S := S) (km := km) (A := A) (Mo := Mo) r HOK.out w.heap.size (w.heap.size + 1) k (by rw [HN.out]; exact hlt)
        rw [hfv] at hcl
        have hm1 : (k + 1) * 1352 ≤ 6760 := (by omega)
        have hm2 : (k + 1) * 1352 = k * 1352 + 1352 := by rw [Nat.add_mul, Nat.one_mul]
        have hnl := HTR.out.nl
        have HCL := Lib.hid (hcall wr τ HSR.out (HBOX.out wr HKR.out) (by omega))
        have HM := Lib.hid (And.intro hm1 hm2)
        clear hcell hfv hcall hm1 hm2 hnl
        subst hge
        go_upto_region 9 with ((with_reducible refine HCL.out.mono ?_); rintro e w5 hr5; obtain ⟨q5, c5, he5⟩ := hr5.form; have HR5 := Lib.hid hr5; subst he5; clear hr5)
        rcases HR5.out.two with ⟨rfl, rfl, hlt5, τ5, hs5, ht5⟩ | ⟨r5, τ5, rfl, rfl, hs5, ht5, hd5⟩
        · have HFIN := Lib.hid (SpRes.full (F := ruleF r) (HK2.out.trans (HKR.out.trans HR5.out.1)) rfl (by have := HTR.out.hl; have := HM.out; omega) hs5 ((HTR.out.trans ht5).mono (show k * 1352 + 1216 ≤ 6760 by have := HM.out; omega) (show k * 1352 + 1216 ≤ 6760 by have := HM.out; omega)))
          clear hlt5 hs5 ht5
          go_wp2
          go_ret2
          exact HFIN.out
        · have HS5 := Lib.hid hs5
          have HT5 := Lib.hid (HTR.out.trans ht5)
          have HK5 := Lib.hid (HKR.out.trans HR5.out.1)
          have hnl := HT5.out.nl
          have hm := HM.out
          have hw := ruleK_widB HOK.out (j := k + 1) (by rw [HN.out]; omega)
          have HAN := Lib.hid (show Calls Tryz.prog 14 #[.pointer (some ⟨S, 0, none⟩), .int .i64 q, .int .i64 r5] w5 (SpRes w5 B S km A Mo τ5 (ruleK r (k + 1)) 136 136) from relAnd_yes hs5 (HDR.out.to ht5 HSR.out.ok hs5.ok) hd5 (ruleK_set r k) (askF_set r k) (a := 136) (b := 136) (Grow.widB hs5.ok.wf.two hw) (by omega))
          have s0 := cell0 (HBOX.out w5 HK5.out).s
          clear hs5 ht5 hd5 HR5 HCL hnl hm hw hcl hen
          go_upto_region 12 with ((with_reducible refine HAN.out.mono ?_); rintro e w7 hr7; obtain ⟨q7, c7, he7⟩ := hr7.form; have HR7 := Lib.hid hr7; subst he7; clear hr7)
          rcases HR7.out.two with ⟨rfl, rfl, hlt7, τ7, hs7, ht7⟩ | ⟨r7, τ7, rfl, rfl, hs7, ht7, hd7⟩
          · have HFIN := Lib.hid (SpRes.full (F := ruleF r) (HK2.out.trans (HK5.out.trans HR7.out.1)) rfl (by have := HT5.out.hl; have := HM.out; omega) hs7 ((HT5.out.trans ht7).mono (show k * 1352 + 1216 + 136 ≤ 6760 by have := HM.out; omega) (show k * 1352 + 1216 + 136 ≤ 6760 by have := HM.out; omega)))
            clear hlt7 hs7 ht7
            go_wp2
            go_ret2
            exact HFIN.out
          · have HS7 := Lib.hid hs7
            have HT7 := Lib.hid ((HT5.out.trans ht7).mono (show k * 1352 + 1216 + 136 ≤ (k + 1) * 1352 by have := HM.out; omega) (show k * 1352 + 1216 + 136 ≤ (k + 1) * 1352 by have := HM.out; omega))
            have HD7 := Lib.hid hd7
            have HK7 := Lib.hid (HK5.out.trans HR7.out.1)
            clear hs7 ht7 hd7 HR7 HAN
            go_wp2
            exact ⟨⟨k + 1, by go_num, by omega, r7, τ7, rfl, HS7, HT7, HD7, HK7⟩, by simp only [intOf]; omega⟩
      · obtain rfl : k = 5 := by omega
        have hI : ¬ ((5 : Nat) : Int) < 5 := by omega
        have hfd := HDR.out
        have hrf : ruleF r = ruleK r 5 := by unfold ruleF; rw [HN.out]
        rw [← hrf] at hfd
        have HFIN : Hid (SpRes w B S km A Mo σ (ruleF r) (6760) (6760) (.returned (.tuple #[.int .i64 q, .int .i64 0])) wr) := Lib.hid ⟨HK2.out.trans HKR.out, .inr ⟨q, τ, rfl, HSR.out, HTR.out.mono ((by omega)) ((by omega)), hfd⟩⟩
        clear hfd hrf
        go_wp2
        go_ret2
        exact HFIN.out
  · have hpi : ¬ r.proto ≥ 0 := hp
    have hne : asksN r = 4 := if_neg hp
    have HN := Lib.hid hne
    clear hp hne
    go_upto_region 4 with fail
    obtain ⟨A2, hA2e⟩ : ∃ A2 : Option Addr, A2 = some ⟨w0.heap.size, 0, none⟩ := ⟨_, rfl⟩
    obtain ⟨c2, hc2e⟩ : ∃ c2 : Nat, c2 = 4 := ⟨_, rfl⟩
    have HO2 := HROW
    have HA2 : Hid (0 < 4 → ∃ g, some (⟨w0.heap.size, 0, none⟩ : Addr) = some ⟨g, 0, none⟩) := Lib.hid fun _ => ⟨_, rfl⟩
    have HB2 := HB1
    clear HROW HB1 d1 hA2e hc2e
    clear A2 c2
    rename World => w2
    have HS2 := Lib.hid (HS.out.below HB2.out)
    have HK2 := Lib.hid (HK.out.trans (HS.out.kept HB2.out))
    have HAB2 := Lib.hid (show AskBox w2 S w.heap.size (w.heap.size + 1) r from ⟨blk_below HB2.out HAB.out.s, blk_below HB2.out HAB.out.r⟩)
    have HG2 := Lib.hid (And.intro (((HS.out.kept HB2.out).same _ HF1.out HNE.out.1).2) (((HS.out.kept HB2.out).same _ HF2.out HNE.out.2).2))
    have HBOX : Hid (∀ W, KeptS A km w2 W → AskBox W S w.heap.size (w.heap.size + 1) r) := Lib.hid fun W hW => ⟨(hW.same _ HG2.out.1 HNE.out.1).1.trans HAB2.out.s, (hW.same _ HG2.out.2 HNE.out.2).1.trans HAB2.out.r⟩
    have HCELL : Hid (∀ k, k < 4 → ∃ g, (some (⟨w0.heap.size, 0, none⟩ : Addr)) = some ⟨g, 0, none⟩ ∧ ∀ W, KeptS A km w2 W → W.cell? ⟨g, k, none⟩ = some (askV w.heap.size (w.heap.size + 1) k)) := Lib.hid fun k hk => by
      obtain ⟨g, hg⟩ := HA2.out (by omega)
      have hlg := HO2.out.lt g (by rw [hg]; rfl)
      have hgf := HS.out.sp.ar.foreign_new HB2.out hlg.1 hlg.2
      have hgk : g ≠ km := by have := HS.out.sp.fk.1; omega
      refine ⟨g, hg, fun W hW => (World.cell?_of_block (hW.same _ hgf hgk).1).trans ?_⟩
      have ho := HO2.out
      rw [hg] at ho
      refine (ho.cellAt k (by omega)).trans ?_
      obtain rfl | rfl | rfl | rfl : k = 0 ∨ k = 1 ∨ k = 2 ∨ k = 3 := by omega
      all_goals rfl
    clear HO2 HB2 HA2 HAB HF1 HF2 HSZ HAB2 HG2 HNE HS HK
    go_wp2
    go_loopw [7, 26] (fun f i wr => ∃ k : Nat, i = .int .i64 k ∧ k ≤ 4 ∧ ∃ (q : Nat) (τ : Sg), f = .int .i64 q ∧ Hid (SpOk wr B S km A Mo τ) ∧ Hid (To (k * 1352) (k * 1352) σ τ) ∧ Hid (Den τ q (ruleK r k)) ∧ Hid (KeptS A km w2 wr)) (fun _ i _ => 4 - (intOf i).toNat)
    case atStart => exact ⟨0, rfl, by omega, 1, σ, rfl, HS2, Lib.hid (by rw [Nat.zero_mul]; exact To.refl σ), Lib.hid (Den.one HS2.out.ok), Lib.hid (KeptS.refl _ _ _)⟩
    case round =>
      obtain ⟨k, rfl, hk, q, τ, rfl, HSR, HTR, HDR, HKR⟩ := hrel
      by_cases hlt : k < 4
      · have hI : (k : Int) < 4 := by omega
        obtain ⟨g, hge, hcell⟩ := HCELL.out k hlt
        have hcl := hcell wr HKR.out
        obtain ⟨fid, hfv, hen, hcall⟩ := ask_yes (B := B) (S := S) (km := km) (A := A) (Mo := Mo) r HOK.out w.heap.size (w.heap.size + 1) k (by rw [HN.out]; exact hlt)
        rw [hfv] at hcl
        have hm1 : (k + 1) * 1352 ≤ 6760 := (by omega)
        have hm2 : (k + 1) * 1352 = k * 1352 + 1352 := by rw [Nat.add_mul, Nat.one_mul]
        have hnl := HTR.out.nl
        have HCL := Lib.hid (hcall wr τ HSR.out (HBOX.out wr HKR.out) (by omega))
        have HM := Lib.hid (And.intro hm1 hm2)
        clear hcell hfv hcall hm1 hm2 hnl
        obtain rfl : g = w0.heap.size := by injection hge with hge; injection hge with h1; exact h1.symm
        go_upto_region 9 with ((with_reducible refine HCL.out.mono ?_); rintro e w5 hr5; obtain ⟨q5, c5, he5⟩ := hr5.form; have HR5 := Lib.hid hr5; subst he5; clear hr5)
        rcases HR5.out.two with ⟨rfl, rfl, hlt5, τ5, hs5, ht5⟩ | ⟨r5, τ5, rfl, rfl, hs5, ht5, hd5⟩
        · have HFIN := Lib.hid (SpRes.full (F := ruleF r) (HK2.out.trans (HKR.out.trans HR5.out.1)) rfl (by have := HTR.out.hl; have := HM.out; omega) hs5 ((HTR.out.trans ht5).mono (show k * 1352 + 1216 ≤ 6760 by have := HM.out; omega) (show k * 1352 + 1216 ≤ 6760 by have := HM.out; omega)))
          clear hlt5 hs5 ht5
          go_wp2
          go_ret2
          exact HFIN.out
        · have HS5 := Lib.hid hs5
          have HT5 := Lib.hid (HTR.out.trans ht5)
          have HK5 := Lib.hid (HKR.out.trans HR5.out.1)
          have hnl := HT5.out.nl
          have hm := HM.out
          have hw := ruleK_widB HOK.out (j := k + 1) (by rw [HN.out]; omega)
          have HAN := Lib.hid (show Calls Tryz.prog 14 #[.pointer (some ⟨S, 0, none⟩), .int .i64 q, .int .i64 r5] w5 (SpRes w5 B S km A Mo τ5 (ruleK r (k + 1)) 136 136) from relAnd_yes hs5 (HDR.out.to ht5 HSR.out.ok hs5.ok) hd5 (ruleK_set r k) (askF_set r k) (a := 136) (b := 136) (Grow.widB hs5.ok.wf.two hw) (by omega))
          have s0 := cell0 (HBOX.out w5 HK5.out).s
          clear hs5 ht5 hd5 HR5 HCL hnl hm hw hcl hen
          go_upto_region 12 with ((with_reducible refine HAN.out.mono ?_); rintro e w7 hr7; obtain ⟨q7, c7, he7⟩ := hr7.form; have HR7 := Lib.hid hr7; subst he7; clear hr7)
          rcases HR7.out.two with ⟨rfl, rfl, hlt7, τ7, hs7, ht7⟩ | ⟨r7, τ7, rfl, rfl, hs7, ht7, hd7⟩
          · have HFIN := Lib.hid (SpRes.full (F := ruleF r) (HK2.out.trans (HK5.out.trans HR7.out.1)) rfl (by have := HT5.out.hl; have := HM.out; omega) hs7 ((HT5.out.trans ht7).mono (show k * 1352 + 1216 + 136 ≤ 6760 by have := HM.out; omega) (show k * 1352 + 1216 + 136 ≤ 6760 by have := HM.out; omega)))
            clear hlt7 hs7 ht7
            go_wp2
            go_ret2
            exact HFIN.out
          · have HS7 := Lib.hid hs7
            have HT7 := Lib.hid ((HT5.out.trans ht7).mono (show k * 1352 + 1216 + 136 ≤ (k + 1) * 1352 by have := HM.out; omega) (show k * 1352 + 1216 + 136 ≤ (k + 1) * 1352 by have := HM.out; omega))
            have HD7 := Lib.hid hd7
            have HK7 := Lib.hid (HK5.out.trans HR7.out.1)
            clear hs7 ht7 hd7 HR7 HAN
            go_wp2
            exact ⟨⟨k + 1, by go_num, by omega, r7, τ7, rfl, HS7, HT7, HD7, HK7⟩, by simp only [intOf]; omega⟩
      · obtain rfl : k = 4 := by omega
        have hI : ¬ ((4 : Nat) : Int) < 4 := by omega
        have hfd := HDR.out
        have hrf : ruleF r = ruleK r 4 := by unfold ruleF; rw [HN.out]
        rw [← hrf] at hfd
        have HFIN : Hid (SpRes w B S km A Mo σ (ruleF r) (6760) (6760) (.returned (.tuple #[.int .i64 q, .int .i64 0])) wr) := Lib.hid ⟨HK2.out.trans HKR.out, .inr ⟨q, τ, rfl, HSR.out, HTR.out.mono ((by omega)) ((by omega)), hfd⟩⟩
        clear hfd hrf
        go_wp2
        go_ret2
        exact HFIN.out
end
end Go.Proofs.YtbahehmfhjkgeaaGreat

/-
  The sets for which each rule of a filter decides, with costs by function (written by wip/gen/genfc.py).
-/
namespace Go.Proofs.YtbahehmfhjkgeaaGreat
open Go Go.RowKit Go.ChangeMaps Go.MapKept Go.Maps Go.Lib Go.Sort

/-- What Rules comes to: a node for each rule, and for what each leaves, or no room. -/
def RulesC (w : World) (B S km : Nat) (A : Blks) (Mo : Nat) (σ : Sg) (L : List RuleV) (k : Nat) (e : Ending) (w' : World) : Prop :=
  KeptS A km w w' ∧ ((e = .returned (.tuple #[.slice none 0 0, .int .i64 3]) ∧ Mo < σ.H.length + k ∧ ∃ τ, SpOk w' B S km A Mo τ ∧ To k k σ τ) ∨
    ∃ (v : Value) (ns : List Nat) (τ : Sg), e = .returned (.tuple #[v, .int .i64 0]) ∧ SpOk w' B S km A Mo τ ∧ To k k σ τ ∧ ns.length = L.length ∧ (∀ i n, ns[i]? = some n → Den τ n (decF L i)) ∧ (∀ i, i ≤ L.length → ∃ g, Den τ g (leftF L i)) ∧ w'.ownsRow w.heap.size 3 1 v ns.length (ncl ns) ∧ OwnF A km S w' v)
theorem RulesC.full {w w' : World} {B S km : Nat} {A : Blks} {Mo : Nat} {σ τ : Sg} {L : List RuleV} {k : Nat} {e : Ending} (hk : KeptS A km w w') (h1 : e = .returned (.tuple #[.slice none 0 0, .int .i64 3])) (h2 : Mo < σ.H.length + k) (h3 : SpOk w' B S km A Mo τ) (h4 : To k k σ τ) : RulesC w B S km A Mo σ L k e w' := ⟨hk, .inl ⟨h1, h2, τ, h3, h4⟩⟩
section
variable {w : World} {B S km : Nat} {A : Blks} {Mo : Nat} {σ : Sg}
set_option maxRecDepth 100000
set_option maxHeartbeats 8000000
theorem rules_c (h : SpOk w B S km A Mo σ) (nm : ByteArray) (L : List RuleV) (vL : Value) (hL : RdF A km w 10 vL L.length (rcells L)) (he : filtE L = 0) (cd cl : Nat → Nat) (hK : ∀ (k : Nat) (r : RuleV), L[k]? = some r → Fits σ (decF L k) (cd k) ∧ Fits σ (leftF L (k + 1)) (cl k)) (hl : σ.N.length + sumTo (rcst cd cl) L.length ≤ 2147483647) :
    Calls Tryz.prog 11 #[.pointer (some ⟨S, 0, none⟩), .agg #[.string nm, vL]] w (RulesC w B S km A Mo σ L (sumTo (rcst cd cl) L.length)) := by
  obtain ⟨hlen, hmay⟩ := rule_may he
  obtain ⟨i0, hif, hz0, hz1, hz2⟩ := info_parts Tryz.infoInt
  obtain ⟨j0, jif, jz0, jz1, jz2⟩ := info_parts Tryz.infoRuleF
  obtain ⟨PL, cL, rfl, _⟩ := hL.rd.form
  have hbw := below1 w (.cells #[.string nm, .slice PL L.length cL] 24)
  have hbk := blk1 w (.cells #[.string nm, .slice PL L.length cL] 24)
  have HL := Lib.hid (hL.kept (h.kept hbw))
  have HS := Lib.hid (h.below hbw)
  have HK0 := Lib.hid (h.kept hbw)
  have HB0 := Lib.hid hbw
  have HBK := Lib.hid hbk
  have HWK := Lib.hid hK
  have HMAY := Lib.hid hmay
  have b0 : (w.alloc (.cells #[.string nm, .slice PL L.length cL] 24)).cell? ⟨w.heap.size, 0, none⟩ = some (.string nm) := cell_of_row _ _ 0 _ _ (0, 0) hbk
  have b1 : (w.alloc (.cells #[.string nm, .slice PL L.length cL] 24)).cell? ⟨w.heap.size, 1, none⟩ = some (.slice PL L.length cL) := cell_of_row _ _ 1 _ _ (0, 0) hbk
  have hck := filtCheck_any nm L _ _ HL.out.rd
  rw [he] at hck
  have HCK := Lib.hid hck
  clear h hL he hbw hbk hK hmay hck
  go_enter Tryz.func11, Tryz.ntmps11
  go_upto_region 1 with fail
  generalize w.alloc (.cells #[.string nm, .slice PL L.length cL] 24) = w0 at *
  go_upto_region 6 with ((with_reducible refine HCK.out.mono ?_); rintro e w2 ⟨rfl, hb2⟩; have HB2 := Lib.hid hb2; clear hb2)
  have HS2 := Lib.hid (HS.out.below HB2.out)
  have HK2 := Lib.hid (HK0.out.trans (HS.out.kept HB2.out))
  have HL2 := Lib.hid (HL.out.kept (HS.out.kept HB2.out))
  have HSZ : Hid (w.heap.size ≤ w2.heap.size) := Lib.hid (Nat.le_trans HB0.out.size HB2.out.size)
  have d1 : w2.cell? ⟨w.heap.size, 1, none⟩ = some (.slice PL L.length cL) := cell_of_row _ _ 1 _ _ (0, 0) (blk_below HB2.out HBK.out)
  clear b0 b1 HCK HB2 HS HL HK0 HBK HB0
  go_wp2
  go_loopw [7, 8, 9, 26] (fun q ov sv i wr => ∃ k : Nat, i = .int .i64 k ∧ k ≤ L.length ∧ ∃ (n : Nat) (τ : Sg) (ns : List Nat) (D : List RuleV), q = .int .i64 n ∧ Hid (RuSt w2 wr B S km A Mo τ ov ns sv D) ∧ Hid (ns.length = k) ∧ Hid (To (sumTo (rcst cd cl) k) (sumTo (rcst cd cl) k) σ τ) ∧ Hid (Den τ n (leftF L k)) ∧ Hid (∀ i m, ns[i]? = some m → Den τ m (decF L i)) ∧ Hid (D.length ≤ k ∧ ∀ d ∈ D, ∃ j x, j < k ∧ L[j]? = some x ∧ ruleF d = ruleF x) ∧ Hid (∀ i, i ≤ k → ∃ g, Den τ g (leftF L i))) (fun _ _ _ i _ => L.length - (intOf i).toNat)
  case atStart => exact ⟨0, rfl, by omega, 1, σ, [], [], rfl, Lib.hid (RuSt.start HS2.out), Lib.hid rfl, Lib.hid (To.refl σ), Lib.hid (Den.one HS2.out.ok), Lib.hid (by simp), Lib.hid ⟨by simp, by simp⟩, Lib.hid fun i hi => ⟨1, by obtain rfl : i = 0 := Nat.le_zero.1 hi; exact Den.one HS2.out.ok⟩⟩
  case round =>
    obtain ⟨k, rfl, hk, n, τ, ns, D, rfl, HR, HNS, HT, HD, HDS, HDD, HLK⟩ := hrel
    obtain ⟨Ao, co, hove, _⟩ := owns_form HR.out.out
    obtain ⟨As, cs, hsve, _⟩ := owns_form HR.out.seen
    subst hove hsve
    by_cases hlt : k < L.length
    · have hI : (k : Int) < (L.length : Int) := by omega
      obtain ⟨r, hr⟩ : ∃ r, L[k]? = some r := ⟨_, List.getElem?_eq_getElem hlt⟩
      obtain ⟨P', c', hv', _, _, hcell⟩ := HL2.out.kept HR.out.kept
      injection hv' with hP hlq hcq
      subst hP hcq
      clear hlq
      obtain ⟨bL, off, rfl, _, _, hcell⟩ := hcell (by omega)
      have r0 : wr.cell? ⟨bL, off + k * 10, none⟩ = some (.bool r.permit) := hcell (k * 10) _ (rcell (i := 0) hr rfl)
      have r1 : wr.cell? ⟨bL, off + k * 10 + 1, none⟩ = some (.int .i64 r.proto) := by have := hcell (k * 10 + 1) _ (rcell (i := 1) hr rfl); rwa [← Nat.add_assoc] at this
      have r2 : wr.cell? ⟨bL, off + k * 10 + 2, none⟩ = some (.int .u32 r.sa) := by have := hcell (k * 10 + 2) _ (rcell (i := 2) hr rfl); rwa [← Nat.add_assoc] at this
      have r3 : wr.cell? ⟨bL, off + k * 10 + 3, none⟩ = some (.int .i64 r.sn) := by have := hcell (k * 10 + 3) _ (rcell (i := 3) hr rfl); rwa [← Nat.add_assoc] at this
      have r4 : wr.cell? ⟨bL, off + k * 10 + 4, none⟩ = some (.int .u32 r.da) := by have := hcell (k * 10 + 4) _ (rcell (i := 4) hr rfl); rwa [← Nat.add_assoc] at this
      have r5 : wr.cell? ⟨bL, off + k * 10 + 5, none⟩ = some (.int .i64 r.dn) := by have := hcell (k * 10 + 5) _ (rcell (i := 5) hr rfl); rwa [← Nat.add_assoc] at this
      have r6 : wr.cell? ⟨bL, off + k * 10 + 6, none⟩ = some (.int .u32 r.sl) := by have := hcell (k * 10 + 6) _ (rcell (i := 6) hr rfl); rwa [← Nat.add_assoc] at this
      have r7 : wr.cell? ⟨bL, off + k * 10 + 7, none⟩ = some (.int .u32 r.sh) := by have := hcell (k * 10 + 7) _ (rcell (i := 7) hr rfl); rwa [← Nat.add_assoc] at this
      have r8 : wr.cell? ⟨bL, off + k * 10 + 8, none⟩ = some (.int .u32 r.dl) := by have := hcell (k * 10 + 8) _ (rcell (i := 8) hr rfl); rwa [← Nat.add_assoc] at this
      have r9 : wr.cell? ⟨bL, off + k * 10 + 9, none⟩ = some (.int .u32 r.dh) := by have := hcell (k * 10 + 9) _ (rcell (i := 9) hr rfl); rwa [← Nat.add_assoc] at this
      have HRR := Lib.hid hr
      have hok := HMAY.out k r hr
      have hwk := HWK.out k r hr
      have HOK := Lib.hid (And.intro hok hwk)
      have hm1 : sumTo (rcst cd cl) (k + 1) ≤ sumTo (rcst cd cl) L.length := sumTo_up _ hlt
      have hm2 : sumTo (rcst cd cl) (k + 1) = sumTo (rcst cd cl) k + (6760 + cd k + cl k) := rfl
      have HM := Lib.hid (And.intro hm1 hm2)
      clear hcell hr hok hwk hm1 hm2
      go_upto_region 13 with fail
      have hb3 := below2 wr (.cells #[.bool r.permit, .int .i64 r.proto, .int .u32 r.sa, .int .i64 r.sn, .int .u32 r.da, .int .i64 r.dn, .int .u32 r.sl, .int .u32 r.sh, .int .u32 r.dl, .int .u32 r.dh] 43) (.cells #[.bool r.permit, .int .i64 r.proto, .int .u32 r.sa, .int .i64 r.sn, .int .u32 r.da, .int .i64 r.dn, .int .u32 r.sl, .int .u32 r.sh, .int .u32 r.dl, .int .u32 r.dh] 43)
      have hs3 : (wr.alloc (.cells #[.bool r.permit, .int .i64 r.proto, .int .u32 r.sa, .int .i64 r.sn, .int .u32 r.da, .int .i64 r.dn, .int .u32 r.sl, .int .u32 r.sh, .int .u32 r.dl, .int .u32 r.dh] 43)).heap.size = wr.heap.size + 1 := by simp
      have ka := blk_below (below1 (wr.alloc (.cells #[.bool r.permit, .int .i64 r.proto, .int .u32 r.sa, .int .i64 r.sn, .int .u32 r.da, .int .i64 r.dn, .int .u32 r.sl, .int .u32 r.sh, .int .u32 r.dl, .int .u32 r.dh] 43)) (.cells #[.bool r.permit, .int .i64 r.proto, .int .u32 r.sa, .int .i64 r.sn, .int .u32 r.da, .int .i64 r.dn, .int .u32 r.sl, .int .u32 r.sh, .int .u32 r.dl, .int .u32 r.dh] 43)) (blk1 wr (.cells #[.bool r.permit, .int .i64 r.proto, .int .u32 r.sa, .int .i64 r.sn, .int .u32 r.da, .int .i64 r.dn, .int .u32 r.sl, .int .u32 r.sh, .int .u32 r.dl, .int .u32 r.dh] 43))
      have kb := blk1 (wr.alloc (.cells #[.bool r.permit, .int .i64 r.proto, .int .u32 r.sa, .int .i64 r.sn, .int .u32 r.da, .int .i64 r.dn, .int .u32 r.sl, .int .u32 r.sh, .int .u32 r.dl, .int .u32 r.dh] 43)) (.cells #[.bool r.permit, .int .i64 r.proto, .int .u32 r.sa, .int .i64 r.sn, .int .u32 r.da, .int .i64 r.dn, .int .u32 r.sl, .int .u32 r.sh, .int .u32 r.dl, .int .u32 r.dh] 43)
      rw [hs3] at kb
      have HR3 := Lib.hid (HR.out.below hb3)
      have HB3 := Lib.hid hb3
      have HA3 := Lib.hid ka
      clear hs3 hb3 r0 r1 r2 r3 r4 r5 r6 r7 r8 r9
      generalize (wr.alloc (.cells #[.bool r.permit, .int .i64 r.proto, .int .u32 r.sa, .int .i64 r.sn, .int .u32 r.da, .int .i64 r.dn, .int .u32 r.sl, .int .u32 r.sh, .int .u32 r.dl, .int .u32 r.dh] 43)).alloc (.cells #[.bool r.permit, .int .i64 r.proto, .int .u32 r.sa, .int .i64 r.sn, .int .u32 r.da, .int .i64 r.dn, .int .u32 r.sl, .int .u32 r.sh, .int .u32 r.dl, .int .u32 r.dh] 43) = w3 at *
      have fz := frozen_of_row w3 _ 0 _ _ kb
      have cz : w3.cell? ⟨wr.heap.size + 1, 0, none⟩ = some (.bool r.permit) := cell_of_row _ _ 0 _ _ (0, 0) kb
      have st : ∀ k, k ≠ wr.heap.size + 1 → (w3.setCell ⟨wr.heap.size + 1, 0, none⟩ (.bool false)).heap[k]? = w3.heap[k]? := fun k hk => Below.heap_setCell w3 ⟨wr.heap.size + 1, 0, none⟩ _ k hk
      have hsz : (w3.setCell ⟨wr.heap.size + 1, 0, none⟩ (.bool false)).heap.size = w3.heap.size := by simp [World.setCell]
      have hb4 : Below wr.heap.size wr (w3.setCell ⟨wr.heap.size + 1, 0, none⟩ (.bool false)) := ⟨HB3.out.os, HB3.out.tape, HB3.out.output, by have := HB3.out.size; omega, fun k hk => (st k (by omega)).trans (HB3.out.block k hk)⟩
      have kb4 : (w3.setCell ⟨wr.heap.size + 1, 0, none⟩ (.bool false)).heap[wr.heap.size + 1]? = some (.cells #[.bool (anyR r).permit, .int .i64 (anyR r).proto, .int .u32 (anyR r).sa, .int .i64 (anyR r).sn, .int .u32 (anyR r).da, .int .i64 (anyR r).dn, .int .u32 (anyR r).sl, .int .u32 (anyR r).sh, .int .u32 (anyR r).dl, .int .u32 (anyR r).dh] 43 (0, 0)) := heap_setCell_same _ _ _ _ _ _ kb
      have ka4 := (st wr.heap.size (by omega)).trans ka
      have HR4 := Lib.hid (HR.out.below hb4)
      have HKA := Lib.hid ka4
      have HKB := Lib.hid kb4
      have HB4 := Lib.hid hb4
      clear st hsz hb4 kb4 ka4 ka kb HR3 HB3 HA3
      go_upto_region 14 with fail
      clear fz cz
      generalize w3.setCell ⟨wr.heap.size + 1, 0, none⟩ (.bool false) = w4 at *
      have HCON := Lib.hid (containsRule_any D _ (fun x => sameR x (anyR r)) 50 #[.pointer (some ⟨wr.heap.size + 1, 0, none⟩)] w4 (enters_of Tryz.func50 (by kernel_rfl) rfl) (rulesEq_pred (anyR r) _ w4 HKB.out) (Rd.of_own HR4.out.seen) (by have := HDD.out.1; omega))
      have HANY := Lib.hid (show D.any (fun x => sameR x (anyR r)) = true → leftF L (k + 1) = leftF L k ∧ decF L k = fun _ => false from fun ha => by
        obtain ⟨d, hd, hs⟩ := List.any_eq_true.1 ha
        obtain ⟨j, x, hj, hx, hdx⟩ := HDD.out.2 d hd
        have he := sameR_eq hs
        subst he
        rw [ruleF_any] at hdx
        have hsub : ∀ s, ruleF r s = true → leftF L k s = false := fun s hs => by
          unfold leftF
          rw [Bool.not_eq_false', List.any_eq_true]
          refine ⟨x, List.mem_of_getElem? (i := j) (by rw [List.getElem?_take_of_lt hj]; exact hx), ?_⟩
          rw [← hdx]; exact hs
        refine ⟨?_, ?_⟩
        · rw [leftF_succ HRR.out]
          funext s
          cases h : ruleF r s
          · simp
          · rw [hsub s h]; rfl
        · rw [decF_eq HRR.out]
          funext s
          cases h : ruleF r s
          · simp
          · rw [hsub s h]; rfl)
      generalize hB : D.any (fun x => sameR x (anyR r)) = Bv at *
      clear hB
      go_wp2_with fail
      refine HCON.out.mono ?_
      rintro e w5 ⟨rfl, hb5⟩
      have HR5 := Lib.hid (HR4.out.below hb5)
      have HKA5 := Lib.hid (blk_below hb5 HKA.out)
      have HKB5 := Lib.hid (blk_below hb5 HKB.out)
      have HB5 := Lib.hid (HB4.out.trans (hb5.mono HB4.out.size))
      have hbs := HR5.out.kept.size
      have hnl := HNS.out
      have hml : ns.length ≤ 1099511627776 := by omega
      clear hb5 HR4 HKA HKB HB4 HCON hnl
      cases Bv with
      | true =>
        obtain ⟨hlf, hdf⟩ := HANY.out rfl
        have HLF := Lib.hid hlf
        have HDF := Lib.hid hdf
        clear hlf hdf HANY
        go_wp2_with (at_builtin; refine wpList_push2 (v := .slice Ao ns.length co) rfl _ _ 33 rfl 3 i0 _ 1 8 Tryz.underlying33 hif hz0 hz1 hz2 rfl (by decide) (by decide) [.int .i64 0] rfl rfl rfl HR5.out.out rfl (one_i64 _) hml hbs ?_; intro v6 w6 ho6 hg6 hm6; have HR6 := Lib.hid (HR5.out.pushOut (n := 0) ho6 hg6 hm6); obtain ⟨A6, c6, hv6, _⟩ := owns_form ho6; subst hv6; clear ho6 hg6 hm6)
        exact ⟨⟨k + 1, by go_num, by omega, n, τ, ns ++ [0], D, rfl, HR6, Lib.hid (by simp [HNS.out]), Lib.hid (HT.out.mono (by have := HM.out; omega) (by have := HM.out; omega)), Lib.hid (by rw [HLF.out]; exact HD.out), Lib.hid (den_snoc HDS.out HNS.out (by rw [HDF.out]; exact Den.zero HR6.out.sp.ok)), Lib.hid ⟨by have := HDD.out.1; omega, fun d hd => by obtain ⟨j, x, h1, h2, h3⟩ := HDD.out.2 d hd; exact ⟨j, x, by omega, h2, h3⟩⟩, Lib.hid fun i hi => by
          rcases Nat.lt_or_ge k i with h1 | h1
          · obtain rfl : i = k + 1 := by omega
            exact ⟨n, by rw [HLF.out]; exact HD.out⟩
          · exact HLK.out i h1⟩, by simp only [intOf]; omega⟩
      | false =>
        clear HANY
        have a0 : w5.cell? ⟨wr.heap.size + 1, 0, none⟩ = some (.bool (anyR r).permit) := cell_of_row _ _ 0 _ _ (0, 0) HKB5.out
        have a1 : w5.cell? ⟨wr.heap.size + 1, 1, none⟩ = some (.int .i64 (anyR r).proto) := cell_of_row _ _ 1 _ _ (0, 0) HKB5.out
        have a2 : w5.cell? ⟨wr.heap.size + 1, 2, none⟩ = some (.int .u32 (anyR r).sa) := cell_of_row _ _ 2 _ _ (0, 0) HKB5.out
        have a3 : w5.cell? ⟨wr.heap.size + 1, 3, none⟩ = some (.int .i64 (anyR r).sn) := cell_of_row _ _ 3 _ _ (0, 0) HKB5.out
        have a4 : w5.cell? ⟨wr.heap.size + 1, 4, none⟩ = some (.int .u32 (anyR r).da) := cell_of_row _ _ 4 _ _ (0, 0) HKB5.out
        have a5 : w5.cell? ⟨wr.heap.size + 1, 5, none⟩ = some (.int .i64 (anyR r).dn) := cell_of_row _ _ 5 _ _ (0, 0) HKB5.out
        have a6 : w5.cell? ⟨wr.heap.size + 1, 6, none⟩ = some (.int .u32 (anyR r).sl) := cell_of_row _ _ 6 _ _ (0, 0) HKB5.out
        have a7 : w5.cell? ⟨wr.heap.size + 1, 7, none⟩ = some (.int .u32 (anyR r).sh) := cell_of_row _ _ 7 _ _ (0, 0) HKB5.out
        have a8 : w5.cell? ⟨wr.heap.size + 1, 8, none⟩ = some (.int .u32 (anyR r).dl) := cell_of_row _ _ 8 _ _ (0, 0) HKB5.out
        have a9 : w5.cell? ⟨wr.heap.size + 1, 9, none⟩ = some (.int .u32 (anyR r).dh) := cell_of_row _ _ 9 _ _ (0, 0) HKB5.out
        have hdl : D.length ≤ 1099511627776 := by have := HDD.out.1; omega
        have HLTS := Lib.hid (fun g hg => (HR.out.seen.lt g hg).2)
        go_upto_region 17 with (at_builtin; refine wpList_push2 (v := .slice As D.length cs) rfl _ _ 22 rfl 43 j0 _ 10 64 Tryz.underlying22 jif jz0 jz1 jz2 rfl (by decide) (by decide) (anyR r).enc rfl rfl rfl HR5.out.seen rfl (by intro u hu; simp only [RuleV.enc, List.mem_cons, List.not_mem_nil, or_false] at hu; rcases hu with rfl | rfl | rfl | rfl | rfl | rfl | rfl | rfl | rfl | rfl <;> rfl) hdl hbs ?_; intro v6 w6 ho6 hg6 hm6; have HR6 := Lib.hid (HR5.out.pushSeen ho6 hg6 hm6); have HKA6 := Lib.hid ((hg6.block _ (lt_of_block HKA5.out) (fun e => by have := HLTS.out _ e.symm; omega)).trans HKA5.out); obtain ⟨A6, c6, hv6, _⟩ := owns_form ho6; subst hv6; clear ho6 hg6 hm6)
        clear a0 a1 a2 a3 a4 a5 a6 a7 a8 a9 HKA5 HKB5 HR5 HLTS hdl hbs
        have e0 : w6.cell? ⟨wr.heap.size, 0, none⟩ = some (.bool r.permit) := cell_of_row _ _ 0 _ _ (0, 0) HKA6.out
        have e1 : w6.cell? ⟨wr.heap.size, 1, none⟩ = some (.int .i64 r.proto) := cell_of_row _ _ 1 _ _ (0, 0) HKA6.out
        have e2 : w6.cell? ⟨wr.heap.size, 2, none⟩ = some (.int .u32 r.sa) := cell_of_row _ _ 2 _ _ (0, 0) HKA6.out
        have e3 : w6.cell? ⟨wr.heap.size, 3, none⟩ = some (.int .i64 r.sn) := cell_of_row _ _ 3 _ _ (0, 0) HKA6.out
        have e4 : w6.cell? ⟨wr.heap.size, 4, none⟩ = some (.int .u32 r.da) := cell_of_row _ _ 4 _ _ (0, 0) HKA6.out
        have e5 : w6.cell? ⟨wr.heap.size, 5, none⟩ = some (.int .i64 r.dn) := cell_of_row _ _ 5 _ _ (0, 0) HKA6.out
        have e6 : w6.cell? ⟨wr.heap.size, 6, none⟩ = some (.int .u32 r.sl) := cell_of_row _ _ 6 _ _ (0, 0) HKA6.out
        have e7 : w6.cell? ⟨wr.heap.size, 7, none⟩ = some (.int .u32 r.sh) := cell_of_row _ _ 7 _ _ (0, 0) HKA6.out
        have e8 : w6.cell? ⟨wr.heap.size, 8, none⟩ = some (.int .u32 r.dl) := cell_of_row _ _ 8 _ _ (0, 0) HKA6.out
        have e9 : w6.cell? ⟨wr.heap.size, 9, none⟩ = some (.int .u32 r.dh) := cell_of_row _ _ 9 _ _ (0, 0) HKA6.out
        have hnl := HT.out.nl
        have hm := HM.out
        have HRU := Lib.hid (rule_c HR6.out.sp r HOK.out.1 (by omega))
        clear hnl hm HKA6
        go_upto_region 18 with ((with_reducible refine HRU.out.mono ?_); rintro e w7 hr7; obtain ⟨q7, c7, he7⟩ := hr7.form; have HR7 := Lib.hid hr7; subst he7; clear hr7)
        clear e0 e1 e2 e3 e4 e5 e6 e7 e8 e9
        rcases HR7.out.two with ⟨rfl, rfl, hlt7, τ7, hs7, ht7⟩ | ⟨r7, τ7, rfl, rfl, hs7, ht7, hd7⟩
        · have HFIN := Lib.hid (RulesC.full (L := L) (HK2.out.trans (HR6.out.kept.trans HR7.out.1)) rfl (by have := HT.out.hl; have := HM.out; omega) hs7 ((HT.out.trans ht7).mono (show sumTo (rcst cd cl) k + 6760 ≤ sumTo (rcst cd cl) L.length by have := HM.out; omega) (show sumTo (rcst cd cl) k + 6760 ≤ sumTo (rcst cd cl) L.length by have := HM.out; omega)))
          clear hlt7 hs7 ht7
          go_wp2
          go_ret2
          exact HFIN.out
        · have HS7 := Lib.hid (HR6.out.space HR7.out.1 hs7)
          have HT7 := Lib.hid (HT.out.trans ht7)
          have HD7 := Lib.hid hd7
          have HL7 := Lib.hid (HD.out.to ht7 HR6.out.sp.ok hs7.ok)
          have HDS7 : Hid (∀ i m, ns[i]? = some m → Den τ7 m (decF L i)) := Lib.hid fun i m hi => (HDS.out i m hi).to ht7 HR6.out.sp.ok hs7.ok
          have HLK7 : Hid (∀ i, i ≤ k → ∃ g, Den τ7 g (leftF L i)) := Lib.hid fun i hi => by obtain ⟨g, hg⟩ := HLK.out i hi; exact ⟨g, hg.to ht7 HR6.out.sp.ok hs7.ok⟩
          have hnl := HT7.out.nl
          have hm := HM.out
          have hde : decF L k = fun s => leftF L k s && ruleF r s := decF_eq HRR.out
          have hwd := HOK.out.2.1
          rw [hde] at hwd
          have HAN := Lib.hid (show Calls Tryz.prog 14 #[.pointer (some ⟨S, 0, none⟩), .int .i64 n, .int .i64 r7] w7 (SpRes w7 B S km A Mo τ7 (fun s => leftF L k s && ruleF r s) (cd k) (cd k)) from relAnd_yes hs7 HL7.out hd7 (leftF_set L k) (ruleK_set r _) (a := cd k) (b := cd k) (hwd.grow HT7.out HS2.out.ok hs7.ok) (by omega))
          have HDE := Lib.hid hde
          clear hs7 ht7 hd7 HR7 HRU hnl hm hde hwd
          go_upto_region 21 with ((with_reducible refine HAN.out.mono ?_); rintro e w8 hr8; obtain ⟨q8, c8, he8⟩ := hr8.form; have HR8 := Lib.hid hr8; subst he8; clear hr8)
          rcases HR8.out.two with ⟨rfl, rfl, hlt8, τ8, hs8, ht8⟩ | ⟨r8, τ8, rfl, rfl, hs8, ht8, hd8⟩
          · have HFIN := Lib.hid (RulesC.full (L := L) (HK2.out.trans (HS7.out.kept.trans HR8.out.1)) rfl (by have := HT7.out.hl; have := HM.out; omega) hs8 ((HT7.out.trans ht8).mono (show sumTo (rcst cd cl) k + 6760 + cd k ≤ sumTo (rcst cd cl) L.length by have := HM.out; omega) (show sumTo (rcst cd cl) k + 6760 + cd k ≤ sumTo (rcst cd cl) L.length by have := HM.out; omega)))
            clear hlt8 hs8 ht8
            go_wp2
            go_ret2
            exact HFIN.out
          · have HS8 := Lib.hid (HS7.out.space HR8.out.1 hs8)
            have HT8 := Lib.hid (HT7.out.trans ht8)
            have HD8 : Hid (Den τ8 r8 (decF L k)) := Lib.hid (by rw [HDE.out]; exact hd8)
            have HX8 := Lib.hid (HD7.out.to ht8 HS7.out.sp.ok hs8.ok)
            have HL8 := Lib.hid (HL7.out.to ht8 HS7.out.sp.ok hs8.ok)
            have HDS8 : Hid (∀ i m, ns[i]? = some m → Den τ8 m (decF L i)) := Lib.hid fun i m hi => (HDS7.out i m hi).to ht8 HS7.out.sp.ok hs8.ok
            have HLK8 : Hid (∀ i, i ≤ k → ∃ g, Den τ8 g (leftF L i)) := Lib.hid fun i hi => by obtain ⟨g, hg⟩ := HLK7.out i hi; exact ⟨g, hg.to ht8 HS7.out.sp.ok hs8.ok⟩
            have hnl := HT8.out.nl
            have hm := HM.out
            have hde : leftF L (k + 1) = fun s => leftF L k s && !ruleF r s := leftF_succ HRR.out
            have hwd := HOK.out.2.2
            rw [hde] at hwd
            have HLE := Lib.hid (show Calls Tryz.prog 32 #[.pointer (some ⟨S, 0, none⟩), .int .i64 n, .int .i64 r7] w8 (SpRes w8 B S km A Mo τ8 (fun s => leftF L k s && !ruleF r s) (cl k) (cl k)) from relLess_yes hs8 HL8.out HX8.out (leftF_set L k) (ruleK_set r _) (a := cl k) (b := cl k) (hwd.grow HT8.out HS2.out.ok hs8.ok) (by omega))
            have HDE2 := Lib.hid hde
            clear hs8 ht8 hd8 HR8 HAN hnl hm hde hwd HDS7 HL7 HD7 HS7 HT7 HDE
            go_upto_region 24 with ((with_reducible refine HLE.out.mono ?_); rintro e w9 hr9; obtain ⟨q9, c9, he9⟩ := hr9.form; have HR9 := Lib.hid hr9; subst he9; clear hr9)
            rcases HR9.out.two with ⟨rfl, rfl, hlt9, τ9, hs9, ht9⟩ | ⟨r9, τ9, rfl, rfl, hs9, ht9, hd9⟩
            · have HFIN := Lib.hid (RulesC.full (L := L) (HK2.out.trans (HS8.out.kept.trans HR9.out.1)) rfl (by have := HT8.out.hl; have := HM.out; omega) hs9 ((HT8.out.trans ht9).mono (show sumTo (rcst cd cl) k + 6760 + cd k + cl k ≤ sumTo (rcst cd cl) L.length by have := HM.out; omega) (show sumTo (rcst cd cl) k + 6760 + cd k + cl k ≤ sumTo (rcst cd cl) L.length by have := HM.out; omega)))
              clear hlt9 hs9 ht9
              go_wp2
              go_ret2
              exact HFIN.out
            · have HS9 := Lib.hid (HS8.out.space HR9.out.1 hs9)
              have HT9 := Lib.hid ((HT8.out.trans ht9).mono (show sumTo (rcst cd cl) k + 6760 + cd k + cl k ≤ sumTo (rcst cd cl) (k + 1) by have := HM.out; omega) (show sumTo (rcst cd cl) k + 6760 + cd k + cl k ≤ sumTo (rcst cd cl) (k + 1) by have := HM.out; omega))
              have HD9 : Hid (Den τ9 r9 (leftF L (k + 1))) := Lib.hid (by rw [HDE2.out]; exact hd9)
              have HX9 := Lib.hid (HD8.out.to ht9 HS8.out.sp.ok hs9.ok)
              have HDS9 : Hid (∀ i m, ns[i]? = some m → Den τ9 m (decF L i)) := Lib.hid fun i m hi => (HDS8.out i m hi).to ht9 HS8.out.sp.ok hs9.ok
              have HLK9 : Hid (∀ i, i ≤ k → ∃ g, Den τ9 g (leftF L i)) := Lib.hid fun i hi => by obtain ⟨g, hg⟩ := HLK8.out i hi; exact ⟨g, hg.to ht9 HS8.out.sp.ok hs9.ok⟩
              have hbs := HS9.out.kept.size
              clear hs9 ht9 hd9 HR9 HLE HS8 HT8 HD8 HX8 HL8 HDS8 HDE2
              go_wp2_with (at_builtin; refine wpList_push2 (v := .slice Ao ns.length co) rfl _ _ 33 rfl 3 i0 _ 1 8 Tryz.underlying33 hif hz0 hz1 hz2 rfl (by decide) (by decide) [.int .i64 r8] rfl rfl rfl HS9.out.out rfl (one_i64 _) hml hbs ?_; intro v10 w10 ho10 hg10 hm10; have HR10 := Lib.hid (HS9.out.pushOut (n := r8) ho10 hg10 hm10); obtain ⟨A10, c10, hv10, _⟩ := owns_form ho10; subst hv10; clear ho10 hg10 hm10)
              exact ⟨⟨k + 1, by go_num, by omega, r9, τ9, ns ++ [r8], D ++ [anyR r], rfl, HR10, Lib.hid (by simp [HNS.out]), HT9, HD9, Lib.hid (den_snoc HDS9.out HNS.out HX9.out), Lib.hid ⟨by have := HDD.out.1; simp; omega, fun d hd => by
                rcases List.mem_append.1 hd with hd | hd
                · obtain ⟨j, x, h1, h2, h3⟩ := HDD.out.2 d hd
                  exact ⟨j, x, by omega, h2, h3⟩
                · obtain rfl := List.mem_singleton.1 hd
                  exact ⟨k, r, by omega, HRR.out, ruleF_any r⟩⟩, Lib.hid fun i hi => by
                rcases Nat.lt_or_ge k i with h1 | h1
                · obtain rfl : i = k + 1 := by omega
                  exact ⟨r9, HD9.out⟩
                · exact HLK9.out i h1⟩, by simp only [intOf]; omega⟩
    · obtain rfl : k = L.length := by omega
      have hI : ¬ (L.length : Int) < (L.length : Int) := by omega
      have HFIN : Hid (RulesC w B S km A Mo σ L (sumTo (rcst cd cl) L.length) (.returned (.tuple #[.slice Ao ns.length co, .int .i64 0])) wr) := Lib.hid ⟨HK2.out.trans HR.out.kept, .inr ⟨_, ns, τ, rfl, HR.out.sp, HT.out, HNS.out, HDS.out, HLK.out, owns_base HR.out.out HSZ.out, HR.out.outf⟩⟩
      go_wp2
      go_ret2
      exact HFIN.out
end
end Go.Proofs.YtbahehmfhjkgeaaGreat

/-
  What a filter permits, with costs by function (written by wip/gen/genfc.py).
-/
namespace Go.Proofs.YtbahehmfhjkgeaaGreat
open Go Go.RowKit Go.ChangeMaps Go.MapKept Go.Maps Go.Lib Go.Sort

/-- What Set comes to: the node of what is permitted, and all on the way has nodes; or no room. -/
def SetC (w : World) (B S km : Nat) (A : Blks) (Mo : Nat) (σ : Sg) (L : List RuleV) (m : Nat) (e : Ending) (w' : World) : Prop :=
  KeptS A km w w' ∧ ((e = .returned (.tuple #[.int .i64 0, .int .i64 3]) ∧ Mo < σ.H.length + m ∧ ∃ τ, SpOk w' B S km A Mo τ ∧ To m m σ τ) ∨
    ∃ (r : Nat) (τ : Sg), e = .returned (.tuple #[.int .i64 r, .int .i64 0]) ∧ SpOk w' B S km A Mo τ ∧ To m m σ τ ∧ Den τ r (setF L L.length) ∧ (∀ i, i < L.length → ∃ g, Den τ g (decF L i)) ∧ (∀ i, i ≤ L.length → ∃ g, Den τ g (leftF L i)) ∧ ∀ i, i ≤ L.length → ∃ g, Den τ g (setF L i))
theorem SetC.full {w w' : World} {B S km : Nat} {A : Blks} {Mo : Nat} {σ τ : Sg} {L : List RuleV} {m : Nat} {e : Ending} (hk : KeptS A km w w') (h1 : e = .returned (.tuple #[.int .i64 0, .int .i64 3])) (h2 : Mo < σ.H.length + m) (h3 : SpOk w' B S km A Mo τ) (h4 : To m m σ τ) : SetC w B S km A Mo σ L m e w' := ⟨hk, .inl ⟨h1, h2, τ, h3, h4⟩⟩
theorem SetC.room {w w' : World} {B S km : Nat} {A : Blks} {Mo : Nat} {σ : Sg} {L : List RuleV} {m : Nat} {e : Ending} (h : SetC w B S km A Mo σ L m e w') (hm : σ.H.length + m ≤ Mo) : ∃ (r : Nat) (τ : Sg), e = .returned (.tuple #[.int .i64 r, .int .i64 0]) ∧ SpOk w' B S km A Mo τ ∧ To m m σ τ ∧ Den τ r (setF L L.length) ∧ (∀ i, i < L.length → ∃ g, Den τ g (decF L i)) ∧ (∀ i, i ≤ L.length → ∃ g, Den τ g (leftF L i)) ∧ ∀ i, i ≤ L.length → ∃ g, Den τ g (setF L i) := by
  rcases h.2 with ⟨_, h1, _⟩ | h
  · omega
  · exact h
section
variable {w : World} {B S km : Nat} {A : Blks} {Mo : Nat} {σ : Sg}
set_option maxRecDepth 100000
set_option maxHeartbeats 8000000
theorem set_c (h : SpOk w B S km A Mo σ) (nm : ByteArray) (L : List RuleV) (vL : Value) (hL : RdF A km w 10 vL L.length (rcells L)) (he : filtE L = 0) (cd cl cs : Nat → Nat) (hK : ∀ (k : Nat) (r : RuleV), L[k]? = some r → Fits σ (decF L k) (cd k) ∧ Fits σ (leftF L (k + 1)) (cl k)) (hKs : ∀ k, k < L.length → Fits σ (setF L (k + 1)) (cs k)) (hl : σ.N.length + (sumTo (rcst cd cl) L.length + sumTo cs L.length) ≤ 2147483647) :
    Calls Tryz.prog 10 #[.pointer (some ⟨S, 0, none⟩), .agg #[.string nm, vL]] w (SetC w B S km A Mo σ L (sumTo (rcst cd cl) L.length + sumTo cs L.length)) := by
  obtain ⟨hlen, _⟩ := rule_may he
  obtain ⟨PL, cL, rfl, _⟩ := hL.rd.form
  have hbw := below1 w (.cells #[.string nm, .slice PL L.length cL] 24)
  have hbk := blk1 w (.cells #[.string nm, .slice PL L.length cL] 24)
  have hmul : sumTo (rcst cd cl) L.length + sumTo cs L.length = sumTo (rcst cd cl) L.length + sumTo cs L.length := rfl
  have HL := Lib.hid (hL.kept (h.kept hbw))
  have HS := Lib.hid (h.below hbw)
  have HK0 := Lib.hid (h.kept hbw)
  have HFO := Lib.hid (h.sp.ar.foreign_new hbw (Nat.le_refl _) (lt_of_block hbk))
  have HNE : Hid (w.heap.size ≠ km) := Lib.hid (by have := h.sp.fk.1; omega)
  have HBK := Lib.hid hbk
  have b0 : (w.alloc (.cells #[.string nm, .slice PL L.length cL] 24)).cell? ⟨w.heap.size, 0, none⟩ = some (.string nm) := cell_of_row _ _ 0 _ _ (0, 0) hbk
  have b1 : (w.alloc (.cells #[.string nm, .slice PL L.length cL] 24)).cell? ⟨w.heap.size, 1, none⟩ = some (.slice PL L.length cL) := cell_of_row _ _ 1 _ _ (0, 0) hbk
  have HRU := Lib.hid (rules_c HS.out nm L _ HL.out he cd cl hK (by omega))
  have HWS := Lib.hid hKs
  have HMUL := Lib.hid (And.intro hmul hl)
  clear h hL he hbw hbk hK hKs hmul hl
  go_enter Tryz.func10, Tryz.ntmps10
  go_upto_region 1 with fail
  generalize w.alloc (.cells #[.string nm, .slice PL L.length cL] 24) = w0 at *
  go_wp2_with fail
  refine HRU.out.mono ?_
  rintro e w2 ⟨hk2, hres⟩
  have HK2 := Lib.hid hk2
  rcases hres with ⟨rfl, hlt2, τ2, hs2, ht2⟩ | ⟨v, ns, τ2, rfl, hs2, ht2, hns, hds, hlk, hown, hof⟩
  · have HFIN := Lib.hid (SetC.full (L := L) (HK0.out.trans hk2) rfl (by have := HMUL.out.1; omega) hs2 (ht2.mono (show sumTo (rcst cd cl) L.length ≤ (sumTo (rcst cd cl) L.length + sumTo cs L.length) by have := HMUL.out.1; omega) (show sumTo (rcst cd cl) L.length ≤ (sumTo (rcst cd cl) L.length + sumTo cs L.length) by have := HMUL.out.1; omega)))
    clear hlt2 hs2 ht2 hk2
    go_wp2
    go_ret2
    exact HFIN.out
  · obtain ⟨Av, cv, hve, hav⟩ := owns_form hown
    subst hve
    have HS2 := Lib.hid hs2
    have HT2 := Lib.hid ht2
    have HD2 := Lib.hid hds
    have HLK2 := Lib.hid hlk
    have HNS := Lib.hid hns
    have HOW := Lib.hid hown
    have HOF := Lib.hid hof
    have HAV := Lib.hid hav
    have HL2 := Lib.hid (HL.out.kept hk2)
    have HBX : Hid (∀ W, KeptS A km w2 W → W.cell? ⟨w.heap.size, 1, none⟩ = some (.slice PL L.length cL)) := Lib.hid fun W hW =>
      cell_of_row W _ 1 _ _ (0, 0) (((hk2.trans hW).same _ HFO.out HNE.out).1.trans HBK.out)
    have hnI : (ns.length : Int) = (L.length : Int) := by omega
    rw [hns]
    clear hs2 ht2 hds hlk hown hof hav hk2 b0 b1 HRU HFO HNE HBK HL hnI
    have hns' := HNS.out
    clear hns
    go_wp2
    go_loopw [8, 22] (fun f i wr => ∃ k : Nat, i = .int .i64 k ∧ k ≤ L.length ∧ ∃ (q : Nat) (τ : Sg), f = .int .i64 q ∧ Hid (SpOk wr B S km A Mo τ) ∧ Hid (To (sumTo (rcst cd cl) L.length + sumTo cs k) (sumTo (rcst cd cl) L.length + sumTo cs k) σ τ) ∧ Hid (To (sumTo cs k) (sumTo cs k) τ2 τ) ∧ Hid (Den τ q (setF L k)) ∧ Hid (KeptS A km w2 wr) ∧ Hid (∀ i, i ≤ k → ∃ g, Den τ g (setF L i))) (fun _ i _ => L.length - (intOf i).toNat)
    case atStart => exact ⟨0, rfl, by omega, 0, τ2, rfl, HS2, Lib.hid HT2.out, Lib.hid (To.refl τ2), Lib.hid (Den.zero HS2.out.ok), Lib.hid (KeptS.refl _ _ _), Lib.hid fun i hi => ⟨0, by obtain rfl : i = 0 := Nat.le_zero.1 hi; exact Den.zero HS2.out.ok⟩⟩
    case round =>
      obtain ⟨k, rfl, hk, q, τ, rfl, HSR, HTR, HTT, HDR, HKR, HSK⟩ := hrel
      have b1 := HBX.out wr HKR.out
      by_cases hlt : k < L.length
      · have hI : (k : Int) < (L.length : Int) := by omega
        obtain ⟨r, hr⟩ : ∃ r, L[k]? = some r := ⟨_, List.getElem?_eq_getElem hlt⟩
        obtain ⟨P', c', hv', _, _, hcell⟩ := HL2.out.kept HKR.out
        injection hv' with hP hlq hcq
        subst hP hcq
        clear hlq
        obtain ⟨bL, off, rfl, _, _, hcell⟩ := hcell (by omega)
        have r0 : wr.cell? ⟨bL, off + k * 10, none⟩ = some (.bool r.permit) := hcell (k * 10) _ (rcell (i := 0) hr rfl)
        obtain ⟨x, hx⟩ : ∃ x, ns[k]? = some x := ⟨_, List.getElem?_eq_getElem (by have := HNS.out; omega)⟩
        obtain ⟨g, hg⟩ := HAV.out (by have := HNS.out; omega)
        subst hg
        have hfo := HOF.out g rfl
        have hxc : wr.cell? ⟨g, k, none⟩ = some (.int .i64 x) := (World.cell?_of_block (HKR.out.same g hfo.1 hfo.2.1).1).trans ((HOW.out.cellAt k (by have := HNS.out; omega)).trans (by simp [ncl, hx]))
        have HDX := Lib.hid ((HD2.out k x hx).to HTT.out HS2.out.ok HSR.out.ok)
        have hpa : permitAt L k = r.permit := by unfold permitAt; rw [hr]; rfl
        have hm1 : sumTo cs (k + 1) ≤ sumTo cs L.length := sumTo_up _ hlt
        have hm2 : sumTo cs (k + 1) = sumTo cs k + cs k := rfl
        have HM := Lib.hid (And.intro hm1 hm2)
        have hwk := HWS.out k (by omega)
        have HSF : Hid (setF L (k + 1) = if r.permit then fun s => setF L k s || decF L k s else setF L k) := Lib.hid (by rw [← hpa]; rfl)
        clear hcell hr hx hfo hm1 hm2 hpa
        cases hp : r.permit with
        | false =>
          rw [hp] at r0 HSF
          have HD8 : Hid (Den τ q (setF L (k + 1))) := Lib.hid (by rw [HSF.out]; exact HDR.out)
          have HT8 := Lib.hid (HTR.out.mono (show sumTo (rcst cd cl) L.length + sumTo cs k ≤ sumTo (rcst cd cl) L.length + sumTo cs (k + 1) by have := HM.out; omega) (show sumTo (rcst cd cl) L.length + sumTo cs k ≤ sumTo (rcst cd cl) L.length + sumTo cs (k + 1) by have := HM.out; omega))
          have HTT8 := Lib.hid (HTT.out.mono (show sumTo cs k ≤ sumTo cs (k + 1) by have := HM.out; omega) (show sumTo cs k ≤ sumTo cs (k + 1) by have := HM.out; omega))
          clear hp hwk
          go_wp2
          exact ⟨⟨k + 1, by go_num, by omega, q, τ, rfl, HSR, HT8, HTT8, HD8, HKR, Lib.hid fun i hi => by
            rcases Nat.lt_or_ge k i with h1 | h1
            · obtain rfl : i = k + 1 := by omega
              exact ⟨q, HD8.out⟩
            · exact HSK.out i h1⟩, by simp only [intOf]; omega⟩
        | true =>
          rw [hp] at r0 HSF
          have hnl := HTR.out.nl
          have hmm := HMUL.out
          have hm := HM.out
          have hsf : setF L (k + 1) = fun s => setF L k s || decF L k s := by rw [HSF.out]; rfl
          rw [hsf] at hwk
          have HOR := Lib.hid (show Calls Tryz.prog 31 #[.pointer (some ⟨S, 0, none⟩), .int .i64 q, .int .i64 x] wr (SpRes wr B S km A Mo τ (fun s => setF L k s || decF L k s) (cs k) (cs k)) from relOr_yes HSR.out HDR.out HDX.out (setF_set L k) (decF_set' L k) (a := cs k) (b := cs k) (hwk.grow HTR.out HS.out.ok HSR.out.ok) (by omega))
          have HSF2 := Lib.hid hsf
          clear hnl hmm hm hwk hsf hp
          go_upto_region 10 with ((with_reducible refine HOR.out.mono ?_); rintro e w8 hr8; obtain ⟨q8, c8, he8⟩ := hr8.form; have HR8 := Lib.hid hr8; subst he8; clear hr8)
          rcases HR8.out.two with ⟨rfl, rfl, hlt8, τ8, hs8, ht8⟩ | ⟨r8, τ8, rfl, rfl, hs8, ht8, hd8⟩
          · have HFIN := Lib.hid (SetC.full (L := L) (HK0.out.trans (HK2.out.trans (HKR.out.trans HR8.out.1))) rfl (by have := HTR.out.hl; have := HM.out; have := HMUL.out.1; omega) hs8 ((HTR.out.trans ht8).mono (show sumTo (rcst cd cl) L.length + sumTo cs k + cs k ≤ (sumTo (rcst cd cl) L.length + sumTo cs L.length) by have := HM.out; have := HMUL.out.1; omega) (show sumTo (rcst cd cl) L.length + sumTo cs k + cs k ≤ (sumTo (rcst cd cl) L.length + sumTo cs L.length) by have := HM.out; have := HMUL.out.1; omega)))
            clear hlt8 hs8 ht8
            go_wp2
            go_ret2
            exact HFIN.out
          · have HS8 := Lib.hid hs8
            have HT8 := Lib.hid ((HTR.out.trans ht8).mono (show sumTo (rcst cd cl) L.length + sumTo cs k + cs k ≤ sumTo (rcst cd cl) L.length + sumTo cs (k + 1) by have := HM.out; omega) (show sumTo (rcst cd cl) L.length + sumTo cs k + cs k ≤ sumTo (rcst cd cl) L.length + sumTo cs (k + 1) by have := HM.out; omega))
            have HTT8 := Lib.hid ((HTT.out.trans ht8).mono (show sumTo cs k + cs k ≤ sumTo cs (k + 1) by have := HM.out; omega) (show sumTo cs k + cs k ≤ sumTo cs (k + 1) by have := HM.out; omega))
            have HD8 : Hid (Den τ8 r8 (setF L (k + 1))) := Lib.hid (by rw [HSF2.out]; exact hd8)
            have HK8 := Lib.hid (HKR.out.trans HR8.out.1)
            have HSK8 : Hid (∀ i, i ≤ k → ∃ g, Den τ8 g (setF L i)) := Lib.hid fun i hi => by obtain ⟨g, hg⟩ := HSK.out i hi; exact ⟨g, hg.to ht8 HSR.out.ok hs8.ok⟩
            clear hs8 ht8 hd8 HR8 HOR
            go_wp2
            exact ⟨⟨k + 1, by go_num, by omega, r8, τ8, rfl, HS8, HT8, HTT8, HD8, HK8, Lib.hid fun i hi => by
              rcases Nat.lt_or_ge k i with h1 | h1
              · obtain rfl : i = k + 1 := by omega
                exact ⟨r8, HD8.out⟩
              · exact HSK8.out i h1⟩, by simp only [intOf]; omega⟩
      · obtain rfl : k = L.length := by omega
        have hI : ¬ (L.length : Int) < (L.length : Int) := by omega
        have HFIN : Hid (SetC w B S km A Mo σ L (sumTo (rcst cd cl) L.length + sumTo cs L.length) (.returned (.tuple #[.int .i64 q, .int .i64 0])) wr) := Lib.hid ⟨HK0.out.trans (HK2.out.trans HKR.out), .inr ⟨q, τ, rfl, HSR.out, HTR.out, HDR.out, fun i hi => by
          obtain ⟨n, hn⟩ : ∃ n, ns[i]? = some n := ⟨_, List.getElem?_eq_getElem (by have := HNS.out; omega)⟩
          exact ⟨n, (HD2.out i n hn).to HTT.out HS2.out.ok HSR.out.ok⟩, fun i hi => by
          obtain ⟨g, hg⟩ := HLK2.out i hi
          exact ⟨g, hg.to HTT.out HS2.out.ok HSR.out.ok⟩, HSK.out⟩⟩
        go_wp2
        go_ret2
        exact HFIN.out
end
end Go.Proofs.YtbahehmfhjkgeaaGreat

/-
  What may be left out of a filter, turned about, denied for permitted: the functions (plain).
-/
namespace Go.Proofs.YtbahehmfhjkgeaaGreat
open Go Go.RowKit Go.ChangeMaps Go.MapKept Go.Maps Go.Lib Go.Sort

/-! How many nodes. -/
theorem hits_succ (L : List RuleV) (k : Nat) (s : Nat → Bool) : hits L (List.range (k + 1)) s = hits L (List.range k) s ++ if ruleAt L k s then [k] else [] := by
  unfold hits
  rw [List.range_succ, List.filter_append]
  congr 1
  cases h : ruleAt L k s <;> simp [h]
theorem left_w {L : List RuleV} (ok : ∀ (k : Nat) (r : RuleV), L[k]? = some r → RuleOk r) {k : Nat} (hk : k ≤ L.length) : WidB (leftF L k) (bW k) := by
  have h := hits_widB ok (List.range k) (fun i hi => by have := List.mem_range.1 hi; omega) fun l => l.isEmpty
  rw [List.length_range] at h
  rw [show leftF L k = fun s => (hits L (List.range k) s).isEmpty from funext fun s => hits_range L k s]
  exact h
theorem dec_w {L : List RuleV} (ok : ∀ (k : Nat) (r : RuleV), L[k]? = some r → RuleOk r) {k : Nat} (hk : k < L.length) : WidB (decF L k) (bW (k + 1)) := by
  have h := hits_widB ok (List.range (k + 1)) (fun i hi => by have := List.mem_range.1 hi; omega) fun l => l == [k]
  rw [List.length_range] at h
  rw [show decF L k = fun s => hits L (List.range (k + 1)) s == [k] from funext fun s => by
    unfold decF
    rw [hits_range, hits_succ]
    cases hh : hits L (List.range k) s with
    | nil => cases ruleAt L k s <;> simp
    | cons a r =>
      have ha : a < k := by
        have : a ∈ hits L (List.range k) s := by rw [hh]; exact List.mem_cons_self ..
        exact List.mem_range.1 (List.mem_filter.1 this).1
      have : ¬ a = k := by omega
      simp [this]]
  exact h
def headP (L : List RuleV) (l : List Nat) : Bool := match l with
  | i :: _ => permitAt L i
  | [] => false
theorem set_hits (L : List RuleV) (s : Nat → Bool) : ∀ k, setF L k s = headP L (hits L (List.range k) s)
  | 0 => rfl
  | k + 1 => by
    have ih := set_hits L s k
    rw [hits_succ]
    unfold setF
    cases hp : permitAt L k with
    | false =>
      rw [if_neg (by simp), ih]
      cases hh : hits L (List.range k) s with
      | nil => cases ruleAt L k s <;> simp [headP, hp]
      | cons a r => rfl
    | true =>
      rw [if_pos rfl]
      show (setF L k s || decF L k s) = _
      unfold decF
      rw [ih, hits_range]
      cases hh : hits L (List.range k) s with
      | nil => cases ruleAt L k s <;> simp [headP, hp]
      | cons a r => simp [headP]
theorem set_w {L : List RuleV} (ok : ∀ (k : Nat) (r : RuleV), L[k]? = some r → RuleOk r) {k : Nat} (hk : k ≤ L.length) : WidB (setF L k) (bW k) := by
  have h := hits_widB ok (List.range k) (fun i hi => by have := List.mem_range.1 hi; omega) (headP L)
  rw [List.length_range] at h
  rw [show setF L k = fun s => headP L (hits L (List.range k) s) from funext fun s => set_hits L s k]
  exact h
theorem two_w {L : List RuleV} (ok : ∀ (k : Nat) (r : RuleV), L[k]? = some r → RuleOk r) {i j : Nat} {x y : RuleV} (hx : L[i]? = some x) (hy : L[j]? = some y) : WidB (fun s => ruleF x s && ruleF y s) (bW 2) := by
  have h := hits_widB ok [i, j] (fun k hk => by
    simp only [List.mem_cons, List.not_mem_nil, or_false] at hk
    rcases hk with rfl | rfl
    · exact (List.getElem?_eq_some_iff.1 hx).1
    · exact (List.getElem?_eq_some_iff.1 hy).1) fun l => l.length == 2
  rw [show (fun s => ruleF x s && ruleF y s) = fun s => (hits L [i, j] s).length == 2 from funext fun s => by
    unfold hits
    have e1 := congrFun (ruleAt_eq hx) s
    have e2 := congrFun (ruleAt_eq hy) s
    cases h1 : ruleF x s <;> cases h2 : ruleF y s <;> rw [h1] at e1 <;> rw [h2] at e2 <;> simp [e1, e2]]
  exact h
/-! Lists that go on. -/
theorem left_app {A B : List RuleV} {j : Nat} (h : j ≤ A.length) : leftF (A ++ B) j = leftF A j := by
  unfold leftF
  rw [List.take_append_of_le_length h]
theorem dec_app {A B : List RuleV} {j : Nat} (h : j < A.length) : decF (A ++ B) j = decF A j := by
  unfold decF
  rw [left_app (by omega)]
  unfold ruleAt
  rw [List.getElem?_append_left h]
theorem set_app {A B : List RuleV} : ∀ {j : Nat}, j ≤ A.length → setF (A ++ B) j = setF A j
  | 0, _ => rfl
  | j + 1, h => by
    unfold setF
    rw [set_app (by omega), dec_app (by omega)]
    unfold permitAt
    rw [List.getElem?_append_left (by omega)]
theorem last_at (A : List RuleV) (r : RuleV) : (A ++ [r])[A.length]? = some r := by simp
theorem dec_last (A : List RuleV) (r : RuleV) : decF (A ++ [r]) A.length = fun s => leftF A A.length s && ruleF r s := by
  rw [decF_eq (last_at A r), left_app (Nat.le_refl _)]
theorem left_last (A : List RuleV) (r : RuleV) : leftF (A ++ [r]) (A.length + 1) = fun s => leftF A A.length s && !ruleF r s := by
  rw [leftF_succ (last_at A r), left_app (Nat.le_refl _)]
theorem set_last (A : List RuleV) (r : RuleV) : setF (A ++ [r]) (A.length + 1) = if r.permit then fun s => setF A A.length s || (leftF A A.length s && ruleF r s) else setF A A.length := by
  show (if permitAt (A ++ [r]) A.length then fun s => setF (A ++ [r]) A.length s || decF (A ++ [r]) A.length s else setF (A ++ [r]) A.length) = _
  rw [set_app (Nat.le_refl _), dec_last]
  unfold permitAt
  rw [last_at]
  rfl
theorem take_snocR {L : List RuleV} {k : Nat} {r : RuleV} (h : L[k]? = some r) : L.take (k + 1) = L.take k ++ [r] := by rw [List.take_add_one, h]; rfl
/-! What decides nothing may be left out. -/
/-- The rules of those places. -/
def keepR (D : Nat → Bool) (L : List RuleV) : Nat → List RuleV
  | 0 => []
  | k + 1 => keepR D L k ++ (if D k then (L[k]?).toList else [])
theorem keepR_yes {D : Nat → Bool} {L : List RuleV} {k : Nat} {x : RuleV} (h : L[k]? = some x) (hd : D k = true) : keepR D L (k + 1) = keepR D L k ++ [x] := by
  show keepR D L k ++ (if D k then _ else _) = _
  rw [hd, h]; rfl
theorem keepR_no {D : Nat → Bool} {L : List RuleV} {k : Nat} (hd : D k = false) : keepR D L (k + 1) = keepR D L k := by
  show keepR D L k ++ (if D k then _ else _) = _
  rw [hd]; simp
theorem keepR_len (D : Nat → Bool) (L : List RuleV) : ∀ k, (keepR D L k).length ≤ k
  | 0 => Nat.le_refl _
  | k + 1 => by
    have ih := keepR_len D L k
    show (keepR D L k ++ _).length ≤ _
    rw [List.length_append]
    have : (if D k then (L[k]?).toList else []).length ≤ 1 := by
      split
      · cases L[k]? <;> simp
      · simp
    omega
theorem keepR_mem {D : Nat → Bool} {L : List RuleV} {x : RuleV} : ∀ {k : Nat}, x ∈ keepR D L k → x ∈ L
  | 0, h => by simp [keepR] at h
  | k + 1, h => by
    rcases List.mem_append.1 (show x ∈ keepR D L k ++ (if D k then (L[k]?).toList else []) from h) with h | h
    · exact keepR_mem h
    · split at h
      · cases hk : L[k]? with
        | none => rw [hk] at h; simp at h
        | some y =>
          rw [hk] at h
          simp at h
          exact h ▸ List.mem_of_getElem? hk
      · simp at h
theorem dec_none {L : List RuleV} {k : Nat} {r : RuleV} (hr : L[k]? = some r) (h : decF L k = fun _ => false) : leftF L (k + 1) = leftF L k ∧ setF L (k + 1) = setF L k := by
  rw [decF_eq hr] at h
  refine ⟨?_, ?_⟩
  · rw [leftF_succ hr]
    funext s
    have := congrFun h s
    cases hl : leftF L k s <;> cases hf : ruleF r s <;> simp_all
  · show (if permitAt L k then fun s => setF L k s || decF L k s else setF L k) = setF L k
    rw [decF_eq hr, h]
    split
    · funext s; simp
    · rfl
/-- What is left out changes nothing; all that the others come to has been. -/
theorem keepR_ok {D : Nat → Bool} {L : List RuleV} (hD : ∀ k, k < L.length → D k = false → decF L k = fun _ => false) : ∀ k, k ≤ L.length →
    leftF (keepR D L k) (keepR D L k).length = leftF L k ∧ setF (keepR D L k) (keepR D L k).length = setF L k ∧
    ∀ j, j < (keepR D L k).length → ∃ i, i < k ∧ D i = true ∧ decF (keepR D L k) j = decF L i ∧ leftF (keepR D L k) (j + 1) = leftF L (i + 1) ∧ setF (keepR D L k) (j + 1) = setF L (i + 1)
  | 0, _ => ⟨rfl, rfl, fun j hj => by simp [keepR] at hj⟩
  | k + 1, hk => by
    obtain ⟨h1, h2, h3⟩ := keepR_ok hD k (by omega)
    obtain ⟨r, hr⟩ : ∃ r, L[k]? = some r := ⟨_, List.getElem?_eq_getElem hk⟩
    cases hd : D k with
    | false =>
      obtain ⟨e1, e2⟩ := dec_none hr (hD k hk hd)
      rw [keepR_no hd, e1, e2]
      exact ⟨h1, h2, fun j hj => by
        obtain ⟨i, a, b⟩ := h3 j hj
        exact ⟨i, by omega, b⟩⟩
    | true =>
      rw [keepR_yes hr hd]
      have hlen : (keepR D L k ++ [r]).length = (keepR D L k).length + 1 := by simp
      have e1 : leftF (keepR D L k ++ [r]) ((keepR D L k).length + 1) = leftF L (k + 1) := by rw [left_last, h1, leftF_succ hr]
      have e2 : setF (keepR D L k ++ [r]) ((keepR D L k).length + 1) = setF L (k + 1) := by
        rw [set_last, h1, h2]
        show _ = if permitAt L k then fun s => setF L k s || decF L k s else setF L k
        rw [decF_eq hr]
        unfold permitAt
        rw [hr]
        rfl
      have e3 : decF (keepR D L k ++ [r]) (keepR D L k).length = decF L k := by rw [dec_last, h1, decF_eq hr]
      rw [hlen]
      refine ⟨e1, e2, fun j hj => ?_⟩
      rcases Nat.lt_or_ge j (keepR D L k).length with h | h
      · obtain ⟨i, a, b, c1, c2, c3⟩ := h3 j h
        exact ⟨i, by omega, b, by rw [dec_app h, c1], by rw [left_app (by omega), c2], by rw [set_app (by omega), c3]⟩
      · obtain rfl : j = (keepR D L k).length := by omega
        exact ⟨k, Nat.lt_succ_self _, hd, e3, e1, e2⟩
/-! Denied for permitted. -/
def flipR (r : RuleV) : RuleV := ⟨!r.permit, r.proto, r.sa, r.sn, r.da, r.dn, r.sl, r.sh, r.dl, r.dh, r.hpr, r.hsa, r.hda, r.hsl, r.hsh, r.hdl, r.hdh⟩
def permR (r : RuleV) : RuleV := ⟨true, r.proto, r.sa, r.sn, r.da, r.dn, r.sl, r.sh, r.dl, r.dh, r.hpr, r.hsa, r.hda, r.hsl, r.hsh, r.hdl, r.hdh⟩
theorem askF_like {r q : RuleV} (h1 : r.proto = q.proto) (h2 : r.sa = q.sa) (h3 : r.sn = q.sn) (h4 : r.da = q.da) (h5 : r.dn = q.dn) (h6 : r.sl = q.sl) (h7 : r.sh = q.sh) (h8 : r.dl = q.dl) (h9 : r.dh = q.dh) : ∀ k, askF r k = askF q k
  | 0 => by
    show bitsF 0 0 r.sn.toNat (r.sa.toNat / 2 ^ (32 - r.sn.toNat)) r.sn.toNat = bitsF 0 0 q.sn.toNat (q.sa.toNat / 2 ^ (32 - q.sn.toNat)) q.sn.toNat
    rw [h2, h3]
  | 1 => by
    show bitsF 32 0 r.dn.toNat (r.da.toNat / 2 ^ (32 - r.dn.toNat)) r.dn.toNat = bitsF 32 0 q.dn.toNat (q.da.toNat / 2 ^ (32 - q.dn.toNat)) q.dn.toNat
    rw [h4, h5]
  | 2 => by
    show spanF 72 16 r.sl.toNat r.sh.toNat = spanF 72 16 q.sl.toNat q.sh.toNat
    rw [h6, h7]
  | 3 => by
    show spanF 88 16 r.dl.toNat r.dh.toNat = spanF 88 16 q.dl.toNat q.dh.toNat
    rw [h8, h9]
  | _ + 4 => by
    show spanF 64 8 r.proto.toNat r.proto.toNat = spanF 64 8 q.proto.toNat q.proto.toNat
    rw [h1]
theorem ruleF_like {r q : RuleV} (h1 : r.proto = q.proto) (h : ∀ k, askF r k = askF q k) : ruleF r = ruleF q := by
  have hk : ∀ k, ruleK r k = ruleK q k := fun k => by
    induction k with
    | zero => rfl
    | succ k ih =>
      show (fun s => ruleK r k s && askF r k s) = fun s => ruleK q k s && askF q k s
      rw [ih, h]
  unfold ruleF asksN
  rw [h1]
  exact hk _
theorem ruleF_flip (r : RuleV) : ruleF (flipR r) = ruleF r := ruleF_like rfl (askF_like rfl rfl rfl rfl rfl rfl rfl rfl rfl)
theorem ruleF_perm (r : RuleV) : ruleF (permR r) = ruleF r := ruleF_like rfl (askF_like rfl rfl rfl rfl rfl rfl rfl rfl rfl)
theorem left_flip (L : List RuleV) (k : Nat) : leftF (L.map flipR) k = leftF L k := funext fun s => by
  unfold leftF
  rw [← List.map_take, List.any_map]
  congr 2
  funext r
  exact congrFun (ruleF_flip r) s
theorem dec_flip (L : List RuleV) (k : Nat) : decF (L.map flipR) k = decF L k := funext fun s => by
  unfold decF ruleAt
  rw [left_flip, List.getElem?_map]
  cases L[k]? with
  | none => rfl
  | some r => exact congrArg (leftF L k s && ·) (congrFun (ruleF_flip r) s)
/-- Left, permitted or denied. -/
theorem set_flip (L : List RuleV) (s : Nat → Bool) : ∀ k, k ≤ L.length → (leftF L k s = true → setF L k s = false ∧ setF (L.map flipR) k s = false) ∧ (leftF L k s = false → setF (L.map flipR) k s = !setF L k s)
  | 0, _ => ⟨fun _ => ⟨rfl, rfl⟩, fun h => by simp [leftF] at h⟩
  | k + 1, hk => by
    obtain ⟨h1, h2⟩ := set_flip L s k (by omega)
    obtain ⟨r, hr⟩ : ∃ r, L[k]? = some r := ⟨_, List.getElem?_eq_getElem hk⟩
    have e0 : leftF L (k + 1) s = (leftF L k s && !ruleF r s) := congrFun (leftF_succ hr) s
    have ed : decF L k s = (leftF L k s && ruleF r s) := congrFun (decF_eq hr) s
    have e1 : setF L (k + 1) s = if r.permit then (setF L k s || decF L k s) else setF L k s := by
      show (if permitAt L k then fun s => setF L k s || decF L k s else setF L k) s = _
      unfold permitAt
      rw [hr]
      show (if r.permit then fun s => setF L k s || decF L k s else setF L k) s = _
      cases r.permit <;> rfl
    have e2 : setF (L.map flipR) (k + 1) s = if r.permit then setF (L.map flipR) k s else (setF (L.map flipR) k s || decF L k s) := by
      show (if permitAt (L.map flipR) k then fun s => setF (L.map flipR) k s || decF (L.map flipR) k s else setF (L.map flipR) k) s = _
      unfold permitAt
      rw [List.getElem?_map, hr, dec_flip]
      show (if !r.permit then fun s => setF (L.map flipR) k s || decF L k s else setF (L.map flipR) k) s = _
      cases r.permit <;> rfl
    rw [e0, e1, e2, ed]
    cases hl : leftF L k s with
    | true =>
      obtain ⟨a, b⟩ := h1 hl
      rw [a, b]
      cases ruleF r s <;> cases r.permit <;> simp
    | false =>
      have := h2 hl
      rw [this]
      cases ruleF r s <;> cases r.permit <;> simp
theorem openR_one {r : RuleV} (h : ruleF r = fun _ => true) (L : List RuleV) (hp : r.permit = true) : setF (L.map flipR ++ [r]) (L.length + 1) = fun s => !setF L L.length s := by
  have hl : (L.map flipR).length = L.length := List.length_map ..
  have e := set_last (L.map flipR) r
  rw [hl, hp, if_pos rfl, h] at e
  rw [e]
  funext s
  obtain ⟨h1, h2⟩ := set_flip L s L.length (Nat.le_refl _)
  rw [left_flip]
  cases hs : leftF L L.length s with
  | true =>
    obtain ⟨a, b⟩ := h1 hs
    rw [a, b]; rfl
  | false =>
    rw [h2 hs]; simp
end Go.Proofs.YtbahehmfhjkgeaaGreat

/-
  Two neighbours turned about that have no header in common; sums of costs (plain).
-/
namespace Go.Proofs.YtbahehmfhjkgeaaGreat
open Go Go.RowKit Go.ChangeMaps Go.MapKept Go.Maps Go.Lib Go.Sort

/-! Sums. -/
theorem sumTo_rz (n : Nat) : sumTo (rcst (fun _ => 0) (fun _ => 0)) n = n * 6760 := sumTo_const 6760 n
def bS (k : Nat) : Nat := bW (k + 1)
theorem cost_set {n : Nat} (h : n ≤ 12) : sumTo (rcst bS bS) n + sumTo bS n ≤ 1822968 := by
  have h1 := sumTo_up (rcst bS bS) h
  have h2 := sumTo_up bS h
  have h3 : sumTo (rcst bS bS) 12 + sumTo bS 12 = 1822968 := by decide +kernel
  omega
theorem cost_turn {n : Nat} (h : n ≤ 13) : sumTo bS n ≤ 848128 := by
  have h1 := sumTo_up bS h
  have h2 : sumTo bS 13 = 848128 := by decide +kernel
  omega
def atC (k c j : Nat) : Nat := if j = k then c else 0
theorem bW_2 : bW 2 = 576 := by decide +kernel
end Go.Proofs.YtbahehmfhjkgeaaGreat

/-
  The rules that decide nothing: lint.Rules at twelve rules or fewer (written by wip/gen/genlnc.py).
-/
namespace Go.Proofs.YtbahehmfhjkgeaaGreat
open Go Go.RowKit Go.ChangeMaps Go.MapKept Go.Maps Go.Lib Go.Sort

section
set_option maxRecDepth 100000
set_option maxHeartbeats 4000000
theorem lintRules_c (w : World) (nm : ByteArray) (L : List RuleV) (vL : Value) (hL : Rd w w.heap.size 10 vL L.length (rcells L)) (he : filtE L = 0) (hr : L.length ≤ 12) :
    Calls Tryz.prog 16 #[.agg #[.string nm, vL]] w fun e w' => ∃ v, e = .returned (.tuple #[v, .int .i64 0]) ∧ w'.ownsRow w.heap.size 3 1 v (zerosP L L.length).length (ncl (zerosP L L.length)) ∧ Below w.heap.size w w' := by
  obtain ⟨i0, hif, hz0, hz1, hz2⟩ := info_parts Tryz.infoInt
  obtain ⟨PL, cL, rfl, _⟩ := hL.form
  have hlen : L.length ≤ 256 := (rule_may he).1
  have hbw := below1 w (.cells #[.string nm, .slice PL L.length cL] 24)
  have hkw := blk1 w (.cells #[.string nm, .slice PL L.length cL] 24)
  have HL := Lib.hid (hL.below hbw)
  have HB0 := Lib.hid hbw
  have HK0 := Lib.hid hkw
  have HE := Lib.hid (And.intro he hr)
  clear hL hbw hkw he hr
  go_enter Tryz.func16, Tryz.ntmps16
  go_upto_region 1 with fail
  generalize w.alloc (.cells #[.string nm, .slice PL L.length cL] 24) = w0 at *
  have HNEW := Lib.hid (show Calls Tryz.prog 8 #[.int .i64 4194304] w0 (fun e w' => ∃ (S km : Nat) (A : Blks), e = .returned (.tuple #[.pointer (some ⟨S, 0, none⟩), .int .i64 0]) ∧ SpAt w' w0.heap.size S km A 4194304 N0 [] [0, 1] [] ∧ Below w0.heap.size w0 w' ∧ w0.heap.size ≤ S ∧ w0.heap.size ≤ km) from relNew_any w0 4194304 (Nat.le_refl _))
  go_upto_region 2 with ((with_reducible refine HNEW.out.mono ?_); rintro e w1 ⟨S, km, A, rfl, hs1, hb1, hS1, hkm1⟩; have HS1 := Lib.hid hs1.newOk; have HB1 := Lib.hid hb1; have HLO := Lib.hid (And.intro hS1 hkm1); clear hs1 hb1 hS1 hkm1)
  clear HNEW
  have b0 : w1.cell? ⟨w.heap.size, 0, none⟩ = some (.string nm) := cell_of_row _ _ 0 _ _ (0, 0) (blk_below HB1.out HK0.out)
  have b1 : w1.cell? ⟨w.heap.size, 1, none⟩ = some (.slice PL L.length cL) := cell_of_row _ _ 1 _ _ (0, 0) (blk_below HB1.out HK0.out)
  have hrf : RdF A km w1 10 (.slice PL L.length cL) L.length (rcells L) := by
    obtain ⟨Q, c', hv, hc, hl10, hp⟩ := HL.out.below (HB1.out.mono HB0.out.size)
    injection hv with e1 e2 e3
    subst e1 e3
    refine ⟨PL, cL, rfl, hc, hl10, fun h0 => ?_⟩
    obtain ⟨b, off, hA, hlt, hcell⟩ := hp h0
    have hb0 : b < w0.heap.size := Nat.lt_of_lt_of_le hlt HB0.out.size
    exact ⟨b, off, hA, HS1.out.foreign_low hb0, by have := HLO.out.2; omega, hcell⟩
  have HRU := Lib.hid (rules_c HS1.out nm L _ hrf HE.out.1 bS bS (fun k r h => ⟨.inl (dec_w (rule_may HE.out.1).2 (List.getElem?_eq_some_iff.1 h).1), .inl (left_w (rule_may HE.out.1).2 (List.getElem?_eq_some_iff.1 h).1)⟩) (by have := cost_set HE.out.2; show 2 + _ ≤ _; omega))
  clear hrf
  go_upto_region 3 with ((with_reducible refine HRU.out.mono ?_); rintro e w2 hr; rcases hr with ⟨hk2, ⟨_, h2, _⟩ | ⟨vN, ns, τ, rfl, hs2, ht2, hln, hden, hlk, hown, hof⟩⟩; exact absurd h2 (by have := cost_set HE.out.2; show ¬ 4194304 < 0 + _; omega); obtain ⟨AN, cN, hvN, _⟩ := owns_form hown; subst hvN; have HB2 := Lib.hid (HB1.out.trans (HS1.out.low HLO.out.2 hk2)); have HS2 := Lib.hid hs2; have HDN := Lib.hid hden; have HON := Lib.hid hown; have HLN := Lib.hid hln; clear hk2 hs2 ht2 hden hlk hown hof hln)
  clear b0 b1 HRU
  have hn256 : ns.length ≤ 256 := by have := HLN.out; omega
  go_wp2
  go_loopw [8, 26] (fun r i wr => ∃ m : Nat, i = .int .i64 m ∧ m ≤ ns.length ∧ Hid (wr.ownsRow w2.heap.size 3 1 r (zerosP L m).length (ncl (zerosP L m))) ∧ Hid (Below w2.heap.size w2 wr)) (fun _ i _ => ns.length - (intOf i).toNat)
  case atStart => exact ⟨0, rfl, by omega, Lib.hid (World.ownsRow_nil _ _ _ _), Lib.hid (Below.refl _ _)⟩
  case round =>
    obtain ⟨m, rfl, hm, HO, HB⟩ := hrel
    obtain ⟨Ar, cr, hr, _⟩ := owns_form HO.out
    subst hr
    by_cases hlt : m < ns.length
    · have hI : (m : Int) < (ns.length : Int) := by omega
      obtain ⟨q, hq⟩ : ∃ q, ns[m]? = some q := ⟨_, List.getElem?_eq_getElem hlt⟩
      obtain ⟨b, off, c', hv, _, hbB, hcell⟩ := (Rd.of_own HON.out).pos (by omega)
      injection hv with hv1 hvl hv3
      subst hv1 hv3
      clear hvl
      have c0 : wr.cell? ⟨b, off + m, none⟩ = some (.int .i64 (q : Int)) := (HB.out.cell (p := ⟨b, off + m, none⟩) hbB).trans (hcell m _ (by simp [ncl, hq]))
      have HZ := Lib.hid ((HDN.out m q hq).z HS2.out.ok)
      have hbs := HB.out.size
      have hzl : (zerosP L m).length ≤ 1099511627776 := by have := zerosP_len L m; omega
      clear hcell hq
      by_cases hq0 : q = 0
      · subst hq0
        have HZ2 : Hid (zerosP L (m + 1) = zerosP L m ++ [m]) := Lib.hid (by rw [zerosP_succ, HZ.out]; rfl)
        go_wp2_with (at_builtin; refine wpList_push2 (v := .slice Ar (zerosP L m).length cr) rfl _ _ 33 rfl 3 i0 _ 1 8 Tryz.underlying33 hif hz0 hz1 hz2 rfl (by decide) (by decide) [.int .i64 m] rfl rfl rfl HO.out rfl (one_i64 _) hzl hbs ?_; intro v3 w3 hown3 hg3 hm3; have HO3 := Lib.hid hown3; have HB3 := Lib.hid (below_grown HB.out hbs hg3 (fun g hg => (HO.out.lt g hg).1)); clear hown3 hg3 hm3)
        exact ⟨⟨m + 1, by go_num, by omega, Lib.hid (by rw [HZ2.out, List.length_append, ncl_app]; exact HO3.out), HB3⟩, by simp only [intOf]; omega⟩
      · have hq2 : ((q : Int) == 0) = false := by simpa using hq0
        have HZ2 : Hid (zerosP L (m + 1) = zerosP L m) := Lib.hid (by rw [zerosP_succ, HZ.out, decide_eq_false hq0]; rfl)
        go_wp2
        exact ⟨⟨m + 1, by go_num, by omega, Lib.hid (by rw [HZ2.out]; exact HO.out), HB⟩, by simp only [intOf]; omega⟩
    · obtain rfl : m = ns.length := by omega
      have hI : ¬ (ns.length : Int) < (ns.length : Int) := by omega
      have HFIN : Hid (wr.ownsRow w.heap.size 3 1 (.slice Ar (zerosP L ns.length).length cr) (zerosP L L.length).length (ncl (zerosP L L.length))) := Lib.hid (by
        have h := owns_base HO.out (Nat.le_trans HB0.out.size HB2.out.size)
        rw [← HLN.out]; exact h)
      have HBF : Hid (Below w.heap.size w wr) := Lib.hid (HB0.out.trans ((HB2.out.trans (HB.out.mono HB2.out.size)).mono HB0.out.size))
      go_wp2
      go_ret2
      exact ⟨_, rfl, HFIN.out, HBF.out⟩
end
end Go.Proofs.YtbahehmfhjkgeaaGreat

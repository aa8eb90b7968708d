/-
  Joined texts: Wid, Dfs, Sg, Rb1, Wid2, Rb3, Math, A1, Bits, Addr, Addr2, MixS.
-/
import Derived.Test.YtehpkpjgkmbngaaGreatMLintLists1
import Derived.Test.YtehpkpjgkmbngaaGreatMLintLists2
import Derived.Deep.CutBlock
import Derived.IntWalk
import Derived.Laws.BitsAllLaws
import Derived.Deep.RegionHeld3
import Derived.Deep.DeepCutAuto
import Derived.Below
import Derived.Test.YtehpkpjgkmbngaaGreatProg
import Derived.WalkKit
import Derived.WalkSpells
import Derived.WalkLawsBesides
import Derived.Lib.Hide
import Derived.Test.YtehpkpjgkmbngaaGreatShelf
/-
  Diagrams, plain: how many nodes a function's diagram has at most, told by what is left of the function behind each variable. No program in sight.
-/
namespace Go.Proofs.YtehpkpjgkmbngaaGreat

abbrev Fun := (Nat → Bool) → Bool
def mixS (v : Nat) (s t : Nat → Bool) : Nat → Bool := fun u => if u < v then s u else t u
theorem mixS_low {v u : Nat} (s t : Nat → Bool) (h : u < v) : mixS v s t u = s u := by simp [mixS, h]
theorem mixS_high {v u : Nat} (s t : Nat → Bool) (h : v ≤ u) : mixS v s t u = t u := by simp [mixS]; omega
/-- What is left of a function behind the variables ahead of v. -/
def cof (F : Fun) (v : Nat) (s : Nat → Bool) : Fun := fun t => F (mixS v s t)
def CutLe (F : Fun) (v k : Nat) : Prop := ∃ L : List Fun, L.length ≤ k ∧ ∀ s, cof F v s ∈ L
def Free (F : Fun) (v : Nat) : Prop := ∀ s b, F (put s v b) = F s
def sumTo (c : Nat → Nat) : Nat → Nat
  | 0 => 0
  | n + 1 => sumTo c n + c n
def Wid (F : Fun) (k : Nat) : Prop := ∃ c : Nat → Nat, (∀ v, v < 256 → Free F v ∨ CutLe F v (c v)) ∧ sumTo c 256 ≤ k
theorem CutLe.mono {F : Fun} {v k m : Nat} (h : CutLe F v k) (hk : k ≤ m) : CutLe F v m := by
  obtain ⟨L, a, b⟩ := h
  exact ⟨L, by omega, b⟩
theorem Wid.mono {F : Fun} {k m : Nat} (h : Wid F k) (hk : k ≤ m) : Wid F m := by
  obtain ⟨c, a, b⟩ := h
  exact ⟨c, a, by omega⟩
theorem sumTo_le {c d : Nat → Nat} : ∀ n, (∀ v, v < n → c v ≤ d v) → sumTo c n ≤ sumTo d n
  | 0, _ => Nat.le_refl _
  | n + 1, h => by
    have := sumTo_le n fun v hv => h v (by omega)
    have := h n (by omega)
    show sumTo c n + c n ≤ sumTo d n + d n
    omega
theorem sumTo_const (k : Nat) : ∀ n, sumTo (fun _ => k) n = n * k
  | 0 => by simp [sumTo]
  | n + 1 => by
    show sumTo (fun _ => k) n + k = _
    rw [sumTo_const k n, Nat.add_mul, Nat.one_mul]
theorem sumTo_cut (k m : Nat) : ∀ n, sumTo (fun v => if v < m then k else 0) n = min n m * k
  | 0 => by simp [sumTo]
  | n + 1 => by
    show sumTo _ n + (if n < m then k else 0) = _
    rw [sumTo_cut k m n]
    by_cases h : n < m
    · rw [if_pos h, Nat.min_eq_left (by omega), Nat.min_eq_left (by omega), Nat.add_mul, Nat.one_mul]
    · rw [if_neg h, Nat.min_eq_right (by omega), Nat.min_eq_right (by omega), Nat.add_zero]
/-- One of each. -/
theorem inj_len {α : Type} : ∀ (l : List Nat) (L : List α) (f : Nat → α), l.Nodup → (∀ i ∈ l, f i ∈ L) → (∀ i ∈ l, ∀ j ∈ l, f i = f j → i = j) → l.length ≤ L.length
  | [], _, _, _, _, _ => Nat.zero_le _
  | a :: r, L, f, hn, hm, hi => by
    obtain ⟨L1, L2, rfl⟩ := List.append_of_mem (hm a (List.mem_cons_self ..))
    rw [List.nodup_cons] at hn
    have ih := inj_len r (L1 ++ L2) f hn.2 (fun i h => by
      have h1 := hm i (List.mem_cons_of_mem _ h)
      have h2 : f i ≠ f a := fun e => hn.1 (hi i (List.mem_cons_of_mem _ h) a (List.mem_cons_self ..) e ▸ h)
      rcases List.mem_append.1 h1 with h1 | h1
      · exact List.mem_append_left _ h1
      · rcases List.mem_cons.1 h1 with h1 | h1
        · exact absurd h1 h2
        · exact List.mem_append_right _ h1) fun i h j h' => hi i (List.mem_cons_of_mem _ h) j (List.mem_cons_of_mem _ h')
    simp only [List.length_append, List.length_cons] at ih ⊢
    omega
theorem len_parts (p : Nat → Bool) : ∀ l : List Nat, l.length = (l.filter p).length + (l.filter fun i => !p i).length
  | [] => rfl
  | a :: r => by
    have := len_parts p r
    cases h : p a <;> simp [h] <;> omega
theorem by_label (lab c : Nat → Nat) : ∀ (n : Nat) (l : List Nat), (∀ i ∈ l, lab i < n) → (∀ v, v < n → (l.filter fun i => lab i = v).length ≤ c v) → l.length ≤ sumTo c n
  | 0, l, h, _ => by
    cases l with
    | nil => simp
    | cons a r => exact absurd (h a (List.mem_cons_self ..)) (by omega)
  | n + 1, l, h, hc => by
    have e := len_parts (fun i => decide (lab i < n)) l
    have ih := by_label lab c n (l.filter fun i => decide (lab i < n)) (fun i hi => by simpa using (List.mem_filter.1 hi).2) (fun v hv => by
      exact Nat.le_trans (List.filter_sublist.filter _).length_le (hc v (by omega)))
    have h2 : (l.filter fun i => !decide (lab i < n)).length ≤ c n := by
      refine Nat.le_trans (Nat.le_of_eq ?_) (hc n (by omega))
      congr 1
      refine List.filter_congr fun i hi => ?_
      have := h i hi
      by_cases hv : lab i < n
      · have : ¬ lab i = n := by omega
        simp [hv, this]
      · have : lab i = n := by omega
        simp [this]
    show l.length ≤ sumTo c n + c n
    omega
theorem Rch.lab {N : List Nd} (w : WF N) {i j : Nat} (h : Rch N i j) : (nd N i).v ≤ (nd N j).v := by
  induction h with
  | refl i => exact Nat.le_refl _
  | lo a b _ ih => have := w.vlo _ a b; omega
  | hi a b _ ih => have := w.vhi _ a b; omega
/-- A node beneath another one is what is left of it. -/
theorem Rch.path {N : List Nd} (w : WF N) {r i : Nat} (h : Rch N r i) (hr : r < N.length) : ∃ s, ∀ t, ev N (mixS (nd N i).v s t) r = ev N t i := by
  induction h with
  | refl i => exact ⟨fun _ => false, fun t => ev_agree w i _ _ hr fun v hv => mixS_high _ _ hv⟩
  | @lo r i a b h ih =>
    have h1 := w.lo _ a b
    have h2 := w.vlo _ a b
    have h3 := Rch.lab w h
    obtain ⟨s, hs⟩ := ih (by omega)
    refine ⟨put s (nd N r).v false, fun t => ?_⟩
    rw [ev_node w _ a b, mixS_low _ _ (by omega), put_same, if_neg (by simp), ← hs t]
    refine ev_agree w _ _ _ (by omega) fun v hv => ?_
    unfold mixS
    split
    · exact put_other (by omega)
    · rfl
  | @hi r i a b h ih =>
    have h1 := w.hi _ a b
    have h2 := w.vhi _ a b
    have h3 := Rch.lab w h
    obtain ⟨s, hs⟩ := ih (by omega)
    refine ⟨put s (nd N r).v true, fun t => ?_⟩
    rw [ev_node w _ a b, mixS_low _ _ (by omega), put_same, if_pos rfl, ← hs t]
    refine ev_agree w _ _ _ (by omega) fun v hv => ?_
    unfold mixS
    split
    · exact put_other (by omega)
    · rfl
theorem Rch.lt {N : List Nd} (w : WF N) {r i : Nat} (h : Rch N r i) (hr : r < N.length) : i < N.length := by
  have := h.le w hr
  omega
/-- A node hangs on its own variable. -/
theorem not_free {N : List Nd} (w : WF N) {r i : Nat} (hr : r < N.length) (h : Rch N r i) (h2 : 2 ≤ i) : ¬ Free (fun s => ev N s r) (nd N i).v := by
  intro hf
  have hi := h.lt w hr
  obtain ⟨s, hs⟩ := h.path w hr
  have a := w.lo i h2 hi
  have b := w.hi i h2 hi
  refine w.ne i h2 hi (w.canon (i + i) _ _ (by omega) (by omega) (by omega) (by omega) fun t => ?_)
  rw [← ev_lo w h2 hi t, ← ev_hi w h2 hi t, ← hs, ← hs]
  have e : ∀ b', mixS (nd N i).v s (put t (nd N i).v b') = put (mixS (nd N i).v s t) (nd N i).v b' := fun b' => funext fun u => by
    unfold mixS put
    by_cases h1 : u < (nd N i).v
    · have h3 : ¬ u = (nd N i).v := by omega
      simp [h1, h3]
    · simp [h1]
  rw [e, e]
  exact (hf (mixS (nd N i).v s t) false).trans (hf (mixS (nd N i).v s t) true).symm
/-- THE BOUND. -/
theorem wid_nodes {N : List Nd} (w : WF N) {r k : Nat} (hr : r < N.length) (hw : Wid (fun s => ev N s r) k) {l : List Nat} (hn : l.Nodup) (hl : ∀ i ∈ l, 2 ≤ i ∧ Rch N r i) : l.length ≤ k := by
  obtain ⟨c, hc, hk⟩ := hw
  refine Nat.le_trans (by_label (fun i => (nd N i).v) c 256 l (fun i hi => ?_) fun v hv => ?_) hk
  · obtain ⟨h2, h⟩ := hl i hi
    exact w.v_lt h2 (h.lt w hr)
  · have hm : ∀ i ∈ (l.filter fun i => decide ((nd N i).v = v)), i ∈ l ∧ (nd N i).v = v := fun i hi => by
      have := List.mem_filter.1 hi
      exact ⟨this.1, by simpa using this.2⟩
    rcases hc v hv with hf | ⟨L, hL, hc⟩
    · refine Nat.le_trans (Nat.le_of_eq ?_) (Nat.zero_le _)
      rw [List.length_eq_zero_iff, List.eq_nil_iff_forall_not_mem]
      intro i hi
      obtain ⟨h1, rfl⟩ := hm i hi
      exact not_free w hr (hl i h1).2 (hl i h1).1 hf
    · refine Nat.le_trans (inj_len _ L (fun i s => ev N s i) (hn.filter _) (fun i hi => ?_) fun i hi j hj e => ?_) hL
      · obtain ⟨h1, rfl⟩ := hm i hi
        obtain ⟨s, hs⟩ := (hl i h1).2.path w hr
        have := hc s
        rw [show cof (fun s => ev N s r) (nd N i).v s = fun t => ev N t i from funext hs] at this
        exact this
      · have h1 := hl i (hm i hi).1
        have h2 := hl j (hm j hj).1
        have := h1.2.lt w hr
        have := h2.2.lt w hr
        exact w.canon (i + j) i j (by omega) (by omega) (by omega) (by omega) fun s => congrFun e s
/-- What ite may leave. -/
theorem IteTo.len {N N' : List Nd} {f g h r k : Nat} (two : 2 ≤ N.length) (t : IteTo N f g h r N') (hw : Wid (fun s => if ev N s f then ev N s g else ev N s h) k) : N'.length ≤ N.length + k := by
  have hw' : Wid (fun s => ev N' s r) k := by
    rw [show (fun s => ev N' s r) = fun s => if ev N s f then ev N s g else ev N s h from funext t.sem]
    exact hw
  have hn : ((List.range (N'.length - N.length)).map (· + N.length)).Nodup := by
    refine List.Pairwise.map _ (fun a b h => ?_) List.nodup_range
    omega
  have := wid_nodes t.wf t.lt hw' hn (fun i hi => by
    simp only [List.mem_map, List.mem_range] at hi
    obtain ⟨a, ha, rfl⟩ := hi
    exact ⟨by omega, t.new _ (by omega) (by omega)⟩)
  simp at this
  omega
theorem Cap.of_wid {N : List Nd} {f g h k : Nat} (two : 2 ≤ N.length) (hw : Wid (fun s => if ev N s f then ev N s g else ev N s h) k) (hk : N.length + k ≤ 2147483647) : Cap N f g h := fun r N' t => by
  have := t.len two hw
  omega
theorem Free.op {F G H : Fun} {v : Nat} (o : Bool → Bool → Bool → Bool) (a : Free F v) (b : Free G v) (c : Free H v) : Free (fun s => o (F s) (G s) (H s)) v := fun s x => by
  show o (F (put s v x)) (G (put s v x)) (H (put s v x)) = _
  rw [a, b, c]
theorem fm_len {α β : Type} (f : α → List β) (k : Nat) (h : ∀ x, (f x).length = k) : ∀ l : List α, (l.flatMap f).length = l.length * k
  | [] => by simp
  | a :: r => by rw [List.flatMap_cons, List.length_append, h, fm_len f k h r, List.length_cons, Nat.add_mul, Nat.one_mul, Nat.add_comm]
theorem CutLe.op {F G H : Fun} {v x y z : Nat} (o : Bool → Bool → Bool → Bool) (a : CutLe F v x) (b : CutLe G v y) (c : CutLe H v z) : CutLe (fun s => o (F s) (G s) (H s)) v (x * (y * z)) := by
  obtain ⟨A, a1, a2⟩ := a
  obtain ⟨B, b1, b2⟩ := b
  obtain ⟨C, c1, c2⟩ := c
  refine ⟨A.flatMap fun f => B.flatMap fun g => C.map fun h => fun s => o (f s) (g s) (h s), ?_, fun s => ?_⟩
  · rw [fm_len _ (B.length * C.length) fun f => fm_len _ C.length (fun g => List.length_map ..) B]
    exact Nat.mul_le_mul a1 (Nat.mul_le_mul b1 c1)
  · exact List.mem_flatMap.2 ⟨_, a2 s, List.mem_flatMap.2 ⟨_, b2 s, List.mem_map.2 ⟨_, c2 s, rfl⟩⟩⟩
theorem Free.op2 {F G : Fun} {v : Nat} (o : Bool → Bool → Bool) (a : Free F v) (b : Free G v) : Free (fun s => o (F s) (G s)) v := fun s x => by
  show o (F (put s v x)) (G (put s v x)) = _
  rw [a, b]
theorem CutLe.op2 {F G : Fun} {v x y : Nat} (o : Bool → Bool → Bool) (a : CutLe F v x) (b : CutLe G v y) : CutLe (fun s => o (F s) (G s)) v (x * y) := by
  obtain ⟨A, a1, a2⟩ := a
  obtain ⟨B, b1, b2⟩ := b
  refine ⟨A.flatMap fun f => B.map fun g => fun s => o (f s) (g s), ?_, fun s => ?_⟩
  · rw [fm_len _ B.length fun f => List.length_map ..]
    exact Nat.mul_le_mul a1 b1
  · exact List.mem_flatMap.2 ⟨_, a2 s, List.mem_map.2 ⟨_, b2 s, rfl⟩⟩
theorem Free.op1 {F : Fun} {v : Nat} (o : Bool → Bool) (a : Free F v) : Free (fun s => o (F s)) v := fun s x => by
  show o (F (put s v x)) = _
  rw [a]
theorem CutLe.op1 {F : Fun} {v x : Nat} (o : Bool → Bool) (a : CutLe F v x) : CutLe (fun s => o (F s)) v x := by
  obtain ⟨A, a1, a2⟩ := a
  exact ⟨A.map fun f => fun s => o (f s), by rw [List.length_map]; exact a1, fun s => List.mem_map.2 ⟨_, a2 s, rfl⟩⟩
theorem Free.const (b : Bool) (v : Nat) : Free (fun _ => b) v := fun _ _ => rfl
theorem CutLe.const (b : Bool) (v : Nat) : CutLe (fun _ => b) v 1 := ⟨[fun _ => b], Nat.le_refl _, fun _ => List.mem_singleton.2 rfl⟩
/-- F hangs on variables from a to b alone. -/
def Hangs (F : Fun) (a b : Nat) : Prop := ∀ s t : Nat → Bool, (∀ u, a ≤ u → u < b → s u = t u) → F s = F t
theorem Hangs.free {F : Fun} {a b v : Nat} (h : Hangs F a b) (hv : v < a ∨ b ≤ v) : Free F v := fun s x => h _ _ fun u h1 h2 => put_other (by omega)
theorem Hangs.mono {F : Fun} {a b a' b' : Nat} (h : Hangs F a b) (ha : a' ≤ a) (hb : b ≤ b') : Hangs F a' b' := fun s t e => h s t fun u h1 h2 => e u (by omega) (by omega)
theorem Hangs.ahead {F : Fun} {a b v : Nat} (h : Hangs F a b) (hv : v ≤ a) : CutLe F v 1 :=
  ⟨[F], Nat.le_refl _, fun s => List.mem_singleton.2 (funext fun t => h _ _ fun u h1 h2 => mixS_high _ _ (by omega))⟩
theorem Hangs.behind {F : Fun} {a b v : Nat} (h : Hangs F a b) (hv : b ≤ v) : CutLe F v 2 := by
  refine ⟨[fun _ => false, fun _ => true], by simp, fun s => ?_⟩
  have e : cof F v s = fun _ => F s := funext fun t => h _ _ fun u h1 h2 => mixS_low _ _ (by omega)
  rw [e]
  cases F s <;> simp
theorem Hangs.op {F G H : Fun} {a b : Nat} (o : Bool → Bool → Bool → Bool) (f : Hangs F a b) (g : Hangs G a b) (h : Hangs H a b) : Hangs (fun s => o (F s) (G s) (H s)) a b := fun s t e => by
  show o (F s) (G s) (H s) = _
  rw [f s t e, g s t e, h s t e]
theorem Hangs.op2 {F G : Fun} {a b : Nat} (o : Bool → Bool → Bool) (f : Hangs F a b) (g : Hangs G a b) : Hangs (fun s => o (F s) (G s)) a b := fun s t e => by
  show o (F s) (G s) = _
  rw [f s t e, g s t e]
theorem Hangs.op1 {F : Fun} {a b : Nat} (o : Bool → Bool) (f : Hangs F a b) : Hangs (fun s => o (F s)) a b := fun s t e => by
  show o (F s) = _
  rw [f s t e]
theorem Hangs.const (x : Bool) (a b : Nat) : Hangs (fun _ => x) a b := fun _ _ _ => rfl
theorem Hangs.var (v : Nat) : Hangs (fun s => s v) v (v + 1) := fun s t e => e v (Nat.le_refl _) (by omega)
theorem Wid.of_hangs {F : Fun} {a b k : Nat} (h : Hangs F a b) (hb : b ≤ 256) (hc : ∀ v, a ≤ v → v < b → CutLe F v k) : Wid F (b * k) := by
  refine ⟨fun v => if v < b then k else 0, fun v hv => ?_, by rw [sumTo_cut, Nat.min_eq_right hb]; exact Nat.le_refl _⟩
  by_cases h1 : v < b
  · by_cases h2 : a ≤ v
    · refine .inr ?_
      simp only [h1, if_true]
      exact hc v h2 h1
    · exact .inl (h.free (.inl (by omega)))
  · exact .inl (h.free (.inr (by omega)))
/-- Only the variables of the nodes beneath count. -/
theorem ev_sup {N : List Nd} (w : WF N) : ∀ (i : Nat) (s t : Nat → Bool), i < N.length → (∀ j, 2 ≤ j → Rch N i j → s (nd N j).v = t (nd N j).v) → ev N s i = ev N t i := by
  intro i
  induction i using Nat.strongRecOn with
  | _ i ih =>
    intro s t hi hst
    rcases Nat.lt_or_ge i 2 with h2 | h2
    · obtain rfl | rfl : i = 0 ∨ i = 1 := by omega
      · rfl
      · rfl
    · rw [ev_node w s h2 hi, ev_node w t h2 hi, hst i h2 (.refl i)]
      have a := w.lo i h2 hi
      have b := w.hi i h2 hi
      rw [ih _ a s t (by omega) (fun j hj h => hst j hj (.lo h2 hi h)), ih _ b s t (by omega) (fun j hj h => hst j hj (.hi h2 hi h))]
theorem ev_hangs {N : List Nd} (w : WF N) {i : Nat} (hi : i < N.length) : Hangs (fun s => ev N s i) (nd N i).v 256 := fun s t e =>
  ev_sup w i s t hi fun _ hj h => e _ (h.lab w) (w.v_lt hj (h.lt w hi))
theorem free_of {N : List Nd} (w : WF N) {i v : Nat} (hi : i < N.length) (h : ∀ j, 2 ≤ j → Rch N i j → (nd N j).v ≠ v) : Free (fun s => ev N s i) v := fun _ _ =>
  ev_sup w i _ _ hi fun j hj hr => put_other (h j hj hr)
end Go.Proofs.YtehpkpjgkmbngaaGreat

/-
  What give's walk comes to: just the nodes beneath that are not held; how many these are.
-/
namespace Go.Proofs.YtehpkpjgkmbngaaGreat

theorem dfs_sub {N : List Nd} (H : List Nat) : ∀ (n f : Nat) (F : List Nat), ∀ i ∈ F, i ∈ dfs N H n f F
  | 0, _, _, _, h => h
  | n + 1, f, F, i, h => by
    unfold dfs
    by_cases hc : f < 2 ∨ f ∈ F ∨ f ∈ H
    · rw [if_pos hc]; exact h
    · rw [if_neg hc]
      exact dfs_sub H n _ _ i (dfs_sub H n _ _ i (List.mem_append_left _ h))
theorem dfs_rch {N : List Nd} (w : WF N) (H : List Nat) : ∀ (n f : Nat) (F : List Nat), f < N.length → ∀ i ∈ dfs N H n f F, i ∈ F ∨ 2 ≤ i ∧ Rch N f i
  | 0, _, _, _, _, h => .inl h
  | n + 1, f, F, hf, i, h => by
    unfold dfs at h
    by_cases hc : f < 2 ∨ f ∈ F ∨ f ∈ H
    · rw [if_pos hc] at h; exact .inl h
    · rw [if_neg hc] at h
      have h2 : 2 ≤ f := by omega
      have a := w.lo f h2 hf
      have b := w.hi f h2 hf
      rcases dfs_rch w H n _ _ (by omega) i h with h | ⟨h3, h⟩
      · rcases dfs_rch w H n _ _ (by omega) i h with h | ⟨h3, h⟩
        · rcases List.mem_append.1 h with h | h
          · exact .inl h
          · obtain rfl := List.mem_singleton.1 h
            exact .inr ⟨h2, .refl i⟩
        · exact .inr ⟨h3, .lo h2 hf h⟩
      · exact .inr ⟨h3, .hi h2 hf h⟩
/-- All that stands beneath one of the list is an end, or in the list. -/
def Cl (N : List Nd) (H : List Nat) : Prop := ∀ i ∈ H, ((nd N i).lo < 2 ∨ (nd N i).lo ∈ H) ∧ ((nd N i).hi < 2 ∨ (nd N i).hi ∈ H)
theorem dfs_cl {N : List Nd} (w : WF N) (H : List Nat) : ∀ (n f : Nat) (F : List Nat), f < n → f < N.length →
    (f < 2 ∨ f ∈ dfs N H n f F ∨ f ∈ H) ∧ ∀ i ∈ dfs N H n f F, i ∈ F ∨ ((nd N i).lo < 2 ∨ (nd N i).lo ∈ dfs N H n f F ∨ (nd N i).lo ∈ H) ∧ ((nd N i).hi < 2 ∨ (nd N i).hi ∈ dfs N H n f F ∨ (nd N i).hi ∈ H)
  | 0, _, _, h, _ => by omega
  | n + 1, f, F, hn, hf => by
    have hu : dfs N H (n + 1) f F = if f < 2 ∨ f ∈ F ∨ f ∈ H then F else dfs N H n (nd N f).hi (dfs N H n (nd N f).lo (F ++ [f])) := rfl
    by_cases hc : f < 2 ∨ f ∈ F ∨ f ∈ H
    · rw [hu, if_pos hc]
      exact ⟨hc, fun i h => .inl h⟩
    · rw [hu, if_neg hc]
      have h2 : 2 ≤ f := by omega
      have a := w.lo f h2 hf
      have b := w.hi f h2 hf
      obtain ⟨p1, p2⟩ := dfs_cl w H n (nd N f).lo (F ++ [f]) (by omega) (by omega)
      obtain ⟨q1, q2⟩ := dfs_cl w H n (nd N f).hi (dfs N H n (nd N f).lo (F ++ [f])) (by omega) (by omega)
      have sub := dfs_sub (N := N) H n (nd N f).hi (dfs N H n (nd N f).lo (F ++ [f]))
      have sub1 := dfs_sub (N := N) H n (nd N f).lo (F ++ [f])
      have up : ∀ c, (c < 2 ∨ c ∈ dfs N H n (nd N f).lo (F ++ [f]) ∨ c ∈ H) → (c < 2 ∨ c ∈ dfs N H n (nd N f).hi (dfs N H n (nd N f).lo (F ++ [f])) ∨ c ∈ H) := fun c h => by
        rcases h with h | h | h
        · exact .inl h
        · exact .inr (.inl (sub c h))
        · exact .inr (.inr h)
      refine ⟨.inr (.inl (sub f (sub1 f (by simp)))), fun i h => ?_⟩
      rcases q2 i h with h | h
      · rcases p2 i h with h | h
        · rcases List.mem_append.1 h with h | h
          · exact .inl h
          · obtain rfl := List.mem_singleton.1 h
            exact .inr ⟨up _ p1, q1⟩
        · exact .inr ⟨up _ h.1, up _ h.2⟩
      · exact .inr h
theorem newL_cl {N : List Nd} (w : WF N) {H : List Nat} (hH : Cl N H) {f : Nat} (hf : f < N.length) : Cl N (H ++ newL N H f) ∧ (2 ≤ f → f ∈ H ++ newL N H f) := by
  obtain ⟨p, q⟩ := dfs_cl w H (f + 1) f [] (by omega) hf
  have tr : ∀ c, (c < 2 ∨ c ∈ newL N H f ∨ c ∈ H) → (c < 2 ∨ c ∈ H ++ newL N H f) := fun c h => by
    rcases h with h | h | h
    · exact .inl h
    · exact .inr (List.mem_append_right _ h)
    · exact .inr (List.mem_append_left _ h)
  refine ⟨fun i hi => ?_, fun h2 => ?_⟩
  · rcases List.mem_append.1 hi with h | h
    · obtain ⟨a, b⟩ := hH i h
      exact ⟨tr _ (by rcases a with a | a; exact .inl a; exact .inr (.inr a)), tr _ (by rcases b with a | a; exact .inl a; exact .inr (.inr a))⟩
    · rcases q i h with h | h
      · cases h
      · exact ⟨tr _ h.1, tr _ h.2⟩
  · rcases tr f p with h | h
    · omega
    · exact h
theorem Cl.rch {N : List Nd} {H : List Nat} (hH : Cl N H) {f i : Nat} (h : Rch N f i) : f ∈ H → 2 ≤ i → i ∈ H := by
  induction h with
  | refl i => intro a _; exact a
  | @lo f i a b h ih =>
    intro hf h2
    rcases (hH f hf).1 with hc | hc
    · have := h.low hc; omega
    · exact ih hc h2
  | @hi f i a b h ih =>
    intro hf h2
    rcases (hH f hf).2 with hc | hc
    · have := h.low hc; omega
    · exact ih hc h2
theorem Cl.ext {N N' : List Nd} (e : Ext N N') {H : List Nat} (hH : Cl N H) (hl : ∀ i ∈ H, i < N.length) : Cl N' H := fun i hi => by
  rw [e.nd (hl i hi)]
  exact hH i hi
/-- below's list: all inner nodes beneath. -/
theorem mem_all {N : List Nd} (w : WF N) {f : Nat} (hf : f < N.length) (i : Nat) : i ∈ dfs N [] (f + 1) f [] ↔ 2 ≤ i ∧ Rch N f i := by
  constructor
  · intro h
    rcases dfs_rch w [] _ _ _ hf i h with h | h
    · cases h
    · exact h
  · rintro ⟨h2, h⟩
    have hc : Cl N (dfs N [] (f + 1) f []) := fun i hi => by
      rcases (dfs_cl w [] (f + 1) f [] (by omega) hf).2 i hi with h | ⟨a, b⟩
      · cases h
      · refine ⟨?_, ?_⟩
        · rcases a with a | a | a
          · exact .inl a
          · exact .inr a
          · cases a
        · rcases b with a | a | a
          · exact .inl a
          · exact .inr a
          · cases a
    have h0 : f ∈ dfs N [] (f + 1) f [] := by
      rcases (dfs_cl w [] (f + 1) f [] (by omega) hf).1 with a | a | a
      · have := h.low a; omega
      · exact a
      · cases a
    exact hc.rch h h0 h2
theorem newL_wid {N : List Nd} (w : WF N) (H : List Nat) {r k : Nat} (hr : r < N.length) (hw : Wid (fun s => ev N s r) k) : (newL N H r).length ≤ k :=
  wid_nodes w hr hw (newL_ok w H hr).1 fun i hi => by
    rcases dfs_rch w H _ _ _ hr i hi with h | h
    · cases h
    · exact h
theorem newL_old {N : List Nd} {H : List Nat} {r : Nat} (h : r < 2 ∨ r ∈ H) : newL N H r = [] := by
  show (if r < 2 ∨ r ∈ ([] : List Nat) ∨ r ∈ H then [] else _) = []
  rw [if_pos (by rcases h with h | h; exact .inl h; exact .inr (.inr h))]
theorem dfs_stop {N : List Nd} {H : List Nat} {n f : Nat} {F : List Nat} (h : f < 2 ∨ f ∈ H) : dfs N H n f F = F := by
  cases n with
  | zero => rfl
  | succ n =>
    show (if f < 2 ∨ f ∈ F ∨ f ∈ H then F else _) = F
    rw [if_pos (by rcases h with h | h; exact .inl h; exact .inr (.inr h))]
theorem newL_step {N : List Nd} {H : List Nat} {r : Nat} (hl : (nd N r).lo < 2 ∨ (nd N r).lo ∈ H) (hh : (nd N r).hi < 2 ∨ (nd N r).hi ∈ H) : (newL N H r).length ≤ 1 := by
  show (if r < 2 ∨ r ∈ ([] : List Nat) ∨ r ∈ H then [] else dfs N H r (nd N r).hi (dfs N H r (nd N r).lo ([] ++ [r]))).length ≤ 1
  split
  · simp
  · rw [dfs_stop hl, dfs_stop hh]
    simp
/-- How the nodes, and the held, may grow by an answer that is F. -/
def Grow (N : List Nd) (H : List Nat) (F : Fun) (k m : Nat) : Prop :=
  ∀ r N', Ext N N' → WF N' → r < N'.length → (∀ s, ev N' s r = F s) → (∀ i, N.length ≤ i → i < N'.length → Rch N' r i) → N'.length ≤ N.length + k ∧ (newL N' H r).length ≤ m
theorem new_len {N N' : List Nd} {r k : Nat} (two : 2 ≤ N.length) (w : WF N') (hr : r < N'.length) (hw : Wid (fun s => ev N' s r) k) (hn : ∀ i, N.length ≤ i → i < N'.length → Rch N' r i) : N'.length ≤ N.length + k := by
  have hd : ((List.range (N'.length - N.length)).map (· + N.length)).Nodup := by
    refine List.Pairwise.map _ (fun a b h => ?_) List.nodup_range
    omega
  have := wid_nodes w hr hw hd (fun i hi => by
    simp only [List.mem_map, List.mem_range] at hi
    obtain ⟨a, ha, rfl⟩ := hi
    exact ⟨by omega, hn _ (by omega) (by omega)⟩)
  simp at this
  omega
theorem Grow.wid {N : List Nd} {H : List Nat} {F : Fun} {k : Nat} (two : 2 ≤ N.length) (hw : Wid F k) : Grow N H F k k := fun r N' e w hr hs hn => by
  have hw' : Wid (fun s => ev N' s r) k := by
    rw [show (fun s => ev N' s r) = F from funext hs]
    exact hw
  exact ⟨new_len two w hr hw' hn, newL_wid w H hr hw'⟩
theorem Grow.mono {N : List Nd} {H : List Nat} {F : Fun} {k m k' m' : Nat} (h : Grow N H F k m) (hk : k ≤ k') (hm : m ≤ m') : Grow N H F k' m' := fun r N' e w hr hs hn => by
  have := h r N' e w hr hs hn
  omega
/-- A function that has a node. -/
theorem Grow.old {N : List Nd} {H : List Nat} {g : Nat} (w : WF N) (hg : g < N.length) (hh : g < 2 ∨ g ∈ H) : Grow N H (fun s => ev N s g) 0 0 := fun r N' e w' hr hs hn => by
  have hl := e.len
  have : r = g := w'.canon (r + g) r g (by omega) (by omega) hr (by omega) fun s => (hs s).trans (e.ev w w' s hg).symm
  subst this
  rw [newL_old hh]
  refine ⟨?_, Nat.le_refl _⟩
  rcases Nat.lt_or_ge N.length N'.length with h | h
  · have := (hn N.length (Nat.le_refl _) h).le w' hr
    omega
  · omega
/-- One variable ahead of two functions that have nodes. -/
theorem Grow.step {N : List Nd} {H : List Nat} {v g h : Nat} (w : WF N) (hv : v < 256) (hg : g < N.length) (hh : h < N.length) (gv : v < (nd N g).v) (hv' : v < (nd N h).v) (gh : g < 2 ∨ g ∈ H) (hhh : h < 2 ∨ h ∈ H) : Grow N H (fun s => if s v then ev N s g else ev N s h) 1 1 := fun r N' e w' hr hs hn => by
  have hs : ∀ s, ev N' s r = if s v then ev N s g else ev N s h := hs
  have hl := e.len
  by_cases hgh : g = h
  · subst hgh
    have := Grow.old (H := H) w hg gh r N' e w' hr (fun s => by rw [hs]; cases s v <;> rfl) hn
    omega
  · have low : ∀ i, i < N.length → ∀ j, Rch N' i j → j < N.length := fun i hi j hj => by
      have := hj.le w' (by omega)
      omega
    have h2 : 2 ≤ r := by
      rcases Nat.lt_or_ge r 2 with h2 | h2
      · exfalso
        refine hgh (w'.canon (g + h) g h (by omega) (by omega) (by omega) (by omega) fun s => ?_)
        have e1 := hs (put s v true)
        have e2 := hs (put s v false)
        rw [put_same, if_pos rfl] at e1
        rw [put_same, if_neg (by simp)] at e2
        rw [e.ev w w' s hg, e.ev w w' s hh, ← ev_put w hg gv s true, ← ev_put w hh hv' s false, ← e1, ← e2]
        obtain rfl | rfl : r = 0 ∨ r = 1 := by omega
        · rfl
        · rfl
      · exact h2
    have hlab : (nd N' r).v = v := by
      have hle : v ≤ (nd N' r).v := w'.level hr (by omega) fun s t hst => by
        rw [hs, hs, hst v (Nat.le_refl _), ev_agree w g s t hg fun u hu => hst u (by omega), ev_agree w h s t hh fun u hu => hst u (by omega)]
      rcases Nat.lt_or_ge v (nd N' r).v with hlt | hge
      · exfalso
        refine hgh (w'.canon (g + h) g h (by omega) (by omega) (by omega) (by omega) fun s => ?_)
        have e1 := hs (put s v true)
        have e2 := hs (put s v false)
        rw [put_same, if_pos rfl] at e1
        rw [put_same, if_neg (by simp)] at e2
        rw [e.ev w w' s hg, e.ev w w' s hh, ← ev_put w hg gv s true, ← ev_put w hh hv' s false, ← e1, ← e2, ev_put w' hr hlt, ev_put w' hr hlt]
      · omega
    have a := w'.lo r h2 hr
    have b := w'.hi r h2 hr
    have hlo : (nd N' r).lo = h := w'.canon ((nd N' r).lo + h) _ _ (by omega) (by omega) (by omega) (by omega) fun s => by
      rw [← ev_lo w' h2 hr s, hlab, hs, put_same, if_neg (by simp), ev_put w hh hv', e.ev w w' s hh]
    have hhi : (nd N' r).hi = g := w'.canon ((nd N' r).hi + g) _ _ (by omega) (by omega) (by omega) (by omega) fun s => by
      rw [← ev_hi w' h2 hr s, hlab, hs, put_same, if_pos rfl, ev_put w hg gv, e.ev w w' s hg]
    refine ⟨?_, newL_step (by rw [hlo]; exact hhh) (by rw [hhi]; exact gh)⟩
    have one : ∀ i, N.length ≤ i → i < N'.length → i = r := fun i h1 h3 => by
      have hr' := hn i h1 h3
      cases hr' with
      | refl => rfl
      | lo _ _ h' => rw [hlo] at h'; have := low _ hh _ h'; omega
      | hi _ _ h' => rw [hhi] at h'; have := low _ hg _ h'; omega
    rcases Nat.lt_or_ge (N.length + 1) N'.length with h4 | h4
    · have := one N.length (Nat.le_refl _) (by omega)
      have := one (N.length + 1) (by omega) h4
      omega
    · exact h4
theorem Grow.cap {N : List Nd} {H : List Nat} {f g h k m : Nat} (hg : Grow N H (fun s => if ev N s f then ev N s g else ev N s h) k m) (hk : N.length + k ≤ 2147483647) : Cap N f g h := fun r N' t => by
  have := hg r N' t.ext t.wf t.lt t.sem t.new
  omega
end Go.Proofs.YtehpkpjgkmbngaaGreat

/-
  A space and what its nodes say.
-/
namespace Go.Proofs.YtehpkpjgkmbngaaGreat
open Go Go.RowKit Go.ChangeMaps Go.MapKept Go.Maps Go.Lib Go.Sort

/-- What a space has: nodes, the held, the given, what is known. -/
structure Sg where
  N : List Nd
  H : List Nat
  G : List Nat
  K : List (Value × Value)
def IsSet (N : List Nd) (g : Nat) : Prop := ∀ v, v % 2 = 1 → Free (fun s => ev N s g) v
structure SgOk (Mo : Nat) (σ : Sg) : Prop where
  wf : WF σ.N
  hok : FOk σ.N σ.H
  cl : Cl σ.N σ.H
  g : ∀ g ∈ σ.G, g < σ.N.length ∧ (g < 2 ∨ g ∈ σ.H) ∧ Hangs (fun s => ev σ.N s g) 0 208
  g0 : 0 ∈ σ.G
  g1 : 1 ∈ σ.G
  k : ∀ p ∈ σ.K, ∃ g ∈ σ.G, p.1 = .int .i64 (g : Int) ∧ (p.2 = .int .i64 1 ∨ p.2 = .int .i64 2 ∧ IsSet σ.N g)
  mo : σ.H.length ≤ Mo
  le : σ.N.length ≤ 2147483647
structure SpOk (w : World) (B S km : Nat) (A : Blks) (Mo : Nat) (σ : Sg) : Prop where
  sp : SpAt w B S km A Mo σ.N σ.H σ.G σ.K
  ok : SgOk Mo σ
/-- The space went on: at most k nodes more, at most m more held. -/
structure To (k m : Nat) (σ τ : Sg) : Prop where
  ext : Ext σ.N τ.N
  nl : τ.N.length ≤ σ.N.length + k
  hl : τ.H.length ≤ σ.H.length + m
  g : ∀ g ∈ σ.G, g ∈ τ.G
  h : ∀ g ∈ σ.H, g ∈ τ.H
theorem To.refl (σ : Sg) : To 0 0 σ σ := ⟨Ext.refl _, Nat.le_refl _, Nat.le_refl _, fun _ h => h, fun _ h => h⟩
theorem To.trans {k m k' m' : Nat} {a b c : Sg} (h : To k m a b) (g : To k' m' b c) : To (k + k') (m + m') a c :=
  ⟨h.ext.trans g.ext, by have := h.nl; have := g.nl; omega, by have := h.hl; have := g.hl; omega, fun x hx => g.g x (h.g x hx), fun x hx => g.h x (h.h x hx)⟩
theorem To.mono {k m k' m' : Nat} {a b : Sg} (h : To k m a b) (hk : k ≤ k') (hm : m ≤ m') : To k' m' a b :=
  ⟨h.ext, by have := h.nl; omega, by have := h.hl; omega, h.g, h.h⟩
/-- A given node says F. -/
def Den (σ : Sg) (g : Nat) (F : Fun) : Prop := g ∈ σ.G ∧ ∀ s, ev σ.N s g = F s
theorem Den.to {k m Mo Mo' : Nat} {σ τ : Sg} {g : Nat} {F : Fun} (h : Den σ g F) (t : To k m σ τ) (o : SgOk Mo σ) (p : SgOk Mo' τ) : Den τ g F :=
  ⟨t.g g h.1, fun s => (t.ext.ev o.wf p.wf s (o.g g h.1).1).trans (h.2 s)⟩
theorem Den.zero {Mo : Nat} {σ : Sg} (o : SgOk Mo σ) : Den σ 0 (fun _ => false) := ⟨o.g0, fun _ => rfl⟩
theorem Den.one {Mo : Nat} {σ : Sg} (o : SgOk Mo σ) : Den σ 1 (fun _ => true) := ⟨o.g1, fun _ => rfl⟩
theorem Den.hangs {Mo : Nat} {σ : Sg} {g : Nat} {F : Fun} (h : Den σ g F) (o : SgOk Mo σ) : Hangs F 0 208 := by
  have := (o.g g h.1).2.2
  rw [show (fun s => ev σ.N s g) = F from funext h.2] at this
  exact this
/-- One node for one function. -/
theorem Den.same {Mo : Nat} {σ : Sg} {g h : Nat} {F : Fun} (a : Den σ g F) (b : Den σ h F) (o : SgOk Mo σ) : g = h :=
  o.wf.canon (g + h) g h (by omega) (by omega) (o.g g a.1).1 (o.g h b.1).1 fun s => (a.2 s).trans (b.2 s).symm
theorem Den.level {Mo : Nat} {σ : Sg} {g v : Nat} {F : Fun} (h : Den σ g F) (o : SgOk Mo σ) (hF : Hangs F (v + 1) 256) (hv : v < 256) : v < (nd σ.N g).v :=
  o.wf.level (o.g g h.1).1 (m := v + 1) (by omega) fun s t e => by
    rw [h.2, h.2]
    exact hF s t fun u h1 _ => e u h1
theorem Den.grow {Mo : Nat} {σ : Sg} {g : Nat} {F : Fun} (h : Den σ g F) (o : SgOk Mo σ) : Grow σ.N σ.H F 0 0 := by
  have := Grow.old (H := σ.H) o.wf (o.g g h.1).1 (o.g g h.1).2.1
  rw [show (fun s => ev σ.N s g) = F from funext h.2] at this
  exact this
theorem Den.step {Mo : Nat} {σ : Sg} {g h v : Nat} {F G : Fun} (a : Den σ g F) (b : Den σ h G) (o : SgOk Mo σ) (hv : v < 208) (hF : Hangs F (v + 1) 256) (hG : Hangs G (v + 1) 256) : Grow σ.N σ.H (fun s => if s v then F s else G s) 1 1 := by
  have := Grow.step (H := σ.H) o.wf (by omega : v < 256) (o.g g a.1).1 (o.g h b.1).1 (a.level o hF (by omega)) (b.level o hG (by omega)) (o.g g a.1).2.1 (o.g h b.1).2.1
  rw [show (fun s : Nat → Bool => if s v then ev σ.N s g else ev σ.N s h) = fun s => if s v then F s else G s from funext fun s => by rw [a.2, b.2]] at this
  exact this
/-- A node that is the answer F of an operation. -/
structure Ans (N : List Nd) (F : Fun) (r : Nat) (N' : List Nd) : Prop where
  ext : Ext N N'
  wf : WF N'
  lt : r < N'.length
  sem : ∀ s, ev N' s r = F s
  new : ∀ i, N.length ≤ i → i < N'.length → Rch N' r i
theorem IteTo.ans {N N' : List Nd} {f g h r : Nat} (t : IteTo N f g h r N') : Ans N (fun s => if ev N s f then ev N s g else ev N s h) r N' := ⟨t.ext, t.wf, t.lt, t.sem, t.new⟩
/-- Nothing but the space has turned. -/
structure KeptS (A : Blks) (km : Nat) (w w' : World) : Prop where
  os : w'.os = w.os
  tape : w'.tape = w.tape
  output : w'.output = w.output
  size : w.heap.size ≤ w'.heap.size
  same : ∀ k, Foreign A w k → k ≠ km → w'.heap[k]? = w.heap[k]? ∧ Foreign A w' k
theorem KeptS.refl (A : Blks) (km : Nat) (w : World) : KeptS A km w w := ⟨rfl, rfl, rfl, Nat.le_refl _, fun _ h _ => ⟨rfl, h⟩⟩
theorem KeptS.trans {A : Blks} {km : Nat} {a b c : World} (h : KeptS A km a b) (g : KeptS A km b c) : KeptS A km a c :=
  ⟨g.os.trans h.os, g.tape.trans h.tape, g.output.trans h.output, Nat.le_trans h.size g.size, fun k hk hn => ⟨(g.same k (h.same k hk hn).2 hn).1.trans (h.same k hk hn).1, (g.same k (h.same k hk hn).2 hn).2⟩⟩
theorem Kept.space {A : Blks} {w w' : World} (h : Kept A w w') (km : Nat) : KeptS A km w w' := ⟨h.os, h.tape, h.output, h.size, fun k hk _ => h.same k hk⟩
theorem SpOk.below {w w' : World} {B S km : Nat} {A : Blks} {Mo : Nat} {σ : Sg} (h : SpOk w B S km A Mo σ) (hb : Below w.heap.size w w') : SpOk w' B S km A Mo σ := ⟨h.sp.below hb, h.ok⟩
theorem SpOk.kept {w w' : World} {B S km : Nat} {A : Blks} {Mo : Nat} {σ : Sg} (h : SpOk w B S km A Mo σ) (hb : Below w.heap.size w w') : KeptS A km w w' := (Kept.of_below h.sp.ar.a_lt hb).space km
/-- What a call on a space comes to: F's node, or no room. -/
def SpRes (w : World) (B S km : Nat) (A : Blks) (Mo : Nat) (σ : Sg) (F : Fun) (k m : Nat) (e : Ending) (w' : World) : Prop :=
  KeptS A km w w' ∧ ((e = .returned (.tuple #[.int .i64 0, .int .i64 3]) ∧ Mo < σ.H.length + m ∧ ∃ τ, SpOk w' B S km A Mo τ ∧ To k m σ τ) ∨
    ∃ (r : Nat) (τ : Sg), e = .returned (.tuple #[.int .i64 r, .int .i64 0]) ∧ SpOk w' B S km A Mo τ ∧ To k m σ τ ∧ Den τ r F)
theorem SpOk.op' {w : World} {B S km : Nat} {A : Blks} {Mo : Nat} {σ : Sg} (h : SpOk w B S km A Mo σ) {T : Nat → List Nd → Prop} {e : Ending} {w' : World} {F : Fun} {k m : Nat} (ho : OpRes w B A 208 Mo σ.H σ.G T e w')
    (hT : ∀ r N', T r N' → (Ext σ.N N' ∧ ∀ s, ev N' s r = F s) ∧ N'.length ≤ σ.N.length + k ∧ (newL N' σ.H r).length ≤ m) (hF : Hangs F 0 208) : SpRes w B S km A Mo σ F k m e w' := by
  obtain ⟨r, N', w1, t, wf', rlt, hk, hgv⟩ := ho
  obtain ⟨⟨aext, asem⟩, g1, g2⟩ := hT r N' t
  have hcl := h.ok.cl.ext aext fun i hi => (h.ok.hok.2 i hi).2
  have hhok := ext_ok aext h.ok.hok
  have hgd : ∀ g ∈ σ.G, g < N'.length ∧ (g < 2 ∨ g ∈ σ.H) ∧ Hangs (fun s => ev N' s g) 0 208 := fun g hg => by
    obtain ⟨p1, p2, p3⟩ := h.ok.g g hg
    refine ⟨Nat.lt_of_lt_of_le p1 aext.len, p2, ?_⟩
    rw [show (fun s => ev N' s g) = fun s => ev σ.N s g from funext fun s => aext.ev h.ok.wf wf' s p1]
    exact p3
  have hkd : ∀ p ∈ σ.K, ∃ g ∈ σ.G, p.1 = .int .i64 (g : Int) ∧ (p.2 = .int .i64 1 ∨ p.2 = .int .i64 2 ∧ IsSet N' g) := fun p hp => by
    obtain ⟨g, q1, q2, q3⟩ := h.ok.k p hp
    refine ⟨g, q1, q2, q3.imp id fun q => ⟨q.1, ?_⟩⟩
    unfold IsSet
    rw [show (fun s => ev N' s g) = fun s => ev σ.N s g from funext fun s => aext.ev h.ok.wf wf' s (h.ok.g g q1).1]
    exact q.2
  have hle : ∀ {H' G'} {w'' : World}, ArAt w'' B A 208 Mo N' H' G' → N'.length ≤ 2147483647 := fun ha => by obtain ⟨_, x⟩ := ha; exact x.le
  rcases hgv with ⟨f1, rfl, ha, hk2⟩ | ⟨f1, rfl, ha, hk2⟩
  · refine ⟨(hk.trans hk2).space km, .inl ⟨rfl, by omega, ⟨N', σ.H, σ.G, σ.K⟩, ⟨h.sp.step ha (hk.trans hk2), wf', hhok, hcl, hgd, h.ok.g0, h.ok.g1, hkd, h.ok.mo, hle ha⟩, aext, g1, Nat.le_add_right _ _, fun _ x => x, fun _ x => x⟩⟩
  · obtain ⟨c1, c2⟩ := newL_cl wf' hcl rlt
    have hG : ∀ g ∈ σ.G, g ∈ addL σ.G r := fun g hg => by unfold addL; split; exact hg; exact List.mem_append_left _ hg
    have hr : r ∈ addL σ.G r := by unfold addL; split; assumption; simp
    have hG2 : ∀ g ∈ addL σ.G r, g ∈ σ.G ∨ g = r := fun g hg => by
      unfold addL at hg
      split at hg
      · exact .inl hg
      · simpa using hg
    refine ⟨(hk.trans hk2).space km, .inr ⟨r, ⟨N', σ.H ++ newL N' σ.H r, addL σ.G r, σ.K⟩, rfl, ⟨h.sp.step ha (hk.trans hk2), wf', ⟨?_, fun i hi => ?_⟩, c1, fun g hg => ?_, hG 0 h.ok.g0, hG 1 h.ok.g1, fun p hp => ?_, by simpa using f1, hle ha⟩, ⟨aext, g1, by simp; omega, hG, fun _ x => List.mem_append_left _ x⟩, hr, asem⟩⟩
    · exact List.nodup_append.2 ⟨hhok.1, (newL_ok wf' σ.H rlt).1, fun x hx y hy e => newL_off N' σ.H r y hy (e ▸ hx)⟩
    · rcases List.mem_append.1 hi with hi | hi
      · exact hhok.2 i hi
      · exact (newL_ok wf' σ.H rlt).2 i hi
    · rcases hG2 g hg with hg | rfl
      · obtain ⟨p1, p2, p3⟩ := hgd g hg
        exact ⟨p1, p2.imp id fun x => List.mem_append_left _ x, p3⟩
      · refine ⟨rlt, ?_, ?_⟩
        · rcases Nat.lt_or_ge g 2 with x | x
          · exact .inl x
          · exact .inr (c2 x)
        · show Hangs (fun s => ev N' s g) 0 208
          rw [show (fun s => ev N' s g) = F from funext asem]
          exact hF
    · obtain ⟨g, q1, q2⟩ := hkd p hp
      exact ⟨g, hG g q1, q2⟩
theorem SpOk.op {w : World} {B S km : Nat} {A : Blks} {Mo : Nat} {σ : Sg} (h : SpOk w B S km A Mo σ) {T : Nat → List Nd → Prop} {e : Ending} {w' : World} {F : Fun} {k m : Nat} (ho : OpRes w B A 208 Mo σ.H σ.G T e w')
    (hT : ∀ r N', T r N' → Ans σ.N F r N') (hF : Hangs F 0 208) (hg : Grow σ.N σ.H F k m) : SpRes w B S km A Mo σ F k m e w' :=
  h.op' ho (fun r N' t => ⟨⟨(hT r N' t).ext, (hT r N' t).sem⟩, hg r N' (hT r N' t).ext (hT r N' t).wf (hT r N' t).lt (hT r N' t).sem (hT r N' t).new⟩) hF
section
variable {w : World} {B S km : Nat} {A : Blks} {Mo : Nat} {σ : Sg}
theorem SpRes.form {F : Fun} {k m : Nat} {e : Ending} {w' : World} (h : SpRes w B S km A Mo σ F k m e w') : ∃ q c : Int, e = .returned (.tuple #[.int .i64 q, .int .i64 c]) := by
  rcases h.2 with ⟨rfl, _⟩ | ⟨_, _, rfl, _⟩
  · exact ⟨_, _, rfl⟩
  · exact ⟨_, _, rfl⟩
theorem Ans.same {N N' : List Nd} {F G : Fun} {r : Nat} (a : Ans N F r N') (h : ∀ s, F s = G s) : Ans N G r N' := ⟨a.ext, a.wf, a.lt, fun s => (a.sem s).trans (h s), a.new⟩
theorem MkTo.ans {N N' : List Nd} {v lo hi r : Nat} (m : MkTo N v lo hi r N') (h : WF N) (hlo : lo < N.length) (hhi : hi < N.length) (hvl : v < (nd N lo).v) (hvh : v < (nd N hi).v) : Ans N (fun s => if s v then ev N s hi else ev N s lo) r N' := by
  obtain ⟨a, b, c, d⟩ := m.good h hlo hhi hvl hvh
  refine ⟨a, b, c, d, fun i h1 h2 => ?_⟩
  rcases m with ⟨rfl, rfl, rfl⟩ | ⟨hne, _, hr, hn, rfl⟩ | ⟨hne, hnew, rfl, rfl⟩
  · omega
  · omega
  · have : i = N.length := by simp at h2; omega
    rw [this]
    exact .refl _
theorem SpOk.var (h : SpOk w B S km A Mo σ) (i : Nat) (hi : i < 208) (hl : σ.N.length + 1 ≤ 2147483647) :
    Calls Tryz.prog 131 #[.pointer (some ⟨A.a, 0, none⟩), .int .i64 i] w (SpRes w B S km A Mo σ (fun s => s i) 1 1) := by
  have two := h.ok.wf.two
  have e0 : (nd σ.N 0).v = 256 := by rw [h.ok.wf.ends 0 (by omega)]
  have e1 : (nd σ.N 1).v = 256 := by rw [h.ok.wf.ends 1 (by omega)]
  have hgr := (Den.one h.ok).step (Den.zero h.ok) h.ok hi (Hangs.const true _ _) (Hangs.const false _ _)
  rw [show (fun s : Nat → Bool => if s i then true else false) = fun s => s i from funext fun s => by cases s i <;> rfl] at hgr
  refine (Var_any i h.sp.ar hi (by omega) h.ok.hok fun r N' m => ?_).mono fun e w' ho => h.op ho (fun r N' m => ?_) ((Hangs.var i).mono (by omega) (by omega)) hgr
  · rcases m with ⟨_, _, rfl⟩ | ⟨_, _, _, _, rfl⟩ | ⟨_, _, _, rfl⟩
    · omega
    · omega
    · simpa using hl
  · exact (m.ans h.ok.wf (by omega) (by omega) (by omega) (by omega)).same fun s => by rw [ev_zero, ev_one]; cases s i <;> rfl
theorem SpOk.ite (h : SpOk w B S km A Mo σ) {f g k : Nat} {F G K : Fun} (hf : Den σ f F) (hg : Den σ g G) (hk : Den σ k K) {a b : Nat} (hgr : Grow σ.N σ.H (fun s => if F s then G s else K s) a b) (hl : σ.N.length + a ≤ 2147483647) :
    Calls Tryz.prog 91 #[.pointer (some ⟨A.a, 0, none⟩), .int .i64 f, .int .i64 g, .int .i64 k] w (SpRes w B S km A Mo σ (fun s => if F s then G s else K s) a b) := by
  have e : (fun s => if ev σ.N s f then ev σ.N s g else ev σ.N s k) = fun s => if F s then G s else K s := funext fun s => by rw [hf.2, hg.2, hk.2]
  have hgr' := hgr
  rw [← e] at hgr'
  refine (Ite_any f g k h.sp.ar ⟨hf.1, (h.ok.g f hf.1).1⟩ ⟨hg.1, (h.ok.g g hg.1).1⟩ ⟨hk.1, (h.ok.g k hk.1).1⟩ h.ok.hok (hgr'.cap hl)).mono fun e' w' ho => h.op ho (fun r N' t => ?_) ((hf.hangs h.ok).op (fun x y z => if x then y else z) (hg.hangs h.ok) (hk.hangs h.ok)) hgr
  exact t.ans.same fun s => congrFun e s
theorem SpOk.not (h : SpOk w B S km A Mo σ) {f : Nat} {F : Fun} (hf : Den σ f F) {a b : Nat} (hgr : Grow σ.N σ.H (fun s => !F s) a b) (hl : σ.N.length + a ≤ 2147483647) :
    Calls Tryz.prog 132 #[.pointer (some ⟨A.a, 0, none⟩), .int .i64 f] w (SpRes w B S km A Mo σ (fun s => !F s) a b) := by
  have e : (fun s => if ev σ.N s f then ev σ.N s 0 else ev σ.N s 1) = fun s => !F s := funext fun s => by rw [hf.2, ev_zero, ev_one]; cases F s <;> rfl
  have hgr' := hgr
  rw [← e] at hgr'
  refine (Not_any f h.sp.ar ⟨hf.1, (h.ok.g f hf.1).1⟩ h.ok.g0 h.ok.g1 h.ok.hok (hgr'.cap hl)).mono fun e' w' ho => h.op ho (fun r N' t => ?_) ((hf.hangs h.ok).op1 (fun x => !x)) hgr
  exact t.ans.same fun s => congrFun e s
theorem SpOk.and (h : SpOk w B S km A Mo σ) {f g : Nat} {F G : Fun} (hf : Den σ f F) (hg : Den σ g G) {a b : Nat} (hgr : Grow σ.N σ.H (fun s => F s && G s) a b) (hl : σ.N.length + a ≤ 2147483647) :
    Calls Tryz.prog 101 #[.pointer (some ⟨A.a, 0, none⟩), .int .i64 f, .int .i64 g] w (SpRes w B S km A Mo σ (fun s => F s && G s) a b) := by
  have e : (fun s => if ev σ.N s f then ev σ.N s g else ev σ.N s 0) = fun s => F s && G s := funext fun s => by rw [hf.2, hg.2, ev_zero]; cases F s <;> rfl
  have hgr' := hgr
  rw [← e] at hgr'
  refine (And_any f g h.sp.ar ⟨hf.1, (h.ok.g f hf.1).1⟩ ⟨hg.1, (h.ok.g g hg.1).1⟩ h.ok.g0 h.ok.hok (hgr'.cap hl)).mono fun e' w' ho => h.op ho (fun r N' t => ?_) ((hf.hangs h.ok).op2 (fun x y => x && y) (hg.hangs h.ok)) hgr
  exact t.ans.same fun s => congrFun e s
theorem SpOk.or (h : SpOk w B S km A Mo σ) {f g : Nat} {F G : Fun} (hf : Den σ f F) (hg : Den σ g G) {a b : Nat} (hgr : Grow σ.N σ.H (fun s => F s || G s) a b) (hl : σ.N.length + a ≤ 2147483647) :
    Calls Tryz.prog 92 #[.pointer (some ⟨A.a, 0, none⟩), .int .i64 f, .int .i64 g] w (SpRes w B S km A Mo σ (fun s => F s || G s) a b) := by
  have e : (fun s => if ev σ.N s f then ev σ.N s 1 else ev σ.N s g) = fun s => F s || G s := funext fun s => by rw [hf.2, hg.2, ev_one]; cases F s <;> rfl
  have hgr' := hgr
  rw [← e] at hgr'
  refine (Or_any f g h.sp.ar ⟨hf.1, (h.ok.g f hf.1).1⟩ ⟨hg.1, (h.ok.g g hg.1).1⟩ h.ok.g1 h.ok.hok (hgr'.cap hl)).mono fun e' w' ho => h.op ho (fun r N' t => ?_) ((hf.hangs h.ok).op2 (fun x y => x || y) (hg.hangs h.ok)) hgr
  exact t.ans.same fun s => congrFun e s
end
end Go.Proofs.YtehpkpjgkmbngaaGreat

/-
  A number's bits laid in a space.
-/
namespace Go.Proofs.YtehpkpjgkmbngaaGreat
open Go Go.RowKit Go.ChangeMaps Go.MapKept Go.Maps Go.Lib Go.Sort

def litF (x : Nat) (b : Bool) (F : Fun) : Fun := fun s => (s x == b) && F s
/-- The last m bits of a field's n, read from the last one up, are v's. -/
def bitsF (a o n v : Nat) : Nat → Fun
  | 0 => fun _ => true
  | m + 1 => litF (2 * (a + (n - 1 - m)) + o) (v.testBit m) (bitsF a o n v m)
theorem Hangs.lit {F : Fun} {x a b : Nat} (c : Bool) (h : Hangs F a b) (h1 : x ≤ a) (h2 : x < b) : Hangs (litF x c F) x b := fun s t e => by
  unfold litF
  rw [e x (Nat.le_refl _) h2, h s t fun u h3 h4 => e u (by omega) h4]
theorem bitsF_hangs (a o n v : Nat) (ho : o < 2) : ∀ m, m ≤ n → Hangs (bitsF a o n v m) (2 * (a + (n - m)) + o) (2 * (a + n) + o)
  | 0, _ => Hangs.const true _ _
  | m + 1, hm => by
    have := bitsF_hangs a o n v ho m (by omega)
    rw [show n - (m + 1) = n - 1 - m from by omega]
    exact this.lit _ (by omega) (by omega)
theorem SpRes.after {w w1 w' : World} {B S km : Nat} {A : Blks} {Mo : Nat} {σ τ : Sg} {F : Fun} {k m k' m' : Nat} {e : Ending} (t : To k m σ τ) (hk : KeptS A km w w1) (h : SpRes w1 B S km A Mo τ F k' m' e w') : SpRes w B S km A Mo σ F (k + k') (m + m') e w' := by
  refine ⟨hk.trans h.1, ?_⟩
  rcases h.2 with ⟨h1, h2, τ', h3, h4⟩ | ⟨r, τ', h1, h2, h3, h4⟩
  · exact .inl ⟨h1, by have := t.hl; omega, τ', h3, t.trans h4⟩
  · exact .inr ⟨r, τ', h1, h2, t.trans h3, h4⟩
theorem SpRes.mono {w w' : World} {B S km : Nat} {A : Blks} {Mo : Nat} {σ : Sg} {F : Fun} {k m k' m' : Nat} {e : Ending} (h : SpRes w B S km A Mo σ F k m e w') (hk : k ≤ k') (hm : m ≤ m') : SpRes w B S km A Mo σ F k' m' e w' := by
  refine ⟨h.1, ?_⟩
  rcases h.2 with ⟨h1, h2, τ', h3, h4⟩ | ⟨r, τ', h1, h2, h3, h4⟩
  · exact .inl ⟨h1, by omega, τ', h3, h4.mono hk hm⟩
  · exact .inr ⟨r, τ', h1, h2, h3.mono hk hm, h4⟩
/-- No room: whatever was asked. -/
theorem SpRes.full {w w' : World} {B S km : Nat} {A : Blks} {Mo : Nat} {σ τ : Sg} {F : Fun} {k m : Nat} {e : Ending} (hk : KeptS A km w w') (h1 : e = .returned (.tuple #[.int .i64 0, .int .i64 3])) (h2 : Mo < σ.H.length + m) (h3 : SpOk w' B S km A Mo τ) (h4 : To k m σ τ) : SpRes w B S km A Mo σ F k m e w' :=
  ⟨hk, .inl ⟨h1, h2, τ, h3, h4⟩⟩
theorem Den.lit {Mo : Nat} {σ : Sg} {g x : Nat} {F : Fun} (a : Den σ g F) (o : SgOk Mo σ) (hx : x < 208) (hF : Hangs F (x + 1) 256) (b : Bool) : Grow σ.N σ.H (litF x b F) 1 1 := by
  cases b
  · have := (Den.zero o).step a o hx (Hangs.const false _ _) hF
    rw [show (fun s : Nat → Bool => if s x then false else F s) = litF x false F from funext fun s => by unfold litF; cases s x <;> rfl] at this
    exact this
  · have := a.step (Den.zero o) o hx hF (Hangs.const false _ _)
    rw [show (fun s : Nat → Bool => if s x then F s else false) = litF x true F from funext fun s => by unfold litF; cases s x <;> rfl] at this
    exact this
theorem Den.notvar {Mo : Nat} {σ : Sg} {x : Nat} (o : SgOk Mo σ) (hx : x < 208) : Grow σ.N σ.H (fun s => !s x) 1 1 := by
  have := (Den.zero o).step (Den.one o) o hx (Hangs.const false _ _) (Hangs.const true _ _)
  rw [show (fun s : Nat → Bool => if s x then false else true) = fun s => !s x from funext fun s => by cases s x <;> rfl] at this
  exact this
set_option maxHeartbeats 400000 in
theorem now_any (i : Nat) (w : World) (hi : i < 1000) : Calls Tryz.prog 113 #[.int .i64 i] w fun e w' => e = .returned (.int .i64 ((2 * i + 0 : Nat) : Int)) ∧ w' = w := by
  go_enter Tryz.func113, Tryz.ntmps113
  go_wp2
  go_ret
  exact ⟨by go_num, rfl⟩
/-- A function of bits: the bit's variable. -/
structure VarF (vf : FuncId) (o : Nat) : Prop where
  o2 : o < 2
  en : ∀ (args : Array Value) (w : World), (callFunc vf args).run Tryz.prog w = .ok (.enter vf args) w
  calls : ∀ (i : Nat) (w : World), i < 1000 → Calls Tryz.prog vf #[.int .i64 i] w fun e w' => e = .returned (.int .i64 ((2 * i + o : Nat) : Int)) ∧ w' = w
theorem nowF : VarF 113 0 := ⟨by omega, fun _ _ => by go_simp, now_any⟩
theorem bit_u64 (v m : Nat) (hv : v < 4294967296) : bits .and .u64 ((v : Int) / 2 ^ m) 1 = if v.testBit m then 1 else 0 := by
  have e : ((v : Int) / 2 ^ m) = ((v / 2 ^ m : Nat) : Int) := by
    simp
  have hlt : v / 2 ^ m ≤ v := Nat.div_le_self _ _
  rw [e, show (1 : Int) = ((1 : Nat) : Int) from rfl, u64_and_nat _ _ (by omega) (by omega), Nat.and_one_is_mod, Nat.testBit_eq_decide_div_mod_eq]
  have : v / 2 ^ m % 2 = 0 ∨ v / 2 ^ m % 2 = 1 := by omega
  rcases this with h | h <;> simp [h]
theorem SpRes.two {w w' : World} {B S km : Nat} {A : Blks} {Mo : Nat} {σ : Sg} {F : Fun} {k m : Nat} {q c : Int} (h : SpRes w B S km A Mo σ F k m (.returned (.tuple #[.int .i64 q, .int .i64 c])) w') :
    (q = 0 ∧ c = 3 ∧ Mo < σ.H.length + m ∧ ∃ τ, SpOk w' B S km A Mo τ ∧ To k m σ τ) ∨ ∃ (r : Nat) (τ : Sg), q = r ∧ c = 0 ∧ SpOk w' B S km A Mo τ ∧ To k m σ τ ∧ Den τ r F := by
  rcases h.2 with ⟨h1, h2⟩ | ⟨r, τ, h1, h2⟩
  · injection h1 with h1
    simp at h1
    exact .inl ⟨h1.1, h1.2, h2⟩
  · injection h1 with h1
    simp at h1
    exact .inr ⟨r, τ, h1.1, h1.2, h2⟩
theorem SpRes.c0 {w w' : World} {B S km : Nat} {A : Blks} {Mo : Nat} {σ : Sg} {F : Fun} {k m : Nat} {e : Ending} (h : SpRes w B S km A Mo σ F k m e w') : w'.cell? ⟨S, 0, none⟩ = some (.pointer (some ⟨A.a, 0, none⟩)) := by
  rcases h.2 with ⟨_, _, _, h, _⟩ | ⟨_, _, _, h, _⟩ <;> exact h.sp.c0
set_option maxRecDepth 100000 in
set_option maxHeartbeats 2000000 in
theorem bits_any {w : World} {B S km : Nat} {A : Blks} {Mo : Nat} {σ : Sg} (h : SpOk w B S km A Mo σ) {vf : FuncId} {o : Nat} (V : VarF vf o) (a n v : Nat) (hn : a + n ≤ 104) (hn32 : n ≤ 32) (hv : v < 4294967296) (hl : σ.N.length + 3 * n ≤ 2147483647) :
    Calls Tryz.prog 111 #[.pointer (some ⟨S, 0, none⟩), .int .i64 a, .int .i64 n, .int .u64 v, .func (.func vf) #[] #[]] w (SpRes w B S km A Mo σ (bitsF a o n v n) (3 * n) (3 * n)) := by
  have HS := Lib.hid h
  have hen := V.en
  have HV := Lib.hid V
  have hn1 : (n : Int) ≤ 104 := by omega
  have ha1 : (a : Int) ≤ 104 := by omega
  clear h V
  go_enter Tryz.func111, Tryz.ntmps111
  go_wp2
  go_loopw [12, 13] (fun f i wr => ∃ m : Nat, m ≤ n ∧ i = .int .i64 ((n : Int) - 1 - m) ∧ ∃ (r : Nat) (τ : Sg), f = .int .i64 r ∧ Hid (SpOk wr B S km A Mo τ) ∧ Hid (To (3 * m) (3 * m) σ τ) ∧ Hid (Den τ r (bitsF a o n v m)) ∧ Hid (KeptS A km w wr)) (fun _ i _ => (intOf i + 1).toNat)
  case atStart => exact ⟨0, by omega, by simp, 1, σ, rfl, HS, Lib.hid (To.refl σ), Lib.hid (Den.one HS.out.ok), Lib.hid (KeptS.refl _ _ _)⟩
  case round =>
    obtain ⟨m, hm, rfl, r, τ, rfl, HS1, HT1, HD1, HK1⟩ := hrel
    by_cases hlt : m < n
    · have hI : (n : Int) - 1 - m ≥ 0 := by omega
      have c0 := HS1.out.sp.c0
      obtain ⟨x, hx⟩ : ∃ x, x = 2 * (a + (n - 1 - m)) + o := ⟨_, rfl⟩
      have hxi : ((a + (n - 1 - m) : Nat) : Int) = (a : Int) + ((n : Int) - 1 - m) := by omega
      have ho := HV.out.o2
      have HN := Lib.hid (show ∀ W, Calls Tryz.prog vf #[.int .i64 ((a : Int) + ((n : Int) - 1 - m))] W (fun e w' => e = .returned (.int .i64 (x : Int)) ∧ w' = W) from fun W => by
        have := HV.out.calls (a + (n - 1 - m)) W (by omega)
        rw [hxi, ← hx] at this
        exact this)
      have hwd : Below wr.heap.size wr wr.drew := ⟨rfl, rfl, rfl, Nat.le_refl _, fun _ _ => rfl⟩
      have HSD := Lib.hid (HS1.out.below hwd)
      have HKD := Lib.hid (HK1.out.trans (HS1.out.kept hwd))
      have hnl := HT1.out.nl
      have hvar := Lib.hid (HSD.out.var x (by omega) (by omega))
      have hw1 : IntKind.i64.wrap ((a : Int) + ((n : Int) - 1 - m)) = (a : Int) + ((n : Int) - 1 - m) := IntWalk.i64_in _ (by omega)
      have HX := Lib.hid hx
      clear hxi hnl hwd ho hx
      go_upto_region 5 with fail
      go_region_held3 (fun w' => w'.cell? ⟨S, 0, none⟩ = some (.pointer (some ⟨A.a, 0, none⟩))) (first | exact hcs | go_keep) ((first
        | ((with_reducible refine (HN.out _).mono ?_); rintro e _ ⟨rfl, rfl⟩)
        | ((with_reducible refine hvar.out.mono ?_); rintro e W5 hr5; obtain ⟨q5, c5, he5⟩ := hr5.form; have HR5 := Lib.hid hr5; subst he5; have hcs : W5.cell? ⟨S, 0, none⟩ = some (.pointer (some ⟨A.a, 0, none⟩)) := hr5.c0; clear hr5)))
      have hfin5 := HR5.out.two
      clear hcs
      rcases hfin5 with ⟨rfl, rfl, hlt5, τ5, hs5, ht5⟩ | ⟨r5, τ5, rfl, rfl, hs5, ht5, hd5⟩
      · have HFIN := Lib.hid (SpRes.full (F := bitsF a o n v n) (HKD.out.trans HR5.out.1) rfl (by have := HT1.out.hl; omega) hs5 ((HT1.out.trans ht5).mono (show 3 * m + 1 ≤ 3 * n by omega) (show 3 * m + 1 ≤ 3 * n by omega)))
        clear hlt5 hs5 ht5
        go_wp2
        go_ret2
        exact HFIN.out
      · have HS5 := Lib.hid hs5
        have HT5 := Lib.hid (HT1.out.trans ht5)
        have HD5 := Lib.hid hd5
        have HK5 := Lib.hid (HKD.out.trans HR5.out.1)
        have c5 := hs5.sp.c0
        have HD5r := Lib.hid (HD1.out.to ht5 HS1.out.ok hs5.ok)
        clear hs5 ht5 hd5 HR5 hvar HN
        have hsh : (n : Int) - 1 - ((n : Int) - 1 - m) = m := by omega
        have hn5 := HT5.out.nl
        have hh5 := HT5.out.hl
        have hxl : x < 208 := by have := HX.out; have := HV.out.o2; omega
        have HLF : Hid (∀ (W : World) (q : Nat) (τ6 : Sg) (k : Nat), k ≤ 1 → SpOk W B S km A Mo τ6 → To k k τ5 τ6 → KeptS A km w W → Den τ6 q (fun s => s x == v.testBit m) → Calls Tryz.prog 101 #[.pointer (some ⟨A.a, 0, none⟩), .int .i64 q, .int .i64 r] W (fun e w' => ∃ Q C : Int, e = .returned (.tuple #[.int .i64 Q, .int .i64 C]) ∧ ((Q = 0 ∧ C = 3 ∧ SpRes w B S km A Mo σ (bitsF a o n v n) (3 * n) (3 * n) e w') ∨
            ∃ (r' : Nat) (τ' : Sg), Q = r' ∧ C = 0 ∧ SpOk w' B S km A Mo τ' ∧ To (3 * (m + 1)) (3 * (m + 1)) σ τ' ∧ Den τ' r' (bitsF a o n v (m + 1)) ∧ KeptS A km w w'))) := Lib.hid (by
          intro W q τ6 k hk h6 t6 k6 d6
          have hrd := HD5r.out.to t6 HS5.out.ok h6.ok
          have hgr := hrd.lit h6.ok hxl ((bitsF_hangs a o n v HV.out.o2 m hm).mono (show x + 1 ≤ 2 * (a + (n - m)) + o by have := HX.out; omega) (by have := HV.out.o2; omega)) (v.testBit m)
          have n6 := t6.nl
          have l6 := t6.hl
          have t7 := HT5.out.trans t6
          refine (h6.and d6 hrd (a := 1) (b := 1) hgr (by omega)).mono fun e w' hr => ?_
          obtain ⟨Q, C, rfl⟩ := hr.form
          refine ⟨Q, C, rfl, ?_⟩
          rcases hr.two with ⟨h1, h2, h3, τ', h4, h5⟩ | ⟨r', τ', h1, h2, h4, h5, h6⟩
          · subst h1 h2
            exact .inl ⟨rfl, rfl, SpRes.full (k6.trans hr.1) rfl (by omega) h4 ((t7.trans h5).mono (by omega) (by omega))⟩
          · refine .inr ⟨r', τ', h1, h2, h4, (t7.trans h5).mono (by omega) (by omega), ?_, k6.trans hr.1⟩
            have : bitsF a o n v (m + 1) = fun s => (s x == v.testBit m) && bitsF a o n v m s := by rw [HX.out]; rfl
            rw [this]
            exact h6)
        clear hn5 hh5 hxl HD5r
        cases hb : v.testBit m with
        | false =>
          have hbit : bits .and .u64 ((v : Int) / 2 ^ m) 1 = 0 := by rw [bit_u64 v m hv, hb]; rfl
          have hnot := Lib.hid (HS5.out.not HD5.out (a := 1) (b := 1) (Den.notvar HS5.out.ok (by have := HX.out; have := HV.out.o2; omega)) (by have := HT5.out.nl; omega))
          rw [hb] at HLF
          clear hb
          go_upto_region 10 with ((with_reducible refine hnot.out.mono ?_); rintro e W6 hr6; obtain ⟨q6, c6, he6⟩ := hr6.form; subst he6; have HR6 := Lib.hid hr6; clear hr6)
          rcases HR6.out.two with ⟨rfl, rfl, hlt6, τ6, hs6, ht6⟩ | ⟨r6, τ6, rfl, rfl, hs6, ht6, hd6⟩
          · have HFIN := Lib.hid (SpRes.full (F := bitsF a o n v n) (HK5.out.trans HR6.out.1) rfl (by have := HT5.out.hl; omega) hs6 ((HT5.out.trans ht6).mono (show 3 * m + 1 + 1 ≤ 3 * n by omega) (show 3 * m + 1 + 1 ≤ 3 * n by omega)))
            clear hlt6 hs6 ht6
            go_wp2
            go_ret2
            exact HFIN.out
          · have c6 := hs6.sp.c0
            have HAND := Lib.hid (HLF.out W6 r6 τ6 1 (by omega) hs6 ht6 (HK5.out.trans HR6.out.1) (by
              refine ⟨hd6.1, fun s => (hd6.2 s).trans ?_⟩
              show (!s x) = (s x == false)
              cases s x <;> rfl))
            clear hs6 ht6 hd6 HR6 hnot HLF c5
            go_upto_region 13 with ((with_reducible refine HAND.out.mono ?_); rintro e W7 ⟨q7, c7, he7, hr7⟩; subst he7; have HR7 := Lib.hid hr7; clear hr7)
            rcases HR7.out with ⟨rfl, rfl, hr⟩ | ⟨r7, τ7, rfl, rfl, hs7, ht7, hd7, hk7⟩
            · have HFIN := Lib.hid hr
              clear hr HR7
              go_wp2
              go_ret2
              exact HFIN.out
            · have HS7 := Lib.hid hs7
              have HT7 := Lib.hid ht7
              have HD7 := Lib.hid hd7
              have HK7 := Lib.hid hk7
              clear hs7 ht7 hd7 hk7 HR7 HAND
              go_wp2
              exact ⟨⟨m + 1, by omega, by go_num, r7, τ7, rfl, HS7, HT7, HD7, HK7⟩, by simp only [intOf]; omega⟩
        | true =>
          have hbit : bits .and .u64 ((v : Int) / 2 ^ m) 1 = 1 := by rw [bit_u64 v m hv, hb]; rfl
          rw [hb] at HLF
          have HAND := Lib.hid (HLF.out W5 r5 τ5 0 (by omega) HS5.out (To.refl _) HK5.out (by
              refine ⟨HD5.out.1, fun s => (HD5.out.2 s).trans ?_⟩
              show s x = (s x == true)
              cases s x <;> rfl))
          clear HLF hb
          go_upto_region 13 with ((with_reducible refine HAND.out.mono ?_); rintro e W7 ⟨q7, c7, he7, hr7⟩; subst he7; have HR7 := Lib.hid hr7; clear hr7)
          rcases HR7.out with ⟨rfl, rfl, hr⟩ | ⟨r7, τ7, rfl, rfl, hs7, ht7, hd7, hk7⟩
          · have HFIN := Lib.hid hr
            clear hr HR7
            go_wp2
            go_ret2
            exact HFIN.out
          · have HS7 := Lib.hid hs7
            have HT7 := Lib.hid ht7
            have HD7 := Lib.hid hd7
            have HK7 := Lib.hid hk7
            clear hs7 ht7 hd7 hk7 HR7 HAND
            go_wp2
            exact ⟨⟨m + 1, by omega, by go_num, r7, τ7, rfl, HS7, HT7, HD7, HK7⟩, by simp only [intOf]; omega⟩
    · obtain rfl : m = n := by omega
      have hI : ¬ (m : Int) - 1 - m ≥ 0 := by omega
      have HFIN : Hid (SpRes w B S km A Mo σ (bitsF a o m v m) (3 * m) (3 * m) (.returned (.tuple #[.int .i64 r, .int .i64 0])) wr) := Lib.hid ⟨HK1.out, .inr ⟨r, τ, rfl, HS1.out, HT1.out, HD1.out⟩⟩
      go_wp2
      go_ret2
      exact HFIN.out
end Go.Proofs.YtehpkpjgkmbngaaGreat

/-
  Diagrams, plain: how many nodes stand ahead of nodes that are held already. No program in sight.
-/
namespace Go.Proofs.YtehpkpjgkmbngaaGreat

/-- Between a node and one beneath it, behind the variable u: a node that is what is left there. -/
theorem Rch.cross {N : List Nd} (w : WF N) {u : Nat} {r i : Nat} (h : Rch N r i) (hr : r < N.length) (hu : u < (nd N i).v) : ∃ j s, Rch N r j ∧ Rch N j i ∧ ∀ t, ev N (mixS (u + 1) s t) r = ev N t j := by
  have here : ∀ r i, Rch N r i → r < N.length → u < (nd N r).v → ∃ j s, Rch N r j ∧ Rch N j i ∧ ∀ t, ev N (mixS (u + 1) s t) r = ev N t j := fun r i h hr hu =>
    ⟨r, fun _ => false, .refl r, h, fun t => ev_agree w r _ _ hr fun v hv => mixS_high _ _ (by omega)⟩
  induction h with
  | refl i => exact here i i (.refl i) hr hu
  | @lo r i a b h ih =>
    rcases Nat.lt_or_ge u (nd N r).v with hv | hv
    · exact here r i (.lo a b h) hr hv
    · have h1 := w.lo _ a b
      have h2 := w.vlo _ a b
      obtain ⟨j, s, j1, j2, hs⟩ := ih (by omega) hu
      refine ⟨j, put s (nd N r).v false, .lo a b j1, j2, fun t => ?_⟩
      rw [ev_node w _ a b, mixS_low _ _ (by omega), put_same, if_neg (by simp), ← hs t]
      refine ev_agree w _ _ _ (by omega) fun v hv => ?_
      unfold mixS
      split
      · exact put_other (by omega)
      · rfl
  | @hi r i a b h ih =>
    rcases Nat.lt_or_ge u (nd N r).v with hv | hv
    · exact here r i (.hi a b h) hr hv
    · have h1 := w.hi _ a b
      have h2 := w.vhi _ a b
      obtain ⟨j, s, j1, j2, hs⟩ := ih (by omega) hu
      refine ⟨j, put s (nd N r).v true, .hi a b j1, j2, fun t => ?_⟩
      rw [ev_node w _ a b, mixS_low _ _ (by omega), put_same, if_pos rfl, ← hs t]
      refine ev_agree w _ _ _ (by omega) fun v hv => ?_
      unfold mixS
      split
      · exact put_other (by omega)
      · rfl
/-- Behind u all that is left has nodes that are held: only the nodes up to u are new. -/
theorem Grow.top {N : List Nd} {H : List Nat} {F : Fun} {u : Nat} (w : WF N) (hH : Cl N H) (hHl : ∀ i ∈ H, i < N.length) (c : Nat → Nat) (hc : ∀ v, v ≤ u → Free F v ∨ CutLe F v (c v))
    (hu : ∀ s, ∃ g, g < N.length ∧ (g < 2 ∨ g ∈ H) ∧ ∀ t, F (mixS (u + 1) s t) = ev N t g) : Grow N H F (sumTo c (u + 1)) (sumTo c (u + 1)) := fun r N' e w' hr hs hn => by
  have hl := e.len
  have old : ∀ i, Rch N' r i → u < (nd N' i).v → i < N.length ∧ (i < 2 ∨ i ∈ H) := fun i hi hui => by
    obtain ⟨j, s, j1, j2, hj⟩ := hi.cross w' hr hui
    obtain ⟨g, g1, g2, g3⟩ := hu s
    have hjl := j1.lt w' hr
    have : j = g := w'.canon (j + g) j g (by omega) (by omega) hjl (by omega) fun t => by rw [← hj t, hs, g3, e.ev w w' t g1]
    subst this
    have hle := j2.le w' hjl
    refine ⟨by omega, ?_⟩
    rcases Nat.lt_or_ge i 2 with i2 | i2
    · exact .inl i2
    · rcases g2 with g2 | g2
      · omega
      · exact .inr ((hH.ext e hHl).rch j2 g2 i2)
  have bound : ∀ l : List Nat, l.Nodup → (∀ i ∈ l, 2 ≤ i ∧ Rch N' r i ∧ (nd N' i).v ≤ u) → l.length ≤ sumTo c (u + 1) := fun l hd hm => by
    refine by_label (fun i => (nd N' i).v) c (u + 1) l (fun i hi => by have := (hm i hi).2.2; show (nd N' i).v < u + 1; omega) fun v hv => ?_
    have hm' : ∀ i ∈ (l.filter fun i => decide ((nd N' i).v = v)), i ∈ l ∧ (nd N' i).v = v := fun i hi => by
      have := List.mem_filter.1 hi
      exact ⟨this.1, by simpa using this.2⟩
    rcases hc v (by omega) with hf | ⟨L, hL, hcc⟩
    · refine Nat.le_trans (Nat.le_of_eq ?_) (Nat.zero_le _)
      rw [List.length_eq_zero_iff, List.eq_nil_iff_forall_not_mem]
      intro i hi
      obtain ⟨h1, h2⟩ := hm' i hi
      refine not_free w' hr (hm i h1).2.1 (hm i h1).1 ?_
      rw [h2, show (fun s => ev N' s r) = F from funext hs]
      exact hf
    · refine Nat.le_trans (inj_len _ L (fun i s => ev N' s i) (hd.filter _) (fun i hi => ?_) fun i hi j hj e => ?_) hL
      · obtain ⟨h1, h2⟩ := hm' i hi
        obtain ⟨s, hs'⟩ := (hm i h1).2.1.path w' hr
        have := hcc s
        rw [show cof F v s = fun t => ev N' t i from funext fun t => by rw [← hs' t, h2]; exact (hs _).symm] at this
        exact this
      · have h1 := hm i (hm' i hi).1
        have h2 := hm j (hm' j hj).1
        have := h1.2.1.lt w' hr
        have := h2.2.1.lt w' hr
        exact w'.canon (i + j) i j (by omega) (by omega) (by omega) (by omega) fun s => congrFun e s
  constructor
  · have hd : ((List.range (N'.length - N.length)).map (· + N.length)).Nodup := by
      refine List.Pairwise.map _ (fun a b h => ?_) List.nodup_range
      omega
    have two := w.two
    have := bound _ hd (fun i hi => by
      simp only [List.mem_map, List.mem_range] at hi
      obtain ⟨a, ha, rfl⟩ := hi
      have hr' := hn (a + N.length) (by omega) (by omega)
      refine ⟨by omega, hr', ?_⟩
      rcases Nat.lt_or_ge u (nd N' (a + N.length)).v with h | h
      · have := (old _ hr' h).1
        omega
      · exact h)
    simp at this
    omega
  · refine bound _ (newL_ok w' H hr).1 fun i hi => ?_
    rcases dfs_rch w' H _ _ _ hr i hi with h | ⟨h2, h⟩
    · cases h
    · refine ⟨h2, h, ?_⟩
      rcases Nat.lt_or_ge u (nd N' i).v with h' | h'
      · rcases (old i h h').2 with h3 | h3
        · omega
        · exact absurd h3 (newL_off N' H r i hi)
      · exact h'
/-- All that is left is false, or one of k. -/
def CutF (F : Fun) (v k : Nat) : Prop := ∃ L : List Fun, L.length ≤ k ∧ ∀ s, cof F v s ∈ (fun _ => false) :: L
theorem CutF.le {F : Fun} {v k : Nat} (h : CutF F v k) : CutLe F v (k + 1) := by
  obtain ⟨L, a, b⟩ := h
  exact ⟨_, by simp; exact a, b⟩
theorem Hangs.aheadF {F : Fun} {a b v : Nat} (h : Hangs F a b) (hv : v ≤ a) : CutF F v 1 := by
  obtain ⟨L, h1, h2⟩ := h.ahead hv
  exact ⟨L, h1, fun s => List.mem_cons_of_mem _ (h2 s)⟩
/-- Two variables ahead of a function that has a node. -/
theorem sumTo_zero (c : Nat → Nat) : ∀ n, (∀ v, v < n → c v = 0) → sumTo c n = 0
  | 0, _ => rfl
  | n + 1, h => by
    show sumTo c n + c n = 0
    rw [sumTo_zero c n fun v hv => h v (by omega), h n (by omega)]
theorem cof_eq {F G : Fun} {v : Nat} {s : Nat → Bool} (h : ∀ t, F (mixS v s t) = G t) : cof F v s = G := funext h
end Go.Proofs.YtehpkpjgkmbngaaGreat

/-
  From each header to those with the same bits, but for those of a part (written by wip/gen/genrb3.py).
-/
namespace Go.Proofs.YtehpkpjgkmbngaaGreat
open Go Go.RowKit Go.ChangeMaps Go.MapKept Go.Maps Go.Lib Go.Sort

theorem sumTo_two (a p q : Nat) : ∀ n, sumTo (fun v => if v = a then p else if v = a + 1 then q else 0) n ≤ (if a < n then p else 0) + (if a + 1 < n then q else 0)
  | 0 => by simp [sumTo]
  | n + 1 => by
    have ih := sumTo_two a p q n
    show sumTo _ n + (if n = a then p else if n = a + 1 then q else 0) ≤ _
    by_cases h1 : n = a
    · subst h1
      rw [if_neg (by omega), if_neg (by omega)] at ih
      rw [if_pos rfl, if_pos (by omega), if_neg (by omega)]
      omega
    · rw [if_neg h1]
      by_cases h2 : n = a + 1
      · subst h2
        rw [if_pos (by omega), if_neg (by omega)] at ih
        rw [if_pos rfl, if_pos (by omega), if_pos (by omega)]
        omega
      · rw [if_neg h2]
        by_cases l1 : a < n
        · by_cases l2 : a + 1 < n
          · rw [if_pos l1, if_pos l2] at ih
            rw [if_pos (by omega), if_pos (by omega)]
            exact ih
          · omega
        · rw [if_neg l1, if_neg (by omega)] at ih
          rw [if_neg (by omega), if_neg (by omega)]
          exact ih
theorem Wid.two {F : Fun} {a p q : Nat} (ha : a + 1 < 256) (h : Hangs F a (a + 2)) (h1 : CutLe F a p) (h2 : CutLe F (a + 1) q) : Wid F (p + q) := by
  refine ⟨_, fun v hv => ?_, Nat.le_trans (sumTo_two a p q 256) (by rw [if_pos (by omega), if_pos ha]; exact Nat.le_refl _)⟩
  by_cases e1 : v = a
  · subst e1
    refine .inr ?_
    simp only [if_true]
    exact h1
  · by_cases e2 : v = a + 1
    · subst e2
      refine .inr ?_
      simp only [e1, if_false, if_true]
      exact h2
    · exact .inl (h.free (by omega))
/-- Two cofactors at the second of two variables. -/
theorem CutLe.second {F : Fun} {a b : Nat} (h : Hangs F a b) : CutLe F (a + 1) 2 := by
  refine ⟨[fun t => F (put t a false), fun t => F (put t a true)], Nat.le_refl _, fun s => ?_⟩
  have e : cof F (a + 1) s = fun t => F (put t a (s a)) := funext fun t => h _ _ fun u h1 h2 => by
    rcases Nat.eq_or_lt_of_le h1 with e | e
    · subst e
      rw [mixS_low _ _ (by omega), put_same]
    · rw [mixS_high _ _ (by omega), put_other (by omega)]
  rw [e]
  cases s a <;> simp
def xorF (a : Nat) : Fun := fun s => s a != s (a + 1)
theorem xorF_hangs (a : Nat) : Hangs (xorF a) a (a + 2) := fun s t e => by
  unfold xorF
  rw [e a (by omega) (by omega), e (a + 1) (by omega) (by omega)]
theorem xorF_wid {a : Nat} (ha : a + 1 < 256) : Wid (xorF a) 3 := Wid.two ha (xorF_hangs a) ((xorF_hangs a).ahead (Nat.le_refl _)) (CutLe.second (xorF_hangs a))
theorem not_wid {a : Nat} (ha : a + 1 < 256) : Wid (fun s => !s a) 1 := (Wid.two (p := 1) (q := 2) ha (((Hangs.var a).op1 (fun x => !x)).mono (by omega) (by omega)) (((Hangs.var a).op1 (fun x => !x)).ahead (by omega)) (((Hangs.var a).op1 (fun x => !x)).behind (by omega))) |> fun h => by
  refine ⟨fun v => if v = a then 1 else 0, fun v hv => ?_, ?_⟩
  · by_cases e : v = a
    · subst e
      refine .inr ?_
      simp only [if_true]
      exact ((Hangs.var v).op1 (fun x => !x)).ahead (Nat.le_refl _)
    · exact .inl (((Hangs.var a).op1 (fun x => !x)).free (by omega))
  · have := sumTo_two a 1 0 256
    simp at this
    split at this <;> omega
/-- The bits i of 2 i and 2 i + 1 are the same, and more. -/
def eqF (a : Nat) (F : Fun) : Fun := fun s => (s a == s (a + 1)) && F s
def sameF (a nb : Nat) : Nat → Fun
  | 0 => fun _ => true
  | m + 1 => if a ≤ 103 - m ∧ 103 - m < a + nb then sameF a nb m else eqF (2 * (103 - m)) (sameF a nb m)
theorem Hangs.eqF {F : Fun} {x a b : Nat} (h : Hangs F a b) (h1 : x + 2 ≤ a) (h2 : x + 2 ≤ b) : Hangs (eqF x F) x b := fun s t e => by
  unfold Go.Proofs.YtehpkpjgkmbngaaGreat.eqF
  rw [e x (by omega) (by omega), e (x + 1) (by omega) (by omega), h s t fun u h3 h4 => e u (by omega) h4]
theorem sameF_hangs (a nb : Nat) : ∀ m, m ≤ 104 → Hangs (sameF a nb m) (2 * (104 - m)) 208
  | 0, _ => Hangs.const true _ _
  | m + 1, hm => by
    have := sameF_hangs a nb m (by omega)
    unfold sameF
    split
    · exact this.mono (by omega) (Nat.le_refl _)
    · exact (this.eqF (x := 2 * (103 - m)) (by omega) (by omega)).mono (by omega) (Nat.le_refl _)
theorem sumTo_pair (a p q : Nat) : sumTo (fun v => if v = a then p else if v = a + 1 then q else 0) (a + 2) ≤ p + q := by
  have := sumTo_two a p q (a + 2)
  rw [if_pos (by omega), if_pos (by omega)] at this
  exact this
/-- Two variables ahead of a node that is held: three nodes more. -/
theorem Den.pair {Mo : Nat} {σ : Sg} {g a : Nat} {F G : Fun} (d : Den σ g F) (o : SgOk Mo σ) (ha : a + 2 ≤ 208) (hG : Hangs G a 208) (hc : ∀ s, (∀ t, G (mixS (a + 1 + 1) s t) = F t) ∨ (∀ t, G (mixS (a + 1 + 1) s t) = false)) : Grow σ.N σ.H G 3 3 := by
  refine (Grow.top (u := a + 1) o.wf o.cl (fun i hi => (o.hok.2 i hi).2) (fun v => if v = a then 1 else if v = a + 1 then 2 else 0) (fun v hv => ?_) fun s => ?_).mono (sumTo_pair a 1 2) (sumTo_pair a 1 2)
  · by_cases e1 : v = a
    · subst e1
      refine .inr ?_
      simp only [if_true]
      exact hG.ahead (Nat.le_refl _)
    · by_cases e2 : v = a + 1
      · subst e2
        refine .inr ?_
        simp only [e1, if_false, if_true]
        exact CutLe.second hG
      · exact .inl (hG.free (by omega))
  · rcases hc s with h | h
    · exact ⟨g, (o.g g d.1).1, (o.g g d.1).2.1, fun t => by rw [h t, d.2]⟩
    · exact ⟨0, by have := o.wf.two; omega, .inl (by omega), fun t => by rw [h t, ev_zero]⟩
theorem Den.eqG {Mo : Nat} {σ : Sg} {g a : Nat} {F : Fun} (d : Den σ g F) (o : SgOk Mo σ) (ha : a + 2 ≤ 208) (hF : Hangs F (a + 2) 208) : Grow σ.N σ.H (eqF a F) 3 3 := by
  refine d.pair o ha (hF.eqF (Nat.le_refl _) ha) fun s => ?_
  have e : ∀ t, eqF a F (mixS (a + 1 + 1) s t) = ((s a == s (a + 1)) && F t) := fun t => by
    unfold eqF
    rw [mixS_low _ _ (by omega), mixS_low _ _ (by omega), hF (mixS (a + 1 + 1) s t) t fun u h1 _ => mixS_high _ _ (by omega)]
  cases hs : (s a == s (a + 1))
  · exact .inr fun t => by rw [e, hs]; rfl
  · exact .inl fun t => by rw [e, hs]; rfl
end Go.Proofs.YtehpkpjgkmbngaaGreat

/-
  Plain lemmas on numbers that the walks of this seat use; no program in sight.
-/
namespace Go.Proofs.YtehpkpjgkmbngaaGreat
open Go.RowKit

/-- Two to the k, as an integer, behind a name. -/
def p2 (k : Nat) : Int := 2 ^ k
theorem p2_zero : p2 0 = 1 := rfl
theorem p2_succ (k : Nat) : p2 (k + 1) = 2 * p2 k := by unfold p2; rw [Int.pow_succ]; omega
theorem p2_pos (k : Nat) : 1 ≤ p2 k := by
  induction k with
  | zero => simp [p2_zero]
  | succ k ih => rw [p2_succ]; omega
theorem p2_mono {j k : Nat} (h : j ≤ k) : p2 j ≤ p2 k := by
  induction k with
  | zero => have : j = 0 := by omega
            subst this; exact Int.le_refl _
  | succ k ih =>
    rcases Nat.lt_or_ge j (k + 1) with h1 | h1
    · have := ih (by omega); have := p2_pos k; rw [p2_succ]; omega
    · have : j = k + 1 := by omega
      subst this; exact Int.le_refl _
theorem p2_32 : p2 32 = 4294967296 := by decide
theorem p2_le32 {k : Nat} (h : k ≤ 32) : p2 k ≤ 4294967296 := by have := p2_mono h; rw [p2_32] at this; exact this


/-- How many addresses are in a prefix of n bits. -/
def sz (n : Int) : Int := p2 (32 - n.toNat)
theorem sz_pos (n : Int) : 1 ≤ sz n := p2_pos _
theorem sz_le (n : Int) : sz n ≤ 4294967296 := p2_le32 (by omega)
theorem sz_dvd (n : Int) : sz n ∣ 4294967296 := by
  refine ⟨p2 (32 - (32 - n.toNat)), ?_⟩
  rw [← p2_32]; unfold sz p2
  rw [← Int.pow_add]; congr 1; omega
/-- The refusal of a prefix: 0, 1 (bits out of range), 10 (bits behind the mask). -/
def chk (a n : Int) : Int := if n < 0 ∨ 32 < n then 1 else if a % sz n = 0 then 0 else 10
theorem chk_range (a n : Int) (h : n < 0 ∨ 32 < n) : chk a n = 1 := by unfold chk; rw [if_pos h]
theorem chk_zero (a n : Int) (h0 : 0 ≤ n) (h1 : n ≤ 32) (h : a % sz n = 0) : chk a n = 0 := by unfold chk; rw [if_neg (by omega), if_pos h]
theorem chk_mask (a n : Int) (h0 : 0 ≤ n) (h1 : n ≤ 32) (h : ¬ a % sz n = 0) : chk a n = 10 := by unfold chk; rw [if_neg (by omega), if_neg h]
theorem chk_ok {a n : Int} (h : chk a n = 0) : 0 ≤ n ∧ n ≤ 32 ∧ a % sz n = 0 := by
  unfold chk at h
  split at h
  · simp at h
  · split at h
    · rename_i h1 h2; exact ⟨by omega, by omega, h2⟩
    · simp at h
/-- Is an address in a prefix? -/
def inB (x a n : Int) : Bool := decide (chk a n = 0 ∧ a ≤ x ∧ x < a + sz n)


/-- The exponent of the greatest power of two, at most 2^k, that divides the place and does not go beyond the end. -/
def pick (a e : Int) : Nat → Nat
  | 0 => 0
  | k + 1 => if a % p2 (k + 1) = 0 ∧ a + p2 (k + 1) ≤ e then k + 1 else pick a e k
theorem pick_le (a e : Int) (k : Nat) : pick a e k ≤ k := by
  induction k with
  | zero => exact Nat.le_refl _
  | succ k ih => unfold pick; split <;> omega
theorem pick_hit (a e : Int) (k : Nat) (h : a % p2 k = 0) (h' : a + p2 k ≤ e) : pick a e k = k := by
  cases k with
  | zero => rfl
  | succ k => unfold pick; rw [if_pos ⟨h, h'⟩]
theorem pick_miss (a e : Int) (k : Nat) (h : ¬ (a % p2 (k + 1) = 0 ∧ a + p2 (k + 1) ≤ e)) : pick a e (k + 1) = pick a e k := by
  conv => lhs; unfold pick
  rw [if_neg h]
theorem pick_ok (a e : Int) (k : Nat) (h : a < e) : a % p2 (pick a e k) = 0 ∧ a + p2 (pick a e k) ≤ e := by
  induction k with
  | zero => simp [pick, p2_zero]; omega
  | succ k ih =>
    unfold pick
    split
    · rename_i h; exact h
    · exact ih
/-- The prefixes of the places from a up to (not with) e. -/
def cutL (e : Int) : Nat → Int → List (Int × Int)
  | 0, _ => []
  | f + 1, a => if a < e then (a, 32 - (pick a e 32 : Int)) :: cutL e f (a + p2 (pick a e 32)) else []
theorem cutL_done (e a : Int) (f : Nat) (h : e ≤ a) : cutL e f a = [] := by
  cases f with
  | zero => rfl
  | succ f => unfold cutL; rw [if_neg (by omega)]
theorem cutL_step (e a : Int) (f : Nat) (h : a < e) : cutL e (f + 1) a = (a, 32 - (pick a e 32 : Int)) :: cutL e f (a + p2 (pick a e 32)) := by
  conv => lhs; unfold cutL
  rw [if_pos h]

end Go.Proofs.YtehpkpjgkmbngaaGreat

/-
  Walks over the leaves of the addresses' layer: the reference's size, the program's behind.
-/
namespace Go.Proofs.YtehpkpjgkmbngaaGreat
open Go.RowKit

set_option maxHeartbeats 400000 in
theorem size_any (n : Int) (w : World) (h0 : 0 ≤ n) (h1 : n ≤ 32) :
    Calls Tryz.prog 56 #[.int .i64 n] w fun e w' => e = .returned (.int .u64 (sz n)) ∧ w = w' := by
  obtain ⟨m, rfl⟩ := Int.eq_ofNat_of_zero_le h0
  have hm : m ≤ 32 := by omega
  clear h0
  go_enter Tryz.func56, Tryz.ntmps56
  go_wp2
  go_loop [3, 4] (fun out i => ∃ j : Nat, m + j ≤ 32 ∧ i = .int .i64 ↑(m + j) ∧ out = .int .u64 (p2 j)) (fun _ i => 32 - (intOf i).toNat)
  case atStart => exact ⟨0, by omega, rfl, rfl⟩
  case round =>
    obtain ⟨j, hj, rfl, rfl⟩ := hrel
    have hp := p2_pos j
    have hq := p2_le32 (k := j) (by omega)
    by_cases hlt : m + j < 32
    · go_wp2
      go_round
      case rel => exact ⟨j + 1, by omega, by go_num, by rw [p2_succ]⟩
      case measure => simp [intOf]; omega
    · have e : 32 - m = j := by omega
      have E := Lib.hid e
      clear e
      go_wp2
      go_ret
      unfold sz
      rw [Int.toNat_natCast, E.out]
      exact ⟨rfl, rfl⟩

end Go.Proofs.YtehpkpjgkmbngaaGreat

/-
  Plain lemmas on bits and powers of two, in the words of the model's operations on numbers; no program in sight.
-/
namespace Go.Proofs.YtehpkpjgkmbngaaGreat
open Go Go.RowKit

theorem p2_cast (k : Nat) : p2 k = ((2 ^ k : Nat) : Int) := by unfold p2; simp
theorem sz_nat (n : Int) : sz n = ((2 ^ (32 - n.toNat) : Nat) : Int) := p2_cast _

theorem nat_high (a k : Nat) (hk : k ≤ 32) (ha : a < 2 ^ 32) : a &&& (2 ^ 32 - 1 - (2 ^ k - 1)) = a - a % 2 ^ k := by
  have h1 : a - a % 2 ^ k = (a >>> k) <<< k := by
    rw [Nat.shiftLeft_eq, Nat.shiftRight_eq_div_pow]
    have := Nat.div_add_mod a (2 ^ k)
    rw [Nat.mul_comm] at this
    omega
  rw [h1]
  apply Nat.eq_of_testBit_eq
  intro i
  rw [Nat.testBit_and, Nat.testBit_shiftLeft, Nat.testBit_shiftRight]
  have hm : 2 ^ 32 - 1 - (2 ^ k - 1) = 2 ^ 32 - 2 ^ k := by
    have := Nat.two_pow_pos k; omega
  have hs : 2 ^ 32 - 2 ^ k = (2 ^ (32 - k) - 1) <<< k := by
    rw [Nat.shiftLeft_eq, Nat.sub_mul, ← Nat.pow_add]; congr 1
    · congr 1; omega
    · omega
  rw [hm, hs, Nat.testBit_shiftLeft, Nat.testBit_two_pow_sub_one]
  by_cases hi : k ≤ i
  · have e : k + (i - k) = i := by omega
    rw [e]
    by_cases h32 : i < 32
    · simp [hi]; omega
    · have : a.testBit i = false := Nat.testBit_lt_two_pow (Nat.lt_of_lt_of_le ha (Nat.pow_le_pow_right (by omega) (by omega)))
      simp [this]
  · simp [hi]

theorem and_sz (a n : Int) (ha : 0 ≤ a) (hb : a < 4294967296) : bits .and .u32 a (sz n - 1) = a % sz n := by
  obtain ⟨a, rfl⟩ := Int.eq_ofNat_of_zero_le ha
  have hp := sz_pos n
  have hq := sz_le n
  rw [u32_and _ _ ha hb (by omega) (by omega), sz_nat]
  have e : (((2 ^ (32 - n.toNat) : Nat) : Int) - 1).toNat = 2 ^ (32 - n.toNat) - 1 := by omega
  rw [e, Int.toNat_natCast, Nat.and_two_pow_sub_one_eq_mod]
  exact Int.natCast_emod _ _

theorem andNot_sz (a n : Int) (ha : 0 ≤ a) (hb : a < 4294967296) : bits .andNot .u32 a (sz n - 1) = a - a % sz n := by
  obtain ⟨a, rfl⟩ := Int.eq_ofNat_of_zero_le ha
  have hp := sz_pos n
  have hq := sz_le n
  rw [u32_andNot _ _ ha hb (by omega) (by omega), sz_nat]
  have e : (((2 ^ (32 - n.toNat) : Nat) : Int) - 1).toNat = 2 ^ (32 - n.toNat) - 1 := by omega
  rw [e, Int.toNat_natCast]
  have h := nat_high a (32 - n.toNat) (by omega) (by omega)
  rw [show (4294967295 : Nat) = 2 ^ 32 - 1 by decide, h, ← Int.natCast_emod]
  have := Nat.mod_le a (2 ^ (32 - n.toNat))
  omega


theorem not32 (x : Int) (h0 : 0 ≤ x) (h1 : x < 4294967296) : bits .xor .u32 IntKind.u32.max x = 4294967295 - x := by
  obtain ⟨x, rfl⟩ := Int.eq_ofNat_of_zero_le h0
  have e : IntKind.u32.max = 4294967295 := by decide
  rw [e, u32_xor _ _ (by omega) (by omega) h0 h1]
  have hx : x < 2 ^ 32 := by omega
  have e2 : (4294967295 : Int).toNat = 2 ^ 32 - 1 := by decide
  have e3 : (2 ^ 32 - 1) ^^^ x = 2 ^ 32 - (x + 1) := by
    apply Nat.eq_of_testBit_eq
    intro i
    rw [Nat.testBit_xor, Nat.testBit_two_pow_sub_one, Nat.testBit_two_pow_sub_succ hx]
    by_cases hi : i < 32
    · simp [hi]
    · have : x.testBit i = false := Nat.testBit_lt_two_pow (Nat.lt_of_lt_of_le hx (Nat.pow_le_pow_right (by omega) (by omega)))
      simp [hi, this]
  rw [e2, Int.toNat_natCast, e3]
  omega
theorem bitLen_pred (j : Nat) (h : j ≤ 63) : Lib.bitLen (2 ^ j - 1) = j := by
  induction j with
  | zero => decide
  | succ j ih =>
    have h2 : 2 ^ (j + 1) < 2 ^ 64 := Nat.pow_lt_pow_right (by omega) (by omega)
    have h3 := Nat.two_pow_pos j
    have h4 : 2 ^ (j + 1) = 2 * 2 ^ j := by rw [Nat.pow_succ]; omega
    rw [Lib.bitLen_half _ (by omega) (by omega)]
    have : (2 ^ (j + 1) - 1) / 2 = 2 ^ j - 1 := by omega
    rw [this, ih (by omega)]; omega
/-- The leading zeros of a number of 32 bits. -/
def lz32 (x : Int) : Int := 32 - (Lib.bitLen x.toNat : Int)
theorem lz32_range (x : Int) (h1 : x < 4294967296) : 0 ≤ lz32 x ∧ lz32 x ≤ 32 := by
  unfold lz32
  have := Lib.bitLen_le x.toNat 32 (by omega) (by have : (2 : Nat) ^ 32 = 4294967296 := by decide
                                                  omega)
  omega
theorem lz32_mask (n : Int) (h0 : 0 ≤ n) (h1 : n ≤ 32) : lz32 (sz n - 1) = n := by
  unfold lz32
  rw [sz_nat]
  have e : (((2 ^ (32 - n.toNat) : Nat) : Int) - 1).toNat = 2 ^ (32 - n.toNat) - 1 := by omega
  rw [e, bitLen_pred _ (by omega)]
  omega
theorem bitLen_p2 (j : Nat) (h : j ≤ 63) : Lib.bitLen (p2 j).toNat = j + 1 := by
  rw [p2_cast, Int.toNat_natCast]
  induction j with
  | zero => decide
  | succ j ih =>
    have h2 : 2 ^ (j + 1) < 2 ^ 64 := Nat.pow_lt_pow_right (by omega) (by omega)
    rw [Lib.bitLen_half _ (by have := Nat.two_pow_pos (j + 1); omega) h2]
    have : 2 ^ (j + 1) / 2 = 2 ^ j := by rw [Nat.pow_succ]; omega
    rw [this, ih (by omega)]; omega
theorem p2_lt64 {j : Nat} (h : j ≤ 63) : p2 j ≤ 18446744073709551615 := by
  rw [p2_cast]
  have h2 : 2 ^ j < 2 ^ 64 := Nat.pow_lt_pow_right (by omega) (by omega)
  have e : (2 : Nat) ^ 64 = 18446744073709551616 := by decide
  omega
end Go.Proofs.YtehpkpjgkmbngaaGreat

/-
  Walks over the addresses' layer: behind, Check, In, Within; the program's and the reference's.
-/
namespace Go.Proofs.YtehpkpjgkmbngaaGreat
open Go Go.RowKit Go.Sort

theorem behind_val (n : Int) (h0 : 0 ≤ n) (h1 : n ≤ 32) : IntKind.u64.wrap (IntKind.u64.wrap (2 ^ (32 - n).toNat) - 1) % 4294967296 = sz n - 1 := by
  have e : (32 - n).toNat = 32 - n.toNat := by omega
  have hp := p2_pos (32 - n.toNat)
  have hq := p2_le32 (k := 32 - n.toNat) (by omega)
  rw [e]
  show IntKind.u64.wrap (IntKind.u64.wrap (p2 (32 - n.toNat)) - 1) % 4294967296 = p2 (32 - n.toNat) - 1
  simp only [IntKind.wrap, IntKind.bits, IntKind.signed]
  omega
set_option maxHeartbeats 400000 in
theorem behind_any (n : Int) (w : World) (h0 : 0 ≤ n) (h1 : n ≤ 32) :
    Calls Tryz.prog 47 #[.int .i64 n] w fun e w' => e = .returned (.int .u32 (sz n - 1)) ∧ w = w' := by
  have hv := Lib.hid (behind_val n h0 h1)
  go_enter Tryz.func47, Tryz.ntmps47
  go_wp2
  go_ret
  exact ⟨ret_int hv.out, rfl⟩

set_option maxHeartbeats 400000 in
theorem addrCheck_any (a n : Int) (w : World) (ha : 0 ≤ a) (hb : a < 4294967296) :
    Calls Tryz.prog 46 #[.agg #[.int .u32 a, .int .i64 n]] w fun e w' => e = .returned (.int .i64 (chk a n)) ∧ Below w.heap.size w w' := by
  by_cases hr : n < 0 ∨ 32 < n
  · have hc := Lib.hid (chk_range a n hr)
    rcases hr with hr | hr
    · go_enter Tryz.func46, Tryz.ntmps46
      go_wp2
      go_ret
      exact ⟨ret_int hc.out.symm, (Below.refl _ _).alloc (Nat.le_refl _) _⟩
    · have hr' : ¬ n < 0 := by omega
      go_enter Tryz.func46, Tryz.ntmps46
      go_wp2
      go_ret
      exact ⟨ret_int hc.out.symm, (Below.refl _ _).alloc (Nat.le_refl _) _⟩
  · have h0 : 0 ≤ n := by omega
    have h1 : n ≤ 32 := by omega
    clear hr
    have ea := and_sz a n ha hb
    by_cases hm : a % sz n = 0
    · have hc := Lib.hid (chk_zero a n h0 h1 hm)
      have hd : (bits .and .u32 a (sz n - 1) != 0) = false := by rw [ea, hm]; rfl
      clear ea hm
      go_enter Tryz.func46, Tryz.ntmps46
      go_wp2
      go_quiet ((go_at_call 47; exact quiet_left (behind_any _ _ (by omega) (by omega))))
      go_wp2
      go_ret
      exact ⟨ret_int hc.out.symm, below_drewN ((Below.refl _ _).alloc (Nat.le_refl _) _) _⟩
    · have hc := Lib.hid (chk_mask a n h0 h1 hm)
      have hd : (bits .and .u32 a (sz n - 1) != 0) = true := by rw [ea]; simp [hm]
      clear ea hm
      go_enter Tryz.func46, Tryz.ntmps46
      go_wp2
      go_quiet ((go_at_call 47; exact quiet_left (behind_any _ _ (by omega) (by omega))))
      go_wp2
      go_ret
      exact ⟨ret_int hc.out.symm, below_drewN ((Below.refl _ _).alloc (Nat.le_refl _) _) _⟩

set_option maxHeartbeats 400000 in
theorem refCheck_any (a n : Int) (w : World) (ha : 0 ≤ a) (hb : a < 4294967296) :
    Calls Tryz.prog 55 #[.agg #[.int .u32 a, .int .i64 n]] w fun e w' => e = .returned (.int .i64 (chk a n)) ∧ Below w.heap.size w w' := by
  by_cases hr : n < 0 ∨ 32 < n
  · have hc := Lib.hid (chk_range a n hr)
    rcases hr with hr | hr
    · go_enter Tryz.func55, Tryz.ntmps55
      go_wp2
      go_ret
      exact ⟨ret_int hc.out.symm, (Below.refl _ _).alloc (Nat.le_refl _) _⟩
    · have hr' : ¬ n < 0 := by omega
      go_enter Tryz.func55, Tryz.ntmps55
      go_wp2
      go_ret
      exact ⟨ret_int hc.out.symm, (Below.refl _ _).alloc (Nat.le_refl _) _⟩
  · have h0 : 0 ≤ n := by omega
    have h1 : n ≤ 32 := by omega
    have hp := sz_pos n
    have hq := sz_le n
    clear hr
    by_cases hm : a % sz n = 0
    · have hc := Lib.hid (chk_zero a n h0 h1 hm)
      have hd : (a % sz n != 0) = false := by rw [hm]; rfl
      clear hm
      go_enter Tryz.func55, Tryz.ntmps55
      go_wp2
      go_quiet ((go_at_call 56; exact quiet_left (size_any _ _ (by omega) (by omega))))
      go_wp2
      go_ret
      exact ⟨ret_int hc.out.symm, below_drewN ((Below.refl _ _).alloc (Nat.le_refl _) _) _⟩
    · have hc := Lib.hid (chk_mask a n h0 h1 hm)
      have hd : (a % sz n != 0) = true := by simp [hm]
      clear hm
      go_enter Tryz.func55, Tryz.ntmps55
      go_wp2
      go_quiet ((go_at_call 56; exact quiet_left (size_any _ _ (by omega) (by omega))))
      go_wp2
      go_ret
      exact ⟨ret_int hc.out.symm, below_drewN ((Below.refl _ _).alloc (Nat.le_refl _) _) _⟩

end Go.Proofs.YtehpkpjgkmbngaaGreat

/-
  Walks over the addresses' layer: In; the program's and the reference's.
-/
namespace Go.Proofs.YtehpkpjgkmbngaaGreat
open Go Go.RowKit Go.Sort

theorem in_no (x a n : Int) (h : ¬ chk a n = 0) : false = inB x a n := by unfold inB; simp [h]
theorem in_low (x a n : Int) (h : ¬ a ≤ x) : false = inB x a n := by unfold inB; simp [h]
theorem in_sub (x a n : Int) (hr : chk a n = 0) (h : a ≤ x) : decide (x - a < sz n) = inB x a n := by
  unfold inB
  rw [decide_eq_decide]
  constructor
  · intro h1; exact ⟨hr, h, by omega⟩
  · intro h1; omega
theorem in_andNot (x a n : Int) (hx : 0 ≤ x) (hx' : x < 4294967296) (hr : chk a n = 0) : (bits .andNot .u32 x (sz n - 1) == a) = inB x a n := by
  obtain ⟨_, _, h2⟩ := chk_ok hr
  rw [andNot_sz x n hx hx']
  unfold inB
  rw [Bool.eq_iff_iff, beq_iff_eq, decide_eq_true_iff]
  have hp := sz_pos n
  have e1 := Int.emod_add_mul_ediv x (sz n)
  have l1 := Int.emod_nonneg x (by omega : sz n ≠ 0)
  have l2 := Int.emod_lt_of_pos x (by omega : 0 < sz n)
  constructor
  · intro h
    exact ⟨hr, by omega, by omega⟩
  · intro ⟨_, h3, h4⟩
    have e2 := Int.emod_add_mul_ediv a (sz n)
    rw [h2] at e2
    have h5 : x % sz n = x - a := by
      have : (x - a + sz n * (a / sz n)) % sz n = (x - a) % sz n := Int.add_mul_emod_self_left ..
      rw [show x - a + sz n * (a / sz n) = x by omega, Int.emod_eq_of_lt (a := x - a) (by omega) (by omega)] at this
      exact this
    omega

set_option maxHeartbeats 400000 in
theorem addrIn_any (x a n : Int) (w : World) (hx : 0 ≤ x) (hx' : x < 4294967296) (ha : 0 ≤ a) (hb : a < 4294967296) :
    Calls Tryz.prog 85 #[.int .u32 x, .agg #[.int .u32 a, .int .i64 n]] w fun e w' => e = .returned (.bool (inB x a n)) ∧ Below w.heap.size w w' := by
  by_cases hr : chk a n = 0
  · obtain ⟨h0, h1, h2⟩ := chk_ok hr
    have hd : (chk a n == 0) = true := by simp [hr]
    have hE := Lib.hid (in_andNot x a n hx hx' hr)
    clear hr h2
    go_enter Tryz.func85, Tryz.ntmps85
    go_wp2
    have c0 : (w.alloc (.cells #[.int .u32 a, .int .i64 n] 38)).cell? ⟨w.heap.size, 0, none⟩ = some (.int .u32 a) := by simp
    have c1 : (w.alloc (.cells #[.int .u32 a, .int .i64 n] 38)).cell? ⟨w.heap.size, 1, none⟩ = some (.int .i64 n) := by simp
    have hbW : Below w.heap.size w (w.alloc (.cells #[.int .u32 a, .int .i64 n] 38)) := (Below.refl _ _).alloc (Nat.le_refl _) _
    generalize w.alloc (.cells #[.int .u32 a, .int .i64 n] 38) = W at *
    have F0 := cell_regrown c0
    have F1 := cell_regrown c1
    refine wp_region_quiet_below (by kernel_rfl) (by kernel_rfl) ?_
    repeat (first | go_big_quiet_step ((first | (go_at_call 46; exact Calls.regrown_of (addrCheck_any _ _ _ (by omega) (by omega))) | (go_at_call 47; exact regrown_left (behind_any _ _ (by omega) (by omega))))) | quiet_step ((first | (go_at_call 46; exact Calls.regrown_of (addrCheck_any _ _ _ (by omega) (by omega))) | (go_at_call 47; exact regrown_left (behind_any _ _ (by omega) (by omega))))))
    refine wpQuiet_nil ?_
    intro _ hw'
    obtain ⟨⟨nq, osq⟩, hw''⟩ := hw'
    subst hw''
    go_wp2
    go_ret
    exact ⟨ret_bool (hE.out), (hbW.trans ((below_regrown W nq osq).mono hbW.size))⟩
  · have hd : (chk a n == 0) = false := by simp [hr]
    have hE := Lib.hid (in_no x a n hr)
    clear hr
    go_enter Tryz.func85, Tryz.ntmps85
    go_wp2
    have c0 : (w.alloc (.cells #[.int .u32 a, .int .i64 n] 38)).cell? ⟨w.heap.size, 0, none⟩ = some (.int .u32 a) := by simp
    have c1 : (w.alloc (.cells #[.int .u32 a, .int .i64 n] 38)).cell? ⟨w.heap.size, 1, none⟩ = some (.int .i64 n) := by simp
    have hbW : Below w.heap.size w (w.alloc (.cells #[.int .u32 a, .int .i64 n] 38)) := (Below.refl _ _).alloc (Nat.le_refl _) _
    generalize w.alloc (.cells #[.int .u32 a, .int .i64 n] 38) = W at *
    have F0 := cell_regrown c0
    have F1 := cell_regrown c1
    refine wp_region_quiet_below (by kernel_rfl) (by kernel_rfl) ?_
    repeat (first | go_big_quiet_step (((go_at_call 46; exact Calls.regrown_of (addrCheck_any _ _ _ (by omega) (by omega))))) | quiet_step (((go_at_call 46; exact Calls.regrown_of (addrCheck_any _ _ _ (by omega) (by omega))))))
    refine wpQuiet_nil ?_
    intro _ hw'
    obtain ⟨⟨nq, osq⟩, hw''⟩ := hw'
    subst hw''
    go_wp2
    go_ret
    exact ⟨ret_bool (hE.out), (hbW.trans ((below_regrown W nq osq).mono hbW.size))⟩

end Go.Proofs.YtehpkpjgkmbngaaGreat

/-
  A region that draws its order, walked in the order of the text: the class of worlds is any that the prover names. No program in sight.
-/
namespace Go.Proofs.YtehpkpjgkmbngaaGreat
open Go Go.RowKit Go.Sort

section
variable {P : Program} {ops : Array Oper} {Q : Exit → Act → World → Prop}
/-- The worlds that meet S. -/
structure InW (S : World → Prop) where
  w : World
  h : S w
@[reducible] def InS (S : World → Prop) : World → Prop := fun w' => ∃ p : InW S, w' = p.w
theorem inS {S : World → Prop} {w : World} (h : S w) : InS S w := ⟨⟨w, h⟩, rfl⟩
theorem inS_sub {S S' : World → Prop} (h : ∀ v, S' v → S v) : ∀ v, InS S' v → InS S v := by
  intro v hv
  obtain ⟨p, hp⟩ := hv
  exact ⟨⟨p.w, h _ p.h⟩, hp⟩
theorem wp_region_mixS {id : Nat} {a : Act} {w : World} {l : List Oper} (S : World → Prop) (m : List (Nat × Bool)) (hm : P.follows .mixedOrders = true) (hB : mixOk l m = true) (hS : S { w with drawn := w.drawn + 1 })
    (h : mixW P l.toArray (NoPanic Q) m (fun w' => ∃ p : InW S, w' = p.w) a { w with drawn := w.drawn + 1 }) : (Code.region id l.toArray true).wp P Q a w := by
  simp only [mixOk, Bool.and_eq_true, decide_eq_true_eq] at hB
  obtain ⟨⟨hs, hlen⟩, hmix⟩ := hB
  refine wp_region_noPanic (wp_region_held (S := InS S) hm ?_)
  have H := mix_sound (md := .any) hs (fun d v c a w hh => hh) m _ (Array.replicate l.length false) a { w with drawn := w.drawn + 1 } hmix (inS hS) h
  rw [hlen] at H
  simpa using H
/-- A barrier behind which the class may be narrower. -/
theorem mix_barS {m : List (Nat × Bool)} {k : Nat} {o : Oper} {a : Act} {S : World → Prop} {w : World} (ho : ops[k]? = some o) (hw : Region.wanted o (yielded ops a.tmps) = true)
    (h : o.wp P a w (fun a' w' => ∃ S' : World → Prop, S' w' ∧ (∀ v, S' v → S v) ∧ mixW P ops Q m (fun w' => ∃ p : InW S', w' = p.w) a' w') Q) : mixW P ops Q ((k, true) :: m) (fun w' => ∃ p : InW S, w' = p.w) a w := by
  simp only [mixW]
  refine ⟨o, ho, ?_⟩
  rw [if_pos hw]
  exact Oper.wp_mono (fun a' w' hh => by obtain ⟨S', h1, h2, h3⟩ := hh; exact ⟨_, inS h1, inS_sub h2, h3⟩) h
end
end Go.Proofs.YtehpkpjgkmbngaaGreat

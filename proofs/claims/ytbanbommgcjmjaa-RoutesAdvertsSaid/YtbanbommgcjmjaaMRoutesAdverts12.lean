/-
  Joined texts: Ra16.
-/
import Derived.Test.YtbanbommgcjmjaaMRoutesAdverts11
import Derived.Test.YtbanbommgcjmjaaProg
import Derived.Great.BuildSlice
/-
  The region that appends to an advert's three lists in one assignment: the rows are laid and the appends come up in whatever order (written by wip/gen/genra16.py).
-/
namespace Go.Proofs.Ytbanbommgcjmjaa
open Go Go.RowKit Go.Lib Go.Sort

section
variable {P : Program} {ops : Array Oper} {md : Region.Mode} {S : World → Prop} {Q : Exit → Act → World → Prop} {n : Nat}
/-- Those of the head that a tail's operation waits for; 'ex' have come up already. -/
def sinkX (md : Region.Mode) (ops : Array Oper) (n : Nat) (ex : List Nat) : Bool :=
  (List.range n).all fun i => ex.contains i || (List.range (n + 1)).any fun j => decide (i < j) && Region.waitsFor md ops j i
theorem tail_waitsX {ex : List Nat} {listed : Array Bool} (hs : sinkX md ops n ex = true) (hc : Region.chainB md ops n = true) (hn : n < ops.size) (inv : HeadInv md ops n listed) (hex : ∀ x ∈ ex, listed.getD x true = true) :
    ∀ (d i : Nat), n - i = d → i < n → listed.getD i true = false → ∀ t, n ≤ t → t ∉ Region.ready md ops listed := by
  intro d
  induction d using Nat.strongRecOn with
  | _ d ih =>
    intro i hd hi hun t ht hr
    obtain ⟨_, ot, hot, hall⟩ := mem_ready.1 hr
    have htlt : t < ops.size := (Array.getElem?_eq_some_iff.1 hot).1
    by_cases htn : t = n
    · subst htn
      have h1 := List.all_eq_true.1 hs i (List.mem_range.2 hi)
      simp only [Bool.or_eq_true, List.contains_eq_mem, decide_eq_true_eq] at h1
      rcases h1 with h1 | h1
      · rw [hex i h1] at hun
        cases hun
      obtain ⟨j, hj, hj2⟩ := List.any_eq_true.1 h1
      simp only [Bool.and_eq_true, decide_eq_true_eq] at hj2
      obtain ⟨oj, hoj, e, he, hb, hon⟩ := Region.waitsFor_spec hj2.2
      have hjle : j ≤ t := by have := List.mem_range.1 hj; omega
      by_cases hjt : j = t
      · subst hjt
        have : oj = ot := Option.some.inj (hoj.symm.trans hot)
        subst this
        have h2 := hall e he hb
        rw [hon, getD_both hun] at h2
        cases h2
      · cases hl : listed.getD j false with
        | true =>
          have h2 := inv.closed j oj hoj hl e he hb
          rw [hon, getD_both hun] at h2
          cases h2
        | false =>
          have hjs : j < listed.size := by rw [inv.size]; omega
          exact ih (t - j) (by omega) j rfl (by omega) (getD_in hjs hl) t (Nat.le_refl _) hr
    · have h1 := List.all_eq_true.1 hc t (List.mem_range.2 htlt)
      simp only [Bool.or_eq_true, decide_eq_true_eq] at h1
      rcases h1 with h1 | h1
      · omega
      · obtain ⟨o', ho', e, he, hb, hon⟩ := Region.waitsFor_spec h1
        have : o' = ot := Option.some.inj (ho'.symm.trans hot)
        subst this
        have h2 := hall e he hb
        rw [hon, getD_both (inv.tail (t - 1) (by omega) (by omega))] at h2
        cases h2
theorem hex_set {ex : List Nat} {listed : Array Bool} (hex : ∀ x ∈ ex, listed.getD x true = true) (i : Nat) : ∀ x ∈ ex, (listed.setIfInBounds i true).getD x true = true := fun x hx => by
  by_cases e : i = x
  · subst e
    rcases Nat.lt_or_ge i listed.size with h | h
    · simp [h]
    · simp [h]
  · rw [getD_set_ne true e]
    exact hex x hx
theorem wpAnyT_firstX {ex : List Nat} {i : Nat} {oi : Oper} {v : Value} (hi : ops[i]? = some oi) (hsel : ∀ (j : Nat) (o : Oper) cs b, ops[j]? = some o → o.op ≠ .select cs b)
    (hs : sinkX md ops n ex = true) (hc : Region.chainB md ops n = true) (hn : n < ops.size) (hin : i < n)
    (hQ : ∀ c a w, Q (.panic c) (a.put oi.dst v) w → Q (.panic c) a w) :
    ∀ (fuel : Nat) (listed : Array Bool) (a : Act) (w : World), HeadInv md ops n listed → (∀ x ∈ ex, listed.getD x true = true) →
      (∀ j oj, ops[j]? = some oj → j ≠ i → listed.getD j true = false → (∀ e ∈ oj.after, Region.binds md e = true → e.on ≠ i) → oi.apart ops oj = true) →
      i ∈ Region.ready md ops listed → YieldsIf P ops S oi v a → S w →
      wpAnyT P md ops Q S n fuel (listed.setIfInBounds i true) (a.put oi.dst v) w → wpAnyT P md ops Q S n (fuel + 1) listed a w := by
  intro fuel
  induction fuel with
  | zero =>
    intro listed a w _ _ _ hr hy hS H
    refine ⟨fun h => (by rw [h] at hr; cases hr), fun j hj => ?_⟩
    by_cases hji : j = i
    · subst hji; exact hy.wpOp hi hS ⟨fun _ => hS, H⟩
    · have := ready_mono hj hji
      rw [H.1] at this
      cases this
  | succ fuel ih =>
    intro listed a w inv hex hfree hr hy hS H
    have hun := (mem_ready.1 hr).1
    refine ⟨fun h => (by rw [h] at hr; cases hr), fun j hj => ?_⟩
    have hjn : j < n := (Nat.lt_or_ge j n).elim id fun h => absurd hj (tail_waitsX hs hc hn inv hex _ i rfl hin hun j h)
    by_cases hji : j = i
    · subst hji; exact hy.wpOp hi hS ⟨fun _ => hS, H⟩
    · have h1 := H.2 j (ready_mono hj hji)
      obtain ⟨hjun, oj, hoj, hall⟩ := mem_ready.1 hj
      have hnot : ∀ e ∈ oj.after, Region.binds md e = true → e.on ≠ i := fun e he hb heq => by
        have h1 := hall e he hb
        rw [heq, getD_both hun] at h1
        cases h1
      have h2 := wpOp_putIf hoj (hfree j oj hoj hji hjun hnot) (fun cs b => hsel i oi cs b hi) (fun cs b => hsel j oj cs b hoj) hQ hy h1
      have hfree' : ∀ k ok, ops[k]? = some ok → k ≠ i → (listed.setIfInBounds j true).getD k true = false →
          (∀ e ∈ ok.after, Region.binds md e = true → e.on ≠ i) → oi.apart ops ok = true := fun k ok hk hki hun hno => by
        refine hfree k ok hk hki ?_ hno
        by_cases hjk : j = k
        · subst hjk; exact hjun
        · rw [getD_set_ne true hjk] at hun; exact hun
      refine wpOp_mono (fun a' w' h3 => ⟨fun _ => h3.2.1 hjn, ih (listed.setIfInBounds j true) a' w' (inv.set hj hjn) (hex_set hex j) hfree' (ready_mono hr (Ne.symm hji)) h3.1 (h3.2.1 hjn) ?_⟩) h2
      rw [Array.setIfInBounds_comm _ _ hji]
      exact h3.2.2
/-- A copy of a temporary may be taken first in whatever world. -/
theorem any_move {fuel i d s : Nat} {o : Oper} {listed : Array Bool} {a : Act} {w : World} (hi : ops[i]? = some o) (hop : o.op = .move (.tmp s)) (hd : o.dst = some d) (hg : o.guard = none)
    (hsel : Region.noSelect ops = true) (hf : Region.free md ops listed i = true) (hr : (Region.ready md ops listed).contains i = true) (hQ : ∀ d v c a w, Q (.panic c) (Act.put a d v) w → Q (.panic c) a w)
    (h : wpAny P md ops Q fuel (listed.setIfInBounds i true) (a.put (some d) (a.eval (.tmp s))) w) : wpAny P md ops Q (fuel + 1) listed a w := by
  refine wpAny_take hi hsel hf hr (fun c a w => hQ o.dst _ c a w) (v := a.eval (.tmp s)) (.inl ⟨by simp [Region.wanted, hg], fun w => ?_⟩) (by rw [hd]; exact h)
  simp [execOp, hop]
/-- Plain operations are taken first, then whatever. -/
def takeB (md : Region.Mode) (ops : Array Oper) (n : Nat) : List Nat → Array Bool → Bool
  | [], _ => true
  | k :: ks, listed => (Region.ready md ops listed).contains k && Region.free md ops listed k && decide (k < n) && (match ops[k]? with | some o => plainB o.op | none => false) && takeB md ops n ks (listed.setIfInBounds k true)
theorem anyT_take {g : Nat} {ex : List Nat} (hsel : Region.noSelect ops = true) (hs : sinkX md ops n ex = true) (hc : Region.chainB md ops n = true) (hn : n < ops.size) (hQ : ∀ d v c a w, Q (.panic c) (Act.put a d v) w → Q (.panic c) a w) :
    ∀ (ks : List Nat) (seg : List Oper) (listed : Array Bool) (a : Act) (w : World), takeB md ops n ks listed = true → ks.map (fun k => ops[k]?) = seg.map some → HeadInv md ops n listed → (∀ x ∈ ex, listed.getD x true = true) → S w →
      wpQuiet P ops S (fun a' => wpAnyT P md ops Q S n g (ks.foldl (fun l k => l.setIfInBounds k true) listed) a' w) seg a → wpAnyT P md ops Q S n (ks.length + g) listed a w
  | [], [], _, _, _, _, _, _, _, _, h => by
    rw [List.length_nil, Nat.zero_add]
    exact h
  | [], _ :: _, _, _, _, _, hk, _, _, _, _ => by cases hk
  | _ :: _, [], _, _, _, _, hk, _, _, _, _ => by cases hk
  | k :: ks, o :: seg, listed, a, w, hB, hk, inv, hex, hS, h => by
    simp only [List.map_cons] at hk
    injection hk with h0 hk2
    simp only [takeB, Bool.and_eq_true, decide_eq_true_eq, h0] at hB
    obtain ⟨⟨⟨⟨hr, hf⟩, hkn⟩, hp⟩, hB'⟩ := hB
    have hr' : k ∈ Region.ready md ops listed := by simpa using hr
    have e : (k :: ks).length + g = (ks.length + g) + 1 := by simp; omega
    rw [e]
    have h' : (if Region.wanted o (yielded ops a.tmps) then o.quiet P a S (wpQuiet P ops S (fun a' => wpAnyT P md ops Q S n g (ks.foldl (fun l k => l.setIfInBounds k true) (listed.setIfInBounds k true)) a' w) seg) else wpQuiet P ops S (fun a' => wpAnyT P md ops Q S n g (ks.foldl (fun l k => l.setIfInBounds k true) (listed.setIfInBounds k true)) a' w) seg (a.put o.dst undef)) := h
    by_cases hw : Region.wanted o (yielded ops a.tmps) = true
    · rw [if_pos hw] at h'
      obtain ⟨v, hv, hK⟩ := yields_quiet hp h'
      exact wpAnyT_firstX h0 (Region.noSelect_spec hsel) hs hc hn hkn (fun c a w => hQ o.dst v c a w) _ listed a w inv hex (Region.free_spec h0 hf) hr' (.inl ⟨hw, hv⟩) hS (anyT_take hsel hs hc hn hQ ks seg _ _ w hB' hk2 (inv.set hr' hkn) (hex_set hex k) hS hK)
    · rw [if_neg hw] at h'
      exact wpAnyT_firstX h0 (Region.noSelect_spec hsel) hs hc hn hkn (fun c a w => hQ o.dst undef c a w) _ listed a w inv hex (Region.free_spec h0 hf) hr' (.inr ⟨by simpa using hw, rfl⟩) hS (anyT_take hsel hs hc hn hQ ks seg _ _ w hB' hk2 (inv.set hr' hkn) (hex_set hex k) hS h')
/-- The tail in its order. -/
theorem anyT_seq : ∀ (l : List Oper) (k : Nat) (listed : Array Bool) (a : Act) (w : World), n ≤ k → (∀ j, l[j]? = ops[k + j]?) →
    Region.seqB md ops l.length k listed = true → wpList P ops Q l a w → wpAnyT P md ops Q S n l.length listed a w
  | [], _, _, _, _, _, _, hB, h => ⟨by simpa [Region.seqB] using hB, h⟩
  | o :: l, k, listed, a, w, hk, hl, hB, h => by
    have h0 : ops[k]? = some o := by simpa using (hl 0).symm
    simp only [List.length_cons, Region.seqB, Bool.and_eq_true, decide_eq_true_eq] at hB
    refine ⟨fun h1 => (by rw [hB.1] at h1; cases h1), fun i hi => ?_⟩
    rw [hB.1] at hi
    have hik : i = k := by simpa using hi
    subst hik
    have hw : wpOp P ops Q i (wpList P ops Q l) a w := by unfold wpOp; simp only [h0]; exact h
    exact wpOp_mono (fun a' w' h' => ⟨fun h => absurd h (by omega), anyT_seq l (i + 1) _ a' w' (by omega) (fun j => by have := hl (j + 1); simpa [Nat.add_assoc, Nat.add_comm 1 j] using this) hB.2 h'⟩) hw
theorem op_at {k : Nat} {o : Oper} {a : Act} {w : World} {K : Act → World → Prop} (h0 : ops[k]? = some o) (hg : o.guard = none) (h : o.wp P a w K Q) : wpOp P ops Q k K a w := by
  unfold wpOp
  simp only [h0]
  rw [if_pos (by simp [Region.wanted, hg])]
  exact .inl h
theorem anyT_step {fuel : Nat} {listed : Array Bool} {rs : List Nat} {a : Act} {w : World} (hr : Region.ready md ops listed = rs) (hne : rs ≠ []) (h : ∀ i ∈ rs, wpOp P ops Q i (fun a' w' => S w' ∧ wpAnyT P md ops Q S n fuel (listed.setIfInBounds i true) a' w') a w) : wpAnyT P md ops Q S n (fuel + 1) listed a w :=
  ⟨fun h0 => absurd (hr ▸ h0) hne, fun i hi => wpOp_mono (fun _ _ hh => ⟨fun _ => hh.1, hh.2⟩) (h i (hr ▸ hi))⟩
end
theorem put_other {a : Act} {d k : Nat} {v : Value} (h : k ≠ d) : (a.put (some d) v).tmps[k]? = a.tmps[k]? := by
  show (a.tmps.setIfInBounds d v)[k]? = _
  rw [Array.getElem?_setIfInBounds_ne (Ne.symm h)]
theorem put_same {a : Act} {d : Nat} {v : Value} (h : d < a.tmps.size) : (a.put (some d) v).tmps[d]? = some v := by
  show (a.tmps.setIfInBounds d v)[d]? = _
  simp [h]
theorem eval_of {a : Act} {k : Nat} {v : Value} (h : a.tmps[k]? = some v) : a.eval (.tmp k) = v := by
  show a.tmps.getD k undef = v
  simp [h]
/-- The lists of an advert, and how long they are. -/
structure Ls3 (lo hi S : Nat) (w : World) (p o l : Value) (np no nl : Nat) : Prop where
  p : LOwn lo hi S w 23 p np
  o : LOwn lo hi S w 23 o no
  l : LOwn lo hi S w 24 l nl
/-- In the midst of the region: b1, b2, b3: which of the three new cells lie; c: how many appends are done. -/
structure Mid (I : World → Prop) (lo hi S : Nat) (a1 : Act) (p o l : Value) (np no nl : Nat) (b1 b2 b3 : Bool) (c : Nat) (a : Act) (w : World) : Prop where
  size : a.tmps.size = a1.tmps.size
  defers : a.defers = a1.defers
  same : ∀ k, k ≠ 138 → k ≠ 139 → k ≠ 145 → k ≠ 146 → k ≠ 152 → k ≠ 153 → a.tmps[k]? = a1.tmps[k]?
  inv : I w
  big : lo ≤ w.heap.size ∧ S ≤ w.heap.size
  ls : Ls3 lo hi S w p o l np no nl
  x1 : b1 = true → ∃ x, a.tmps[138]? = some x ∧ One w 23 x
  x2 : b2 = true → ∃ x, a.tmps[145]? = some x ∧ One w 23 x
  x3 : b3 = true → ∃ x, a.tmps[152]? = some x ∧ One w 24 x
  q1 : 1 ≤ c → ∃ A k, a.tmps[139]? = some (.slice A (np + 1) k) ∧ LOwn lo hi S w 23 (.slice A (np + 1) k) (np + 1)
  q2 : 2 ≤ c → ∃ A k, a.tmps[146]? = some (.slice A (no + 1) k) ∧ LOwn lo hi S w 23 (.slice A (no + 1) k) (no + 1)
  q3 : 3 ≤ c → ∃ A k, a.tmps[153]? = some (.slice A (nl + 1) k) ∧ LOwn lo hi S w 24 (.slice A (nl + 1) k) (nl + 1)
section
variable {I : World → Prop} {lo hi S : Nat} {a1 : Act} {p o l : Value} {np no nl : Nat} {b1 b2 b3 : Bool} {c : Nat} {a : Act} {w : World}
theorem Mid.alloc1 (hI : ∀ w w', I w → Stp lo hi S w w' → I w') (h1s : 160 ≤ a1.tmps.size) (h : Mid I lo hi S a1 p o l np no nl b1 b2 b3 c a w) {u : Value} (hu : u.oneCell' = true) :
    Mid I lo hi S a1 p o l np no nl true b2 b3 c (a.put (some 138) (.slice (some ⟨w.heap.size, 0, none⟩) 1 1)) (w.alloc (.cells #[u] 23)) := by
  have hs : Stp lo hi S w (w.alloc (.cells #[u] 23)) := stp_alloc _ _
  have h160 := h1s
  exact {
    size := by rw [← h.size]; simp [Act.put]
    defers := h.defers
    same := fun k k1 k2 k3 k4 k5 k6 => (put_other k1).trans (h.same k k1 k2 k3 k4 k5 k6)
    inv := hI _ _ h.inv hs
    big := ⟨Nat.le_trans h.big.1 hs.size, Nat.le_trans h.big.2 hs.size⟩
    ls := ⟨h.ls.p.step hs, h.ls.o.step hs, h.ls.l.step hs⟩
    x1 := fun _ => ⟨_, put_same (by rw [h.size]; omega), One.new w 23 u hu⟩
    x2 := fun e => by
      obtain ⟨x, h1, h2⟩ := h.x2 e
      exact ⟨x, (put_other (by decide)).trans h1, h2.step hs⟩
    x3 := fun e => by
      obtain ⟨x, h1, h2⟩ := h.x3 e
      exact ⟨x, (put_other (by decide)).trans h1, h2.step hs⟩
    q1 := fun e => by
      obtain ⟨A, k, h1, h2⟩ := h.q1 e
      exact ⟨A, k, (put_other (by decide)).trans h1, h2.step hs⟩
    q2 := fun e => by
      obtain ⟨A, k, h1, h2⟩ := h.q2 e
      exact ⟨A, k, (put_other (by decide)).trans h1, h2.step hs⟩
    q3 := fun e => by
      obtain ⟨A, k, h1, h2⟩ := h.q3 e
      exact ⟨A, k, (put_other (by decide)).trans h1, h2.step hs⟩ }
theorem Mid.alloc2 (hI : ∀ w w', I w → Stp lo hi S w w' → I w') (h1s : 160 ≤ a1.tmps.size) (h : Mid I lo hi S a1 p o l np no nl b1 b2 b3 c a w) {u : Value} (hu : u.oneCell' = true) :
    Mid I lo hi S a1 p o l np no nl b1 true b3 c (a.put (some 145) (.slice (some ⟨w.heap.size, 0, none⟩) 1 1)) (w.alloc (.cells #[u] 23)) := by
  have hs : Stp lo hi S w (w.alloc (.cells #[u] 23)) := stp_alloc _ _
  have h160 := h1s
  exact {
    size := by rw [← h.size]; simp [Act.put]
    defers := h.defers
    same := fun k k1 k2 k3 k4 k5 k6 => (put_other k3).trans (h.same k k1 k2 k3 k4 k5 k6)
    inv := hI _ _ h.inv hs
    big := ⟨Nat.le_trans h.big.1 hs.size, Nat.le_trans h.big.2 hs.size⟩
    ls := ⟨h.ls.p.step hs, h.ls.o.step hs, h.ls.l.step hs⟩
    x1 := fun e => by
      obtain ⟨x, h1, h2⟩ := h.x1 e
      exact ⟨x, (put_other (by decide)).trans h1, h2.step hs⟩
    x2 := fun _ => ⟨_, put_same (by rw [h.size]; omega), One.new w 23 u hu⟩
    x3 := fun e => by
      obtain ⟨x, h1, h2⟩ := h.x3 e
      exact ⟨x, (put_other (by decide)).trans h1, h2.step hs⟩
    q1 := fun e => by
      obtain ⟨A, k, h1, h2⟩ := h.q1 e
      exact ⟨A, k, (put_other (by decide)).trans h1, h2.step hs⟩
    q2 := fun e => by
      obtain ⟨A, k, h1, h2⟩ := h.q2 e
      exact ⟨A, k, (put_other (by decide)).trans h1, h2.step hs⟩
    q3 := fun e => by
      obtain ⟨A, k, h1, h2⟩ := h.q3 e
      exact ⟨A, k, (put_other (by decide)).trans h1, h2.step hs⟩ }
theorem Mid.alloc3 (hI : ∀ w w', I w → Stp lo hi S w w' → I w') (h1s : 160 ≤ a1.tmps.size) (h : Mid I lo hi S a1 p o l np no nl b1 b2 b3 c a w) {u : Value} (hu : u.oneCell' = true) :
    Mid I lo hi S a1 p o l np no nl b1 b2 true c (a.put (some 152) (.slice (some ⟨w.heap.size, 0, none⟩) 1 1)) (w.alloc (.cells #[u] 24)) := by
  have hs : Stp lo hi S w (w.alloc (.cells #[u] 24)) := stp_alloc _ _
  have h160 := h1s
  exact {
    size := by rw [← h.size]; simp [Act.put]
    defers := h.defers
    same := fun k k1 k2 k3 k4 k5 k6 => (put_other k5).trans (h.same k k1 k2 k3 k4 k5 k6)
    inv := hI _ _ h.inv hs
    big := ⟨Nat.le_trans h.big.1 hs.size, Nat.le_trans h.big.2 hs.size⟩
    ls := ⟨h.ls.p.step hs, h.ls.o.step hs, h.ls.l.step hs⟩
    x1 := fun e => by
      obtain ⟨x, h1, h2⟩ := h.x1 e
      exact ⟨x, (put_other (by decide)).trans h1, h2.step hs⟩
    x2 := fun e => by
      obtain ⟨x, h1, h2⟩ := h.x2 e
      exact ⟨x, (put_other (by decide)).trans h1, h2.step hs⟩
    x3 := fun _ => ⟨_, put_same (by rw [h.size]; omega), One.new w 24 u hu⟩
    q1 := fun e => by
      obtain ⟨A, k, h1, h2⟩ := h.q1 e
      exact ⟨A, k, (put_other (by decide)).trans h1, h2.step hs⟩
    q2 := fun e => by
      obtain ⟨A, k, h1, h2⟩ := h.q2 e
      exact ⟨A, k, (put_other (by decide)).trans h1, h2.step hs⟩
    q3 := fun e => by
      obtain ⟨A, k, h1, h2⟩ := h.q3 e
      exact ⟨A, k, (put_other (by decide)).trans h1, h2.step hs⟩ }
theorem Mid.push1 (hI : ∀ w w', I w → Stp lo hi S w w' → I w') (h1s : 160 ≤ a1.tmps.size) (h : Mid I lo hi S a1 p o l np no nl b1 b2 b3 0 a w) {A : Option Addr} {k : Nat} {w' : World} (hq : LOwn lo hi S w' 23 (.slice A (np + 1) k) (np + 1)) (hs : Stp lo hi S w w') :
    Mid I lo hi S a1 p o l np no nl b1 b2 b3 1 (a.put (some 139) (.slice A (np + 1) k)) w' := by
  have h160 := h1s
  exact {
    size := by rw [← h.size]; simp [Act.put]
    defers := h.defers
    same := fun k k1 k2 k3 k4 k5 k6 => (put_other k2).trans (h.same k k1 k2 k3 k4 k5 k6)
    inv := hI _ _ h.inv hs
    big := ⟨Nat.le_trans h.big.1 hs.size, Nat.le_trans h.big.2 hs.size⟩
    ls := ⟨h.ls.p.step hs, h.ls.o.step hs, h.ls.l.step hs⟩
    x1 := fun e => by
      obtain ⟨x, h1, h2⟩ := h.x1 e
      exact ⟨x, (put_other (by decide)).trans h1, h2.step hs⟩
    x2 := fun e => by
      obtain ⟨x, h1, h2⟩ := h.x2 e
      exact ⟨x, (put_other (by decide)).trans h1, h2.step hs⟩
    x3 := fun e => by
      obtain ⟨x, h1, h2⟩ := h.x3 e
      exact ⟨x, (put_other (by decide)).trans h1, h2.step hs⟩
    q1 := fun _ => ⟨A, k, put_same (by rw [h.size]; omega), hq⟩
    q2 := fun e => absurd e (by omega)
    q3 := fun e => absurd e (by omega) }
theorem Mid.push2 (hI : ∀ w w', I w → Stp lo hi S w w' → I w') (h1s : 160 ≤ a1.tmps.size) (h : Mid I lo hi S a1 p o l np no nl b1 b2 b3 1 a w) {A : Option Addr} {k : Nat} {w' : World} (hq : LOwn lo hi S w' 23 (.slice A (no + 1) k) (no + 1)) (hs : Stp lo hi S w w') :
    Mid I lo hi S a1 p o l np no nl b1 b2 b3 2 (a.put (some 146) (.slice A (no + 1) k)) w' := by
  have h160 := h1s
  exact {
    size := by rw [← h.size]; simp [Act.put]
    defers := h.defers
    same := fun k k1 k2 k3 k4 k5 k6 => (put_other k4).trans (h.same k k1 k2 k3 k4 k5 k6)
    inv := hI _ _ h.inv hs
    big := ⟨Nat.le_trans h.big.1 hs.size, Nat.le_trans h.big.2 hs.size⟩
    ls := ⟨h.ls.p.step hs, h.ls.o.step hs, h.ls.l.step hs⟩
    x1 := fun e => by
      obtain ⟨x, h1, h2⟩ := h.x1 e
      exact ⟨x, (put_other (by decide)).trans h1, h2.step hs⟩
    x2 := fun e => by
      obtain ⟨x, h1, h2⟩ := h.x2 e
      exact ⟨x, (put_other (by decide)).trans h1, h2.step hs⟩
    x3 := fun e => by
      obtain ⟨x, h1, h2⟩ := h.x3 e
      exact ⟨x, (put_other (by decide)).trans h1, h2.step hs⟩
    q1 := fun e => by
      obtain ⟨A, k, h1, h2⟩ := h.q1 (by omega)
      exact ⟨A, k, (put_other (by decide)).trans h1, h2.step hs⟩
    q2 := fun _ => ⟨A, k, put_same (by rw [h.size]; omega), hq⟩
    q3 := fun e => absurd e (by omega) }
theorem Mid.push3 (hI : ∀ w w', I w → Stp lo hi S w w' → I w') (h1s : 160 ≤ a1.tmps.size) (h : Mid I lo hi S a1 p o l np no nl b1 b2 b3 2 a w) {A : Option Addr} {k : Nat} {w' : World} (hq : LOwn lo hi S w' 24 (.slice A (nl + 1) k) (nl + 1)) (hs : Stp lo hi S w w') :
    Mid I lo hi S a1 p o l np no nl b1 b2 b3 3 (a.put (some 153) (.slice A (nl + 1) k)) w' := by
  have h160 := h1s
  exact {
    size := by rw [← h.size]; simp [Act.put]
    defers := h.defers
    same := fun k k1 k2 k3 k4 k5 k6 => (put_other k6).trans (h.same k k1 k2 k3 k4 k5 k6)
    inv := hI _ _ h.inv hs
    big := ⟨Nat.le_trans h.big.1 hs.size, Nat.le_trans h.big.2 hs.size⟩
    ls := ⟨h.ls.p.step hs, h.ls.o.step hs, h.ls.l.step hs⟩
    x1 := fun e => by
      obtain ⟨x, h1, h2⟩ := h.x1 e
      exact ⟨x, (put_other (by decide)).trans h1, h2.step hs⟩
    x2 := fun e => by
      obtain ⟨x, h1, h2⟩ := h.x2 e
      exact ⟨x, (put_other (by decide)).trans h1, h2.step hs⟩
    x3 := fun e => by
      obtain ⟨x, h1, h2⟩ := h.x3 e
      exact ⟨x, (put_other (by decide)).trans h1, h2.step hs⟩
    q1 := fun e => by
      obtain ⟨A, k, h1, h2⟩ := h.q1 (by omega)
      exact ⟨A, k, (put_other (by decide)).trans h1, h2.step hs⟩
    q2 := fun e => by
      obtain ⟨A, k, h1, h2⟩ := h.q2 (by omega)
      exact ⟨A, k, (put_other (by decide)).trans h1, h2.step hs⟩
    q3 := fun _ => ⟨A, k, put_same (by rw [h.size]; omega), hq⟩ }
end
/-- The six operations. -/
structure Six (ops : Array Oper) : Prop where
  b1 : ∃ o, ops[11]? = some o ∧ o.guard = none ∧ o.dst = some 138 ∧ o.op = .buildSlice 33 1 #[(0, .const (.int .u32 98))]
  b2 : ∃ o, ops[18]? = some o ∧ o.guard = none ∧ o.dst = some 145 ∧ o.op = .buildSlice 33 1 #[(0, .const (.int .u32 98))]
  b3 : ∃ o, ops[25]? = some o ∧ o.guard = none ∧ o.dst = some 152 ∧ o.op = .buildSlice 34 1 #[(0, .const (.int .u32 98))]
  p1 : ∃ o, ops[12]? = some o ∧ o.guard = none ∧ o.dst = some 139 ∧ o.op = .call { callee := .builtin .append, args := #[.tmp 137, .tmp 138], argTypes := #[33, 33] }
  p2 : ∃ o, ops[19]? = some o ∧ o.guard = none ∧ o.dst = some 146 ∧ o.op = .call { callee := .builtin .append, args := #[.tmp 144, .tmp 145], argTypes := #[33, 33] }
  p3 : ∃ o, ops[26]? = some o ∧ o.guard = none ∧ o.dst = some 153 ∧ o.op = .call { callee := .builtin .append, args := #[.tmp 151, .tmp 152], argTypes := #[34, 34] }
  rs0000 : Region.ready .any ops #[true, true, true, true, true, true, true, true, true, true, true, false, false, true, true, true, true, true, false, false, true, true, true, true, true, false, false, false, false, false, false, false, false, false, false, false] = [11, 18, 25]
  rs0010 : Region.ready .any ops #[true, true, true, true, true, true, true, true, true, true, true, false, false, true, true, true, true, true, false, false, true, true, true, true, true, true, false, false, false, false, false, false, false, false, false, false] = [11, 18]
  rs0100 : Region.ready .any ops #[true, true, true, true, true, true, true, true, true, true, true, false, false, true, true, true, true, true, true, false, true, true, true, true, true, false, false, false, false, false, false, false, false, false, false, false] = [11, 25]
  rs0110 : Region.ready .any ops #[true, true, true, true, true, true, true, true, true, true, true, false, false, true, true, true, true, true, true, false, true, true, true, true, true, true, false, false, false, false, false, false, false, false, false, false] = [11]
  rs1000 : Region.ready .any ops #[true, true, true, true, true, true, true, true, true, true, true, true, false, true, true, true, true, true, false, false, true, true, true, true, true, false, false, false, false, false, false, false, false, false, false, false] = [12, 18, 25]
  rs1010 : Region.ready .any ops #[true, true, true, true, true, true, true, true, true, true, true, true, false, true, true, true, true, true, false, false, true, true, true, true, true, true, false, false, false, false, false, false, false, false, false, false] = [12, 18]
  rs1100 : Region.ready .any ops #[true, true, true, true, true, true, true, true, true, true, true, true, false, true, true, true, true, true, true, false, true, true, true, true, true, false, false, false, false, false, false, false, false, false, false, false] = [12, 25]
  rs1110 : Region.ready .any ops #[true, true, true, true, true, true, true, true, true, true, true, true, false, true, true, true, true, true, true, false, true, true, true, true, true, true, false, false, false, false, false, false, false, false, false, false] = [12]
  rs1001 : Region.ready .any ops #[true, true, true, true, true, true, true, true, true, true, true, true, true, true, true, true, true, true, false, false, true, true, true, true, true, false, false, false, false, false, false, false, false, false, false, false] = [18, 25]
  rs1011 : Region.ready .any ops #[true, true, true, true, true, true, true, true, true, true, true, true, true, true, true, true, true, true, false, false, true, true, true, true, true, true, false, false, false, false, false, false, false, false, false, false] = [18]
  rs1101 : Region.ready .any ops #[true, true, true, true, true, true, true, true, true, true, true, true, true, true, true, true, true, true, true, false, true, true, true, true, true, false, false, false, false, false, false, false, false, false, false, false] = [19, 25]
  rs1111 : Region.ready .any ops #[true, true, true, true, true, true, true, true, true, true, true, true, true, true, true, true, true, true, true, false, true, true, true, true, true, true, false, false, false, false, false, false, false, false, false, false] = [19]
  rs1102 : Region.ready .any ops #[true, true, true, true, true, true, true, true, true, true, true, true, true, true, true, true, true, true, true, true, true, true, true, true, true, false, false, false, false, false, false, false, false, false, false, false] = [25]
  rs1112 : Region.ready .any ops #[true, true, true, true, true, true, true, true, true, true, true, true, true, true, true, true, true, true, true, true, true, true, true, true, true, true, false, false, false, false, false, false, false, false, false, false] = [26]
theorem infoU32s : (Try.prog.info? 23).map (fun i => (i.zero, i.size, i.bytes)) = some (some (.int .u32 0), 1, 4) := by kernel_rfl
theorem infoAdrS : (Try.prog.info? 24).map (fun i => (i.zero, i.size, i.bytes)) = some (some (.int .u32 0), 1, 4) := by kernel_rfl
section
variable {ops : Array Oper} {Sw : World → Prop} {Q : Exit → Act → World → Prop} {K : Act → World → Prop} {lo hi S : Nat}
theorem lay98 {k d : Nat} {T e : TypeId} {i : TypeInfo} {z : Value} (ho : ∃ o, ops[k]? = some o ∧ o.guard = none ∧ o.dst = some d ∧ o.op = .buildSlice T 1 #[(0, .const (.int .u32 98))])
    (hT : Try.prog.underlying T = some (.slice e)) (hi' : Try.prog.info? e = some i) (hz : i.zero = some z) (hsz : i.size = 1) {a : Act} {w : World}
    (h : K (a.put (some d) (.slice (some ⟨w.heap.size, 0, none⟩) 1 1)) (w.alloc (.cells #[.int .u32 98] e))) : wpOp Try.prog ops Q k K a w := by
  obtain ⟨o, h0, hg, hd, hop⟩ := ho
  refine op_at h0 hg (wp_buildSlice T e 1 _ hop #[.int .u32 98] i z hT hi' hz (by rw [hsz]; decide) (by rw [hsz]; decide) ?_ (by rw [hd]; exact h))
  rw [parts_eval a #[(0, .const (.int .u32 98))] .u32 [98] rfl, hsz]
  exact Great.fill_flat _ _ (fun v hv => by obtain ⟨n, _, rfl⟩ := List.mem_map.1 hv; rfl) (by simp)
theorem push98 {k d s x : Nat} {T e : TypeId} {i : TypeInfo} {z : Value} (ho : ∃ o, ops[k]? = some o ∧ o.guard = none ∧ o.dst = some d ∧ o.op = .call { callee := .builtin .append, args := #[.tmp s, .tmp x], argTypes := #[T, T] })
    (hT : Try.prog.underlying T = some (.slice e)) (hi' : Try.prog.info? e = some i) (hz : i.zero = some z) (hsz : i.size = 1) (hby : i.bytes = 4) (hz1 : z = .int .u32 0) (he : e ≠ 36) {a : Act} {w : World} {v y : Value} {n : Nat}
    (hv : a.tmps[s]? = some v) (hy : a.tmps[x]? = some y) (hown : LOwn lo hi S w e v n) (hone : One w e y) (hn : (n + 1) * 4 ≤ 140737488355328) (hlo : lo ≤ w.heap.size) (hS : S ≤ w.heap.size)
    (h : ∀ A c w', LOwn lo hi S w' e (.slice A (n + 1) c) (n + 1) → Stp lo hi S w w' → K (a.put (some d) (.slice A (n + 1) c)) w') : wpOp Try.prog ops Q k K a w := by
  obtain ⟨o, h0, hg, hd, hop⟩ := ho
  refine op_at h0 hg ?_
  obtain ⟨q, w', hr, h2, h3, A, c, rfl⟩ := run_append_stp (P := Try.prog) T o.type e i z hT hi' hz hsz hby (by rw [hz1]; rfl) he hown hone hn hlo hS
  unfold Oper.wp execOp
  simp only [hop, resolve, invoke, builtin, Sem.run_bind, Sem.run_pure, Result.andThen_ok, List.map_toArray, List.map_cons, List.map_nil, eval_of hv, eval_of hy, hr]
  show K (a.put o.dst _) w'
  rw [hd]
  exact h A c w' h2 h3
end
/-- From the start of the six to their end. -/
theorem wild98 {ops : Array Oper} {Sw I : World → Prop} {Q : Exit → Act → World → Prop} {lo hi S : Nat} {a1 : Act} {p o l : Value} {np no nl : Nat} (H : Six ops) (hI : ∀ w w', I w → Stp lo hi S w w' → I w') (hSw : ∀ w, I w → Sw w) (h1s : 160 ≤ a1.tmps.size)
    (hp : a1.tmps[137]? = some p) (ho : a1.tmps[144]? = some o) (hl : a1.tmps[151]? = some l) (bp : (np + 1) * 4 ≤ 140737488355328) (bo : (no + 1) * 4 ≤ 140737488355328) (bl : (nl + 1) * 4 ≤ 140737488355328)
    (done : ∀ a w, Mid I lo hi S a1 p o l np no nl true true true 3 a w → wpAnyT Try.prog .any ops Q Sw 27 9 #[true, true, true, true, true, true, true, true, true, true, true, true, true, true, true, true, true, true, true, true, true, true, true, true, true, true, true, false, false, false, false, false, false, false, false, false] a w)
    {a : Act} {w : World} (h0 : Mid I lo hi S a1 p o l np no nl false false false 0 a w) : wpAnyT Try.prog .any ops Q Sw 27 15 #[true, true, true, true, true, true, true, true, true, true, true, false, false, true, true, true, true, true, false, false, true, true, true, true, true, false, false, false, false, false, false, false, false, false, false, false] a w := by
  obtain ⟨i1, u1, u2, u3, u4⟩ := info_parts infoU32s
  obtain ⟨i2, v1, v2, v3, v4⟩ := info_parts infoAdrS
  have s1112 : ∀ a w, Mid I lo hi S a1 p o l np no nl true true true 2 a w → wpAnyT Try.prog .any ops Q Sw 27 10 #[true, true, true, true, true, true, true, true, true, true, true, true, true, true, true, true, true, true, true, true, true, true, true, true, true, true, false, false, false, false, false, false, false, false, false, false] a w := by
    intro a w h
    refine anyT_step H.rs1112 (by decide) (fun i hi => ?_)
    simp only [List.mem_cons, List.not_mem_nil, or_false] at hi
    subst hi
    obtain ⟨x, hx1, hx2⟩ := h.x3 rfl
    refine push98 H.p3 Try.underlying34 v1 v2 v3 v4 rfl (by decide) ((h.same 151 (by decide) (by decide) (by decide) (by decide) (by decide) (by decide)).trans hl) hx1 h.ls.l hx2 bl h.big.1 h.big.2 (fun A c w' hq hs => ?_)
    have h' := h.push3 hI h1s hq hs
    exact ⟨hSw _ h'.inv, done _ _ h'⟩
  have s1111 : ∀ a w, Mid I lo hi S a1 p o l np no nl true true true 1 a w → wpAnyT Try.prog .any ops Q Sw 27 11 #[true, true, true, true, true, true, true, true, true, true, true, true, true, true, true, true, true, true, true, false, true, true, true, true, true, true, false, false, false, false, false, false, false, false, false, false] a w := by
    intro a w h
    refine anyT_step H.rs1111 (by decide) (fun i hi => ?_)
    simp only [List.mem_cons, List.not_mem_nil, or_false] at hi
    subst hi
    obtain ⟨x, hx1, hx2⟩ := h.x2 rfl
    refine push98 H.p2 Try.underlying33 u1 u2 u3 u4 rfl (by decide) ((h.same 144 (by decide) (by decide) (by decide) (by decide) (by decide) (by decide)).trans ho) hx1 h.ls.o hx2 bo h.big.1 h.big.2 (fun A c w' hq hs => ?_)
    have h' := h.push2 hI h1s hq hs
    exact ⟨hSw _ h'.inv, s1112 _ _ h'⟩
  have s1102 : ∀ a w, Mid I lo hi S a1 p o l np no nl true true false 2 a w → wpAnyT Try.prog .any ops Q Sw 27 11 #[true, true, true, true, true, true, true, true, true, true, true, true, true, true, true, true, true, true, true, true, true, true, true, true, true, false, false, false, false, false, false, false, false, false, false, false] a w := by
    intro a w h
    refine anyT_step H.rs1102 (by decide) (fun i hi => ?_)
    simp only [List.mem_cons, List.not_mem_nil, or_false] at hi
    subst hi
    refine lay98 H.b3 Try.underlying34 v1 v2 v3 ?_
    have h' := h.alloc3 hI h1s (u := .int .u32 98) rfl
    exact ⟨hSw _ h'.inv, s1112 _ _ h'⟩
  have s1110 : ∀ a w, Mid I lo hi S a1 p o l np no nl true true true 0 a w → wpAnyT Try.prog .any ops Q Sw 27 12 #[true, true, true, true, true, true, true, true, true, true, true, true, false, true, true, true, true, true, true, false, true, true, true, true, true, true, false, false, false, false, false, false, false, false, false, false] a w := by
    intro a w h
    refine anyT_step H.rs1110 (by decide) (fun i hi => ?_)
    simp only [List.mem_cons, List.not_mem_nil, or_false] at hi
    subst hi
    obtain ⟨x, hx1, hx2⟩ := h.x1 rfl
    refine push98 H.p1 Try.underlying33 u1 u2 u3 u4 rfl (by decide) ((h.same 137 (by decide) (by decide) (by decide) (by decide) (by decide) (by decide)).trans hp) hx1 h.ls.p hx2 bp h.big.1 h.big.2 (fun A c w' hq hs => ?_)
    have h' := h.push1 hI h1s hq hs
    exact ⟨hSw _ h'.inv, s1111 _ _ h'⟩
  have s1011 : ∀ a w, Mid I lo hi S a1 p o l np no nl true false true 1 a w → wpAnyT Try.prog .any ops Q Sw 27 12 #[true, true, true, true, true, true, true, true, true, true, true, true, true, true, true, true, true, true, false, false, true, true, true, true, true, true, false, false, false, false, false, false, false, false, false, false] a w := by
    intro a w h
    refine anyT_step H.rs1011 (by decide) (fun i hi => ?_)
    simp only [List.mem_cons, List.not_mem_nil, or_false] at hi
    subst hi
    refine lay98 H.b2 Try.underlying33 u1 u2 u3 ?_
    have h' := h.alloc2 hI h1s (u := .int .u32 98) rfl
    exact ⟨hSw _ h'.inv, s1111 _ _ h'⟩
  have s1101 : ∀ a w, Mid I lo hi S a1 p o l np no nl true true false 1 a w → wpAnyT Try.prog .any ops Q Sw 27 12 #[true, true, true, true, true, true, true, true, true, true, true, true, true, true, true, true, true, true, true, false, true, true, true, true, true, false, false, false, false, false, false, false, false, false, false, false] a w := by
    intro a w h
    refine anyT_step H.rs1101 (by decide) (fun i hi => ?_)
    simp only [List.mem_cons, List.not_mem_nil, or_false] at hi
    rcases hi with rfl | rfl
    · obtain ⟨x, hx1, hx2⟩ := h.x2 rfl
      refine push98 H.p2 Try.underlying33 u1 u2 u3 u4 rfl (by decide) ((h.same 144 (by decide) (by decide) (by decide) (by decide) (by decide) (by decide)).trans ho) hx1 h.ls.o hx2 bo h.big.1 h.big.2 (fun A c w' hq hs => ?_)
      have h' := h.push2 hI h1s hq hs
      exact ⟨hSw _ h'.inv, s1102 _ _ h'⟩
    · refine lay98 H.b3 Try.underlying34 v1 v2 v3 ?_
      have h' := h.alloc3 hI h1s (u := .int .u32 98) rfl
      exact ⟨hSw _ h'.inv, s1111 _ _ h'⟩
  have s0110 : ∀ a w, Mid I lo hi S a1 p o l np no nl false true true 0 a w → wpAnyT Try.prog .any ops Q Sw 27 13 #[true, true, true, true, true, true, true, true, true, true, true, false, false, true, true, true, true, true, true, false, true, true, true, true, true, true, false, false, false, false, false, false, false, false, false, false] a w := by
    intro a w h
    refine anyT_step H.rs0110 (by decide) (fun i hi => ?_)
    simp only [List.mem_cons, List.not_mem_nil, or_false] at hi
    subst hi
    refine lay98 H.b1 Try.underlying33 u1 u2 u3 ?_
    have h' := h.alloc1 hI h1s (u := .int .u32 98) rfl
    exact ⟨hSw _ h'.inv, s1110 _ _ h'⟩
  have s1010 : ∀ a w, Mid I lo hi S a1 p o l np no nl true false true 0 a w → wpAnyT Try.prog .any ops Q Sw 27 13 #[true, true, true, true, true, true, true, true, true, true, true, true, false, true, true, true, true, true, false, false, true, true, true, true, true, true, false, false, false, false, false, false, false, false, false, false] a w := by
    intro a w h
    refine anyT_step H.rs1010 (by decide) (fun i hi => ?_)
    simp only [List.mem_cons, List.not_mem_nil, or_false] at hi
    rcases hi with rfl | rfl
    · obtain ⟨x, hx1, hx2⟩ := h.x1 rfl
      refine push98 H.p1 Try.underlying33 u1 u2 u3 u4 rfl (by decide) ((h.same 137 (by decide) (by decide) (by decide) (by decide) (by decide) (by decide)).trans hp) hx1 h.ls.p hx2 bp h.big.1 h.big.2 (fun A c w' hq hs => ?_)
      have h' := h.push1 hI h1s hq hs
      exact ⟨hSw _ h'.inv, s1011 _ _ h'⟩
    · refine lay98 H.b2 Try.underlying33 u1 u2 u3 ?_
      have h' := h.alloc2 hI h1s (u := .int .u32 98) rfl
      exact ⟨hSw _ h'.inv, s1110 _ _ h'⟩
  have s1100 : ∀ a w, Mid I lo hi S a1 p o l np no nl true true false 0 a w → wpAnyT Try.prog .any ops Q Sw 27 13 #[true, true, true, true, true, true, true, true, true, true, true, true, false, true, true, true, true, true, true, false, true, true, true, true, true, false, false, false, false, false, false, false, false, false, false, false] a w := by
    intro a w h
    refine anyT_step H.rs1100 (by decide) (fun i hi => ?_)
    simp only [List.mem_cons, List.not_mem_nil, or_false] at hi
    rcases hi with rfl | rfl
    · obtain ⟨x, hx1, hx2⟩ := h.x1 rfl
      refine push98 H.p1 Try.underlying33 u1 u2 u3 u4 rfl (by decide) ((h.same 137 (by decide) (by decide) (by decide) (by decide) (by decide) (by decide)).trans hp) hx1 h.ls.p hx2 bp h.big.1 h.big.2 (fun A c w' hq hs => ?_)
      have h' := h.push1 hI h1s hq hs
      exact ⟨hSw _ h'.inv, s1101 _ _ h'⟩
    · refine lay98 H.b3 Try.underlying34 v1 v2 v3 ?_
      have h' := h.alloc3 hI h1s (u := .int .u32 98) rfl
      exact ⟨hSw _ h'.inv, s1110 _ _ h'⟩
  have s1001 : ∀ a w, Mid I lo hi S a1 p o l np no nl true false false 1 a w → wpAnyT Try.prog .any ops Q Sw 27 13 #[true, true, true, true, true, true, true, true, true, true, true, true, true, true, true, true, true, true, false, false, true, true, true, true, true, false, false, false, false, false, false, false, false, false, false, false] a w := by
    intro a w h
    refine anyT_step H.rs1001 (by decide) (fun i hi => ?_)
    simp only [List.mem_cons, List.not_mem_nil, or_false] at hi
    rcases hi with rfl | rfl
    · refine lay98 H.b2 Try.underlying33 u1 u2 u3 ?_
      have h' := h.alloc2 hI h1s (u := .int .u32 98) rfl
      exact ⟨hSw _ h'.inv, s1101 _ _ h'⟩
    · refine lay98 H.b3 Try.underlying34 v1 v2 v3 ?_
      have h' := h.alloc3 hI h1s (u := .int .u32 98) rfl
      exact ⟨hSw _ h'.inv, s1011 _ _ h'⟩
  have s0010 : ∀ a w, Mid I lo hi S a1 p o l np no nl false false true 0 a w → wpAnyT Try.prog .any ops Q Sw 27 14 #[true, true, true, true, true, true, true, true, true, true, true, false, false, true, true, true, true, true, false, false, true, true, true, true, true, true, false, false, false, false, false, false, false, false, false, false] a w := by
    intro a w h
    refine anyT_step H.rs0010 (by decide) (fun i hi => ?_)
    simp only [List.mem_cons, List.not_mem_nil, or_false] at hi
    rcases hi with rfl | rfl
    · refine lay98 H.b1 Try.underlying33 u1 u2 u3 ?_
      have h' := h.alloc1 hI h1s (u := .int .u32 98) rfl
      exact ⟨hSw _ h'.inv, s1010 _ _ h'⟩
    · refine lay98 H.b2 Try.underlying33 u1 u2 u3 ?_
      have h' := h.alloc2 hI h1s (u := .int .u32 98) rfl
      exact ⟨hSw _ h'.inv, s0110 _ _ h'⟩
  have s0100 : ∀ a w, Mid I lo hi S a1 p o l np no nl false true false 0 a w → wpAnyT Try.prog .any ops Q Sw 27 14 #[true, true, true, true, true, true, true, true, true, true, true, false, false, true, true, true, true, true, true, false, true, true, true, true, true, false, false, false, false, false, false, false, false, false, false, false] a w := by
    intro a w h
    refine anyT_step H.rs0100 (by decide) (fun i hi => ?_)
    simp only [List.mem_cons, List.not_mem_nil, or_false] at hi
    rcases hi with rfl | rfl
    · refine lay98 H.b1 Try.underlying33 u1 u2 u3 ?_
      have h' := h.alloc1 hI h1s (u := .int .u32 98) rfl
      exact ⟨hSw _ h'.inv, s1100 _ _ h'⟩
    · refine lay98 H.b3 Try.underlying34 v1 v2 v3 ?_
      have h' := h.alloc3 hI h1s (u := .int .u32 98) rfl
      exact ⟨hSw _ h'.inv, s0110 _ _ h'⟩
  have s1000 : ∀ a w, Mid I lo hi S a1 p o l np no nl true false false 0 a w → wpAnyT Try.prog .any ops Q Sw 27 14 #[true, true, true, true, true, true, true, true, true, true, true, true, false, true, true, true, true, true, false, false, true, true, true, true, true, false, false, false, false, false, false, false, false, false, false, false] a w := by
    intro a w h
    refine anyT_step H.rs1000 (by decide) (fun i hi => ?_)
    simp only [List.mem_cons, List.not_mem_nil, or_false] at hi
    rcases hi with rfl | rfl | rfl
    · obtain ⟨x, hx1, hx2⟩ := h.x1 rfl
      refine push98 H.p1 Try.underlying33 u1 u2 u3 u4 rfl (by decide) ((h.same 137 (by decide) (by decide) (by decide) (by decide) (by decide) (by decide)).trans hp) hx1 h.ls.p hx2 bp h.big.1 h.big.2 (fun A c w' hq hs => ?_)
      have h' := h.push1 hI h1s hq hs
      exact ⟨hSw _ h'.inv, s1001 _ _ h'⟩
    · refine lay98 H.b2 Try.underlying33 u1 u2 u3 ?_
      have h' := h.alloc2 hI h1s (u := .int .u32 98) rfl
      exact ⟨hSw _ h'.inv, s1100 _ _ h'⟩
    · refine lay98 H.b3 Try.underlying34 v1 v2 v3 ?_
      have h' := h.alloc3 hI h1s (u := .int .u32 98) rfl
      exact ⟨hSw _ h'.inv, s1010 _ _ h'⟩
  have s0000 : ∀ a w, Mid I lo hi S a1 p o l np no nl false false false 0 a w → wpAnyT Try.prog .any ops Q Sw 27 15 #[true, true, true, true, true, true, true, true, true, true, true, false, false, true, true, true, true, true, false, false, true, true, true, true, true, false, false, false, false, false, false, false, false, false, false, false] a w := by
    intro a w h
    refine anyT_step H.rs0000 (by decide) (fun i hi => ?_)
    simp only [List.mem_cons, List.not_mem_nil, or_false] at hi
    rcases hi with rfl | rfl | rfl
    · refine lay98 H.b1 Try.underlying33 u1 u2 u3 ?_
      have h' := h.alloc1 hI h1s (u := .int .u32 98) rfl
      exact ⟨hSw _ h'.inv, s1000 _ _ h'⟩
    · refine lay98 H.b2 Try.underlying33 u1 u2 u3 ?_
      have h' := h.alloc2 hI h1s (u := .int .u32 98) rfl
      exact ⟨hSw _ h'.inv, s0100 _ _ h'⟩
    · refine lay98 H.b3 Try.underlying34 v1 v2 v3 ?_
      have h' := h.alloc3 hI h1s (u := .int .u32 98) rfl
      exact ⟨hSw _ h'.inv, s0010 _ _ h'⟩
  exact s0000 _ _ h0
/-- The frame behind the six. -/
theorem Mid.frame {I : World → Prop} {lo hi S : Nat} {a1 : Act} {p o l : Value} {np no nl : Nat} {a : Act} {w : World} (h : Mid I lo hi S a1 p o l np no nl true true true 3 a w) :
    ∃ x1 x2 x3 A1 k1 A2 k2 A3 k3, a = (((((a1.put (some 138) x1).put (some 139) (.slice A1 (np + 1) k1)).put (some 145) x2).put (some 146) (.slice A2 (no + 1) k2)).put (some 152) x3).put (some 153) (.slice A3 (nl + 1) k3) ∧
      LOwn lo hi S w 23 (.slice A1 (np + 1) k1) (np + 1) ∧ LOwn lo hi S w 23 (.slice A2 (no + 1) k2) (no + 1) ∧ LOwn lo hi S w 24 (.slice A3 (nl + 1) k3) (nl + 1) ∧ I w := by
  obtain ⟨x1, e1, _⟩ := h.x1 rfl
  obtain ⟨x2, e2, _⟩ := h.x2 rfl
  obtain ⟨x3, e3, _⟩ := h.x3 rfl
  obtain ⟨A1, k1, f1, g1⟩ := h.q1 (by decide)
  obtain ⟨A2, k2, f2, g2⟩ := h.q2 (by decide)
  obtain ⟨A3, k3, f3, g3⟩ := h.q3 (by decide)
  refine ⟨x1, x2, x3, A1, k1, A2, k2, A3, k3, ?_, g1, g2, g3, h.inv⟩
  have hlt : ∀ {k : Nat} {v : Value}, a.tmps[k]? = some v → k < a1.tmps.size := fun hk => by rw [← h.size]; exact (Array.getElem?_eq_some_iff.1 hk).1
  have hat : ∀ (b : Act) (d : Nat) (v : Value), b.tmps.size = a1.tmps.size → b.defers = a1.defers → a.tmps[d]? = some v → (b.put (some d) v).tmps.size = a1.tmps.size ∧ (b.put (some d) v).defers = a1.defers ∧ (b.put (some d) v).tmps[d]? = a.tmps[d]? := fun b d v h1 h2 h3 => ⟨by rw [← h1]; simp [Act.put], h2, by rw [put_same (by rw [h1]; exact hlt h3), h3]⟩
  obtain ⟨c1, hc1⟩ : ∃ b, b = a1.put (some 138) x1 := ⟨_, rfl⟩
  obtain ⟨c2, hc2⟩ : ∃ b, b = c1.put (some 139) (.slice A1 (np + 1) k1) := ⟨_, rfl⟩
  obtain ⟨c3, hc3⟩ : ∃ b, b = c2.put (some 145) x2 := ⟨_, rfl⟩
  obtain ⟨c4, hc4⟩ : ∃ b, b = c3.put (some 146) (.slice A2 (no + 1) k2) := ⟨_, rfl⟩
  obtain ⟨c5, hc5⟩ : ∃ b, b = c4.put (some 152) x3 := ⟨_, rfl⟩
  obtain ⟨c6, hc6⟩ : ∃ b, b = c5.put (some 153) (.slice A3 (nl + 1) k3) := ⟨_, rfl⟩
  rw [← hc1, ← hc2, ← hc3, ← hc4, ← hc5, ← hc6]
  obtain ⟨s1, d1, t1⟩ := hat a1 138 x1 rfl rfl e1
  rw [← hc1] at s1 d1 t1
  obtain ⟨s2, d2, t2⟩ := hat c1 139 _ s1 d1 f1
  rw [← hc2] at s2 d2 t2
  obtain ⟨s3, d3, t3⟩ := hat c2 145 _ s2 d2 e2
  rw [← hc3] at s3 d3 t3
  obtain ⟨s4, d4, t4⟩ := hat c3 146 _ s3 d3 f2
  rw [← hc4] at s4 d4 t4
  obtain ⟨s5, d5, t5⟩ := hat c4 152 _ s4 d4 e3
  rw [← hc5] at s5 d5 t5
  obtain ⟨s6, d6, t6⟩ := hat c5 153 _ s5 d5 f3
  rw [← hc6] at s6 d6 t6
  have key : a.tmps = c6.tmps := by
    refine Array.ext_getElem? fun k => ?_
    by_cases n6 : k = 153
    · rw [n6]; exact t6.symm
    have o6 : c6.tmps[k]? = c5.tmps[k]? := by rw [hc6]; exact put_other n6
    rw [o6]
    by_cases n5 : k = 152
    · rw [n5]; exact t5.symm
    have o5 : c5.tmps[k]? = c4.tmps[k]? := by rw [hc5]; exact put_other n5
    rw [o5]
    by_cases n4 : k = 146
    · rw [n4]; exact t4.symm
    have o4 : c4.tmps[k]? = c3.tmps[k]? := by rw [hc4]; exact put_other n4
    rw [o4]
    by_cases n3 : k = 145
    · rw [n3]; exact t3.symm
    have o3 : c3.tmps[k]? = c2.tmps[k]? := by rw [hc3]; exact put_other n3
    rw [o3]
    by_cases n2 : k = 139
    · rw [n2]; exact t2.symm
    have o2 : c2.tmps[k]? = c1.tmps[k]? := by rw [hc2]; exact put_other n2
    rw [o2]
    by_cases n1 : k = 138
    · rw [n1]; exact t1.symm
    have o1 : c1.tmps[k]? = a1.tmps[k]? := by rw [hc1]; exact put_other n1
    rw [o1]
    exact h.same k n1 n2 n3 n4 n5 n6
  have hd := h.defers.trans d6.symm
  clear hat hlt h
  cases a
  cases c6
  dsimp only at key hd
  rw [key, hd]
theorem quiet_imp {P : Program} {ops : Array Oper} {C : World → Prop} {K K' : Act → Prop} (h : ∀ a, K a → K' a) : ∀ (l : List Oper) (a : Act), wpQuiet P ops C K l a → wpQuiet P ops C K' l a
  | [], a, hh => h a hh
  | o :: l, a, hh => by
    unfold wpQuiet at hh ⊢
    split
    · rename_i hw
      rw [if_pos hw] at hh
      exact Oper.quiet_mono (fun a' h2 => quiet_imp h l a' h2) hh
    · rename_i hw
      rw [if_neg hw] at hh
      exact quiet_imp h l _ hh
/-- The whole region. -/
theorem beg98 : ([0, 1, 6, 7, 8, 9, 10, 13, 14, 15, 16, 17, 20, 21, 22, 23, 24] : List Nat).foldl (fun (l : Array Bool) k => l.setIfInBounds k true) ((((Array.replicate 36 false).setIfInBounds 2 true).setIfInBounds 3 true).setIfInBounds 4 true |>.setIfInBounds 5 true) = #[true, true, true, true, true, true, true, true, true, true, true, false, false, true, true, true, true, true, false, false, true, true, true, true, true, false, false, false, false, false, false, false, false, false, false, false] := by kernel_rfl
def start98 : Array Bool := (((Array.replicate 36 false).setIfInBounds 2 true).setIfInBounds 3 true).setIfInBounds 4 true |>.setIfInBounds 5 true
def ok98 (l : List Oper) : Bool :=
  Region.noSelect l.toArray && sinkX .any l.toArray 27 [2, 3, 4, 5] && Region.chainB .any l.toArray 27 && decide (l.length = 36) && takeB .any l.toArray 27 [0, 1, 6, 7, 8, 9, 10, 13, 14, 15, 16, 17, 20, 21, 22, 23, 24] start98 && Region.seqB .any l.toArray 9 27 #[true, true, true, true, true, true, true, true, true, true, true, true, true, true, true, true, true, true, true, true, true, true, true, true, true, true, true, false, false, false, false, false, false, false, false, false]
    && takeB .any l.toArray 27 [2, 3, 4, 5] (Array.replicate 36 false)
structure Four (ops : Array Oper) : Prop where
  m2 : ∃ o, ops[2]? = some o ∧ o.guard = none ∧ o.dst = some 129 ∧ o.op = .move (.tmp 8)
  m3 : ∃ o, ops[3]? = some o ∧ o.guard = none ∧ o.dst = some 130 ∧ o.op = .move (.tmp 10)
  m4 : ∃ o, ops[4]? = some o ∧ o.guard = none ∧ o.dst = some 131 ∧ o.op = .move (.tmp 8)
  m5 : ∃ o, ops[5]? = some o ∧ o.guard = none ∧ o.dst = some 132 ∧ o.op = .move (.tmp 10)
/-- The frame behind the first four copies. -/
def four98 (a : Act) : Act := (((a.put (some 129) (a.eval (.tmp 8))).put (some 130) (a.eval (.tmp 10))).put (some 131) (a.eval (.tmp 8))).put (some 132) (a.eval (.tmp 10))
theorem eval_put_ne {a : Act} {d s : Nat} {v : Value} (h : s ≠ d) : (a.put (some d) v).eval (.tmp s) = a.eval (.tmp s) := by
  show (a.put (some d) v).tmps.getD s undef = a.tmps.getD s undef
  rw [Array.getD_eq_getD_getElem?, Array.getD_eq_getD_getElem?, put_other h]
theorem take_cons {md : Region.Mode} {ops : Array Oper} {n k : Nat} {ks : List Nat} {listed : Array Bool} (h : takeB md ops n (k :: ks) listed = true) : (Region.ready md ops listed).contains k = true ∧ Region.free md ops listed k = true ∧ k < n ∧ takeB md ops n ks (listed.setIfInBounds k true) = true := by
  simp only [takeB, Bool.and_eq_true, decide_eq_true_eq] at h
  exact ⟨h.1.1.1.1, h.1.1.1.2, h.1.1.2, h.2⟩
theorem wp_region_98 {id : Nat} {Q : Exit → Act → World → Prop} {a : Act} {w : World} {l : List Oper} (seg : List Oper) (I : World → Prop) (lo hi S : Nat) (p o l3 : Value) (np no nl : Nat) (hm : Try.prog.follows .mixedOrders = true) (hB : ok98 l = true) (F : Four l.toArray) (H : Six l.toArray) (hseg : [0, 1, 6, 7, 8, 9, 10, 13, 14, 15, 16, 17, 20, 21, 22, 23, 24].map (fun k => l.toArray[k]?) = seg.map some)
    (hI : ∀ w w', I w → Stp lo hi S w w' → I w') (hw : I { w with drawn := w.drawn + 1 }) (big : lo ≤ w.heap.size ∧ S ≤ w.heap.size) (ls : Ls3 lo hi S { w with drawn := w.drawn + 1 } p o l3 np no nl) (bp : (np + 1) * 4 ≤ 140737488355328) (bo : (no + 1) * 4 ≤ 140737488355328) (bl : (nl + 1) * 4 ≤ 140737488355328)
    (h : wpQuiet Try.prog l.toArray (fun w' => ∃ p : InW I, w' = p.w) (fun a1 => 160 ≤ a1.tmps.size ∧ a1.tmps[137]? = some p ∧ a1.tmps[144]? = some o ∧ a1.tmps[151]? = some l3 ∧ ∀ x1 x2 x3 A1 k1 A2 k2 A3 k3 w', I w' → LOwn lo hi S w' 23 (.slice A1 (np + 1) k1) (np + 1) → LOwn lo hi S w' 23 (.slice A2 (no + 1) k2) (no + 1) → LOwn lo hi S w' 24 (.slice A3 (nl + 1) k3) (nl + 1) →
      wpList Try.prog l.toArray (NoPanic Q) (l.drop 27) ((((((a1.put (some 138) x1).put (some 139) (.slice A1 (np + 1) k1)).put (some 145) x2).put (some 146) (.slice A2 (no + 1) k2)).put (some 152) x3).put (some 153) (.slice A3 (nl + 1) k3)) w') seg (four98 a)) : (Code.region id l.toArray true).wp Try.prog Q a w := by
  simp only [ok98, Bool.and_eq_true, decide_eq_true_eq] at hB
  obtain ⟨⟨⟨⟨⟨⟨hsel, hs⟩, hc⟩, hlen⟩, htake⟩, hseq⟩, hfour⟩ := hB
  refine wp_region_noPanic (wp_region_any hm ?_)
  have hsize : l.toArray.size = 36 := by simpa using hlen
  rw [hsize]
  obtain ⟨r2, f2, _, hfour⟩ := take_cons hfour
  obtain ⟨r3, f3, _, hfour⟩ := take_cons hfour
  obtain ⟨r4, f4, _, hfour⟩ := take_cons hfour
  obtain ⟨r5, f5, _, _⟩ := take_cons hfour
  have inv0 : HeadInv .any l.toArray 27 (Array.replicate 36 false) :=
    ⟨by simp [hlen], fun j oj _ hl => (by rw [getD_replicate_false] at hl; cases hl), fun t _ ht => getD_in (by simpa [hlen] using ht) (getD_replicate_false _ _)⟩
  have inv1 : HeadInv .any l.toArray 27 start98 := (((inv0.set (by simpa using r2) (by decide)).set (by simpa using r3) (by decide)).set (by simpa using r4) (by decide)).set (by simpa using r5) (by decide)
  obtain ⟨o2, e2, g2, d2, p2⟩ := F.m2
  obtain ⟨o3, e3, g3, d3, p3⟩ := F.m3
  obtain ⟨o4, e4, g4, d4, p4⟩ := F.m4
  obtain ⟨o5, e5, g5, d5, p5⟩ := F.m5
  refine any_move e2 p2 d2 g2 hsel f2 r2 (fun d v c a w hh => hh) ?_
  refine any_move e3 p3 d3 g3 hsel f3 r3 (fun d v c a w hh => hh) ?_
  refine any_move e4 p4 d4 g4 hsel f4 r4 (fun d v c a w hh => hh) ?_
  refine any_move e5 p5 d5 g5 hsel f5 r5 (fun d v c a w hh => hh) ?_
  rw [eval_put_ne (s := 10) (d := 131) (by decide), eval_put_ne (s := 10) (d := 130) (by decide), eval_put_ne (s := 10) (d := 129) (by decide), eval_put_ne (s := 8) (d := 130) (by decide), eval_put_ne (s := 8) (d := 129) (by decide)]
  show wpAny _ _ _ _ 32 start98 (four98 a) _
  refine wpAny_of_T (S := fun w' => ∃ p : InW I, w' = p.w) (n := 27) _ _ _ _ ?_
  refine anyT_take (g := 15) (ex := [2, 3, 4, 5]) hsel hs hc (by rw [hsize]; decide) (fun d v c a w hh => hh) [0, 1, 6, 7, 8, 9, 10, 13, 14, 15, 16, 17, 20, 21, 22, 23, 24] seg start98 (four98 a) _ htake hseg inv1 (by decide) ⟨⟨_, hw⟩, rfl⟩ ?_
  refine quiet_imp (fun a1 hh => ?_) seg (four98 a) h
  obtain ⟨h1s, hp, ho, hl, hK⟩ := hh
  rw [start98, beg98]
  refine wild98 (a1 := a1) (S := S) (lo := lo) (hi := hi) (I := I) H hI (fun w' hw' => ⟨⟨w', hw'⟩, rfl⟩) h1s hp ho hl bp bo bl (fun a' w' hm' => ?_) ⟨rfl, rfl, fun _ _ _ _ _ _ _ => rfl, hw, big, ls, (fun e => nomatch e), (fun e => nomatch e), (fun e => nomatch e), (fun e => absurd e (by decide)), (fun e => absurd e (by decide)), (fun e => absurd e (by decide))⟩
  obtain ⟨x1, x2, x3, A1, k1, A2, k2, A3, k3, rfl, g1, g2, g3, g4⟩ := hm'.frame
  have hdl : (l.drop 27).length = 9 := by simp [hlen]
  have := anyT_seq (md := .any) (S := fun w' => ∃ p : InW I, w' = p.w) (n := 27) (l.drop 27) 27 #[true, true, true, true, true, true, true, true, true, true, true, true, true, true, true, true, true, true, true, true, true, true, true, true, true, true, true, false, false, false, false, false, false, false, false, false] _ w' (Nat.le_refl _) (fun j => by simp [List.getElem?_drop]) (by rw [hdl]; exact hseq) (hK x1 x2 x3 A1 k1 A2 k2 A3 k3 w' g4 g1 g2 g3)
  rw [hdl] at this
  exact this
end Go.Proofs.Ytbanbommgcjmjaa

/-
  Joined texts: Mix1, Mix2.
-/
import Derived.Test.YtbanbommgcjmjaaMRoutesAdverts2
/-
  A region that draws its order, walked along a tree: plain operations (any of which may be taken first), barriers (alone), and forks, where one operation that waits for nothing (an alloc) may come ahead of a barrier: no program in sight.
-/
namespace Go.Proofs.Ytbanbommgcjmjaa
open Go Go.RowKit Go.Sort

section
variable {P : Program} {ops : Array Oper} {md : Region.Mode} {S : World → Prop} {Q : Exit → Act → World → Prop}
/-- An operation that hands back a value, or stops: besides those of plainB, max and min, and a slice cut. -/
def plainC : Op → Bool
  | .call c => (match c.callee with
    | .builtin .max => true
    | .builtin .min => true
    | _ => false)
  | .slice _ _ _ _ _ => true
  | o => plainB o
/-- The tree of a walk. -/
inductive MixT
  | done
  | plain (k : Nat) (t : MixT)
  | bar (k : Nat) (t : MixT)
  | fork (k : Nat) (t : MixT) (f : Nat) (u : MixT)
def MixT.depth : MixT → Nat
  | .done => 0
  | .plain _ t => t.depth + 1
  | .bar _ t => t.depth + 1
  | .fork _ t _ _ => t.depth + 1
/-- The region's edges bear the tree. -/
def treeB (md : Region.Mode) (ops : Array Oper) : MixT → Array Bool → Bool
  | .done, listed => (Region.ready md ops listed).isEmpty
  | .plain k t, listed => (Region.ready md ops listed).contains k && Region.free md ops listed k && (match ops[k]? with | some o => plainC o.op | none => false) && treeB md ops t (listed.setIfInBounds k true)
  | .bar k t, listed => decide (Region.ready md ops listed = [k]) && treeB md ops t (listed.setIfInBounds k true)
  | .fork k t f u, listed => (decide (Region.ready md ops listed = [k, f]) || decide (Region.ready md ops listed = [f, k])) && decide (t.depth = u.depth) && treeB md ops t (listed.setIfInBounds k true) && treeB md ops u (listed.setIfInBounds f true)
/-- An operation that comes up, and what follows. -/
def stepW (P : Program) (ops : Array Oper) (Q : Exit → Act → World → Prop) (k : Nat) (S : World → Prop) (K : (World → Prop) → Act → World → Prop) (a : Act) (w : World) : Prop :=
  ∃ o, ops[k]? = some o ∧ if Region.wanted o (yielded ops a.tmps) then o.wp P a w (fun a' w' => ∃ S' : World → Prop, S' w' ∧ (∀ v, S' v → S v) ∧ K S' a' w') Q else K S (a.put o.dst undef) w
def treeW (P : Program) (ops : Array Oper) (Q : Exit → Act → World → Prop) : MixT → (World → Prop) → Act → World → Prop
  | .done, _, a, w => Q .normal a w
  | .plain k t, S, a, w => ∃ o, ops[k]? = some o ∧ if Region.wanted o (yielded ops a.tmps) then o.quiet P a S (fun a' => treeW P ops Q t S a' w) else treeW P ops Q t S (a.put o.dst undef) w
  | .bar k t, S, a, w => stepW P ops Q k S (treeW P ops Q t) a w
  | .fork k t f u, S, a, w => stepW P ops Q k S (treeW P ops Q t) a w ∧ stepW P ops Q f S (treeW P ops Q u) a w
/-- The same as a list of marks: a plain operation, a barrier, a barrier with a fork ahead. -/
def treeOk (l : List Oper) (t : MixT) : Bool := Region.noSelect l.toArray && decide (t.depth = l.length) && treeB .any l.toArray t (Array.replicate l.length false)
/-- Some plain operations in a row, then the rest of the tree. -/
def plains (t : MixT) : List Nat → MixT
  | [] => t
  | k :: ks => .plain k (plains t ks)
end
end Go.Proofs.Ytbanbommgcjmjaa

/-
  The order's check of a region that draws its order, by bit masks: for regions of a hundred operations. No program in sight.
-/
namespace Go.Proofs.Ytbanbommgcjmjaa
open Go Go.RowKit Go.Sort

/-- What the check asks of an operation: what it waits for, what it writes, what it looks at, whether it is plain. -/
abbrev ORow := Nat × Nat × Nat × Bool
def maskOf (l : List Nat) : Nat := l.foldr (fun i a => Nat.lor (2 ^ i) a) 0
theorem testBit_mask (l : List Nat) (i : Nat) : (maskOf l).testBit i = decide (i ∈ l) := by
  induction l with
  | nil => simp [maskOf]
  | cons x l ih =>
    have h : maskOf (x :: l) = 2 ^ x ||| maskOf l := rfl
    rw [h, Nat.testBit_or, ih, Nat.testBit_two_pow, Bool.eq_iff_iff]
    simp only [Bool.or_eq_true, decide_eq_true_eq, List.mem_cons]
    exact ⟨fun h => h.imp Eq.symm id, fun h => h.imp Eq.symm id⟩
section
variable {P : Program} {ops : Array Oper} {md : Region.Mode} {S : World → Prop} {Q : Exit → Act → World → Prop}
def depsOf (md : Region.Mode) (o : Oper) : List Nat := (o.after.toList.filter (fun e => Region.binds md e)).map (·.on)
def rowOf (md : Region.Mode) (ops : Array Oper) (o : Oper) : ORow := (maskOf (depsOf md o), (match o.dst with | some d => 2 ^ d | none => 0), maskOf (o.looksAt ops), plainB o.op)
def subM (a b : Nat) : Bool := Nat.beq (Nat.land a b) a
def disjR (x y : ORow) : Bool := Nat.beq (Nat.land x.2.1 y.2.2.1) 0 && (Nat.beq (Nat.land y.2.1 x.2.2.1) 0 && Nat.beq (Nat.land x.2.1 y.2.1) 0)
def pairsR (i : Nat) (x : ORow) : Nat → List ORow → Bool
  | _, [] => true
  | j, y :: r => (Nat.testBit x.1 j || (Nat.testBit y.1 i || disjR x y)) && pairsR i x (j + 1) r
def allPairs : Nat → List ORow → Bool
  | _, [] => true
  | i, x :: r => pairsR i x (i + 1) r && allPairs (i + 1) r
def onlyR (L k : Nat) : Nat → List ORow → Bool
  | _, [] => true
  | j, y :: r => (Nat.beq j k || (Nat.testBit L j || !subM y.1 L)) && onlyR L k (j + 1) r
def allSet (L : Nat) : Nat → Bool
  | 0 => true
  | n + 1 => Nat.testBit L n && allSet L n
def goR (rows : List ORow) (n : Nat) : List (Nat × Bool) → Nat → Bool
  | [], L => allSet L n
  | (k, b) :: m, L => (match rows[k]? with
      | some y => !Nat.testBit L k && (subM y.1 L && (match b with | true => onlyR L k 0 rows | false => y.2.2.2))
      | none => false) && goR rows n m (Nat.lor L (2 ^ k))
def eqRows : List ORow → List ORow → Bool
  | [], [] => true
  | x :: r, y :: s => Nat.beq x.1 y.1 && (Nat.beq x.2.1 y.2.1 && (Nat.beq x.2.2.1 y.2.2.1 && (x.2.2.2 == y.2.2.2 && eqRows r s)))
  | _, _ => false
theorem eqRows_eq : ∀ {r s : List ORow}, eqRows r s = true → r = s
  | [], [], _ => rfl
  | x :: r, y :: s, h => by
    simp only [eqRows, Bool.and_eq_true, beq_iff_eq] at h
    obtain ⟨h1, h2, h3, h4, h5⟩ := h
    obtain ⟨a, b, c, d⟩ := x
    obtain ⟨a', b', c', d'⟩ := y
    dsimp only at h1 h2 h3 h4
    rw [eqRows_eq h5, Nat.eq_of_beq_eq_true h1, Nat.eq_of_beq_eq_true h2, Nat.eq_of_beq_eq_true h3, h4]
  | [], _ :: _, h => by simp [eqRows] at h
  | _ :: _, [], h => by simp [eqRows] at h
def mixFast (l : List Oper) (rows : List ORow) (m : List (Nat × Bool)) : Bool :=
  Region.noSelect l.toArray && (Nat.beq m.length l.length && (eqRows (l.map (rowOf .any l.toArray)) rows && (allPairs 0 rows && goR rows l.length m 0)))
theorem sub_bits {a b : Nat} (h : subM a b = true) (i : Nat) (hi : a.testBit i = true) : b.testBit i = true := by
  have e : a &&& b = a := Nat.eq_of_beq_eq_true h
  have := congrArg (fun x => Nat.testBit x i) e
  simp only [Nat.testBit_and, hi, Bool.true_and] at this
  exact this
theorem sub_of_bits {a b : Nat} (h : ∀ i, a.testBit i = true → b.testBit i = true) : subM a b = true := by
  have e : a &&& b = a := Nat.eq_of_testBit_eq fun i => by
    rw [Nat.testBit_and]
    cases ha : a.testBit i with
    | true => rw [h i ha]; rfl
    | false => rfl
  unfold subM
  exact Nat.beq_eq.symm ▸ e
theorem disj_bits {a b : Nat} (h : Nat.beq (Nat.land a b) 0 = true) (i : Nat) (ha : a.testBit i = true) : b.testBit i = false := by
  have e : a &&& b = 0 := Nat.eq_of_beq_eq_true h
  have := congrArg (fun x => Nat.testBit x i) e
  simpa [Nat.testBit_and, ha] using this
theorem deps_bit (o : Oper) (i : Nat) : (maskOf (depsOf md o)).testBit i = true ↔ ∃ e ∈ o.after, Region.binds md e = true ∧ e.on = i := by
  rw [testBit_mask, decide_eq_true_eq]
  simp only [depsOf, List.mem_map, List.mem_filter, Array.mem_toList_iff]
  exact ⟨fun ⟨e, ⟨h1, h2⟩, h3⟩ => ⟨e, h1, h2, h3⟩, fun ⟨e, h1, h2, h3⟩ => ⟨e, ⟨h1, h2⟩, h3⟩⟩
theorem disj_apart {x y : Oper} (h : disjR (rowOf md ops x) (rowOf md ops y) = true) : x.apart ops y = true := by
  simp only [disjR, Bool.and_eq_true, rowOf] at h
  obtain ⟨h1, h2, h3⟩ := h
  unfold Oper.apart
  cases hx : x.dst with
  | none =>
    cases hy : y.dst with
    | none => rfl
    | some d' =>
      rw [hy] at h2
      have := disj_bits h2 d' (by simp)
      rw [testBit_mask] at this
      simpa using this
  | some d =>
    rw [hx] at h1 h3
    have a1 := disj_bits h1 d (by simp)
    rw [testBit_mask] at a1
    have a3 := disj_bits h3 d (by simp)
    cases hy : y.dst with
    | none => simpa using a1
    | some d' =>
      rw [hy] at h2 a3
      have a2 := disj_bits h2 d' (by simp)
      rw [testBit_mask] at a2
      simp only [Nat.testBit_two_pow, decide_eq_false_iff_not] at a3
      simp only [decide_eq_false_iff_not] at a1 a2
      simp only [Bool.and_eq_true, Bool.not_eq_true', bne_iff_ne, ne_eq, Option.some.injEq, List.contains_eq_mem, decide_eq_false_iff_not]
      exact ⟨⟨a1, a3⟩, a2⟩
theorem disj_symm {x y : ORow} (h : disjR x y = true) : disjR y x = true := by
  simp only [disjR, Bool.and_eq_true] at h ⊢
  exact ⟨h.2.1, h.1, by rw [show Nat.land y.2.1 x.2.1 = Nat.land x.2.1 y.2.1 from Nat.and_comm _ _]; exact h.2.2⟩
theorem pairs_get {i : Nat} {x : ORow} : ∀ {s : Nat} {r : List ORow}, pairsR i x s r = true → ∀ (j : Nat) (y : ORow), r[j]? = some y → x.1.testBit (s + j) = true ∨ y.1.testBit i = true ∨ disjR x y = true
  | s, [], _, j, y, hj => by simp at hj
  | s, z :: r, h, j, y, hj => by
    simp only [pairsR, Bool.and_eq_true, Bool.or_eq_true] at h
    cases j with
    | zero => simp at hj; rw [← hj]; exact h.1
    | succ j =>
      have := pairs_get h.2 j y (by simpa using hj)
      rwa [show s + (j + 1) = s + 1 + j by omega]
theorem all_get : ∀ {s : Nat} {r : List ORow}, allPairs s r = true → ∀ (i j : Nat) (x y : ORow), i < j → r[i]? = some x → r[j]? = some y → x.1.testBit (s + j) = true ∨ y.1.testBit (s + i) = true ∨ disjR x y = true
  | s, [], _, i, j, x, y, _, hi, _ => by simp at hi
  | s, z :: r, h, i, j, x, y, hij, hi, hj => by
    simp only [allPairs, Bool.and_eq_true] at h
    cases j with
    | zero => omega
    | succ j =>
      cases i with
      | zero =>
        simp at hi
        have := pairs_get h.1 j y (by simpa using hj)
        rw [← hi, Nat.add_zero]
        rwa [show s + (j + 1) = s + 1 + j by omega]
      | succ i =>
        have := all_get h.2 i j x y (by omega) (by simpa using hi) (by simpa using hj)
        rwa [show s + (j + 1) = s + 1 + j by omega, show s + (i + 1) = s + 1 + i by omega]
theorem only_get {L k : Nat} : ∀ {s : Nat} {r : List ORow}, onlyR L k s r = true → ∀ (j : Nat) (y : ORow), r[j]? = some y → s + j = k ∨ L.testBit (s + j) = true ∨ subM y.1 L = false
  | s, [], _, j, y, hj => by simp at hj
  | s, z :: r, h, j, y, hj => by
    simp only [onlyR, Bool.and_eq_true, Bool.or_eq_true, Bool.not_eq_true'] at h
    cases j with
    | zero =>
      simp at hj
      rw [← hj, Nat.add_zero]
      exact h.1.imp Nat.eq_of_beq_eq_true id
    | succ j =>
      have := only_get h.2 j y (by simpa using hj)
      rwa [show s + (j + 1) = s + 1 + j by omega]
theorem allSet_get {L : Nat} : ∀ {n : Nat}, allSet L n = true → ∀ i, i < n → L.testBit i = true
  | 0, _, i, h => by omega
  | n + 1, h, i, hi => by
    simp only [allSet, Bool.and_eq_true] at h
    by_cases e : i = n
    · rw [e]; exact h.1
    · exact allSet_get h.2 i (by omega)
theorem single_of {l : List Nat} {k : Nat} (hn : l.Nodup) (hk : k ∈ l) (h : ∀ x ∈ l, x = k) : l = [k] := by
  cases l with
  | nil => cases hk
  | cons a t =>
    obtain rfl := h a (by simp)
    cases t with
    | nil => rfl
    | cons b t =>
      have := h b (by simp)
      rw [this] at hn
      simp at hn
/-- The mask and the array of those that have come up. -/
def RelL (n L : Nat) (listed : Array Bool) : Prop := listed.size = n ∧ ∀ i, listed.getD i false = L.testBit i
theorem rel_true {n L : Nat} {listed : Array Bool} (h : RelL n L listed) {i : Nat} (hi : i < n) : listed.getD i true = L.testBit i := by
  rw [← h.2 i]
  have : i < listed.size := by rw [h.1]; exact hi
  simp [Array.getD, this]
theorem rel_set {n L k : Nat} {listed : Array Bool} (h : RelL n L listed) (hk : k < n) : RelL n (Nat.lor L (2 ^ k)) (listed.setIfInBounds k true) := by
  refine ⟨by simpa using h.1, fun i => ?_⟩
  have e : (Nat.lor L (2 ^ k)).testBit i = (L.testBit i || decide (k = i)) := by
    show (L ||| 2 ^ k).testBit i = _
    rw [Nat.testBit_or, Nat.testBit_two_pow]
  rw [e, ← h.2 i]
  have hs := h.1
  by_cases hik : k = i
  · subst hik
    have : k < listed.size := by omega
    simp [Array.getD, this]
  · rw [Array.getD_eq_getD_getElem?, Array.getD_eq_getD_getElem?, Array.getElem?_setIfInBounds_ne (fun e => hik e)]
    simp [hik]
theorem rows_get {l : List Oper} {rows : List ORow} (hr : l.map (rowOf md l.toArray) = rows) (j : Nat) : rows[j]? = (l.toArray[j]?).map (rowOf md l.toArray) := by
  rw [← hr, List.getElem?_map]; simp
theorem ready_iff {l : List Oper} {L : Nat} {listed : Array Bool} (h : RelL l.length L listed) {j : Nat} {o : Oper} (ho : l.toArray[j]? = some o) : j ∈ Region.ready md l.toArray listed ↔ L.testBit j = false ∧ subM (rowOf md l.toArray o).1 L = true := by
  have hj : j < l.length := by
    have := (Array.getElem?_eq_some_iff.1 ho).1
    simpa using this
  rw [mem_ready, rel_true h hj]
  refine and_congr Iff.rfl ⟨fun ⟨o', h1, h2⟩ => ?_, fun hs => ⟨o, ho, fun e he hb => ?_⟩⟩
  · rw [ho] at h1
    injection h1 with h1
    subst h1
    refine sub_of_bits fun i hi => ?_
    obtain ⟨e, he, hb, rfl⟩ := (deps_bit o i).1 hi
    rw [← h.2]; exact h2 e he hb
  · rw [h.2]
    exact sub_bits hs _ ((deps_bit o _).2 ⟨e, he, hb, rfl⟩)
theorem mixB_of_goR {l : List Oper} {rows : List ORow} (hr : l.map (rowOf md l.toArray) = rows) (hp : allPairs 0 rows = true) : ∀ (m : List (Nat × Bool)) (L : Nat) (listed : Array Bool), RelL l.length L listed → goR rows l.length m L = true → mixB md l.toArray m listed = true
  | [], L, listed, h, hg => by
    simp only [goR] at hg
    unfold mixB
    rw [List.isEmpty_iff, List.eq_nil_iff_forall_not_mem]
    intro j hj
    obtain ⟨h1, o, ho, _⟩ := mem_ready.1 hj
    have hjl : j < l.length := by
      have := (Array.getElem?_eq_some_iff.1 ho).1
      simpa using this
    rw [rel_true h hjl, allSet_get hg j hjl] at h1
    cases h1
  | (k, b) :: m, L, listed, h, hg => by
    unfold goR at hg
    rw [Bool.and_eq_true, rows_get hr] at hg
    obtain ⟨hg1, hg2⟩ := hg
    cases ho : l.toArray[k]? with
    | none => rw [ho] at hg1; cases hg1
    | some o =>
      rw [ho] at hg1
      simp only [Option.map_some, Bool.and_eq_true, Bool.not_eq_true'] at hg1
      obtain ⟨k1, k2, k3⟩ := hg1
      have hkl : k < l.length := by
        have := (Array.getElem?_eq_some_iff.1 ho).1
        simpa using this
      have ih := mixB_of_goR hr hp m _ _ (rel_set h hkl) hg2
      have hready := (ready_iff (md := md) h ho).2 ⟨k1, k2⟩
      cases b with
      | true =>
        dsimp only at k3
        unfold mixB
        rw [ih, Bool.and_true, decide_eq_true_eq]
        refine single_of ?_ hready fun j hj => ?_
        · unfold Region.ready
          exact List.Nodup.sublist List.filter_sublist List.nodup_range
        · obtain ⟨_, oj, hoj, _⟩ := mem_ready.1 hj
          obtain ⟨j1, j2⟩ := (ready_iff (md := md) h hoj).1 hj
          have hg := only_get k3 j (rowOf md l.toArray oj) (by rw [rows_get hr, hoj]; rfl)
          rw [Nat.zero_add, j1, j2] at hg
          rcases hg with hg | hg | hg
          · exact hg
          · cases hg
          · cases hg
      | false =>
        dsimp only at k3
        unfold mixB
        simp only [Bool.and_eq_true, ih, and_true, ho]
        refine ⟨⟨by simpa using hready, ?_⟩, k3⟩
        unfold Region.free
        simp only [ho, List.all_eq_true, List.mem_range]
        intro j hj
        have hjl : j < l.length := by simpa using hj
        rw [rel_true h hjl]
        cases hoj : l.toArray[j]? with
        | none => simp
        | some oj =>
          dsimp only
          by_cases hjk : j = k
          · simp [hjk]
          cases hL : L.testBit j with
          | true => simp
          | false =>
            have key : ((rowOf md l.toArray o).1.testBit j = true) ∨ ((rowOf md l.toArray oj).1.testBit k = true) ∨ o.apart l.toArray oj = true := by
              have rk : rows[k]? = some (rowOf md l.toArray o) := by rw [rows_get hr, ho]; rfl
              have rj : rows[j]? = some (rowOf md l.toArray oj) := by rw [rows_get hr, hoj]; rfl
              rcases Nat.lt_or_gt_of_ne hjk with hlt | hlt
              · have := all_get hp j k _ _ hlt rj rk
                rw [Nat.zero_add, Nat.zero_add] at this
                rcases this with e | e | e
                · exact Or.inr (Or.inl e)
                · exact Or.inl e
                · exact Or.inr (Or.inr (disj_apart (disj_symm e)))
              · have := all_get hp k j _ _ hlt rk rj
                rw [Nat.zero_add, Nat.zero_add] at this
                rcases this with e | e | e
                · exact Or.inl e
                · exact Or.inr (Or.inl e)
                · exact Or.inr (Or.inr (disj_apart e))
            rcases key with e | e | e
            · have := sub_bits k2 j e
              rw [hL] at this; cases this
            · obtain ⟨e', h1, h2, h3⟩ := (deps_bit oj k).1 e
              have : (oj.after.any fun e => Region.binds md e && e.on == k) = true := by
                rw [← Array.any_toList, List.any_eq_true]
                exact ⟨e', Array.mem_toList_iff.2 h1, by simp [h2, h3]⟩
              simp [this]
            · simp [e]
theorem mixFast_ok {l : List Oper} {rows : List ORow} {m : List (Nat × Bool)} (h : mixFast l rows m = true) : mixOk l m = true := by
  simp only [mixFast, Bool.and_eq_true] at h
  obtain ⟨h1, h2, h3, h4, h5⟩ := h
  simp only [mixOk, Bool.and_eq_true, decide_eq_true_eq]
  refine ⟨⟨h1, Nat.eq_of_beq_eq_true h2⟩, mixB_of_goR (eqRows_eq h3) h4 m 0 _ ⟨by simp, fun i => ?_⟩ h5⟩
  simp [Array.getD, Nat.zero_testBit]
theorem wp_region_mixF {id : Nat} {a : Act} {w : World} {l : List Oper} (m : List (Nat × Bool)) (rows : List ORow) (hm : P.follows .mixedOrders = true) (hB : mixFast l rows m = true)
    (h : mixW P l.toArray (NoPanic Q) m (fun w' => ∃ p : Regrown, w' = grow (redrawn w p.d) p.os) a { w with drawn := w.drawn + 1 }) : (Code.region id l.toArray true).wp P Q a w := wp_region_mix m hm (mixFast_ok hB) h
end
end Go.Proofs.Ytbanbommgcjmjaa

/-
  A region that draws its order, walked along a tree: plain operations (any of which may be taken first), barriers (alone), and forks, where one operation that waits for nothing (an alloc) may come ahead of a barrier: no program in sight.
-/
import Derived.Test.YtlhafehhkjjchaaMix0
namespace Go.Proofs.Ytlhafehhkjjchaa
open Go Go.RowKit Go.Sort

section
variable {P : Program} {ops : Array Oper} {md : Region.Mode} {S : World → Prop} {Q : Exit → Act → World → Prop}
/-- An operation that hands back a value, or stops: besides those of plainB, max and min, and a slice cut. -/
def plainC : Op → Bool
  | .call c => (match c.callee with
    | .builtin .max => true
    | .builtin .min => true
    | _ => false)
  | .slice _ _ _ _ _ => true
  | o => plainB o
theorem plainC_value {o : Oper} (h : plainC o.op = true) {ρ : Operand → Value} {w w' : World} {n : Go.Next} (hr : (execOp ρ o).run P w = .ok n w') : ∃ v, n = .value v := by
  obtain ⟨dst, op, type, pos, after, guard⟩ := o
  cases op with
  | call c =>
    obtain ⟨callee, args, argTypes⟩ := c
    cases callee with
    | builtin b =>
      cases b <;> simp only [plainC] at h
      all_goals first
        | (cases h; done)
        | (simp only [execOp, resolve, invoke, builtin, Sem.run_bind, Sem.run_pure, Result.andThen_ok] at hr; first | exact then_value (f := fun x => x) hr | exact then_value hr | (injection hr with hr _; exact ⟨_, hr.symm⟩))
    | _ => simp only [plainC] at h; cases h
  | slice t x l hh m =>
    simp only [execOp, Sem.run_bind, Sem.run_pure] at hr
    first | exact then_value (f := fun x => x) hr | exact then_value hr | (injection hr with hr _; exact ⟨_, hr.symm⟩)
  | _ =>
    simp only [plainC] at h
    exact plain_value h hr
theorem yields_quietC {o : Oper} {a : Act} {K : Act → Prop} (h : plainC o.op = true) (hq : o.quiet P a S K) : ∃ v, (∀ w, S w → (execOp a.eval o).run P w = .ok (.value v) w) ∧ K (a.put o.dst v) := by
  obtain ⟨v, h1, h2⟩ := hq
  refine ⟨v, fun w hw => ?_, h2⟩
  have h3 := h1 w hw
  unfold Oper.quietAt at h3
  generalize hr : (execOp a.eval o).run P w = r at h3
  cases r with
  | ok n w' =>
    obtain ⟨u, rfl⟩ := plainC_value h hr
    simp only [Oper.quietUpon] at h3
    rw [h3.1, h3.2]
  | halt x w' => simp only [Oper.quietUpon] at h3

/-- The tree of a walk. -/
inductive MixT
  | done
  | plain (k : Nat) (t : MixT)
  | bar (k : Nat) (t : MixT)
  | fork (k : Nat) (t : MixT) (f : Nat) (u : MixT)
def MixT.depth : MixT → Nat
  | .done => 0
  | .plain _ t => t.depth + 1
  | .bar _ t => t.depth + 1
  | .fork _ t _ _ => t.depth + 1
/-- The region's edges bear the tree. -/
def treeB (md : Region.Mode) (ops : Array Oper) : MixT → Array Bool → Bool
  | .done, listed => (Region.ready md ops listed).isEmpty
  | .plain k t, listed => (Region.ready md ops listed).contains k && Region.free md ops listed k && (match ops[k]? with | some o => plainC o.op | none => false) && treeB md ops t (listed.setIfInBounds k true)
  | .bar k t, listed => decide (Region.ready md ops listed = [k]) && treeB md ops t (listed.setIfInBounds k true)
  | .fork k t f u, listed => (decide (Region.ready md ops listed = [k, f]) || decide (Region.ready md ops listed = [f, k])) && decide (t.depth = u.depth) && treeB md ops t (listed.setIfInBounds k true) && treeB md ops u (listed.setIfInBounds f true)
/-- An operation that comes up, and what follows. -/
def stepW (P : Program) (ops : Array Oper) (Q : Exit → Act → World → Prop) (k : Nat) (S : World → Prop) (K : (World → Prop) → Act → World → Prop) (a : Act) (w : World) : Prop :=
  ∃ o, ops[k]? = some o ∧ if Region.wanted o (yielded ops a.tmps) then o.wp P a w (fun a' w' => ∃ S' : World → Prop, S' w' ∧ (∀ v, S' v → S v) ∧ K S' a' w') Q else K S (a.put o.dst undef) w
def treeW (P : Program) (ops : Array Oper) (Q : Exit → Act → World → Prop) : MixT → (World → Prop) → Act → World → Prop
  | .done, _, a, w => Q .normal a w
  | .plain k t, S, a, w => ∃ o, ops[k]? = some o ∧ if Region.wanted o (yielded ops a.tmps) then o.quiet P a S (fun a' => treeW P ops Q t S a' w) else treeW P ops Q t S (a.put o.dst undef) w
  | .bar k t, S, a, w => stepW P ops Q k S (treeW P ops Q t) a w
  | .fork k t f u, S, a, w => stepW P ops Q k S (treeW P ops Q t) a w ∧ stepW P ops Q f S (treeW P ops Q u) a w
theorem step_sound {k : Nat} {K : (World → Prop) → Act → World → Prop} {fuel : Nat} {listed : Array Bool} {a : Act} {w : World} (hS : S w) (h : stepW P ops Q k S K a w)
    (ih : ∀ S' a' w', S' w' → K S' a' w' → wpAnyH P md ops Q S' fuel (listed.setIfInBounds k true) a' w') :
    wpOp P ops Q k (fun a' w' => S w' ∧ wpAnyH P md ops Q S fuel (listed.setIfInBounds k true) a' w') a w := by
  obtain ⟨o, h0, h⟩ := h
  unfold wpOp
  simp only [h0]
  by_cases hw : Region.wanted o (yielded ops a.tmps) = true
  · rw [if_pos hw] at h ⊢
    refine .inl (Oper.wp_mono (fun a' w' hh => ?_) h)
    obtain ⟨S', h1, h2, h3⟩ := hh
    exact ⟨h2 _ h1, wpAnyH_class h2 _ _ _ _ (ih S' a' w' h1 h3)⟩
  · rw [if_neg hw] at h ⊢
    exact ⟨hS, ih S _ w hS h⟩
theorem tree_sound (hs : Region.noSelect ops = true) (hQ : ∀ d v c a w, Q (.panic c) (Act.put a d v) w → Q (.panic c) a w) :
    ∀ (t : MixT) (S : World → Prop) (listed : Array Bool) (a : Act) (w : World), treeB md ops t listed = true → S w → treeW P ops Q t S a w → wpAnyH P md ops Q S t.depth listed a w := by
  intro t
  induction t with
  | done =>
    intro S listed a w hB _ h
    exact ⟨by simpa [treeB] using hB, h⟩
  | plain k t ih =>
    intro S listed a w hB hS h
    simp only [treeW] at h
    obtain ⟨o, h0, h⟩ := h
    simp only [treeB, Bool.and_eq_true, h0] at hB
    obtain ⟨⟨⟨hr, hf⟩, hp⟩, hB'⟩ := hB
    by_cases hw : Region.wanted o (yielded ops a.tmps) = true
    · rw [if_pos hw] at h
      obtain ⟨v, hv, hK⟩ := yields_quietC hp h
      exact wpAnyH_take h0 hs hf hr (fun c a w => hQ o.dst v c a w) (.inl ⟨hw, hv⟩) hS (ih S _ _ w hB' hS hK)
    · rw [if_neg hw] at h
      exact wpAnyH_take h0 hs hf hr (fun c a w => hQ o.dst undef c a w) (.inr ⟨by simpa using hw, rfl⟩) hS (ih S _ _ w hB' hS h)
  | bar k t ih =>
    intro S listed a w hB hS h
    simp only [treeW] at h
    simp only [treeB, Bool.and_eq_true, decide_eq_true_eq] at hB
    obtain ⟨hr, hB'⟩ := hB
    refine wpAnyH_all hr (by simp) fun i hi => ?_
    obtain rfl : i = k := by simpa using hi
    exact step_sound hS h fun S' a' w' h1 h3 => ih S' _ a' w' hB' h1 h3
  | fork k t f u iht ihu =>
    intro S listed a w hB hS h
    simp only [treeW] at h
    simp only [treeB, Bool.and_eq_true, Bool.or_eq_true, decide_eq_true_eq] at hB
    obtain ⟨⟨⟨hr, hd⟩, hB1⟩, hB2⟩ := hB
    have hall : ∀ i, i = k ∨ i = f → wpOp P ops Q i (fun a' w' => S w' ∧ wpAnyH P md ops Q S t.depth (listed.setIfInBounds i true) a' w') a w := by
      rintro i (rfl | rfl)
      · exact step_sound hS h.1 fun S' a' w' h1 h3 => iht S' _ a' w' hB1 h1 h3
      · rw [hd]
        exact step_sound hS h.2 fun S' a' w' h1 h3 => ihu S' _ a' w' hB2 h1 h3
    rcases hr with hr | hr
    · exact wpAnyH_all hr (by simp) fun i hi => hall i (by simpa using hi)
    · exact wpAnyH_all hr (by simp) fun i hi => hall i (by have : i = f ∨ i = k := by simpa using hi
                                                           exact this.symm)
/-- The same as a list of marks: a plain operation, a barrier, a barrier with a fork ahead. -/
def treeOk (l : List Oper) (t : MixT) : Bool := Region.noSelect l.toArray && decide (t.depth = l.length) && treeB .any l.toArray t (Array.replicate l.length false)
theorem wp_region_tree {id : Nat} {a : Act} {w : World} {l : List Oper} (t : MixT) (hm : P.follows .mixedOrders = true) (hB : treeOk l t = true)
    (h : treeW P l.toArray (NoPanic Q) t (fun w' => ∃ p : Regrown, w' = grow (redrawn w p.d) p.os) a { w with drawn := w.drawn + 1 }) : (Code.region id l.toArray true).wp P Q a w := by
  simp only [treeOk, Bool.and_eq_true, decide_eq_true_eq] at hB
  obtain ⟨⟨hs, hlen⟩, hmix⟩ := hB
  refine wp_region_noPanic (wp_region_held (S := fun w' => ∃ p : Regrown, w' = grow (redrawn w p.d) p.os) hm ?_)
  have H := tree_sound (md := .any) hs (fun d v c a w hh => hh) t _ (Array.replicate l.length false) a { w with drawn := w.drawn + 1 } hmix ⟨⟨w.drawn + 1, #[]⟩, by rw [grow_empty]; rfl⟩ h
  rw [hlen] at H
  simpa using H
/-- The same, the class being that of an older world. -/
theorem wp_region_treeB {id : Nat} {a : Act} {w W0 : World} {l : List Oper} (t : MixT) (hb : Below W0.heap.size W0 w) (hm : P.follows .mixedOrders = true) (hB : treeOk l t = true)
    (h : treeW P l.toArray (NoPanic Q) t (fun w' => ∃ p : Regrown, w' = grow (redrawn W0 p.d) p.os) a { w with drawn := w.drawn + 1 }) : (Code.region id l.toArray true).wp P Q a w := by
  simp only [treeOk, Bool.and_eq_true, decide_eq_true_eq] at hB
  obtain ⟨⟨hs, hlen⟩, hmix⟩ := hB
  refine wp_region_noPanic (wp_region_held (S := fun w' => ∃ p : Regrown, w' = grow (redrawn W0 p.d) p.os) hm ?_)
  have H := tree_sound (md := .any) hs (fun d v c a w hh => hh) t _ (Array.replicate l.length false) a { w with drawn := w.drawn + 1 } hmix (regrown_of_below (hb.trans ((below_drawn w).mono hb.size))) h
  rw [hlen] at H
  simpa using H
/-- Some plain operations in a row, then the rest of the tree. -/
def plains (t : MixT) : List Nat → MixT
  | [] => t
  | k :: ks => .plain k (plains t ks)
theorem tree_seg {t : MixT} : ∀ (ks : List Nat) (seg : List Oper) (a : Act) (w : World), ks.map (fun k => ops[k]?) = seg.map some → wpQuiet P ops S (fun a' => treeW P ops Q t S a' w) seg a → treeW P ops Q (plains t ks) S a w
  | [], [], a, w, _, h => h
  | [], _ :: _, _, _, hk, _ => by simp at hk
  | _ :: _, [], _, _, hk, _ => by simp at hk
  | k :: ks, o :: seg, a, w, hk, h => by
    simp only [List.map_cons, List.cons.injEq] at hk
    obtain ⟨hk1, hk2⟩ := hk
    have h' : (if Region.wanted o (yielded ops a.tmps) then o.quiet P a S (wpQuiet P ops S (fun a' => treeW P ops Q t S a' w) seg) else wpQuiet P ops S (fun a' => treeW P ops Q t S a' w) seg (a.put o.dst undef)) := h
    show ∃ o, ops[k]? = some o ∧ (if Region.wanted o (yielded ops a.tmps) then o.quiet P a S (fun a' => treeW P ops Q (plains t ks) S a' w) else treeW P ops Q (plains t ks) S (a.put o.dst undef) w)
    refine ⟨o, hk1, ?_⟩
    split
    · rename_i hw
      rw [if_pos hw] at h'
      exact Oper.quiet_mono (fun a' hh => tree_seg ks seg a' w hk2 hh) h'
    · rename_i hw
      rw [if_neg hw] at h'
      exact tree_seg ks seg _ w hk2 h'
theorem tree_take {t t' : MixT} {a : Act} {w : World} (ks : List Nat) (seg : List Oper) (hm : t = plains t' ks) (hs : ks.map (fun k => ops[k]?) = seg.map some) (h : wpQuiet P ops S (fun a' => treeW P ops Q t' S a' w) seg a) : treeW P ops Q t S a w := by
  rw [hm]
  exact tree_seg ks seg a w hs h
/-- An operation comes up: the class of worlds is the drawn and grown ones of w'. -/
theorem step_new {k : Nat} {o : Oper} {a : Act} {W w : World} {K : (World → Prop) → Act → World → Prop} (ho : ops[k]? = some o) (hw : Region.wanted o (yielded ops a.tmps) = true) (h : o.wp P a w (fun a' w' => Below W.heap.size W w' ∧ K (fun v => ∃ p : Regrown, v = grow (redrawn w' p.d) p.os) a' w') Q) :
    stepW P ops Q k (fun v => ∃ p : Regrown, v = grow (redrawn W p.d) p.os) K a w := by
  refine ⟨o, ho, ?_⟩
  rw [if_pos hw]
  exact Oper.wp_mono (fun a' w' hh => ⟨_, class_self w', class_sub hh.1, hh.2⟩) h
theorem step_same {k : Nat} {o : Oper} {a : Act} {w : World} {K : (World → Prop) → Act → World → Prop} (ho : ops[k]? = some o) (hw : Region.wanted o (yielded ops a.tmps) = true) (h : o.wp P a w (fun a' w' => S w' ∧ K S a' w') Q) :
    stepW P ops Q k S K a w := by
  refine ⟨o, ho, ?_⟩
  rw [if_pos hw]
  exact Oper.wp_mono (fun a' w' hh => ⟨S, hh.1, fun _ h => h, hh.2⟩) h
theorem tree_bar {k : Nat} {t : MixT} {a : Act} {w : World} (h : stepW P ops Q k S (treeW P ops Q t) a w) : treeW P ops Q (.bar k t) S a w := h
theorem tree_fork {k f : Nat} {t u : MixT} {a : Act} {w : World} (h : stepW P ops Q k S (treeW P ops Q t) a w) (h' : stepW P ops Q f S (treeW P ops Q u) a w) : treeW P ops Q (.fork k t f u) S a w := ⟨h, h'⟩
theorem tree_end {a : Act} {w : World} (h : Q .normal a w) : treeW P ops (NoPanic Q) .done S a w := h
end
end Go.Proofs.Ytlhafehhkjjchaa

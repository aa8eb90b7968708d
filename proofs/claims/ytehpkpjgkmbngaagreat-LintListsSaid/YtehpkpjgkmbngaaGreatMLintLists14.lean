/-
  Joined texts: MixZ, Lf1, Lf2, LawLnLi.
-/
import Derived.Test.YtehpkpjgkmbngaaGreatMLintLists3
import Derived.Test.YtehpkpjgkmbngaaGreatMLintLists13
import Derived.Deep.DeepCutAuto
/-
  A region that draws its order and whose last operation waits for all the others: the class of worlds need not bear that one. No program in sight.
-/
namespace Go.Proofs.YtehpkpjgkmbngaaGreat
open Go Go.RowKit Go.Sort

section
variable {P : Program} {ops : Array Oper} {md : Region.Mode} {S : World → Prop} {Q : Exit → Act → World → Prop} {z : Nat}
/-- All orders; the class holds behind each operation but z. -/
def allZ (P : Program) (md : Region.Mode) (ops : Array Oper) (Q : Exit → Act → World → Prop) (z : Nat) (S : World → Prop) : Nat → Array Bool → Act → World → Prop
  | 0, ls, a, w => Region.ready md ops ls = [] ∧ Q .normal a w
  | n + 1, ls, a, w => (Region.ready md ops ls = [] → Q .normal a w) ∧ ∀ i ∈ Region.ready md ops ls, wpOp P ops Q i (fun a' w' => (i ≠ z → S w') ∧ allZ P md ops Q z S n (ls.setIfInBounds i true) a' w') a w
theorem allZ_any : ∀ (n : Nat) (ls : Array Bool) (a : Act) (w : World), allZ P md ops Q z S n ls a w → wpAny P md ops Q n ls a w
  | 0, _, _, _, h => h
  | n + 1, _, _, _, h => ⟨h.1, fun i hi => wpOp_mono (fun _ _ hh => allZ_any n _ _ _ hh.2) (h.2 i hi)⟩
theorem allZ_class {S S' : World → Prop} (h : ∀ v, S' v → S v) : ∀ (n : Nat) (ls : Array Bool) (a : Act) (w : World), allZ P md ops Q z S' n ls a w → allZ P md ops Q z S n ls a w
  | 0, _, _, _, hh => hh
  | n + 1, _, _, _, hh => ⟨hh.1, fun i hi => wpOp_mono (fun _ _ hk => ⟨fun hz => h _ (hk.1 hz), allZ_class h n _ _ _ hk.2⟩) (hh.2 i hi)⟩
/-- z waits for all the others. -/
def lastZ (md : Region.Mode) (ops : Array Oper) (z : Nat) : Bool := (List.range ops.size).all fun k => k == z || (match ops[z]? with | some o => o.after.any fun e => Region.binds md e && e.on == k | none => false)
theorem lastZ_alone (h : lastZ md ops z = true) {ls : Array Bool} {i : Nat} (hz : z ∈ Region.ready md ops ls) (hi : i ∈ Region.ready md ops ls) : i = z := by
  obtain ⟨h0, oi, hoi, _⟩ := mem_ready.1 hi
  obtain ⟨_, oz, hoz, hall⟩ := mem_ready.1 hz
  have hlt : i < ops.size := (Array.getElem?_eq_some_iff.1 hoi).1
  have h1 := List.all_eq_true.1 h i (List.mem_range.2 hlt)
  simp only [hoz, Bool.or_eq_true, beq_iff_eq] at h1
  rcases h1 with h1 | h1
  · exact h1
  · obtain ⟨k, hk, h2⟩ := Array.any_eq_true.1 h1
    simp only [Bool.and_eq_true, beq_iff_eq] at h2
    have h3 := hall _ (Array.getElem_mem hk) h2.1
    rw [h2.2] at h3
    rcases Nat.lt_or_ge i ls.size with h' | h'
    · simp [h'] at h0 h3
      rw [h0] at h3
      cases h3
    · simp [Array.getElem?_eq_none h'] at h3
/-- A plain operation may be taken first. -/
theorem allZ_take (hz : lastZ md ops z = true) {i : Nat} {oi : Oper} {v : Value} (hi : ops[i]? = some oi) (hiz : i ≠ z) (hs : Region.noSelect ops = true) (hQ : ∀ c a w, Q (.panic c) (a.put oi.dst v) w → Q (.panic c) a w) :
    ∀ (n : Nat) (ls : Array Bool) (a : Act) (w : World),
      (∀ j oj, ops[j]? = some oj → j ≠ i → ls.getD j true = false → (∀ e ∈ oj.after, Region.binds md e = true → e.on ≠ i) → oi.apart ops oj = true) →
      i ∈ Region.ready md ops ls → YieldsIf P ops S oi v a → S w → allZ P md ops Q z S n (ls.setIfInBounds i true) (a.put oi.dst v) w → allZ P md ops Q z S (n + 1) ls a w := by
  have hsel := Region.noSelect_spec hs
  intro n
  induction n with
  | zero =>
    intro ls a w _ hr hy hS H
    refine ⟨fun h => (by rw [h] at hr; cases hr), fun j hj => ?_⟩
    by_cases hji : j = i
    · subst hji
      exact hy.wpOp hi hS ⟨fun _ => hS, H⟩
    · have h1 := ready_mono hj hji
      rw [H.1] at h1
      cases h1
  | succ n ih =>
    intro ls a w hfr hr hy hS H
    refine ⟨fun h => (by rw [h] at hr; cases hr), fun j hj => ?_⟩
    by_cases hji : j = i
    · subst hji
      exact hy.wpOp hi hS ⟨fun _ => hS, H⟩
    · have hjz : j ≠ z := fun e => hiz (lastZ_alone hz (by rw [← e]; exact hj) hr)
      have h1 := H.2 j (ready_mono hj hji)
      obtain ⟨hju, oj, hoj, hall⟩ := mem_ready.1 hj
      have hno : ∀ e ∈ oj.after, Region.binds md e = true → e.on ≠ i := fun e he hb heq => by
        have g1 := hall e he hb
        have g0 := (mem_ready.1 hr).1
        rw [heq] at g1
        rcases Nat.lt_or_ge i ls.size with h' | h'
        · simp [h'] at g0 g1
          rw [g0] at g1
          cases g1
        · simp [Array.getElem?_eq_none h'] at g1
      have h2 := wpOp_putIf hoj (hfr j oj hoj hji hju hno) (fun cs b => hsel i oi cs b hi) (fun cs b => hsel j oj cs b hoj) hQ hy h1
      refine wpOp_mono (fun a' w' h3 => ⟨fun _ => h3.2.1 hjz, ih (ls.setIfInBounds j true) a' w' (fun k ok hk hki hun hn => hfr k ok hk hki ?_ hn) (ready_mono hr (Ne.symm hji)) h3.1 (h3.2.1 hjz) ?_⟩) h2
      · by_cases hjk : j = k
        · subst hjk; exact hju
        · rw [getD_set_ne true hjk] at hun; exact hun
      · rw [Array.setIfInBounds_comm _ _ hji]
        exact h3.2.2
def mixBz (md : Region.Mode) (ops : Array Oper) (z : Nat) : List (Nat × Bool) → Array Bool → Bool
  | [], ls => decide (Region.ready md ops ls = [z]) && (Region.ready md ops (ls.setIfInBounds z true)).isEmpty
  | (k, false) :: m, ls => decide (k ≠ z) && (Region.ready md ops ls).contains k && Region.free md ops ls k && (match ops[k]? with | some o => plainB o.op | none => false) && mixBz md ops z m (ls.setIfInBounds k true)
  | (k, true) :: m, ls => decide (k ≠ z) && decide (Region.ready md ops ls = [k]) && mixBz md ops z m (ls.setIfInBounds k true)
/-- The walk; z comes last. -/
def mixWz (P : Program) (ops : Array Oper) (Q : Exit → Act → World → Prop) (z : Nat) : List (Nat × Bool) → (World → Prop) → Act → World → Prop
  | [], _, a, w => ∃ o, ops[z]? = some o ∧ Region.wanted o (yielded ops a.tmps) = true ∧ o.wp P a w (fun a' w' => Q .normal a' w') Q
  | (k, false) :: m, S, a, w => ∃ o, ops[k]? = some o ∧ if Region.wanted o (yielded ops a.tmps) then o.quiet P a S (fun a' => mixWz P ops Q z m S a' w) else mixWz P ops Q z m S (a.put o.dst undef) w
  | (k, true) :: m, S, a, w => ∃ o, ops[k]? = some o ∧ Region.wanted o (yielded ops a.tmps) = true ∧ o.wp P a w (fun a' w' => ∃ S' : World → Prop, S' w' ∧ (∀ v, S' v → S v) ∧ mixWz P ops Q z m S' a' w') Q
theorem mixZ_sound (hz : lastZ md ops z = true) (hs : Region.noSelect ops = true) (hQ : ∀ d v c a w, Q (.panic c) (Act.put a d v) w → Q (.panic c) a w) :
    ∀ (m : List (Nat × Bool)) (S : World → Prop) (ls : Array Bool) (a : Act) (w : World), mixBz md ops z m ls = true → S w → mixWz P ops Q z m S a w → allZ P md ops Q z S (m.length + 1) ls a w := by
  intro m
  induction m with
  | nil =>
    intro S ls a w hB hS h
    obtain ⟨o, h0, hw, h⟩ := h
    simp only [mixBz, Bool.and_eq_true, decide_eq_true_eq] at hB
    refine ⟨fun h1 => (by rw [hB.1] at h1; cases h1), fun i hi => ?_⟩
    rw [hB.1] at hi
    obtain rfl : i = z := by simpa using hi
    unfold wpOp
    simp only [h0]
    rw [if_pos hw]
    exact .inl (Oper.wp_mono (fun a' w' hh => ⟨fun e => absurd rfl e, by simpa using hB.2, hh⟩) h)
  | cons b m ih =>
    intro S ls a w hB hS h
    obtain ⟨k, b⟩ := b
    cases b with
    | false =>
      simp only [mixWz] at h
      obtain ⟨o, h0, h⟩ := h
      simp only [mixBz, Bool.and_eq_true, h0, decide_eq_true_eq] at hB
      obtain ⟨⟨⟨⟨hk, hr⟩, hf⟩, hp⟩, hB'⟩ := hB
      by_cases hw : Region.wanted o (yielded ops a.tmps) = true
      · rw [if_pos hw] at h
        obtain ⟨v, hv, hK⟩ := yields_quiet hp h
        exact allZ_take hz h0 hk hs (fun c a w => hQ o.dst v c a w) _ ls a w (Region.free_spec h0 hf) (by simpa using hr) (.inl ⟨hw, hv⟩) hS (ih S _ _ w hB' hS hK)
      · rw [if_neg hw] at h
        exact allZ_take hz h0 hk hs (fun c a w => hQ o.dst undef c a w) _ ls a w (Region.free_spec h0 hf) (by simpa using hr) (.inr ⟨by simpa using hw, rfl⟩) hS (ih S _ _ w hB' hS h)
    | true =>
      simp only [mixWz] at h
      obtain ⟨o, h0, hw, h⟩ := h
      simp only [mixBz, Bool.and_eq_true, decide_eq_true_eq] at hB
      obtain ⟨⟨hk, hr⟩, hB'⟩ := hB
      refine ⟨fun h1 => (by rw [hr] at h1; cases h1), fun i hi => ?_⟩
      rw [hr] at hi
      obtain rfl : i = k := by simpa using hi
      unfold wpOp
      simp only [h0]
      rw [if_pos hw]
      refine .inl (Oper.wp_mono (fun a' w' hh => ?_) h)
      obtain ⟨S', h1, h2, h3⟩ := hh
      exact ⟨fun _ => h2 _ h1, allZ_class h2 _ _ _ _ (ih S' _ a' w' hB' h1 h3)⟩
def mixOkZ (l : List Oper) (z : Nat) (m : List (Nat × Bool)) : Bool := Region.noSelect l.toArray && decide (m.length + 1 = l.length) && lastZ .any l.toArray z && mixBz .any l.toArray z m (Array.replicate l.length false)
theorem wp_region_mixZ {id : Nat} {a : Act} {w : World} {l : List Oper} (S : World → Prop) (z : Nat) (m : List (Nat × Bool)) (hm : P.follows .mixedOrders = true) (hB : mixOkZ l z m = true) (hS : S { w with drawn := w.drawn + 1 })
    (h : mixWz P l.toArray (NoPanic Q) z m (fun w' => ∃ p : InW S, w' = p.w) a { w with drawn := w.drawn + 1 }) : (Code.region id l.toArray true).wp P Q a w := by
  simp only [mixOkZ, Bool.and_eq_true, decide_eq_true_eq] at hB
  obtain ⟨⟨⟨hs, hlen⟩, hl⟩, hmix⟩ := hB
  refine wp_region_noPanic (wp_region_any hm ?_)
  have H := mixZ_sound (md := .any) hl hs (fun d v c a w hh => hh) m _ (Array.replicate l.length false) a { w with drawn := w.drawn + 1 } hmix (inS hS) h
  rw [hlen] at H
  exact allZ_any _ _ _ _ (by simpa using H)
theorem mixZ_seg {m : List (Nat × Bool)} : ∀ (ks : List Nat) (seg : List Oper) (a : Act) (w : World), ks.map (fun k => ops[k]?) = seg.map some → wpQuiet P ops S (fun a' => mixWz P ops Q z m S a' w) seg a → mixWz P ops Q z (ks.map (fun k => (k, false)) ++ m) S a w
  | [], [], _, _, _, h => h
  | [], _ :: _, _, _, hk, _ => by cases hk
  | _ :: _, [], _, _, hk, _ => by cases hk
  | k :: ks, o :: seg, a, w, hk, h => by
    simp only [List.map_cons] at hk
    injection hk with hk1 hk2
    have h' : (if Region.wanted o (yielded ops a.tmps) then o.quiet P a S (wpQuiet P ops S (fun a' => mixWz P ops Q z m S a' w) seg) else wpQuiet P ops S (fun a' => mixWz P ops Q z m S a' w) seg (a.put o.dst undef)) := h
    show ∃ o, ops[k]? = some o ∧ (if Region.wanted o (yielded ops a.tmps) then o.quiet P a S (fun a' => mixWz P ops Q z (ks.map (fun k => (k, false)) ++ m) S a' w) else mixWz P ops Q z (ks.map (fun k => (k, false)) ++ m) S (a.put o.dst undef) w)
    refine ⟨o, hk1, ?_⟩
    split
    · rename_i hw
      rw [if_pos hw] at h'
      exact Oper.quiet_mono (fun a' hh => mixZ_seg ks seg a' w hk2 hh) h'
    · rename_i hw
      rw [if_neg hw] at h'
      exact mixZ_seg ks seg _ w hk2 h'
theorem mixZ_take {m m' : List (Nat × Bool)} {a : Act} {w : World} (ks : List Nat) (seg : List Oper) (hm : m = ks.map (fun k => (k, false)) ++ m') (hs : ks.map (fun k => ops[k]?) = seg.map some) (h : wpQuiet P ops S (fun a' => mixWz P ops Q z m' S a' w) seg a) : mixWz P ops Q z m S a w := by
  rw [hm]
  exact mixZ_seg ks seg a w hs h
theorem mixZ_bar {m : List (Nat × Bool)} {k : Nat} {o : Oper} {a : Act} {S : World → Prop} {w : World} (ho : ops[k]? = some o) (hw : Region.wanted o (yielded ops a.tmps) = true)
    (h : o.wp P a w (fun a' w' => ∃ S' : World → Prop, S' w' ∧ (∀ v, S' v → S v) ∧ mixWz P ops Q z m (fun w' => ∃ p : InW S', w' = p.w) a' w') Q) : mixWz P ops Q z ((k, true) :: m) (fun w' => ∃ p : InW S, w' = p.w) a w := by
  simp only [mixWz]
  refine ⟨o, ho, hw, ?_⟩
  exact Oper.wp_mono (fun a' w' hh => by obtain ⟨S', h1, h2, h3⟩ := hh; exact ⟨_, inS h1, inS_sub h2, h3⟩) h
theorem mixZ_end {o : Oper} {a : Act} {w : World} (ho : ops[z]? = some o) (hw : Region.wanted o (yielded ops a.tmps) = true) (h : o.wp P a w (fun a' w' => Q .normal a' w') (NoPanic Q)) : mixWz P ops (NoPanic Q) z [] S a w :=
  ⟨o, ho, hw, Oper.wp_mono (fun _ _ hh => hh) h⟩
end
end Go.Proofs.YtehpkpjgkmbngaaGreat

/-
  What the law LintLists keeps: its states.
-/
namespace Go.Proofs.YtehpkpjgkmbngaaGreat
open Go Go.RowKit Go.Sort

/-- What is found in a prefix list, in a community list. -/
noncomputable def fndE (L : List EntV) : List Nat := plL (fun i => !DB L i) L.length
def fndM (Ms : List MemV) : List Nat := plL (memP Ms) Ms.length
/-- What the law reads all along. -/
structure LlC (w : World) (pn cn : ByteArray) (vp vc vcs vl vm : Value) (L : List EntV) (Ms : List MemV) (Cs : List CmV) (W : World) : Prop where
  pb : W.heap[w.heap.size]? = some (.cells #[.string pn, vp] 24 (0, 0))
  cb : W.heap[w.heap.size + 1]? = some (.cells #[.string cn, vc] 27 (0, 0))
  rp : Rd W W.heap.size 5 vp L.length (ecells L)
  rm : MsAt W W.heap.size vc Ms
  rs : CmAt W W.heap.size vcs Cs
  rl : Rd W W.heap.size 1 vl (fndE L).length (ncl (fndE L))
  rk : Rd W W.heap.size 1 vm (fndM Ms).length (ncl (fndM Ms))
  bel : Below w.heap.size w W
theorem LlC.next {w : World} {pn cn : ByteArray} {vp vc vcs vl vm : Value} {L : List EntV} {Ms : List MemV} {Cs : List CmV} {W W' : World} (h : LlC w pn cn vp vc vcs vl vm L Ms Cs W) (hb : Below W.heap.size W W') : LlC w pn cn vp vc vcs vl vm L Ms Cs W' :=
  ⟨blk_below hb h.pb, blk_below hb h.cb, (h.rp.below hb).mono hb.size, h.rm.next hb, (h.rs.below hb).mono hb.size, (h.rl.below hb).mono hb.size, (h.rk.below hb).mono hb.size, h.bel.trans (hb.mono h.bel.size)⟩
theorem LlC.of {w w2 W : World} {pn cn : ByteArray} {vp vc vcs vl vm : Value} {L : List EntV} {Ms : List MemV} {Cs : List CmV} (hb : Below w.heap.size w w2) (k0 : w2.heap[w.heap.size]? = some (.cells #[.string pn, vp] 24 (0, 0))) (k1 : w2.heap[w.heap.size + 1]? = some (.cells #[.string cn, vc] 27 (0, 0)))
    (hp : Rd w2 w2.heap.size 5 vp L.length (ecells L)) (hm : MsAt w2 w2.heap.size vc Ms) (hs : CmAt w2 w2.heap.size vcs Cs) (hbc : Below w2.heap.size w2 W) (rl : Rd W W.heap.size 1 vl (fndE L).length (ncl (fndE L))) (rk : Rd W W.heap.size 1 vm (fndM Ms).length (ncl (fndM Ms))) : LlC w pn cn vp vc vcs vl vm L Ms Cs W :=
  ⟨blk_below hbc k0, blk_below hbc k1, (hp.below hbc).mono hbc.size, hm.next hbc, (hs.below hbc).mono hbc.size, rl, rk, hb.trans (hbc.mono hb.size)⟩
theorem two_rows {w V W1 W2 : World} {va vb : Value} {na nb : Nat} {xa xb : List Value} {ea eb : TypeId} (h0 : Below w.heap.size w V) (h1 : Below V.heap.size V W1) (h2 : Below W1.heap.size W1 W2) (a : W1.ownsRow V.heap.size ea 1 va na xa) (b : W2.ownsRow W1.heap.size eb 1 vb nb xb) :
    Below w.heap.size w W2 ∧ Rd W2 W2.heap.size 1 va na xa ∧ Rd W2 W2.heap.size 1 vb nb xb :=
  ⟨h0.trans ((h1.trans (h2.mono h1.size)).mono h0.size), ((Rd.of_own a).below h2).mono h2.size, Rd.of_own b⟩
/-- Two rows in blocks of their own, apart. -/
def ApartR (v u : Value) : Prop := ∀ g, v.ownBlock = some g → u.ownBlock ≠ some g
theorem ApartR.symm {v u : Value} (h : ApartR v u) : ApartR u v := fun g h1 h2 => h g h2 h1
theorem ApartR.moved {v u v' : Value} {k : Nat} (h : ApartR v u) (hm : Moved v v' k) (hu : ∀ g, u.ownBlock = some g → g < k) : ApartR v' u := fun g h1 h2 => by
  rcases hm with hm | hm
  · exact h g (hm ▸ h1) h2
  · have := hm g h1; have := hu g h2; omega
theorem owns_likeR {w w' : World} {base : Nat} {e : TypeId} {size n : Nat} {v : Value} {xs : List Value} (h : w.ownsRow base e size v n xs) (hs : ∀ g, v.ownBlock = some g → w'.heap[g]? = w.heap[g]?) : w'.ownsRow base e size v n xs := by
  refine ⟨h.1, h.2.imp id ?_⟩
  rintro ⟨g, cap, cur, rfl, hbg, hg, r⟩
  exact ⟨g, cap, cur, rfl, hbg, (hs g rfl).trans hg, r⟩
theorem owns_apartR {w w' : World} {base : Nat} {e : TypeId} {size n : Nat} {v u : Value} {xs : List Value} (h : w.ownsRow base e size u n xs) (hg : w.grownBy w' v.ownBlock) (ha : ApartR u v) : w'.ownsRow base e size u n xs :=
  owns_likeR h fun g hu => hg.block g (h.lt g hu).2 (fun e => ha g hu e.symm)
theorem Tryz.infoEntE : (Tryz.prog.info? 40).map (fun i => (i.zero, i.size, i.bytes)) = some (some (.agg #[.bool false, .int .u32 0, .int .i64 0, .int .i64 0, .int .i64 0]), 5, 40) := by kernel_rfl
theorem Tryz.infoMemE : (Tryz.prog.info? 48).map (fun i => (i.zero, i.size, i.bytes)) = some (some (.agg #[.bool false, .slice none 0 0]), 2, 32) := by kernel_rfl
theorem ent_one (x : EntV) : ∀ u ∈ x.enc, u.oneCell' = true := by
  intro u hu
  simp only [EntV.enc, List.mem_cons, List.not_mem_nil, or_false] at hu
  rcases hu with rfl | rfl | rfl | rfl | rfl <;> rfl
/-- A box whose second cell holds a row that grows. -/
structure BxR (W : World) (g : Nat) (t e : TypeId) (k : Nat) (vq : Value) (n : Nat) (xs : List Value) : Prop where
  box : W.heap[g]? = some (.cells #[.string ⟨#[]⟩, vq] t (0, 0))
  row : W.ownsRow (g + 1) e k vq n xs
section
variable {W W' : World} {g : Nat} {t e : TypeId} {k : Nat} {vq : Value} {n : Nat} {xs : List Value}
theorem BxR.next (h : BxR W g t e k vq n xs) (hb : Below W.heap.size W W') : BxR W' g t e k vq n xs := ⟨blk_below hb h.box, owns_kept_none h.row (only_of_below hb none)⟩
theorem BxR.lt (h : BxR W g t e k vq n xs) : g + 1 ≤ W.heap.size := lt_of_block h.box
/-- .. while another row grows. -/
theorem BxR.other (h : BxR W g t e k vq n xs) {v : Value} (hg : W.grownBy W' v.ownBlock) (hv : ∀ b, v.ownBlock = some b → g + 1 ≤ b) (ha : ApartR vq v) : BxR W' g t e k vq n xs :=
  ⟨(hg.block g (lt_of_block h.box) (fun e => by have := hv g e.symm; omega)).trans h.box, owns_apartR h.row hg ha⟩
/-- .. when the row grows and is laid back into the box. -/
theorem BxR.push (h : BxR W g t e k vq n xs) {v' : Value} {n' : Nat} {ys : List Value} (ho : W'.ownsRow (g + 1) e k v' n' ys) (hg : W.grownBy W' vq.ownBlock) : BxR (W'.setCell ⟨g, 1, none⟩ v') g t e k v' n' ys := by
  have hb : W'.heap[g]? = some (.cells #[.string ⟨#[]⟩, vq] t (0, 0)) := (hg.block g (lt_of_block h.box) (fun e => by have := (h.row.lt g e.symm).1; omega)).trans h.box
  exact ⟨set_1 hb, owns_setI ho (by omega)⟩
end
/-- What the first loop has laid: the box of the list that is left, what decides. -/
structure L1St (w3 W : World) (vd vq : Value) (Ds : List Bool) (E : List EntV) : Prop where
  bel : Below w3.heap.size w3 W
  bx : BxR W w3.heap.size 24 40 5 vq E.length (ecells E)
  dr : W.ownsRow (w3.heap.size + 1) 4 1 vd Ds.length (Ds.map Value.bool)
  ap : ApartR vd vq
section
variable {w3 W W' : World} {vd vq v' : Value} {Ds : List Bool} {E : List EntV}
theorem L1St.next (h : L1St w3 W vd vq Ds E) (hb : Below W.heap.size W W') : L1St w3 W' vd vq Ds E := ⟨h.bel.trans (hb.mono h.bel.size), h.bx.next hb, owns_kept_none h.dr (only_of_below hb none), h.ap⟩
theorem L1St.pushD (h : L1St w3 W vd vq Ds E) {b : Bool} (ho : W'.ownsRow (w3.heap.size + 1) 4 1 v' (Ds.length + 1) (Ds.map Value.bool ++ [.bool b])) (hg : W.grownBy W' vd.ownBlock) (hm : Moved vd v' W.heap.size) : L1St w3 W' v' vq (Ds ++ [b]) E :=
  ⟨h.bel.grown hg h.bel.size (fun k hk => by have := (h.dr.lt k hk).1; omega), h.bx.other hg (fun b hb => (h.dr.lt b hb).1) h.ap.symm, by rw [List.length_append, List.map_append]; exact ho, h.ap.moved hm (fun g hg' => (h.bx.row.lt g hg').2)⟩
theorem ecells_app (L M : List EntV) : ecells (L ++ M) = ecells L ++ ecells M := by simp [ecells]
theorem L1St.pushQ (h : L1St w3 W vd vq Ds E) {x : EntV} (ho : W'.ownsRow (w3.heap.size + 1) 40 5 v' (E.length + 1) (ecells E ++ x.enc)) (hg : W.grownBy W' vq.ownBlock) (hm : Moved vq v' W.heap.size) : L1St w3 (W'.setCell ⟨w3.heap.size, 1, none⟩ v') vd v' Ds (E ++ [x]) :=
  ⟨(h.bel.grown hg h.bel.size (fun k hk => by have := (h.bx.row.lt k hk).1; omega)).setCell (p := ⟨w3.heap.size, 1, none⟩) (Nat.le_refl _) _, by
    have hp := h.bx.push ho hg
    rw [List.length_append, ecells_app]
    have e : ecells [x] = x.enc := by simp [ecells]
    rw [e]
    exact hp, owns_setI (owns_apartR h.dr hg h.ap) (by omega), (h.ap.symm.moved hm (fun g hg' => (h.dr.lt g hg').2)).symm⟩
theorem L1St.grow (h : L1St w3 W vd vq Ds E) (hg : W.grownBy W' vq.ownBlock) : Below w3.heap.size w3 W' ∧ W'.heap[w3.heap.size]? = some (.cells #[.string ⟨#[]⟩, vq] 24 (0, 0)) :=
  ⟨h.bel.grown hg h.bel.size (fun k hk => by have := (h.bx.row.lt k hk).1; omega), (hg.block _ (lt_of_block h.bx.box) (fun e => by have := (h.bx.row.lt _ e.symm).1; omega)).trans h.bx.box⟩
theorem L1St.dec {g c : Nat} (h : L1St w3 W (.slice (some ⟨g, 0, none⟩) Ds.length c) vq Ds E) (i : Nat) : L1St w3 (W.setCell ⟨g, i, none⟩ (.bool true)) (.slice (some ⟨g, 0, none⟩) Ds.length c) vq (Ds.set i true) E := by
  have hg := h.dr.lt g rfl
  have hs := (h.dr.stored i (.bool true)).1
  refine ⟨h.bel.setCell (p := ⟨g, i, none⟩) (by show w3.heap.size ≤ g; omega) _, ⟨set_far h.bx.box (by show w3.heap.size ≠ g; omega), owns_likeR h.bx.row fun b hb => Below.heap_setCell _ _ _ _ (fun e => h.ap.symm b hb (congrArg some (e.symm : g = b) ▸ rfl))⟩, ?_, h.ap⟩
  rw [List.length_set, List.map_set]
  exact hs
end
end Go.Proofs.YtehpkpjgkmbngaaGreat

/-
  What the law LintLists finds out, loop by loop (plain).
-/
namespace Go.Proofs.YtehpkpjgkmbngaaGreat
open Go Go.RowKit Go.Sort

theorem keep_mem {α : Type} {D : Nat → Bool} {L : List α} {x : α} : ∀ {k : Nat}, x ∈ keepL D L k → x ∈ L
  | 0, h => by simp [keepL] at h
  | k + 1, h => by
    rcases List.mem_append.1 (show x ∈ keepL D L k ++ (if D k then (L[k]?).toList else []) from h) with h | h
    · exact keep_mem h
    · split at h
      · cases hk : L[k]? with
        | none => rw [hk] at h; simp at h
        | some y =>
          rw [hk] at h
          simp at h
          exact h ▸ List.mem_of_getElem? hk
      · simp at h
theorem left_ok {L : List EntV} (hL : ∀ x ∈ L, EntOk x) : ∀ x ∈ keepL (DB L) L L.length, EntOk x := fun x hx => hL x (keep_mem hx)
theorem left_perm {L : List EntV} (hL : ∀ x ∈ L, EntOk x) {a : Int} {b : Nat} (hb : b ≤ 32) (hc : chk a b = 0) : permL EntV.permit (entF a b) (keepL (DB L) L L.length) = permL EntV.permit (entF a b) L := permL_keep _ _ _ _ (first_dec hL hb hc)
theorem left_none (L : List EntV) : fndE (keepL (DB L) L L.length) = [] := plL_none fun i hi => by rw [keep_dec L i hi]; rfl
/-- What has been found to decide, up to so many bits, and behind these pieces. -/
structure DecSt (L : List EntV) (Ds : List Bool) (b : Nat) (P : List SpanV) : Prop where
  len : Ds.length = L.length
  snd : ∀ i : Nat, Ds[i]? = some true → DB L i = true
  all : ∀ c : Nat, c < b → ∀ i : Nat, hitB L (c : Int) i = true → Ds[i]? = some true
  now : ∀ s ∈ P, ∀ i : Nat, idxP (entF s.lo (b : Int)) L = (i : Int) → Ds[i]? = some true
section
variable {L : List EntV} {Ds : List Bool} {b : Nat} {P : List SpanV}
theorem DecSt.zero : DecSt L (List.replicate L.length false) 0 [] :=
  ⟨by simp, fun i h => by rw [List.getElem?_replicate] at h; split at h <;> simp at h, fun c hc => absurd hc (by omega), fun s hs => by simp at hs⟩
theorem DecSt.miss (h : DecSt L Ds b P) {s : SpanV} (hi : idxP (entF s.lo (b : Int)) L = -1) : DecSt L Ds b (P ++ [s]) :=
  ⟨h.len, h.snd, h.all, fun t ht i hh => by
    rcases List.mem_append.1 ht with ht | ht
    · exact h.now t ht i hh
    · simp only [List.mem_singleton] at ht
      subst ht
      rw [hi] at hh
      omega⟩
theorem set_true {k i : Nat} (hk : k < Ds.length) (h : Ds[i]? = some true ∨ i = k) : (Ds.set k true)[i]? = some true := by
  rw [List.getElem?_set]
  by_cases hik : k = i
  · subst hik; rw [if_pos rfl, if_pos hk]
  · rw [if_neg hik]
    rcases h with h | h
    · exact h
    · exact absurd h.symm hik
theorem DecSt.hit (h : DecSt L Ds b P) {s : SpanV} {k : Nat} (hi : idxP (entF s.lo (b : Int)) L = (k : Int)) (hd : DB L k = true) (hkl : k < L.length) : DecSt L (Ds.set k true) b (P ++ [s]) := by
  have hk : k < Ds.length := by rw [h.len]; exact hkl
  refine ⟨by rw [List.length_set]; exact h.len, fun i hh => ?_, fun c hc i hh => set_true hk (.inl (h.all c hc i hh)), fun t ht i hh => ?_⟩
  · rw [List.getElem?_set] at hh
    by_cases hik : k = i
    · exact hik ▸ hd
    · rw [if_neg hik] at hh; exact h.snd i hh
  · rcases List.mem_append.1 ht with ht | ht
    · exact set_true hk (.inl (h.now t ht i hh))
    · simp only [List.mem_singleton] at ht
      subst ht
      rw [hi] at hh
      exact set_true hk (.inr (by omega))
theorem DecSt.next {C : List Int} (h : DecSt L Ds b (pcs 4294967295 0 C)) (hL : ∀ x ∈ L, EntOk x) (hb : b ≤ 32) (hst : StartsOf 4294967295 (endsL L b) C) : DecSt L Ds (b + 1) [] :=
  ⟨h.len, h.snd, fun c hc i hh => by
    by_cases hcb : c < b
    · exact h.all c hcb i hh
    · obtain rfl : c = b := by omega
      obtain ⟨j, s, _, hs, hi⟩ := hit_piece hL hb hst hh
      exact h.now s (List.mem_of_getElem? hs.at_) i hi, fun s hs => by simp at hs⟩
theorem DecSt.fin (h : DecSt L Ds 33 []) {i : Nat} (hi : i < L.length) : Ds[i]? = some (DB L i) := by
  obtain ⟨d, hd⟩ : ∃ d, Ds[i]? = some d := ⟨_, List.getElem?_eq_getElem (by rw [h.len]; exact hi)⟩
  rw [hd]
  cases hD : DB L i with
  | true =>
    obtain ⟨b, hb, hh⟩ := (DB_iff L i).1 hD
    rw [← hd]
    exact h.all b (by omega) i hh
  | false =>
    cases d with
    | false => rfl
    | true => rw [h.snd i hd] at hD; cases hD
end
/-- The members that are left. -/
theorem mleft_perm (Ms : List MemV) (a : List Int) : permL MemV.permit (fun m : MemV => hasAll m.L a) (keepL (fun i => !memP Ms i) Ms Ms.length) = permL MemV.permit (fun m : MemV => hasAll m.L a) Ms := permL_keep _ _ _ _ (mem_first a)
theorem mleft_none (Ms : List MemV) : fndM (keepL (fun i => !memP Ms i) Ms Ms.length) = [] := plL_none (mem_keep Ms)
/-- What the loop over the members has laid: the box of the list that is left. -/
structure L5St (w3 W : World) (vq : Value) (E : List MemV) : Prop where
  bel : Below w3.heap.size w3 W
  bx : BxR W w3.heap.size 27 48 2 vq E.length (mcells E)
section
variable {w3 W W' : World} {vq v' : Value} {E : List MemV}
theorem L5St.next (h : L5St w3 W vq E) (hb : Below W.heap.size W W') : L5St w3 W' vq E := ⟨h.bel.trans (hb.mono h.bel.size), h.bx.next hb⟩
theorem mcells_app (L M : List MemV) : mcells (L ++ M) = mcells L ++ mcells M := by simp [mcells]
theorem L5St.pushQ (h : L5St w3 W vq E) {x : MemV} (ho : W'.ownsRow (w3.heap.size + 1) 48 2 v' (E.length + 1) (mcells E ++ x.enc)) (hg : W.grownBy W' vq.ownBlock) : L5St w3 (W'.setCell ⟨w3.heap.size, 1, none⟩ v') v' (E ++ [x]) :=
  ⟨(h.bel.grown hg h.bel.size (fun k hk => by have := (h.bx.row.lt k hk).1; omega)).setCell (p := ⟨w3.heap.size, 1, none⟩) (Nat.le_refl _) _, by
    have hp := h.bx.push ho hg
    rw [List.length_append, mcells_app]
    have e : mcells [x] = x.enc := by simp [mcells]
    rw [e]
    exact hp⟩
theorem L5St.grow (h : L5St w3 W vq E) (hg : W.grownBy W' vq.ownBlock) : Below w3.heap.size w3 W' ∧ W'.heap[w3.heap.size]? = some (.cells #[.string ⟨#[]⟩, vq] 27 (0, 0)) :=
  ⟨h.bel.grown hg h.bel.size (fun k hk => by have := (h.bx.row.lt k hk).1; omega), (hg.block _ (lt_of_block h.bx.box) (fun e => by have := (h.bx.row.lt _ e.symm).1; omega)).trans h.bx.box⟩
end
end Go.Proofs.YtehpkpjgkmbngaaGreat

/-
  The walk of the law LintLists.
-/
namespace Go.Proofs.YtehpkpjgkmbngaaGreat
open Go Go.RowKit Go.ChangeMaps Go.MapKept Go.Maps Go.Lib Go.Sort

section
set_option maxRecDepth 100000
set_option maxHeartbeats 16000000
theorem lawLnLi_any (pn cn : ByteArray) (vp vc vcs : Value) (L : List EntV) (Ms : List MemV) (Cs : List CmV) (w : World) (hL : ∀ x ∈ L, EntOk x) (hp : Rd w w.heap.size 5 vp L.length (ecells L)) (hm : MsAt w w.heap.size vc Ms) (hs : CmAt w w.heap.size vcs Cs) :
    Calls Tryz.prog 3 #[.agg #[.string pn, vp], .agg #[.string cn, vc], vcs] w fun e w' => e = .returned (.bool true) ∧ Below w.heap.size w w' := by
  obtain ⟨i0, hi, hz0, hz1, hz2⟩ := info_parts Tryz.infoBoolE
  obtain ⟨i1, hj, hy0, hy1, hy2⟩ := info_parts Tryz.infoEntE
  obtain ⟨i2, hp0, hx0, hx1, hx2⟩ := info_parts Tryz.infoMemE
  obtain ⟨Ap, cp, rfl, hcp⟩ := hp.form
  obtain ⟨Ac, cc, rfl, hcc⟩ := hm.1.form
  obtain ⟨As, cs, rfl, hcs⟩ := hs.1.form
  have hb := below2 w (.cells #[.string pn, .slice Ap L.length cp] 24) (.cells #[.string cn, .slice Ac Ms.length cc] 27)
  obtain ⟨k0, k1⟩ := blk2 w (.cells #[.string pn, .slice Ap L.length cp] 24) (.cells #[.string cn, .slice Ac Ms.length cc] 27)
  have HB1 := Lib.hid hb
  have K0 := Lib.hid k0
  have K1 := Lib.hid k1
  have HP1 := Lib.hid ((hp.below hb).mono hb.size)
  have HM1 := Lib.hid (hm.next hb)
  have HS1 := Lib.hid ((hs.below hb).mono hb.size)
  have HL := Lib.hid hL
  clear hb k0 k1 hp hm hs hL
  go_enter Tryz.func3, Tryz.ntmps3
  go_upto_region 1 with fail
  generalize (w.alloc (.cells #[.string pn, .slice Ap L.length cp] 24)).alloc (.cells #[.string cn, .slice Ac Ms.length cc] 27) = w1 at *
  have d0 : w1.cell? ⟨w.heap.size, 1, none⟩ = some (.slice Ap L.length cp) := cell_of_row _ _ 1 _ _ (0, 0) K0.out
  have d1 : w1.cell? ⟨w.heap.size + 1, 1, none⟩ = some (.slice Ac Ms.length cc) := cell_of_row _ _ 1 _ _ (0, 0) K1.out
  by_cases hbig : 40 < L.length
  case pos =>
    have hI : (40 : Int) < (L.length : Int) := by omega
    go_wp2_with ((with_reducible refine (lawAwake30_any _).mono ?_); rintro e w2 ⟨rfl, hb2⟩; have HB2 := Lib.hid (HB1.out.trans (hb2.mono HB1.out.size)); clear hb2)
    go_ret
    exact ⟨rfl, HB2.out⟩
  have hI : ¬ (40 : Int) < (L.length : Int) := by omega
  by_cases hbig2 : 40 < Ms.length
  case pos =>
    have hI2 : (40 : Int) < (Ms.length : Int) := by omega
    go_wp2_with ((with_reducible refine (lawAwake30_any _).mono ?_); rintro e w2 ⟨rfl, hb2⟩; have HB2 := Lib.hid (HB1.out.trans (hb2.mono HB1.out.size)); clear hb2)
    go_ret
    exact ⟨rfl, HB2.out⟩
  have hI2 : ¬ (40 : Int) < (Ms.length : Int) := by omega
  have hll : L.length ≤ 40 := by omega
  have hml : Ms.length ≤ 40 := by omega
  clear hbig hbig2
  go_upto_region 3 with ((with_reducible refine (lawAwake30_any _).mono ?_); rintro e w2 ⟨rfl, hb2⟩; have HB2 := Lib.hid (HB1.out.trans (hb2.mono HB1.out.size)); have K02 := Lib.hid (blk_below hb2 K0.out); have K12 := Lib.hid (blk_below hb2 K1.out); have HP2 := Lib.hid ((HP1.out.below hb2).mono hb2.size); have HM2 := Lib.hid (HM1.out.next hb2); have HS2 := Lib.hid ((HS1.out.below hb2).mono hb2.size); clear hb2)
  clear d0 d1 hI hI2 HB1 K0 K1 HP1 HM1 HS1
  go_cut [7, 8] (fun s7 s8 wx => ∃ (vl vm : Value), s7 = vl ∧ s8 = vm ∧ Hid (LlC w pn cn (.slice Ap L.length cp) (.slice Ac Ms.length cc) (.slice As Cs.length cs) vl vm L Ms Cs wx))
  case first =>
    have q0 : w2.cell? ⟨w.heap.size, 0, none⟩ = some (.string pn) := cell_of_row _ _ 0 _ _ (0, 0) K02.out
    have q1 : w2.cell? ⟨w.heap.size, 1, none⟩ = some (.slice Ap L.length cp) := cell_of_row _ _ 1 _ _ (0, 0) K02.out
    have q2 : w2.cell? ⟨w.heap.size + 1, 0, none⟩ = some (.string cn) := cell_of_row _ _ 0 _ _ (0, 0) K12.out
    have q3 : w2.cell? ⟨w.heap.size + 1, 1, none⟩ = some (.slice Ac Ms.length cc) := cell_of_row _ _ 1 _ _ (0, 0) K12.out
    have hbc : Below w2.heap.size w2 w2.drew := below_drew1 (Below.refl _ _)
    have HEN := Lib.hid (fun W (hb : Below w2.heap.size w2 W) => entries_any pn (.slice Ap L.length cp) L W HL.out ((HP2.out.below hb).mono hb.size) (by omega))
    have HME := Lib.hid (fun W (hb : Below w2.heap.size w2 W) => members_any W cn (.slice Ac Ms.length cc) Ms (HM2.out.next hb) (by omega))
    go_region_held3 (fun v => v.cell? ⟨w.heap.size, 0, none⟩ = some (.string pn) ∧ v.cell? ⟨w.heap.size, 1, none⟩ = some (.slice Ap L.length cp) ∧ v.cell? ⟨w.heap.size + 1, 0, none⟩ = some (.string cn) ∧ v.cell? ⟨w.heap.size + 1, 1, none⟩ = some (.slice Ac Ms.length cc)) (first | exact hS | go_keep) ((first
      | (go_at_call 6; (with_reducible refine (HEN.out _ (by assumption)).mono ?_); rintro e W5 ⟨vl, rfl, ho5, hb5⟩; obtain ⟨Al, cl, rfl, _⟩ := owns_form ho5; have HOE := Lib.hid ho5; have HBE := Lib.hid hb5; have hbc := Below.trans (by assumption : Below w2.heap.size w2 _) (hb5.mono (by first | exact Nat.le_refl _ | exact HBM.out.size)); have hS := And.intro ((hbc.cell (p := ⟨w.heap.size, 0, none⟩) (lt_of_block K02.out)).trans q0) (And.intro ((hbc.cell (p := ⟨w.heap.size, 1, none⟩) (lt_of_block K02.out)).trans q1) (And.intro ((hbc.cell (p := ⟨w.heap.size + 1, 0, none⟩) (lt_of_block K12.out)).trans q2) ((hbc.cell (p := ⟨w.heap.size + 1, 1, none⟩) (lt_of_block K12.out)).trans q3))); clear ho5 hb5)
      | (go_at_call 7; (with_reducible refine (HME.out _ (by assumption)).mono ?_); rintro e W6 ⟨vm, rfl, ho6, hb6⟩; obtain ⟨Am, cm, rfl, _⟩ := owns_form ho6; have HOM := Lib.hid ho6; have HBM := Lib.hid hb6; have hbc := Below.trans (by assumption : Below w2.heap.size w2 _) (hb6.mono (by first | exact Nat.le_refl _ | exact HBE.out.size)); have hS := And.intro ((hbc.cell (p := ⟨w.heap.size, 0, none⟩) (lt_of_block K02.out)).trans q0) (And.intro ((hbc.cell (p := ⟨w.heap.size, 1, none⟩) (lt_of_block K02.out)).trans q1) (And.intro ((hbc.cell (p := ⟨w.heap.size + 1, 0, none⟩) (lt_of_block K12.out)).trans q2) ((hbc.cell (p := ⟨w.heap.size + 1, 1, none⟩) (lt_of_block K12.out)).trans q3))); clear ho6 hb6)))
    all_goals go_wp2_with fail
    all_goals go_meet
    all_goals first
      | exact ⟨_, _, rfl, rfl, LlC.of HB2.out K02.out K12.out HP2.out HM2.out HS2.out hbc (two_rows (below_drew1 (Below.refl _ _)) HBE.out HBM.out HOE.out HOM.out).2.1 (two_rows (below_drew1 (Below.refl _ _)) HBE.out HBM.out HOE.out HOM.out).2.2⟩
      | exact ⟨_, _, rfl, rfl, LlC.of HB2.out K02.out K12.out HP2.out HM2.out HS2.out hbc (two_rows (below_drew1 (Below.refl _ _)) HBM.out HBE.out HOM.out HOE.out).2.2 (two_rows (below_drew1 (Below.refl _ _)) HBM.out HBE.out HOM.out HOE.out).2.1⟩
  case rest =>
    obtain ⟨vl, vm, rfl, rfl, HC⟩ := hcut
    clear HB2 K02 K12 HP2 HM2 HS2
    go_upto_region 5 with fail
    have HI1 : Hid (L1St wc (wc.alloc (.cells #[.string ⟨#[]⟩, .slice none 0 0] 24)) (.slice none 0 0) (.slice none 0 0) [] []) := Lib.hid ⟨below1 wc _, ⟨blk1 wc _, World.ownsRow_nil _ _ _ _⟩, World.ownsRow_nil _ _ _ _, fun g hg => by cases hg⟩
    generalize wc.alloc (.cells #[.string ⟨#[]⟩, .slice none 0 0] 24) = w4 at *
    go_wp2
    go_loopw [10, 11] (fun s i wr => ∃ (k : Nat) (vq : Value), i = .int .i64 k ∧ k ≤ L.length ∧ Hid (L1St wc wr s vq (List.replicate k false) (keepL (DB L) L k))) (fun _ i _ => L.length - (intOf i).toNat)
    case atStart => exact ⟨0, _, rfl, by omega, HI1⟩
    case round =>
      obtain ⟨k, vq, rfl, hk, HK⟩ := hrel
      have C := HC.out.next HK.out.bel
      have d0 : wr.cell? ⟨w.heap.size, 1, none⟩ = some (.slice Ap L.length cp) := cell_of_row _ _ 1 _ _ (0, 0) C.pb
      by_cases hlt : k < L.length
      · have hI : (k : Int) < (L.length : Int) := by omega
        obtain ⟨x, hx⟩ : ∃ x, L[k]? = some x := ⟨_, List.getElem?_eq_getElem hlt⟩
        obtain ⟨b, off, c', hv, _, hbB, hcell⟩ := HC.out.rp.posAt (by omega)
        injection hv with hv1 hvl hv3
        subst hv1 hv3
        clear hvl
        have HX := Lib.hid hx
        have HCE := Lib.hid (And.intro hbB (And.intro (hcell k 0 _ (ecell hx rfl)) (And.intro (hcell k 1 _ (ecell hx rfl)) (And.intro (hcell k 2 _ (ecell hx rfl)) (And.intro (hcell k 3 _ (ecell hx rfl)) (hcell k 4 _ (ecell hx rfl)))))))
        clear hcell hx hbB C
        obtain ⟨Ds, hDs⟩ : ∃ Ds, List.replicate k false = Ds := ⟨_, rfl⟩
        have hdl : Ds.length = k := by rw [← hDs]; simp
        obtain ⟨E, hE⟩ : ∃ E, keepL (DB L) L k = E := ⟨_, rfl⟩
        have hel : E.length ≤ 40 := by rw [← hE]; have := keep_len (DB L) L k; omega
        rw [hDs, hE] at HK
        have HDS := Lib.hid hDs
        have HE := Lib.hid hE
        clear hDs hE
        obtain ⟨Ad, cd, rfl, _⟩ := owns_form HK.out.dr
        rw [hdl] at HK ⊢
        have hbs := HK.out.bx.lt
        obtain ⟨q, hq⟩ : ∃ q, DB L k = q := ⟨_, rfl⟩
        have HQ := Lib.hid hq
        have HHAS := Lib.hid (fun W (hb : Below wc.heap.size wc W) => lnHas_any (fndE L) u7 k W ((HC.out.next hb).rl) (by have := plL_len (fun i => !DB L i) L.length; show (plL (fun i => !DB L i) L.length).length ≤ _; omega))
        rw [show hasI (fndE L) k = !q from by rw [← hq]; exact hasI_pl (fun i => !DB L i) L.length k hlt] at HHAS
        clear hq
        go_upto_region 10 with (at_builtin; refine wpList_push2 (v := .slice Ad k cd) rfl _ _ 33 rfl 4 i0 _ 1 1 Tryz.underlying33 hi hz0 hz1 hz2 rfl (by decide) (by decide) [.bool false] rfl rfl rfl (hdl ▸ HK.out.dr) rfl (by intro u hu; simp only [List.mem_cons, List.not_mem_nil, or_false] at hu; subst hu; rfl) (by omega) hbs ?_; intro v3 w5 ho3 hg3 hm3; obtain ⟨A3, c3, rfl, _⟩ := owns_form ho3; have HK3 := Lib.hid (HK.out.pushD (b := false) (by rw [hdl]; exact ho3) hg3 hm3); clear ho3 hg3 hm3)
        cases q with
        | false =>
          go_wp2_with ((with_reducible refine (HHAS.out _ HK3.out.bel).mono ?_); rintro e w5 ⟨rfl, rfl⟩)
          exact ⟨⟨k + 1, vq, by go_num, by omega, Lib.hid (by rw [List.replicate_succ', keep_no HQ.out, HDS.out, HE.out]; exact HK3.out)⟩, by simp only [intOf]; omega⟩
        | true =>
          go_upto_region 11 with ((with_reducible refine (HHAS.out _ HK3.out.bel).mono ?_); rintro e w5 ⟨rfl, rfl⟩)
          clear HHAS HK d0 hbs
          obtain ⟨Aq, cq, rfl, _⟩ := owns_form HK3.out.bx.row
          have hwd : Below w5.heap.size w5 { w5 with drawn := w5.drawn + 1 } := ⟨rfl, rfl, rfl, Nat.le_refl _, fun _ _ => rfl⟩
          have HK4 := Lib.hid (HK3.out.next hwd)
          clear hwd HK3
          have hSof : ∀ v : World, Below wc.heap.size wc v ∧ v.heap[wc.heap.size]? = some (.cells #[.string ⟨#[]⟩, .slice Aq E.length cq] 24 (0, 0)) → (v.cell? ⟨wc.heap.size, 1, none⟩ = some (.slice Aq E.length cq) ∧ v.cell? ⟨w.heap.size, 1, none⟩ = some (.slice (some ⟨b, off, none⟩) L.length cp) ∧ v.cell? ⟨b, off + k * 5, none⟩ = some (.bool x.permit) ∧ v.cell? ⟨b, off + k * 5 + 1, none⟩ = some (.int .u32 x.a) ∧ v.cell? ⟨b, off + k * 5 + 2, none⟩ = some (.int .i64 x.n) ∧ v.cell? ⟨b, off + k * 5 + 3, none⟩ = some (.int .i64 x.ge) ∧ v.cell? ⟨b, off + k * 5 + 4, none⟩ = some (.int .i64 x.le)) := fun v hv => ⟨cell_of_row _ _ 1 _ _ (0, 0) hv.2, cell_of_row _ _ 1 _ _ (0, 0) (HC.out.next hv.1).pb, (hv.1.cell (p := ⟨b, off + k * 5, none⟩) HCE.out.1).trans HCE.out.2.1, (hv.1.cell (p := ⟨b, off + k * 5 + 1, none⟩) HCE.out.1).trans HCE.out.2.2.1, (hv.1.cell (p := ⟨b, off + k * 5 + 2, none⟩) HCE.out.1).trans HCE.out.2.2.2.1, (hv.1.cell (p := ⟨b, off + k * 5 + 3, none⟩) HCE.out.1).trans HCE.out.2.2.2.2.1, (hv.1.cell (p := ⟨b, off + k * 5 + 4, none⟩) HCE.out.1).trans HCE.out.2.2.2.2.2⟩
          generalize hSdef : (fun v : World => (v.cell? ⟨wc.heap.size, 1, none⟩ = some (.slice Aq E.length cq) ∧ v.cell? ⟨w.heap.size, 1, none⟩ = some (.slice (some ⟨b, off, none⟩) L.length cp) ∧ v.cell? ⟨b, off + k * 5, none⟩ = some (.bool x.permit) ∧ v.cell? ⟨b, off + k * 5 + 1, none⟩ = some (.int .u32 x.a) ∧ v.cell? ⟨b, off + k * 5 + 2, none⟩ = some (.int .i64 x.n) ∧ v.cell? ⟨b, off + k * 5 + 3, none⟩ = some (.int .i64 x.ge) ∧ v.cell? ⟨b, off + k * 5 + 4, none⟩ = some (.int .i64 x.le))) = S
          have HSO : Hid (∀ v : World, Below wc.heap.size wc v ∧ v.heap[wc.heap.size]? = some (.cells #[.string ⟨#[]⟩, .slice Aq E.length cq] 24 (0, 0)) → S v) := Lib.hid (by rw [← hSdef]; exact hSof)
          have HSE : Hid (∀ v : World, S v → (v.cell? ⟨wc.heap.size, 1, none⟩ = some (.slice Aq E.length cq) ∧ v.cell? ⟨w.heap.size, 1, none⟩ = some (.slice (some ⟨b, off, none⟩) L.length cp) ∧ v.cell? ⟨b, off + k * 5, none⟩ = some (.bool x.permit) ∧ v.cell? ⟨b, off + k * 5 + 1, none⟩ = some (.int .u32 x.a) ∧ v.cell? ⟨b, off + k * 5 + 2, none⟩ = some (.int .i64 x.n) ∧ v.cell? ⟨b, off + k * 5 + 3, none⟩ = some (.int .i64 x.ge) ∧ v.cell? ⟨b, off + k * 5 + 4, none⟩ = some (.int .i64 x.le))) := Lib.hid (by rw [← hSdef]; exact fun v h => h)
          clear hSdef hSof
          haveI : Nonempty (InW S) := ⟨⟨_, HSO.out _ ⟨HK4.out.bel, HK4.out.bx.box⟩⟩⟩
          refine wp_region_mixZ S 10 [(0, false), (1, false), (2, false), (3, false), (4, false), (5, false), (6, false), (7, true), (8, true), (9, false)] (by kernel_rfl) (by kernel_rfl) (HSO.out _ ⟨HK4.out.bel, HK4.out.bx.box⟩) ?_
          generalize { w5 with drawn := w5.drawn + 1 } = W4 at *
          have e0 : ∀ p : InW S, p.w.cell? ⟨wc.heap.size, 1, none⟩ = some (.slice Aq E.length cq) := fun p => (HSE.out p.w p.h).1
          have e1 : ∀ p : InW S, p.w.cell? ⟨w.heap.size, 1, none⟩ = some (.slice (some ⟨b, off, none⟩) L.length cp) := fun p => (HSE.out p.w p.h).2.1
          have e2 : ∀ p : InW S, p.w.cell? ⟨b, off + k * 5, none⟩ = some (.bool x.permit) := fun p => (HSE.out p.w p.h).2.2.1
          have e3 : ∀ p : InW S, p.w.cell? ⟨b, off + k * 5 + 1, none⟩ = some (.int .u32 x.a) := fun p => (HSE.out p.w p.h).2.2.2.1
          have e4 : ∀ p : InW S, p.w.cell? ⟨b, off + k * 5 + 2, none⟩ = some (.int .i64 x.n) := fun p => (HSE.out p.w p.h).2.2.2.2.1
          have e5 : ∀ p : InW S, p.w.cell? ⟨b, off + k * 5 + 3, none⟩ = some (.int .i64 x.ge) := fun p => (HSE.out p.w p.h).2.2.2.2.2.1
          have e6 : ∀ p : InW S, p.w.cell? ⟨b, off + k * 5 + 4, none⟩ = some (.int .i64 x.le) := fun p => (HSE.out p.w p.h).2.2.2.2.2.2
          clear HSE
          refine mixZ_take [0, 1, 2, 3, 4, 5, 6] [_, _, _, _, _, _, _] rfl rfl ?_
          simp only [List.getElem_toArray, List.getElem_cons_zero, List.getElem_cons_succ]
          repeat (go_big_quiet_step (fail))
          refine wpQuiet_nil ?_
          clear e0 e1 e2 e3 e4 e5 e6
          refine mixZ_bar rfl (by rfl) ?_
          simp only [List.getElem_toArray, List.getElem_cons_zero, List.getElem_cons_succ]
          go_simp
          have hbx := HK4.out.bx.lt
          refine ⟨S, HSO.out _ ⟨(HK4.out.next (below1 W4 _)).bel, (HK4.out.next (below1 W4 _)).bx.box⟩, fun _ h => h, ?_⟩
          refine mixZ_bar rfl (by rfl) ?_
          simp only [List.getElem_toArray, List.getElem_cons_zero, List.getElem_cons_succ]
          refine oper_pushM (v := .slice Aq E.length cq) rfl _ _ 22 rfl 40 i1 _ 5 40 Tryz.underlying22 hj hy0 hy1 hy2 rfl (by decide) (by decide) 1 (by decide) (by decide) [.bool x.permit, .int .u32 x.a, .int .i64 x.n, .int .i64 x.ge, .int .i64 x.le] rfl rfl rfl HK4.out.bx.row rfl (ent_one x) (by omega) hbx ?_
          intro v5 w6 ho5 hg5 hm5
          have HG := Lib.hid (HK4.out.grow hg5)
          have HK6 := Lib.hid (HK4.out.pushQ (x := x) ho5 hg5 hm5)
          obtain ⟨A5, c5, rfl, _⟩ := owns_form ho5
          clear ho5 hg5 hm5
          refine ⟨S, HSO.out _ HG.out, fun _ h => h, ?_⟩
          go_simp
          refine mixZ_take [9] [_] rfl rfl ?_
          simp only [List.getElem_toArray, List.getElem_cons_zero, List.getElem_cons_succ]
          repeat (go_big_quiet_step (fail))
          refine wpQuiet_nil ?_
          have c7 : w6.cell? ⟨wc.heap.size, 1, none⟩ = some (.slice Aq E.length cq) := cell_of_row _ _ 1 _ _ (0, 0) HG.out.2
          have f7 := frozen_of_row _ _ 1 _ _ HG.out.2
          refine mixZ_end rfl (by rfl) ?_
          simp only [List.getElem_toArray, List.getElem_cons_zero, List.getElem_cons_succ]
          go_simp
          clear c7 f7 HG HK4
          generalize w6.setCell ⟨wc.heap.size, 1, none⟩ (.slice A5 (E.length + 1) c5) = w7 at *
          go_wp2
          exact ⟨⟨k + 1, _, by go_num, by omega, Lib.hid (by rw [List.replicate_succ', keep_yes HX.out HQ.out, HDS.out, HE.out]; exact HK6.out)⟩, by simp only [intOf]; omega⟩
      · obtain rfl : k = L.length := by omega
        have hI : ¬ (L.length : Int) < (L.length : Int) := by omega
        clear C
        obtain ⟨Q, hQ⟩ : ∃ Q, keepL (DB L) L L.length = Q := ⟨_, rfl⟩
        have HQL : Hid (Q.length ≤ 40) := Lib.hid (by rw [← hQ]; have := keep_len (DB L) L L.length; omega)
        have HQP : Hid (∀ (a : Int) (b : Nat), b ≤ 32 → chk a b = 0 → permL EntV.permit (entF a b) Q = permL EntV.permit (entF a b) L) := Lib.hid (by rw [← hQ]; exact fun a b hb hc => left_perm HL.out hb hc)
        have HQE : Hid (∀ x ∈ Q, EntOk x) := Lib.hid (by rw [← hQ]; exact left_ok HL.out)
        have HQF : Hid (fndE Q = []) := Lib.hid (by rw [← hQ]; exact left_none L)
        rw [hQ] at HK
        clear hQ
        obtain ⟨Aq, cq, rfl, _⟩ := owns_form HK.out.bx.row
        obtain ⟨Ad, cd, rfl, _⟩ := owns_form HK.out.dr
        rw [List.length_replicate] at HK ⊢
        have HDZ := Lib.hid (DecSt.zero (L := L))
        obtain ⟨D0, hD0⟩ : ∃ D0, List.replicate L.length false = D0 := ⟨_, rfl⟩
        rw [hD0] at HK HDZ
        clear hD0
        go_wp2
        clear hI d0
        go_loopw [12] (fun i wq => ∃ (b : Nat) (Ds : List Bool), i = .int .i64 b ∧ b ≤ 33 ∧ Hid (L1St wc wq (.slice Ad L.length cd) (.slice Aq Q.length cq) Ds Q) ∧ Hid (DecSt L Ds b [])) (fun i _ => 33 - (intOf i).toNat)
        case atStart => exact ⟨0, D0, rfl, by omega, HK, HDZ⟩
        case round =>
          obtain ⟨b, Ds, rfl, hb33, HKq, HDq⟩ := hrel
          by_cases hb : b < 33
          · have hI : (b : Int) ≤ 32 := by omega
            have C := HC.out.next HKq.out.bel
            have d0 : wr.cell? ⟨w.heap.size, 0, none⟩ = some (.string pn) := cell_of_row _ _ 0 _ _ (0, 0) C.pb
            have d1 : wr.cell? ⟨w.heap.size, 1, none⟩ = some (.slice Ap L.length cp) := cell_of_row _ _ 1 _ _ (0, 0) C.pb
            have HEA := Lib.hid (pfEach_any pn (.slice Ap L.length cp) L b wr HL.out C.rp (by omega))
            have HGD : Hid (∀ gd, Ad = some ⟨gd, 0, none⟩ → gd < wr.heap.size) := Lib.hid fun gd h => (HKq.out.dr.lt gd (by rw [h]; rfl)).2
            clear C
            go_upto_region 16 with ((with_reducible refine HEA.out.mono ?_); rintro e w5 ⟨vps, Cp, rfl, hst, hcl, hown, hb5⟩; obtain ⟨Aps, cps, rfl, hgp⟩ := owns_form hown; have HK5 := Lib.hid (HKq.out.next hb5); have HPS := Lib.hid hown; have HST := Lib.hid (And.intro hst hcl); clear hst hcl hown hb5)
            obtain ⟨gp, rfl⟩ := hgp (by omega)
            clear hgp d0 d1 HEA
            generalize wr.heap.size = B5 at *
            go_wp2
            go_loopw [14] (fun i wz => ∃ (j : Nat) (Ds : List Bool), i = .int .i64 j ∧ j ≤ Cp.length + 1 ∧ Hid (L1St wc wz (.slice Ad L.length cd) (.slice Aq Q.length cq) Ds Q) ∧ Hid (wz.ownsRow B5 38 2 (.slice (some ⟨gp, 0, none⟩) (Cp.length + 1) cps) (Cp.length + 1) (pfc (pcs 4294967295 0 Cp) b)) ∧ Hid (DecSt L Ds b ((pcs 4294967295 0 Cp).take j))) (fun i _ => Cp.length + 1 - (intOf i).toNat)
            case atStart => exact ⟨0, Ds, rfl, by omega, HK5, HPS, HDq⟩
            case round =>
              obtain ⟨j, Ds2, rfl, hj2, HKz, HPz, HDz⟩ := hrel
              by_cases hlj : j < Cp.length + 1
              case neg =>
                obtain rfl : j = Cp.length + 1 := by omega
                have hJ : ¬ (Cp.length : Int) + 1 < (Cp.length : Int) + 1 := by omega
                have HDN : Hid (DecSt L Ds2 (b + 1) []) := Lib.hid (by
                  have h := HDz.out
                  rw [List.take_of_length_le (by rw [pcs_len]; exact Nat.le_refl _)] at h
                  exact h.next HL.out (by omega) HST.out.1)
                go_wp2
                exact ⟨⟨b + 1, Ds2, by go_num, by omega, HKz, HDN⟩, by simp only [intOf]; omega⟩
              have hJ : (j : Int) < (Cp.length : Int) + 1 := by omega
              have hc2 : Cp.length ≤ 2000 := HST.out.2
              obtain ⟨s, hs⟩ := HST.out.1.piece (by omega) hlj
              have HCH := Lib.hid (piece_chk HL.out (by omega) hs)
              have HSJ := Lib.hid hs.at_
              have HSR : Hid (0 ≤ s.lo ∧ s.lo < 4294967296) := Lib.hid s.hlo
              clear hs
              obtain ⟨pv, hpv⟩ : ∃ pv, permL EntV.permit (entF s.lo (b : Int)) L = pv := ⟨_, rfl⟩
              have hpq : permL EntV.permit (entF s.lo (b : Int)) Q = pv := (HQP.out s.lo b (by omega) HCH.out).trans hpv
              have HPP := Lib.hid (fun W (hb : Below wr.heap.size wr W) => entPermits_any pn (.slice Ap L.length cp) L s.lo b W HL.out HSR.out (HC.out.next (HKz.out.next hb).bel).rp (by omega))
              have HPQ := Lib.hid (fun W (hb : Below wr.heap.size wr W) => entPermits_any ⟨#[]⟩ (.slice Aq Q.length cq) Q s.lo b W HQE.out HSR.out (Rd.of_own (HKz.out.next hb).bx.row) (by have := HQL.out; omega))
              rw [hpv] at HPP
              rw [hpq] at HPQ
              clear hpv hpq
              have hne : (pv != pv) = false := by simp
              have x0 : wr.cell? ⟨w.heap.size, 0, none⟩ = some (.string pn) := cell_of_row _ _ 0 _ _ (0, 0) (HC.out.next HKz.out.bel).pb
              have x1 : wr.cell? ⟨w.heap.size, 1, none⟩ = some (.slice Ap L.length cp) := cell_of_row _ _ 1 _ _ (0, 0) (HC.out.next HKz.out.bel).pb
              have x2 : wr.cell? ⟨wc.heap.size, 0, none⟩ = some (.string ⟨#[]⟩) := cell_of_row _ _ 0 _ _ (0, 0) HKz.out.bx.box
              have x3 : wr.cell? ⟨wc.heap.size, 1, none⟩ = some (.slice Aq Q.length cq) := cell_of_row _ _ 1 _ _ (0, 0) HKz.out.bx.box
              have y0 : wr.cell? ⟨gp, j * 2, none⟩ = some (.int .u32 s.lo) := (HPz.out.cellAt (j * 2) (by omega)).trans (pfcell (b := b) (i := 0) (v := .int .u32 s.lo) HSJ.out rfl)
              have y1 : wr.cell? ⟨gp, j * 2 + 1, none⟩ = some (.int .i64 b) := (HPz.out.cellAt (j * 2 + 1) (by omega)).trans (pfcell (b := b) (i := 1) (v := .int .i64 b) HSJ.out rfl)
              have F0 := cell_regrown x0
              have F1 := cell_regrown x1
              have F2 := cell_regrown x2
              have F3 := cell_regrown x3
              have G0 := cell_regrown y0
              have G1 := cell_regrown y1
              go_upto_region 19 with fail
              refine wp_region_quiet_below (by kernel_rfl) (by kernel_rfl) ?_
              repeat (first | go_big_quiet_step ((first | (go_at_call 10; (first | with_reducible exact Calls.regrown_of (HPP.out _ (below_regrown wr _ _)) | with_reducible exact Calls.regrown_of (HPQ.out _ (below_regrown wr _ _)))))) | quiet_step ((first | (go_at_call 10; (first | with_reducible exact Calls.regrown_of (HPP.out _ (below_regrown wr _ _)) | with_reducible exact Calls.regrown_of (HPQ.out _ (below_regrown wr _ _)))))))
              refine wpQuiet_nil ?_
              intro _ hw'
              obtain ⟨⟨nq, osq⟩, hw''⟩ := hw'
              subst hw''
              have hq := below_regrown wr nq osq
              clear F0 F1 F2 F3 G0 G1 x0 x1 x2 x3 y0 y1
              generalize grow (redrawn wr nq) osq = w6 at *
              have HK6 := Lib.hid (HKz.out.next hq)
              have HP6 := Lib.hid (owns_kept_none HPz.out (only_of_below hq none))
              clear hq HPP HPQ HKz HPz
              have x0 : w6.cell? ⟨w.heap.size, 0, none⟩ = some (.string pn) := cell_of_row _ _ 0 _ _ (0, 0) (HC.out.next HK6.out.bel).pb
              have x1 : w6.cell? ⟨w.heap.size, 1, none⟩ = some (.slice Ap L.length cp) := cell_of_row _ _ 1 _ _ (0, 0) (HC.out.next HK6.out.bel).pb
              have x2 : w6.cell? ⟨wc.heap.size, 0, none⟩ = some (.string ⟨#[]⟩) := cell_of_row _ _ 0 _ _ (0, 0) HK6.out.bx.box
              have x3 : w6.cell? ⟨wc.heap.size, 1, none⟩ = some (.slice Aq Q.length cq) := cell_of_row _ _ 1 _ _ (0, 0) HK6.out.bx.box
              have y0 : w6.cell? ⟨gp, j * 2, none⟩ = some (.int .u32 s.lo) := (HP6.out.cellAt (j * 2) (by omega)).trans (pfcell (b := b) (i := 0) (v := .int .u32 s.lo) HSJ.out rfl)
              have y1 : w6.cell? ⟨gp, j * 2 + 1, none⟩ = some (.int .i64 b) := (HP6.out.cellAt (j * 2 + 1) (by omega)).trans (pfcell (b := b) (i := 1) (v := .int .i64 b) HSJ.out rfl)
              have F0 := cell_regrown x0
              have F1 := cell_regrown x1
              have F2 := cell_regrown x2
              have F3 := cell_regrown x3
              have G0 := cell_regrown y0
              have G1 := cell_regrown y1
              have HEN := Lib.hid (fun W (hb : Below w6.heap.size w6 W) => lsEntry_any pn (.slice Ap L.length cp) L s.lo b W HL.out HSR.out (HC.out.next (HK6.out.next hb).bel).rp (by omega))
              obtain ⟨fi, hfi⟩ : ∃ fi, idxP (entF s.lo (b : Int)) L = fi := ⟨_, rfl⟩
              rw [hfi] at HEN
              have HFI := Lib.hid hfi
              clear hfi
              have hcase : fi = -1 ∨ ∃ k : Nat, fi = k ∧ k < L.length := by
                have h := HFI.out
                rcases idxP_cases (entF s.lo (b : Int)) L with ⟨h1, _⟩ | ⟨k, x, h1, h2, _⟩
                · exact .inl (h.symm.trans h1)
                · exact .inr ⟨k, h.symm.trans h1, (List.getElem?_eq_some_iff.1 h2).1⟩
              rcases hcase with rfl | ⟨k, rfl, hkl⟩
              · unfold fstV at HEN
                have HEN2 : Hid (∀ W, Below w6.heap.size w6 W → Calls Tryz.prog 11 #[.agg #[.string pn, .slice Ap L.length cp], .agg #[.int .u32 s.lo, .int .i64 b]] W fun e w' => e = .returned (.tuple #[.int .i64 0, .bool false]) ∧ Below W.heap.size W w') := Lib.hid fun W hb => by have h := HEN.out W hb; simpa using h
                clear HEN
                go_upto_region 21 with fail
                refine wp_region_quiet_below (by kernel_rfl) (by kernel_rfl) ?_
                repeat (first | go_big_quiet_step ((first | (go_at_call 11; (first | with_reducible exact Calls.regrown_of (HEN2.out _ (below_regrown w6 _ _)))))) | quiet_step ((first | (go_at_call 11; (first | with_reducible exact Calls.regrown_of (HEN2.out _ (below_regrown w6 _ _)))))))
                refine wpQuiet_nil ?_
                intro _ hw'
                obtain ⟨⟨nq, osq⟩, hw''⟩ := hw'
                subst hw''
                have hq := below_regrown w6 nq osq
                clear F0 F1 F2 F3 G0 G1 x0 x1 x2 x3 y0 y1
                generalize grow (redrawn w6 nq) osq = w7 at *
                have HK7 := Lib.hid (HK6.out.next hq)
                have HP7 := Lib.hid (owns_kept_none HP6.out (only_of_below hq none))
                clear hq HEN2
                go_wp2
                exact ⟨⟨j + 1, Ds2, by go_num, by omega, HK7, HP7, Lib.hid (by rw [take_snoc HSJ.out]; exact HDz.out.miss HFI.out)⟩, by simp only [intOf]; omega⟩
              · unfold fstV at HEN
                have hk0 : (0 : Int) ≤ (k : Int) := by omega
                have hk1 : (k : Int) < (L.length : Int) := by omega
                have HEN2 : Hid (∀ W, Below w6.heap.size w6 W → Calls Tryz.prog 11 #[.agg #[.string pn, .slice Ap L.length cp], .agg #[.int .u32 s.lo, .int .i64 b]] W fun e w' => e = .returned (.tuple #[.int .i64 k, .bool true]) ∧ Below W.heap.size W w') := Lib.hid fun W hb => by have h := HEN.out W hb; simpa using h
                clear HEN
                go_upto_region 21 with fail
                refine wp_region_quiet_below (by kernel_rfl) (by kernel_rfl) ?_
                repeat (first | go_big_quiet_step ((first | (go_at_call 11; (first | with_reducible exact Calls.regrown_of (HEN2.out _ (below_regrown w6 _ _)))))) | quiet_step ((first | (go_at_call 11; (first | with_reducible exact Calls.regrown_of (HEN2.out _ (below_regrown w6 _ _)))))))
                refine wpQuiet_nil ?_
                intro _ hw'
                obtain ⟨⟨nq, osq⟩, hw''⟩ := hw'
                subst hw''
                have hq := below_regrown w6 nq osq
                clear F0 F1 F2 F3 G0 G1 x0 x1 x2 x3 y0 y1
                generalize grow (redrawn w6 nq) osq = w7 at *
                have HK7 := Lib.hid (HK6.out.next hq)
                have HP7 := Lib.hid (owns_kept_none HP6.out (only_of_below hq none))
                clear hq HEN2
                have hdl : Ds2.length = L.length := HDz.out.len
                obtain ⟨A7, c7, hv7, hA7⟩ := owns_form HK7.out.dr
                injection hv7 with hv7a hv7b hv7c
                subst hv7a hv7c
                clear hv7b
                obtain ⟨gd, rfl⟩ := hA7 (by omega)
                have HGL := Lib.hid (HGD.out gd rfl)
                have HDR : Hid (w7.ownsRow (wc.heap.size + 1) 4 1 (.slice (some ⟨gd, 0, none⟩) L.length cd) L.length (Ds2.map Value.bool)) := Lib.hid (by have h := HK7.out.dr; rw [hdl] at h; exact h)
                obtain ⟨dk, hdk⟩ : ∃ dk, Ds2[k]? = some dk := ⟨_, List.getElem?_eq_getElem (by omega)⟩
                have z0 : w7.cell? ⟨gd, k, none⟩ = some (.bool dk) := (HDR.out.cellAt k (by omega)).trans (by simp [hdk])
                have z1 := HDR.out.frozenAt k
                have HK8 : Hid (L1St wc (w7.setCell ⟨gd, k, none⟩ (.bool true)) (.slice (some ⟨gd, 0, none⟩) L.length cd) (.slice Aq Q.length cq) (Ds2.set k true) Q) := Lib.hid (by
                  have h := HK7.out
                  rw [← hdl] at h ⊢
                  exact h.dec k)
                have HP8 := Lib.hid (owns_setI (g := gd) (i := k) (u := .bool true) HP7.out HGL.out)
                have HDN : Hid (DecSt L (Ds2.set k true) b ((pcs 4294967295 0 Cp).take (j + 1))) := Lib.hid (by rw [take_snoc HSJ.out]; exact HDz.out.hit HFI.out (idx_dec HL.out (by omega) HCH.out HFI.out) hkl)
                clear HK7 HP7 hdk hdl
                go_wp2
                exact ⟨⟨j + 1, _, by go_num, by omega, HK8, HP8, HDN⟩, by simp only [intOf]; omega⟩
          · obtain rfl : b = 33 := by omega
            have hI : ¬ ((33 : Nat) : Int) ≤ 32 := by omega
            obtain ⟨HDF, _⟩ : Hid (∀ i : Nat, i < L.length → Ds[i]? = some (DB L i)) ∧ True := ⟨Lib.hid fun i hi => HDq.out.fin hi, trivial⟩
            go_wp2
            go_loopw [17] (fun i wz => ∃ k : Nat, i = .int .i64 k ∧ k ≤ L.length ∧ Hid (L1St wc wz (.slice Ad L.length cd) (.slice Aq Q.length cq) Ds Q)) (fun i _ => L.length - (intOf i).toNat)
            case atStart => exact ⟨0, rfl, by omega, HKq⟩
            case round =>
            obtain ⟨k, rfl, hk, HKz⟩ := hrel
            by_cases hlk : k < L.length
            case pos =>
              have hI : (k : Int) < (L.length : Int) := by omega
              obtain ⟨A7, c7, hv7, hA7⟩ := owns_form HKz.out.dr
              injection hv7 with hv7a hv7b hv7c
              subst hv7a hv7c
              rw [← hv7b] at hA7
              obtain ⟨gd, rfl⟩ := hA7 (by omega)
              have z0 : wr.cell? ⟨gd, k, none⟩ = some (.bool (DB L k)) := by
                have h := HKz.out.dr
                rw [← hv7b] at h
                exact (h.cellAt k (by omega)).trans (by simp [HDF.out k hlk])
              have HHAS := Lib.hid (fun W (hb : Below wr.heap.size wr W) => (lnHas_any (fndE L) u7 k W ((HC.out.next (HKz.out.next hb).bel).rl) (by have := plL_len (fun i => !DB L i) L.length; show (plL (fun i => !DB L i) L.length).length ≤ _; omega)).mono fun e w' (h : e = .returned (.bool (hasI (fndE L) k)) ∧ w' = W) => (⟨h.1, h.2 ▸ Below.refl _ _⟩ : e = .returned (.bool (hasI (fndE L) k)) ∧ Below W.heap.size W w'))
              rw [show hasI (fndE L) k = !DB L k from hasI_pl (fun i => !DB L i) L.length k hlk] at HHAS
              generalize DB L k = q at *
              have hne : (q == !q) = false := by cases q <;> rfl
              have F0 := cell_regrown z0
              go_upto_region 27 with fail
              refine wp_region_quiet_below (by kernel_rfl) (by kernel_rfl) ?_
              repeat (first | go_big_quiet_step ((first | (go_at_call 8; (first | with_reducible exact Calls.regrown_of (HHAS.out _ (below_regrown wr _ _)))))) | quiet_step ((first | (go_at_call 8; (first | with_reducible exact Calls.regrown_of (HHAS.out _ (below_regrown wr _ _)))))))
              refine wpQuiet_nil ?_
              intro _ hw'
              obtain ⟨⟨nq, osq⟩, hw''⟩ := hw'
              subst hw''
              have hq := below_regrown wr nq osq
              clear F0 z0
              generalize grow (redrawn wr nq) osq = w6 at *
              have HK6 := Lib.hid (HKz.out.next hq)
              clear hq HHAS
              go_wp2
              exact ⟨⟨k + 1, by go_num, by omega, HK6⟩, by simp only [intOf]; omega⟩
            obtain rfl : k = L.length := by omega
            have hI : ¬ (L.length : Int) < (L.length : Int) := by omega
            have HC8 := Lib.hid (HC.out.next HKz.out.bel)
            have HK8 := HKz
            clear HKz
            go_upto_region 30 with fail
            clear hI
            have HI5 : Hid (L5St wr (wr.alloc (.cells #[.string ⟨#[]⟩, .slice none 0 0] 27)) (.slice none 0 0) []) := Lib.hid ⟨below1 wr _, ⟨blk1 wr _, World.ownsRow_nil _ _ _ _⟩⟩
            generalize wr.alloc (.cells #[.string ⟨#[]⟩, .slice none 0 0] 27) = w9 at *
            generalize wr = w8 at *
            go_wp2
            go_loopw [19] (fun i wz => ∃ (k : Nat) (vr : Value), i = .int .i64 k ∧ k ≤ Ms.length ∧ Hid (L5St w8 wz vr (keepL (fun i => !memP Ms i) Ms k))) (fun i _ => Ms.length - (intOf i).toNat)
            case atStart => exact ⟨0, _, rfl, by omega, HI5⟩
            case round =>
            obtain ⟨k, vr, rfl, hk, H5⟩ := hrel
            obtain ⟨Ar, cr, rfl, _⟩ := owns_form H5.out.bx.row
            have d1 : wr.cell? ⟨w.heap.size + 1, 1, none⟩ = some (.slice Ac Ms.length cc) := cell_of_row _ _ 1 _ _ (0, 0) (HC8.out.next H5.out.bel).cb
            by_cases hlk : k < Ms.length
            case pos =>
              have hI : (k : Int) < (Ms.length : Int) := by omega
              obtain ⟨x, hx⟩ : ∃ x, Ms[k]? = some x := ⟨_, List.getElem?_eq_getElem hlk⟩
              obtain ⟨b, off, c', hv, _, hbB, hcell⟩ := HC8.out.rm.1.posAt (by omega)
              injection hv with hv1 hvl hv3
              subst hv1 hv3
              clear hvl
              have hxm := HC8.out.rm.2 x (List.mem_of_getElem? hx)
              obtain ⟨Ax, cx, hxv, _⟩ := hxm.1.form
              have HENC : Hid (x.enc = [.bool x.permit, .slice Ax x.L.length cx]) := Lib.hid (by unfold MemV.enc; rw [hxv])
              have HCE := Lib.hid (And.intro hbB (And.intro (hcell k 0 _ (mcell hx rfl)) ((hcell k 1 _ (mcell hx rfl)).trans (by rw [hxv]) : w8.cell? ⟨b, off + k * 2 + 1, none⟩ = some (.slice Ax x.L.length cx))))
              have HXL := Lib.hid hxm.2
              have HRX : Hid (∀ V, Below w8.heap.size w8 V → Rd V V.heap.size 1 (.slice Ax x.L.length cx) x.L.length (u32c x.L)) := Lib.hid fun V hb => by
                have h := ((HC8.out.next hb).rm.2 x (List.mem_of_getElem? hx)).1
                rw [hxv] at h
                exact h
              obtain ⟨ki, hki1, hki2, hki3⟩ := mem_self hx
              have HKI := Lib.hid hki2
              have HX := Lib.hid hx
              obtain ⟨E, hE⟩ : ∃ E, keepL (fun i => !memP Ms i) Ms k = E := ⟨_, rfl⟩
              have hel : E.length ≤ 40 := by rw [← hE]; have := keep_len (fun i => !memP Ms i) Ms k; omega
              rw [hE] at H5
              have HE := Lib.hid hE
              have HHAS := Lib.hid (fun W (hb : Below wc.heap.size wc W) => lnHas_any (fndM Ms) u8 k W ((HC.out.next hb).rk) (by have := plL_len (memP Ms) Ms.length; show (plL (memP Ms) Ms.length).length ≤ _; omega))
              rw [show hasI (fndM Ms) k = memP Ms k from hasI_pl (memP Ms) Ms.length k hlk] at HHAS
              obtain ⟨q, hq0⟩ : ∃ q, memP Ms k = q := ⟨_, rfl⟩
              rw [hq0] at HHAS hki3
              have HQ := Lib.hid hq0
              have HH1 := Lib.hid (HHAS.out wr (HK8.out.bel.trans (H5.out.bel.mono HK8.out.bel.size)))
              clear hx hcell hbB hxv hxm hki2 hE hq0 hki1
              cases q with
              | false =>
                have hkk : ((ki : Int) == (k : Int)) = true := by simp at hki3; simp; omega
                go_upto_region 34 with ((with_reducible refine HH1.out.mono ?_); rintro e w9 ⟨rfl, rfl⟩)
                clear HH1

                have HSof : Hid (∀ v : World, Below w8.heap.size w8 v ∧ v.heap[w8.heap.size]? = some (.cells #[.string ⟨#[]⟩, .slice Ar E.length cr] 27 (0, 0)) → (v.cell? ⟨w8.heap.size, 1, none⟩ = some (.slice Ar E.length cr) ∧ v.cell? ⟨w.heap.size + 1, 1, none⟩ = some (.slice (some ⟨b, off, none⟩) Ms.length cc) ∧ v.cell? ⟨b, off + k * 2, none⟩ = some (.bool x.permit) ∧ v.cell? ⟨b, off + k * 2 + 1, none⟩ = some (.slice Ax x.L.length cx))) := Lib.hid (fun v hv => ⟨cell_of_row _ _ 1 _ _ (0, 0) hv.2, cell_of_row _ _ 1 _ _ (0, 0) (HC8.out.next hv.1).cb, (hv.1.cell (p := ⟨b, off + k * 2, none⟩) HCE.out.1).trans HCE.out.2.1, (hv.1.cell (p := ⟨b, off + k * 2 + 1, none⟩) HCE.out.1).trans HCE.out.2.2⟩)
                have hwd : Below w9.heap.size w9 { w9 with drawn := w9.drawn + 1 } := ⟨rfl, rfl, rfl, Nat.le_refl _, fun _ _ => rfl⟩
                have H5d := Lib.hid (H5.out.next hwd)
                clear hwd H5 d1
                generalize hSdef : (fun v : World => (v.cell? ⟨w8.heap.size, 1, none⟩ = some (.slice Ar E.length cr) ∧ v.cell? ⟨w.heap.size + 1, 1, none⟩ = some (.slice (some ⟨b, off, none⟩) Ms.length cc) ∧ v.cell? ⟨b, off + k * 2, none⟩ = some (.bool x.permit) ∧ v.cell? ⟨b, off + k * 2 + 1, none⟩ = some (.slice Ax x.L.length cx))) = S
                have HSO : Hid (∀ v : World, Below w8.heap.size w8 v ∧ v.heap[w8.heap.size]? = some (.cells #[.string ⟨#[]⟩, .slice Ar E.length cr] 27 (0, 0)) → S v) := Lib.hid (by rw [← hSdef]; exact HSof.out)
                have HSE : Hid (∀ v : World, S v → (v.cell? ⟨w8.heap.size, 1, none⟩ = some (.slice Ar E.length cr) ∧ v.cell? ⟨w.heap.size + 1, 1, none⟩ = some (.slice (some ⟨b, off, none⟩) Ms.length cc) ∧ v.cell? ⟨b, off + k * 2, none⟩ = some (.bool x.permit) ∧ v.cell? ⟨b, off + k * 2 + 1, none⟩ = some (.slice Ax x.L.length cx))) := Lib.hid (by rw [← hSdef]; exact fun v h => h)
                clear hSdef HSof
                haveI : Nonempty (InW S) := ⟨⟨_, HSO.out _ ⟨H5d.out.bel, H5d.out.bx.box⟩⟩⟩
                refine wp_region_mixZ S 10 [(0, false), (1, false), (2, false), (3, false), (4, false), (5, false), (6, false), (7, true), (8, true), (9, false)] (by kernel_rfl) (by kernel_rfl) (HSO.out _ ⟨H5d.out.bel, H5d.out.bx.box⟩) ?_
                generalize { w9 with drawn := w9.drawn + 1 } = W4 at *
                have e0 : ∀ p : InW S, p.w.cell? ⟨w8.heap.size, 1, none⟩ = some (.slice Ar E.length cr) := fun p => (HSE.out p.w p.h).1
                have e1 : ∀ p : InW S, p.w.cell? ⟨w.heap.size + 1, 1, none⟩ = some (.slice (some ⟨b, off, none⟩) Ms.length cc) := fun p => (HSE.out p.w p.h).2.1
                have e2 : ∀ p : InW S, p.w.cell? ⟨b, off + k * 2, none⟩ = some (.bool x.permit) := fun p => (HSE.out p.w p.h).2.2.1
                have e3 : ∀ p : InW S, p.w.cell? ⟨b, off + k * 2 + 1, none⟩ = some (.slice Ax x.L.length cx) := fun p => (HSE.out p.w p.h).2.2.2
                clear HSE
                refine mixZ_take [0, 1, 2, 3, 4, 5, 6] [_, _, _, _, _, _, _] rfl rfl ?_
                simp only [List.getElem_toArray, List.getElem_cons_zero, List.getElem_cons_succ]
                repeat (go_big_quiet_step (fail))
                refine wpQuiet_nil ?_
                clear e0 e1 e2 e3
                refine mixZ_bar rfl (by rfl) ?_
                simp only [List.getElem_toArray, List.getElem_cons_zero, List.getElem_cons_succ]
                go_simp
                have hbx := H5d.out.bx.lt
                refine ⟨S, HSO.out _ ⟨(H5d.out.next (below1 W4 _)).bel, (H5d.out.next (below1 W4 _)).bx.box⟩, fun _ h => h, ?_⟩
                refine mixZ_bar rfl (by rfl) ?_
                simp only [List.getElem_toArray, List.getElem_cons_zero, List.getElem_cons_succ]
                refine oper_pushM (v := .slice Ar E.length cr) rfl _ _ 25 rfl 48 i2 _ 2 32 Tryz.underlying25 hp0 hx0 hx1 hx2 rfl (by decide) (by decide) 1 (by decide) (by decide) [.bool x.permit, .slice Ax x.L.length cx] rfl rfl rfl H5d.out.bx.row rfl (by intro u hu; simp only [List.mem_cons, List.not_mem_nil, or_false] at hu; rcases hu with rfl | rfl <;> rfl) (by omega) hbx ?_
                intro v5 w6 ho5 hg5 hm5
                have HG := Lib.hid (H5d.out.grow hg5)
                have H6 := Lib.hid (H5d.out.pushQ (x := x) (by rw [HENC.out]; exact ho5) hg5)
                obtain ⟨A5, c5, rfl, _⟩ := owns_form ho5
                clear ho5 hg5 hm5
                refine ⟨S, HSO.out _ HG.out, fun _ h => h, ?_⟩
                go_simp
                refine mixZ_take [9] [_] rfl rfl ?_
                simp only [List.getElem_toArray, List.getElem_cons_zero, List.getElem_cons_succ]
                repeat (go_big_quiet_step (fail))
                refine wpQuiet_nil ?_
                have c7 : w6.cell? ⟨w8.heap.size, 1, none⟩ = some (.slice Ar E.length cr) := cell_of_row _ _ 1 _ _ (0, 0) HG.out.2
                have f7 := frozen_of_row _ _ 1 _ _ HG.out.2
                refine mixZ_end rfl (by rfl) ?_
                simp only [List.getElem_toArray, List.getElem_cons_zero, List.getElem_cons_succ]
                go_simp
                clear c7 f7 HG H5d
                generalize w6.setCell ⟨w8.heap.size, 1, none⟩ (.slice A5 (E.length + 1) c5) = w10 at *
                go_upto_region 35 with fail
                have z0 : w10.cell? ⟨w.heap.size + 1, 0, none⟩ = some (.string cn) := cell_of_row _ _ 0 _ _ (0, 0) (HC8.out.next H6.out.bel).cb
                have z1 : w10.cell? ⟨w.heap.size + 1, 1, none⟩ = some (.slice (some ⟨b, off, none⟩) Ms.length cc) := cell_of_row _ _ 1 _ _ (0, 0) (HC8.out.next H6.out.bel).cb
                have z2 : w10.cell? ⟨b, off + k * 2 + 1, none⟩ = some (.slice Ax x.L.length cx) := (H6.out.bel.cell (p := ⟨b, off + k * 2 + 1, none⟩) HCE.out.1).trans HCE.out.2.2
                have F0 := cell_regrown z0
                have F1 := cell_regrown z1
                have F2 := cell_regrown z2
                have HMB := Lib.hid (fun V (hb : Below w10.heap.size w10 V) => lsMember_any cn (.slice (some ⟨b, off, none⟩) Ms.length cc) (.slice Ax x.L.length cx) Ms x.L V (HC8.out.next (H6.out.next hb).bel).rm (by omega) (HRX.out V (H6.out.next hb).bel) HXL.out)
                rw [HKI.out] at HMB
                unfold fstV at HMB
                have HMB2 : Hid (∀ V, Below w10.heap.size w10 V → Calls Tryz.prog 12 #[.agg #[.string cn, .slice (some ⟨b, off, none⟩) Ms.length cc], .slice Ax x.L.length cx] V fun e w' => e = .returned (.tuple #[.int .i64 ki, .bool true]) ∧ Below V.heap.size V w') := Lib.hid fun V hb => by have h := HMB.out V hb; simpa using h
                clear HMB
                refine wp_region_quiet_below (by kernel_rfl) (by kernel_rfl) ?_
                repeat (first | go_big_quiet_step ((first | (go_at_call 12; (first | with_reducible exact Calls.regrown_of (HMB2.out _ (below_regrown w10 _ _)))))) | quiet_step ((first | (go_at_call 12; (first | with_reducible exact Calls.regrown_of (HMB2.out _ (below_regrown w10 _ _)))))))
                refine wpQuiet_nil ?_
                intro _ hw'
                obtain ⟨⟨nq, osq⟩, hw''⟩ := hw'
                subst hw''
                have hq := below_regrown w10 nq osq
                clear F0 F1 F2 z0 z1 z2
                generalize grow (redrawn w10 nq) osq = w11 at *
                have H7 := Lib.hid (H6.out.next hq)
                clear hq HMB2
                have HH2 := Lib.hid (HHAS.out w11 (HK8.out.bel.trans (H7.out.bel.mono HK8.out.bel.size)))
                go_wp2_with ((with_reducible refine HH2.out.mono ?_); rintro e w12 ⟨rfl, rfl⟩)
                exact ⟨⟨k + 1, _, by go_num, by omega, Lib.hid (by rw [keep_yes HX.out (by show (!memP Ms k) = true; rw [HQ.out]; rfl), HE.out]; exact H7.out)⟩, by simp only [intOf]; omega⟩
              | true =>
                have hkk : ((ki : Int) == (k : Int)) = false := by simp at hki3; simp; omega
                go_upto_region 35 with ((with_reducible refine HH1.out.mono ?_); rintro e w9 ⟨rfl, rfl⟩)
                clear HH1 d1
                have z0 : w9.cell? ⟨w.heap.size + 1, 0, none⟩ = some (.string cn) := cell_of_row _ _ 0 _ _ (0, 0) (HC8.out.next H5.out.bel).cb
                have z1 : w9.cell? ⟨w.heap.size + 1, 1, none⟩ = some (.slice (some ⟨b, off, none⟩) Ms.length cc) := cell_of_row _ _ 1 _ _ (0, 0) (HC8.out.next H5.out.bel).cb
                have z2 : w9.cell? ⟨b, off + k * 2 + 1, none⟩ = some (.slice Ax x.L.length cx) := (H5.out.bel.cell (p := ⟨b, off + k * 2 + 1, none⟩) HCE.out.1).trans HCE.out.2.2
                have F0 := cell_regrown z0
                have F1 := cell_regrown z1
                have F2 := cell_regrown z2
                have HMB := Lib.hid (fun V (hb : Below w9.heap.size w9 V) => lsMember_any cn (.slice (some ⟨b, off, none⟩) Ms.length cc) (.slice Ax x.L.length cx) Ms x.L V (HC8.out.next (H5.out.next hb).bel).rm (by omega) (HRX.out V (H5.out.next hb).bel) HXL.out)
                rw [HKI.out] at HMB
                unfold fstV at HMB
                have HMB2 : Hid (∀ V, Below w9.heap.size w9 V → Calls Tryz.prog 12 #[.agg #[.string cn, .slice (some ⟨b, off, none⟩) Ms.length cc], .slice Ax x.L.length cx] V fun e w' => e = .returned (.tuple #[.int .i64 ki, .bool true]) ∧ Below V.heap.size V w') := Lib.hid fun V hb => by have h := HMB.out V hb; simpa using h
                clear HMB
                refine wp_region_quiet_below (by kernel_rfl) (by kernel_rfl) ?_
                repeat (first | go_big_quiet_step ((first | (go_at_call 12; (first | with_reducible exact Calls.regrown_of (HMB2.out _ (below_regrown w9 _ _)))))) | quiet_step ((first | (go_at_call 12; (first | with_reducible exact Calls.regrown_of (HMB2.out _ (below_regrown w9 _ _)))))))
                refine wpQuiet_nil ?_
                intro _ hw'
                obtain ⟨⟨nq, osq⟩, hw''⟩ := hw'
                subst hw''
                have hq := below_regrown w9 nq osq
                clear F0 F1 F2 z0 z1 z2
                generalize grow (redrawn w9 nq) osq = w11 at *
                have H7 := Lib.hid (H5.out.next hq)
                clear hq HMB2
                have HH2 := Lib.hid (HHAS.out w11 (HK8.out.bel.trans (H7.out.bel.mono HK8.out.bel.size)))
                go_wp2_with ((with_reducible refine HH2.out.mono ?_); rintro e w12 ⟨rfl, rfl⟩)
                exact ⟨⟨k + 1, _, by go_num, by omega, Lib.hid (by rw [keep_no (by show (!memP Ms k) = false; rw [HQ.out]; rfl), HE.out]; exact H7.out)⟩, by simp only [intOf]; omega⟩
            obtain rfl : k = Ms.length := by omega
            have hI : ¬ (Ms.length : Int) < (Ms.length : Int) := by omega
            obtain ⟨R, hR⟩ : ∃ R, keepL (fun i => !memP Ms i) Ms Ms.length = R := ⟨_, rfl⟩
            have HRL : Hid (R.length ≤ 40) := Lib.hid (by rw [← hR]; have := keep_len (fun i => !memP Ms i) Ms Ms.length; omega)
            have HRP : Hid (∀ a : List Int, permL MemV.permit (fun m : MemV => hasAll m.L a) R = permL MemV.permit (fun m : MemV => hasAll m.L a) Ms) := Lib.hid (by rw [← hR]; exact fun a => mleft_perm Ms a)
            have HRF : Hid (fndM R = []) := Lib.hid (by rw [← hR]; exact mleft_none Ms)
            have HRS : Hid (∀ x ∈ R, x ∈ Ms) := Lib.hid (by rw [← hR]; exact fun x hx => keep_mem hx)
            rw [hR] at H5
            clear hR
            have HRM : Hid (∀ V, L5St w8 V (.slice Ar R.length cr) R → MsAt V V.heap.size (.slice Ar R.length cr) R) := Lib.hid fun V h => ⟨Rd.of_own h.bx.row, fun x hx => (HC8.out.next h.bel).rm.2 x (HRS.out x hx)⟩
            go_wp2
            clear hI d1
            go_loopw [22] (fun i wz => ∃ j : Nat, i = .int .i64 j ∧ j ≤ 20 ∧ j ≤ Cs.length ∧ Hid (L5St w8 wz (.slice Ar R.length cr) R)) (fun i _ => Cs.length - (intOf i).toNat)
            case atStart => exact ⟨0, rfl, by omega, by omega, H5⟩
            case round =>
            obtain ⟨j, rfl, hj20, hjl, H6⟩ := hrel
            by_cases hc1 : j < Cs.length
            case neg =>
              have hI : ¬ (j : Int) < (Cs.length : Int) := by omega
              have HKE := Lib.hid (HK8.out.next H6.out.bel)
              have b0 : wr.cell? ⟨wc.heap.size, 0, none⟩ = some (.string ⟨#[]⟩) := cell_of_row _ _ 0 _ _ (0, 0) HKE.out.bx.box
              have b1 : wr.cell? ⟨wc.heap.size, 1, none⟩ = some (.slice Aq Q.length cq) := cell_of_row _ _ 1 _ _ (0, 0) HKE.out.bx.box
              have HENQ := Lib.hid (entries_any ⟨#[]⟩ (.slice Aq Q.length cq) Q wr HQE.out (Rd.of_own HKE.out.bx.row) (by have := HQL.out; omega))
              rw [show plL (fun i => !DB Q i) Q.length = [] from HQF.out] at HENQ
              have HMR := Lib.hid (fun V (hb : Below wr.heap.size wr V) => members_any V ⟨#[]⟩ (.slice Ar R.length cr) R (HRM.out V (H6.out.next hb)) (by have := HRL.out; omega))
              rw [show plL (memP R) R.length = [] from HRF.out] at HMR
              go_wp2_with (first
                | ((with_reducible refine HENQ.out.mono ?_); rintro e w13 ⟨u, rfl, ho, hb13⟩; obtain ⟨Au, cu, rfl, _⟩ := owns_form ho; have H13 := Lib.hid (H6.out.next hb13); have HB13 := Lib.hid hb13; have r0 := cell_of_row _ _ 0 _ _ (0, 0) H13.out.bx.box; have r1 := cell_of_row _ _ 1 _ _ (0, 0) H13.out.bx.box; simp only [List.getElem?_toArray, List.getElem?_cons_zero, List.getElem?_cons_succ] at r0 r1; clear ho hb13)
                | ((with_reducible refine (HMR.out _ HB13.out).mono ?_); rintro e w14 ⟨u2, rfl, ho, hb14⟩; obtain ⟨Au2, cu2, rfl, _⟩ := owns_form ho; have H14 := Lib.hid (H13.out.next hb14); clear ho hb14))
              go_ret
              exact ⟨rfl, (HC8.out.next H14.out.bel).bel⟩
            by_cases hc2 : j < 20
            case neg =>
              have hI : (j : Int) < (Cs.length : Int) := by omega
              have hI2 : ¬ (j : Int) < 20 := by omega
              have HKE := Lib.hid (HK8.out.next H6.out.bel)
              have b0 : wr.cell? ⟨wc.heap.size, 0, none⟩ = some (.string ⟨#[]⟩) := cell_of_row _ _ 0 _ _ (0, 0) HKE.out.bx.box
              have b1 : wr.cell? ⟨wc.heap.size, 1, none⟩ = some (.slice Aq Q.length cq) := cell_of_row _ _ 1 _ _ (0, 0) HKE.out.bx.box
              have HENQ := Lib.hid (entries_any ⟨#[]⟩ (.slice Aq Q.length cq) Q wr HQE.out (Rd.of_own HKE.out.bx.row) (by have := HQL.out; omega))
              rw [show plL (fun i => !DB Q i) Q.length = [] from HQF.out] at HENQ
              have HMR := Lib.hid (fun V (hb : Below wr.heap.size wr V) => members_any V ⟨#[]⟩ (.slice Ar R.length cr) R (HRM.out V (H6.out.next hb)) (by have := HRL.out; omega))
              rw [show plL (memP R) R.length = [] from HRF.out] at HMR
              go_wp2_with (first
                | ((with_reducible refine HENQ.out.mono ?_); rintro e w13 ⟨u, rfl, ho, hb13⟩; obtain ⟨Au, cu, rfl, _⟩ := owns_form ho; have H13 := Lib.hid (H6.out.next hb13); have HB13 := Lib.hid hb13; have r0 := cell_of_row _ _ 0 _ _ (0, 0) H13.out.bx.box; have r1 := cell_of_row _ _ 1 _ _ (0, 0) H13.out.bx.box; simp only [List.getElem?_toArray, List.getElem?_cons_zero, List.getElem?_cons_succ] at r0 r1; clear ho hb13)
                | ((with_reducible refine (HMR.out _ HB13.out).mono ?_); rintro e w14 ⟨u2, rfl, ho, hb14⟩; obtain ⟨Au2, cu2, rfl, _⟩ := owns_form ho; have H14 := Lib.hid (H13.out.next hb14); clear ho hb14))
              go_ret
              exact ⟨rfl, (HC8.out.next H14.out.bel).bel⟩
            have hI : (j : Int) < (Cs.length : Int) := by omega
            have hI2 : (j : Int) < 20 := by omega
            obtain ⟨y, hy⟩ : ∃ y, Cs[j]? = some y := ⟨_, List.getElem?_eq_getElem hc1⟩
            obtain ⟨b, off, c', hv, _, hbB, hcell⟩ := HC8.out.rs.1.pos (by omega)
            injection hv with hv1 hvl hv3
            subst hv1 hv3
            clear hvl
            have hym := HC8.out.rs.2 y (List.mem_of_getElem? hy)
            obtain ⟨Ay, cy, hyv, _⟩ := hym.1.form
            have z4 : wr.cell? ⟨b, off + j, none⟩ = some (.slice Ay y.L.length cy) := (H6.out.bel.cell (p := ⟨b, off + j, none⟩) hbB).trans ((hcell j y.v (by simp [cmvals, hy])).trans (by rw [hyv]))
            have z0 : wr.cell? ⟨w.heap.size + 1, 0, none⟩ = some (.string cn) := cell_of_row _ _ 0 _ _ (0, 0) (HC8.out.next H6.out.bel).cb
            have z1 : wr.cell? ⟨w.heap.size + 1, 1, none⟩ = some (.slice Ac Ms.length cc) := cell_of_row _ _ 1 _ _ (0, 0) (HC8.out.next H6.out.bel).cb
            have z2 : wr.cell? ⟨w8.heap.size, 0, none⟩ = some (.string ⟨#[]⟩) := cell_of_row _ _ 0 _ _ (0, 0) H6.out.bx.box
            have z3 : wr.cell? ⟨w8.heap.size, 1, none⟩ = some (.slice Ar R.length cr) := cell_of_row _ _ 1 _ _ (0, 0) H6.out.bx.box
            have HRY : Hid (∀ V, Below w8.heap.size w8 V → Rd V V.heap.size 1 (.slice Ay y.L.length cy) y.L.length (u32c y.L)) := Lib.hid fun V hb => by
              have h := ((HC8.out.next hb).rs.2 y (List.mem_of_getElem? hy)).1
              rw [hyv] at h
              exact h
            obtain ⟨pv, hpv⟩ : ∃ pv, permL MemV.permit (fun m : MemV => hasAll m.L y.L) Ms = pv := ⟨_, rfl⟩
            have hpq := (HRP.out y.L).trans hpv
            have HAP := Lib.hid (fun V (hb : Below wr.heap.size wr V) => lsAllows_any cn (.slice Ac Ms.length cc) (.slice Ay y.L.length cy) Ms y.L V (HC8.out.next (H6.out.next hb).bel).rm (by omega) (HRY.out V (H6.out.next hb).bel) hym.2)
            have HAQ := Lib.hid (fun V (hb : Below wr.heap.size wr V) => lsAllows_any ⟨#[]⟩ (.slice Ar R.length cr) (.slice Ay y.L.length cy) R y.L V (HRM.out V (H6.out.next hb)) (by have := HRL.out; omega) (HRY.out V (H6.out.next hb).bel) hym.2)
            rw [hpv] at HAP
            rw [hpq] at HAQ
            clear hpv hpq hym hyv hy hcell hbB
            have hne : (pv != pv) = false := by simp
            have F0 := cell_regrown z0
            have F1 := cell_regrown z1
            have F2 := cell_regrown z2
            have F3 := cell_regrown z3
            have F4 := cell_regrown z4
            go_upto_region 41 with fail
            refine wp_region_quiet_below (by kernel_rfl) (by kernel_rfl) ?_
            repeat (first | go_big_quiet_step ((first | (go_at_call 13; (first | with_reducible exact Calls.regrown_of (HAP.out _ (below_regrown wr _ _)) | with_reducible exact Calls.regrown_of (HAQ.out _ (below_regrown wr _ _)))))) | quiet_step ((first | (go_at_call 13; (first | with_reducible exact Calls.regrown_of (HAP.out _ (below_regrown wr _ _)) | with_reducible exact Calls.regrown_of (HAQ.out _ (below_regrown wr _ _)))))))
            refine wpQuiet_nil ?_
            intro _ hw'
            obtain ⟨⟨nq, osq⟩, hw''⟩ := hw'
            subst hw''
            have hq := below_regrown wr nq osq
            clear F0 F1 F2 F3 F4 z0 z1 z2 z3 z4
            generalize grow (redrawn wr nq) osq = w11 at *
            have H7 := Lib.hid (H6.out.next hq)
            clear hq HAP HAQ
            go_wp2
            exact ⟨⟨j + 1, by go_num, by omega, by omega, H7⟩, by simp only [intOf]; omega⟩
end
end Go.Proofs.YtehpkpjgkmbngaaGreat

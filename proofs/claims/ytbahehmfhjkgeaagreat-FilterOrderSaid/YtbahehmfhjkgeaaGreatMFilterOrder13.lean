/-
  Joined texts: Filt8, MixZ, Kit5, OrS, OrT, RowS, OrP, OrU, OrV.
-/
import Derived.Test.YtbahehmfhjkgeaaGreatMFilterOrder12
import Derived.Test.YtbahehmfhjkgeaaGreatMFilterOrder4
import Derived.Test.YtbahehmfhjkgeaaGreatMFilterOrder1
import Derived.Laws.AppendOwnNone
import Derived.Deep.RegionLawGrows
import Derived.Test.YtbahehmfhjkgeaaGreatMFilterOrder11
import Derived.Deep.MidRow
/-
  Walks over the filter's layer: the rules held against each other, the law's own probe (written by wip/gen/genfilt8.py).
-/
namespace Go.Proofs.YtbahehmfhjkgeaaGreat
open Go Go.RowKit Go.Sort

def pr0 : RuleV := ⟨true, 6, 0, 0, 0, 0, 0, 65535, 80, 80, by omega, by omega, by omega, by omega, by omega, by omega, by omega⟩
def pr1 : RuleV := ⟨false, -1, 0, 0, 0, 0, 0, 65535, 0, 65535, by omega, by omega, by omega, by omega, by omega, by omega, by omega⟩
def ph0 : HeaderV := ⟨0, 0, 6, 0, 80, by omega, by omega, by omega, by omega, by omega⟩
def ph1 : HeaderV := ⟨0, 0, 6, 0, 81, by omega, by omega, by omega, by omega, by omega⟩
theorem pr_e : filtE [pr0, pr1] = 0 := by decide +kernel
theorem pr_p : permB [pr0, pr1] ph0 = true := by decide +kernel
theorem pr_d : decR [pr0, pr1] ph1 = 1 := by decide +kernel
set_option maxHeartbeats 1000000 in
theorem lawAwake10_any (w : World) : Calls Tryz.prog 7 #[] w fun e w' => e = .returned (.bool true) ∧ Below w.heap.size w w' := by
  go_enter Tryz.func7, Tryz.ntmps7
  go_wp2_with fail
  obtain ⟨J0, J1, J2⟩ := blk3 w (.cells #[.int .u32 0, .int .u32 65535] 41) (.cells #[.bool true, .int .i64 6, .int .u32 0, .int .i64 0, .int .u32 0, .int .i64 0, .int .u32 0, .int .u32 65535, .int .u32 80, .int .u32 80, .bool false, .int .i64 (-1), .int .u32 0, .int .i64 0, .int .u32 0, .int .i64 0, .int .u32 0, .int .u32 65535, .int .u32 0, .int .u32 65535] 43) (.cells #[.string ByteArray.empty, .slice (some ⟨w.heap.size + 1, 0, none⟩) 2 2] 24)
  have hR := Rd.of_blk (k := 10) (n := 2) (c := 2) J1 (by omega) rfl
  have hb0 := below3 w (.cells #[.int .u32 0, .int .u32 65535] 41) (.cells #[.bool true, .int .i64 6, .int .u32 0, .int .i64 0, .int .u32 0, .int .i64 0, .int .u32 0, .int .u32 65535, .int .u32 80, .int .u32 80, .bool false, .int .i64 (-1), .int .u32 0, .int .i64 0, .int .u32 0, .int .i64 0, .int .u32 0, .int .u32 65535, .int .u32 0, .int .u32 65535] 43) (.cells #[.string ByteArray.empty, .slice (some ⟨w.heap.size + 1, 0, none⟩) 2 2] 24)
  have hc := permits_any ByteArray.empty [pr0, pr1] _ ph0 _ hR
  rw [pr_e, pr_p] at hc
  refine hc.mono ?_
  rintro e w1 ⟨rfl, hb⟩
  have hR1 := (hR.below hb).mono hb.size
  have hbw := below_call hb0 hb
  have K2 := blk_below hb J2
  obtain ⟨ca, cb, _, _⟩ := two_cells K2
  have hlt := lt_of_block K2
  have hc2 := Lib.hid (decides_any ByteArray.empty [pr0, pr1] _ ph1 _ hR1)
  rw [pr_e, pr_d] at hc2
  clear hR hR1 J0 J1 J2 hb0 hb
  go_wp2_with fail
  refine hc2.out.mono ?_
  rintro e w2 ⟨rfl, hb⟩
  have hbw2 := below_call hbw hb
  go_wp2
  go_ret
  exact ⟨rfl, hbw2⟩

end Go.Proofs.YtbahehmfhjkgeaaGreat

/-
  A region that draws its order and whose last operation waits for all the others: the class of worlds need not bear that one. No program in sight.
-/
namespace Go.Proofs.YtbahehmfhjkgeaaGreat
open Go Go.RowKit Go.Sort

section
variable {P : Program} {ops : Array Oper} {md : Region.Mode} {S : World → Prop} {Q : Exit → Act → World → Prop} {z : Nat}
/-- All orders; the class holds behind each operation but z. -/
def allZ (P : Program) (md : Region.Mode) (ops : Array Oper) (Q : Exit → Act → World → Prop) (z : Nat) (S : World → Prop) : Nat → Array Bool → Act → World → Prop
  | 0, ls, a, w => Region.ready md ops ls = [] ∧ Q .normal a w
  | n + 1, ls, a, w => (Region.ready md ops ls = [] → Q .normal a w) ∧ ∀ i ∈ Region.ready md ops ls, wpOp P ops Q i (fun a' w' => (i ≠ z → S w') ∧ allZ P md ops Q z S n (ls.setIfInBounds i true) a' w') a w
theorem allZ_any : ∀ (n : Nat) (ls : Array Bool) (a : Act) (w : World), allZ P md ops Q z S n ls a w → wpAny P md ops Q n ls a w
  | 0, _, _, _, h => h
  | n + 1, _, _, _, h => ⟨h.1, fun i hi => wpOp_mono (fun _ _ hh => allZ_any n _ _ _ hh.2) (h.2 i hi)⟩
theorem allZ_class {S S' : World → Prop} (h : ∀ v, S' v → S v) : ∀ (n : Nat) (ls : Array Bool) (a : Act) (w : World), allZ P md ops Q z S' n ls a w → allZ P md ops Q z S n ls a w
  | 0, _, _, _, hh => hh
  | n + 1, _, _, _, hh => ⟨hh.1, fun i hi => wpOp_mono (fun _ _ hk => ⟨fun hz => h _ (hk.1 hz), allZ_class h n _ _ _ hk.2⟩) (hh.2 i hi)⟩
/-- z waits for all the others. -/
def lastZ (md : Region.Mode) (ops : Array Oper) (z : Nat) : Bool := (List.range ops.size).all fun k => k == z || (match ops[z]? with | some o => o.after.any fun e => Region.binds md e && e.on == k | none => false)
theorem lastZ_alone (h : lastZ md ops z = true) {ls : Array Bool} {i : Nat} (hz : z ∈ Region.ready md ops ls) (hi : i ∈ Region.ready md ops ls) : i = z := by
  obtain ⟨h0, oi, hoi, _⟩ := mem_ready.1 hi
  obtain ⟨_, oz, hoz, hall⟩ := mem_ready.1 hz
  have hlt : i < ops.size := (Array.getElem?_eq_some_iff.1 hoi).1
  have h1 := List.all_eq_true.1 h i (List.mem_range.2 hlt)
  simp only [hoz, Bool.or_eq_true, beq_iff_eq] at h1
  rcases h1 with h1 | h1
  · exact h1
  · obtain ⟨k, hk, h2⟩ := Array.any_eq_true.1 h1
    simp only [Bool.and_eq_true, beq_iff_eq] at h2
    have h3 := hall _ (Array.getElem_mem hk) h2.1
    rw [h2.2] at h3
    rcases Nat.lt_or_ge i ls.size with h' | h'
    · simp [h'] at h0 h3
      rw [h0] at h3
      cases h3
    · simp [Array.getElem?_eq_none h'] at h3
/-- A plain operation may be taken first. -/
theorem allZ_take (hz : lastZ md ops z = true) {i : Nat} {oi : Oper} {v : Value} (hi : ops[i]? = some oi) (hiz : i ≠ z) (hs : Region.noSelect ops = true) (hQ : ∀ c a w, Q (.panic c) (a.put oi.dst v) w → Q (.panic c) a w) :
    ∀ (n : Nat) (ls : Array Bool) (a : Act) (w : World),
      (∀ j oj, ops[j]? = some oj → j ≠ i → ls.getD j true = false → (∀ e ∈ oj.after, Region.binds md e = true → e.on ≠ i) → oi.apart ops oj = true) →
      i ∈ Region.ready md ops ls → YieldsIf P ops S oi v a → S w → allZ P md ops Q z S n (ls.setIfInBounds i true) (a.put oi.dst v) w → allZ P md ops Q z S (n + 1) ls a w := by
  have hsel := Region.noSelect_spec hs
  intro n
  induction n with
  | zero =>
    intro ls a w _ hr hy hS H
    refine ⟨fun h => (by rw [h] at hr; cases hr), fun j hj => ?_⟩
    by_cases hji : j = i
    · subst hji
      exact hy.wpOp hi hS ⟨fun _ => hS, H⟩
    · have h1 := ready_mono hj hji
      rw [H.1] at h1
      cases h1
  | succ n ih =>
    intro ls a w hfr hr hy hS H
    refine ⟨fun h => (by rw [h] at hr; cases hr), fun j hj => ?_⟩
    by_cases hji : j = i
    · subst hji
      exact hy.wpOp hi hS ⟨fun _ => hS, H⟩
    · have hjz : j ≠ z := fun e => hiz (lastZ_alone hz (by rw [← e]; exact hj) hr)
      have h1 := H.2 j (ready_mono hj hji)
      obtain ⟨hju, oj, hoj, hall⟩ := mem_ready.1 hj
      have hno : ∀ e ∈ oj.after, Region.binds md e = true → e.on ≠ i := fun e he hb heq => by
        have g1 := hall e he hb
        have g0 := (mem_ready.1 hr).1
        rw [heq] at g1
        rcases Nat.lt_or_ge i ls.size with h' | h'
        · simp [h'] at g0 g1
          rw [g0] at g1
          cases g1
        · simp [Array.getElem?_eq_none h'] at g1
      have h2 := wpOp_putIf hoj (hfr j oj hoj hji hju hno) (fun cs b => hsel i oi cs b hi) (fun cs b => hsel j oj cs b hoj) hQ hy h1
      refine wpOp_mono (fun a' w' h3 => ⟨fun _ => h3.2.1 hjz, ih (ls.setIfInBounds j true) a' w' (fun k ok hk hki hun hn => hfr k ok hk hki ?_ hn) (ready_mono hr (Ne.symm hji)) h3.1 (h3.2.1 hjz) ?_⟩) h2
      · by_cases hjk : j = k
        · subst hjk; exact hju
        · rw [getD_set_ne true hjk] at hun; exact hun
      · rw [Array.setIfInBounds_comm _ _ hji]
        exact h3.2.2
def mixBz (md : Region.Mode) (ops : Array Oper) (z : Nat) : List (Nat × Bool) → Array Bool → Bool
  | [], ls => decide (Region.ready md ops ls = [z]) && (Region.ready md ops (ls.setIfInBounds z true)).isEmpty
  | (k, false) :: m, ls => decide (k ≠ z) && (Region.ready md ops ls).contains k && Region.free md ops ls k && (match ops[k]? with | some o => plainB o.op | none => false) && mixBz md ops z m (ls.setIfInBounds k true)
  | (k, true) :: m, ls => decide (k ≠ z) && decide (Region.ready md ops ls = [k]) && mixBz md ops z m (ls.setIfInBounds k true)
/-- The walk; z comes last. -/
def mixWz (P : Program) (ops : Array Oper) (Q : Exit → Act → World → Prop) (z : Nat) : List (Nat × Bool) → (World → Prop) → Act → World → Prop
  | [], _, a, w => ∃ o, ops[z]? = some o ∧ Region.wanted o (yielded ops a.tmps) = true ∧ o.wp P a w (fun a' w' => Q .normal a' w') Q
  | (k, false) :: m, S, a, w => ∃ o, ops[k]? = some o ∧ if Region.wanted o (yielded ops a.tmps) then o.quiet P a S (fun a' => mixWz P ops Q z m S a' w) else mixWz P ops Q z m S (a.put o.dst undef) w
  | (k, true) :: m, S, a, w => ∃ o, ops[k]? = some o ∧ Region.wanted o (yielded ops a.tmps) = true ∧ o.wp P a w (fun a' w' => ∃ S' : World → Prop, S' w' ∧ (∀ v, S' v → S v) ∧ mixWz P ops Q z m S' a' w') Q
theorem mixZ_sound (hz : lastZ md ops z = true) (hs : Region.noSelect ops = true) (hQ : ∀ d v c a w, Q (.panic c) (Act.put a d v) w → Q (.panic c) a w) :
    ∀ (m : List (Nat × Bool)) (S : World → Prop) (ls : Array Bool) (a : Act) (w : World), mixBz md ops z m ls = true → S w → mixWz P ops Q z m S a w → allZ P md ops Q z S (m.length + 1) ls a w := by
  intro m
  induction m with
  | nil =>
    intro S ls a w hB hS h
    obtain ⟨o, h0, hw, h⟩ := h
    simp only [mixBz, Bool.and_eq_true, decide_eq_true_eq] at hB
    refine ⟨fun h1 => (by rw [hB.1] at h1; cases h1), fun i hi => ?_⟩
    rw [hB.1] at hi
    obtain rfl : i = z := by simpa using hi
    unfold wpOp
    simp only [h0]
    rw [if_pos hw]
    exact .inl (Oper.wp_mono (fun a' w' hh => ⟨fun e => absurd rfl e, by simpa using hB.2, hh⟩) h)
  | cons b m ih =>
    intro S ls a w hB hS h
    obtain ⟨k, b⟩ := b
    cases b with
    | false =>
      simp only [mixWz] at h
      obtain ⟨o, h0, h⟩ := h
      simp only [mixBz, Bool.and_eq_true, h0, decide_eq_true_eq] at hB
      obtain ⟨⟨⟨⟨hk, hr⟩, hf⟩, hp⟩, hB'⟩ := hB
      by_cases hw : Region.wanted o (yielded ops a.tmps) = true
      · rw [if_pos hw] at h
        obtain ⟨v, hv, hK⟩ := yields_quiet hp h
        exact allZ_take hz h0 hk hs (fun c a w => hQ o.dst v c a w) _ ls a w (Region.free_spec h0 hf) (by simpa using hr) (.inl ⟨hw, hv⟩) hS (ih S _ _ w hB' hS hK)
      · rw [if_neg hw] at h
        exact allZ_take hz h0 hk hs (fun c a w => hQ o.dst undef c a w) _ ls a w (Region.free_spec h0 hf) (by simpa using hr) (.inr ⟨by simpa using hw, rfl⟩) hS (ih S _ _ w hB' hS h)
    | true =>
      simp only [mixWz] at h
      obtain ⟨o, h0, hw, h⟩ := h
      simp only [mixBz, Bool.and_eq_true, decide_eq_true_eq] at hB
      obtain ⟨⟨hk, hr⟩, hB'⟩ := hB
      refine ⟨fun h1 => (by rw [hr] at h1; cases h1), fun i hi => ?_⟩
      rw [hr] at hi
      obtain rfl : i = k := by simpa using hi
      unfold wpOp
      simp only [h0]
      rw [if_pos hw]
      refine .inl (Oper.wp_mono (fun a' w' hh => ?_) h)
      obtain ⟨S', h1, h2, h3⟩ := hh
      exact ⟨fun _ => h2 _ h1, allZ_class h2 _ _ _ _ (ih S' _ a' w' hB' h1 h3)⟩
def mixOkZ (l : List Oper) (z : Nat) (m : List (Nat × Bool)) : Bool := Region.noSelect l.toArray && decide (m.length + 1 = l.length) && lastZ .any l.toArray z && mixBz .any l.toArray z m (Array.replicate l.length false)
theorem wp_region_mixZ {id : Nat} {a : Act} {w : World} {l : List Oper} (S : World → Prop) (z : Nat) (m : List (Nat × Bool)) (hm : P.follows .mixedOrders = true) (hB : mixOkZ l z m = true) (hS : S { w with drawn := w.drawn + 1 })
    (h : mixWz P l.toArray (NoPanic Q) z m (fun w' => ∃ p : InW S, w' = p.w) a { w with drawn := w.drawn + 1 }) : (Code.region id l.toArray true).wp P Q a w := by
  simp only [mixOkZ, Bool.and_eq_true, decide_eq_true_eq] at hB
  obtain ⟨⟨⟨hs, hlen⟩, hl⟩, hmix⟩ := hB
  refine wp_region_noPanic (wp_region_any hm ?_)
  have H := mixZ_sound (md := .any) hl hs (fun d v c a w hh => hh) m _ (Array.replicate l.length false) a { w with drawn := w.drawn + 1 } hmix (inS hS) h
  rw [hlen] at H
  exact allZ_any _ _ _ _ (by simpa using H)
theorem mixZ_seg {m : List (Nat × Bool)} : ∀ (ks : List Nat) (seg : List Oper) (a : Act) (w : World), ks.map (fun k => ops[k]?) = seg.map some → wpQuiet P ops S (fun a' => mixWz P ops Q z m S a' w) seg a → mixWz P ops Q z (ks.map (fun k => (k, false)) ++ m) S a w
  | [], [], _, _, _, h => h
  | [], _ :: _, _, _, hk, _ => by cases hk
  | _ :: _, [], _, _, hk, _ => by cases hk
  | k :: ks, o :: seg, a, w, hk, h => by
    simp only [List.map_cons] at hk
    injection hk with hk1 hk2
    have h' : (if Region.wanted o (yielded ops a.tmps) then o.quiet P a S (wpQuiet P ops S (fun a' => mixWz P ops Q z m S a' w) seg) else wpQuiet P ops S (fun a' => mixWz P ops Q z m S a' w) seg (a.put o.dst undef)) := h
    show ∃ o, ops[k]? = some o ∧ (if Region.wanted o (yielded ops a.tmps) then o.quiet P a S (fun a' => mixWz P ops Q z (ks.map (fun k => (k, false)) ++ m) S a' w) else mixWz P ops Q z (ks.map (fun k => (k, false)) ++ m) S (a.put o.dst undef) w)
    refine ⟨o, hk1, ?_⟩
    split
    · rename_i hw
      rw [if_pos hw] at h'
      exact Oper.quiet_mono (fun a' hh => mixZ_seg ks seg a' w hk2 hh) h'
    · rename_i hw
      rw [if_neg hw] at h'
      exact mixZ_seg ks seg _ w hk2 h'
theorem mixZ_take {m m' : List (Nat × Bool)} {a : Act} {w : World} (ks : List Nat) (seg : List Oper) (hm : m = ks.map (fun k => (k, false)) ++ m') (hs : ks.map (fun k => ops[k]?) = seg.map some) (h : wpQuiet P ops S (fun a' => mixWz P ops Q z m' S a' w) seg a) : mixWz P ops Q z m S a w := by
  rw [hm]
  exact mixZ_seg ks seg a w hs h
theorem mixZ_bar {m : List (Nat × Bool)} {k : Nat} {o : Oper} {a : Act} {S : World → Prop} {w : World} (ho : ops[k]? = some o) (hw : Region.wanted o (yielded ops a.tmps) = true)
    (h : o.wp P a w (fun a' w' => ∃ S' : World → Prop, S' w' ∧ (∀ v, S' v → S v) ∧ mixWz P ops Q z m (fun w' => ∃ p : InW S', w' = p.w) a' w') Q) : mixWz P ops Q z ((k, true) :: m) (fun w' => ∃ p : InW S, w' = p.w) a w := by
  simp only [mixWz]
  refine ⟨o, ho, hw, ?_⟩
  exact Oper.wp_mono (fun a' w' hh => by obtain ⟨S', h1, h2, h3⟩ := hh; exact ⟨_, inS h1, inS_sub h2, h3⟩) h
theorem mixZ_end {o : Oper} {a : Act} {w : World} (ho : ops[z]? = some o) (hw : Region.wanted o (yielded ops a.tmps) = true) (h : o.wp P a w (fun a' w' => Q .normal a' w') (NoPanic Q)) : mixWz P ops (NoPanic Q) z [] S a w :=
  ⟨o, ho, hw, Oper.wp_mono (fun _ _ hh => hh) h⟩
end
end Go.Proofs.YtbahehmfhjkgeaaGreat

/-
  An append of several elements tells whether its row lies where it lay; no program in sight.
-/
namespace Go.Proofs.YtbahehmfhjkgeaaGreat
open Go Go.RowKit

/-- An append of several elements, as one operation. -/
theorem oper_pushM {P : Program} {o : Oper} {a : Act} {K : Act → World → Prop} {Q : Exit → Act → World → Prop} (hgd : o.guard = none) (s x : Operand) (t : TypeId)
    (ho : o.op = .call { callee := .builtin .append, args := #[s, x], argTypes := #[t, t] })
    (e : TypeId) (i : TypeInfo) (z : Value) (size bytes : Nat) (ht : P.underlying t = some (.slice e)) (hi : P.info? e = some i) (hz : i.zero = some z)
    (hsize : i.size = size) (hby : i.bytes = bytes) (hzs : z.cells.size = size) (hsz : 0 < size) (hb64 : bytes ≤ 64) (m : Nat) (hm : 0 < m) (hm2 : m ≤ 1024)
    {w0 : World} {base n : Nat} {v : Value} {xs : List Value} (es : List Value) (hs : a.eval s = v) {g0 : Nat} (hx : a.eval x = .slice (some ⟨g0, 0, none⟩) m m) (hg0 : g0 = w0.heap.size)
    (hown : w0.ownsRow base e size v n xs) (hes : es.length = m * size) (h1 : ∀ u ∈ es, u.oneCell' = true) (hn : n ≤ 1099511627776) (hbase : base ≤ w0.heap.size)
    (h : ∀ v' w', w'.ownsRow base e size v' (n + m) (xs ++ es) → w0.grownBy w' v.ownBlock → Moved v v' w0.heap.size → K (a.put o.dst v') w') : o.wp P a (w0.alloc (.cells es.toArray e)) K Q := by
  subst hg0
  have hb2 : (n + m) * bytes ≤ 140737488355328 :=
    calc (n + m) * bytes ≤ (1099511627776 + 1024) * 64 := Nat.mul_le_mul (by omega) hb64
      _ ≤ 140737488355328 := by decide
  have hownA := hown.alloc (.cells es.toArray e)
  have hgA : w0.grownBy (w0.alloc (.cells es.toArray e)) none := World.grownBy_alloc w0 _ none
  have hnew := cells_new w0 es e
  have hw : Region.wanted o (yielded #[] a.tmps) = true := by simp [Region.wanted, hgd]
  rcases hown.2 with ⟨rfl, rfl⟩ | ⟨g, cap, cur, rfl, hbg, hg, hnc, hcm, hcs, htake⟩
  · obtain rfl : xs = [] := List.eq_nil_of_length_eq_zero (by have := hown.1; omega)
    have H := step_append_grows (P := P) (ops := #[]) (o := o) (a := a) (w := w0.alloc (.cells es.toArray e)) (K := K) (Q := Q) (E := False) hgd s x t ho e i z size bytes ht hi hz hsize hby hzs hsz none 0 0 [] hs (fun _ => ⟨rfl, rfl⟩) (by simp) (fun b hb => by cases hb) ⟨w0.heap.size, 0, none⟩ m m es hx hes hnew h1 (by omega) (by unfold maxLen; omega) hb2 (fun v' w' h2 h3 => by
      refine h v' w' (owns_base h2 (by simp; omega)) (grown_none (hgA.trans h3) _) (.inr fun g hg => ?_)
      have := (h2.lt g hg).1
      simp at this; omega)
    rw [if_pos hw] at H
    exact H
  · by_cases hroom : n + m ≤ cap
    · obtain ⟨w', hr, h2, h3⟩ := run_append_fits (P := P) _ base t o.type e i size ht hi hsize g n cap xs hownA ⟨w0.heap.size, 0, none⟩ m m es hes hnew h1 hroom
      unfold Oper.wp execOp
      simp only [ho, resolve, invoke, builtin, Sem.run_bind, Sem.run_pure, Result.andThen_ok, List.map_toArray, List.map_cons, List.map_nil, hs, hx, hr]
      exact h _ w' h2 ((grown_none hgA _).trans h3) (.inl rfl)
    · have H := step_append_grows (P := P) (ops := #[]) (o := o) (a := a) (w := w0.alloc (.cells es.toArray e)) (K := K) (Q := Q) (E := False) hgd s x t ho e i z size bytes ht hi hz hsize hby hzs hsz (some ⟨g, 0, none⟩) n cap xs hs (fun hh => by cases hh) hown.1 (fun b hb j u hu => by
        injection hb with hb
        subst hb
        exact hownA.cells rfl j u hu) ⟨w0.heap.size, 0, none⟩ m m es hx hes hnew h1 (by omega) (by unfold maxLen; omega) hb2 (fun v' w' h2 h3 => by
        refine h v' w' (owns_base h2 (by simp; omega)) (grown_none (hgA.trans h3) _) (.inr fun g hg => ?_)
        have := (h2.lt g hg).1
        simp at this; omega)
      rw [if_pos hw] at H
      exact H
end Go.Proofs.YtbahehmfhjkgeaaGreat

/-
  What the law FilterOrder has laid: two boxes with rows of rules that grow.
-/
namespace Go.Proofs.YtbahehmfhjkgeaaGreat
open Go Go.RowKit Go.ChangeMaps Go.MapKept Go.Maps Go.Lib Go.Sort

/-- Two rows in blocks of their own, apart. -/
def ApartO (v u : Value) : Prop := ∀ g, v.ownBlock = some g → u.ownBlock ≠ some g
theorem ApartO.symm {v u : Value} (h : ApartO v u) : ApartO u v := fun g h1 h2 => h g h2 h1
theorem ApartO.moved {v u v' : Value} {k : Nat} (h : ApartO v u) (hm : Moved v v' k) (hu : ∀ g, u.ownBlock = some g → g < k) : ApartO v' u := fun g h1 h2 => by
  rcases hm with hm | hm
  · exact h g (hm ▸ h1) h2
  · have := hm g h1; have := hu g h2; omega
theorem owns_apartO {w w' : World} {base : Nat} {e : TypeId} {size n : Nat} {v u : Value} {xs : List Value} (h : w.ownsRow base e size u n xs) (hg : w.grownBy w' v.ownBlock) (ha : ApartO u v) : w'.ownsRow base e size u n xs :=
  owns_like h fun g hu => hg.block g (h.lt g hu).2 (fun e => ha g hu e.symm)
theorem owns_setO {w : World} {base g i n : Nat} {e : TypeId} {k : Nat} {v u : Value} {xs : List Value} (h : w.ownsRow base e k v n xs) (hg : g < base) : (w.setCell ⟨g, i, none⟩ u).ownsRow base e k v n xs := by
  obtain ⟨hl, h2⟩ := h
  rcases h2 with h2 | ⟨g', cap, cur, rfl, hb, hh, r⟩
  · exact ⟨hl, .inl h2⟩
  · exact ⟨hl, .inr ⟨g', cap, cur, rfl, hb, set_far hh (by show g' ≠ g; omega), r⟩⟩
structure OrSt (w5 W : World) (vq vt : Value) (Q T : List RuleV) : Prop where
  bel : Below w5.heap.size w5 W
  bq : W.heap[w5.heap.size]? = some (.cells #[.string ⟨#[]⟩, vq] 24 (0, 0))
  bt : W.heap[w5.heap.size + 1]? = some (.cells #[.string ⟨#[]⟩, vt] 24 (0, 0))
  qr : W.ownsRow (w5.heap.size + 2) 43 10 vq Q.length (rcells Q)
  tr : W.ownsRow (w5.heap.size + 2) 43 10 vt T.length (rcells T)
  ap : ApartO vq vt
section
variable {w5 W W' : World} {vq vt v' : Value} {Q T : List RuleV}
theorem OrSt.next (h : OrSt w5 W vq vt Q T) (hb : Below W.heap.size W W') : OrSt w5 W' vq vt Q T :=
  ⟨h.bel.trans (hb.mono h.bel.size), blk_below hb h.bq, blk_below hb h.bt, owns_kept_none h.qr (only_of_below hb none), owns_kept_none h.tr (only_of_below hb none), h.ap⟩
theorem OrSt.lt (h : OrSt w5 W vq vt Q T) : w5.heap.size + 2 ≤ W.heap.size := lt_of_block h.bt
theorem rcells_app (L M : List RuleV) : rcells (L ++ M) = rcells L ++ rcells M := by simp [rcells]
theorem rcells_one1 (r : RuleV) : rcells [r] = r.enc := by simp [rcells]
theorem renc_oneO (r : RuleV) : ∀ u ∈ r.enc, u.oneCell' = true := fun u hu => by
  simp only [RuleV.enc, List.mem_cons, List.not_mem_nil, or_false] at hu
  rcases hu with rfl | rfl | rfl | rfl | rfl | rfl | rfl | rfl | rfl | rfl <;> rfl
theorem OrSt.growQ (h : OrSt w5 W vq vt Q T) (hg : W.grownBy W' vq.ownBlock) : Below w5.heap.size w5 W' ∧ W'.heap[w5.heap.size]? = some (.cells #[.string ⟨#[]⟩, vq] 24 (0, 0)) :=
  ⟨h.bel.grown hg h.bel.size (fun k hk => by have := (h.qr.lt k hk).1; omega), (hg.block _ (lt_of_block h.bq) (fun e => by have := (h.qr.lt _ e.symm).1; omega)).trans h.bq⟩
theorem OrSt.pushQ (h : OrSt w5 W vq vt Q T) {x : RuleV} (ho : W'.ownsRow (w5.heap.size + 2) 43 10 v' (Q.length + 1) (rcells Q ++ x.enc)) (hg : W.grownBy W' vq.ownBlock) (hm : Moved vq v' W.heap.size) : OrSt w5 (W'.setCell ⟨w5.heap.size, 1, none⟩ v') v' vt (Q ++ [x]) T :=
  ⟨(h.growQ hg).1.setCell (p := ⟨w5.heap.size, 1, none⟩) (Nat.le_refl _) _, set_1 (h.growQ hg).2, set_far ((hg.block _ (lt_of_block h.bt) (fun e => by have := (h.qr.lt _ e.symm).1; omega)).trans h.bt) (by show w5.heap.size + 1 ≠ w5.heap.size; omega),
    by rw [List.length_append, rcells_app, rcells_one1]; exact owns_setO ho (by omega), owns_setO (owns_apartO h.tr hg h.ap.symm) (by omega), h.ap.moved hm (fun g hg' => (h.tr.lt g hg').2)⟩
theorem OrSt.growT (h : OrSt w5 W vq vt Q T) (hg : W.grownBy W' vt.ownBlock) : Below w5.heap.size w5 W' ∧ W'.heap[w5.heap.size + 1]? = some (.cells #[.string ⟨#[]⟩, vt] 24 (0, 0)) :=
  ⟨h.bel.grown hg h.bel.size (fun k hk => by have := (h.tr.lt k hk).1; omega), (hg.block _ (lt_of_block h.bt) (fun e => by have := (h.tr.lt _ e.symm).1; omega)).trans h.bt⟩
theorem OrSt.pushT (h : OrSt w5 W vq vt Q T) {x : RuleV} (ho : W'.ownsRow (w5.heap.size + 2) 43 10 v' (T.length + 1) (rcells T ++ x.enc)) (hg : W.grownBy W' vt.ownBlock) (hm : Moved vt v' W.heap.size) : OrSt w5 (W'.setCell ⟨w5.heap.size + 1, 1, none⟩ v') vq v' Q (T ++ [x]) :=
  ⟨(h.growT hg).1.setCell (p := ⟨w5.heap.size + 1, 1, none⟩) (Nat.le_succ _) _, set_far ((hg.block _ (lt_of_block h.bq) (fun e => by have := (h.tr.lt _ e.symm).1; omega)).trans h.bq) (by show w5.heap.size ≠ w5.heap.size + 1; omega), set_1 (h.growT hg).2,
    owns_setO (owns_apartO h.qr hg h.ap) (by omega), by rw [List.length_append, rcells_app, rcells_one1]; exact owns_setO ho (by omega), (h.ap.symm.moved hm (fun g hg' => (h.qr.lt g hg').2)).symm⟩
theorem OrSt.setNew (h : OrSt w5 W vq vt Q T) {g i : Nat} {u : Value} (hg : W.heap.size ≤ g) (hb : Below W.heap.size W W') : OrSt w5 (W'.setCell ⟨g, i, none⟩ u) vq vt Q T := by
  have h' := h.next (W' := W'.setCell ⟨g, i, none⟩ u) (hb.setCell (p := ⟨g, i, none⟩) hg u)
  exact h'
end
end Go.Proofs.YtbahehmfhjkgeaaGreat

/-
  What the law FilterOrder knows of its space: the calls on it, each with room.
-/
namespace Go.Proofs.YtbahehmfhjkgeaaGreat
open Go Go.RowKit Go.ChangeMaps Go.MapKept Go.Maps Go.Lib Go.Sort

theorem filtE_may {L : List RuleV} (he : filtE L = 0) : ∀ r ∈ L, mayB r = true := fun r hr => by
  unfold filtE at he
  split at he
  · cases he
  · split at he
    · cases he
    · rename_i h1 h2
      simp only [List.any_eq_true, not_exists, not_and, Bool.not_eq_true'] at h2
      have := h2 r hr
      simpa using this
theorem filtE_of {L : List RuleV} (hl : L.length ≤ 256) (h : ∀ r ∈ L, mayB r = true) : filtE L = 0 := filtE_3 (by omega) (by
  rw [List.any_eq_false]
  intro x hx
  rw [h x hx]
  simp)
theorem may_flip {r : RuleV} (h : mayB r = true) : mayB (flipR r) = true := h
theorem may_perm {r : RuleV} (h : mayB r = true) : mayB (permR r) = true := h
/-- What is known of the space, of the filter, of what was there. -/
structure FoB (w : World) (B : Nat) (nm : ByteArray) (Ad : Option Addr) (c : Nat) (M : List RuleV) (S km : Nat) (A : Blks) (k : Nat) (σ : Sg) (W : World) : Prop where
  sp : SpOk W B S km A 4194304 σ
  nl : σ.N.length ≤ 2 + k
  hl : σ.H.length ≤ k
  row : W.heap[w.heap.size]? = some (.cells #[.string nm, .slice Ad M.length c] 24 (0, 0))
  rd : Rd W w.heap.size 10 (.slice Ad M.length c) M.length (rcells M)
  bel : Below w.heap.size w W
  lo : w.heap.size < B
  km : B ≤ km
/-- The nodes that are known. -/
structure FoK (σ : Sg) (M : List RuleV) (a : Nat) : Prop where
  a : Den σ a (setF M M.length)
  d : ∀ i, i < M.length → ∃ g, Den σ g (decF M i)
  l : ∀ i, i ≤ M.length → ∃ g, Den σ g (leftF M i)
  s : ∀ i, i ≤ M.length → ∃ g, Den σ g (setF M i)
theorem FoK.to {σ τ : Sg} {M : List RuleV} {a k m : Nat} (h : FoK σ M a) (t : To k m σ τ) (o : SgOk 4194304 σ) (p : SgOk 4194304 τ) : FoK τ M a :=
  ⟨h.a.to t o p, fun i hi => (h.d i hi).imp fun _ g => g.to t o p, fun i hi => (h.l i hi).imp fun _ g => g.to t o p, fun i hi => (h.s i hi).imp fun _ g => g.to t o p⟩
section
variable {w W W' : World} {B : Nat} {nm : ByteArray} {Ad : Option Addr} {c : Nat} {M : List RuleV} {S km : Nat} {A : Blks} {k m a : Nat} {σ τ : Sg}
theorem FoB.next (h : FoB w B nm Ad c M S km A k σ W) (hb : Below W.heap.size W W') : FoB w B nm Ad c M S km A k σ W' :=
  ⟨h.sp.below hb, h.nl, h.hl, blk_below hb h.row, h.rd.below (hb.mono h.bel.size), h.bel.trans (hb.mono h.bel.size), h.lo, h.km⟩
theorem FoB.set (h : FoB w B nm Ad c M S km A k σ W) (hk : KeptS A km W W') (hs : SpOk W' B S km A 4194304 τ) (t : To m m σ τ) : FoB w B nm Ad c M S km A (k + m) τ W' := by
  have hb := h.sp.low h.km hk
  have hl := h.lo
  refine ⟨hs, ?_, ?_, (hb.block _ hl).trans h.row, h.rd.below (hb.mono (by omega)), h.bel.trans (hb.mono (by omega)), hl, h.km⟩
  · have := t.nl; have := h.nl; omega
  · have := t.hl; have := h.hl; omega
theorem FoB.rdf (h : FoB w B nm Ad c M S km A k σ W) : RdF A km W 10 (.slice Ad M.length c) M.length (rcells M) := by
  obtain ⟨Q, c', hv, hc, hl10, hp⟩ := h.rd
  injection hv with e1 e2 e3
  subst e1 e3
  have hl := h.lo
  have hkm := h.km
  refine ⟨Ad, c, rfl, hc, hl10, fun h0 => ?_⟩
  obtain ⟨b, off, hA, hlt, hcell⟩ := hp h0
  exact ⟨b, off, hA, h.sp.foreign_low (by omega), by omega, hcell⟩
/-- A row that was laid behind the space. -/
theorem FoB.rdo (h : FoB w B nm Ad c M S km A k σ W) (hb : Below W.heap.size W W') {v : Value} {L : List RuleV} {base : Nat} {e : TypeId} (ho : W'.ownsRow base e 10 v L.length (rcells L)) (hbs : W.heap.size ≤ base) : RdF A km W' 10 v L.length (rcells L) := by
  have hkm := h.sp.sp.fk.1
  rcases ho.2 with ⟨rfl, hn⟩ | ⟨g, cap, cur, rfl, hbg, hg, _⟩
  · rw [hn]
    exact ⟨none, 0, rfl, Nat.le_refl _, by rw [ho.1, hn], fun h0 => absurd h0 (by omega)⟩
  · obtain ⟨P, cc, hv, hc, hl, hp⟩ := Rd.of_own ho
    refine ⟨P, cc, hv, hc, hl, fun h0 => ?_⟩
    obtain ⟨b, off, hP, hlt, hcell⟩ := hp h0
    subst hP
    injection hv with hv1 _ _
    injection hv1 with hv1
    injection hv1 with hv1 _
    subst hv1
    exact ⟨g, off, rfl, h.sp.sp.ar.foreign_new hb (by omega) hlt, by omega, hcell⟩
/-- Set, where there is room. -/
theorem FoB.setC (h : FoB w B nm Ad c M S km A k σ W) (n1 : ByteArray) (L : List RuleV) (vL : Value) (hL : RdF A km W 10 vL L.length (rcells L)) (he : filtE L = 0) (cd cl cs : Nat → Nat) (hK : ∀ (k : Nat) (r : RuleV), L[k]? = some r → Fits σ (decF L k) (cd k) ∧ Fits σ (leftF L (k + 1)) (cl k)) (hKs : ∀ k, k < L.length → Fits σ (setF L (k + 1)) (cs k)) (m : Nat) (hm : sumTo (rcst cd cl) L.length + sumTo cs L.length ≤ m) (hr : k + m ≤ 4194304) :
    Calls Tryz.prog 10 #[.pointer (some ⟨S, 0, none⟩), .agg #[.string n1, vL]] W fun e W' => ∃ (r : Nat) (τ : Sg), e = .returned (.tuple #[.int .i64 r, .int .i64 0]) ∧ FoB w B nm Ad c M S km A (k + m) τ W' ∧ KeptS A km W W' ∧ To m m σ τ ∧ Den τ r (setF L L.length) ∧ (∀ i, i < L.length → ∃ g, Den τ g (decF L i)) ∧ (∀ i, i ≤ L.length → ∃ g, Den τ g (leftF L i)) ∧ ∀ i, i ≤ L.length → ∃ g, Den τ g (setF L i) := by
  have hn := h.nl
  have hh := h.hl
  refine (set_c h.sp n1 L vL hL he cd cl cs hK hKs (by omega)).mono fun e W' hx => ?_
  obtain ⟨r, τ, rfl, hs, ht, hd, h1, h2, h3⟩ := hx.room (by omega)
  have ht' := ht.mono hm hm
  exact ⟨r, τ, rfl, h.set hx.1 hs ht', hx.1, ht', hd, h1, h2, h3⟩
theorem FoB.first (h : FoB w B nm Ad c M S km A 0 σ W) (he : filtE M = 0) (hM : M.length ≤ 12) :
    Calls Tryz.prog 10 #[.pointer (some ⟨S, 0, none⟩), .agg #[.string nm, .slice Ad M.length c]] W fun e W' => ∃ (r : Nat) (τ : Sg), e = .returned (.tuple #[.int .i64 r, .int .i64 0]) ∧ FoB w B nm Ad c M S km A 1822968 τ W' ∧ FoK τ M r := by
  have ok := (rule_may he).2
  refine (h.setC nm M _ h.rdf he bS bS bS (fun k r hr => ⟨.inl (dec_w ok (List.getElem?_eq_some_iff.1 hr).1), .inl (left_w ok (List.getElem?_eq_some_iff.1 hr).1)⟩) (fun k hk => .inl (set_w ok hk)) 1822968 (cost_set hM) (by omega)).mono fun e W' hx => ?_
  obtain ⟨r, τ, rfl, hb, _, _, hd, h1, h2, h3⟩ := hx
  rw [Nat.zero_add] at hb
  exact ⟨r, τ, rfl, hb, hd, h1, h2, h3⟩
theorem sumTo_nul (n : Nat) : sumTo (fun _ => 0) n = 0 := by
  have := sumTo_const 0 n
  simpa using this
theorem FoB.rules (h : FoB w B nm Ad c M S km A k σ W) (K : FoK σ M a) (he : filtE M = 0) (hM : M.length ≤ 12) (hr : k + 81120 ≤ 4194304) :
    Calls Tryz.prog 11 #[.pointer (some ⟨S, 0, none⟩), .agg #[.string nm, .slice Ad M.length c]] W fun e W' => ∃ (v : Value) (ns : List Nat) (τ : Sg), e = .returned (.tuple #[v, .int .i64 0]) ∧ FoB w B nm Ad c M S km A (k + 81120) τ W' ∧ FoK τ M a ∧ ns.length = M.length ∧ (∀ i n, ns[i]? = some n → Den τ n (decF M i)) ∧ W'.ownsRow W.heap.size 3 1 v ns.length (ncl ns) := by
  have hn := h.nl
  have hh := h.hl
  have hc := sumTo_rz M.length
  refine (rules_c h.sp nm M _ h.rdf he (fun _ => 0) (fun _ => 0) (fun k r hr => ⟨.inr (K.d k (List.getElem?_eq_some_iff.1 hr).1), .inr (K.l (k + 1) (List.getElem?_eq_some_iff.1 hr).1)⟩) (by omega)).mono fun e W' hx => ?_
  obtain ⟨hk, hx⟩ := hx
  rcases hx with ⟨_, h2, _⟩ | ⟨v, ns, τ, rfl, hs, ht, hl, hd, _, ho, _⟩
  · omega
  · have ht' := ht.mono (show _ ≤ 81120 by omega) (show _ ≤ 81120 by omega)
    exact ⟨v, ns, τ, rfl, h.set hk hs ht', K.to ht' h.sp.ok hs.ok, hl, hd, ho⟩
theorem FoB.less (h : FoB w B nm Ad c M S km A k σ W) (K : FoK σ M a) (he : filtE M = 0) (hM : M.length ≤ 12) (hr : k + 81120 ≤ 4194304) {D : Nat → Bool} (hD : ∀ k, k < M.length → D k = false → decF M k = fun _ => false) (n1 : ByteArray) (vQ : Value) (hQ : RdF A km W 10 vQ (keepR D M M.length).length (rcells (keepR D M M.length))) :
    Calls Tryz.prog 10 #[.pointer (some ⟨S, 0, none⟩), .agg #[.string n1, vQ]] W fun e W' => ∃ τ : Sg, e = .returned (.tuple #[.int .i64 a, .int .i64 0]) ∧ FoB w B nm Ad c M S km A (k + 81120) τ W' ∧ KeptS A km W W' ∧ FoK τ M a := by
  obtain ⟨e1, e2, e3⟩ := keepR_ok hD M.length (Nat.le_refl _)
  have hl := keepR_len D M M.length
  have hq : filtE (keepR D M M.length) = 0 := filtE_of (by omega) fun r hr => filtE_may he r (keepR_mem hr)
  have hc := sumTo_rz (keepR D M M.length).length
  have hz := sumTo_nul (keepR D M M.length).length
  refine (h.setC n1 _ vQ hQ hq (fun _ => 0) (fun _ => 0) (fun _ => 0) (fun j r hj => ?_) (fun j hj => ?_) 81120 (by omega) hr).mono fun e W' hx => ?_
  · obtain ⟨i, hi, _, a1, a2, _⟩ := e3 j (List.getElem?_eq_some_iff.1 hj).1
    rw [a1, a2]
    exact ⟨.inr (K.d i hi), .inr (K.l (i + 1) hi)⟩
  · obtain ⟨i, hi, _, _, _, a3⟩ := e3 j hj
    rw [a3]
    exact .inr (K.s (i + 1) hi)
  · obtain ⟨r, τ, rfl, hb, hk, ht, hd, _⟩ := hx
    have K' := K.to ht h.sp.ok hb.sp.ok
    rw [e2] at hd
    obtain rfl := hd.same K'.a hb.sp.ok
    exact ⟨τ, rfl, hb, hk, K'⟩
theorem FoB.turned (h : FoB w B nm Ad c M S km A k σ W) (K : FoK σ M a) (he : filtE M = 0) (hM : M.length ≤ 12) (hr : k + 936008 ≤ 4194304) (n1 : ByteArray) (vT : Value) (hT : RdF A km W 10 vT (M.map flipR ++ [openR]).length (rcells (M.map flipR ++ [openR]))) :
    Calls Tryz.prog 10 #[.pointer (some ⟨S, 0, none⟩), .agg #[.string n1, vT]] W fun e W' => ∃ (r : Nat) (τ : Sg), e = .returned (.tuple #[.int .i64 r, .int .i64 0]) ∧ FoB w B nm Ad c M S km A (k + 936008) τ W' ∧ FoK τ M a ∧ Den τ r (fun s => !setF M M.length s) := by
  have hl : (M.map flipR).length = M.length := List.length_map ..
  have hl1 : (M.map flipR ++ [openR]).length = M.length + 1 := by simp
  have hq : filtE (M.map flipR ++ [openR]) = 0 := filtE_of (by omega) fun r hr => by
    rcases List.mem_append.1 hr with hr | hr
    · obtain ⟨x, hx, rfl⟩ := List.mem_map.1 hr
      exact may_flip (filtE_may he x hx)
    · rw [List.mem_singleton.1 hr]
      exact openR_may
  have ok := (rule_may hq).2
  have hc := sumTo_rz (M.map flipR ++ [openR]).length
  have hz := cost_turn (n := (M.map flipR ++ [openR]).length) (by omega)
  refine (h.setC n1 _ vT hT hq (fun _ => 0) (fun _ => 0) bS (fun j r hj => ?_) (fun j hj => .inl (set_w ok hj)) 936008 (by omega) hr).mono fun e W' hx => ?_
  · have hj1 := (List.getElem?_eq_some_iff.1 hj).1
    rcases Nat.lt_or_ge j M.length with h1 | h1
    · rw [dec_app (by omega), left_app (by omega), dec_flip, left_flip]
      exact ⟨.inr (K.d j h1), .inr (K.l (j + 1) h1)⟩
    · obtain rfl : j = M.length := by omega
      have d1 := dec_last (M.map flipR) openR
      have d2 := left_last (M.map flipR) openR
      rw [hl, openR_F, left_flip] at d1 d2
      rw [d1, d2]
      refine ⟨.inr ?_, .inr ?_⟩
      · obtain ⟨g, hg⟩ := K.l M.length (Nat.le_refl _)
        exact ⟨g, hg.1, fun s => by rw [hg.2 s]; simp⟩
      · have z := Den.zero h.sp.ok
        exact ⟨0, z.1, fun s => by rw [z.2 s]; simp⟩
  · obtain ⟨r, τ, rfl, hb, _, ht, hd, _⟩ := hx
    rw [hl1, openR_one openR_F M rfl] at hd
    exact ⟨r, τ, rfl, hb, K.to ht h.sp.ok hb.sp.ok, hd⟩
theorem SpRes.roomO {F : Fun} {p q : Nat} {e : Ending} (h : SpRes W B S km A 4194304 σ F p q e W') (hr : σ.H.length + q ≤ 4194304) :
    ∃ (r : Nat) (τ : Sg), e = .returned (.tuple #[.int .i64 (r : Nat), .int .i64 0]) ∧ SpOk W' B S km A 4194304 τ ∧ To p q σ τ ∧ Den τ r F := by
  rcases h.2 with ⟨_, h2, _⟩ | ⟨r, τ, h1, h2⟩
  · omega
  · exact ⟨r, τ, h1, h2⟩
theorem FoB.inv (h : FoB w B nm Ad c M S km A k σ W) (K : FoK σ M a) (hr : k ≤ 4194304) {r : Nat} (hd : Den σ r (fun s => !setF M M.length s)) :
    Calls Tryz.prog 12 #[.pointer (some ⟨S, 0, none⟩), .int .i64 a] W fun e W' => ∃ τ : Sg, e = .returned (.tuple #[.int .i64 r, .int .i64 0]) ∧ FoB w B nm Ad c M S km A k τ W' ∧ FoK τ M a := by
  have hn := h.nl
  have hh := h.hl
  refine (relNot_yes h.sp K.a (setF_set M _) (hd.grow h.sp.ok) (by omega)).mono fun e W' hx => ?_
  obtain ⟨q, τ, rfl, hs, ht, hq⟩ := hx.roomO (by omega)
  have hb := h.set (m := 0) hx.1 hs ht
  obtain rfl := hq.same (hd.to ht h.sp.ok hs.ok) hs.ok
  exact ⟨τ, rfl, hb, K.to ht h.sp.ok hs.ok⟩
theorem set_oneF (x : RuleV) : setF [permR x] 1 = ruleF x ∧ decF [permR x] 0 = ruleF x ∧ leftF [permR x] 1 = fun s => !ruleF x s := by
  have d1 := dec_last [] (permR x)
  have d2 := left_last [] (permR x)
  have d3 := set_last [] (permR x)
  simp only [List.nil_append, List.length_nil] at d1 d2 d3
  rw [ruleF_perm] at d1 d2 d3
  have l0 : leftF ([] : List RuleV) 0 = fun _ => true := rfl
  have s0 : setF ([] : List RuleV) 0 = fun _ => false := rfl
  rw [l0] at d1 d2 d3
  rw [s0, if_pos (show (permR x).permit = true from rfl)] at d3
  refine ⟨d3.trans ?_, d1.trans ?_, d2.trans ?_⟩
  all_goals (funext s; simp)
theorem FoB.one (h : FoB w B nm Ad c M S km A k σ W) (K : FoK σ M a) (hr : k + 7168 ≤ 4194304) {x : RuleV} (hx : mayB x = true) (n1 : ByteArray) {v : Value} (hv : RdF A km W 10 v 1 (rcells [permR x])) :
    Calls Tryz.prog 10 #[.pointer (some ⟨S, 0, none⟩), .agg #[.string n1, v]] W fun e W' => ∃ (r : Nat) (τ : Sg), e = .returned (.tuple #[.int .i64 r, .int .i64 0]) ∧ FoB w B nm Ad c M S km A (k + 7168) τ W' ∧ FoK τ M a ∧ Den τ r (ruleF x) ∧ To 7168 7168 σ τ := by
  have hq : filtE [permR x] = 0 := filtE_of (by simp) fun r hr => by rw [List.mem_singleton.1 hr]; exact may_perm hx
  have ok := (rule_may hq).2
  have c1 : sumTo (rcst bS bS) 1 + sumTo bS 1 = 7168 := by decide +kernel
  refine (h.setC n1 [permR x] v hv hq bS bS bS (fun j r hj => ⟨.inl (dec_w ok (List.getElem?_eq_some_iff.1 hj).1), .inl (left_w ok (List.getElem?_eq_some_iff.1 hj).1)⟩) (fun j hj => .inl (set_w ok hj)) 7168 (by rw [List.length_singleton, c1]; exact Nat.le_refl _) hr).mono fun e W' hx => ?_
  obtain ⟨r, τ, rfl, hb, _, ht, hd, _⟩ := hx
  rw [List.length_singleton, (set_oneF x).1] at hd
  exact ⟨r, τ, rfl, hb, K.to ht h.sp.ok hb.sp.ok, hd, ht⟩
theorem FoB.both (h : FoB w B nm Ad c M S km A k σ W) (K : FoK σ M a) (he : filtE M = 0) (hr : k + 576 ≤ 4194304) {i j : Nat} {x y : RuleV} (hx : M[i]? = some x) (hy : M[j]? = some y) {f g : Nat} (hf : Den σ f (ruleF x)) (hg : Den σ g (ruleF y)) :
    Calls Tryz.prog 14 #[.pointer (some ⟨S, 0, none⟩), .int .i64 f, .int .i64 g] W fun e W' => ∃ (r : Nat) (τ : Sg), e = .returned (.tuple #[.int .i64 r, .int .i64 0]) ∧ FoB w B nm Ad c M S km A (k + 576) τ W' ∧ FoK τ M a ∧ Den τ r (fun s => ruleF x s && ruleF y s) := by
  have hn := h.nl
  have hh := h.hl
  have hw := two_w (rule_may he).2 hx hy
  rw [bW_2] at hw
  have hgr := Fits.grow (.inl hw) (To.refl σ) h.sp.ok h.sp.ok
  have sx : SetF (ruleF x) := (set_oneF x).1 ▸ setF_set [permR x] 1
  have sy : SetF (ruleF y) := (set_oneF y).1 ▸ setF_set [permR y] 1
  refine (relAnd_yes h.sp hf hg sx sy hgr (by omega)).mono fun e W' hx => ?_
  obtain ⟨q, τ, rfl, hs, ht, hq⟩ := hx.roomO (by omega)
  exact ⟨q, τ, rfl, h.set hx.1 hs ht, K.to ht h.sp.ok hs.ok, hq⟩
theorem FoB.swapped {P Q : List RuleV} {x y : RuleV} (h : FoB w B nm Ad c (P ++ x :: y :: Q) S km A k σ W) (K : FoK σ (P ++ x :: y :: Q) a) (he : filtE (P ++ x :: y :: Q) = 0) (hM : P.length + 2 + Q.length ≤ 12) (hr : k + 354688 ≤ 4194304) (hxy : ∀ s, (ruleF x s && ruleF y s) = false) (n1 : ByteArray) {v : Value} (hv : RdF A km W 10 v (P ++ y :: x :: Q).length (rcells (P ++ y :: x :: Q))) :
    Calls Tryz.prog 10 #[.pointer (some ⟨S, 0, none⟩), .agg #[.string n1, v]] W fun e W' => ∃ τ : Sg, e = .returned (.tuple #[.int .i64 a, .int .i64 0]) ∧ FoB w B nm Ad c (P ++ x :: y :: Q) S km A (k + 354688) τ W' := by
  have hl : ∀ p q : RuleV, (P ++ p :: q :: Q).length = P.length + 2 + Q.length := fun p q => by simp; omega
  have hq : filtE (P ++ y :: x :: Q) = 0 := filtE_of (by rw [hl]; omega) fun r hr => filtE_may he r (by
    simp only [List.mem_append, List.mem_cons] at hr ⊢
    rcases hr with hr | hr | hr | hr
    · exact .inl hr
    · exact .inr (.inr (.inl hr))
    · exact .inr (.inl hr)
    · exact .inr (.inr (.inr hr)))
  have ok := (rule_may hq).2
  have hb11 : bW (P.length + 1) ≤ 136784 := by
    rw [← bW_11]
    exact bW_mono _ _ (by omega)
  have c1 := sumTo_rat P.length (bW (P.length + 1)) (P ++ y :: x :: Q).length
  have c2 := sumTo_at P.length (bW (P.length + 1)) (P ++ y :: x :: Q).length
  have hll := hl y x
  refine (h.setC n1 _ v hv hq (fun _ => 0) (atC P.length (bW (P.length + 1))) (atC P.length (bW (P.length + 1))) (fun j r hj => ?_) (fun j hj => ?_) 354688 (by omega) hr).mono fun e W' hx => ?_
  · have hj1 := (List.getElem?_eq_some_iff.1 hj).1
    obtain ⟨⟨i, hi, e1⟩, e2⟩ := swap_known (A := P) (B := Q) hxy j (by omega)
    rw [e1]
    refine ⟨.inr (K.d i (by rw [hl]; exact hi)), ?_⟩
    rcases e2 with rfl | ⟨e2, _⟩
    · refine .inl ?_
      rw [show atC P.length (bW (P.length + 1)) P.length = bW (P.length + 1) from if_pos rfl]
      exact left_w ok hj1
    · rw [e2]
      exact .inr (K.l (j + 1) (by rw [hl]; omega))
  · obtain ⟨_, e2⟩ := swap_known (A := P) (B := Q) hxy j (by omega)
    rcases e2 with rfl | ⟨_, e2⟩
    · refine .inl ?_
      rw [show atC P.length (bW (P.length + 1)) P.length = bW (P.length + 1) from if_pos rfl]
      exact set_w ok hj
    · rw [e2]
      exact .inr (K.s (j + 1) (by rw [hl]; omega))
  · obtain ⟨r, τ, rfl, hb, _, ht, hd, _⟩ := hx
    have K' := K.to ht h.sp.ok hb.sp.ok
    have e3 := (swap_tail (A := P) (B := Q) hxy Q.length (Nat.le_refl _)).2
    rw [hl, e3] at hd
    have ha := K'.a
    rw [hl] at ha
    obtain rfl := hd.same ha hb.sp.ok
    exact ⟨τ, rfl, hb⟩
end
end Go.Proofs.YtbahehmfhjkgeaaGreat

/-
  Stores, copies and clearings of rows whose elements have several cells; no program.
-/
namespace Go.Proofs.YtbahehmfhjkgeaaGreat
open Go Go.RowKit Go.Lib Go.Sort

/-- A store of several cells into a row that is known whole. -/
theorem wpList_store_splice {P : Program} {w : World} {ops : Array Oper} {rest : List Oper} {o : Oper} {a : Act} {Q : Exit → Act → World → Prop} (hgd : o.guard = none) (p v : Operand) (t : TypeId)
    (ho : o.op = .store t p v) (k : Nat) (hsz : ∀ w, (Go.sizeOf t).run P w = .ok k w) (g off : Nat) (hp : a.eval p = .pointer (some ⟨g, off, none⟩)) (V : Value) (hv : a.eval v = V)
    (cur : List Value) (ty : TypeId) (hg : w.heap[g]? = some (.cells cur.toArray ty (0, 0))) (cs : List Value) (hcs : V.cells.toList = cs) (hk : cs.length = k) (hfit : off + cs.length ≤ cur.length) (h1 : ∀ v ∈ cs, v.oneCell' = true) (B : Nat) (w0 : World) (hb : Below B w0 w) (hBg : B ≤ g)
    (h : ∀ w', Hid (w'.heap[g]? = some (.cells (splice cur off cs).toArray ty (0, 0))) → Below B w0 w' → wpList P ops Q rest (a.put o.dst undef) w') : wpList P ops Q (o :: rest) a w := by
  refine wpList_plain hgd fun K hK => ?_
  have hst := run_storeCells_at P g off ty cs 0 cur.toArray w hg (by simpa using hfit) h1
  unfold Oper.wp
  have hz : V.cells.size = k := by rw [← Array.length_toList, hcs, hk]
  simp [execOp, ho, hp, hv, Instr.storeAt, Instr.sureAddr, storeVar, hsz, hz, hcs, hst, Result.andThen]
  exact hK _ _ (h _ (show _ = _ by simpa [splice] using setRow_heap w g _ _ ty _ hg) (below_setRow hb hBg _))
end Go.Proofs.YtbahehmfhjkgeaaGreat

/-
  waymarklaw10.permit.
-/
namespace Go.Proofs.YtbahehmfhjkgeaaGreat
open Go Go.RowKit Go.ChangeMaps Go.MapKept Go.Maps Go.Lib Go.Sort

theorem rule_cells {w : World} {g : Nat} {a0 a1 a2 a3 a4 a5 a6 a7 a8 a9 : Value} (h : w.heap[g]? = some (.cells #[a0, a1, a2, a3, a4, a5, a6, a7, a8, a9] 43 (0, 0))) :
    w.cell? ⟨g, 0, none⟩ = some a0 ∧ w.cell? ⟨g, 1, none⟩ = some a1 ∧ w.cell? ⟨g, 2, none⟩ = some a2 ∧ w.cell? ⟨g, 3, none⟩ = some a3 ∧ w.cell? ⟨g, 4, none⟩ = some a4 ∧ w.cell? ⟨g, 5, none⟩ = some a5 ∧ w.cell? ⟨g, 6, none⟩ = some a6 ∧ w.cell? ⟨g, 7, none⟩ = some a7 ∧ w.cell? ⟨g, 8, none⟩ = some a8 ∧ w.cell? ⟨g, 9, none⟩ = some a9 :=
  ⟨cell_of_row w g 0 _ _ (0, 0) h, cell_of_row w g 1 _ _ (0, 0) h, cell_of_row w g 2 _ _ (0, 0) h, cell_of_row w g 3 _ _ (0, 0) h, cell_of_row w g 4 _ _ (0, 0) h, cell_of_row w g 5 _ _ (0, 0) h, cell_of_row w g 6 _ _ (0, 0) h, cell_of_row w g 7 _ _ (0, 0) h, cell_of_row w g 8 _ _ (0, 0) h, cell_of_row w g 9 _ _ (0, 0) h⟩
section
set_option maxRecDepth 100000
set_option maxHeartbeats 4000000
theorem permR_any (r : RuleV) (w : World) : Calls Tryz.prog 13 #[.agg #[.bool r.permit, .int .i64 r.proto, .int .u32 r.sa, .int .i64 r.sn, .int .u32 r.da, .int .i64 r.dn, .int .u32 r.sl, .int .u32 r.sh, .int .u32 r.dl, .int .u32 r.dh]] w fun e w' => e = .returned (.agg (permR r).enc.toArray) ∧ Below w.heap.size w w' := by
  have hb := below2 w (.cells #[.bool r.permit, .int .i64 r.proto, .int .u32 r.sa, .int .i64 r.sn, .int .u32 r.da, .int .i64 r.dn, .int .u32 r.sl, .int .u32 r.sh, .int .u32 r.dl, .int .u32 r.dh] 43) (.cells #[.bool false, .int .i64 0, .int .u32 0, .int .i64 0, .int .u32 0, .int .i64 0, .int .u32 0, .int .u32 0, .int .u32 0, .int .u32 0] 43)
  obtain ⟨k0, k1⟩ := blk2 w (.cells #[.bool r.permit, .int .i64 r.proto, .int .u32 r.sa, .int .i64 r.sn, .int .u32 r.da, .int .i64 r.dn, .int .u32 r.sl, .int .u32 r.sh, .int .u32 r.dl, .int .u32 r.dh] 43) (.cells #[.bool false, .int .i64 0, .int .u32 0, .int .i64 0, .int .u32 0, .int .i64 0, .int .u32 0, .int .u32 0, .int .u32 0, .int .u32 0] 43)
  have HB := Lib.hid hb
  have K0 := Lib.hid k0
  have K1 := Lib.hid k1
  clear hb k0 k1
  go_enter Tryz.func13, Tryz.ntmps13
  go_upto_region 1 with fail
  generalize (w.alloc (.cells #[.bool r.permit, .int .i64 r.proto, .int .u32 r.sa, .int .i64 r.sn, .int .u32 r.da, .int .i64 r.dn, .int .u32 r.sl, .int .u32 r.sh, .int .u32 r.dl, .int .u32 r.dh] 43)).alloc (.cells #[.bool false, .int .i64 0, .int .u32 0, .int .i64 0, .int .u32 0, .int .i64 0, .int .u32 0, .int .u32 0, .int .u32 0, .int .u32 0] 43) = w1 at *
  have c0 : w1.cell? ⟨w.heap.size, 0, none⟩ = some (.bool r.permit) := cell_of_row _ _ 0 _ _ (0, 0) K0.out
  have f0 := frozen_of_row _ _ 0 _ _ K0.out
  go_upto_region 2 with fail
  have K2 : Hid ((w1.setCell ⟨w.heap.size, 0, none⟩ (.bool true)).heap[w.heap.size]? = some (.cells #[.bool true, .int .i64 r.proto, .int .u32 r.sa, .int .i64 r.sn, .int .u32 r.da, .int .i64 r.dn, .int .u32 r.sl, .int .u32 r.sh, .int .u32 r.dl, .int .u32 r.dh] 43 (0, 0))) := Lib.hid (set_at (i := 0) (u := .bool true) K0.out)
  have K3 := Lib.hid (set_far (p := ⟨w.heap.size, 0, none⟩) (u := .bool true) K1.out (by show w.heap.size + 1 ≠ w.heap.size; omega))
  have HB2 := Lib.hid (HB.out.setCell (p := ⟨w.heap.size, 0, none⟩) (Nat.le_refl _) (.bool true))
  clear c0 f0 K0 K1 HB
  generalize w1.setCell ⟨w.heap.size, 0, none⟩ (.bool true) = w2 at *
  obtain ⟨c0, c1, c2, c3, c4, c5, c6, c7, c8, c9⟩ := rule_cells K2.out
  go_wp2_with (refine wpList_store_splice rfl _ _ 43 rfl 10 Tryz.sizeOf43 (w.heap.size + 1) 0 rfl (.agg #[.bool true, .int .i64 r.proto, .int .u32 r.sa, .int .i64 r.sn, .int .u32 r.da, .int .i64 r.dn, .int .u32 r.sl, .int .u32 r.sh, .int .u32 r.dl, .int .u32 r.dh]) rfl [.bool false, .int .i64 0, .int .u32 0, .int .i64 0, .int .u32 0, .int .i64 0, .int .u32 0, .int .u32 0, .int .u32 0, .int .u32 0] 43 K3.out (permR r).enc rfl rfl (Nat.le_refl 10) (renc_oneO _) w.heap.size w HB2.out (by omega) ?_; intro w5 hg5 hb5)
  clear c0 c1 c2 c3 c4 c5 c6 c7 c8 c9
  have K5 : Hid (w5.heap[w.heap.size + 1]? = some (.cells #[.bool true, .int .i64 r.proto, .int .u32 r.sa, .int .i64 r.sn, .int .u32 r.da, .int .i64 r.dn, .int .u32 r.sl, .int .u32 r.sh, .int .u32 r.dl, .int .u32 r.dh] 43 (0, 0))) := hg5
  obtain ⟨c0, c1, c2, c3, c4, c5, c6, c7, c8, c9⟩ := rule_cells K5.out
  have HB5 := Lib.hid hb5
  clear hg5 hb5
  go_wp2
  try simp only [Exit.inBlock, Exit.then]
  exact bodyPost_ret (results_cell_row Tryz.results13 _ _ (w.heap.size + 1) _ _ (0, 0) _ rfl K5.out Tryz.underlying43 rfl (by kernel_rfl)) rfl ⟨rfl, HB5.out⟩
end
end Go.Proofs.YtbahehmfhjkgeaaGreat

/-
  FilterOrder: two neighbours; a filter of one rule; a list that is copied and turned about.
-/
namespace Go.Proofs.YtbahehmfhjkgeaaGreat
open Go Go.RowKit Go.ChangeMaps Go.MapKept Go.Maps Go.Lib Go.Sort

theorem k_at (a : Int) {n : Nat} (h : 2 ≤ n) (hn : n ≤ 12) : ∃ k : Nat, wrap64 ((IntKind.u64.wrap a).tmod ((n : Int) - 1)) = k ∧ k + 1 < n := by
  have hu := wrap_u64_nonneg a
  generalize IntKind.u64.wrap a = u at *
  rw [Int.tmod_eq_emod_of_nonneg hu]
  have h1 := Int.emod_nonneg u (b := (n : Int) - 1) (by omega)
  have h2 := Int.emod_lt_of_pos u (b := (n : Int) - 1) (by omega)
  generalize u % ((n : Int) - 1) = m at *
  refine ⟨m.toNat, ?_, by omega⟩
  unfold wrap64
  omega
theorem two_at {M : List RuleV} {k : Nat} (h : k + 1 < M.length) : ∃ (P : List RuleV) (x y : RuleV) (Q : List RuleV), M = P ++ x :: y :: Q ∧ P.length = k ∧ M[k]? = some x ∧ M[k + 1]? = some y := by
  refine ⟨M.take k, M[k], M[k + 1], M.drop (k + 2), ?_, by rw [List.length_take]; omega, List.getElem?_eq_getElem _, List.getElem?_eq_getElem _⟩
  rw [← List.drop_eq_getElem_cons h, ← List.drop_eq_getElem_cons (by omega : k < M.length), List.take_append_drop]
section
variable {w W W' : World} {B : Nat} {nm : ByteArray} {Ad : Option Addr} {c : Nat} {M : List RuleV} {S km : Nat} {A : Blks} {k m a : Nat} {σ τ : Sg}
theorem FoB.oneN (h : FoB w B nm Ad c M S km A k σ W) (K : FoK σ M a) (hr : k + 7168 ≤ 4194304) {x : RuleV} (hx : mayB x = true) {W1 : World} (hb : Below W.heap.size W W1) :
    Calls Tryz.prog 10 #[.pointer (some ⟨S, 0, none⟩), .agg #[.string ⟨#[]⟩, .slice (some ⟨W1.heap.size, 0, none⟩) 1 1]] (W1.alloc (.cells #[.bool true, .int .i64 x.proto, .int .u32 x.sa, .int .i64 x.sn, .int .u32 x.da, .int .i64 x.dn, .int .u32 x.sl, .int .u32 x.sh, .int .u32 x.dl, .int .u32 x.dh] 43)) fun e W' => ∃ (r : Nat) (τ : Sg), e = .returned (.tuple #[.int .i64 r, .int .i64 0]) ∧ FoB w B nm Ad c M S km A (k + 7168) τ W' ∧ FoK τ M a ∧ Den τ r (ruleF x) ∧ To 7168 7168 σ τ := by
  have hb2 := below1 W1 (.cells #[.bool true, .int .i64 x.proto, .int .u32 x.sa, .int .i64 x.sn, .int .u32 x.da, .int .i64 x.dn, .int .u32 x.sl, .int .u32 x.sh, .int .u32 x.dl, .int .u32 x.dh] 43)
  have hk2 := blk1 W1 (.cells #[.bool true, .int .i64 x.proto, .int .u32 x.sa, .int .i64 x.sn, .int .u32 x.da, .int .i64 x.dn, .int .u32 x.sl, .int .u32 x.sh, .int .u32 x.dl, .int .u32 x.dh] 43)
  have h1 := h.next hb
  have hkm := h1.sp.sp.fk.1
  refine (h1.next hb2).one K hr hx ⟨#[]⟩ ⟨_, 1, rfl, Nat.le_refl _, rfl, fun _ => ⟨W1.heap.size, 0, rfl, h1.sp.sp.ar.foreign_new hb2 (Nat.le_refl _) (lt_of_block hk2), by omega, fun j u hu => ?_⟩⟩
  rw [Nat.zero_add, cell_of_row _ _ j _ _ (0, 0) hk2, ← Array.getElem?_toList]
  exact hu
theorem FoB.swappedE {P Q : List RuleV} {x y : RuleV} (h : FoB w B nm Ad c M S km A k σ W) (K : FoK σ M a) (hMe : M = P ++ x :: y :: Q) (he : filtE M = 0) (hM : M.length ≤ 12) (hr : k + 354688 ≤ 4194304) (hxy : ∀ s, (ruleF x s && ruleF y s) = false) (n1 : ByteArray) {v : Value} (hv : RdF A km W 10 v M.length (rcells (P ++ y :: x :: Q))) :
    Calls Tryz.prog 10 #[.pointer (some ⟨S, 0, none⟩), .agg #[.string n1, v]] W fun e W' => ∃ τ : Sg, e = .returned (.tuple #[.int .i64 a, .int .i64 0]) ∧ FoB w B nm Ad c M S km A (k + 354688) τ W' := by
  subst hMe
  have e1 : (P ++ x :: y :: Q).length = (P ++ y :: x :: Q).length := by simp
  have e2 : (P ++ x :: y :: Q).length = P.length + 2 + Q.length := by simp; omega
  exact h.swapped K he (by omega) hr hxy n1 (by rw [← e1]; exact hv)
end
theorem made_rowF (W : World) (n : Nat) (hn : W.heap.size = n) (base : Nat) (hb : base ≤ n) : (W.alloc (.cells #[] 43)).ownsRow base 43 10 (.slice (some ⟨n, 0, none⟩) 0 0) 0 [] := by
  subst hn
  exact World.ownsRow_made W #[] 0 hb (Nat.zero_le _) (by simp)
end Go.Proofs.YtbahehmfhjkgeaaGreat

/-
  Two rules of a row change places; no program.
-/
namespace Go.Proofs.YtbahehmfhjkgeaaGreat
open Go Go.RowKit Go.ChangeMaps Go.MapKept Go.Maps Go.Lib Go.Sort

theorem rcells_ones (L : List RuleV) : ∀ u ∈ rcells L, u.oneCell' = true := fun u hu => by
  obtain ⟨r, _, hr⟩ := List.mem_flatMap.1 hu
  exact renc_oneO r u hr
theorem rcells_lenO (L : List RuleV) : (rcells L).length = L.length * 10 := flat_len RuleV.enc 10 rule_len L
theorem range_app {w : World} {b o : Nat} {A B : List Value} : w.rangeAt b o (A ++ B) ↔ w.rangeAt b o A ∧ w.rangeAt b (o + A.length) B := by
  refine ⟨fun h => ⟨fun j v hv => h j v ?_, fun j v hv => ?_⟩, fun ⟨h1, h2⟩ j v hv => ?_⟩
  · rw [List.getElem?_append_left (List.getElem?_eq_some_iff.1 hv).1]; exact hv
  · rw [Nat.add_assoc]
    refine h (A.length + j) v ?_
    rw [List.getElem?_append_right (by omega), Nat.add_sub_cancel_left]; exact hv
  · rcases Nat.lt_or_ge j A.length with hj | hj
    · rw [List.getElem?_append_left hj] at hv
      exact h1 j v hv
    · rw [List.getElem?_append_right hj] at hv
      have := h2 (j - A.length) v hv
      rw [Nat.add_assoc, Nat.add_sub_cancel' hj] at this
      exact this
theorem rcells_two (P Q : List RuleV) (x y : RuleV) : rcells (P ++ x :: y :: Q) = rcells P ++ (x.enc ++ (y.enc ++ rcells Q)) := by simp [rcells]
theorem below_setsF {B : Nat} {a : World} (b : Nat) (hb : B ≤ b) : ∀ (vs : List Value) (o : Nat) (w : World), Below B a w → Below B a (w.setCells b o vs)
  | [], _, _, h => h
  | v :: r, o, w, h => by
    rw [World.setCells]
    exact below_setsF b hb r (o + 1) _ (h.setCell (p := ⟨b, o, none⟩) hb v)
section
variable {W : World} {g k : Nat} {P Q : List RuleV} {x y : RuleV}
theorem swap_loads (h : W.rangeAt g 0 (rcells (P ++ x :: y :: Q))) (hk : P.length = k) : W.rangeAt g (k * 10) x.enc ∧ W.rangeAt g ((k + 1) * 10) y.enc := by
  rw [rcells_two, range_app, range_app, range_app] at h
  obtain ⟨_, h2, h3, _⟩ := h
  rw [Nat.zero_add, rcells_lenO, hk] at h2 h3
  refine ⟨h2, ?_⟩
  rw [Nat.add_mul]
  exact h3
theorem there_of {w : World} {b o n : Nat} {cs : List Value} (h : w.rangeAt b o cs) (hn : cs.length = n) (hf : ∀ j, w.frozen? ⟨b, j, none⟩ = false) : w.there b o n := fun j hj => ⟨h.isSome j (by omega), hf _⟩
theorem swap_range (h : W.rangeAt g 0 (rcells (P ++ x :: y :: Q))) (hk : P.length = k) (hf : ∀ j, W.frozen? ⟨g, j, none⟩ = false) :
    W.there g (k * 10) 10 ∧ (W.setCells g (k * 10) y.enc).there g ((k + 1) * 10) 10 ∧ ((W.setCells g (k * 10) y.enc).setCells g ((k + 1) * 10) x.enc).rangeAt g 0 (rcells (P ++ y :: x :: Q)) := by
  obtain ⟨l1, l2⟩ := swap_loads h hk
  have t1 : W.there g (k * 10) 10 := there_of l1 rfl hf
  have t2 : W.there g ((k + 1) * 10) 10 := there_of l2 rfl hf
  have t3 := World.there_setCells t2 g (k * 10) y.enc
  refine ⟨t1, t3, ?_⟩
  rw [rcells_two, range_app, range_app, range_app] at h ⊢
  obtain ⟨h1, _, _, h4⟩ := h
  rw [Nat.zero_add, rcells_lenO, hk] at h4 ⊢
  have ex : x.enc.length = 10 := rfl
  have ey : y.enc.length = 10 := rfl
  rw [ex, ey] at h4
  rw [ex, ey]
  have hlp := rcells_lenO P
  have e1 : k * 10 + 10 = (k + 1) * 10 := by omega
  rw [e1] at h4 ⊢
  refine ⟨?_, ?_, World.rangeAt_setCells_same _ _ _ _ t3, ?_⟩
  · exact World.rangeAt_setCells_apart (World.rangeAt_setCells_apart h1 _ _ _ (.inr (.inl (by omega)))) _ _ _ (.inr (.inl (by omega)))
  · exact World.rangeAt_setCells_apart (World.rangeAt_setCells_same _ _ _ _ t1) _ _ _ (.inr (.inl (by omega)))
  · exact World.rangeAt_setCells_apart (World.rangeAt_setCells_apart h4 _ _ _ (.inr (.inr (by omega)))) _ _ _ (.inr (.inr (by omega)))
end
end Go.Proofs.YtbahehmfhjkgeaaGreat

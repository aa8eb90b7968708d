/-
  Joined texts: Ro5, Mix0, Mix1, Mix2.
-/
import Derived.Test.YtlhafehhkjjchaaGreatDoorMRoutesOrder3
import Derived.Test.YtlhafehhkjjchaaGreatDoorMRoutesOrder2
import Derived.OrdersHeld
import Derived.Deep.RegionHeld3
/-
  Lists of routes: their cells, and held against each other (written by wip/gen/genro5.py).
-/
namespace Go.Proofs.YtlhafehhkjjchaaGreatDoor
open Go Go.RowKit Go.Lib Go.Sort

theorem Tryz.infoRoute : (Tryz.prog.info? 27).map (fun i => (i.zero, i.size, i.bytes)) = some (some (.agg #[.int .u32 0, .int .i64 0, .int .u8 0, .int .i64 0, .int .i64 0, .int .i64 0, .string ByteArray.empty, .int .u32 0, .bool false]), 9, 72) := by kernel_rfl
def rvcells (L : List RouteV) : List Value := L.flatMap RouteV.enc
theorem rvcell {L : List RouteV} {k i : Nat} {x : RouteV} {v : Value} (hr : L[k]? = some x) (hv : x.enc[i]? = some v) : (rvcells L)[k * 9 + i]? = some v := flat_get RouteV.enc 9 route_len L k i x v hr hv
theorem renc_one (r : RouteV) : ∀ u ∈ r.enc, u.oneCell' = true := by
  intro u hu
  simp only [RouteV.enc, List.mem_cons, List.not_mem_nil, or_false] at hu
  rcases hu with rfl | rfl | rfl | rfl | rfl | rfl | rfl | rfl | rfl <;> rfl
theorem rvcells_one (L : List RouteV) : ∀ u ∈ rvcells L, u.oneCell' = true := by
  intro u hu
  obtain ⟨r, _, hr⟩ := List.mem_flatMap.1 hu
  exact renc_one r u hr
theorem rvcells_len (L : List RouteV) : (rvcells L).length = L.length * 9 := flat_len RouteV.enc 9 route_len L
theorem rvcells_append (A B : List RouteV) : rvcells (A ++ B) = rvcells A ++ rvcells B := by simp [rvcells]
theorem rvcells_snoc (A : List RouteV) (s : RouteV) : rvcells (A ++ [s]) = rvcells A ++ s.enc := by simp [rvcells]
theorem rlist_eq_of {A B : List RouteV} (h : A.length = B.length) (h2 : ∀ (i : Nat) (s t : RouteV), A[i]? = some s → B[i]? = some t → s = t) : A = B := by
  apply List.ext_getElem?
  intro i
  by_cases hi : i < A.length
  · have ha := List.getElem?_eq_getElem hi
    have hb := List.getElem?_eq_getElem (l := B) (i := i) (by omega)
    rw [ha, hb, h2 i _ _ ha hb]
  · rw [List.getElem?_eq_none (by omega), List.getElem?_eq_none (by omega)]
/-- Are two lists of routes the same? -/
def eqRB (A B : List RouteV) : Bool := decide (A = B)
theorem eqRB_self (A : List RouteV) : eqRB A A = true := by simp [eqRB]
theorem eqRB_ne {A B : List RouteV} (h : A ≠ B) : eqRB A B = false := by simp [eqRB, h]
set_option maxRecDepth 100000 in
set_option maxHeartbeats 4000000 in
theorem refSameR_any (A B : List RouteV) (va vb : Value) (w : World) (ha : Rd w w.heap.size 9 va A.length (rvcells A)) (hb : Rd w w.heap.size 9 vb B.length (rvcells B)) (hla : A.length ≤ 1099511627776) :
    Calls Tryz.prog 8 #[va, vb] w fun e w' => e = .returned (.bool (eqRB A B)) ∧ Below w.heap.size w w' := by
  obtain ⟨Aa, ca, rfl, _⟩ := ha.form
  obtain ⟨Ab, cb, rfl, _⟩ := hb.form
  have HA := Lib.hid ha
  have HB := Lib.hid hb
  clear ha hb
  go_enter Tryz.func8, Tryz.ntmps8
  by_cases hlen : A.length = B.length
  · have HLEN := Lib.hid hlen
    have hne : ((A.length : Int) != (B.length : Int)) = false := by simp [hlen]
    clear hlen
    go_wp2
    go_loopw [5] (fun i wr => ∃ j : Nat, i = .int .i64 j ∧ j ≤ A.length ∧ Hid (∀ (i : Nat) (s t : RouteV), i < j → A[i]? = some s → B[i]? = some t → s = t) ∧ Below w.heap.size w wr) (fun i _ => A.length - (intOf i).toNat)
    case atStart => exact ⟨0, rfl, by omega, (by intro i s t hi; omega : ∀ (i : Nat) (s t : RouteV), i < 0 → A[i]? = some s → B[i]? = some t → s = t), Below.refl _ _⟩
    case round =>
      obtain ⟨j, rfl, hj, hsm, hnx⟩ := hrel
      have hsz := hnx.size
      by_cases hlt : j < A.length
      · have hI : (j : Int) < (A.length : Int) := by omega
        have hlt2 : j < B.length := by have := HLEN.out; omega
        have hI2 : (j : Int) < (B.length : Int) := by omega
        obtain ⟨s, hs⟩ : ∃ s, A[j]? = some s := ⟨_, List.getElem?_eq_getElem hlt⟩
        obtain ⟨t, ht⟩ : ∃ t, B[j]? = some t := ⟨_, List.getElem?_eq_getElem hlt2⟩
        obtain ⟨b, off, c', hv, _, hbB, hcell⟩ := (HA.out.below hnx).posAt (by omega)
        injection hv with hv1 _ hv3
        subst hv1 hv3
        obtain ⟨b2, off2, c2', hv, _, hbB2, hcell2⟩ := (HB.out.below hnx).posAt (by omega)
        injection hv with hv1 _ hv3
        subst hv1 hv3
        have f0 : wr.cell? ⟨b, off + j * 9, none⟩ = some (.int .u32 s.a) := hcell j 0 _ (rvcell hs rfl)
        have f1 : wr.cell? ⟨b, off + j * 9 + 1, none⟩ = some (.int .i64 s.m) := hcell j 1 _ (rvcell hs rfl)
        have f2 : wr.cell? ⟨b, off + j * 9 + 2, none⟩ = some (.int .u8 s.fr) := hcell j 2 _ (rvcell hs rfl)
        have f3 : wr.cell? ⟨b, off + j * 9 + 3, none⟩ = some (.int .i64 s.di) := hcell j 3 _ (rvcell hs rfl)
        have f4 : wr.cell? ⟨b, off + j * 9 + 4, none⟩ = some (.int .i64 s.me) := hcell j 4 _ (rvcell hs rfl)
        have f5 : wr.cell? ⟨b, off + j * 9 + 5, none⟩ = some (.int .i64 s.ta) := hcell j 5 _ (rvcell hs rfl)
        have f6 : wr.cell? ⟨b, off + j * 9 + 6, none⟩ = some (.string s.nm) := hcell j 6 _ (rvcell hs rfl)
        have f7 : wr.cell? ⟨b, off + j * 9 + 7, none⟩ = some (.int .u32 s.ho) := hcell j 7 _ (rvcell hs rfl)
        have f8 : wr.cell? ⟨b, off + j * 9 + 8, none⟩ = some (.bool s.dc) := hcell j 8 _ (rvcell hs rfl)
        have e0 : wr.cell? ⟨b2, off2 + j * 9, none⟩ = some (.int .u32 t.a) := hcell2 j 0 _ (rvcell ht rfl)
        have e1 : wr.cell? ⟨b2, off2 + j * 9 + 1, none⟩ = some (.int .i64 t.m) := hcell2 j 1 _ (rvcell ht rfl)
        have e2 : wr.cell? ⟨b2, off2 + j * 9 + 2, none⟩ = some (.int .u8 t.fr) := hcell2 j 2 _ (rvcell ht rfl)
        have e3 : wr.cell? ⟨b2, off2 + j * 9 + 3, none⟩ = some (.int .i64 t.di) := hcell2 j 3 _ (rvcell ht rfl)
        have e4 : wr.cell? ⟨b2, off2 + j * 9 + 4, none⟩ = some (.int .i64 t.me) := hcell2 j 4 _ (rvcell ht rfl)
        have e5 : wr.cell? ⟨b2, off2 + j * 9 + 5, none⟩ = some (.int .i64 t.ta) := hcell2 j 5 _ (rvcell ht rfl)
        have e6 : wr.cell? ⟨b2, off2 + j * 9 + 6, none⟩ = some (.string t.nm) := hcell2 j 6 _ (rvcell ht rfl)
        have e7 : wr.cell? ⟨b2, off2 + j * 9 + 7, none⟩ = some (.int .u32 t.ho) := hcell2 j 7 _ (rvcell ht rfl)
        have e8 : wr.cell? ⟨b2, off2 + j * 9 + 8, none⟩ = some (.bool t.dc) := hcell2 j 8 _ (rvcell ht rfl)
        have F0 := cell_regrown f0
        have E0 := cell_regrown e0
        have F1 := cell_regrown f1
        have E1 := cell_regrown e1
        have F2 := cell_regrown f2
        have E2 := cell_regrown e2
        have F3 := cell_regrown f3
        have E3 := cell_regrown e3
        have F4 := cell_regrown f4
        have E4 := cell_regrown e4
        have F5 := cell_regrown f5
        have E5 := cell_regrown e5
        have F6 := cell_regrown f6
        have E6 := cell_regrown e6
        have F7 := cell_regrown f7
        have E7 := cell_regrown e7
        have F8 := cell_regrown f8
        have E8 := cell_regrown e8
        have HS := Lib.hid hs
        have HT := Lib.hid ht
        clear hcell hcell2 hs ht f0 e0 f1 e1 f2 e2 f3 e3 f4 e4 f5 e5 f6 e6 f7 e7 f8 e8
        by_cases hc : s = t
        · have HC := Lib.hid hc
          have hneq := fun W => neqR_same hc W
          clear hc
          go_wp2
          refine wp_region_quiet_below (by kernel_rfl) (by kernel_rfl) ?_
          repeat (first | go_big_quiet_step (fail) | quiet_step (fail))
          refine wpQuiet_nil ?_
          intro _ hw'
          obtain ⟨⟨nq, osq⟩, hw''⟩ := hw'
          subst hw''
          have hq := below_regrown wr nq osq
          go_wp2
          refine ⟨⟨j + 1, by go_num, by omega, ?_, hnx.trans (hq.mono hsz)⟩, by simp only [intOf]; omega⟩
          intro i u v hi hu hv
          rcases Nat.lt_or_ge i j with h | h
          · exact hsm.out i u v h hu hv
          · obtain rfl : i = j := by omega
            rw [HS.out] at hu
            rw [HT.out] at hv
            injection hu with hu
            injection hv with hv
            rw [← hu, ← hv]; exact HC.out
        · have HC := Lib.hid hc
          have hneq := fun W => neqR_not hc W
          clear hc
          go_wp2
          refine wp_region_quiet_below (by kernel_rfl) (by kernel_rfl) ?_
          repeat (first | go_big_quiet_step (fail) | quiet_step (fail))
          refine wpQuiet_nil ?_
          intro _ hw'
          obtain ⟨⟨nq, osq⟩, hw''⟩ := hw'
          subst hw''
          have hq := below_regrown wr nq osq
          go_wp2
          go_ret
          refine ⟨ret_bool (eqRB_ne (fun h => ?_)).symm, hnx.trans (hq.mono hsz)⟩
          have h1 := HS.out
          rw [h, HT.out] at h1
          injection h1 with h1
          exact HC.out h1.symm
      · obtain rfl : j = A.length := by omega
        go_wp2
        go_ret
        refine ⟨ret_bool ?_, hnx⟩
        have : A = B := rlist_eq_of HLEN.out (fun i s t h1 h2 => hsm.out i s t (List.getElem?_eq_some_iff.1 h1).1 h1 h2)
        rw [this, eqRB_self]
  · have hne : ((A.length : Int) != (B.length : Int)) = true := by simp; omega
    have HLEN := Lib.hid hlen
    clear hlen
    go_wp2
    go_ret
    exact ⟨ret_bool (eqRB_ne (fun h => HLEN.out (by rw [h]))).symm, Below.refl _ _⟩

end Go.Proofs.YtlhafehhkjjchaaGreatDoor

/-
  A region that draws its order, walked in the order of the text: plain operations, each of which may be taken first, and barriers, each of which comes up alone: no program in sight.
-/
namespace Go.Proofs.YtlhafehhkjjchaaGreatDoor
open Go Go.RowKit Go.Sort

section
variable {P : Program} {ops : Array Oper} {md : Region.Mode} {S : World → Prop} {Q : Exit → Act → World → Prop}
/-- An operation that hands back a value, or stops. -/
def plainB : Op → Bool
  | .move _ | .assign _ | .pick _ _ _ | .load _ _ | .fieldAddr _ _ _ | .indexAddr _ _ _ | .binOp _ _ _ _ _ | .unOp _ _ _ | .convert _ _ _ | .build _ _ | .extract _ _ => true
  | _ => false
theorem then_value {α : Type} {r : Result α} {f : α → Value} {n : Go.Next} {w' : World} (h : (r.andThen fun x v => .ok (Go.Next.value (f x)) v) = .ok n w') : ∃ v, n = .value v := by
  cases r with
  | ok x v => simp only [Result.andThen_ok] at h; injection h with h _; exact ⟨_, h.symm⟩
  | halt x v => cases h
theorem plain_value {o : Oper} (h : plainB o.op = true) {ρ : Operand → Value} {w w' : World} {n : Go.Next} (hr : (execOp ρ o).run P w = .ok n w') : ∃ v, n = .value v := by
  obtain ⟨dst, op, type, pos, after, guard⟩ := o
  cases op <;> simp only [plainB] at h
  all_goals first
    | (cases h; done)
    | (simp only [execOp, Sem.run_bind, Sem.run_pure] at hr; first | exact then_value (f := fun x => x) hr | exact then_value hr | (injection hr with hr _; exact ⟨_, hr.symm⟩))
theorem yields_quiet {o : Oper} {a : Act} {K : Act → Prop} (h : plainB o.op = true) (hq : o.quiet P a S K) : ∃ v, (∀ w, S w → (execOp a.eval o).run P w = .ok (.value v) w) ∧ K (a.put o.dst v) := by
  obtain ⟨v, h1, h2⟩ := hq
  refine ⟨v, fun w hw => ?_, h2⟩
  have h3 := h1 w hw
  unfold Oper.quietAt at h3
  generalize hr : (execOp a.eval o).run P w = r at h3
  cases r with
  | ok n w' =>
    obtain ⟨u, rfl⟩ := plain_value h hr
    simp only [Oper.quietUpon] at h3
    rw [h3.1, h3.2]
  | halt x w' => simp only [Oper.quietUpon] at h3
/-- The region's edges bear this walk: a plain operation may be taken first, a barrier comes up alone. -/
def mixB (md : Region.Mode) (ops : Array Oper) : List (Nat × Bool) → Array Bool → Bool
  | [], listed => (Region.ready md ops listed).isEmpty
  | (k, false) :: m, listed => (Region.ready md ops listed).contains k && Region.free md ops listed k && (match ops[k]? with | some o => plainB o.op | none => false) && mixB md ops m (listed.setIfInBounds k true)
  | (k, true) :: m, listed => decide (Region.ready md ops listed = [k]) && mixB md ops m (listed.setIfInBounds k true)
/-- The walk; behind a barrier the class of worlds may be made narrower. -/
def mixW (P : Program) (ops : Array Oper) (Q : Exit → Act → World → Prop) : List (Nat × Bool) → (World → Prop) → Act → World → Prop
  | [], _, a, w => Q .normal a w
  | (k, false) :: m, S, a, w => ∃ o, ops[k]? = some o ∧ if Region.wanted o (yielded ops a.tmps) then o.quiet P a S (fun a' => mixW P ops Q m S a' w) else mixW P ops Q m S (a.put o.dst undef) w
  | (k, true) :: m, S, a, w => ∃ o, ops[k]? = some o ∧ if Region.wanted o (yielded ops a.tmps) then o.wp P a w (fun a' w' => ∃ S' : World → Prop, S' w' ∧ (∀ v, S' v → S v) ∧ mixW P ops Q m S' a' w') Q else mixW P ops Q m S (a.put o.dst undef) w
theorem wpAnyH_class {S S' : World → Prop} (h : ∀ v, S' v → S v) : ∀ (fuel : Nat) (listed : Array Bool) (a : Act) (w : World), wpAnyH P md ops Q S' fuel listed a w → wpAnyH P md ops Q S fuel listed a w
  | 0, _, _, _, hh => hh
  | f + 1, _, _, _, hh => ⟨hh.1, fun i hi => wpOp_mono (fun a' w' hk => ⟨h _ hk.1, wpAnyH_class h f _ a' w' hk.2⟩) (hh.2 i hi)⟩
theorem mix_sound (hs : Region.noSelect ops = true) (hQ : ∀ d v c a w, Q (.panic c) (Act.put a d v) w → Q (.panic c) a w) :
    ∀ (m : List (Nat × Bool)) (S : World → Prop) (listed : Array Bool) (a : Act) (w : World), mixB md ops m listed = true → S w → mixW P ops Q m S a w → wpAnyH P md ops Q S m.length listed a w := by
  intro m
  induction m with
  | nil =>
    intro S listed a w hB _ h
    exact ⟨by simpa [mixB] using hB, h⟩
  | cons b m ih =>
    intro S listed a w hB hS h
    obtain ⟨k, b⟩ := b
    cases b with
    | false =>
      simp only [mixW] at h
      obtain ⟨o, h0, h⟩ := h
      simp only [mixB, Bool.and_eq_true, h0] at hB
      obtain ⟨⟨⟨hr, hf⟩, hp⟩, hB'⟩ := hB
      by_cases hw : Region.wanted o (yielded ops a.tmps) = true
      · rw [if_pos hw] at h
        obtain ⟨v, hv, hK⟩ := yields_quiet hp h
        exact wpAnyH_take h0 hs hf hr (fun c a w => hQ o.dst v c a w) (.inl ⟨hw, hv⟩) hS (ih S _ _ w hB' hS hK)
      · rw [if_neg hw] at h
        exact wpAnyH_take h0 hs hf hr (fun c a w => hQ o.dst undef c a w) (.inr ⟨by simpa using hw, rfl⟩) hS (ih S _ _ w hB' hS h)
    | true =>
      simp only [mixW] at h
      obtain ⟨o, h0, h⟩ := h
      simp only [mixB, Bool.and_eq_true, decide_eq_true_eq] at hB
      obtain ⟨hr, hB'⟩ := hB
      refine wpAnyH_all hr (by simp) fun i hi => ?_
      obtain rfl : i = k := by simpa using hi
      unfold wpOp
      simp only [h0]
      by_cases hw : Region.wanted o (yielded ops a.tmps) = true
      · rw [if_pos hw] at h ⊢
        refine .inl (Oper.wp_mono (fun a' w' hh => ?_) h)
        obtain ⟨S', h1, h2, h3⟩ := hh
        exact ⟨h2 _ h1, wpAnyH_class h2 _ _ _ _ (ih S' _ a' w' hB' h1 h3)⟩
      · rw [if_neg hw] at h ⊢
        exact ⟨hS, ih S _ _ w hB' hS h⟩
/-- Some plain operations in a row, as a quiet walk. -/
theorem mix_seg {m : List (Nat × Bool)} : ∀ (ks : List Nat) (seg : List Oper) (a : Act) (w : World), ks.map (fun k => ops[k]?) = seg.map some → wpQuiet P ops S (fun a' => mixW P ops Q m S a' w) seg a → mixW P ops Q (ks.map (fun k => (k, false)) ++ m) S a w
  | [], [], _, _, _, h => h
  | [], _ :: _, _, _, hk, _ => by cases hk
  | _ :: _, [], _, _, hk, _ => by cases hk
  | k :: ks, o :: seg, a, w, hk, h => by
    simp only [List.map_cons] at hk
    injection hk with hk1 hk2
    have h' : (if Region.wanted o (yielded ops a.tmps) then o.quiet P a S (wpQuiet P ops S (fun a' => mixW P ops Q m S a' w) seg) else wpQuiet P ops S (fun a' => mixW P ops Q m S a' w) seg (a.put o.dst undef)) := h
    show ∃ o, ops[k]? = some o ∧ (if Region.wanted o (yielded ops a.tmps) then o.quiet P a S (fun a' => mixW P ops Q (ks.map (fun k => (k, false)) ++ m) S a' w) else mixW P ops Q (ks.map (fun k => (k, false)) ++ m) S (a.put o.dst undef) w)
    refine ⟨o, hk1, ?_⟩
    split
    · rename_i hw
      rw [if_pos hw] at h'
      exact Oper.quiet_mono (fun a' hh => mix_seg ks seg a' w hk2 hh) h'
    · rename_i hw
      rw [if_neg hw] at h'
      exact mix_seg ks seg _ w hk2 h'
def mixOk (l : List Oper) (m : List (Nat × Bool)) : Bool := Region.noSelect l.toArray && decide (m.length = l.length) && mixB .any l.toArray m (Array.replicate l.length false)
/-- The worlds that are W, drawn and grown. -/
@[reducible] def ClassOf (W : World) : World → Prop := fun w' => ∃ p : Regrown, w' = grow (redrawn W p.d) p.os
theorem class_sub {W V : World} (h : Below W.heap.size W V) : ∀ v, ClassOf V v → ClassOf W v := by
  rintro v ⟨p, rfl⟩
  exact regrown_of_below (h.trans ((below_regrown V p.d p.os).mono h.size))
theorem class_self (V : World) : ClassOf V V := regrown_of_below (Below.refl _ _)
theorem wp_region_mix {id : Nat} {a : Act} {w : World} {l : List Oper} (m : List (Nat × Bool)) (hm : P.follows .mixedOrders = true) (hB : mixOk l m = true)
    (h : mixW P l.toArray (NoPanic Q) m (fun w' => ∃ p : Regrown, w' = grow (redrawn w p.d) p.os) a { w with drawn := w.drawn + 1 }) : (Code.region id l.toArray true).wp P Q a w := by
  simp only [mixOk, Bool.and_eq_true, decide_eq_true_eq] at hB
  obtain ⟨⟨hs, hlen⟩, hmix⟩ := hB
  refine wp_region_noPanic (wp_region_held (S := fun w' => ∃ p : Regrown, w' = grow (redrawn w p.d) p.os) hm ?_)
  have H := mix_sound (md := .any) hs (fun d v c a w hh => hh) m _ (Array.replicate l.length false) a { w with drawn := w.drawn + 1 } hmix ⟨⟨w.drawn + 1, #[]⟩, by rw [grow_empty]; rfl⟩ h
  rw [hlen] at H
  simpa using H
theorem mix_take {m m' : List (Nat × Bool)} {a : Act} {w : World} (ks : List Nat) (seg : List Oper) (hm : m = ks.map (fun k => (k, false)) ++ m') (hs : ks.map (fun k => ops[k]?) = seg.map some) (h : wpQuiet P ops S (fun a' => mixW P ops Q m' S a' w) seg a) : mixW P ops Q m S a w := by
  rw [hm]
  exact mix_seg ks seg a w hs h
/-- A barrier; the class as it is. -/
theorem mix_bar {m : List (Nat × Bool)} {k : Nat} {o : Oper} {a : Act} {w : World} (ho : ops[k]? = some o) (hw : Region.wanted o (yielded ops a.tmps) = true) (h : o.wp P a w (fun a' w' => S w' ∧ mixW P ops Q m S a' w') Q) : mixW P ops Q ((k, true) :: m) S a w := by
  simp only [mixW]
  refine ⟨o, ho, ?_⟩
  rw [if_pos hw]
  exact Oper.wp_mono (fun a' w' hh => ⟨S, hh.1, fun _ h => h, hh.2⟩) h
/-- A barrier behind which the class is that of the new world. -/
theorem mix_new {m : List (Nat × Bool)} {k : Nat} {o : Oper} {a : Act} {W w : World} (ho : ops[k]? = some o) (hw : Region.wanted o (yielded ops a.tmps) = true) (h : o.wp P a w (fun a' w' => Below W.heap.size W w' ∧ mixW P ops Q m (fun v => ∃ p : Regrown, v = grow (redrawn w' p.d) p.os) a' w') Q) : mixW P ops Q ((k, true) :: m) (fun v => ∃ p : Regrown, v = grow (redrawn W p.d) p.os) a w := by
  simp only [mixW]
  refine ⟨o, ho, ?_⟩
  rw [if_pos hw]
  exact Oper.wp_mono (fun a' w' hh => ⟨_, class_self w', class_sub hh.1, hh.2⟩) h
theorem mix_not {m : List (Nat × Bool)} {k : Nat} {o : Oper} {a : Act} {w : World} (ho : ops[k]? = some o) (hw : Region.wanted o (yielded ops a.tmps) = false) (h : mixW P ops Q m S (a.put o.dst undef) w) : mixW P ops Q ((k, true) :: m) S a w := by
  simp only [mixW]
  refine ⟨o, ho, ?_⟩
  rw [if_neg (by rw [hw]; exact Bool.false_ne_true)]
  exact h
theorem mix_end {a : Act} {w : World} (h : Q .normal a w) : mixW P ops (NoPanic Q) [] S a w := h
theorem below_drawn (w : World) : Below w.heap.size w { w with drawn := w.drawn + 1 } := ⟨rfl, rfl, rfl, Nat.le_refl _, fun _ _ => rfl⟩
end
end Go.Proofs.YtlhafehhkjjchaaGreatDoor

/-
  A region that draws its order, walked along a tree: plain operations (any of which may be taken first), barriers (alone), and forks, where one operation that waits for nothing (an alloc) may come ahead of a barrier: no program in sight.
-/
namespace Go.Proofs.YtlhafehhkjjchaaGreatDoor
open Go Go.RowKit Go.Sort

section
variable {P : Program} {ops : Array Oper} {md : Region.Mode} {S : World → Prop} {Q : Exit → Act → World → Prop}
/-- An operation that hands back a value, or stops: besides those of plainB, max and min, and a slice cut. -/
def plainC : Op → Bool
  | .call c => (match c.callee with
    | .builtin .max => true
    | .builtin .min => true
    | _ => false)
  | .slice _ _ _ _ _ => true
  | o => plainB o
theorem plainC_value {o : Oper} (h : plainC o.op = true) {ρ : Operand → Value} {w w' : World} {n : Go.Next} (hr : (execOp ρ o).run P w = .ok n w') : ∃ v, n = .value v := by
  obtain ⟨dst, op, type, pos, after, guard⟩ := o
  cases op with
  | call c =>
    obtain ⟨callee, args, argTypes⟩ := c
    cases callee with
    | builtin b =>
      cases b <;> simp only [plainC] at h
      all_goals first
        | (cases h; done)
        | (simp only [execOp, resolve, invoke, builtin, Sem.run_bind, Sem.run_pure, Result.andThen_ok] at hr; first | exact then_value (f := fun x => x) hr | exact then_value hr | (injection hr with hr _; exact ⟨_, hr.symm⟩))
    | _ => simp only [plainC] at h; cases h
  | slice t x l hh m =>
    simp only [execOp, Sem.run_bind, Sem.run_pure] at hr
    first | exact then_value (f := fun x => x) hr | exact then_value hr | (injection hr with hr _; exact ⟨_, hr.symm⟩)
  | _ =>
    simp only [plainC] at h
    exact plain_value h hr
theorem yields_quietC {o : Oper} {a : Act} {K : Act → Prop} (h : plainC o.op = true) (hq : o.quiet P a S K) : ∃ v, (∀ w, S w → (execOp a.eval o).run P w = .ok (.value v) w) ∧ K (a.put o.dst v) := by
  obtain ⟨v, h1, h2⟩ := hq
  refine ⟨v, fun w hw => ?_, h2⟩
  have h3 := h1 w hw
  unfold Oper.quietAt at h3
  generalize hr : (execOp a.eval o).run P w = r at h3
  cases r with
  | ok n w' =>
    obtain ⟨u, rfl⟩ := plainC_value h hr
    simp only [Oper.quietUpon] at h3
    rw [h3.1, h3.2]
  | halt x w' => simp only [Oper.quietUpon] at h3

/-- The tree of a walk. -/
inductive MixT
  | done
  | plain (k : Nat) (t : MixT)
  | bar (k : Nat) (t : MixT)
  | fork (k : Nat) (t : MixT) (f : Nat) (u : MixT)
def MixT.depth : MixT → Nat
  | .done => 0
  | .plain _ t => t.depth + 1
  | .bar _ t => t.depth + 1
  | .fork _ t _ _ => t.depth + 1
/-- The region's edges bear the tree. -/
def treeB (md : Region.Mode) (ops : Array Oper) : MixT → Array Bool → Bool
  | .done, listed => (Region.ready md ops listed).isEmpty
  | .plain k t, listed => (Region.ready md ops listed).contains k && Region.free md ops listed k && (match ops[k]? with | some o => plainC o.op | none => false) && treeB md ops t (listed.setIfInBounds k true)
  | .bar k t, listed => decide (Region.ready md ops listed = [k]) && treeB md ops t (listed.setIfInBounds k true)
  | .fork k t f u, listed => (decide (Region.ready md ops listed = [k, f]) || decide (Region.ready md ops listed = [f, k])) && decide (t.depth = u.depth) && treeB md ops t (listed.setIfInBounds k true) && treeB md ops u (listed.setIfInBounds f true)
/-- An operation that comes up, and what follows. -/
def stepW (P : Program) (ops : Array Oper) (Q : Exit → Act → World → Prop) (k : Nat) (S : World → Prop) (K : (World → Prop) → Act → World → Prop) (a : Act) (w : World) : Prop :=
  ∃ o, ops[k]? = some o ∧ if Region.wanted o (yielded ops a.tmps) then o.wp P a w (fun a' w' => ∃ S' : World → Prop, S' w' ∧ (∀ v, S' v → S v) ∧ K S' a' w') Q else K S (a.put o.dst undef) w
def treeW (P : Program) (ops : Array Oper) (Q : Exit → Act → World → Prop) : MixT → (World → Prop) → Act → World → Prop
  | .done, _, a, w => Q .normal a w
  | .plain k t, S, a, w => ∃ o, ops[k]? = some o ∧ if Region.wanted o (yielded ops a.tmps) then o.quiet P a S (fun a' => treeW P ops Q t S a' w) else treeW P ops Q t S (a.put o.dst undef) w
  | .bar k t, S, a, w => stepW P ops Q k S (treeW P ops Q t) a w
  | .fork k t f u, S, a, w => stepW P ops Q k S (treeW P ops Q t) a w ∧ stepW P ops Q f S (treeW P ops Q u) a w
theorem step_sound {k : Nat} {K : (World → Prop) → Act → World → Prop} {fuel : Nat} {listed : Array Bool} {a : Act} {w : World} (hS : S w) (h : stepW P ops Q k S K a w)
    (ih : ∀ S' a' w', S' w' → K S' a' w' → wpAnyH P md ops Q S' fuel (listed.setIfInBounds k true) a' w') :
    wpOp P ops Q k (fun a' w' => S w' ∧ wpAnyH P md ops Q S fuel (listed.setIfInBounds k true) a' w') a w := by
  obtain ⟨o, h0, h⟩ := h
  unfold wpOp
  simp only [h0]
  by_cases hw : Region.wanted o (yielded ops a.tmps) = true
  · rw [if_pos hw] at h ⊢
    refine .inl (Oper.wp_mono (fun a' w' hh => ?_) h)
    obtain ⟨S', h1, h2, h3⟩ := hh
    exact ⟨h2 _ h1, wpAnyH_class h2 _ _ _ _ (ih S' a' w' h1 h3)⟩
  · rw [if_neg hw] at h ⊢
    exact ⟨hS, ih S _ w hS h⟩
theorem tree_sound (hs : Region.noSelect ops = true) (hQ : ∀ d v c a w, Q (.panic c) (Act.put a d v) w → Q (.panic c) a w) :
    ∀ (t : MixT) (S : World → Prop) (listed : Array Bool) (a : Act) (w : World), treeB md ops t listed = true → S w → treeW P ops Q t S a w → wpAnyH P md ops Q S t.depth listed a w := by
  intro t
  induction t with
  | done =>
    intro S listed a w hB _ h
    exact ⟨by simpa [treeB] using hB, h⟩
  | plain k t ih =>
    intro S listed a w hB hS h
    simp only [treeW] at h
    obtain ⟨o, h0, h⟩ := h
    simp only [treeB, Bool.and_eq_true, h0] at hB
    obtain ⟨⟨⟨hr, hf⟩, hp⟩, hB'⟩ := hB
    by_cases hw : Region.wanted o (yielded ops a.tmps) = true
    · rw [if_pos hw] at h
      obtain ⟨v, hv, hK⟩ := yields_quietC hp h
      exact wpAnyH_take h0 hs hf hr (fun c a w => hQ o.dst v c a w) (.inl ⟨hw, hv⟩) hS (ih S _ _ w hB' hS hK)
    · rw [if_neg hw] at h
      exact wpAnyH_take h0 hs hf hr (fun c a w => hQ o.dst undef c a w) (.inr ⟨by simpa using hw, rfl⟩) hS (ih S _ _ w hB' hS h)
  | bar k t ih =>
    intro S listed a w hB hS h
    simp only [treeW] at h
    simp only [treeB, Bool.and_eq_true, decide_eq_true_eq] at hB
    obtain ⟨hr, hB'⟩ := hB
    refine wpAnyH_all hr (by simp) fun i hi => ?_
    obtain rfl : i = k := by simpa using hi
    exact step_sound hS h fun S' a' w' h1 h3 => ih S' _ a' w' hB' h1 h3
  | fork k t f u iht ihu =>
    intro S listed a w hB hS h
    simp only [treeW] at h
    simp only [treeB, Bool.and_eq_true, Bool.or_eq_true, decide_eq_true_eq] at hB
    obtain ⟨⟨⟨hr, hd⟩, hB1⟩, hB2⟩ := hB
    have hall : ∀ i, i = k ∨ i = f → wpOp P ops Q i (fun a' w' => S w' ∧ wpAnyH P md ops Q S t.depth (listed.setIfInBounds i true) a' w') a w := by
      rintro i (rfl | rfl)
      · exact step_sound hS h.1 fun S' a' w' h1 h3 => iht S' _ a' w' hB1 h1 h3
      · rw [hd]
        exact step_sound hS h.2 fun S' a' w' h1 h3 => ihu S' _ a' w' hB2 h1 h3
    rcases hr with hr | hr
    · exact wpAnyH_all hr (by simp) fun i hi => hall i (by simpa using hi)
    · exact wpAnyH_all hr (by simp) fun i hi => hall i (by have : i = f ∨ i = k := by simpa using hi
                                                           exact this.symm)
/-- The same as a list of marks: a plain operation, a barrier, a barrier with a fork ahead. -/
def treeOk (l : List Oper) (t : MixT) : Bool := Region.noSelect l.toArray && decide (t.depth = l.length) && treeB .any l.toArray t (Array.replicate l.length false)
theorem wp_region_tree {id : Nat} {a : Act} {w : World} {l : List Oper} (t : MixT) (hm : P.follows .mixedOrders = true) (hB : treeOk l t = true)
    (h : treeW P l.toArray (NoPanic Q) t (fun w' => ∃ p : Regrown, w' = grow (redrawn w p.d) p.os) a { w with drawn := w.drawn + 1 }) : (Code.region id l.toArray true).wp P Q a w := by
  simp only [treeOk, Bool.and_eq_true, decide_eq_true_eq] at hB
  obtain ⟨⟨hs, hlen⟩, hmix⟩ := hB
  refine wp_region_noPanic (wp_region_held (S := fun w' => ∃ p : Regrown, w' = grow (redrawn w p.d) p.os) hm ?_)
  have H := tree_sound (md := .any) hs (fun d v c a w hh => hh) t _ (Array.replicate l.length false) a { w with drawn := w.drawn + 1 } hmix ⟨⟨w.drawn + 1, #[]⟩, by rw [grow_empty]; rfl⟩ h
  rw [hlen] at H
  simpa using H
/-- The same, the class being that of an older world. -/
theorem wp_region_treeB {id : Nat} {a : Act} {w W0 : World} {l : List Oper} (t : MixT) (hb : Below W0.heap.size W0 w) (hm : P.follows .mixedOrders = true) (hB : treeOk l t = true)
    (h : treeW P l.toArray (NoPanic Q) t (fun w' => ∃ p : Regrown, w' = grow (redrawn W0 p.d) p.os) a { w with drawn := w.drawn + 1 }) : (Code.region id l.toArray true).wp P Q a w := by
  simp only [treeOk, Bool.and_eq_true, decide_eq_true_eq] at hB
  obtain ⟨⟨hs, hlen⟩, hmix⟩ := hB
  refine wp_region_noPanic (wp_region_held (S := fun w' => ∃ p : Regrown, w' = grow (redrawn W0 p.d) p.os) hm ?_)
  have H := tree_sound (md := .any) hs (fun d v c a w hh => hh) t _ (Array.replicate l.length false) a { w with drawn := w.drawn + 1 } hmix (regrown_of_below (hb.trans ((below_drawn w).mono hb.size))) h
  rw [hlen] at H
  simpa using H
/-- Some plain operations in a row, then the rest of the tree. -/
def plains (t : MixT) : List Nat → MixT
  | [] => t
  | k :: ks => .plain k (plains t ks)
theorem tree_seg {t : MixT} : ∀ (ks : List Nat) (seg : List Oper) (a : Act) (w : World), ks.map (fun k => ops[k]?) = seg.map some → wpQuiet P ops S (fun a' => treeW P ops Q t S a' w) seg a → treeW P ops Q (plains t ks) S a w
  | [], [], a, w, _, h => h
  | [], _ :: _, _, _, hk, _ => by simp at hk
  | _ :: _, [], _, _, hk, _ => by simp at hk
  | k :: ks, o :: seg, a, w, hk, h => by
    simp only [List.map_cons, List.cons.injEq] at hk
    obtain ⟨hk1, hk2⟩ := hk
    have h' : (if Region.wanted o (yielded ops a.tmps) then o.quiet P a S (wpQuiet P ops S (fun a' => treeW P ops Q t S a' w) seg) else wpQuiet P ops S (fun a' => treeW P ops Q t S a' w) seg (a.put o.dst undef)) := h
    show ∃ o, ops[k]? = some o ∧ (if Region.wanted o (yielded ops a.tmps) then o.quiet P a S (fun a' => treeW P ops Q (plains t ks) S a' w) else treeW P ops Q (plains t ks) S (a.put o.dst undef) w)
    refine ⟨o, hk1, ?_⟩
    split
    · rename_i hw
      rw [if_pos hw] at h'
      exact Oper.quiet_mono (fun a' hh => tree_seg ks seg a' w hk2 hh) h'
    · rename_i hw
      rw [if_neg hw] at h'
      exact tree_seg ks seg _ w hk2 h'
theorem tree_take {t t' : MixT} {a : Act} {w : World} (ks : List Nat) (seg : List Oper) (hm : t = plains t' ks) (hs : ks.map (fun k => ops[k]?) = seg.map some) (h : wpQuiet P ops S (fun a' => treeW P ops Q t' S a' w) seg a) : treeW P ops Q t S a w := by
  rw [hm]
  exact tree_seg ks seg a w hs h
/-- An operation comes up: the class of worlds is the drawn and grown ones of w'. -/
theorem step_new {k : Nat} {o : Oper} {a : Act} {W w : World} {K : (World → Prop) → Act → World → Prop} (ho : ops[k]? = some o) (hw : Region.wanted o (yielded ops a.tmps) = true) (h : o.wp P a w (fun a' w' => Below W.heap.size W w' ∧ K (fun v => ∃ p : Regrown, v = grow (redrawn w' p.d) p.os) a' w') Q) :
    stepW P ops Q k (fun v => ∃ p : Regrown, v = grow (redrawn W p.d) p.os) K a w := by
  refine ⟨o, ho, ?_⟩
  rw [if_pos hw]
  exact Oper.wp_mono (fun a' w' hh => ⟨_, class_self w', class_sub hh.1, hh.2⟩) h
theorem step_same {k : Nat} {o : Oper} {a : Act} {w : World} {K : (World → Prop) → Act → World → Prop} (ho : ops[k]? = some o) (hw : Region.wanted o (yielded ops a.tmps) = true) (h : o.wp P a w (fun a' w' => S w' ∧ K S a' w') Q) :
    stepW P ops Q k S K a w := by
  refine ⟨o, ho, ?_⟩
  rw [if_pos hw]
  exact Oper.wp_mono (fun a' w' hh => ⟨S, hh.1, fun _ h => h, hh.2⟩) h
theorem tree_bar {k : Nat} {t : MixT} {a : Act} {w : World} (h : stepW P ops Q k S (treeW P ops Q t) a w) : treeW P ops Q (.bar k t) S a w := h
theorem tree_fork {k f : Nat} {t u : MixT} {a : Act} {w : World} (h : stepW P ops Q k S (treeW P ops Q t) a w) (h' : stepW P ops Q f S (treeW P ops Q u) a w) : treeW P ops Q (.fork k t f u) S a w := ⟨h, h'⟩
theorem tree_end {a : Act} {w : World} (h : Q .normal a w) : treeW P ops (NoPanic Q) .done S a w := h
end
end Go.Proofs.YtlhafehhkjjchaaGreatDoor

/-
  The order's check of a region that draws its order, by bit masks: for regions of a hundred operations. No program in sight.
-/
namespace Go.Proofs.YtlhafehhkjjchaaGreatDoor
open Go Go.RowKit Go.Sort

/-- What the check asks of an operation: what it waits for, what it writes, what it looks at, whether it is plain. -/
abbrev ORow := Nat × Nat × Nat × Bool
def maskOf (l : List Nat) : Nat := l.foldr (fun i a => Nat.lor (2 ^ i) a) 0
theorem testBit_mask (l : List Nat) (i : Nat) : (maskOf l).testBit i = decide (i ∈ l) := by
  induction l with
  | nil => simp [maskOf]
  | cons x l ih =>
    have h : maskOf (x :: l) = 2 ^ x ||| maskOf l := rfl
    rw [h, Nat.testBit_or, ih, Nat.testBit_two_pow, Bool.eq_iff_iff]
    simp only [Bool.or_eq_true, decide_eq_true_eq, List.mem_cons]
    exact ⟨fun h => h.imp Eq.symm id, fun h => h.imp Eq.symm id⟩
section
variable {P : Program} {ops : Array Oper} {md : Region.Mode} {S : World → Prop} {Q : Exit → Act → World → Prop}
def depsOf (md : Region.Mode) (o : Oper) : List Nat := (o.after.toList.filter (fun e => Region.binds md e)).map (·.on)
def rowOf (md : Region.Mode) (ops : Array Oper) (o : Oper) : ORow := (maskOf (depsOf md o), (match o.dst with | some d => 2 ^ d | none => 0), maskOf (o.looksAt ops), plainB o.op)
def subM (a b : Nat) : Bool := Nat.beq (Nat.land a b) a
def disjR (x y : ORow) : Bool := Nat.beq (Nat.land x.2.1 y.2.2.1) 0 && (Nat.beq (Nat.land y.2.1 x.2.2.1) 0 && Nat.beq (Nat.land x.2.1 y.2.1) 0)
def pairsR (i : Nat) (x : ORow) : Nat → List ORow → Bool
  | _, [] => true
  | j, y :: r => (Nat.testBit x.1 j || (Nat.testBit y.1 i || disjR x y)) && pairsR i x (j + 1) r
def allPairs : Nat → List ORow → Bool
  | _, [] => true
  | i, x :: r => pairsR i x (i + 1) r && allPairs (i + 1) r
def onlyR (L k : Nat) : Nat → List ORow → Bool
  | _, [] => true
  | j, y :: r => (Nat.beq j k || (Nat.testBit L j || !subM y.1 L)) && onlyR L k (j + 1) r
def allSet (L : Nat) : Nat → Bool
  | 0 => true
  | n + 1 => Nat.testBit L n && allSet L n
def goR (rows : List ORow) (n : Nat) : List (Nat × Bool) → Nat → Bool
  | [], L => allSet L n
  | (k, b) :: m, L => (match rows[k]? with
      | some y => !Nat.testBit L k && (subM y.1 L && (match b with | true => onlyR L k 0 rows | false => y.2.2.2))
      | none => false) && goR rows n m (Nat.lor L (2 ^ k))
def eqRows : List ORow → List ORow → Bool
  | [], [] => true
  | x :: r, y :: s => Nat.beq x.1 y.1 && (Nat.beq x.2.1 y.2.1 && (Nat.beq x.2.2.1 y.2.2.1 && (x.2.2.2 == y.2.2.2 && eqRows r s)))
  | _, _ => false
theorem eqRows_eq : ∀ {r s : List ORow}, eqRows r s = true → r = s
  | [], [], _ => rfl
  | x :: r, y :: s, h => by
    simp only [eqRows, Bool.and_eq_true, beq_iff_eq] at h
    obtain ⟨h1, h2, h3, h4, h5⟩ := h
    obtain ⟨a, b, c, d⟩ := x
    obtain ⟨a', b', c', d'⟩ := y
    dsimp only at h1 h2 h3 h4
    rw [eqRows_eq h5, Nat.eq_of_beq_eq_true h1, Nat.eq_of_beq_eq_true h2, Nat.eq_of_beq_eq_true h3, h4]
  | [], _ :: _, h => by simp [eqRows] at h
  | _ :: _, [], h => by simp [eqRows] at h
def mixFast (l : List Oper) (rows : List ORow) (m : List (Nat × Bool)) : Bool :=
  Region.noSelect l.toArray && (Nat.beq m.length l.length && (eqRows (l.map (rowOf .any l.toArray)) rows && (allPairs 0 rows && goR rows l.length m 0)))
theorem sub_bits {a b : Nat} (h : subM a b = true) (i : Nat) (hi : a.testBit i = true) : b.testBit i = true := by
  have e : a &&& b = a := Nat.eq_of_beq_eq_true h
  have := congrArg (fun x => Nat.testBit x i) e
  simp only [Nat.testBit_and, hi, Bool.true_and] at this
  exact this
theorem sub_of_bits {a b : Nat} (h : ∀ i, a.testBit i = true → b.testBit i = true) : subM a b = true := by
  have e : a &&& b = a := Nat.eq_of_testBit_eq fun i => by
    rw [Nat.testBit_and]
    cases ha : a.testBit i with
    | true => rw [h i ha]; rfl
    | false => rfl
  unfold subM
  exact Nat.beq_eq.symm ▸ e
theorem disj_bits {a b : Nat} (h : Nat.beq (Nat.land a b) 0 = true) (i : Nat) (ha : a.testBit i = true) : b.testBit i = false := by
  have e : a &&& b = 0 := Nat.eq_of_beq_eq_true h
  have := congrArg (fun x => Nat.testBit x i) e
  simpa [Nat.testBit_and, ha] using this
theorem deps_bit (o : Oper) (i : Nat) : (maskOf (depsOf md o)).testBit i = true ↔ ∃ e ∈ o.after, Region.binds md e = true ∧ e.on = i := by
  rw [testBit_mask, decide_eq_true_eq]
  simp only [depsOf, List.mem_map, List.mem_filter, Array.mem_toList_iff]
  exact ⟨fun ⟨e, ⟨h1, h2⟩, h3⟩ => ⟨e, h1, h2, h3⟩, fun ⟨e, h1, h2, h3⟩ => ⟨e, ⟨h1, h2⟩, h3⟩⟩
theorem disj_apart {x y : Oper} (h : disjR (rowOf md ops x) (rowOf md ops y) = true) : x.apart ops y = true := by
  simp only [disjR, Bool.and_eq_true, rowOf] at h
  obtain ⟨h1, h2, h3⟩ := h
  unfold Oper.apart
  cases hx : x.dst with
  | none =>
    cases hy : y.dst with
    | none => rfl
    | some d' =>
      rw [hy] at h2
      have := disj_bits h2 d' (by simp)
      rw [testBit_mask] at this
      simpa using this
  | some d =>
    rw [hx] at h1 h3
    have a1 := disj_bits h1 d (by simp)
    rw [testBit_mask] at a1
    have a3 := disj_bits h3 d (by simp)
    cases hy : y.dst with
    | none => simpa using a1
    | some d' =>
      rw [hy] at h2 a3
      have a2 := disj_bits h2 d' (by simp)
      rw [testBit_mask] at a2
      simp only [Nat.testBit_two_pow, decide_eq_false_iff_not] at a3
      simp only [decide_eq_false_iff_not] at a1 a2
      simp only [Bool.and_eq_true, Bool.not_eq_true', bne_iff_ne, ne_eq, Option.some.injEq, List.contains_eq_mem, decide_eq_false_iff_not]
      exact ⟨⟨a1, a3⟩, a2⟩
theorem disj_symm {x y : ORow} (h : disjR x y = true) : disjR y x = true := by
  simp only [disjR, Bool.and_eq_true] at h ⊢
  exact ⟨h.2.1, h.1, by rw [show Nat.land y.2.1 x.2.1 = Nat.land x.2.1 y.2.1 from Nat.and_comm _ _]; exact h.2.2⟩
theorem pairs_get {i : Nat} {x : ORow} : ∀ {s : Nat} {r : List ORow}, pairsR i x s r = true → ∀ (j : Nat) (y : ORow), r[j]? = some y → x.1.testBit (s + j) = true ∨ y.1.testBit i = true ∨ disjR x y = true
  | s, [], _, j, y, hj => by simp at hj
  | s, z :: r, h, j, y, hj => by
    simp only [pairsR, Bool.and_eq_true, Bool.or_eq_true] at h
    cases j with
    | zero => simp at hj; rw [← hj]; exact h.1
    | succ j =>
      have := pairs_get h.2 j y (by simpa using hj)
      rwa [show s + (j + 1) = s + 1 + j by omega]
theorem all_get : ∀ {s : Nat} {r : List ORow}, allPairs s r = true → ∀ (i j : Nat) (x y : ORow), i < j → r[i]? = some x → r[j]? = some y → x.1.testBit (s + j) = true ∨ y.1.testBit (s + i) = true ∨ disjR x y = true
  | s, [], _, i, j, x, y, _, hi, _ => by simp at hi
  | s, z :: r, h, i, j, x, y, hij, hi, hj => by
    simp only [allPairs, Bool.and_eq_true] at h
    cases j with
    | zero => omega
    | succ j =>
      cases i with
      | zero =>
        simp at hi
        have := pairs_get h.1 j y (by simpa using hj)
        rw [← hi, Nat.add_zero]
        rwa [show s + (j + 1) = s + 1 + j by omega]
      | succ i =>
        have := all_get h.2 i j x y (by omega) (by simpa using hi) (by simpa using hj)
        rwa [show s + (j + 1) = s + 1 + j by omega, show s + (i + 1) = s + 1 + i by omega]
theorem only_get {L k : Nat} : ∀ {s : Nat} {r : List ORow}, onlyR L k s r = true → ∀ (j : Nat) (y : ORow), r[j]? = some y → s + j = k ∨ L.testBit (s + j) = true ∨ subM y.1 L = false
  | s, [], _, j, y, hj => by simp at hj
  | s, z :: r, h, j, y, hj => by
    simp only [onlyR, Bool.and_eq_true, Bool.or_eq_true, Bool.not_eq_true'] at h
    cases j with
    | zero =>
      simp at hj
      rw [← hj, Nat.add_zero]
      exact h.1.imp Nat.eq_of_beq_eq_true id
    | succ j =>
      have := only_get h.2 j y (by simpa using hj)
      rwa [show s + (j + 1) = s + 1 + j by omega]
theorem allSet_get {L : Nat} : ∀ {n : Nat}, allSet L n = true → ∀ i, i < n → L.testBit i = true
  | 0, _, i, h => by omega
  | n + 1, h, i, hi => by
    simp only [allSet, Bool.and_eq_true] at h
    by_cases e : i = n
    · rw [e]; exact h.1
    · exact allSet_get h.2 i (by omega)
theorem single_of {l : List Nat} {k : Nat} (hn : l.Nodup) (hk : k ∈ l) (h : ∀ x ∈ l, x = k) : l = [k] := by
  cases l with
  | nil => cases hk
  | cons a t =>
    obtain rfl := h a (by simp)
    cases t with
    | nil => rfl
    | cons b t =>
      have := h b (by simp)
      rw [this] at hn
      simp at hn
/-- The mask and the array of those that have come up. -/
def RelL (n L : Nat) (listed : Array Bool) : Prop := listed.size = n ∧ ∀ i, listed.getD i false = L.testBit i
theorem rel_true {n L : Nat} {listed : Array Bool} (h : RelL n L listed) {i : Nat} (hi : i < n) : listed.getD i true = L.testBit i := by
  rw [← h.2 i]
  have : i < listed.size := by rw [h.1]; exact hi
  simp [Array.getD, this]
theorem rel_set {n L k : Nat} {listed : Array Bool} (h : RelL n L listed) (hk : k < n) : RelL n (Nat.lor L (2 ^ k)) (listed.setIfInBounds k true) := by
  refine ⟨by simpa using h.1, fun i => ?_⟩
  have e : (Nat.lor L (2 ^ k)).testBit i = (L.testBit i || decide (k = i)) := by
    show (L ||| 2 ^ k).testBit i = _
    rw [Nat.testBit_or, Nat.testBit_two_pow]
  rw [e, ← h.2 i]
  have hs := h.1
  by_cases hik : k = i
  · subst hik
    have : k < listed.size := by omega
    simp [Array.getD, this]
  · rw [Array.getD_eq_getD_getElem?, Array.getD_eq_getD_getElem?, Array.getElem?_setIfInBounds_ne (fun e => hik e)]
    simp [hik]
theorem rows_get {l : List Oper} {rows : List ORow} (hr : l.map (rowOf md l.toArray) = rows) (j : Nat) : rows[j]? = (l.toArray[j]?).map (rowOf md l.toArray) := by
  rw [← hr, List.getElem?_map]; simp
theorem ready_iff {l : List Oper} {L : Nat} {listed : Array Bool} (h : RelL l.length L listed) {j : Nat} {o : Oper} (ho : l.toArray[j]? = some o) : j ∈ Region.ready md l.toArray listed ↔ L.testBit j = false ∧ subM (rowOf md l.toArray o).1 L = true := by
  have hj : j < l.length := by
    have := (Array.getElem?_eq_some_iff.1 ho).1
    simpa using this
  rw [mem_ready, rel_true h hj]
  refine and_congr Iff.rfl ⟨fun ⟨o', h1, h2⟩ => ?_, fun hs => ⟨o, ho, fun e he hb => ?_⟩⟩
  · rw [ho] at h1
    injection h1 with h1
    subst h1
    refine sub_of_bits fun i hi => ?_
    obtain ⟨e, he, hb, rfl⟩ := (deps_bit o i).1 hi
    rw [← h.2]; exact h2 e he hb
  · rw [h.2]
    exact sub_bits hs _ ((deps_bit o _).2 ⟨e, he, hb, rfl⟩)
theorem mixB_of_goR {l : List Oper} {rows : List ORow} (hr : l.map (rowOf md l.toArray) = rows) (hp : allPairs 0 rows = true) : ∀ (m : List (Nat × Bool)) (L : Nat) (listed : Array Bool), RelL l.length L listed → goR rows l.length m L = true → mixB md l.toArray m listed = true
  | [], L, listed, h, hg => by
    simp only [goR] at hg
    unfold mixB
    rw [List.isEmpty_iff, List.eq_nil_iff_forall_not_mem]
    intro j hj
    obtain ⟨h1, o, ho, _⟩ := mem_ready.1 hj
    have hjl : j < l.length := by
      have := (Array.getElem?_eq_some_iff.1 ho).1
      simpa using this
    rw [rel_true h hjl, allSet_get hg j hjl] at h1
    cases h1
  | (k, b) :: m, L, listed, h, hg => by
    unfold goR at hg
    rw [Bool.and_eq_true, rows_get hr] at hg
    obtain ⟨hg1, hg2⟩ := hg
    cases ho : l.toArray[k]? with
    | none => rw [ho] at hg1; cases hg1
    | some o =>
      rw [ho] at hg1
      simp only [Option.map_some, Bool.and_eq_true, Bool.not_eq_true'] at hg1
      obtain ⟨k1, k2, k3⟩ := hg1
      have hkl : k < l.length := by
        have := (Array.getElem?_eq_some_iff.1 ho).1
        simpa using this
      have ih := mixB_of_goR hr hp m _ _ (rel_set h hkl) hg2
      have hready := (ready_iff (md := md) h ho).2 ⟨k1, k2⟩
      cases b with
      | true =>
        dsimp only at k3
        unfold mixB
        rw [ih, Bool.and_true, decide_eq_true_eq]
        refine single_of ?_ hready fun j hj => ?_
        · unfold Region.ready
          exact List.Nodup.sublist List.filter_sublist List.nodup_range
        · obtain ⟨_, oj, hoj, _⟩ := mem_ready.1 hj
          obtain ⟨j1, j2⟩ := (ready_iff (md := md) h hoj).1 hj
          have hg := only_get k3 j (rowOf md l.toArray oj) (by rw [rows_get hr, hoj]; rfl)
          rw [Nat.zero_add, j1, j2] at hg
          rcases hg with hg | hg | hg
          · exact hg
          · cases hg
          · cases hg
      | false =>
        dsimp only at k3
        unfold mixB
        simp only [Bool.and_eq_true, ih, and_true, ho]
        refine ⟨⟨by simpa using hready, ?_⟩, k3⟩
        unfold Region.free
        simp only [ho, List.all_eq_true, List.mem_range]
        intro j hj
        have hjl : j < l.length := by simpa using hj
        rw [rel_true h hjl]
        cases hoj : l.toArray[j]? with
        | none => simp
        | some oj =>
          dsimp only
          by_cases hjk : j = k
          · simp [hjk]
          cases hL : L.testBit j with
          | true => simp
          | false =>
            have key : ((rowOf md l.toArray o).1.testBit j = true) ∨ ((rowOf md l.toArray oj).1.testBit k = true) ∨ o.apart l.toArray oj = true := by
              have rk : rows[k]? = some (rowOf md l.toArray o) := by rw [rows_get hr, ho]; rfl
              have rj : rows[j]? = some (rowOf md l.toArray oj) := by rw [rows_get hr, hoj]; rfl
              rcases Nat.lt_or_gt_of_ne hjk with hlt | hlt
              · have := all_get hp j k _ _ hlt rj rk
                rw [Nat.zero_add, Nat.zero_add] at this
                rcases this with e | e | e
                · exact Or.inr (Or.inl e)
                · exact Or.inl e
                · exact Or.inr (Or.inr (disj_apart (disj_symm e)))
              · have := all_get hp k j _ _ hlt rk rj
                rw [Nat.zero_add, Nat.zero_add] at this
                rcases this with e | e | e
                · exact Or.inl e
                · exact Or.inr (Or.inl e)
                · exact Or.inr (Or.inr (disj_apart e))
            rcases key with e | e | e
            · have := sub_bits k2 j e
              rw [hL] at this; cases this
            · obtain ⟨e', h1, h2, h3⟩ := (deps_bit oj k).1 e
              have : (oj.after.any fun e => Region.binds md e && e.on == k) = true := by
                rw [← Array.any_toList, List.any_eq_true]
                exact ⟨e', Array.mem_toList_iff.2 h1, by simp [h2, h3]⟩
              simp [this]
            · simp [e]
theorem mixFast_ok {l : List Oper} {rows : List ORow} {m : List (Nat × Bool)} (h : mixFast l rows m = true) : mixOk l m = true := by
  simp only [mixFast, Bool.and_eq_true] at h
  obtain ⟨h1, h2, h3, h4, h5⟩ := h
  simp only [mixOk, Bool.and_eq_true, decide_eq_true_eq]
  refine ⟨⟨h1, Nat.eq_of_beq_eq_true h2⟩, mixB_of_goR (eqRows_eq h3) h4 m 0 _ ⟨by simp, fun i => ?_⟩ h5⟩
  simp [Array.getD, Nat.zero_testBit]
theorem wp_region_mixF {id : Nat} {a : Act} {w : World} {l : List Oper} (m : List (Nat × Bool)) (rows : List ORow) (hm : P.follows .mixedOrders = true) (hB : mixFast l rows m = true)
    (h : mixW P l.toArray (NoPanic Q) m (fun w' => ∃ p : Regrown, w' = grow (redrawn w p.d) p.os) a { w with drawn := w.drawn + 1 }) : (Code.region id l.toArray true).wp P Q a w := wp_region_mix m hm (mixFast_ok hB) h
end
end Go.Proofs.YtlhafehhkjjchaaGreatDoor

/-
  Joined texts: TailQ, Ca1, RtOrd, Mix0.
-/
import Derived.StillTail
import Derived.Deep.QuietTactic
import Derived.BigQuiet
import Derived.Lib.QuietBelow
import Derived.Test.YtbanbommgcjmjaaMRoutesAdverts1
import Derived.Deep.CutBlock
import Derived.Deep.DeepCutAuto
import Derived.Shelf.SlSortCmp.WholeK
import Derived.OrdersHeld
import Derived.Deep.RegionHeld3
/-
  A region that draws its order, with a head whose operations are quiet in a class of worlds and a tail in one forced order: no program in sight.
-/
namespace Go.Proofs.Ytbanbommgcjmjaa
open Go Go.Sort

section
variable {P : Program} {ops : Array Oper} {md : Region.Mode} {C : World → Prop}
/-- The head, in whatever order, up to L. -/
def headQ (P : Program) (md : Region.Mode) (ops : Array Oper) (C : World → Prop) (n : Nat) (L : Array Bool → Act → Prop) : Nat → Array Bool → Act → Prop
  | 0, listed, a => L listed a
  | f + 1, listed, a => Region.ready md ops listed ≠ [] ∧ ∀ i, i ∈ Region.ready md ops listed → i < n ∧ qOp P ops C i (headQ P md ops C n L f (listed.setIfInBounds i true)) a
theorem any_of_headQ {n g : Nat} {L : Array Bool → Act → Prop} {K : Exit → Act → World → Prop} (hL : ∀ listed a w, C w → L listed a → wpAny P md ops K g listed a w) :
    ∀ (f : Nat) (listed : Array Bool) (a : Act) (w : World), C w → headQ P md ops C n L f listed a → wpAny P md ops K (f + g) listed a w
  | 0, listed, a, w, hw, h => by rw [Nat.zero_add]; exact hL _ _ _ hw h
  | f + 1, listed, a, w, hw, h => by
    have e : f + 1 + g = (f + g) + 1 := by omega
    rw [e]
    refine ⟨fun hn => absurd hn h.1, fun i hi => wpOp_of_qOp hw (fun a' w' hw' h' => any_of_headQ hL f _ a' w' hw' h') (h.2 i hi).2⟩
/-- An operation of the head that is ready may be taken first. -/
theorem headQ_first {n i : Nat} {oi : Oper} {v : Value} {L : Array Bool → Act → Prop} (hi : ops[i]? = some oi) (hsel : ∀ (j : Nat) (o : Oper) cs b, ops[j]? = some o → o.op ≠ .select cs b)
    (hs : Region.sinkB md ops n = true) (hc : Region.chainB md ops n = true) (hn : n < ops.size) (hin : i < n) (hend : ∀ listed a, L listed a → ∀ j ∈ Region.ready md ops listed, n ≤ j)
    (f : Nat) : ∀ (listed : Array Bool) (a : Act), HeadInv md ops n listed →
      (∀ j oj, ops[j]? = some oj → j ≠ i → listed.getD j true = false → (∀ e ∈ oj.after, Region.binds md e = true → e.on ≠ i) → oi.apart ops oj = true) →
      i ∈ Region.ready md ops listed → YieldsIn P ops C oi v a → headQ P md ops C n L f (listed.setIfInBounds i true) (a.put oi.dst v) → headQ P md ops C n L (f + 1) listed a := by
  induction f with
  | zero =>
    intro listed a inv _ hr hy H
    have hlow : ∀ j ∈ Region.ready md ops listed, j < n := fun j hj => (Nat.lt_or_ge j n).elim id fun h => absurd hj (tail_waits hs hc hn inv _ i rfl hin (mem_ready.1 hr).1 j h)
    refine ⟨fun h => (by rw [h] at hr; cases hr), fun j hj => ⟨hlow j hj, ?_⟩⟩
    by_cases hji : j = i
    · subst hji
      exact hy.qOp hi H
    · have h1 := hend _ _ H j (ready_mono hj hji)
      have h2 := hlow j hj
      omega
  | succ f ih =>
    intro listed a inv hfree hr hy H
    have hun := (mem_ready.1 hr).1
    have hlow : ∀ j ∈ Region.ready md ops listed, j < n := fun j hj => (Nat.lt_or_ge j n).elim id fun h => absurd hj (tail_waits hs hc hn inv _ i rfl hin hun j h)
    refine ⟨fun h => (by rw [h] at hr; cases hr), fun j hj => ⟨hlow j hj, ?_⟩⟩
    by_cases hji : j = i
    · subst hji
      exact hy.qOp hi H
    · obtain ⟨hjun, oj, hoj, hall⟩ := mem_ready.1 hj
      have hnot : ∀ e ∈ oj.after, Region.binds md e = true → e.on ≠ i := by
        intro e he hb heq
        have h1 := hall e he hb
        rw [heq, getD_both hun] at h1
        cases h1
      have hput := qOp_put hoj (hfree j oj hoj hji hjun hnot) (fun cs b => hsel i oi cs b hi) (fun cs b => hsel j oj cs b hoj) hy (H.2 j (ready_mono hj hji)).2
      refine qOp_mono (fun a' h3 => ih (listed.setIfInBounds j true) a' (inv.set hj (hlow j hj)) ?_ (ready_mono hr (Ne.symm hji)) h3.1 ?_) hput
      · intro k ok hk hki hku hno
        refine hfree k ok hk hki ?_ hno
        by_cases hjk : j = k
        · subst hjk; exact hjun
        · rw [getD_set_ne true hjk] at hku; exact hku
      · rw [Array.setIfInBounds_comm _ _ hji]
        exact h3.2
theorem headQ_lex {n g : Nat} {Lq : Act → Prop} (hsel : Region.noSelect ops = true) (hs : Region.sinkB md ops n = true) (hc : Region.chainB md ops n = true) (hn : n < ops.size) :
    ∀ (l : List Oper) (k : Nat) (listed : Array Bool) (a : Act), (∀ j, j < l.length → l[j]? = ops[k + j]?) → k + l.length = n → HeadInv md ops n listed →
    Region.lexHead md ops g l.length k listed = true → wpQuiet P ops C Lq l a →
    headQ P md ops C n (fun listed' a' => Region.seqB md ops g n listed' = true ∧ Lq a') l.length listed a := by
  intro l
  induction l with
  | nil =>
    intro k listed a _ hk _ hB h
    obtain rfl : k = n := by simpa using hk
    exact ⟨by simpa [Region.lexHead] using hB, h⟩
  | cons o l ih =>
    intro k listed a hl hk inv hB h
    have h0 : ops[k]? = some o := by simpa using (hl 0 (by simp)).symm
    simp only [List.length_cons, Region.lexHead, Bool.and_eq_true] at hB
    obtain ⟨⟨hr, hf⟩, hB'⟩ := hB
    have hkn : k < n := by simp only [List.length_cons] at hk; omega
    have hr' : k ∈ Region.ready md ops listed := by simpa using hr
    obtain ⟨v, hy, hK⟩ := yieldsIn_of_qOp (C := C) (P := P) (K := wpQuiet P ops C Lq l) h0 (by unfold qOp; simp only [h0]; exact h)
    refine headQ_first h0 (Region.noSelect_spec hsel) hs hc hn hkn (fun listed' a' hL => seqB_ready hL.1) l.length listed a inv (Region.free_spec h0 hf) hr' hy (ih (k + 1) _ _ (fun j hj => ?_) (by simp only [List.length_cons] at hk; omega) (inv.set hr' hkn) hB' hK)
    have h1 := hl (j + 1) (by simp; omega)
    simpa [Nat.add_assoc, Nat.add_comm 1 j] using h1
/-- A head that is quiet in the class, then the tail in its order, in any world of the class. -/
theorem wp_region_quiet_tail {id : Nat} {Q : Exit → Act → World → Prop} {a : Act} {w : World} {l : List Oper} (n : Nat) (hm : P.follows .mixedOrders = true) (hB : Region.lexTailB .any l.toArray n = true) (hC : C { w with drawn := w.drawn + 1 })
    (h : wpQuiet P l.toArray C (fun a' => ∀ w', C w' → wpList P l.toArray Q (l.drop n) a' w') (l.take n) a) : (Code.region id l.toArray true).wp P Q a w := by
  simp only [Region.lexTailB, Bool.and_eq_true, decide_eq_true_eq] at hB
  obtain ⟨⟨⟨⟨hsel, hn⟩, hs⟩, hc⟩, hlex⟩ := hB
  have hn' : n < l.length := by simpa using hn
  have htl : (l.take n).length = n := by simp; omega
  have hdl : (l.drop n).length = l.toArray.size - n := by simp
  have inv0 : HeadInv .any l.toArray n (Array.replicate l.toArray.size false) :=
    ⟨by simp, fun j oj _ hl => (by rw [getD_replicate_false] at hl; cases hl), fun t _ ht => getD_in (by simpa using ht) (getD_replicate_false _ _)⟩
  have H := headQ_lex (C := C) (P := P) (md := .any) (g := l.toArray.size - n) hsel hs hc hn (l.take n) 0 (Array.replicate l.toArray.size false) a (fun j hj => by
    have hj' : j < n := by rw [htl] at hj; exact hj
    simp [hj']) (by simpa using htl) inv0 (by rw [htl]; exact hlex) h
  refine wp_region_any hm ?_
  have H2 := any_of_headQ (K := Q) (g := l.toArray.size - n) (fun listed a' w' hw' hL => by
    have h2 := wpAny_of_seq (P := P) (Q' := Q) (l.drop n) n listed a' w' (fun j => by simp) (by rw [hdl]; exact hL.1) (hL.2 w' hw')
    rw [hdl] at h2
    exact h2) (l.take n).length (Array.replicate l.toArray.size false) a { w with drawn := w.drawn + 1 } hC H
  have e : (l.take n).length + (l.toArray.size - n) = l.toArray.size := by rw [htl]; simp; omega
  rw [e] at H2
  exact H2
/-- The same at the class of the worlds that are drawn and grown. -/
theorem wp_region_tail_below {id : Nat} {Q : Exit → Act → World → Prop} {a : Act} {w : World} {l : List Oper} (n : Nat) (hm : P.follows .mixedOrders = true) (hB : Region.lexTailB .any l.toArray n = true)
    (h : wpQuiet P l.toArray (fun w' => ∃ p : Regrown, w' = grow (redrawn w p.d) p.os) (fun a' => ∀ w', (∃ p : Regrown, w' = grow (redrawn w p.d) p.os) → wpList P l.toArray Q (l.drop n) a' w') (l.take n) a) : (Code.region id l.toArray true).wp P Q a w :=
  wp_region_quiet_tail (C := fun w' => ∃ p : Regrown, w' = grow (redrawn w p.d) p.os) n hm hB ⟨⟨w.drawn + 1, #[]⟩, by rw [grow_empty]; rfl⟩ h
end
end Go.Proofs.Ytbanbommgcjmjaa

/-
  The walk of routes.CmpAdvert at any two adverts (written by wip/gen/genca1.py).
-/
namespace Go.Proofs.Ytbanbommgcjmjaa
open Go Go.RowKit Go.Lib Go.Sort

/-- Two lists: by the first unlike numbers, a beginning ahead. -/
def cmpNs : List Int → List Int → Int
  | [], [] => 0
  | [], _ :: _ => -1
  | _ :: _, [] => 1
  | x :: l, y :: m => if cmpI x y = 0 then cmpNs l m else cmpI x y
/-- The order of adverts. -/
def cmpA (r s : AvV) : Int := firstNZ [firstNZ [cmpI r.a s.a, cmpI r.m s.m], cmpI r.ss s.ss, cmpI r.pf s.pf, cmpI r.me s.me, cmpI r.ho s.ho, cmpI r.pe s.pe, cmpI r.id s.id, cmpB r.ex s.ex, cmpI r.og s.og, cmpNs r.pa s.pa, cmpNs r.co s.co, cmpNs r.cl s.cl]
theorem cblk13 {w : World} {g : Nat} {v0 v1 v2 v3 v4 v5 v6 v7 v8 v9 v10 v11 v12 : Value} {t : TypeId} (h : w.heap[g]? = some (.cells #[v0, v1, v2, v3, v4, v5, v6, v7, v8, v9, v10, v11, v12] t (0, 0))) : w.cell? ⟨g, 0, none⟩ = some v0 ∧ w.cell? ⟨g, 1, none⟩ = some v1 ∧ w.cell? ⟨g, 2, none⟩ = some v2 ∧ w.cell? ⟨g, 3, none⟩ = some v3 ∧ w.cell? ⟨g, 4, none⟩ = some v4 ∧ w.cell? ⟨g, 5, none⟩ = some v5 ∧ w.cell? ⟨g, 6, none⟩ = some v6 ∧ w.cell? ⟨g, 7, none⟩ = some v7 ∧ w.cell? ⟨g, 8, none⟩ = some v8 ∧ w.cell? ⟨g, 9, none⟩ = some v9 ∧ w.cell? ⟨g, 10, none⟩ = some v10 ∧ w.cell? ⟨g, 11, none⟩ = some v11 ∧ w.cell? ⟨g, 12, none⟩ = some v12 :=
  ⟨cell_of_row w g 0 _ t (0, 0) h, cell_of_row w g 1 _ t (0, 0) h, cell_of_row w g 2 _ t (0, 0) h, cell_of_row w g 3 _ t (0, 0) h, cell_of_row w g 4 _ t (0, 0) h, cell_of_row w g 5 _ t (0, 0) h, cell_of_row w g 6 _ t (0, 0) h, cell_of_row w g 7 _ t (0, 0) h, cell_of_row w g 8 _ t (0, 0) h, cell_of_row w g 9 _ t (0, 0) h, cell_of_row w g 10 _ t (0, 0) h, cell_of_row w g 11 _ t (0, 0) h, cell_of_row w g 12 _ t (0, 0) h⟩
theorem cbOf {P : Program} {f : FuncId} {args : Array Value} {w : World} {v : Value} (h : Calls P f args w fun e w' => e = .returned v ∧ w = w') : Calls P f args w fun e w' => e = .returned v ∧ Below w.heap.size w w' := h.mono fun _ _ ⟨he, hw⟩ => ⟨he, by rw [← hw]; exact Below.refl _ _⟩
theorem cmpI_nz {x y : Int} (h : x ≠ y) : cmpI x y ≠ 0 := by
  by_cases h1 : x < y
  · rw [cmpI_lt h1]; omega
  · rw [cmpI_gt (by omega)]; omega
theorem cmpNs_same {x : Int} {l m : List Int} : cmpNs (x :: l) (x :: m) = cmpNs l m := by rw [cmpNs, if_pos (cmpI_eq x)]
theorem cmpNs_step {l m : List Int} {k : Nat} {x : Int} (hl : l[k]? = some x) (hm : m[k]? = some x) : cmpNs (l.drop k) (m.drop k) = cmpNs (l.drop (k + 1)) (m.drop (k + 1)) := by
  obtain ⟨h1, e1⟩ := List.getElem?_eq_some_iff.1 hl
  obtain ⟨h2, e2⟩ := List.getElem?_eq_some_iff.1 hm
  rw [List.drop_eq_getElem_cons h1, List.drop_eq_getElem_cons h2, e1, e2, cmpNs_same]
theorem cmpNs_at {l m : List Int} {k : Nat} {x y : Int} (hl : l[k]? = some x) (hm : m[k]? = some y) (h : x ≠ y) : cmpNs (l.drop k) (m.drop k) = cmpI x y := by
  obtain ⟨h1, e1⟩ := List.getElem?_eq_some_iff.1 hl
  obtain ⟨h2, e2⟩ := List.getElem?_eq_some_iff.1 hm
  rw [List.drop_eq_getElem_cons h1, List.drop_eq_getElem_cons h2, e1, e2, cmpNs, if_neg (cmpI_nz h)]
theorem cmpNs_long {l m : List Int} {k : Nat} (h1 : k < l.length) (h2 : m.length ≤ k) : cmpNs (l.drop k) (m.drop k) = 1 := by
  rw [List.drop_eq_getElem_cons h1, List.drop_eq_nil_of_le h2, cmpNs]
theorem cmpNs_short {l m : List Int} (h : l.length < m.length) : cmpNs (l.drop l.length) (m.drop l.length) = -1 := by
  rw [List.drop_length, List.drop_eq_getElem_cons h, cmpNs]
theorem cmpNs_done {l m : List Int} (h : ¬ l.length < m.length) : cmpNs (l.drop l.length) (m.drop l.length) = 0 := by
  rw [List.drop_length, List.drop_eq_nil_of_le (by omega), cmpNs]
set_option maxRecDepth 100000 in
set_option maxHeartbeats 4000000 in
theorem listU_any (l m : List Int) (u v : Value) (w : World) (hu : Rd w w.heap.size 1 u l.length (l.map (Value.int .u32))) (hv : Rd w w.heap.size 1 v m.length (m.map (Value.int .u32))) (hlen : l.length ≤ 4611686018427387904) :
    Calls Try.prog 39 #[u, v] w fun e w' => e = .returned (.int .i64 (cmpNs l m)) ∧ w = w' := by
  obtain ⟨A, c, rfl, hc⟩ := hu.form
  obtain ⟨A', c', rfl, hc'⟩ := hv.form
  have HU := Lib.hid hu
  have HV := Lib.hid hv
  clear hu hv
  have hC : Calls Try.prog 50 #[.slice A l.length c, .slice A' m.length c'] w fun e w' => e = .returned (.int .i64 (cmpNs l m)) ∧ w = w' := by
    go_enter Try.func50, Try.ntmps50
    go_wp2
    go_loop [5, 6, 7, 8, 11] (fun _ _ _ _ i => ∃ k : Nat, i = .int .i64 k ∧ k ≤ l.length ∧ Hid (cmpNs l m = cmpNs (l.drop k) (m.drop k))) (fun _ _ _ _ i => l.length - (intOf i).toNat)
    case atStart => exact ⟨0, rfl, by omega, rfl⟩
    case round =>
      obtain ⟨k, rfl, hk, HE⟩ := hrel
      by_cases hlt : k < l.length
      · have hI : (k : Int) < (l.length : Int) := by omega
        obtain ⟨x, hx⟩ : ∃ x, l[k]? = some x := ⟨_, List.getElem?_eq_getElem hlt⟩
        obtain ⟨b, off, d, hv, _, _, hcell⟩ := HU.out.posAt (by omega)
        injection hv with hv1 _ hv3
        subst hv1 hv3
        have c0 : w.cell? ⟨b, off + k, none⟩ = some (.int .u32 x) := by
          have := hcell k 0 (.int .u32 x) (by simp [hx])
          rwa [Nat.mul_one, Nat.add_zero] at this
        have HX := Lib.hid hx
        clear hcell hx
        by_cases hlm : k < m.length
        · have hJ : ¬ (m.length : Int) ≤ (k : Int) := by omega
          have hJ2 : (k : Int) < (m.length : Int) := by omega
          obtain ⟨y, hy⟩ : ∃ y, m[k]? = some y := ⟨_, List.getElem?_eq_getElem hlm⟩
          obtain ⟨b', off', d', hv', _, _, hcell'⟩ := HV.out.posAt (by omega)
          injection hv' with hv1' _ hv3'
          subst hv1' hv3'
          have c1 : w.cell? ⟨b', off' + k, none⟩ = some (.int .u32 y) := by
            have := hcell' k 0 (.int .u32 y) (by simp [hy])
            rwa [Nat.mul_one, Nat.add_zero] at this
          have HY := Lib.hid hy
          clear hcell' hy
          by_cases hxy : x = y
          · subst hxy
            have HE2 := Lib.hid (HE.out.trans (cmpNs_step HX.out HY.out))
            have hz := cmpI_eq x
            have hz2 : (cmpI x x != 0) = false := by rw [hz]; rfl
            go_wp2_with (go_at_call 70; refine (cmpU32_any x x _).mono ?_; rintro e w' ⟨rfl, rfl⟩)
            exact ⟨⟨k + 1, by go_num, by omega, HE2⟩, by simp only [intOf]; omega⟩
          · have HE2 := Lib.hid (HE.out.trans (cmpNs_at HX.out HY.out hxy))
            have hz2 : (cmpI x y != 0) = true := by simpa using cmpI_nz hxy
            clear hxy
            go_wp2_with (go_at_call 70; refine (cmpU32_any x y _).mono ?_; rintro e w' ⟨rfl, rfl⟩)
            go_ret
            exact ⟨ret_int HE2.out.symm, rfl⟩
        · have hJ : (m.length : Int) ≤ (k : Int) := by omega
          have HE2 := Lib.hid (HE.out.trans (cmpNs_long hlt (by omega)))
          go_wp2
          go_ret
          exact ⟨ret_int HE2.out.symm, rfl⟩
      · obtain rfl : k = l.length := by omega
        have hI : ¬ (l.length : Int) < (l.length : Int) := by omega
        by_cases hlm : l.length < m.length
        · have hJ : (l.length : Int) < (m.length : Int) := by omega
          have HE2 := Lib.hid (HE.out.trans (cmpNs_short hlm))
          go_wp2
          go_ret
          exact ⟨ret_int HE2.out.symm, rfl⟩
        · have hJ : ¬ (l.length : Int) < (m.length : Int) := by omega
          have HE2 := Lib.hid (HE.out.trans (cmpNs_done hlm))
          go_wp2
          go_ret
          exact ⟨ret_int HE2.out.symm, rfl⟩
  have HC := Lib.hid hC
  clear hC
  go_enter Try.func39, Try.ntmps39
  go_wp2_with fail
  refine HC.out.mono ?_
  rintro e w1 ⟨rfl, rfl⟩
  go_wp2
  go_ret
  exact ⟨rfl, rfl⟩
set_option maxRecDepth 100000 in
set_option maxHeartbeats 4000000 in
theorem listA_any (l m : List Int) (u v : Value) (w : World) (hu : Rd w w.heap.size 1 u l.length (l.map (Value.int .u32))) (hv : Rd w w.heap.size 1 v m.length (m.map (Value.int .u32))) (hlen : l.length ≤ 4611686018427387904) :
    Calls Try.prog 40 #[u, v] w fun e w' => e = .returned (.int .i64 (cmpNs l m)) ∧ w = w' := by
  obtain ⟨A, c, rfl, hc⟩ := hu.form
  obtain ⟨A', c', rfl, hc'⟩ := hv.form
  have HU := Lib.hid hu
  have HV := Lib.hid hv
  clear hu hv
  have hC : Calls Try.prog 51 #[.slice A l.length c, .slice A' m.length c'] w fun e w' => e = .returned (.int .i64 (cmpNs l m)) ∧ w = w' := by
    go_enter Try.func51, Try.ntmps51
    go_wp2
    go_loop [5, 6, 7, 8, 11] (fun _ _ _ _ i => ∃ k : Nat, i = .int .i64 k ∧ k ≤ l.length ∧ Hid (cmpNs l m = cmpNs (l.drop k) (m.drop k))) (fun _ _ _ _ i => l.length - (intOf i).toNat)
    case atStart => exact ⟨0, rfl, by omega, rfl⟩
    case round =>
      obtain ⟨k, rfl, hk, HE⟩ := hrel
      by_cases hlt : k < l.length
      · have hI : (k : Int) < (l.length : Int) := by omega
        obtain ⟨x, hx⟩ : ∃ x, l[k]? = some x := ⟨_, List.getElem?_eq_getElem hlt⟩
        obtain ⟨b, off, d, hv, _, _, hcell⟩ := HU.out.posAt (by omega)
        injection hv with hv1 _ hv3
        subst hv1 hv3
        have c0 : w.cell? ⟨b, off + k, none⟩ = some (.int .u32 x) := by
          have := hcell k 0 (.int .u32 x) (by simp [hx])
          rwa [Nat.mul_one, Nat.add_zero] at this
        have HX := Lib.hid hx
        clear hcell hx
        by_cases hlm : k < m.length
        · have hJ : ¬ (m.length : Int) ≤ (k : Int) := by omega
          have hJ2 : (k : Int) < (m.length : Int) := by omega
          obtain ⟨y, hy⟩ : ∃ y, m[k]? = some y := ⟨_, List.getElem?_eq_getElem hlm⟩
          obtain ⟨b', off', d', hv', _, _, hcell'⟩ := HV.out.posAt (by omega)
          injection hv' with hv1' _ hv3'
          subst hv1' hv3'
          have c1 : w.cell? ⟨b', off' + k, none⟩ = some (.int .u32 y) := by
            have := hcell' k 0 (.int .u32 y) (by simp [hy])
            rwa [Nat.mul_one, Nat.add_zero] at this
          have HY := Lib.hid hy
          clear hcell' hy
          by_cases hxy : x = y
          · subst hxy
            have HE2 := Lib.hid (HE.out.trans (cmpNs_step HX.out HY.out))
            have hz := cmpI_eq x
            have hz2 : (cmpI x x != 0) = false := by rw [hz]; rfl
            go_wp2_with (go_at_call 26; refine (cmpAddr_any x x _).mono ?_; rintro e w' ⟨rfl, rfl⟩)
            exact ⟨⟨k + 1, by go_num, by omega, HE2⟩, by simp only [intOf]; omega⟩
          · have HE2 := Lib.hid (HE.out.trans (cmpNs_at HX.out HY.out hxy))
            have hz2 : (cmpI x y != 0) = true := by simpa using cmpI_nz hxy
            clear hxy
            go_wp2_with (go_at_call 26; refine (cmpAddr_any x y _).mono ?_; rintro e w' ⟨rfl, rfl⟩)
            go_ret
            exact ⟨ret_int HE2.out.symm, rfl⟩
        · have hJ : (m.length : Int) ≤ (k : Int) := by omega
          have HE2 := Lib.hid (HE.out.trans (cmpNs_long hlt (by omega)))
          go_wp2
          go_ret
          exact ⟨ret_int HE2.out.symm, rfl⟩
      · obtain rfl : k = l.length := by omega
        have hI : ¬ (l.length : Int) < (l.length : Int) := by omega
        by_cases hlm : l.length < m.length
        · have hJ : (l.length : Int) < (m.length : Int) := by omega
          have HE2 := Lib.hid (HE.out.trans (cmpNs_short hlm))
          go_wp2
          go_ret
          exact ⟨ret_int HE2.out.symm, rfl⟩
        · have hJ : ¬ (l.length : Int) < (m.length : Int) := by omega
          have HE2 := Lib.hid (HE.out.trans (cmpNs_done hlm))
          go_wp2
          go_ret
          exact ⟨ret_int HE2.out.symm, rfl⟩
  have HC := Lib.hid hC
  clear hC
  go_enter Try.func40, Try.ntmps40
  go_wp2_with fail
  refine HC.out.mono ?_
  rintro e w1 ⟨rfl, rfl⟩
  go_wp2
  go_ret
  exact ⟨rfl, rfl⟩
end Go.Proofs.Ytbanbommgcjmjaa

/-
  The order of routes: plain laws; no walk.
-/
namespace Go.Proofs.Ytbanbommgcjmjaa
open Go Go.RowKit Go.Sort

/-- A comparison by -, 0, +: it may be turned about, and what is not above goes on. -/
structure Ord3 {α : Type} (f : α → α → Int) : Prop where
  anti : ∀ x y, f x y = - f y x
  tr : ∀ x y z, f x y ≤ 0 → f y z ≤ 0 → f x z ≤ 0
theorem Ord3.self {α : Type} {f : α → α → Int} (h : Ord3 f) (x : α) : f x x = 0 := by have := h.anti x x; omega
theorem Ord3.zero {α : Type} {f : α → α → Int} (h : Ord3 f) {x y z : α} (h1 : f x y = 0) (h2 : f y z = 0) : f x z = 0 := by
  have a := h.tr x y z (by omega) (by omega)
  have h3 := h.anti x y
  have h4 := h.anti y z
  have b := h.tr z y x (by omega) (by omega)
  have h5 := h.anti x z
  omega
theorem Ord3.lt {α : Type} {f : α → α → Int} (h : Ord3 f) {x y z : α} (h1 : f x y < 0) (h2 : f y z ≤ 0) : f x z < 0 := by
  by_cases h3 : f x z < 0
  · exact h3
  · have h4 := h.anti x z
    have h5 := h.tr y z x h2 (by omega)
    have h6 := h.anti x y
    omega
theorem Ord3.lt' {α : Type} {f : α → α → Int} (h : Ord3 f) {x y z : α} (h1 : f x y ≤ 0) (h2 : f y z < 0) : f x z < 0 := by
  by_cases h3 : f x z < 0
  · exact h3
  · have h4 := h.anti x z
    have h5 := h.tr z x y (by omega) h1
    have h6 := h.anti y z
    omega
theorem Ord3.on {α β : Type} {f : α → α → Int} (h : Ord3 f) (g : β → α) : Ord3 (fun x y => f (g x) (g y)) := ⟨fun _ _ => h.anti _ _, fun _ _ _ => h.tr _ _ _⟩
theorem ord3_zero {α : Type} : Ord3 (fun (_ _ : α) => (0 : Int)) := ⟨fun _ _ => rfl, fun _ _ _ _ _ => Int.le_refl _⟩
theorem Ord3.cons {α : Type} {f g : α → α → Int} (hf : Ord3 f) (hg : Ord3 g) : Ord3 (fun x y => if f x y = 0 then g x y else f x y) := by
  refine ⟨fun x y => ?_, fun x y z h1 h2 => ?_⟩
  · have := hf.anti x y
    have := hg.anti x y
    show (if f x y = 0 then g x y else f x y) = - (if f y x = 0 then g y x else f y x)
    by_cases h : f x y = 0
    · rw [if_pos h, if_pos (by omega)]; omega
    · rw [if_neg h, if_neg (by omega)]; omega
  · replace h1 : (if f x y = 0 then g x y else f x y) ≤ 0 := h1
    replace h2 : (if f y z = 0 then g y z else f y z) ≤ 0 := h2
    show (if f x z = 0 then g x z else f x z) ≤ 0
    by_cases e1 : f x y = 0
    · rw [if_pos e1] at h1
      by_cases e2 : f y z = 0
      · rw [if_pos e2] at h2
        rw [if_pos (hf.zero e1 e2)]
        exact hg.tr _ _ _ h1 h2
      · rw [if_neg e2] at h2
        have := hf.lt' (x := x) (y := y) (z := z) (by omega) (by omega)
        rw [if_neg (by omega)]; omega
    · rw [if_neg e1] at h1
      have h3 : f y z ≤ 0 := by
        by_cases e2 : f y z = 0
        · omega
        · rw [if_neg e2] at h2; exact h2
      have := hf.lt (x := x) (y := y) (z := z) (by omega) h3
      rw [if_neg (by omega)]; omega
theorem ord3_I : Ord3 cmpI := by
  refine ⟨fun x y => ?_, fun x y z h1 h2 => ?_⟩
  · unfold cmpI; split <;> split <;> omega
  · unfold cmpI at *; split at h1 <;> split at h2 <;> (repeat' split) <;> first | omega | (split at h1 <;> omega) | (split at h2 <;> omega)
theorem cmpI_zero {x y : Int} : cmpI x y = 0 ↔ x = y := by
  constructor
  · intro h; unfold cmpI at h; split at h
    · omega
    · split at h <;> omega
  · rintro rfl; exact cmpI_eq x
theorem ord3_B : Ord3 cmpB := ⟨fun x y => by cases x <;> cases y <;> rfl, fun x y z => by cases x <;> cases y <;> cases z <;> simp [cmpB]⟩
theorem cmpB_zero {x y : Bool} : cmpB x y = 0 ↔ x = y := by cases x <;> cases y <;> simp [cmpB]
theorem bl_irrefl : ∀ x : List UInt8, Op.bytesLess x x = false
  | [] => rfl
  | a :: x => by
    have h : ¬ a < a := UInt8.lt_irrefl a
    simp [Op.bytesLess, bl_irrefl x, h]
theorem bl_trans : ∀ x y z : List UInt8, Op.bytesLess x y = true → Op.bytesLess y z = true → Op.bytesLess x z = true
  | [], [], _, h, _ => by simp [Op.bytesLess] at h
  | [], _ :: _, [], _, h => by simp [Op.bytesLess] at h
  | [], _ :: _, _ :: _, _, _ => rfl
  | _ :: _, [], _, h, _ => by simp [Op.bytesLess] at h
  | _ :: _, _ :: _, [], _, h => by simp [Op.bytesLess] at h
  | a :: x, b :: y, c :: z, h1, h2 => by
    simp only [Op.bytesLess, Bool.or_eq_true, decide_eq_true_eq, Bool.and_eq_true, beq_iff_eq] at *
    rcases h1 with h1 | ⟨rfl, h1⟩
    · rcases h2 with h2 | ⟨rfl, h2⟩
      · exact .inl (UInt8.lt_trans h1 h2)
      · exact .inl h1
    · rcases h2 with h2 | ⟨rfl, h2⟩
      · exact .inl h2
      · exact .inr ⟨rfl, bl_trans x y z h1 h2⟩
theorem bl_total : ∀ x y : List UInt8, Op.bytesLess x y = false → Op.bytesLess y x = false → x = y
  | [], [], _, _ => rfl
  | [], _ :: _, h, _ => by simp [Op.bytesLess] at h
  | _ :: _, [], _, h => by simp [Op.bytesLess] at h
  | a :: x, b :: y, h1, h2 => by
    simp only [Op.bytesLess, Bool.or_eq_false_iff, decide_eq_false_iff_not, Bool.and_eq_false_iff] at *
    have e : a = b := by
      have h3 := h1.1
      have h4 := h2.1
      rw [UInt8.lt_iff_toNat_lt] at h3 h4
      exact UInt8.toNat_inj.1 (by omega)
    subst e
    rw [bl_total x y (by simpa using h1.2) (by simpa using h2.2)]
theorem str_eq_of {s t : ByteArray} (h : s.toList = t.toList) : s = t := by
  rw [Go.ByteArray.toList_eq, Go.ByteArray.toList_eq] at h
  exact ByteArray.ext (Array.toList_inj.mp h)
theorem cmpSt_le {s t : ByteArray} : cmpSt s t ≤ 0 ↔ Op.bytesLess s.toList t.toList = true ∨ s = t := by
  unfold cmpSt
  by_cases h1 : Op.bytesLess s.toList t.toList = true
  · rw [if_pos h1]; simp [h1]
  · rw [if_neg h1]
    by_cases h2 : s = t
    · subst h2; simp
    · have : ¬ (s.toList == t.toList) = true := fun h => h2 (str_eq_of (by simpa using h))
      rw [if_neg this]; simp [h1, h2]
theorem ord3_S : Ord3 cmpSt := by
  refine ⟨fun x y => ?_, fun x y z h1 h2 => ?_⟩
  · unfold cmpSt
    cases h1 : Op.bytesLess x.toList y.toList with
    | true =>
      have h2 : Op.bytesLess y.toList x.toList = false := by
        cases h : Op.bytesLess y.toList x.toList with
        | false => rfl
        | true => have := bl_trans _ _ _ h1 h; rw [bl_irrefl] at this; cases this
      have h3 : (y.toList == x.toList) = false := by
        cases h : (y.toList == x.toList) with
        | false => rfl
        | true =>
          have e : y.toList = x.toList := by simpa using h
          rw [e, bl_irrefl] at h1; cases h1
      simp [h2, h3]
    | false =>
      cases h2 : Op.bytesLess y.toList x.toList with
      | true =>
        have h3 : (x.toList == y.toList) = false := by
          cases h : (x.toList == y.toList) with
          | false => rfl
          | true =>
            have e : x.toList = y.toList := by simpa using h
            rw [e, bl_irrefl] at h2; cases h2
        simp [h3]
      | false =>
        have e := bl_total _ _ h1 h2
        simp [e]
  · rw [cmpSt_le] at *
    rcases h1 with h1 | rfl
    · rcases h2 with h2 | rfl
      · exact .inl (bl_trans _ _ _ h1 h2)
      · exact .inl h1
    · exact h2
theorem firstNZ_cons (x : Int) (l : List Int) : firstNZ (x :: l) = if x = 0 then firstNZ l else x := rfl
theorem ord3_R : Ord3 cmpR := by
  have h0 := ord3_zero (α := RouteV)
  have hp : Ord3 (fun (r s : RouteV) => firstNZ [cmpI r.a s.a, cmpI r.m s.m]) := (ord3_I.on RouteV.a).cons ((ord3_I.on RouteV.m).cons h0)
  exact hp.cons ((ord3_I.on RouteV.fr).cons ((ord3_I.on RouteV.di).cons ((ord3_I.on RouteV.me).cons ((ord3_I.on RouteV.ta).cons ((ord3_I.on RouteV.ho).cons ((ord3_S.on RouteV.nm).cons ((ord3_B.on RouteV.dc).cons h0)))))))
theorem nz_cons {x : Int} {l : List Int} : firstNZ (x :: l) = 0 ↔ x = 0 ∧ firstNZ l = 0 := by
  rw [firstNZ_cons]
  by_cases h : x = 0
  · rw [if_pos h]; simp [h]
  · rw [if_neg h]; simp [h]
/-- In order, each once. -/
def Up (L : List RouteV) : Prop := L.Pairwise (fun x y => cmpR x y < 0)
theorem up_unique : ∀ {L M : List RouteV}, Up L → Up M → (∀ x, x ∈ L ↔ x ∈ M) → L = M
  | [], [], _, _, _ => rfl
  | [], y :: M, _, _, h => by have := (h y).2 (List.mem_cons_self ..); simp at this
  | x :: L, [], _, _, h => by have := (h x).1 (List.mem_cons_self ..); simp at this
  | x :: L, y :: M, hL, hM, h => by
    unfold Up at *
    obtain ⟨hx, hL'⟩ := List.pairwise_cons.1 hL
    obtain ⟨hy, hM'⟩ := List.pairwise_cons.1 hM
    have e : x = y := by
      rcases List.mem_cons.1 ((h x).1 (List.mem_cons_self ..)) with e | e
      · exact e
      · rcases List.mem_cons.1 ((h y).2 (List.mem_cons_self ..)) with e2 | e2
        · exact e2.symm
        · have h1 := hy x e
          have h2 := hx y e2
          have := ord3_R.anti x y
          omega
    subst e
    rw [up_unique hL' hM' (fun z => ?_)]
    have hz := h z
    constructor
    · intro hm
      rcases List.mem_cons.1 (hz.1 (List.mem_cons_of_mem _ hm)) with e | e
      · subst e
        have h1 := hx z hm
        have := ord3_R.self z
        omega
      · exact e
    · intro hm
      rcases List.mem_cons.1 (hz.2 (List.mem_cons_of_mem _ hm)) with e | e
      · subst e
        have h1 := hy z hm
        have := ord3_R.self z
        omega
      · exact e
/-- S is l in order, each once. -/
def Sorted (l S : List RouteV) : Prop := Up S ∧ ∀ x, x ∈ S ↔ x ∈ l
theorem Sorted.eq {l S T : List RouteV} (h : Sorted l S) (k : Sorted l T) : S = T := up_unique h.1 k.1 (fun x => (h.2 x).trans (k.2 x).symm)
end Go.Proofs.Ytbanbommgcjmjaa

/-
  A region that draws its order, walked in the order of the text: plain operations, each of which may be taken first, and barriers, each of which comes up alone: no program in sight.
-/
namespace Go.Proofs.Ytbanbommgcjmjaa
open Go Go.RowKit Go.Sort

section
variable {P : Program} {ops : Array Oper} {md : Region.Mode} {S : World → Prop} {Q : Exit → Act → World → Prop}
/-- An operation that hands back a value, or stops. -/
def plainB : Op → Bool
  | .nilCheck _ => true
  | .call c => (match c.callee with | .builtin .min => true | _ => false)
  | .move _ | .assign _ | .pick _ _ _ | .load _ _ | .fieldAddr _ _ _ | .indexAddr _ _ _ | .binOp _ _ _ _ _ | .unOp _ _ _ | .convert _ _ _ | .build _ _ | .extract _ _ => true
  | _ => false
theorem then_value {α : Type} {r : Result α} {f : α → Value} {n : Go.Next} {w' : World} (h : (r.andThen fun x v => .ok (Go.Next.value (f x)) v) = .ok n w') : ∃ v, n = .value v := by
  cases r with
  | ok x v => simp only [Result.andThen_ok] at h; injection h with h _; exact ⟨_, h.symm⟩
  | halt x v => cases h
theorem nil_value {ρ : Operand → Value} {x : Operand} {w w' : World} {n : Go.Next} {d : Option Tmp} {ty : TypeId} {po : String} {af : Array Edge} {gu : Option (Nat × Bool)} (hr : (execOp ρ ⟨d, .nilCheck x, ty, po, af, gu⟩).run P w = .ok n w') : ∃ v, n = .value v := by
  simp only [execOp] at hr
  have bnd : ∀ {α β : Type} (m : Sem α) (f : α → Sem β) (w0 w1 : World) (y : β), (m >>= f).run P w0 = .ok y w1 → ∃ x w2, (f x).run P w2 = .ok y w1 := fun m f w0 w1 y h => by
    rw [Sem.run_bind] at h
    cases hm : m.run P w0 with
    | ok x w2 => rw [hm] at h; exact ⟨x, w2, h⟩
    | halt a b => rw [hm] at h; cases h
  have pan : ((runtimePanic .nilDeref : Sem Go.Next).run P w = .ok n w') → ∃ v, n = .value v := fun he => by
    unfold runtimePanic at he
    obtain ⟨x, w2, h2⟩ := bnd _ _ _ _ _ he
    have h3 : (goPanic (α := Go.Next) (Value.iface x.rt.errorString (strVal "invalid memory address or nil pointer dereference"))).run P w2 = .ok n w' := h2
    cases h3
  split at hr
  · exact pan hr
  · exact pan hr
  · exact pan hr
  · split at hr
    · exact pan hr
    · obtain ⟨x1, w1, h1⟩ := bnd _ _ _ _ _ hr
      obtain ⟨x2, w2, h2⟩ := bnd _ _ _ _ _ h1
      split at h2
      · obtain ⟨x3, w3, h3⟩ := bnd _ _ _ _ _ h2
        simp only [Sem.run_pure] at h3
        injection h3 with h3 _
        exact ⟨_, h3.symm⟩
      · simp only [Sem.run_pure] at h2
        injection h2 with h2 _
        exact ⟨_, h2.symm⟩
    · simp only [Sem.run_pure] at hr
      injection hr with hr _
      exact ⟨_, hr.symm⟩
  · simp only [Sem.run_pure] at hr
    injection hr with hr _
    exact ⟨_, hr.symm⟩
theorem min_value {ρ : Operand → Value} {c : Call} (hc : c.callee = .builtin .min) {w w' : World} {n : Go.Next} {d : Option Tmp} {ty : TypeId} {po : String} {af : Array Edge} {gu : Option (Nat × Bool)} (hr : (execOp ρ ⟨d, .call c, ty, po, af, gu⟩).run P w = .ok n w') : ∃ v, n = .value v := by
  simp only [execOp, resolve, hc, invoke, builtin, Sem.run_bind, Sem.run_pure, Result.andThen_ok] at hr
  exact then_value hr
theorem plain_value {o : Oper} (h : plainB o.op = true) {ρ : Operand → Value} {w w' : World} {n : Go.Next} (hr : (execOp ρ o).run P w = .ok n w') : ∃ v, n = .value v := by
  obtain ⟨dst, op, type, pos, after, guard⟩ := o
  cases op <;> simp only [plainB] at h
  all_goals first
    | (cases h; done)
    | (exact nil_value hr)
    | (split at h
       · rename_i hc
         exact min_value hc hr
       · cases h)
    | (simp only [execOp, Sem.run_bind, Sem.run_pure] at hr; first | exact then_value (f := fun x => x) hr | exact then_value hr | (injection hr with hr _; exact ⟨_, hr.symm⟩))
theorem yields_quiet {o : Oper} {a : Act} {K : Act → Prop} (h : plainB o.op = true) (hq : o.quiet P a S K) : ∃ v, (∀ w, S w → (execOp a.eval o).run P w = .ok (.value v) w) ∧ K (a.put o.dst v) := by
  obtain ⟨v, h1, h2⟩ := hq
  refine ⟨v, fun w hw => ?_, h2⟩
  have h3 := h1 w hw
  unfold Oper.quietAt at h3
  generalize hr : (execOp a.eval o).run P w = r at h3
  cases r with
  | ok n w' =>
    obtain ⟨u, rfl⟩ := plain_value h hr
    simp only [Oper.quietUpon] at h3
    rw [h3.1, h3.2]
  | halt x w' => simp only [Oper.quietUpon] at h3
/-- The region's edges bear this walk: a plain operation may be taken first, a barrier comes up alone. -/
def mixB (md : Region.Mode) (ops : Array Oper) : List (Nat × Bool) → Array Bool → Bool
  | [], listed => (Region.ready md ops listed).isEmpty
  | (k, false) :: m, listed => (Region.ready md ops listed).contains k && Region.free md ops listed k && (match ops[k]? with | some o => plainB o.op | none => false) && mixB md ops m (listed.setIfInBounds k true)
  | (k, true) :: m, listed => decide (Region.ready md ops listed = [k]) && mixB md ops m (listed.setIfInBounds k true)
/-- The walk; behind a barrier the class of worlds may be made narrower. -/
def mixW (P : Program) (ops : Array Oper) (Q : Exit → Act → World → Prop) : List (Nat × Bool) → (World → Prop) → Act → World → Prop
  | [], _, a, w => Q .normal a w
  | (k, false) :: m, S, a, w => ∃ o, ops[k]? = some o ∧ if Region.wanted o (yielded ops a.tmps) then o.quiet P a S (fun a' => mixW P ops Q m S a' w) else mixW P ops Q m S (a.put o.dst undef) w
  | (k, true) :: m, S, a, w => ∃ o, ops[k]? = some o ∧ if Region.wanted o (yielded ops a.tmps) then o.wp P a w (fun a' w' => ∃ S' : World → Prop, S' w' ∧ (∀ v, S' v → S v) ∧ mixW P ops Q m S' a' w') Q else mixW P ops Q m S (a.put o.dst undef) w
theorem wpAnyH_class {S S' : World → Prop} (h : ∀ v, S' v → S v) : ∀ (fuel : Nat) (listed : Array Bool) (a : Act) (w : World), wpAnyH P md ops Q S' fuel listed a w → wpAnyH P md ops Q S fuel listed a w
  | 0, _, _, _, hh => hh
  | f + 1, _, _, _, hh => ⟨hh.1, fun i hi => wpOp_mono (fun a' w' hk => ⟨h _ hk.1, wpAnyH_class h f _ a' w' hk.2⟩) (hh.2 i hi)⟩
theorem mix_sound (hs : Region.noSelect ops = true) (hQ : ∀ d v c a w, Q (.panic c) (Act.put a d v) w → Q (.panic c) a w) :
    ∀ (m : List (Nat × Bool)) (S : World → Prop) (listed : Array Bool) (a : Act) (w : World), mixB md ops m listed = true → S w → mixW P ops Q m S a w → wpAnyH P md ops Q S m.length listed a w := by
  intro m
  induction m with
  | nil =>
    intro S listed a w hB _ h
    exact ⟨by simpa [mixB] using hB, h⟩
  | cons b m ih =>
    intro S listed a w hB hS h
    obtain ⟨k, b⟩ := b
    cases b with
    | false =>
      simp only [mixW] at h
      obtain ⟨o, h0, h⟩ := h
      simp only [mixB, Bool.and_eq_true, h0] at hB
      obtain ⟨⟨⟨hr, hf⟩, hp⟩, hB'⟩ := hB
      by_cases hw : Region.wanted o (yielded ops a.tmps) = true
      · rw [if_pos hw] at h
        obtain ⟨v, hv, hK⟩ := yields_quiet hp h
        exact wpAnyH_take h0 hs hf hr (fun c a w => hQ o.dst v c a w) (.inl ⟨hw, hv⟩) hS (ih S _ _ w hB' hS hK)
      · rw [if_neg hw] at h
        exact wpAnyH_take h0 hs hf hr (fun c a w => hQ o.dst undef c a w) (.inr ⟨by simpa using hw, rfl⟩) hS (ih S _ _ w hB' hS h)
    | true =>
      simp only [mixW] at h
      obtain ⟨o, h0, h⟩ := h
      simp only [mixB, Bool.and_eq_true, decide_eq_true_eq] at hB
      obtain ⟨hr, hB'⟩ := hB
      refine wpAnyH_all hr (by simp) fun i hi => ?_
      obtain rfl : i = k := by simpa using hi
      unfold wpOp
      simp only [h0]
      by_cases hw : Region.wanted o (yielded ops a.tmps) = true
      · rw [if_pos hw] at h ⊢
        refine .inl (Oper.wp_mono (fun a' w' hh => ?_) h)
        obtain ⟨S', h1, h2, h3⟩ := hh
        exact ⟨h2 _ h1, wpAnyH_class h2 _ _ _ _ (ih S' _ a' w' hB' h1 h3)⟩
      · rw [if_neg hw] at h ⊢
        exact ⟨hS, ih S _ _ w hB' hS h⟩
/-- Some plain operations in a row, as a quiet walk. -/
theorem mix_seg {m : List (Nat × Bool)} : ∀ (ks : List Nat) (seg : List Oper) (a : Act) (w : World), ks.map (fun k => ops[k]?) = seg.map some → wpQuiet P ops S (fun a' => mixW P ops Q m S a' w) seg a → mixW P ops Q (ks.map (fun k => (k, false)) ++ m) S a w
  | [], [], _, _, _, h => h
  | [], _ :: _, _, _, hk, _ => by cases hk
  | _ :: _, [], _, _, hk, _ => by cases hk
  | k :: ks, o :: seg, a, w, hk, h => by
    simp only [List.map_cons] at hk
    injection hk with hk1 hk2
    have h' : (if Region.wanted o (yielded ops a.tmps) then o.quiet P a S (wpQuiet P ops S (fun a' => mixW P ops Q m S a' w) seg) else wpQuiet P ops S (fun a' => mixW P ops Q m S a' w) seg (a.put o.dst undef)) := h
    show ∃ o, ops[k]? = some o ∧ (if Region.wanted o (yielded ops a.tmps) then o.quiet P a S (fun a' => mixW P ops Q (ks.map (fun k => (k, false)) ++ m) S a' w) else mixW P ops Q (ks.map (fun k => (k, false)) ++ m) S (a.put o.dst undef) w)
    refine ⟨o, hk1, ?_⟩
    split
    · rename_i hw
      rw [if_pos hw] at h'
      exact Oper.quiet_mono (fun a' hh => mix_seg ks seg a' w hk2 hh) h'
    · rename_i hw
      rw [if_neg hw] at h'
      exact mix_seg ks seg _ w hk2 h'
def mixOk (l : List Oper) (m : List (Nat × Bool)) : Bool := Region.noSelect l.toArray && decide (m.length = l.length) && mixB .any l.toArray m (Array.replicate l.length false)
/-- The worlds that are W, drawn and grown. -/
@[reducible] def ClassOf (W : World) : World → Prop := fun w' => ∃ p : Regrown, w' = grow (redrawn W p.d) p.os
theorem wp_region_mix {id : Nat} {a : Act} {w : World} {l : List Oper} (m : List (Nat × Bool)) (hm : P.follows .mixedOrders = true) (hB : mixOk l m = true)
    (h : mixW P l.toArray (NoPanic Q) m (fun w' => ∃ p : Regrown, w' = grow (redrawn w p.d) p.os) a { w with drawn := w.drawn + 1 }) : (Code.region id l.toArray true).wp P Q a w := by
  simp only [mixOk, Bool.and_eq_true, decide_eq_true_eq] at hB
  obtain ⟨⟨hs, hlen⟩, hmix⟩ := hB
  refine wp_region_noPanic (wp_region_held (S := fun w' => ∃ p : Regrown, w' = grow (redrawn w p.d) p.os) hm ?_)
  have H := mix_sound (md := .any) hs (fun d v c a w hh => hh) m _ (Array.replicate l.length false) a { w with drawn := w.drawn + 1 } hmix ⟨⟨w.drawn + 1, #[]⟩, by rw [grow_empty]; rfl⟩ h
  rw [hlen] at H
  simpa using H
theorem mix_take {m m' : List (Nat × Bool)} {a : Act} {w : World} (ks : List Nat) (seg : List Oper) (hm : m = ks.map (fun k => (k, false)) ++ m') (hs : ks.map (fun k => ops[k]?) = seg.map some) (h : wpQuiet P ops S (fun a' => mixW P ops Q m' S a' w) seg a) : mixW P ops Q m S a w := by
  rw [hm]
  exact mix_seg ks seg a w hs h
/-- A barrier; the class as it is. -/
theorem mix_bar {m : List (Nat × Bool)} {k : Nat} {o : Oper} {a : Act} {w : World} (ho : ops[k]? = some o) (hw : Region.wanted o (yielded ops a.tmps) = true) (h : o.wp P a w (fun a' w' => S w' ∧ mixW P ops Q m S a' w') Q) : mixW P ops Q ((k, true) :: m) S a w := by
  simp only [mixW]
  refine ⟨o, ho, ?_⟩
  rw [if_pos hw]
  exact Oper.wp_mono (fun a' w' hh => ⟨S, hh.1, fun _ h => h, hh.2⟩) h
theorem mix_end {a : Act} {w : World} (h : Q .normal a w) : mixW P ops (NoPanic Q) [] S a w := h
theorem below_drawn (w : World) : Below w.heap.size w { w with drawn := w.drawn + 1 } := ⟨rfl, rfl, rfl, Nat.le_refl _, fun _ _ => rfl⟩
end
end Go.Proofs.Ytbanbommgcjmjaa

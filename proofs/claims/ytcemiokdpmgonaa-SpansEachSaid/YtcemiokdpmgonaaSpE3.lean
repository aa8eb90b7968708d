/-
  spans.Each and the iterator that it hands back.
-/
import Derived.RangeFuncNested
import Derived.RangeFuncBound
import Derived.RangeFuncCalls
import Derived.RangeFuncLeaves
import Derived.Shelf.Abstract
import Derived.Shelf.RegionOpen
import Derived.WalkKit
import Derived.OwnWalkIn
import Derived.TacticsInMore
import Derived.LoopNIn
import Derived.LoopIn
import Derived.Test.YtcemiokdpmgonaaSpE2
namespace Go.Proofs.Ytcemiokdpmgonaa
open Go Go.RowKit Go.Sort
attribute [local go_sem] Oper.semAt_some

/-- What a round keeps: all below n₀, and the cells from m on. -/
def KpS (n₀ m : Nat) (A B : World) : Prop := Below n₀ A B ∧ ∀ i o, m ≤ i → A.heap[i]? = some o → o.isCells = true → B.heap[i]? = some o
theorem KpS.refl (n₀ m : Nat) (A : World) : KpS n₀ m A A := ⟨Below.refl _ _, fun _ _ _ h _ => h⟩
theorem KpS.trans {n₀ m : Nat} {A B C : World} (h : KpS n₀ m A B) (k : KpS n₀ m B C) : KpS n₀ m A C := ⟨h.1.trans k.1, fun i o hi ho hc => k.2 i o hi (h.2 i o hi ho hc) hc⟩
theorem KpS.alloc {n₀ m : Nat} {A B : World} (h : KpS n₀ m A B) (hn : n₀ ≤ B.heap.size) (o : Obj) : KpS n₀ m A (B.alloc o) :=
  ⟨h.1.alloc hn o, fun i x hi ho hc => by
    have := h.2 i x hi ho hc
    exact (Below.heap_alloc B o i (lt_of_block this)).trans this⟩
theorem KpS.putObj {n₀ m : Nat} {w : World} (hn : n₀ ≤ w.heap.size) (W : World) (l : Nat) (o o' : Obj) (hl : w.heap.size ≤ l) (h : W.heap[l]? = some o) (h1 : o.isCells = false) (h2 : o.isWalk = false) : KpS n₀ m W (W.putObj l o') := by
  refine ⟨belowK_b hn W l o o' hl h h1 h2, fun i x hi ho hc => ?_⟩
  have hne : i ≠ l := by
    rintro rfl
    rw [h] at ho
    injection ho with ho
    rw [ho, hc] at h1
    cases h1
  exact (World.putObj_heap_other hne).trans ho
theorem KpS.setCell {n₀ m : Nat} (A : World) {p : Addr} (h1 : n₀ ≤ p.block) (h2 : p.block < m) (v : Value) : KpS n₀ m A (A.setCell p v) :=
  ⟨(Below.refl n₀ A).setCell h1 v, fun i o hi ho _ => (Below.heap_setCell A p v i (by omega)).trans ho⟩
theorem abides_alloc {α : Type} {B : Nat} {J : α → World → Prop} (hJ : AbidesFrom B J) {s : α} {W : World} (o : Obj) (h : J s W) : J s (W.alloc o) :=
  hJ s W _ none h (World.grownBy_alloc W o none) (fun r e => by cases e)
set_option maxRecDepth 100000 in
set_option maxHeartbeats 4000000 in
theorem spEach1_in (F : Fence) (n : Nat) (hf : F.fn 11) (hro : F.round = none) (hn : 1 ≤ n) (l Bs n₀ m b off cap : Nat) (L : List SpanV) (hlen : L.length ≤ 1000000000000) (hb : b < n₀) (J Jx : List N32 → World → Prop)
    (W : World) (hJ : AbidesFrom W.heap.size J) (hn0 : n₀ ≤ W.heap.size) (hm : m ≤ W.heap.size)
    (hY : ∀ pre x W1, J pre W1 → pre.length < (allN L).length → YieldAt F (n - 1) Try.prog l #[.int .u32 x.1] W1 fun e W' =>
      (e = .returned (.bool true) ∧ J (pre ++ [x]) W' ∧ KpS n₀ m W1 W') ∨ (e = .returned (.bool false) ∧ Jx (pre ++ [x]) W'))
    (A : Option Addr) (hA : 0 < L.length → A = some ⟨b, off, none⟩) (hBs : W.cell? ⟨Bs, 0, none⟩ = some (.slice A L.length cap)) (hc : ∀ k s, L[k]? = some s → W.cell? ⟨b, off + k * 2, none⟩ = some (.int .u32 s.lo) ∧ W.cell? ⟨b, off + k * 2 + 1, none⟩ = some (.int .u32 s.hi)) (h0 : J [] W) :
    CallsIn F n Try.prog 11 #[.func (.yield l) #[] #[], .pointer (some ⟨Bs, 0, none⟩)] W fun e W' => (∃ v, e = .returned v) ∧
      ((∃ ys, ys = allN L ∧ J ys W') ∨ (∃ pre, pre <+: allN L ∧ Jx pre W')) := by
  refine callsIn_of_wp Try.func11 rfl hf ?_ hro
  simp only [Try.ntmps11, List.size_toArray, List.length_cons, List.length_nil, Nat.reduceAdd, Nat.reduceSub, Array.replicate_succ, Array.replicate_zero, List.push_toArray, List.append_toArray, List.nil_append, List.cons_append]
  gi_wp2
  gi_loopw [8] (fun i wr => ∃ k : Nat, k ≤ L.length ∧ i = .int .i64 k ∧ J (allN (L.take k)) wr ∧ KpS n₀ m W wr) (fun i _ => L.length - (intOf i).toNat)
  case atStart => exact ⟨0, Nat.zero_le _, rfl, h0, KpS.refl _ _ _⟩
  case round =>
    obtain ⟨k, hk, rfl, hJs, hnx⟩ := hrel
    by_cases hlt : k < L.length
    · obtain ⟨s, hs⟩ : ∃ s, L[k]? = some s := ⟨_, List.getElem?_eq_getElem hlt⟩
      obtain rfl := hA (by omega)
      have c0 := (hnx.1.cell (p := ⟨b, off + k * 2, none⟩) hb).trans (hc k s hs).1
      have c1 := (hnx.1.cell (p := ⟨b, off + k * 2 + 1, none⟩) hb).trans (hc k s hs).2
      have hI : (k : Int) < (L.length : Int) := by omega
      have hsz : W.heap.size ≤ wr.heap.size := hnx.1.size
      have hbox := heap_alloc_new wr (.cells #[.int .u32 s.lo, .int .u32 s.hi] 30)
      have hK0 := hnx.alloc (Nat.le_trans hn0 hsz) (.cells #[.int .u32 s.lo, .int .u32 s.hi] 30)
      have hJ0 := abides_alloc hJ (.cells #[.int .u32 s.lo, .int .u32 s.hi] 30) hJs
      have hgm : m ≤ wr.heap.size := Nat.le_trans hm hsz
      obtain ⟨d0, d1, _, _⟩ := two_cells hbox
      have hlo := s.hlo
      have hhi := s.hhi
      have e1 := Lib.hid (allN_take hs)
      gi_wp2
      gi_loopw [5] (fun x wz => ∃ j : Nat, x = .int .u64 (s.lo + j) ∧ j ≤ s.cnt ∧ J (allN (L.take k) ++ numsTo s j) wz ∧ wz.heap[wr.heap.size]? = some (.cells #[.int .u32 s.lo, .int .u32 s.hi] 30 (0, 0)) ∧ KpS n₀ m W wz) (fun x _ => (s.hi + 1 - intOf x).toNat)
      case atStart => exact ⟨0, by simp, Nat.zero_le _, by rw [numsTo_zero, List.append_nil]; exact hJ0, hbox, hK0⟩
      case round =>
        obtain ⟨j, rfl, hj, hJj, hbx, hKj⟩ := hrel
        obtain ⟨f0, f1, _, _⟩ := two_cells hbx
        have hcn : s.cnt = (s.hi + 1 - s.lo).toNat := rfl
        by_cases hin : s.lo + j ≤ s.hi
        · have hpre := allN_pre hs (show j + 1 ≤ s.cnt by omega)
          have hx0 : 0 ≤ s.lo + j := by omega
          have hx1 : s.lo + j < 4294967296 := by omega
          have hlen2 : (allN (L.take k) ++ numsTo s j).length < (allN L).length := by
            have := hpre.length_le
            rw [numsTo_succ, ← List.append_assoc, List.length_append, List.length_cons, List.length_nil] at this
            omega
          obtain ⟨fn, tmps, assign, body, hy, hR⟩ := hY _ (mkN (s.lo + j)) _ hJj hlen2
          rw [mkN_val hx0 hx1] at hy
          have HP := Lib.hid hpre
          clear hpre
          gi_wp2
          refine hR.mono ?_
          rintro e W3 (⟨rfl, hJ3, hk3⟩ | ⟨rfl, hJx3⟩)
          · have hb3 := hk3.2 _ _ hgm hbx rfl
            gi_wp2
            go_roundw
            case rel => exact ⟨j + 1, by simp; omega, by omega, by rw [numsTo_succ, ← List.append_assoc]; exact hJ3, hb3, hKj.trans hk3⟩
            case measure => simp [intOf]; omega
          · gi_wp2
            refine bodyPost_ret (results_none rfl _ _ _) rfl ?_
            exact ⟨⟨_, rfl⟩, .inr ⟨_, HP.out, by rw [numsTo_succ, ← List.append_assoc]; exact hJx3⟩⟩
        · have hje : j = s.cnt := by omega
          have hJk := hJj
          rw [hje, show numsTo s s.cnt = s.nums from rfl, ← e1.out] at hJk
          clear hJj
          gi_wp2
          go_roundw
          case rel => exact ⟨k + 1, by omega, by simp, hJk, hKj⟩
          case measure => simp [intOf]; omega
    · obtain rfl : k = L.length := by omega
      have hI : ¬ (L.length : Int) < (L.length : Int) := by omega
      gi_wp2
      go_end0
      rw [List.take_length] at hJs
      first | exact ⟨⟨_, rfl⟩, .inl hJs⟩ | exact ⟨⟨_, rfl⟩, .inl ⟨_, rfl, hJs⟩⟩
/-- What Each hands back, asked over: the set's numbers, one after the other. -/
theorem spEach_stops (F : Fence) (n : Nat) (hf : F.fn 11) (hro : F.round = none) (hn : 1 ≤ n) (Bs n₀ : Nat) (L : List SpanV) (hlen : L.length ≤ 1000000000000) (A : Option Addr) (cap : Nat) (w : World) (hB : Bs < n₀) (hn0 : n₀ ≤ w.heap.size)
    (hBs : w.cell? ⟨Bs, 0, none⟩ = some (.slice A L.length cap)) (hr : Rd w n₀ 2 (.slice A L.length cap) L.length (scells L)) :
    SeqStopsK F n Try.prog 11 #[.pointer (some ⟨Bs, 0, none⟩)] (fun x : N32 => #[Value.int .u32 x.1]) (KpS n₀ w.heap.size) (fun ys => ys = allN L) (fun pre => pre <+: allN L) (allN L).length w := fun l J Jx W hW hJ _ hY h0 => by
  have hBW := (hW.cell (p := ⟨Bs, 0, none⟩) (Nat.lt_of_lt_of_le hB hn0)).trans hBs
  obtain ⟨A', c', hv, hc', hl, hq⟩ := hr
  injection hv with hv1 _ hv3
  subst hv1 hv3
  by_cases h : 0 < L.length
  · obtain ⟨b, off, hA, hb, hcell⟩ := hq h
    refine spEach1_in F n hf hro hn l Bs n₀ w.heap.size b off cap L hlen hb J Jx W hJ (Nat.le_trans hn0 hW.size) hW.size hY A (fun _ => hA) hBW (fun k s hs => ?_) h0
    have hbw : b < w.heap.size := Nat.lt_of_lt_of_le hb hn0
    exact ⟨(hW.cell (p := ⟨b, off + k * 2, none⟩) hbw).trans (hcell (k * 2) _ (scell (i := 0) hs rfl)), (hW.cell (p := ⟨b, off + k * 2 + 1, none⟩) hbw).trans (by have := hcell (k * 2 + 1) _ (scell (i := 1) hs rfl); rwa [← Nat.add_assoc] at this)⟩
  · have hL : L = [] := List.eq_nil_of_length_eq_zero (by omega)
    refine spEach1_in F n hf hro hn l Bs n₀ w.heap.size 0 0 cap L hlen (by omega) J Jx W hJ (Nat.le_trans hn0 hW.size) hW.size hY A (fun h' => absurd h' h) hBW (fun k s hs => ?_) h0
    rw [hL] at hs
    simp at hs
set_option maxHeartbeats 1000000 in
theorem spEach_any (L : List SpanV) (vl : Value) (w : World) (hl : Rd w w.heap.size 2 vl L.length (scells L)) (hlen : L.length ≤ 1099511627776) :
    Calls Try.prog 6 #[vl] w fun e w' => ∃ (g : Nat) (A : Option Addr) (c : Nat) (wf : World), e = .returned (.func (.func 11) #[] #[.pointer (some ⟨g, 0, none⟩)]) ∧ wf.ownsRow w.heap.size 30 2 (.slice A (formOf L).length c) (formOf L).length (scells (formOf L)) ∧ Below w.heap.size w wf ∧ g = wf.heap.size ∧ w' = wf.alloc (.cells #[.slice A (formOf L).length c] 22) := by
  have HF := Lib.hid (form_any L vl w hl hlen)
  obtain ⟨A, c, rfl, _⟩ := hl.form
  clear hl
  go_enter Try.func6, Try.ntmps6
  go_wp2_with fail
  refine HF.out.mono ?_
  rintro e wf ⟨v, rfl, hown, hb⟩
  obtain ⟨A2, c2, rfl, _⟩ := owns_form hown
  go_wp2
  go_ret
  exact ⟨_, A2, c2, wf, rfl, hown, hb, rfl, rfl⟩
end Go.Proofs.Ytcemiokdpmgonaa

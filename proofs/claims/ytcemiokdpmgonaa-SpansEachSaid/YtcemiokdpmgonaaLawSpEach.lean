/-
  The walk of the law SpansEach.
-/
import Derived.Test.YtcemiokdpmgonaaSpE5
import Derived.Test.YtcemiokdpmgonaaSp14
namespace Go.Proofs.Ytcemiokdpmgonaa
open Go Go.RowKit Go.Sort
attribute [local go_sem] Oper.semAt_some

theorem frozen_rowE {w : World} {g : Nat} {cs : Array Value} {t : TypeId} (h : w.heap[g]? = some (.cells cs t (0, 0))) (k : Nat) : w.frozen? ⟨g, k, none⟩ = false := by
  simp [World.frozen?, h]
/-- What is kept of the law's variables: leave, the result, Each's list. -/
structure EK (w : World) (leave : Int) (B gF : Nat) (F : List SpanV) (AF : Option Addr) (cF : Nat) (W : World) : Prop where
  l : W.heap[w.heap.size]? = some (.cells #[.int .i64 leave] 3 (0, 0))
  r : W.heap[w.heap.size + 1]? = some (.cells #[.bool false] 4 (0, 0))
  f : W.heap[gF]? = some (.cells #[.slice AF F.length cF] 22 (0, 0))
  o : W.ownsRow B 30 2 (.slice AF F.length cF) F.length (scells F)
  n : Below w.heap.size w W
theorem EK.below {w : World} {leave : Int} {B gF : Nat} {F : List SpanV} {AF : Option Addr} {cF : Nat} {W W' : World} (H : EK w leave B gF F AF cF W) (hb : Below W.heap.size W W') : EK w leave B gF F AF cF W' :=
  ⟨blk_below hb H.l, blk_below hb H.r, blk_below hb H.f, owns_kept_none H.o (only_of_below hb none), below_call H.n hb⟩
theorem EK.set {w : World} {leave : Int} {B gF : Nat} {F : List SpanV} {AF : Option Addr} {cF : Nat} {W : World} (H : EK w leave B gF F AF cF W) {gi : Nat} (h1 : w.heap.size + 1 < gi) (h2 : gi < B) (h3 : gi < gF) (i : Nat) (u : Value) : EK w leave B gF F AF cF (W.setCell ⟨gi, i, none⟩ u) :=
  ⟨(Below.heap_setCell W ⟨gi, i, none⟩ u _ (show w.heap.size ≠ gi by omega)).trans H.l, (Below.heap_setCell W ⟨gi, i, none⟩ u _ (show w.heap.size + 1 ≠ gi by omega)).trans H.r, (Below.heap_setCell W ⟨gi, i, none⟩ u _ (show gF ≠ gi by omega)).trans H.f, ownsRow_setCell_below H.o h2 u, H.n.setCell (p := ⟨gi, i, none⟩) (by show w.heap.size ≤ gi; omega) u⟩
theorem eqNilF (g : Nat) (lb : Array Value) (W : World) : (binOp .eql 26 (.func (.func g) #[] lb) Value.nilFunc).run Try.prog W = .ok (.bool false) W := by
  have e : Op.maxDepth = 9999 + 1 := rfl
  simp only [binOp, go_sem, Op.equal, e]
  unfold Op.equalIn
  simp [go_sem]
theorem blk_set4 {W : World} {g h i : Nat} {u : Value} {o : Obj} (hk : W.heap[h]? = some o) (hne : h ≠ g) : (W.setCell ⟨g, i, none⟩ u).heap[h]? = some o := (Below.heap_setCell W ⟨g, i, none⟩ u h hne).trans hk
theorem largeB_noE {L M : List SpanV} (h : largeB L M = false) : L.length ≤ 200 ∧ M.length ≤ 200 := by
  simp [largeB] at h; omega
theorem below_trans0 {n : Nat} {a b c : World} (h : Below n a b) (k : Below n b c) : Below n a c := h.trans k
/-- A number that the reader did not expect. -/
def Odd (F : List SpanV) (pre : List N32) : Prop := ∃ ini x, pre = ini ++ [x] ∧ (allN F)[ini.length]? ≠ some x
/-- The reader's boxes. -/
def At5 (F : List SpanV) (g n : Nat) (W : World) : Prop :=
  ∃ (i : Nat) (at_ : Int), W.heap[g + 1]? = some (.cells #[.int .i64 i] 3 (0, 0)) ∧ W.heap[g + 1 + 1]? = some (.cells #[.int .i64 (n : Int)] 3 (0, 0)) ∧ W.heap[g + 1 + 1 + 1]? = some (.cells #[.int .u64 at_] 32 (0, 0)) ∧ Pos F i at_ n ∧ (0 ≤ at_ ∧ at_ ≤ 4294967296) ∧ n ≤ 300
/-- What a round keeps. -/
structure Bd (g m : Nat) (w5 W W' : World) : Prop where
  keep : KeepsFrom m W W'
  kp : KpS (g + 1) m W W'
  bl : Below (g + 1) w5 W'
theorem Bd.refl {g m : Nat} {w5 W : World} (h : Below (g + 1) w5 W) : Bd g m w5 W W := ⟨KeepsFrom.refl _ _, KpS.refl _ _ _, h⟩
theorem Bd.set {g m : Nat} {w5 W W' : World} (H : Bd g m w5 W W') {p : Addr} (h1 : g + 1 ≤ p.block) (h2 : p.block < m) (v : Value) : Bd g m w5 W (W'.setCell p v) :=
  ⟨H.keep.trans ((KeepsOthers.setCell W' p v).from m), H.kp.trans (KpS.setCell W' h1 h2 v), H.bl.setCell h1 v⟩
theorem Bd.drew {g m : Nat} {w5 W W' : World} (H : Bd g m w5 W W') : Bd g m w5 W W'.drew :=
  ⟨H.keep.trans ((KeepsOthers.drew W').from m), ⟨H.kp.1.drew, H.kp.2⟩, H.bl.drew⟩
theorem ownFrom_blk {β : Type} {B D : Nat} {o : Obj} (hD : D < B) : OwnFrom B (fun (_ : β) W => W.heap[D]? = some o) :=
  fun _ W _ _ hs hg hr => (((Below.refl (D + 1) W).grown hg (lt_of_block hs) (fun k e => Nat.le_trans hD (hr k e).1)).block D (Nat.lt_succ_self D)).trans hs
theorem two_off {w W : World} {D D2 r : Nat} {v : Value} {t : TypeId} (hD : w.heap.size ≤ D) (hD2 : w.heap.size ≤ D2) (hk : W.heap[D]? = some (.deferred (some []))) (hk2 : W.heap[D2]? = some (.deferred (some []))) (hne : D ≠ D2) (hb : Below w.heap.size w W)
    (hr : W.heap[r]? = some (.cells #[v] t (0, 0))) (h1 : r ≠ D) (h2 : r ≠ D2) :
    Below w.heap.size w ((W.putObj D2 (.deferred none)).putObj D (.deferred none)) ∧ ((W.putObj D2 (.deferred none)).putObj D (.deferred none)).cell? ⟨r, 0, none⟩ = some v := by
  refine ⟨(hb.trans (belowK_b (Nat.le_refl _) W D2 _ _ hD2 hk2 rfl rfl)).trans (belowK_b (Nat.le_refl _) _ D _ _ hD ((World.putObj_heap_other hne).trans hk) rfl rfl), ?_⟩
  exact cell_of_row _ r 0 _ _ (0, 0) ((World.putObj_heap_other h1).trans ((World.putObj_heap_other h2).trans hr))
theorem Bd.drewN {g m : Nat} {w5 W W' : World} (H : Bd g m w5 W W') (n : Nat) : Bd g m w5 W (W'.drewN n) :=
  ⟨⟨H.keep.size, H.keep.same⟩, ⟨⟨H.kp.1.os, H.kp.1.tape, H.kp.1.output, H.kp.1.size, H.kp.1.block⟩, H.kp.2⟩, ⟨H.bl.os, H.bl.tape, H.bl.output, H.bl.size, H.bl.block⟩⟩
theorem Bd.two {g m : Nat} {w5 W : World} (H : Bd g m w5 W W) (hm : g + 1 + 1 + 1 < m) (u v : Value) (n : Nat) : Bd g m w5 W (((W.setCell ⟨g + 1 + 1, 0, none⟩ u).setCell ⟨g + 1 + 1 + 1, 0, none⟩ v).drewN n) :=
  ((H.set (p := ⟨g + 1 + 1, 0, none⟩) (by show g + 1 ≤ g + 1 + 1; omega) (by show g + 1 + 1 < m; omega) u).set (p := ⟨g + 1 + 1 + 1, 0, none⟩) (by show g + 1 ≤ g + 1 + 1 + 1; omega) (by show g + 1 + 1 + 1 < m; omega) v).drewN n
theorem Bd.three {g m : Nat} {w5 W : World} (H : Bd g m w5 W W) (hm : g + 1 + 1 + 1 < m) (u v x : Value) (n : Nat) : Bd g m w5 W ((((W.setCell ⟨g + 1 + 1, 0, none⟩ u).setCell ⟨g + 1 + 1 + 1, 0, none⟩ v).drewN n).setCell ⟨g + 1, 0, none⟩ x) :=
  (H.two hm u v n).set (p := ⟨g + 1, 0, none⟩) (Nat.le_refl _) (by show g + 1 < m; omega) x
theorem Bd.four {g m : Nat} {w5 W : World} (H : Bd g m w5 W W) (hm : g + 1 + 1 + 1 < m) (u v x y : Value) (n : Nat) : Bd g m w5 W (((((W.setCell ⟨g + 1 + 1, 0, none⟩ u).setCell ⟨g + 1 + 1 + 1, 0, none⟩ v).drewN n).setCell ⟨g + 1, 0, none⟩ x).setCell ⟨g + 1 + 1 + 1, 0, none⟩ y) :=
  (H.three hm u v x n).set (p := ⟨g + 1 + 1 + 1, 0, none⟩) (by show g + 1 ≤ g + 1 + 1 + 1; omega) (by show g + 1 + 1 + 1 < m; omega) y
theorem at5_two {F : List SpanV} {g n k i : Nat} {at_ : Int} {W : World} {u v : Value}
    (h1 : W.heap[g + 1]? = some (.cells #[.int .i64 i] 3 (0, 0))) (h2 : W.heap[g + 1 + 1]? = some (.cells #[u] 3 (0, 0))) (h3 : W.heap[g + 1 + 1 + 1]? = some (.cells #[v] 32 (0, 0)))
    (hP : Pos F i at_ n) (h0 : 0 ≤ at_ ∧ at_ ≤ 4294967296) (hn : n ≤ 300) : At5 F g n (((W.setCell ⟨g + 1 + 1, 0, none⟩ (.int .i64 (n : Int))).setCell ⟨g + 1 + 1 + 1, 0, none⟩ (.int .u64 at_)).drewN k) :=
  ⟨i, at_, blk_set4 (blk_set4 h1 (by omega)) (by omega), blk_set4 (set_at h2) (by omega), set_at (blk_set4 h3 (by omega)), hP, h0, hn⟩
theorem at5_three {F : List SpanV} {g n k i : Nat} {at_ : Int} {W : World} {u v x : Value}
    (h1 : W.heap[g + 1]? = some (.cells #[x] 3 (0, 0))) (h2 : W.heap[g + 1 + 1]? = some (.cells #[u] 3 (0, 0))) (h3 : W.heap[g + 1 + 1 + 1]? = some (.cells #[v] 32 (0, 0)))
    (hP : Pos F i at_ n) (h0 : 0 ≤ at_ ∧ at_ ≤ 4294967296) (hn : n ≤ 300) : At5 F g n ((((W.setCell ⟨g + 1 + 1, 0, none⟩ (.int .i64 (n : Int))).setCell ⟨g + 1 + 1 + 1, 0, none⟩ (.int .u64 at_)).drewN k).setCell ⟨g + 1, 0, none⟩ (.int .i64 (i : Int))) :=
  ⟨i, at_, set_at (w := ((W.setCell ⟨g + 1 + 1, 0, none⟩ (.int .i64 (n : Int))).setCell ⟨g + 1 + 1 + 1, 0, none⟩ (.int .u64 at_)).drewN k) (blk_set4 (blk_set4 h1 (by omega)) (by omega)), blk_set4 (blk_set4 (set_at h2) (by omega)) (by omega), blk_set4 (set_at (blk_set4 h3 (by omega))) (by omega), hP, h0, hn⟩
theorem at5_four {F : List SpanV} {g n k i : Nat} {at_ : Int} {W : World} {u v x y : Value}
    (h1 : W.heap[g + 1]? = some (.cells #[x] 3 (0, 0))) (h2 : W.heap[g + 1 + 1]? = some (.cells #[u] 3 (0, 0))) (h3 : W.heap[g + 1 + 1 + 1]? = some (.cells #[v] 32 (0, 0)))
    (hP : Pos F i at_ n) (h0 : 0 ≤ at_ ∧ at_ ≤ 4294967296) (hn : n ≤ 300) : At5 F g n (((((W.setCell ⟨g + 1 + 1, 0, none⟩ (.int .i64 (n : Int))).setCell ⟨g + 1 + 1 + 1, 0, none⟩ y).drewN k).setCell ⟨g + 1, 0, none⟩ (.int .i64 (i : Int))).setCell ⟨g + 1 + 1 + 1, 0, none⟩ (.int .u64 at_)) :=
  ⟨i, at_, blk_set4 (set_at (blk_set4 (blk_set4 h1 (by omega)) (by omega))) (by omega), blk_set4 (blk_set4 (blk_set4 (set_at h2) (by omega)) (by omega)) (by omega), set_at (blk_set4 (set_at (blk_set4 h3 (by omega))) (by omega)), hP, h0, hn⟩
set_option maxRecDepth 100000 in
set_option maxHeartbeats 4000000 in
theorem lawEach_any (L : List SpanV) (vl : Value) (leave : Int) (w : World) (hl : Rd w w.heap.size 2 vl L.length (scells L)) (hnil : NilOk vl) :
    Calls Try.prog 3 #[vl, .int .i64 leave] w fun e w' => e = .returned (.bool true) ∧ Below w.heap.size w w' := by
  obtain ⟨A, c, rfl, hc⟩ := hl.form
  have hA : A = none → c = 0 := fun e => (hnil _ _ (by rw [e])).2
  obtain ⟨kl, kr⟩ := blk2 w (.cells #[.int .i64 leave] 3) (.cells #[.bool false] 4)
  have hb0 := below2 w (.cells #[.int .i64 leave] 3) (.cells #[.bool false] 4)
  have hl0 := (hl.below hb0).mono hb0.size
  obtain ⟨i0, hi, hz0, hz1, hz2⟩ := info_parts Try.infoSpan
  refine (callsIn_wide (n := 6)).1 ?_
  refine callsIn_of_wp_marks Try.func3 rfl trivial ?_ rfl
  rw [wpIn_wide]
  simp only [Try.ntmps3, List.size_toArray, List.length_cons, List.length_nil, Nat.reduceAdd, Nat.reduceSub, Array.replicate_succ, Array.replicate_zero, List.push_toArray, List.append_toArray, List.nil_append, List.cons_append]
  have hLg := Lib.hid (fun W => large_any L [] A none c 0 W)
  go_wp2_with fail
  generalize (w.alloc (.cells #[.int .i64 leave] 3)).alloc (.cells #[.bool false] 4) = W0 at *
  refine (hLg.out _).mono ?_
  rintro e w1 ⟨rfl, rfl⟩
  cases hlg : largeB L [] with
  | true =>
    have haw := Lib.hid awake02_any
    go_wp2_with fail
    refine (haw.out _).mono ?_
    rintro e w2 ⟨rfl, hb⟩
    have kr2 := blk_below hb kr
    have cr := cell_of_row w2 (w.heap.size + 1) 0 _ _ (0, 0) kr2
    have fr := frozen_rowE kr2 0
    go_wp2_with fail
    have cr3 := cell_of_row _ (w.heap.size + 1) 0 _ _ (0, 0) (set_at (i := 0) (u := .bool true) kr2)
    refine ⟨.bool true, ?_, rfl, (below_call hb0 hb).setCell (p := ⟨w.heap.size + 1, 0, none⟩) (Nat.le_succ _) _⟩
    simp [results, Try.f3, go_sem, cr3]
  | false =>
    have hln := (largeB_noE hlg).1
    have hFL : (formOf L).length ≤ 1000000000000 := Nat.le_trans (formOf_len L) (by omega)
    clear hlg hLg
    have HLO := Lib.hid hl0
    have hKE := Lib.hid (fun v w2 h => spEach_any L v w2 h (by omega))
    go_wp2_with (first | (at_builtin; refine wpList_twinS rfl _ _ 22 rfl 30 i0 _ Try.underlying22 hi hz0 hz1 hz2 rfl (w0 := W0) (g0 := W0.heap.size) rfl rfl L rfl hA HLO.out (by omega) ?_; intro v2 w2 hown hb2; obtain ⟨B2, D2, hv2, hB2⟩ := owns_form hown; subst hv2))
    refine (hKE.out _ _ (Rd.of_own hown)).mono ?_
    rintro e w3 ⟨gF, AF, cF, wf, rfl, hownF, hbF, hgF, rfl⟩
    have hz2 : W0.heap.size ≤ w2.heap.size := hb2.size
    have hz3 : w2.heap.size ≤ wf.heap.size := hbF.size
    have hz0 : w.heap.size + 1 < W0.heap.size := lt_of_block kr
    have H2 : EK w leave w2.heap.size gF (formOf L) AF cF (wf.alloc (.cells #[.slice AF (formOf L).length cF] 22)) := by
      have hb3 := below1 wf (.cells #[.slice AF (formOf L).length cF] 22)
      refine ⟨blk_below hb3 (blk_below hbF (blk_below hb2 kl)), blk_below hb3 (blk_below hbF (blk_below hb2 kr)), by rw [hgF]; exact heap_alloc_new _ _, hownF.alloc _, below_call (below_call (below_call hb0 hb2) hbF) hb3⟩
    have hIN : 0 < L.length → ∃ gi cur, B2 = some ⟨gi, 0, none⟩ ∧ W0.heap.size ≤ gi ∧ gi < w2.heap.size ∧ (wf.alloc (.cells #[.slice AF (formOf L).length cF] 22)).heap[gi]? = some (.cells cur 30 (0, 0)) ∧ L.length * 2 ≤ cur.size := by
      intro h
      obtain ⟨gi, rfl⟩ := hB2 h
      obtain ⟨cur, h1, h2, _, h4, _, h6⟩ := owns_block hown
      exact ⟨gi, cur, rfl, h6, lt_of_block h1, blk_below (below1 wf _) (blk_below hbF h1), by omega⟩
    clear hown hownF hbF hb2 hb0 kl kr hKE
    generalize wf.alloc (.cells #[.slice AF (formOf L).length cF] 22) = wE at *
    have hgw : w2.heap.size ≤ gF := by omega
    clear hgF hB2
    have hnf := eqNilF 11 #[.pointer (some ⟨gF, 0, none⟩)]
    go_wp2_with fail
    clear hnf
    go_loopw [7] (fun i wx => ∃ k : Nat, i = .int .i64 k ∧ k ≤ L.length ∧ Hid (EK w leave w2.heap.size gF (formOf L) AF cF wx) ∧ Hid (0 < L.length → ∃ gi cur, B2 = some ⟨gi, 0, none⟩ ∧ W0.heap.size ≤ gi ∧ gi < w2.heap.size ∧ wx.heap[gi]? = some (.cells cur 30 (0, 0)) ∧ L.length * 2 ≤ cur.size)) (fun i _ => L.length - (intOf i).toNat)
    case atStart => exact ⟨0, rfl, Nat.zero_le _, Lib.hid H2, Lib.hid hIN⟩
    case round =>
      obtain ⟨k, rfl, hk, H3, HI⟩ := hrel
      rename World => wx
      clear H2 hIN
      by_cases hlt : k < L.length
      · have hI : (k : Int) < (L.length : Int) := by omega
        obtain ⟨gi, cur, rfl, g1, g2, hki, hcs⟩ := HI.out (by omega)
        obtain ⟨u0, hu0⟩ : ∃ u, cur[k * 2]? = some u := ⟨_, Array.getElem?_eq_getElem (by omega)⟩
        obtain ⟨u1, hu1⟩ : ∃ u, cur[k * 2 + 1]? = some u := ⟨_, Array.getElem?_eq_getElem (by omega)⟩
        have c0 : wx.cell? ⟨gi, k * 2, none⟩ = some u0 := (cell_of_row wx gi (k * 2) _ _ (0, 0) hki).trans hu0
        have c1 : wx.cell? ⟨gi, k * 2 + 1, none⟩ = some u1 := (cell_of_row wx gi (k * 2 + 1) _ _ (0, 0) hki).trans hu1
        have f0 := frozen_rowE hki (k * 2)
        have f1 := frozen_rowE hki (k * 2 + 1)
        go_wp2_with fail
        exact ⟨⟨k + 1, by go_num, by omega, Lib.hid ((H3.out.set (by omega) g2 (by omega) _ _).set (by omega) g2 (by omega) _ _), Lib.hid (fun _ => ⟨gi, _, rfl, g1, g2, set_at (set_at hki), by simpa using hcs⟩)⟩, by simp only [intOf]; omega⟩
      · obtain rfl : k = L.length := by omega
        have hI : ¬ (L.length : Int) < (L.length : Int) := by omega
        clear HI
        go_wp2_with fail
        have hk0 := heap_alloc_new wx (.cells #[.int .i64 0] 3)
        have hb0 := below1 wx (.cells #[.int .i64 0] 3)
        have H4 := H3.out.below hb0
        have hFl : (formOf L).length ≤ 1000000000000 := hFL
        have hoF := H3.out.o
        have hRd : Rd wx wx.heap.size 2 (.slice AF (formOf L).length cF) (formOf L).length (scells (formOf L)) := Rd.of_own hoF
        have hgx : gF < wx.heap.size := lt_of_block H3.out.f
        have hszN : (wx.alloc (.cells #[.int .i64 0] 3)).heap.size = wx.heap.size + 1 := by simp
        have hcF := cell_of_row _ gF 0 _ _ (0, 0) H4.f
        rw [← wpIn_wide (n := 6)]
        refine rangeG_brk (S := fun ys => ys = allN (formOf L)) (Sp := fun pre => pre <+: allN (formOf L)) (N := (allN (formOf L)).length) rfl (by decide) (gf := 11) (lb := #[.pointer (some ⟨gF, 0, none⟩)]) rfl trivial (enters_of Try.func11 (by kernel_rfl) rfl)
          (spEach_stops Fence.wide 5 trivial rfl (by decide) gF wx.heap.size (formOf L) hFl AF cF _ hgx (by rw [hszN]; omega) hcF (hRd.below hb0)) KpS.trans (KpS.putObj (by rw [hszN]; omega)) (Below.refl _ _) (fun _ => rfl)
          (fun pre W => (W.heap[wx.heap.size]? = some (.cells #[.int .i64 (pre.length : Int)] 3 (0, 0)) ∧ pre.length ≤ 200) ∧ Below wx.heap.size wx W)
          (fun _ W => Below wx.heap.size wx W)
          (OwnFrom.and (Own.from (fun s A B row hs hg hr => ⟨blk_keptG hs.1 rfl hg hr, hs.2⟩) _) (ownFrom_below (Nat.le_refl _) (by rw [hszN]; omega)))
          (ownFrom_below (Nat.le_refl _) (by rw [hszN]; omega))
          ⟨⟨hk0, Nat.zero_le _⟩, hb0⟩ ?body ?rest
        case body =>
          rintro l pre x W ⟨⟨hk, hp⟩, hB⟩ _
          have hlb := (hB.block _ (show w.heap.size < wx.heap.size from lt_of_block H3.out.l)).trans H3.out.l
          have c0 := cell_of_row W wx.heap.size 0 _ _ (0, 0) hk
          have f0 := frozen_rowE hk 0
          have c1 := cell_of_row W w.heap.size 0 _ _ (0, 0) hlb
          have hn : (((pre ++ [x]).length : Nat) : Int) = (pre.length : Int) + 1 := by simp
          have gN : (W.setCell ⟨wx.heap.size, 0, none⟩ (.int .i64 ((pre.length : Int) + 1))).heap[wx.heap.size]? = some (.cells #[.int .i64 (((pre ++ [x]).length : Nat) : Int)] 3 (0, 0)) := by rw [hn]; exact set_at hk
          simp only [hszN]
          have gK := KpS.setCell (n₀ := wx.heap.size) (m := wx.heap.size + 1) W (p := ⟨wx.heap.size, 0, none⟩) (Nat.le_refl _) (Nat.lt_succ_self _) (.int .i64 ((pre.length : Int) + 1))
          have gB := hB.setCell (p := ⟨wx.heap.size, 0, none⟩) (Nat.le_refl _) (.int .i64 ((pre.length : Int) + 1))
          have gF := (KeepsOthers.setCell W ⟨wx.heap.size, 0, none⟩ (.int .i64 ((pre.length : Int) + 1))).from (wx.heap.size + 1)
          have HG := Lib.hid (And.intro gN (And.intro gK (And.intro gB gF)))
          clear gN gK gB gF hn
          by_cases h1 : leave < (pre.length : Int) + 1
          · gi_wp2
            exact ⟨HG.out.2.2.2, rfl, HG.out.2.2.1⟩
          · by_cases h2 : 200 < (pre.length : Int) + 1
            · gi_wp2
              exact ⟨HG.out.2.2.2, rfl, HG.out.2.2.1⟩
            · gi_wp2
              exact ⟨HG.out.2.2.2, HG.out.2.1, ⟨HG.out.1, by simp; omega⟩, HG.out.2.2.1⟩
        case rest =>
          intro D xs W hD hW hDk
          replace hW : Below wx.heap.size wx W := hW.elim (fun h => h.2) (fun h => h)
          rw [hszN] at hD
          have hwD : w.heap.size + 1 < D := by have := lt_of_block H3.out.r; omega
          have H5 : EK w leave w2.heap.size gF (formOf L) AF cF W := H3.out.below hW
          have hRF := Lib.hid (show ∀ W', Rd W' W'.heap.size 2 (.slice A L.length c) L.length (scells L) → Calls _ _ _ _ (SetRes (formOf L) W') from fun W' h => refForm_any L (.slice A L.length c) W' h (by omega))
          have hlW := (hl.below H5.n).mono H5.n.size
          clear hcF hgx hoF hRd H4 hb0 hk0 H3 hW
          go_wp2_with fail
          refine (hRF.out W hlW).mono ?_
          rintro e wd ⟨vD, rfl, hownD, hbD⟩
          obtain ⟨AD, cD, hvD, _⟩ := owns_form hownD
          subst hvD
          have H6 := H5.below hbD
          have hDd := (hbD.block D (lt_of_block hDk)).trans hDk
          have hNF := Lib.hid (formOf_ok L).1
          clear hRF hlW H5 hbD hDk
          generalize formOf L = F at *
          go_upto_if 49 with fail
          have hb4 : Below wd.heap.size wd ((((wd.alloc (.cells #[.slice AD F.length cD] 22)).alloc (.cells #[.int .i64 0] 3)).alloc (.cells #[.int .i64 0] 3)).alloc (.cells #[.int .u64 0] 32)) := (((below1 wd _).alloc (by simp) _).alloc (by simp; omega) _).alloc (by simp; omega) _
          have hblk : ((((wd.alloc (.cells #[.slice AD F.length cD] 22)).alloc (.cells #[.int .i64 0] 3)).alloc (.cells #[.int .i64 0] 3)).alloc (.cells #[.int .u64 0] 32)).heap[wd.heap.size]? = some (.cells #[.slice AD F.length cD] 22 (0, 0)) ∧ ((((wd.alloc (.cells #[.slice AD F.length cD] 22)).alloc (.cells #[.int .i64 0] 3)).alloc (.cells #[.int .i64 0] 3)).alloc (.cells #[.int .u64 0] 32)).heap[wd.heap.size + 1]? = some (.cells #[.int .i64 0] 3 (0, 0)) ∧ ((((wd.alloc (.cells #[.slice AD F.length cD] 22)).alloc (.cells #[.int .i64 0] 3)).alloc (.cells #[.int .i64 0] 3)).alloc (.cells #[.int .u64 0] 32)).heap[wd.heap.size + 1 + 1]? = some (.cells #[.int .i64 0] 3 (0, 0)) ∧ ((((wd.alloc (.cells #[.slice AD F.length cD] 22)).alloc (.cells #[.int .i64 0] 3)).alloc (.cells #[.int .i64 0] 3)).alloc (.cells #[.int .u64 0] 32)).heap[wd.heap.size + 1 + 1 + 1]? = some (.cells #[.int .u64 0] 32 (0, 0)) := by
            obtain ⟨x0, x1, x2⟩ := blk3 wd (.cells #[.slice AD F.length cD] 22) (.cells #[.int .i64 0] 3) (.cells #[.int .i64 0] 3)
            have hbX := below1 (((wd.alloc (.cells #[.slice AD F.length cD] 22)).alloc (.cells #[.int .i64 0] 3)).alloc (.cells #[.int .i64 0] 3)) (.cells #[.int .u64 0] 32)
            have x3 := heap_alloc_new (((wd.alloc (.cells #[.slice AD F.length cD] 22)).alloc (.cells #[.int .i64 0] 3)).alloc (.cells #[.int .i64 0] 3)) (.cells #[.int .u64 0] 32)
            simp only [World.size_alloc] at x3
            exact ⟨blk_below hbX x0, blk_below hbX x1, blk_below hbX x2, x3⟩
          generalize ((((wd.alloc (.cells #[.slice AD F.length cD] 22)).alloc (.cells #[.int .i64 0] 3)).alloc (.cells #[.int .i64 0] 3)).alloc (.cells #[.int .u64 0] 32)) = W4 at *
          obtain ⟨k0, k1, k2, k3⟩ := hblk
          have hRD := Lib.hid (Rd.of_own hownD)
          obtain ⟨g, hg⟩ : ∃ g, wd.heap.size = g := ⟨_, rfl⟩
          rw [hg] at k0 k1 k2 k3 hb4
          have hRDW := Lib.hid (show Rd W4 g 2 (.slice AD F.length cD) F.length (scells F) from by have := hRD.out; rw [hg] at this; exact this.below hb4)
          have cf := cell_of_row W4 g 0 _ _ (0, 0) k0
          have c3 := cell_of_row W4 (g + 1 + 1 + 1) 0 _ _ (0, 0) k3
          have f3 := frozen_rowE k3 0
          simp only [hg]
          clear hownD
          go_cut [] from 49 to 54 (fun wx => Hid (∃ at0 : Int, Pos F 0 at0 0 ∧ 0 ≤ at0 ∧ at0 ≤ 4294967296 ∧ wx.heap[g]? = some (.cells #[.slice AD F.length cD] 22 (0, 0)) ∧ wx.heap[g + 1]? = some (.cells #[.int .i64 0] 3 (0, 0)) ∧ wx.heap[g + 1 + 1]? = some (.cells #[.int .i64 0] 3 (0, 0)) ∧ wx.heap[g + 1 + 1 + 1]? = some (.cells #[.int .u64 at0] 32 (0, 0)) ∧ Below g wd wx))
          case first =>
            by_cases hpos : 0 < F.length
            · have hI : (0 : Int) < (F.length : Int) := by omega
              obtain ⟨s, hs⟩ : ∃ s, F[0]? = some s := ⟨_, List.getElem?_eq_getElem hpos⟩
              obtain ⟨b, off, d, hv, _, _, hcell⟩ := hRDW.out.pos hpos
              injection hv with hv1 _ hv3
              subst hv1 hv3
              have cl : W4.cell? ⟨b, off, none⟩ = some (.int .u32 s.lo) := by
                have := hcell 0 _ (scell (i := 0) hs rfl)
                simpa using this
              have hlo := s.hlo
              have HP := Lib.hid (pos_first hs (NF.ok hNF.out s (List.mem_of_getElem? hs)))
              have HB := Lib.hid (And.intro k0 (And.intro k1 (And.intro k2 hb4)))
              have HK := Lib.hid k3
              clear hcell hs k0 k1 k2 hb4 k3
              try simp only [hI]
              go_wp2_with fail
              go_meet
              exact Lib.hid ⟨s.lo, HP.out, by omega, by omega, blk_set4 HB.out.1 (by omega), blk_set4 HB.out.2.1 (by omega), blk_set4 HB.out.2.2.1 (by omega), set_at HK.out, HB.out.2.2.2.setCell (p := ⟨g + 1 + 1 + 1, 0, none⟩) (by show g ≤ g + 1 + 1 + 1; omega) _⟩
            · have hI : ¬ (0 : Int) < (F.length : Int) := by omega
              have hF0 : F = [] := List.eq_nil_of_length_eq_zero (by omega)
              have HB := Lib.hid (show Pos F 0 0 0 ∧ _ from And.intro (by rw [hF0]; exact pos_nil) (And.intro k0 (And.intro k1 (And.intro k2 (And.intro k3 hb4)))))
              clear hF0 k0 k1 k2 hb4 k3
              try simp only [hI]
              go_wp2_with fail
              go_meet
              exact Lib.hid ⟨0, HB.out.1, by omega, by omega, HB.out.2.1, HB.out.2.2.1, HB.out.2.2.2.1, HB.out.2.2.2.2.1, HB.out.2.2.2.2.2⟩
          case rest =>
            rename World => w5
            obtain ⟨at0, hP0, ha0, ha1, k0, k1, k2, k3, hb5⟩ := hcut.out
            have hb5' : Below wd.heap.size wd w5 := by rw [hg]; exact hb5
            have H7 := H6.below hb5'
            have hD5 := (hb5'.block D (lt_of_block hDd)).trans hDd
            have hDg : D < g := by rw [← hg]; exact lt_of_block hDd
            have hgg : gF < g := by rw [← hg]; exact lt_of_block H6.f
            have hR5 : Rd w5 g 2 (.slice AD F.length cD) F.length (scells F) := by
              have := hRD.out
              rw [hg] at this
              exact this.below hb5
            have hRF : Rd w5 (g + 1) 2 (.slice AF F.length cF) F.length (scells F) := by
              have := (Rd.of_own H6.o).below hb5'
              rw [hg] at this
              exact this.mono (Nat.le_succ g)
            have hg5 : g + 1 + 1 + 1 < w5.heap.size := lt_of_block k3
            have hcF := cell_of_row w5 gF 0 _ _ (0, 0) H7.f
            have HR5 := Lib.hid hR5
            have hw5 : w.heap.size + 1 < g := by rw [← hg]; exact lt_of_block H6.r
            clear hRD hRDW cf c3 f3 hcut hR5
            go_wp2_with fail
            rw [← wpIn_wide (n := 6)]
            refine rangeG_var (S := fun ys => ys = allN F) (Sp := fun pre => pre <+: allN F) (N := (allN F).length) rfl (by decide) (gf := 11) (lb := #[.pointer (some ⟨gF, 0, none⟩)]) rfl trivial (enters_of Try.func11 (by kernel_rfl) rfl)
              (spEach_stops Fence.wide 5 trivial rfl (by decide) gF (g + 1) F hFL AF cF _ (by omega) (by omega) hcF hRF) KpS.trans (KpS.putObj (by omega)) (Below.refl _ _) (fun _ => rfl)
              (fun pre W => At5 F g pre.length W ∧ Below (g + 1) w5 W)
              (fun c pre W => (c = .ret ∧ (Odd F pre ∨ W.heap[w.heap.size + 1]? = some (.cells #[.bool true] 4 (0, 0)))) ∧ Below w.heap.size w W ∧ W.heap[D]? = some (.deferred (some [])))
              (OwnFrom.and (Own.from (fun s A B row hs hgr hr => by obtain ⟨i, at_, h1, h2, h3, h4⟩ := hs; exact ⟨i, at_, blk_keptG h1 rfl hgr hr, blk_keptG h2 rfl hgr hr, blk_keptG h3 rfl hgr hr, h4⟩) _) (ownFrom_below (by omega) (by omega)))
              (fun c => OwnFrom.and (Own.from (fun s A B row hs hgr hr => ⟨hs.1, hs.2.imp (fun h => h) (fun h => blk_keptG h rfl hgr hr)⟩) _) (OwnFrom.and (ownFrom_below (Nat.le_refl _) (by omega)) (ownFrom_blk (by omega))))
              ⟨⟨0, at0, k1, k2, k3, hP0, ⟨ha0, ha1⟩, Nat.zero_le _⟩, Below.refl _ _⟩ ?body ?done ?stop
            case body =>
              rintro l pre ⟨xv, hx0, hx1⟩ W ⟨⟨i, at_, h1, h2, h3, hP, ⟨ha, hb⟩, hlen⟩, hB⟩ _
              have kf := (hB.block g (Nat.lt_succ_self g)).trans k0
              have kr := (hB.block (w.heap.size + 1) (by omega)).trans H7.r
              have ci := cell_of_row W (g + 1) 0 _ _ (0, 0) h1
              have cm := cell_of_row W (g + 1 + 1) 0 _ _ (0, 0) h2
              have ct := cell_of_row W (g + 1 + 1 + 1) 0 _ _ (0, 0) h3
              have cx := cell_of_row W g 0 _ _ (0, 0) kf
              have cr := cell_of_row W (w.heap.size + 1) 0 _ _ (0, 0) kr
              have fi := frozen_rowE h1 0
              have fm := frozen_rowE h2 0
              have ft := frozen_rowE h3 0
              have fr := frozen_rowE kr 0
              have HRx := Lib.hid (HR5.out.below (hB.mono (Nat.le_succ g)))
              have hil := pos_le hP
              have hDW := (hB.block D (by omega)).trans hD5
              have HW := Lib.hid (show Below w.heap.size w W from below_trans0 H7.n (hB.mono (by omega)))
              have HBd := Lib.hid (Bd.refl (m := w5.heap.size) hB)
              have HH := Lib.hid (And.intro h1 (And.intro h2 (And.intro h3 kr)))
              have HP := Lib.hid hP
              clear h1 h2 h3 kf kr hB hP HR5 H7 k0 k1 k2 k3
              by_cases hi' : i < F.length
              · have hI : ¬ (i : Int) ≥ (F.length : Int) := by omega
                obtain ⟨s, hs⟩ : ∃ s, F[i]? = some s := ⟨_, List.getElem?_eq_getElem hi'⟩
                obtain ⟨g1, g2, g3⟩ := pos_get HP.out hs
                by_cases hx : xv = at_
                · by_cases hm : 300 < (pre.length : Int) + 1
                  · gi_wp2
                    refine ⟨((HBd.out.set (p := ⟨g + 1 + 1, 0, none⟩) (by show g + 1 ≤ g + 1 + 1; omega) (by show g + 1 + 1 < _; omega) _).keep.trans ((KeepsOthers.setCell _ ⟨w.heap.size + 1, 0, none⟩ _).from _)), ⟨rfl, .inr (set_at (blk_set4 HH.out.2.2.2 (by omega)))⟩, (HW.out.setCell (p := ⟨g + 1 + 1, 0, none⟩) (by show w.heap.size ≤ g + 1 + 1; omega) _).setCell (p := ⟨w.heap.size + 1, 0, none⟩) (Nat.le_succ _) _, blk_set4 (blk_set4 hDW (by omega)) (by omega)⟩
                  · have hlo := s.hlo
                    have hhi := s.hhi
                    obtain ⟨b, off, d, hv, _, hbg, hcell⟩ := HRx.out.posAt (by omega)
                    injection hv with hv1 _ hv3
                    subst hv1 hv3
                    have c1 := hcell i 1 (.int .u32 s.hi) (scell hs rfl)
                    have n1 : ¬ b = g + 1 := by omega
                    have n2 : ¬ b = g + 1 + 1 := by omega
                    have n3 : ¬ b = g + 1 + 1 + 1 := by omega
                    by_cases hn : s.hi < at_ + 1
                    · by_cases hi2 : i + 1 < F.length
                      · obtain ⟨s2, hs2⟩ : ∃ s, F[i + 1]? = some s := ⟨_, List.getElem?_eq_getElem hi2⟩
                        have c2 : W.cell? ⟨b, off + (i + 1) * 2, none⟩ = some (.int .u32 s2.lo) := hcell (i + 1) 0 (.int .u32 s2.lo) (scell hs2 rfl)
                        have hlo2 := s2.hlo
                        have hI2 : (i : Int) + 1 < (F.length : Int) := by omega
                        clear hcell
                        gi_wp2
                        (refine regionQuiet_round (by kernel_rfl) (by kernel_rfl) (by kernel_rfl) ?_; (repeat (first | gi_big_quiet_skip | (gi_big_quiet_want; gi_big_quiet_op; go_big_quiet_on))); refine wpQuietIn_nil ?_; intro _ hw'; obtain ⟨nq, hw''⟩ := hw'; subst hw'')
                        gi_wp2
                        have HB4 := HBd.out.four (by omega) (.int .i64 ((pre.length : Int) + 1)) (.int .u64 (at_ + 1)) (.int .i64 ((i : Int) + 1)) (.int .u64 s2.lo) nq
                        refine ⟨HB4.keep, HB4.kp, ?_, HB4.bl⟩
                        rw [List.length_append]
                        exact at5_four (n := pre.length + 1) HH.out.1 HH.out.2.1 HH.out.2.2.1 (pos_next (fun s hs => NF.ok hNF.out s hs) HP.out hs (by omega) (fun t ht => by rw [hs2] at ht; injection ht with ht; rw [ht])) (by omega) (by omega)
                      · have hI2 : ¬ (i : Int) + 1 < (F.length : Int) := by omega
                        clear hcell
                        gi_wp2
                        (refine regionQuiet_round (by kernel_rfl) (by kernel_rfl) (by kernel_rfl) ?_; (repeat (first | gi_big_quiet_skip | (gi_big_quiet_want; gi_big_quiet_op; go_big_quiet_on))); refine wpQuietIn_nil ?_; intro _ hw'; obtain ⟨nq, hw''⟩ := hw'; subst hw'')
                        gi_wp2
                        have HB4 := HBd.out.three (by omega) (.int .i64 ((pre.length : Int) + 1)) (.int .u64 (at_ + 1)) (.int .i64 ((i : Int) + 1)) nq
                        refine ⟨HB4.keep, HB4.kp, ?_, HB4.bl⟩
                        rw [List.length_append]
                        exact at5_three (n := pre.length + 1) HH.out.1 HH.out.2.1 HH.out.2.2.1 (pos_next (fun s hs => NF.ok hNF.out s hs) HP.out hs (by omega) (fun t ht => by rw [List.getElem?_eq_none (by omega)] at ht; cases ht)) (by omega) (by omega)
                    · clear hcell
                      gi_wp2
                      (refine regionQuiet_round (by kernel_rfl) (by kernel_rfl) (by kernel_rfl) ?_; (repeat (first | gi_big_quiet_skip | (gi_big_quiet_want; gi_big_quiet_op; go_big_quiet_on))); refine wpQuietIn_nil ?_; intro _ hw'; obtain ⟨nq, hw''⟩ := hw'; subst hw'')
                      gi_wp2
                      have HB4 := HBd.out.two (by omega) (.int .i64 ((pre.length : Int) + 1)) (.int .u64 (at_ + 1)) nq
                      refine ⟨HB4.keep, HB4.kp, ?_, HB4.bl⟩
                      rw [List.length_append]
                      exact at5_two (n := pre.length + 1) HH.out.1 HH.out.2.1 HH.out.2.2.1 (pos_step HP.out hs (by omega)) (by omega) (by omega)
                · gi_wp2
                  refine ⟨(KeepsOthers.setCell W ⟨w.heap.size + 1, 0, none⟩ _).from _, ⟨rfl, .inl ⟨pre, ⟨xv, hx0, hx1⟩, rfl, ?_⟩⟩, HW.out.setCell (p := ⟨w.heap.size + 1, 0, none⟩) (Nat.le_succ _) _, blk_set4 hDW (by omega)⟩
                  rw [g3]
                  intro e
                  have hhi := s.hhi
                  injection e with e
                  exact hx (by rw [← mkN_val (x := at_) (by omega) (by omega), e])
              · have hI : (i : Int) ≥ (F.length : Int) := by omega
                gi_wp2
                refine ⟨(KeepsOthers.setCell W ⟨w.heap.size + 1, 0, none⟩ _).from _, ⟨rfl, .inl ⟨pre, ⟨xv, hx0, hx1⟩, rfl, by rw [(pos_end HP.out (by omega)).2]; simp⟩⟩, HW.out.setCell (p := ⟨w.heap.size + 1, 0, none⟩) (Nat.le_succ _) _, blk_set4 hDW (by omega)⟩
            case done =>
              rintro D2 xs W hD2 rfl ⟨⟨i, at_, h1, h2, h3, hP, ⟨ha, hb⟩, hlen⟩, hB⟩ hK2
              obtain rfl := pos_done hP
              have hD' := (hB.block D (by omega)).trans hD5
              have kf := (hB.block g (Nat.lt_succ_self g)).trans k0
              have kr := (hB.block (w.heap.size + 1) (by omega)).trans H7.r
              have ci := cell_of_row W (g + 1) 0 _ _ (0, 0) h1
              have cx := cell_of_row W g 0 _ _ (0, 0) kf
              have cr := cell_of_row W (w.heap.size + 1) 0 _ _ (0, 0) kr
              have fr := frozen_rowE kr 0
              clear h1 h2 h3 kf
              go_wp2_with fail
              obtain ⟨hbE, cE⟩ := two_off (by omega) (by omega) (blk_set4 hD' (by omega)) (blk_set4 hK2 (by omega)) (by omega) ((below_trans0 H7.n (hB.mono (by omega))).setCell (p := ⟨w.heap.size + 1, 0, none⟩) (Nat.le_succ _) (.bool true)) (set_at kr (i := 0) (u := .bool true)) (by omega) (by omega)
              exact leave_two (blk_set4 hK2 (by omega)) (blk_set4 hD' (by omega)) (by omega) ⟨.bool true, by simp [results, Try.f3, go_sem, cE], rfl, hbE⟩
            case stop =>
              rintro D2 c pre W hD2 hpre ⟨⟨rfl, hor⟩, hB, hD'⟩ hK2
              rcases hor with ⟨ini, x, rfl, hno⟩ | kr
              · exact absurd (prefix_last hpre) hno
              · obtain ⟨hbE, cE⟩ := two_off (by omega) (by omega) hD' hK2 (by omega) hB kr (by omega) (by omega)
                gi_wp2
                exact leave_two hK2 hD' (by omega) ⟨.bool true, by simp [results, Try.f3, go_sem, cE], rfl, hbE⟩
end Go.Proofs.Ytcemiokdpmgonaa

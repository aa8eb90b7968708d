/-
  Joined texts: Rw11, RwK, Re1, Dec, Ad1, Ad2, Ad3, Ad4, Cut, Ad5, Addr9, InMath.
-/
import Derived.Test.YtdjikiakcfbklaaGreatMRewriteKinds11
import Derived.Test.YtdjikiakcfbklaaGreatMRewriteKinds10
import Derived.Lib.AtoiTie
import Derived.Lib.AtoiAllCases
import Derived.Lib.ItoaLen
import Derived.Lib.SplitLaws
import Derived.Lib.Join
import Derived.Test.YtdjikiakcfbklaaGreatMRewriteKinds1
import Derived.Test.YtdjikiakcfbklaaGreatShelf
import Derived.Lib.AppendIntMem
import Derived.Lib.AtoiErrMem
import Derived.Lib.SmallJoins
import Derived.Test.YtdjikiakcfbklaaGreatMRewriteKinds4
import Derived.Lib.JoinLaws
import Derived.Test.YtdjikiakcfbklaaGreatMRewriteKinds5
import Derived.Deep.RegionHeld3
/-
  A rewrite's relation, where there is room.
-/
namespace Go.Proofs.YtdjikiakcfbklaaGreat
open Go Go.RowKit Go.ChangeMaps Go.MapKept Go.Maps Go.Lib Go.Sort

def stepC (K M : Nat) : Nat := M * (6080 + 8 * K) + 2280 + 4 * K
section
variable {B S km : Nat} {A : Blks} {Mo : Nat} {σ : Sg} {w0 : World} {P : Bxs} {dest : Bool} {l : List RewV} {vl : Value} {Fs : List FiltV} {v : Value}
def RelSt (w0 : World) (B S km : Nat) (A : Blks) (Mo : Nat) (σ : Sg) (P : Bxs) (dest : Bool) (l : List RewV) (vl : Value) (Fs : List FiltV) (v : Value) (C : Nat) (k : Nat) (W : World) : Prop :=
  ∃ (ql qo : Nat) (τ : Sg), RelBx w0 W B S km A Mo τ P dest l vl Fs v ql qo ∧ To (k * C) (k * C) σ τ ∧ Den τ ql (leftW dest l Fs k) ∧ Den τ qo (outW dest l Fs k)
theorem RelBx.size {W : World} {τ : Sg} {ql qo : Nat} (h : RelBx w0 W B S km A Mo τ P dest l vl Fs v ql qo) : B ≤ W.heap.size := by
  obtain ⟨nv, ha⟩ := h.sp.sp.ar
  exact Nat.le_of_lt (Nat.lt_of_le_of_lt (ha.base A.a (by simp [Blks.list])) (lt_of_block ha.cells))
def relCaps (P : Bxs) : Array Value := #[.pointer (some ⟨P.b, 0, none⟩), .pointer (some ⟨P.s, 0, none⟩), .pointer (some ⟨P.l, 0, none⟩), .pointer (some ⟨P.d, 0, none⟩), .pointer (some ⟨P.L, 0, none⟩), .pointer (some ⟨P.o, 0, none⟩)]
theorem relEach {K M : Nat} (hw : ∀ (k : Nat) (x : RewV), l[k]? = some x → x.dest = dest → StepW dest l Fs K M k x) (hroom : σ.H.length + l.length * stepC K M ≤ Mo) (hnl : σ.N.length + l.length * stepC K M ≤ 2147483647) :
    EachOk 68 (relCaps P) l vl Fs v dest (RelSt w0 B S km A Mo σ P dest l vl Fs v (stepC K M)) where
  en := enters_of Tryz.func68 (by kernel_rfl) rfl
  below := fun k W W' ⟨ql, qo, τ, h, ht, h1, h2⟩ hb => ⟨ql, qo, τ, h.below hb, ht, h1, h2⟩
  row := fun k W ⟨ql, qo, τ, h, _⟩ => h.row.mono h.size
  fs := fun k W ⟨ql, qo, τ, h, _⟩ => h.fs.mono h.size
  skip := fun k x W hx hd ⟨ql, qo, τ, h, ht, h1, h2⟩ => ⟨ql, qo, τ, h, ht.mono (Nat.mul_le_mul_right _ (Nat.le_succ k)) (Nat.mul_le_mul_right _ (Nat.le_succ k)), by rw [leftW_skip hx hd]; exact h1, by rw [outW_skip hx hd]; exact h2⟩
  step := fun k x PA c W0 W hx hd ⟨ql, qo, τ, h, ht, h1, h2⟩ hb hr hn => by
    have hkl : k < l.length := (List.getElem?_eq_some_iff.1 hx).1
    have hm1 : (k + 1) * stepC K M ≤ l.length * stepC K M := Nat.mul_le_mul_right _ hkl
    have hm2 : (k + 1) * stepC K M = k * stepC K M + stepC K M := by rw [Nat.add_mul, Nat.one_mul]
    have hrf : RdF A km W 10 (.slice PA (namL Fs x.nm).length c) (namL Fs x.nm).length (rcells (namL Fs x.nm)) := by
      obtain ⟨Q, c', hv, hc, hlen, hp⟩ := hr
      injection hv with e1 e2 e3
      subst e1 e3
      refine ⟨PA, c, rfl, hc, hlen, fun h0 => ?_⟩
      obtain ⟨b, off, hA, hlt, hcell⟩ := hp h0
      obtain ⟨b2, off2, hA2, hge⟩ := hn h0
      rw [hA] at hA2
      injection hA2 with e4
      injection e4 with e4 e5
      subst e4
      exact ⟨b, off, hA, h.sp.sp.ar.foreign_new hb hge hlt, by have := h.sp.sp.fk.1; omega, hcell⟩
    have hst := relStep (h.below hb) h1 h2 hx hd (namNm Fs x.nm) _ hrf (hw k x hx hd) (by have := ht.hl; show τ.H.length + stepC K M ≤ Mo; omega) (by have := ht.nl; show τ.N.length + stepC K M ≤ 2147483647; omega)
    refine hst.mono ?_
    rintro e W' ⟨rfl, ql', qo', τ', h', ht', h1', h2'⟩
    exact ⟨rfl, ql', qo', τ', h', by rw [hm2]; exact ht.trans ht', h1', h2'⟩
/-- What leads where, of all headers. -/
def relW (dest : Bool) (l : List RewV) (Fs : List FiltV) : Fun := fun s => outW dest l Fs l.length s || (sameF 0 0 104 s && leftW dest l Fs l.length s)
set_option maxRecDepth 100000 in
set_option maxHeartbeats 8000000 in
theorem relation_yes {w : World} (h : SpOk w B S km A Mo σ) (hkm : B ≤ km) (hl : Rd w B 3 vl l.length (wcells l)) (hf : FsAt w B v Fs) (hlen : Fs.length ≤ 9223372036854775807) (hll : l.length ≤ 256) (he : rwE Fs l = 0) {K K2 M : Nat} (hw : ∀ (k : Nat) (x : RewV), l[k]? = some x → x.dest = dest → StepW dest l Fs K M k x)
    (hw1 : Wid (fun s => sameF 0 0 104 s && leftW dest l Fs l.length s) K) (hw2 : Wid (relW dest l Fs) K2) (hroom : σ.H.length + (l.length * stepC K M + 936 + (K + K2)) ≤ Mo) (hnl : σ.N.length + (l.length * stepC K M + 936 + (K + K2)) ≤ 2147483647) :
    Calls Tryz.prog 34 #[.pointer (some ⟨S, 0, none⟩), vl, v, .bool dest] w fun e w' => ∃ (r : Nat) (τ : Sg), e = .returned (.tuple #[.int .i64 r, .int .i64 0]) ∧ SpOk w' B S km A Mo τ ∧ KeptS A km w w' ∧ To (l.length * stepC K M + 936 + (K + K2)) (l.length * stepC K M + 936 + (K + K2)) σ τ ∧ Den τ r (relW dest l Fs) := by
  obtain ⟨PL, cL, rfl, _⟩ := hl.form
  obtain ⟨PF, cF, rfl, _⟩ := hf.1.form
  have hb1 : Below w.heap.size w (((w.alloc (.cells #[.pointer (some ⟨S, 0, none⟩)] 41)).alloc (.cells #[.slice PL l.length cL] 22)).alloc (.cells #[.bool dest] 4)) := (below2 w (.cells #[.pointer (some ⟨S, 0, none⟩)] 41) (.cells #[.slice PL l.length cL] 22)).alloc (below2 w (.cells #[.pointer (some ⟨S, 0, none⟩)] 41) (.cells #[.slice PL l.length cL] 22)).size (.cells #[.bool dest] 4)
  obtain ⟨k0, k1, k2⟩ := blk3 w (.cells #[.pointer (some ⟨S, 0, none⟩)] 41) (.cells #[.slice PL l.length cL] 22) (.cells #[.bool dest] 4)
  have H1 := Lib.hid (h.below hb1)
  have HK1 := Lib.hid (h.kept hb1)
  have HB1 := Lib.hid hb1
  have HSZ : Hid (B ≤ w.heap.size ∧ S < w.heap.size ∧ km < w.heap.size) := Lib.hid ⟨by
    obtain ⟨nv, ha⟩ := h.sp.ar
    exact Nat.le_of_lt (Nat.lt_of_le_of_lt (ha.base A.a (by simp [Blks.list])) (lt_of_block ha.cells)), lt_of_block h.sp.cells, h.sp.fk.1⟩
  have HL1 := Lib.hid (hl.below (hb1.mono HSZ.out.1))
  have HF1 := Lib.hid (hf.below (hb1.mono HSZ.out.1))
  have hck := rwCheck_any l _ Fs _ (((w.alloc (.cells #[.pointer (some ⟨S, 0, none⟩)] 41)).alloc (.cells #[.slice PL l.length cL] 22)).alloc (.cells #[.bool dest] 4)) (HL1.out.mono (Nat.le_trans HSZ.out.1 hb1.size)) (HF1.out.mono (Nat.le_trans HSZ.out.1 hb1.size)) hlen
  rw [he] at hck
  have HCK := Lib.hid hck
  have K0 := Lib.hid k0
  have K1 := Lib.hid k1
  have K2 := Lib.hid k2
  have c0 := cell0 k0
  have c1 := cell0 k1
  have HW := Lib.hid hw
  have HRM := Lib.hid (And.intro hroom hnl)
  have HWW := Lib.hid (And.intro hw1 hw2)
  have H0 := Lib.hid h
  clear h hl hf hck hb1 k0 k1 k2 hw hroom hnl hw1 hw2
  go_enter Tryz.func34, Tryz.ntmps34
  go_upto_region 1 with fail
  generalize (((w.alloc (.cells #[.pointer (some ⟨S, 0, none⟩)] 41)).alloc (.cells #[.slice PL l.length cL] 22)).alloc (.cells #[.bool dest] 4)) = W1 at *
  go_upto_region 6 with ((with_reducible refine HCK.out.mono ?_); rintro e W2 ⟨rfl, hb2⟩; have HB2 := Lib.hid hb2; clear hb2)
  clear c0 c1
  have c0 := cell0 (blk_below HB2.out K0.out)
  have c1 := cell0 (blk_below HB2.out K1.out)
  have c2 := cell0 (blk_below HB2.out K2.out)
  go_upto_region 8 with fail
  have hb3 := below3 W2 (.cells #[.int .i64 0] 113) (.cells #[.int .i64 0] 3) (.cells #[.int .i64 1] 3)
  obtain ⟨j0, j1, j2⟩ := blk3 W2 (.cells #[.int .i64 0] 113) (.cells #[.int .i64 0] 3) (.cells #[.int .i64 1] 3)
  have hb23 : Below W1.heap.size W1 (((W2.alloc (.cells #[.int .i64 0] 113)).alloc (.cells #[.int .i64 0] 3)).alloc (.cells #[.int .i64 1] 3)) := HB2.out.trans (hb3.mono HB2.out.size)
  have hball : Below w.heap.size w (((W2.alloc (.cells #[.int .i64 0] 113)).alloc (.cells #[.int .i64 0] 3)).alloc (.cells #[.int .i64 1] 3)) := HB1.out.trans (hb23.mono HB1.out.size)
  have hz : w.heap.size + 1 + 1 < W2.heap.size := Nat.lt_of_lt_of_le (lt_of_block K2.out) HB2.out.size
  have hlt := lt_of_block j2
  have hin : ∀ x ∈ (⟨W2.heap.size, w.heap.size, W2.heap.size + 1 + 1, w.heap.size + 1 + 1, w.heap.size + 1, W2.heap.size + 1⟩ : Bxs).list, w.heap.size ≤ x ∧ x < (((W2.alloc (.cells #[.int .i64 0] 113)).alloc (.cells #[.int .i64 0] 3)).alloc (.cells #[.int .i64 1] 3)).heap.size := fun x hx => by
    simp only [Bxs.list, List.mem_cons, List.not_mem_nil, or_false] at hx
    rcases hx with rfl | rfl | rfl | rfl | rfl | rfl <;> exact ⟨by omega, by omega⟩
  have hbx : RelBx w (((W2.alloc (.cells #[.int .i64 0] 113)).alloc (.cells #[.int .i64 0] 3)).alloc (.cells #[.int .i64 1] 3)) B S km A Mo σ (⟨W2.heap.size, w.heap.size, W2.heap.size + 1 + 1, w.heap.size + 1 + 1, w.heap.size + 1, W2.heap.size + 1⟩ : Bxs) dest l (.slice PL l.length cL) Fs (.slice PF Fs.length cF) 1 0 :=
    ⟨H0.out.below hball, hkm, j0, blk_below hb23 K0.out, j2, blk_below hb23 K2.out, blk_below hb23 K1.out, j1, by
      simp only [Bxs.list, List.nodup_cons, List.mem_cons, List.not_mem_nil, or_false, not_or, List.nodup_nil, and_true, not_false_eq_true]
      omega, fun x hx => ⟨H0.out.sp.ar.foreign_new hball (hin x hx).1 (hin x hx).2, by have := HSZ.out; have := (hin x hx).1; omega, by have := HSZ.out; have := (hin x hx).1; omega, (hin x hx).1, by have := HSZ.out; have := (hin x hx).1; omega⟩,
      HL1.out.below (hb23.mono (Nat.le_trans HSZ.out.1 HB1.out.size)), HF1.out.below (hb23.mono (Nat.le_trans HSZ.out.1 HB1.out.size)), H0.out.kept hball⟩
  have heach : Calls Tryz.prog 67 #[.slice PL l.length cL, .slice PF Fs.length cF, .bool dest, .func (.func 68) #[] #[.pointer (some ⟨W2.heap.size, 0, none⟩), .pointer (some ⟨w.heap.size, 0, none⟩), .pointer (some ⟨W2.heap.size + 1 + 1, 0, none⟩), .pointer (some ⟨w.heap.size + 1 + 1, 0, none⟩), .pointer (some ⟨w.heap.size + 1, 0, none⟩), .pointer (some ⟨W2.heap.size + 1, 0, none⟩)]] (((W2.alloc (.cells #[.int .i64 0] 113)).alloc (.cells #[.int .i64 0] 3)).alloc (.cells #[.int .i64 1] 3))
      (fun e w' => e = .returned (.tuple #[]) ∧ RelSt w B S km A Mo σ (⟨W2.heap.size, w.heap.size, W2.heap.size + 1 + 1, w.heap.size + 1 + 1, w.heap.size + 1, W2.heap.size + 1⟩ : Bxs) dest l (.slice PL l.length cL) Fs (.slice PF Fs.length cF) (stepC K M) l.length w') :=
    eachW_any (relEach HW.out (by have := HRM.out; omega) (by have := HRM.out; omega)) (((W2.alloc (.cells #[.int .i64 0] 113)).alloc (.cells #[.int .i64 0] 3)).alloc (.cells #[.int .i64 1] 3)) ⟨1, 0, σ, hbx, by rw [Nat.zero_mul]; exact To.refl σ, Den.one H0.out.ok, Den.zero H0.out.ok⟩ hlen hll
  have HEACH := Lib.hid heach
  have e0 := cell0 (blk_below hb23 K0.out)
  have e1 := cell0 (blk_below hb23 K1.out)
  have e2 := cell0 (blk_below hb23 K2.out)
  clear heach hbx hin hlt hz hball hb23 j0 j1 j2 hb3 c0 c1 c2 HCK K0 K1 K2 HL1 HF1 HK1 H1 HW
  generalize (((W2.alloc (.cells #[.int .i64 0] 113)).alloc (.cells #[.int .i64 0] 3)).alloc (.cells #[.int .i64 1] 3)) = W3 at *
  go_upto_region 9 with ((with_reducible refine HEACH.out.mono ?_); rintro e W4 ⟨rfl, ql, qo, τ4, hx4, ht4, hl4, ho4⟩; have HX4 := Lib.hid hx4; have HT4 := Lib.hid ht4; have HL4 := Lib.hid hl4; have HO4 := Lib.hid ho4; clear hx4 ht4 hl4 ho4)
  clear HEACH
  have hb5 : Below W4.heap.size W4 { W4 with drawn := W4.drawn + 1 } := ⟨rfl, rfl, rfl, Nat.le_refl _, fun _ _ => rfl⟩
  have H5 := Lib.hid (HX4.out.below hb5)
  clear hb5 HX4
  refine wp_region_mixZ (KeptS A km { W4 with drawn := W4.drawn + 1 }) 17 [(0, false), (1, false), (2, false), (3, false), (8, false), (4, true), (5, false), (6, false), (7, true), (9, true), (10, false), (11, false), (12, true), (13, true), (14, false), (15, false), (16, true)] (by kernel_rfl) (by kernel_rfl) (KeptS.refl _ _ _) ?_
  generalize { W4 with drawn := W4.drawn + 1 } = V3 at *
  have d0 : ∀ p : InW (KeptS A km V3), p.w.cell? ⟨w.heap.size, 0, none⟩ = some (.pointer (some ⟨S, 0, none⟩)) := fun p => cell0 ((p.h.same _ (H5.out.fo _ (by simp [Bxs.list])).1 (H5.out.fo w.heap.size (by simp [Bxs.list])).2.1).1.trans H5.out.xs)
  have d1 : ∀ p : InW (KeptS A km V3), p.w.cell? ⟨W2.heap.size + 1, 0, none⟩ = some (.int .i64 qo) := fun p => cell0 ((p.h.same _ (H5.out.fo _ (by simp [Bxs.list])).1 (H5.out.fo (W2.heap.size + 1) (by simp [Bxs.list])).2.1).1.trans H5.out.xo)
  have d2 : ∀ p : InW (KeptS A km V3), p.w.cell? ⟨W2.heap.size + 1 + 1, 0, none⟩ = some (.int .i64 ql) := fun p => cell0 ((p.h.same _ (H5.out.fo _ (by simp [Bxs.list])).1 (H5.out.fo (W2.heap.size + 1 + 1) (by simp [Bxs.list])).2.1).1.trans H5.out.xl)
  refine mixZ_take [0, 1, 2, 3, 8] [_, _, _, _, _] rfl rfl ?_
  simp only [List.getElem_toArray, List.getElem_cons_zero, List.getElem_cons_succ]
  repeat (go_big_quiet_step (fail))
  refine wpQuiet_nil ?_
  clear d0 d1 d2
  refine mixZ_bar rfl (by rfl) ?_
  simp only [List.getElem_toArray, List.getElem_cons_zero, List.getElem_cons_succ]
  go_simp
  have HKE := Lib.hid (keep_any H5.out.sp (by have := HRM.out; have := HT4.out.nl; omega))
  refine HKE.out.mono ?_
  rintro e V4 hr
  have hk4 := hr.1
  obtain ⟨r5, τ5, rfl, hs5, ht5, hd5⟩ := hr.room (by have := HRM.out; have := HT4.out.hl; omega)
  have H6 := Lib.hid (H5.out.kept hk4 hs5)
  have HT5 := Lib.hid (HT4.out.trans ht5)
  have HD5 := Lib.hid hd5
  have HL5 := Lib.hid (HL4.out.to ht5 H5.out.sp.ok hs5.ok)
  have HO5 := Lib.hid (HO4.out.to ht5 H5.out.sp.ok hs5.ok)
  have HK4 := Lib.hid hk4
  clear hr hs5 ht5 hd5 hk4 HKE HL4 HO4
  refine ⟨KeptS A km V3, HK4.out, fun _ h => h, ?_⟩
  refine mixZ_take [5, 6] [_, _] rfl rfl ?_
  simp only [List.getElem_toArray, List.getElem_cons_zero, List.getElem_cons_succ]
  repeat (go_big_quiet_step (fail))
  refine wpQuiet_nil ?_
  refine mixZ_bar rfl (by rfl) ?_
  simp only [List.getElem_toArray, List.getElem_cons_zero, List.getElem_cons_succ]
  go_simp
  refine (take_ok W2.heap.size r5 V4 H6.out.xb).mono ?_
  rintro e V5 ⟨rfl, hb5⟩
  have H7 := Lib.hid (H6.out.below hb5)
  have HK5 := Lib.hid (HK4.out.trans (H6.out.sp.kept hb5))
  clear hb5 H6 HK4
  refine ⟨KeptS A km V3, HK5.out, fun _ h => h, ?_⟩
  refine mixZ_bar rfl (by rfl) ?_
  simp only [List.getElem_toArray, List.getElem_cons_zero, List.getElem_cons_succ]
  go_simp
  have HWH := Lib.hid (relWhere_yes H7.out.sp HD5.out HL5.out (leftW_set dest l Fs l.length) (a := K) (b := K) (Grow.wid H7.out.sp.ok.wf.two HWW.out.1) (by have := HRM.out; have := HT5.out.nl; omega))
  refine HWH.out.mono ?_
  rintro e V6 hr
  have hk6 := hr.1
  obtain ⟨r6, τ6, rfl, hs6, ht6, hd6⟩ := hr.room (by have := HRM.out; have := HT5.out.hl; omega)
  have H8 := Lib.hid (H7.out.kept hk6 hs6)
  have HT6 := Lib.hid (HT5.out.trans ht6)
  have HD6 := Lib.hid hd6
  have HO6 := Lib.hid (HO5.out.to ht6 H7.out.sp.ok hs6.ok)
  have HK6 := Lib.hid (HK5.out.trans hk6)
  clear hr hs6 ht6 hd6 hk6 HWH HL5 HO5 H7 HK5
  refine ⟨KeptS A km V3, HK6.out, fun _ h => h, ?_⟩
  refine mixZ_take [10, 11] [_, _] rfl rfl ?_
  simp only [List.getElem_toArray, List.getElem_cons_zero, List.getElem_cons_succ]
  repeat (go_big_quiet_step (fail))
  refine wpQuiet_nil ?_
  refine mixZ_bar rfl (by rfl) ?_
  simp only [List.getElem_toArray, List.getElem_cons_zero, List.getElem_cons_succ]
  go_simp
  refine (take_ok W2.heap.size r6 V6 H8.out.xb).mono ?_
  rintro e V7 ⟨rfl, hb7⟩
  have H9 := Lib.hid (H8.out.below hb7)
  have HK7 := Lib.hid (HK6.out.trans (H8.out.sp.kept hb7))
  clear hb7 H8 HK6
  refine ⟨KeptS A km V3, HK7.out, fun _ h => h, ?_⟩
  refine mixZ_bar rfl (by rfl) ?_
  simp only [List.getElem_toArray, List.getElem_cons_zero, List.getElem_cons_succ]
  go_simp
  have HEI := Lib.hid (relEither_yes H9.out.sp HO6.out HD6.out (a := K2) (b := K2) (Grow.wid H9.out.sp.ok.wf.two HWW.out.2) (by have := HRM.out; have := HT6.out.nl; omega))
  refine HEI.out.mono ?_
  rintro e V8 hr
  have hk8 := hr.1
  obtain ⟨r7, τ7, rfl, hs7, ht7, hd7⟩ := hr.room (by have := HRM.out; have := HT6.out.hl; omega)
  have H10 := Lib.hid (H9.out.kept hk8 hs7)
  have HT7 := Lib.hid (HT6.out.trans ht7)
  have HD7 := Lib.hid (show Den τ7 r7 (relW dest l Fs) from hd7)
  have HK8 := Lib.hid (HK7.out.trans hk8)
  clear hr hs7 ht7 hd7 hk8 HEI HD6 HO6 H9 HK7
  refine ⟨KeptS A km V3, HK8.out, fun _ h => h, ?_⟩
  refine mixZ_take [14, 15] [_, _] rfl rfl ?_
  simp only [List.getElem_toArray, List.getElem_cons_zero, List.getElem_cons_succ]
  repeat (go_big_quiet_step (fail))
  refine wpQuiet_nil ?_
  refine mixZ_bar rfl (by rfl) ?_
  simp only [List.getElem_toArray, List.getElem_cons_zero, List.getElem_cons_succ]
  go_simp
  refine (take_ok W2.heap.size r7 V8 H10.out.xb).mono ?_
  rintro e V9 ⟨rfl, hb9⟩
  have H11 := Lib.hid (H10.out.below hb9)
  have HK9 := Lib.hid (HK8.out.trans (H10.out.sp.kept hb9))
  clear hb9 H10 HK8
  refine ⟨KeptS A km V3, HK9.out, fun _ h => h, ?_⟩
  have c7 : V9.cell? ⟨W2.heap.size + 1, 0, none⟩ = some (.int .i64 qo) := cell0 H11.out.xo
  have f7 : V9.frozen? ⟨W2.heap.size + 1, 0, none⟩ = false := frozen_of_row _ _ 0 _ _ H11.out.xo
  have H12 := Lib.hid (H11.out.setO r7)
  refine mixZ_end rfl (by rfl) ?_
  simp only [List.getElem_toArray, List.getElem_cons_zero, List.getElem_cons_succ]
  go_simp
  have H13 : Hid (RelBx w (V9.setCell ⟨W2.heap.size + 1, 0, none⟩ (.int .i64 r7)) B S km A Mo τ7 (⟨W2.heap.size, w.heap.size, W2.heap.size + 1 + 1, w.heap.size + 1 + 1, w.heap.size + 1, W2.heap.size + 1⟩ : Bxs) dest l (.slice PL l.length cL) Fs (.slice PF Fs.length cF) ql r7) := Lib.hid H12.out
  clear c7 f7 H11 H12 HK9
  generalize V9.setCell ⟨W2.heap.size + 1, 0, none⟩ (.int .i64 r7) = W10 at *
  have cb : W10.cell? ⟨W2.heap.size, 0, none⟩ = some (.int .i64 0) := cell0 H13.out.xb
  have co : W10.cell? ⟨W2.heap.size + 1, 0, none⟩ = some (.int .i64 r7) := cell0 H13.out.xo
  have HFIN : Hid (SpOk W10 B S km A Mo τ7 ∧ KeptS A km w W10 ∧ To (l.length * stepC K M + 936 + (K + K2)) (l.length * stepC K M + 936 + (K + K2)) σ τ7 ∧ Den τ7 r7 (relW dest l Fs)) := Lib.hid ⟨H13.out.sp, H13.out.kp, HT7.out.mono (by omega) (by omega), HD7.out⟩
  clear H13 HT7 HD7
  go_wp2
  go_ret2
  exact ⟨r7, τ7, rfl, HFIN.out⟩
end
end Go.Proofs.YtdjikiakcfbklaaGreat

/-
  How many nodes the relation of the small example takes; where it leads.
-/
namespace Go.Proofs.YtdjikiakcfbklaaGreat
open Go Go.RowKit Go.ChangeMaps Go.MapKept Go.Maps Go.Lib Go.Sort

/-- A function of the headers' bits with c cuts at most at each variable. -/
structure WC (F : Fun) (c : Nat) : Prop where
  h : Hangs F 0 208
  c : ∀ v, CutLe F v c
theorem WC.wid {F : Fun} {c K : Nat} (h : WC F c) (hc : 208 * c ≤ K) : Wid F K := (Wid.all h.h h.c).mono hc
theorem WC.mono {F : Fun} {c d : Nat} (h : WC F c) (hc : c ≤ d) : WC F d := ⟨h.h, fun v => (h.c v).mono hc⟩
theorem WC.op2 {F G : Fun} {a b : Nat} (o : Bool → Bool → Bool) (f : WC F a) (g : WC G b) : WC (fun s => o (F s) (G s)) (a * b) := ⟨f.h.op2 o g.h, fun v => (f.c v).op2 o (g.c v)⟩
theorem WC.const (b : Bool) : WC (fun _ => b) 1 := ⟨Hangs.const b 0 208, fun v => CutLe.const b v⟩
theorem WC.bits (a n v : Nat) (h : a + n ≤ 104) : WC (bitsF a 0 n v n) 2 := ⟨bitsF_hang a 0 n v (by omega) h, fun u => (bitsF_cut a 0 n v u (by omega) n (Nat.le_refl _)).le⟩
theorem WC.put (dest : Bool) (x : RewV) : WC (rwPut dest x) 6 := by
  cases dest
  · exact ⟨putF_hang 0 32 _ (by omega), fun u => putF_cut 0 32 _ u⟩
  · exact ⟨putF_hang 32 32 _ (by omega), fun u => putF_cut 32 32 _ u⟩
theorem WC.keep : WC (sameF 0 0 104) 3 := ⟨sameF_hang 0 0, fun u => (sameF_cut 0 0 u 104 (Nat.le_refl _)).le⟩
theorem WC.span (a n lo hi : Nat) (h : a + n ≤ 104) : WC (spanF a n lo hi) 9 := ⟨spanF_hang a n lo hi h, fun u => spanF_cut a n lo hi u⟩
/-- The rule of what comes from 10/8. -/
def tenR : RuleV := ⟨true, -1, 167772160, 8, 0, 0, 0, 65535, 0, 65535, by omega, by omega, by omega, by omega, by omega, by omega, by omega⟩
theorem ten_one : ruleK tenR 1 = bitsF 0 0 8 10 8 := by
  funext s
  show (true && bitsF 0 0 8 10 8 s) = _
  simp
theorem ten_ask : ∀ k, 1 ≤ k → k < 4 → askF tenR k = fun _ => true := by
  intro k h1 hk
  obtain rfl | rfl | rfl : k = 1 ∨ k = 2 ∨ k = 3 := by omega
  · rfl
  · exact spanF_all 72 16 16 (Nat.le_refl _)
  · exact spanF_all 88 16 16 (Nat.le_refl _)
theorem ten_K : ∀ k, 1 ≤ k → k ≤ 4 → ruleK tenR k = bitsF 0 0 8 10 8 := by
  intro k
  induction k with
  | zero => intro h; omega
  | succ k ih =>
    intro _ hk
    rcases Nat.eq_zero_or_pos k with rfl | h0
    · exact ten_one
    · unfold ruleK
      rw [ih h0 (by omega), ten_ask k h0 (by omega)]
      funext s
      simp
theorem ten_F : ruleF tenR = bitsF 0 0 8 10 8 := ten_K 4 (by omega) (Nat.le_refl _)
theorem ten_wc (j : Nat) (hj : j ≤ 5) : WC (ruleK tenR j) 18 := by
  rcases Nat.eq_zero_or_pos j with rfl | h0
  · exact (WC.const true).mono (by omega)
  · rcases Nat.lt_or_ge j 5 with h1 | h1
    · rw [ten_K j h0 (by omega)]
      exact (WC.bits 0 8 10 (by omega)).mono (by omega)
    · obtain rfl : j = 5 := by omega
      show WC (fun s => ruleK tenR 4 s && spanF 64 8 _ _ s) 18
      rw [ten_K 4 (by omega) (Nat.le_refl _)]
      exact (WC.bits 0 8 10 (by omega)).op2 (fun x y => x && y) (WC.span 64 8 _ _ (by omega))
theorem open_wc (j : Nat) (hj : j ≤ 5) : WC (ruleK openR j) 18 := by
  rcases Nat.lt_or_ge j 5 with h1 | h1
  · rw [show ruleK openR j = fun _ => true from wide_ruleK true (-1) (by omega) j (by omega)]
    exact (WC.const true).mono (by omega)
  · obtain rfl : j = 5 := by omega
    rw [show ruleK openR 5 = spanF 64 8 (-1 : Int).toNat (-1 : Int).toNat from wide_five true (-1) (by omega)]
    exact (WC.span 64 8 _ _ (by omega)).mono (by omega)
/-- Filters of one rule that permits. -/
theorem one_left1 (r : RuleV) : leftF [r] 1 = fun s => leftF [r] 0 s && !ruleF r s := leftF_succ (show [r][0]? = some r from rfl)
theorem one_dec (r : RuleV) : decF [r] 0 = fun s => leftF [r] 0 s && ruleF r s := decF_eq (show [r][0]? = some r from rfl)
theorem one_left0 (r : RuleV) : leftF [r] 0 = fun _ => true := rfl
theorem one_set (r : RuleV) (hp : r.permit = true) : setF [r] 1 = ruleF r := by
  show (if permitAt [r] 0 then fun s => setF [r] 0 s || decF [r] 0 s else setF [r] 0) = _
  rw [if_pos (show permitAt [r] 0 = true from hp), one_dec, one_left0]
  funext s
  show (false || (true && ruleF r s)) = ruleF r s
  simp
theorem one_filt {r : RuleV} (hj : ∀ j, j ≤ 5 → WC (ruleK r j) 18) (hF : WC (ruleF r) 2) {K : Nat} (hK : 3744 ≤ K) : FiltW [r] K := by
  intro k x hx
  obtain rfl : k = 0 := by
    have := (List.getElem?_eq_some_iff.1 hx).1
    simp at this
    omega
  obtain rfl : x = r := by injection hx with hx; exact hx.symm
  refine ⟨fun j h => (hj j h).wid (by omega), ?_, ?_⟩
  · rw [one_dec, one_left0]
    exact ((WC.const true).op2 (fun x y => x && y) hF).wid (by omega)
  · rw [one_left1, one_left0]
    exact ((WC.const true).op2 (fun x y => x && !y) hF).wid (by omega)
theorem one_sets {r : RuleV} (hp : r.permit = true) (hF : WC (ruleF r) 2) {K : Nat} (hK : 3744 ≤ K) : ∀ j, j ≤ [r].length → Wid (setF [r] j) K := by
  intro j hj
  have h1 : [r].length = 1 := rfl
  obtain rfl | rfl : j = 0 ∨ j = 1 := by omega
  · exact (WC.const false).wid (by omega)
  · rw [one_set r hp]; exact hF.wid (by omega)
theorem ten_F2 : WC (ruleF tenR) 2 := by rw [ten_F]; exact WC.bits 0 8 10 (by omega)
theorem open_F1 : WC (ruleF openR) 1 := by rw [openR_F]; exact WC.const true
/-- The small example. -/
def smallL : List RewV := [⟨false, ⟨#[102]⟩, 16909060, by omega⟩, ⟨true, ⟨#[103]⟩, 84281096, by omega⟩, ⟨false, ⟨#[103]⟩, 151587081, by omega⟩]
def smallF (v0 v1 : Value) : List FiltV := [⟨⟨#[102]⟩, v0, [tenR]⟩, ⟨⟨#[103]⟩, v1, [openR]⟩]
theorem nm_f : (⟨#[102]⟩ : ByteArray).toList = [102] := by
  first
    | decide +kernel
    | simp [ByteArray.toList, ByteArray.toList.loop]
theorem nm_g : (⟨#[103]⟩ : ByteArray).toList = [103] := by
  first
    | decide +kernel
    | simp [ByteArray.toList, ByteArray.toList.loop]
theorem small_f (v0 v1 : Value) : namL (smallF v0 v1) ⟨#[102]⟩ = [tenR] := by
  have hn : ¬ (⟨#[102]⟩ : ByteArray).toList = [] := by rw [nm_f]; simp
  have h := fnd_hit (Fs := smallF v0 v1) (nm := ⟨#[102]⟩) (k := 0) (idxP_hit _ _ 0 _ rfl (by unfold hasNm; simp) (fun j y hj _ => by omega)) rfl
  unfold namL fndL
  rw [if_neg hn, h]
theorem small_g (v0 v1 : Value) : namL (smallF v0 v1) ⟨#[103]⟩ = [openR] := by
  have hn : ¬ (⟨#[103]⟩ : ByteArray).toList = [] := by rw [nm_g]; simp
  have h := fnd_hit (Fs := smallF v0 v1) (nm := ⟨#[103]⟩) (k := 1) (idxP_hit _ _ 1 _ rfl (by unfold hasNm; simp) (fun j y hj hy => by
    obtain rfl : j = 0 := by omega
    injection hy with hy
    subst hy
    unfold hasNm
    rw [nm_f, nm_g]
    decide)) rfl
  unfold namL fndL
  rw [if_neg hn, h]
theorem small_rs (v0 v1 : Value) {x : RewV} (h : x.nm = ⟨#[102]⟩) : rwSet (smallF v0 v1) x = bitsF 0 0 8 10 8 := by
  unfold rwSet
  rw [h, small_f]
  exact (one_set tenR rfl).trans ten_F
theorem small_rg (v0 v1 : Value) {x : RewV} (h : x.nm = ⟨#[103]⟩) : rwSet (smallF v0 v1) x = fun _ => true := by
  unfold rwSet
  rw [h, small_g]
  exact (one_set openR rfl).trans openR_F
def sx0 : RewV := ⟨false, ⟨#[102]⟩, 16909060, by omega⟩
def sx2 : RewV := ⟨false, ⟨#[103]⟩, 151587081, by omega⟩
theorem small_left (v0 v1 : Value) : leftW false smallL (smallF v0 v1) 1 = (fun s => true && !bitsF 0 0 8 10 8 s) ∧ leftW false smallL (smallF v0 v1) 2 = (fun s => true && !bitsF 0 0 8 10 8 s) ∧ leftW false smallL (smallF v0 v1) 3 = (fun s => (true && !bitsF 0 0 8 10 8 s) && !true) := by
  have h1 : leftW false smallL (smallF v0 v1) 1 = (fun s => true && !bitsF 0 0 8 10 8 s) := by
    refine (leftW_step (dest := false) (l := smallL) (Fs := smallF v0 v1) (k := 0) (x := sx0) rfl rfl).trans ?_
    rw [small_rs v0 v1 rfl]
    rfl
  have h2 : leftW false smallL (smallF v0 v1) 2 = (fun s => true && !bitsF 0 0 8 10 8 s) := by
    exact (leftW_skip (dest := false) (l := smallL) (Fs := smallF v0 v1) (k := 1) (x := ⟨true, ⟨#[103]⟩, 84281096, by omega⟩) rfl (by simp)).trans h1
  refine ⟨h1, h2, ?_⟩
  refine (leftW_step (dest := false) (l := smallL) (Fs := smallF v0 v1) (k := 2) (x := sx2) rfl rfl).trans ?_
  rw [small_rg v0 v1 rfl, h2]
theorem small_out (v0 v1 : Value) : outW false smallL (smallF v0 v1) 1 = (fun s => false || (rwPut false sx0 s && (true && bitsF 0 0 8 10 8 s))) ∧ outW false smallL (smallF v0 v1) 2 = (fun s => false || (rwPut false sx0 s && (true && bitsF 0 0 8 10 8 s))) ∧
    outW false smallL (smallF v0 v1) 3 = (fun s => (false || (rwPut false sx0 s && (true && bitsF 0 0 8 10 8 s))) || (rwPut false sx2 s && ((true && !bitsF 0 0 8 10 8 s) && true))) := by
  have h1 : outW false smallL (smallF v0 v1) 1 = (fun s => false || (rwPut false sx0 s && (true && bitsF 0 0 8 10 8 s))) := by
    refine (outW_step (dest := false) (l := smallL) (Fs := smallF v0 v1) (k := 0) (x := sx0) rfl rfl).trans ?_
    rw [small_rs v0 v1 rfl]
    rfl
  have h2 : outW false smallL (smallF v0 v1) 2 = (fun s => false || (rwPut false sx0 s && (true && bitsF 0 0 8 10 8 s))) := by
    exact (outW_skip (dest := false) (l := smallL) (Fs := smallF v0 v1) (k := 1) (x := ⟨true, ⟨#[103]⟩, 84281096, by omega⟩) rfl (by simp)).trans h1
  refine ⟨h1, h2, ?_⟩
  refine (outW_step (dest := false) (l := smallL) (Fs := smallF v0 v1) (k := 2) (x := sx2) rfl rfl).trans ?_
  rw [small_rg v0 v1 rfl, h2, (small_left v0 v1).2.1]
theorem wcB : WC (bitsF 0 0 8 10 8) 2 := WC.bits 0 8 10 (by omega)
theorem wcL : WC (fun s => true && !bitsF 0 0 8 10 8 s) 2 := (WC.const true).op2 (fun x y => x && !y) wcB
theorem wcO : WC (fun s => true && bitsF 0 0 8 10 8 s) 2 := (WC.const true).op2 (fun x y => x && y) wcB
theorem wcW0 : WC (fun s => rwPut false sx0 s && (true && bitsF 0 0 8 10 8 s)) 12 := (WC.put false sx0).op2 (fun x y => x && y) wcO
theorem wcW2 : WC (fun s => rwPut false sx2 s && ((true && !bitsF 0 0 8 10 8 s) && true)) 12 := (WC.put false sx2).op2 (fun x y => x && y) (wcL.op2 (fun x y => x && y) (WC.const true))
theorem wcO1 : WC (fun s => false || (rwPut false sx0 s && (true && bitsF 0 0 8 10 8 s))) 12 := (WC.const false).op2 (fun x y => x || y) wcW0
theorem wcO3 : WC (fun s => (false || (rwPut false sx0 s && (true && bitsF 0 0 8 10 8 s))) || (rwPut false sx2 s && ((true && !bitsF 0 0 8 10 8 s) && true))) 144 := wcO1.op2 (fun x y => x || y) wcW2
theorem small_step (v0 v1 : Value) (k : Nat) (x : RewV) (hx : smallL[k]? = some x) (hd : x.dest = false) : StepW false smallL (smallF v0 v1) 29952 1 k x := by
  have hk := (List.getElem?_eq_some_iff.1 hx).1
  have h3 : smallL.length = 3 := rfl
  obtain rfl | rfl | rfl : k = 0 ∨ k = 1 ∨ k = 2 := by omega
  · obtain rfl : x = sx0 := by injection hx with hx; exact hx.symm
    have e0 : leftW false smallL (smallF v0 v1) 0 = fun _ => true := rfl
    have e1 : outW false smallL (smallF v0 v1) 0 = fun _ => false := rfl
    have hn : namL (smallF v0 v1) sx0.nm = [tenR] := small_f v0 v1
    refine ⟨?_, ?_, ?_, ?_, ?_, ?_, ?_, ?_⟩
    · rw [hn]; exact filtE_3 (by simp) (by decide +kernel)
    · rw [hn]; exact one_filt ten_wc ten_F2 (by omega)
    · rw [hn]; exact one_sets rfl ten_F2 (by omega)
    · rw [hn]; exact Nat.le_refl 1
    · rw [e0, small_rs v0 v1 rfl]; exact wcO.wid (by omega)
    · rw [e0, small_rs v0 v1 rfl]; exact wcL.wid (by omega)
    · rw [e0, small_rs v0 v1 rfl]; exact wcW0.wid (by omega)
    · rw [e0, e1, small_rs v0 v1 rfl]; exact wcO1.wid (by omega)
  · exfalso
    have e : x.dest = true := by injection hx with hx; rw [← hx]
    rw [hd] at e
    cases e
  · obtain rfl : x = sx2 := by injection hx with hx; exact hx.symm
    have hn : namL (smallF v0 v1) sx2.nm = [openR] := small_g v0 v1
    have e2 := (small_left v0 v1).2.1
    have o2 := (small_out v0 v1).2.1
    refine ⟨?_, ?_, ?_, ?_, ?_, ?_, ?_, ?_⟩
    · rw [hn]; exact openR_filtE 1 (by omega)
    · rw [hn]; exact one_filt open_wc (open_F1.mono (by omega)) (by omega)
    · rw [hn]; exact one_sets rfl (open_F1.mono (by omega)) (by omega)
    · rw [hn]; exact Nat.le_refl 1
    · rw [e2, small_rg v0 v1 rfl]; exact (wcL.op2 (fun x y => x && y) (WC.const true)).wid (by omega)
    · rw [e2, small_rg v0 v1 rfl]; exact (wcL.op2 (fun x y => x && !y) (WC.const true)).wid (by omega)
    · rw [e2, small_rg v0 v1 rfl]; exact wcW2.wid (by omega)
    · rw [e2, o2, small_rg v0 v1 rfl]; exact wcO3.wid (by omega)
theorem small_keep (v0 v1 : Value) : Wid (fun s => sameF 0 0 104 s && leftW false smallL (smallF v0 v1) smallL.length s) 29952 := by
  show Wid (fun s => sameF 0 0 104 s && leftW false smallL (smallF v0 v1) 3 s) 29952
  rw [(small_left v0 v1).2.2]
  exact (WC.keep.op2 (fun x y => x && y) (wcL.op2 (fun x y => x && !y) (WC.const true))).wid (by omega)
theorem small_rel (v0 v1 : Value) : Wid (relW false smallL (smallF v0 v1)) 179712 := by
  show Wid (fun s => outW false smallL (smallF v0 v1) 3 s || (sameF 0 0 104 s && leftW false smallL (smallF v0 v1) 3 s)) 179712
  rw [(small_left v0 v1).2.2, (small_out v0 v1).2.2]
  exact (wcO3.op2 (fun x y => x || y) (WC.keep.op2 (fun x y => x && y) (wcL.op2 (fun x y => x && !y) (WC.const true)))).wid (by omega)
end Go.Proofs.YtdjikiakcfbklaaGreat

/-
  All variables of the bits, in a list.
-/
namespace Go.Proofs.YtdjikiakcfbklaaGreat
open Go Go.RowKit Go.ChangeMaps Go.MapKept Go.Maps Go.Lib Go.Sort

/-- The variables of the bits from 0 to n - 1. -/
def varsL (o n : Nat) : List Int := (List.range n).map fun i => ((2 * i + o : Nat) : Int)
theorem varsL_len (o n : Nat) : (varsL o n).length = n := by simp [varsL]
theorem varsL_snoc (o n : Nat) : varsL o (n + 1) = varsL o n ++ [((2 * n + o : Nat) : Int)] := by simp [varsL, List.range_succ]
theorem varsL_get (o n : Nat) {i : Nat} (h : i < n) : (varsL o n)[i]? = some ((2 * i + o : Nat) : Int) := by simp [varsL, h]
set_option maxRecDepth 100000 in
set_option maxHeartbeats 2000000 in
theorem all_any (w : World) {vf : FuncId} {o : Nat} (V : VarF vf o) :
    Calls Tryz.prog 53 #[.func (.func vf) #[] #[]] w fun e w' => ∃ v, e = .returned v ∧ w'.ownsRow w.heap.size 3 1 v 104 (icells (varsL o 104)) ∧ Below w.heap.size w w' := by
  have hen := V.en
  have HV := Lib.hid V
  obtain ⟨i0, hif, hz0, hz1, hz2⟩ := info_parts Tryz.infoInt
  clear V
  go_enter Tryz.func53, Tryz.ntmps53
  go_wp2
  go_loopw [3, 5] (fun r i wr => ∃ m : Nat, m ≤ 104 ∧ i = .int .i64 m ∧ Hid (wr.ownsRow w.heap.size 3 1 r m (icells (varsL o m))) ∧ Hid (Below w.heap.size w wr)) (fun _ i _ => 104 - (intOf i).toNat)
  case atStart => exact ⟨0, by omega, rfl, Lib.hid (World.ownsRow_nil _ _ _ _), Lib.hid (Below.refl _ _)⟩
  case round =>
    obtain ⟨m, hm, rfl, HO, HB⟩ := hrel
    by_cases hlt : m < 104
    · have hI : (m : Int) < 104 := by omega
      obtain ⟨x, hx⟩ : ∃ x, x = 2 * m + o := ⟨_, rfl⟩
      have HN := Lib.hid (show ∀ W, Calls Tryz.prog vf #[.int .i64 m] W (fun e w' => e = .returned (.int .i64 (x : Int)) ∧ w' = W) from fun W => by
        have := HV.out.calls m W (by omega)
        rw [← hx] at this
        exact this)
      have HX := Lib.hid hx
      have hbs := HB.out.size
      have hml : m ≤ 1099511627776 := by omega
      obtain ⟨Ar, cr, hr, _⟩ := owns_form HO.out
      subst hr
      clear hx
      go_upto_region 5 with fail
      go_wp2_with (first
        | ((with_reducible refine (HN.out _).mono ?_); rintro e _ ⟨rfl, rfl⟩)
        | (at_builtin; refine wpList_push2 (v := .slice Ar m cr) rfl _ _ 93 rfl 3 i0 _ 1 8 Tryz.underlying93 hif hz0 hz1 hz2 rfl (by decide) (by decide) [.int .i64 x] rfl rfl rfl HO.out rfl (one_i64 _) hml hbs ?_; intro v2 w2 hown2 hg2 hmv2; have HO2 := Lib.hid hown2; have HB2 := Lib.hid (below_grown HB.out hbs hg2 (fun g hg => (HO.out.lt g hg).1)); clear hown2 hg2 hmv2))
      exact ⟨⟨m + 1, by omega, by go_num, Lib.hid (by rw [varsL_snoc, ← HX.out]; simpa [icells] using HO2.out), HB2⟩, by simp only [intOf]; omega⟩
    · obtain rfl : m = 104 := by omega
      have hI : ¬ ((104 : Nat) : Int) < 104 := by omega
      go_wp2
      go_ret
      exact ⟨_, rfl, HO.out, HB.out⟩
end Go.Proofs.YtdjikiakcfbklaaGreat

/-
  Numbers in their one form (plain; no program in sight): what the program's 'number' and the document's 'Read' read.
-/
namespace Go.Proofs.YtdjikiakcfbklaaGreat
open Go

def isDig (c : UInt8) : Bool := decide (48 ≤ c.toNat) && decide (c.toNat ≤ 57)
def valD (acc : Nat) (l : List UInt8) : Nat := l.foldl (fun n c => 10 * n + (c.toNat - 48)) acc
/-- The number of a text in its one form, at most m. -/
def readB (l : List UInt8) (m : Nat) : Option Nat :=
  if l = [] ∨ (1 < l.length ∧ l.head? = some 48) ∨ l.all isDig = false then none else if valD 0 l ≤ m then some (valD 0 l) else none

theorem valD_append (acc : Nat) (l r : List UInt8) : valD acc (l ++ r) = valD (valD acc l) r := by simp [valD]
theorem dig_of (k : Nat) (h : k < 10) : isDig (UInt8.ofNat (48 + k)) = true ∧ (UInt8.ofNat (48 + k)).toNat - 48 = k := by
  have e : (UInt8.ofNat (48 + k)).toNat = 48 + k := by simp; omega
  unfold isDig
  rw [e]
  exact ⟨by simp; omega, by omega⟩
theorem of_dig (c : UInt8) (h : isDig c = true) : c = UInt8.ofNat (48 + (c.toNat - 48)) ∧ c.toNat - 48 < 10 := by
  unfold isDig at h
  simp at h
  refine ⟨?_, by omega⟩
  apply UInt8.toNat_inj.1
  simp
  omega
theorem decDigits_small {n : Nat} (h : n < 10) : Lib.decDigits n = [UInt8.ofNat (48 + n)] := Lib.decDigits_one h
theorem decDigits_big {n : Nat} (h : ¬ n < 10) : Lib.decDigits n = Lib.decDigits (n / 10) ++ [UInt8.ofNat (48 + n % 10)] := by rw [Lib.decDigits, dif_neg h]
theorem decDigits_ne_nil (n : Nat) : Lib.decDigits n ≠ [] := by
  by_cases h : n < 10
  · rw [decDigits_small h]; simp
  · rw [decDigits_big h]; simp
theorem decDigits_facts : ∀ (k n : Nat), n ≤ k → (Lib.decDigits n).all isDig = true ∧ valD 0 (Lib.decDigits n) = n ∧ (0 < n → (Lib.decDigits n).head? ≠ some 48) := by
  intro k
  induction k with
  | zero =>
    intro n hn
    obtain rfl : n = 0 := by omega
    rw [decDigits_small (by omega)]
    exact ⟨by decide, by decide, fun h => absurd h (by omega)⟩
  | succ k ih =>
    intro n hn
    by_cases h : n < 10
    · rw [decDigits_small h]
      obtain ⟨a, b⟩ := dig_of n h
      generalize UInt8.ofNat (48 + n) = x at a b
      refine ⟨by simp [a], by simp [valD, b], fun h0 => ?_⟩
      intro e
      simp at e
      subst e
      have : (48 : UInt8).toNat - 48 = 0 := by decide
      omega
    · rw [decDigits_big h]
      obtain ⟨a, b, c⟩ := ih (n / 10) (by omega)
      obtain ⟨d, e⟩ := dig_of (n % 10) (by omega)
      generalize UInt8.ofNat (48 + n % 10) = x at d e
      refine ⟨by rw [List.all_append, a]; simp [d], ?_, fun _ => ?_⟩
      · rw [valD_append, b]
        simp only [valD, List.foldl_cons, List.foldl_nil, e]
        omega
      · rw [List.head?_append]
        cases hh : (Lib.decDigits (n / 10)).head? with
        | none => exact absurd (List.head?_eq_none_iff.1 hh) (decDigits_ne_nil _)
        | some x =>
          have := c (by omega)
          rw [hh] at this
          simpa using this
theorem decDigits_all (n : Nat) : (Lib.decDigits n).all isDig = true := (decDigits_facts n n (Nat.le_refl _)).1
theorem decDigits_val (n : Nat) : valD 0 (Lib.decDigits n) = n := (decDigits_facts n n (Nat.le_refl _)).2.1
theorem decDigits_head (n : Nat) (h : 0 < n) : (Lib.decDigits n).head? ≠ some 48 := (decDigits_facts n n (Nat.le_refl _)).2.2 h
theorem decDigits_inj {m n : Nat} (h : Lib.decDigits m = Lib.decDigits n) : m = n := by rw [← decDigits_val m, h, decDigits_val]
theorem decDigits_len (n : Nat) (h : 1 < (Lib.decDigits n).length) : 0 < n := by
  rcases Nat.eq_zero_or_pos n with rfl | h0
  · rw [decDigits_small (by omega)] at h; simp at h
  · exact h0
/-- A text of digits, the first not 0 (or alone), is its number's numeral. -/
theorem decDigits_of : ∀ (k : Nat) (l : List UInt8), l.length ≤ k → l ≠ [] → ¬ (1 < l.length ∧ l.head? = some 48) → l.all isDig = true → Lib.decDigits (valD 0 l) = l := by
  intro k
  induction k with
  | zero => intro l hl hne; exact absurd (List.length_eq_zero_iff.1 (by omega)) hne
  | succ k ih =>
    intro l hl hne hz hall
    obtain ⟨r, c, rfl⟩ : ∃ r c, l = r ++ [c] := ⟨l.dropLast, l.getLast hne, (List.dropLast_concat_getLast hne).symm⟩
    have hc : isDig c = true := by simp at hall; exact hall.2
    have hr : r.all isDig = true := by simp at hall ⊢; exact hall.1
    obtain ⟨e1, e2⟩ := of_dig c hc
    have ev : valD 0 (r ++ [c]) = 10 * valD 0 r + (c.toNat - 48) := by rw [valD_append]; rfl
    by_cases hrn : r = []
    · subst hrn
      rw [ev]
      have : valD 0 [] = 0 := rfl
      rw [this, decDigits_small (by omega), Nat.mul_zero, Nat.zero_add, ← e1]
      rfl
    · have hr0 : r.head? ≠ some 48 := by
        intro h0
        apply hz
        refine ⟨?_, by rw [List.head?_append, h0]; rfl⟩
        have := List.length_pos_iff.2 hrn
        simp; omega
      have hi := ih r (by simp at hl; omega) hrn (fun h => hr0 h.2) hr
      have hp : 0 < valD 0 r := by
        rcases Nat.eq_zero_or_pos (valD 0 r) with h0 | h0
        · exfalso
          rw [h0, decDigits_small (by omega)] at hi
          exact hr0 (by rw [← hi]; rfl)
        · exact h0
      rw [decDigits_big (by rw [ev]; omega)]
      have d1 : valD 0 (r ++ [c]) / 10 = valD 0 r := by rw [ev]; omega
      have d2 : valD 0 (r ++ [c]) % 10 = c.toNat - 48 := by rw [ev]; omega
      rw [d1, d2, hi, ← e1]
theorem readB_some {l : List UInt8} {m n : Nat} : readB l m = some n ↔ Lib.decDigits n = l ∧ n ≤ m := by
  unfold readB
  constructor
  · intro h
    split at h
    · cases h
    · rename_i hn
      split at h
      · rename_i hm
        injection h with h
        subst h
        have h1 : l ≠ [] := fun e => hn (Or.inl e)
        have h2 : ¬ (1 < l.length ∧ l.head? = some 48) := fun e => hn (Or.inr (Or.inl e))
        have h3 : l.all isDig = true := by
          cases e : l.all isDig
          · exact absurd (Or.inr (Or.inr e)) hn
          · rfl
        exact ⟨decDigits_of _ l (Nat.le_refl _) h1 h2 h3, hm⟩
      · cases h
  · rintro ⟨rfl, hm⟩
    rw [if_neg, decDigits_val, if_pos hm]
    rintro (h | h | h)
    · exact decDigits_ne_nil _ h
    · exact decDigits_head n (decDigits_len n h.1) h.2
    · rw [decDigits_all] at h; cases h
theorem readB_le {l : List UInt8} {m n : Nat} (h : readB l m = some n) : n ≤ m := (readB_some.1 h).2

theorem valD_ge : ∀ (l : List UInt8) (acc : Nat), acc ≤ valD acc l
  | [], acc => Nat.le_refl _
  | c :: r, acc => Nat.le_trans (by omega) (valD_ge r (10 * acc + (c.toNat - 48)))
theorem parse_digits : ∀ (l : List UInt8) (acc : Nat), l.all isDig = true → valD acc l < 18446744073709551616 → Lib.parseUint10 acc l = .ok (valD acc l)
  | [], acc, _, _ => rfl
  | c :: r, acc, h, hv => by
    simp only [List.all_cons, Bool.and_eq_true] at h
    have hc := h.1
    unfold isDig at hc
    simp at hc
    have e : valD acc (c :: r) = valD (10 * acc + (c.toNat - 48)) r := rfl
    have hg := valD_ge r (10 * acc + (c.toNat - 48))
    rw [e] at hv
    unfold Lib.parseUint10
    rw [if_pos (by omega), if_neg (by omega), if_neg (by omega), e, show acc * 10 + (c.toNat - 48) = 10 * acc + (c.toNat - 48) by omega]
    exact parse_digits r _ h.2 hv
theorem atoi_digits (n : Nat) (h : n < 9223372036854775808) : Lib.atoiAll (Lib.decDigits n) = .ok (n : Int) := by
  have hp : Lib.parseMag (Lib.decDigits n) = .ok n := by
    unfold Lib.parseMag
    rw [if_neg (decDigits_ne_nil n), parse_digits _ _ (decDigits_all n) (by rw [decDigits_val]; omega), decDigits_val]
  cases e : Lib.decDigits n with
  | nil => exact absurd e (decDigits_ne_nil n)
  | cons c r =>
    have hall := decDigits_all n
    rw [e] at hall hp
    simp only [List.all_cons, Bool.and_eq_true] at hall
    have hc := hall.1
    unfold isDig at hc
    simp at hc
    rw [Lib.atoiAll_plain c r (by omega) (by omega), hp]
    unfold Lib.signless
    simp
    omega
theorem readB_atoi {l : List UInt8} {m n : Nat} (hm : m < 9223372036854775808) (h : readB l m = some n) : Lib.atoiAll l = .ok (n : Int) := by
  obtain ⟨rfl, hn⟩ := readB_some.1 h
  exact atoi_digits n (by omega)
theorem readB_no {l : List UInt8} {m : Nat} (hm : m < 9223372036854775808) (h : ∀ v, Lib.atoiAll l ≠ .ok v) : readB l m = none := by
  cases e : readB l m with
  | none => rfl
  | some n => exact absurd (readB_atoi hm e) (h _)
theorem readB_neg {l : List UInt8} {m : Nat} {v : Int} (hm : m < 9223372036854775808) (ha : Lib.atoiAll l = .ok v) (h : ¬ (0 ≤ v ∧ v ≤ m ∧ Lib.decDigits v.toNat = l)) : readB l m = none := by
  cases e : readB l m with
  | none => rfl
  | some n =>
    have := readB_atoi hm e
    rw [ha] at this
    injection this with this
    subst this
    have := readB_some.1 e
    exact absurd ⟨by omega, by omega, by simpa using this.1⟩ h
theorem readB_yes {l : List UInt8} {m : Nat} {v : Int} (h0 : 0 ≤ v) (h1 : v ≤ m) (h : Lib.decDigits v.toNat = l) : readB l m = some v.toNat := readB_some.2 ⟨h, by omega⟩

/-- A text cut at each byte c. -/
def pieces (c : UInt8) : List UInt8 → List (List UInt8)
  | [] => [[]]
  | x :: r => if x = c then [] :: pieces c r else (x :: (pieces c r).headD []) :: (pieces c r).tail
theorem pieces_ne (c : UInt8) (l : List UInt8) : pieces c l ≠ [] := by cases l <;> simp [pieces]; split <;> simp
theorem index_one (c x : UInt8) (r : List UInt8) : Lib.index (x :: r) [c] = if x = c then 0 else if Lib.index r [c] = -1 then -1 else Lib.index r [c] + 1 := by
  rw [Lib.index]
  have e : [c].isPrefixOf (x :: r) = (c == x) := by simp [List.isPrefixOf]
  rw [e]
  by_cases h : x = c
  · simp [h]
  · have : (c == x) = false := by simp; exact fun e => h e.symm
    simp [this, h]
theorem pieces_miss (c : UInt8) : ∀ (l : List UInt8), Lib.index l [c] = -1 → pieces c l = [l]
  | [], _ => rfl
  | x :: r, h => by
    rw [index_one] at h
    have hg := Lib.index_ge r [c]
    split at h
    · omega
    · rename_i hx
      split at h
      · rename_i hr
        rw [pieces, if_neg hx, pieces_miss c r hr]
        rfl
      · omega
theorem pieces_hit (c : UInt8) : ∀ (l : List UInt8) (i : Nat), Lib.index l [c] = i → pieces c l = l.take i :: pieces c (l.drop (i + 1))
  | [], i, h => by simp [Lib.index] at h
  | x :: r, i, h => by
    rw [index_one] at h
    have hg := Lib.index_ge r [c]
    split at h
    · rename_i hx
      obtain rfl : i = 0 := by omega
      rw [pieces, if_pos hx]
      rfl
    · rename_i hx
      split at h
      · omega
      · obtain ⟨j, rfl⟩ : ∃ j, i = j + 1 := ⟨i - 1, by omega⟩
        rw [pieces, if_neg hx, pieces_hit c r j (by omega)]
        rfl
theorem split_pieces (c : UInt8) : ∀ (k : Nat) (s : List UInt8), s.length ≤ k → Lib.splitK [c] 0 (Lib.count s [c]) s = pieces c s := by
  intro k
  induction k with
  | zero =>
    intro s hs
    obtain rfl := List.length_eq_zero_iff.1 (Nat.le_zero.1 hs)
    rfl
  | succ k ih =>
    intro s hs
    rcases Lib.index_spec s [c] with ⟨h1, _⟩ | ⟨i, h1, h2, _, _⟩
    · rw [Lib.count_miss h1, pieces_miss c s h1]
      rfl
    · have hroom := Lib.index_room s [c] (by omega)
      simp at hroom
      rw [Lib.count_hit (by simp) h1, pieces_hit c s i h1, Nat.add_comm 1, Lib.splitK, if_neg (by rw [h1]; simp), h1]
      simp only [Int.toNat_natCast, Nat.add_zero, List.length_cons, List.length_nil, Nat.zero_add]
      rw [ih (s.drop (i + 1)) (by simp; omega)]
theorem splitB_pieces (c : UInt8) (s : ByteArray) : (Lib.splitB ⟨#[c]⟩ 0 (Lib.countB s ⟨#[c]⟩) s).map (·.data.toList) = pieces c s.data.toList := by
  rw [Lib.splitB_data]
  exact split_pieces c _ _ (Nat.le_refl _)
theorem countB_pieces (c : UInt8) (s : ByteArray) : Lib.countB s ⟨#[c]⟩ + 1 = (pieces c s.data.toList).length := by
  have h := Lib.splitB_all ⟨#[c]⟩ (Nat.le_refl 1) 0 _ s rfl
  rw [← splitB_pieces, List.length_map, h]

theorem pieces_len (c : UInt8) : ∀ (l p : List UInt8), p ∈ pieces c l → p.length ≤ l.length
  | [], p, h => by simp [pieces] at h; subst h; simp
  | x :: r, p, h => by
    rw [pieces] at h
    split at h
    · rcases List.mem_cons.1 h with rfl | h
      · simp
      · have := pieces_len c r p h; simp; omega
    · rcases List.mem_cons.1 h with rfl | h
      · have hne := pieces_ne c r
        cases hp : pieces c r with
        | nil => exact absurd hp hne
        | cons y ys =>
          have := pieces_len c r y (by rw [hp]; simp)
          simp; omega
      · have := pieces_len c r p (List.mem_of_mem_tail h); simp; omega
/-- The address of a text. -/
def parseB (l : List UInt8) : Option Nat :=
  match pieces 46 l with
  | [a, b, c, d] =>
    match readB a 255, readB b 255, readB c 255, readB d 255 with
    | some a, some b, some c, some d => some (((a * 256 + b) * 256 + c) * 256 + d)
    | _, _, _, _ => none
  | _ => none
theorem parseB_lt {l : List UInt8} {n : Nat} (h : parseB l = some n) : n < 4294967296 := by
  unfold parseB at h
  split at h
  · split at h
    · rename_i h1 h2 h3 h4
      have := readB_le h1; have := readB_le h2; have := readB_le h3; have := readB_le h4
      injection h with h
      omega
    · cases h
  · cases h
example : parseB [49, 48, 46, 49, 46, 50, 46, 51] = some 0x0A010203 := by decide
example : Lib.cut [49, 48, 46, 48, 46, 48, 46, 48, 47, 56] [47] = ([49, 48, 46, 48, 46, 48, 46, 48], [56], true) := by decide
/-- An address's text. -/
def textB (a : Nat) : List UInt8 := Lib.join [Lib.decDigits (a / 16777216 % 256), Lib.decDigits (a / 65536 % 256), Lib.decDigits (a / 256 % 256), Lib.decDigits (a % 256)] [46]
end Go.Proofs.YtdjikiakcfbklaaGreat

/-
  Walks over the addresses' texts: what the library's tables and errors are asked for; number.
-/
namespace Go.Proofs.YtdjikiakcfbklaaGreat
open Go Go.RowKit Go.Sort

theorem below_of_atoi {w w' : World} {t : TypeId} (h : w' = w ∨ ∃ s, w' = Lib.bytesWorld w t s) : Below w.heap.size w w' := by
  rcases h with rfl | ⟨s, rfl⟩
  · exact Below.refl _ _
  · exact Lib.bytesWorld_below _ _ _
theorem below_of_grow {w w' : World} (h : ∃ k os, w' = grow (w.drewN k) os) : Below w.heap.size w w' := by
  obtain ⟨q, os, rfl⟩ := h
  refine ⟨rfl, rfl, rfl, by simp [grow, World.drewN], fun i hi => ?_⟩
  show ((w.heap ++ os)[i]?) = w.heap[i]?
  rw [Array.getElem?_append_left hi]
theorem str_mk (s : ByteArray) : (⟨s.data.toList.toArray⟩ : ByteArray) = s := by cases s; rfl
theorem list_of (s : ByteArray) : s.toList = s.data.toList := Go.ByteArray.toList_eq s

/-- The address's numbers so far. -/
def accB (p : List (List UInt8)) : Nat → Option Nat
  | 0 => some 0
  | k + 1 => match accB p k, (p[k]?).bind (readB · 255) with
    | some a, some n => some (a * 256 + n)
    | _, _ => none
theorem accB_step {p : List (List UInt8)} {k a n : Nat} {l : List UInt8} (h : accB p k = some a) (hl : p[k]? = some l) (hn : readB l 255 = some n) : accB p (k + 1) = some (a * 256 + n) := by
  rw [accB, h, hl, Option.bind_some, hn]
theorem accB_lt {p : List (List UInt8)} : ∀ {k a : Nat}, accB p k = some a → k ≤ 4 → a < 256 ^ k
  | 0, a, h, _ => by injection h with h; omega
  | k + 1, a, h, hk => by
    rw [accB] at h
    split at h
    · rename_i b n h1 h2
      obtain ⟨l, hl, h3⟩ := Option.bind_eq_some_iff.1 h2
      have := accB_lt h1 (by omega)
      have := readB_le h3
      injection h with h
      rw [Nat.pow_succ]
      omega
    · cases h
theorem parseB_four {l : List UInt8} (h : (pieces 46 l).length = 4) : parseB l = accB (pieces 46 l) 4 := by
  unfold parseB
  match hp : pieces 46 l, h with
  | [a, b, c, d], _ =>
    simp only [accB, List.getElem?_cons_zero, List.getElem?_cons_succ, Option.bind_some]
    cases readB a 255 <;> cases readB b 255 <;> cases readB c 255 <;> cases readB d 255 <;> simp
theorem parseB_not {l : List UInt8} (h : (pieces 46 l).length ≠ 4) : parseB l = none := by
  unfold parseB
  split
  · rename_i hp; rw [hp] at h; exact absurd rfl h
  · rfl
theorem accB_none {p : List (List UInt8)} {k : Nat} {l : List UInt8} (hl : p[k]? = some l) (hn : readB l 255 = none) : ∀ j, k < j → accB p j = none
  | 0, h => by omega
  | j + 1, h => by
    rw [accB]
    rcases (show k = j ∨ k < j by omega) with rfl | h1
    · rw [hl, Option.bind_some, hn]
      cases accB p k <;> rfl
    · rw [accB_none hl hn j h1]
/-- What Parse hands back. -/
def adE (o : Option Nat) : Int := if o.isSome then 0 else 4
def adV (o : Option Nat) : Int := ((o.getD 0 : Nat) : Int)
end Go.Proofs.YtdjikiakcfbklaaGreat

/-
  Walks over the addresses' texts: Parse.
-/
namespace Go.Proofs.YtdjikiakcfbklaaGreat
open Go Go.RowKit Go.Sort

theorem cells_str {w : World} {g : Nat} {L : List ByteArray} {t : TypeId} {p} (h : w.heap[g]? = some (.cells (L.map Value.string).toArray t p)) {k : Nat} {x : ByteArray} (hk : L[k]? = some x) : w.cell? ⟨g, k, none⟩ = some (.string x) := by
  rw [cell_of_row w g k _ _ _ h]
  simp [hk]

theorem u32_orN (a b : Nat) (ha : a < 4294967296) (hb : b < 4294967296) : bits .or .u32 (a : Int) (b : Int) = ((a ||| b : Nat) : Int) := by
  rw [u32_or _ _ (by omega) (by omega) (by omega) (by omega), Int.toNat_natCast, Int.toNat_natCast]
theorem or_byte (n v : Nat) (hn : n < 16777216) (hv : v < 256) : bits .or .u32 ((n : Int) * 256 % 4294967296) ((v : Int) % 4294967296) = ((n * 256 + v : Nat) : Int) := by
  have e1 : (n : Int) * 256 % 4294967296 = ((n * 256 : Nat) : Int) := by rw [Int.emod_eq_of_lt (by omega) (by omega)]; simp
  have e2 : (v : Int) % 4294967296 = (v : Int) := by omega
  have h := Nat.shiftLeft_add_eq_or_of_lt (b := v) (i := 8) (by omega) n
  rw [Nat.shiftLeft_eq, show (2 : Nat) ^ 8 = 256 from rfl] at h
  rw [e1, e2, h]
  exact u32_orN (n * 256) v (by omega) (by omega)
theorem or_byte' (n v : Nat) (hn : n < 16777216) (hv : v < 256) : bits .or .u32 ((n : Int) * 256) (v : Int) = ((n * 256 + v : Nat) : Int) := by
  have h := or_byte n v hn hv
  rwa [Int.emod_eq_of_lt (by omega) (by omega), Int.emod_eq_of_lt (by omega) (by omega)] at h
theorem or_byte_le (n v : Nat) (hn : n < 16777216) (hv : v < 256) : n * 256 + v < 4294967296 := by omega
end Go.Proofs.YtdjikiakcfbklaaGreat

/-
  Walks over the addresses' texts: Text, PrefixText, ParsePrefix.
-/
namespace Go.Proofs.YtdjikiakcfbklaaGreat
open Go Go.RowKit Go.Sort

/-- The four numbers of an address. -/
def octet (a k : Nat) : Nat := a / 256 ^ (3 - k) % 256
theorem octet_lt (a k : Nat) : octet a k < 256 := Nat.mod_lt _ (by decide)
/-- The cells of the array while it is filled. -/
def octs (a k : Nat) : List ByteArray := (List.range 4).map fun i => if i < k then ⟨(Lib.decDigits (octet a i)).toArray⟩ else ByteArray.empty
theorem octs_len (a k : Nat) : (octs a k).length = 4 := by simp [octs]
theorem octs_full (a : Nat) : (octs a 4).map (·.data.toList) = [Lib.decDigits (octet a 0), Lib.decDigits (octet a 1), Lib.decDigits (octet a 2), Lib.decDigits (octet a 3)] := rfl
theorem octs_set (a k : Nat) (hk : k < 4) : (((octs a k).map Value.string).toArray).setIfInBounds k (.string ⟨(Lib.decDigits (octet a k)).toArray⟩) = ((octs a (k + 1)).map Value.string).toArray := by
  match k, hk with
  | 0, _ => rfl
  | 1, _ => rfl
  | 2, _ => rfl
  | 3, _ => rfl
/-- An address's text. -/
def textA (a : Nat) : ByteArray := ⟨(Lib.join [Lib.decDigits (octet a 0), Lib.decDigits (octet a 1), Lib.decDigits (octet a 2), Lib.decDigits (octet a 3)] [46]).toArray⟩

theorem frozen_row {w : World} {g : Nat} {cs : Array Value} {t : TypeId} (h : w.heap[g]? = some (.cells cs t (0, 0))) (k : Nat) : w.frozen? ⟨g, k, none⟩ = false := by
  unfold World.frozen?
  simp [h]
theorem and_255 (x : Int) (h0 : 0 ≤ x) (h1 : x < 4294967296) : bits .and .u32 x 255 = x % 256 := by
  obtain ⟨x, rfl⟩ := Int.eq_ofNat_of_zero_le h0
  rw [u32_and _ _ h0 h1 (by omega) (by omega), Int.toNat_natCast]
  have := Nat.and_two_pow_sub_one_eq_mod x 8
  rw [show (255 : Int).toNat = 2 ^ 8 - 1 from rfl, this]
  rfl
theorem wrap_small {x : Int} (h0 : 0 ≤ x) (h1 : x < 256) : wrap64 x = x := by
  unfold wrap64; omega
/-- A numeral of a number below 1000, written out. -/
def dec3 (n : Nat) : List UInt8 := if n < 10 then [UInt8.ofNat (48 + n)] else if n < 100 then [UInt8.ofNat (48 + n / 10), UInt8.ofNat (48 + n % 10)] else [UInt8.ofNat (48 + n / 100), UInt8.ofNat (48 + n / 10 % 10), UInt8.ofNat (48 + n % 10)]
theorem dec3_eq {n : Nat} (h : n < 1000) : Lib.decDigits n = dec3 n := by
  unfold dec3
  split
  · rename_i h1; exact decDigits_small h1
  · split
    · rename_i h1 h2; exact Lib.decDigits_two h1 h2
    · rename_i h1 h2
      rw [decDigits_big h1, Lib.decDigits_two (by omega) (by omega), Nat.div_div_eq_div_mul]
      rfl
theorem dec3_len (n : Nat) : (dec3 n).length ≤ 3 := by unfold dec3; split; · simp
                                                       · split <;> simp
theorem join_four (a b c d : List UInt8) : Lib.join [a, b, c, d] [46] = a ++ (46 :: (b ++ (46 :: (c ++ (46 :: d))))) := by
  rw [Lib.join_cons]
  simp [Lib.joinTail]
theorem join_oct (a : Nat) : (Lib.join ((octs a 4).map (·.data.toList)) [46]).length ≤ 15 := by
  rw [octs_full, join_four, dec3_eq (Nat.lt_trans (octet_lt a 0) (by decide)), dec3_eq (Nat.lt_trans (octet_lt a 1) (by decide)), dec3_eq (Nat.lt_trans (octet_lt a 2) (by decide)), dec3_eq (Nat.lt_trans (octet_lt a 3) (by decide))]
  have := dec3_len (octet a 0); have := dec3_len (octet a 1); have := dec3_len (octet a 2); have := dec3_len (octet a 3)
  simp only [List.length_append, List.length_cons]
  omega
theorem textA_eq (a : Nat) : textA a = ⟨(dec3 (octet a 0) ++ (46 :: (dec3 (octet a 1) ++ (46 :: (dec3 (octet a 2) ++ (46 :: dec3 (octet a 3)))))) : List UInt8).toArray⟩ := by
  unfold textA
  rw [join_four, dec3_eq (Nat.lt_trans (octet_lt a 0) (by decide)), dec3_eq (Nat.lt_trans (octet_lt a 1) (by decide)), dec3_eq (Nat.lt_trans (octet_lt a 2) (by decide)), dec3_eq (Nat.lt_trans (octet_lt a 3) (by decide))]
theorem textA_size (a : Nat) : (textA a).size ≤ 15 := join_oct a
/-- A prefix's text. -/
def textP (a : Nat) (n : Int) : ByteArray := textA a ++ ⟨#[47]⟩ ++ ⟨(Lib.itoa n).toArray⟩
end Go.Proofs.YtdjikiakcfbklaaGreat

/-
  Walks over the addresses' texts: ParsePrefix.
-/
namespace Go.Proofs.YtdjikiakcfbklaaGreat
open Go Go.RowKit Go.Sort

/-- The prefix that a text spells, its bits not yet asked. -/
def ppO (l : List UInt8) : Option (Nat × Nat) :=
  if (Lib.cut l [47]).2.2 = true then (parseB (Lib.cut l [47]).1).bind fun a => (readB (Lib.cut l [47]).2.1 32).map fun n => (a, n) else none
def ppE (l : List UInt8) : Int := match ppO l with | none => 4 | some (a, n) => chk a n
def ppA (l : List UInt8) : Int := match ppO l with | none => 0 | some (a, n) => if chk a n = 0 then a else 0
def ppN (l : List UInt8) : Int := match ppO l with | none => 0 | some (a, n) => if chk a n = 0 then n else 0
theorem pp_none {l : List UInt8} (h : ppO l = none) : ppE l = 4 ∧ ppA l = 0 ∧ ppN l = 0 := by unfold ppE ppA ppN; rw [h]; exact ⟨rfl, rfl, rfl⟩
theorem pp_no {l : List UInt8} {a n : Nat} (h : ppO l = some (a, n)) (hc : ¬ chk a n = 0) : ppE l = chk a n ∧ ppA l = 0 ∧ ppN l = 0 := by unfold ppE ppA ppN; rw [h]; exact ⟨rfl, if_neg hc, if_neg hc⟩
theorem pp_yes {l : List UInt8} {a n : Nat} (h : ppO l = some (a, n)) (hc : chk a n = 0) : ppE l = 0 ∧ ppA l = a ∧ ppN l = n := by unfold ppE ppA ppN; rw [h]; exact ⟨hc, if_pos hc, if_pos hc⟩
theorem cut_fst_len (l : List UInt8) (c : List UInt8) : (Lib.cut l c).1.length ≤ l.length := by
  unfold Lib.cut
  split
  · simp; omega
  · exact Nat.le_refl _
theorem cut_snd_len (l : List UInt8) (c : List UInt8) : (Lib.cut l c).2.1.length ≤ l.length := by
  unfold Lib.cut
  split
  · simp
  · simp

end Go.Proofs.YtdjikiakcfbklaaGreat

/-
  The walk of the program's Cut and of its closure.
-/
namespace Go.Proofs.YtdjikiakcfbklaaGreat
open Go Go.RowKit

theorem Tryz.infoPrefix : (Tryz.prog.info? 40).map (fun i => (i.zero, i.size, i.bytes)) = some (some (.agg #[.int .u32 0, .int .i64 0]), 2, 16) := by kernel_rfl

/-- The cells of a list of prefixes. -/
def pcells (L : List (Int × Int)) : List Value := L.flatMap fun p => [.int .u32 p.1, .int .i64 p.2]
theorem pcells_snoc (L : List (Int × Int)) (a n : Int) : pcells (L ++ [(a, n)]) = pcells L ++ [.int .u32 a, .int .i64 n] := by simp [pcells]

/-- The prefixes between two addresses. -/
def cutP (lo hi : Int) : List (Int × Int) := cutL (hi + 1) (hi + 1 - lo).toNat lo

/-- A new list of prefixes is handed back, with no error; nothing that was there has turned. -/
def CutRes (L : List (Int × Int)) (w : World) (en : Ending) (w' : World) : Prop :=
  ∃ v, en = .returned (.tuple #[v, .int .i64 0]) ∧ w'.ownsRow w.heap.size 40 2 v L.length (pcells L) ∧ Below w.heap.size w w'

end Go.Proofs.YtdjikiakcfbklaaGreat

/-
  Walks over the addresses' laws: works.
-/
namespace Go.Proofs.YtdjikiakcfbklaaGreat
open Go Go.RowKit Go.Sort

theorem le_up {w W : World} (h : Below w.heap.size w W) : w.heap.size ≤ W.heap.size := h.size
theorem sub_24 : subA 167838211 24 = 167838208 ∧ subN 24 = 24 ∧ argE 24 = 0 := by decide +kernel
theorem pp_8 : ppA [49, 48, 46, 48, 46, 48, 46, 48, 47, 56] = 167772160 ∧ ppN [49, 48, 46, 48, 46, 48, 46, 48, 47, 56] = 8 ∧ ppE [49, 48, 46, 48, 46, 48, 46, 48, 47, 56] = 0 := by decide +kernel
theorem pa_8 : parseB [49, 48, 46, 49, 46, 50, 46, 51] = some 167838211 := by decide +kernel
theorem cut_8 : (cutP 167838211 167838212).length = 2 := by decide +kernel
theorem text_8 : textA 167838211 = ⟨#[49, 48, 46, 49, 46, 50, 46, 51]⟩ := by rw [textA_eq]; decide +kernel
theorem textp_8 : textP 167838208 24 = ⟨#[49, 48, 46, 49, 46, 50, 46, 48, 47, 50, 52]⟩ := by
  unfold textP
  rw [textA_eq, show Lib.itoa 24 = Lib.decDigits 24 from rfl, dec3_eq (by omega)]
  decide +kernel
theorem in_8 : inB 167838211 167772160 8 = true ∧ withinB 167838208 24 167772160 8 = true ∧ withinB 167772160 8 167838208 24 = false := by decide +kernel
theorem works_in (w : World) : Calls Tryz.prog 152 #[.int .u32 167838211, .agg #[.int .u32 167772160, .int .i64 8]] w fun e w' => e = .returned (.bool true) ∧ Below w.heap.size w w' := by
  have h := addrIn_any 167838211 167772160 8 w (by omega) (by omega) (by omega) (by omega)
  rw [in_8.1] at h
  exact h
end Go.Proofs.YtdjikiakcfbklaaGreat

/-
  Walks over the addresses' layer: Common; the reference's.
-/
namespace Go.Proofs.YtdjikiakcfbklaaGreat
open Go Go.RowKit Go.Sort

theorem xor_zero (x y : Nat) : x = y ↔ x ^^^ y = 0 := by
  constructor
  · intro h; rw [h, Nat.xor_self]
  · intro h
    have : x ^^^ y ^^^ y = 0 ^^^ y := by rw [h]
    rwa [Nat.xor_assoc, Nat.xor_self, Nat.xor_zero, Nat.zero_xor] at this
theorem bitLen_up (x k : Nat) (hx : x < 2 ^ 64) (hk : k ≤ 64) (h : Lib.bitLen x ≤ k) : x < 2 ^ k := by
  induction k generalizing x with
  | zero =>
    rcases Nat.eq_zero_or_pos x with hz | hz
    · rw [hz]; decide
    · rw [Lib.bitLen_half x (by omega) hx] at h; omega
  | succ k ih =>
    rcases Nat.eq_zero_or_pos x with hz | hz
    · rw [hz]; exact Nat.two_pow_pos _
    · rw [Lib.bitLen_half x (by omega) hx] at h
      have := ih (x / 2) (by omega) (by omega) (by omega)
      rw [Nat.pow_succ]; omega
theorem sub_eq_iff (a b k : Int) (h0 : 0 ≤ a) (h1 : a < 4294967296) (h2 : 0 ≤ b) (h3 : b < 4294967296) (hk0 : 0 ≤ k) (hk : k ≤ 32) : a - a % sz k = b - b % sz k ↔ k ≤ lz32 (xorI a b) := by
  obtain ⟨a, rfl⟩ := Int.eq_ofNat_of_zero_le h0
  obtain ⟨b, rfl⟩ := Int.eq_ofNat_of_zero_le h2
  obtain ⟨k, rfl⟩ := Int.eq_ofNat_of_zero_le hk0
  have hp : 0 < 2 ^ (32 - k) := Nat.two_pow_pos _
  have e1 : sz ((k : Nat) : Int) = ((2 ^ (32 - k) : Nat) : Int) := by rw [sz_nat]; simp
  have hx : (a ^^^ b) < 2 ^ 32 := Nat.xor_lt_two_pow (by omega) (by omega)
  have s1 : (a - a % 2 ^ (32 - k) = b - b % 2 ^ (32 - k)) ↔ a / 2 ^ (32 - k) = b / 2 ^ (32 - k) := by
    have d1 := Nat.div_add_mod a (2 ^ (32 - k))
    have d2 := Nat.div_add_mod b (2 ^ (32 - k))
    constructor
    · intro h
      have : 2 ^ (32 - k) * (a / 2 ^ (32 - k)) = 2 ^ (32 - k) * (b / 2 ^ (32 - k)) := by omega
      exact Nat.eq_of_mul_eq_mul_left hp this
    · intro h
      have : 2 ^ (32 - k) * (a / 2 ^ (32 - k)) = 2 ^ (32 - k) * (b / 2 ^ (32 - k)) := by rw [h]
      omega
  have s2 : a / 2 ^ (32 - k) = b / 2 ^ (32 - k) ↔ (a ^^^ b) / 2 ^ (32 - k) = 0 := by
    rw [← Nat.shiftRight_eq_div_pow, ← Nat.shiftRight_eq_div_pow, ← Nat.shiftRight_eq_div_pow, Nat.shiftRight_xor_distrib, xor_zero]
  have s3 : (a ^^^ b) / 2 ^ (32 - k) = 0 ↔ a ^^^ b < 2 ^ (32 - k) := by
    rw [Nat.div_eq_zero_iff]
    constructor
    · intro h; rcases h with h | h
      · omega
      · exact h
    · intro h; exact .inr h
  have s4 : a ^^^ b < 2 ^ (32 - k) ↔ Lib.bitLen (a ^^^ b) ≤ 32 - k := by
    constructor
    · intro h; exact Lib.bitLen_le _ _ (by omega) h
    · intro h
      exact bitLen_up _ _ (Nat.lt_of_lt_of_le hx (Nat.pow_le_pow_right (by omega) (by omega))) (by omega) h
  have hm1 := Nat.mod_le a (2 ^ (32 - k))
  have hm2 := Nat.mod_le b (2 ^ (32 - k))
  unfold lz32 xorI
  rw [e1, Int.toNat_natCast, Int.toNat_natCast, Int.toNat_natCast, ← Int.natCast_emod, ← Int.natCast_emod]
  constructor
  · intro h
    have := s4.1 (s3.1 (s2.1 (s1.1 (by omega))))
    omega
  · intro h
    have := s1.2 (s2.2 (s3.2 (s4.2 (by omega))))
    omega
theorem dvd_sz (n k : Int) (hk0 : 0 ≤ k) (hkn : k ≤ n) (hn : n ≤ 32) : sz n ∣ sz k := by
  refine ⟨p2 ((n - k).toNat), ?_⟩
  unfold sz p2
  rw [← Int.pow_add]; congr 1; omega
theorem chk_sub (a k : Int) (hk0 : 0 ≤ k) (hk : k ≤ 32) : chk (subA a k) k = 0 := by
  refine chk_zero _ _ hk0 hk ?_
  rw [(sub_yes a hk0 hk).1, Int.sub_emod, Int.emod_emod_of_dvd _ (Int.dvd_refl _)]
  simp
/-- A prefix is in the subnet of so many bits of an address just if it has as many bits, and begins in it. -/
theorem within_sub (a b n k : Int) (h0 : 0 ≤ a) (h1 : a < 4294967296) (h2 : 0 ≤ b) (h3 : b < 4294967296) (hk0 : 0 ≤ k) (hk : k ≤ 32) (hc : chk b n = 0) :
    withinB b n (subA a k) k = decide (k ≤ n ∧ k ≤ lz32 (xorI a b)) := by
  have hp := sz_pos k
  have hi : inB b (subA a k) k = decide (k ≤ lz32 (xorI a b)) := by
    unfold inB
    rw [decide_eq_decide, ← sub_eq_iff a b k h0 h1 h2 h3 hk0 hk, (sub_yes a hk0 hk).1]
    obtain ⟨m1, m2, m3, m4, m5⟩ := mod_le a k h0
    obtain ⟨l1, l2, l3, l4, l5⟩ := mod_le b k h2
    constructor
    · intro ⟨_, h4, h5⟩
      have t1 : sz k * (a / sz k) ≤ b := by rw [Int.mul_comm]; omega
      have t2 : b < sz k * (a / sz k + 1) := by rw [Int.mul_add, Int.mul_comm]; omega
      have t3 : b / sz k = a / sz k := by
        have u1 : a / sz k ≤ b / sz k := Int.le_ediv_of_mul_le (by omega) (by rw [Int.mul_comm]; exact t1)
        have u2 : b / sz k < a / sz k + 1 := Int.ediv_lt_of_lt_mul (by omega) (by rw [Int.mul_comm]; exact t2)
        omega
      rw [← m4, ← l4, t3]
    · intro h
      have h6 := chk_sub a k hk0 hk
      rw [(sub_yes a hk0 hk).1] at h6
      exact ⟨h6, by omega, by omega⟩
  unfold withinB
  rw [hi, hc]
  simp
theorem xor_comm' (a b : Int) : xorI a b = xorI b a := by unfold xorI; rw [Nat.xor_comm]
theorem lz_self (a : Int) : lz32 (xorI a a) = 32 := by unfold xorI; rw [Nat.xor_self]; decide
/-- The search from above finds what the program reckons. -/
theorem com_hit (a n b m : Int) (k : Nat) (h0 : 0 ≤ a) (h1 : a < 4294967296) (h2 : 0 ≤ b) (h3 : b < 4294967296) (hk : k ≤ 32) (hc : chk a n = 0) (hc' : chk b m = 0) :
    (withinB a n (subA a k) k && withinB b m (subA a k) k) = decide ((k : Int) ≤ comN a n b m) := by
  obtain ⟨hn0, hn1, _⟩ := chk_ok hc
  obtain ⟨hm0, hm1, _⟩ := chk_ok hc'
  rw [within_sub a a n k h0 h1 h0 h1 (by omega) (by omega) hc, within_sub a b m k h0 h1 h2 h3 (by omega) (by omega) hc', lz_self]
  unfold comN
  rw [Bool.eq_iff_iff]
  simp only [Bool.and_eq_true, decide_eq_true_eq]
  split <;> split <;> omega
theorem sub_zero (a : Int) (h0 : 0 ≤ a) (h1 : a < 4294967296) : subA a 0 = 0 := by
  rw [(sub_yes a (n := 0) (by omega) (by omega)).1]
  have : sz 0 = 4294967296 := rfl
  rw [this]
  omega

end Go.Proofs.YtdjikiakcfbklaaGreat

/-
  Prefixes inside one another: plain laws; no program in sight.
-/
namespace Go.Proofs.YtdjikiakcfbklaaGreat
open Go Go.RowKit Go.Sort

/-- An address down to a multiple. -/
theorem floor_floor (x s t : Int) (hs : 0 < s) (ht : 0 < t) (h : s ∣ t) : (x - x % s) - (x - x % s) % t = x - x % t := by
  have e1 : x % t % s = x % s := Int.emod_emod_of_dvd x h
  have a1 := Int.emod_nonneg x (show t ≠ 0 by omega)
  have a2 := Int.emod_lt_of_pos x ht
  have b1 := Int.emod_nonneg x (show s ≠ 0 by omega)
  have b3 : x % s ≤ x % t := by
    have := Int.mul_ediv_add_emod (x % t) s
    have h0 : 0 ≤ x % t / s := Int.ediv_nonneg a1 (by omega)
    have h1 := Int.mul_nonneg (show 0 ≤ s by omega) h0
    rw [e1] at this
    omega
  have e2 := Int.mul_ediv_add_emod x t
  have e3 : (x - x % s) % t = x % t - x % s := by
    have : x - x % s = (x % t - x % s) + t * (x / t) := by omega
    rw [this, Int.add_mul_emod_self_left, Int.emod_eq_of_lt (by omega) (by omega)]
  rw [e3]; omega
/-- In a prefix: the address's first bits are the prefix's. -/
theorem in_iff {x a n : Int} (h : chk a n = 0) : inB x a n = true ↔ x - x % sz n = a := by
  obtain ⟨_, _, hm⟩ := chk_ok h
  have hp := sz_pos n
  unfold inB
  simp only [decide_eq_true_eq, h, true_and]
  have e := Int.mul_ediv_add_emod a (sz n)
  constructor
  · intro ⟨h1, h2⟩
    have : x = (x - a) + sz n * (a / sz n) := by omega
    have hx : x % sz n = x - a := by
      rw [this, Int.add_mul_emod_self_left, Int.emod_eq_of_lt (by omega) (by omega)]
      omega
    omega
  · intro h1
    have := Int.emod_nonneg x (show sz n ≠ 0 by omega)
    have := Int.emod_lt_of_pos x (show 0 < sz n by omega)
    omega
theorem within_iff {a n b m : Int} (ha : chk a n = 0) (hb : chk b m = 0) : withinB a n b m = true ↔ m ≤ n ∧ a - a % sz m = b := by
  unfold withinB
  rw [Bool.and_eq_true, in_iff hb]
  simp [ha]
theorem floor_self {a n : Int} (h : chk a n = 0) : a - a % sz n = a := by have := (chk_ok h).2.2; omega
theorem floor_two (x : Int) {n m : Int} (hm : 0 ≤ m) (hmn : m ≤ n) (hn : n ≤ 32) : (x - x % sz n) - (x - x % sz n) % sz m = x - x % sz m :=
  floor_floor x _ _ (by have := sz_pos n; omega) (by have := sz_pos m; omega) (dvd_sz n m hm hmn hn)
section
variable {a n b m c o x : Int} (hp : chk a n = 0) (hq : chk b m = 0) (hr : chk c o = 0)
include hp
theorem inside_self : withinB a n a n = true := (within_iff hp hp).2 ⟨Int.le_refl _, floor_self hp⟩
include hq
theorem inside_same : (withinB a n b m && withinB b m a n) = decide (a = b ∧ n = m) := by
  rw [Bool.eq_iff_iff, Bool.and_eq_true, within_iff hp hq, within_iff hq hp, decide_eq_true_eq]
  constructor
  · intro ⟨⟨h1, h2⟩, h3, h4⟩
    obtain rfl : n = m := by omega
    exact ⟨by rw [← h2, floor_self hp], rfl⟩
  · rintro ⟨rfl, rfl⟩
    exact ⟨⟨Int.le_refl _, floor_self hp⟩, Int.le_refl _, floor_self hp⟩
include hr in
theorem inside_trans (h1 : withinB a n b m = true) (h2 : withinB b m c o = true) : withinB a n c o = true := by
  rw [within_iff hp hq] at h1
  rw [within_iff hq hr] at h2
  rw [within_iff hp hr]
  refine ⟨by omega, ?_⟩
  rw [← floor_two a (chk_ok hr).1 h2.1 (chk_ok hq).2.1, h1.2, h2.2]
theorem inside_ends : withinB a n b m = (inB a b m && inB (a + sz n - 1) b m) := by
  have hl : inB (a + sz n - 1) a n = true := by unfold inB; have := sz_pos n; simp [hp]; omega
  rw [Bool.eq_iff_iff, Bool.and_eq_true, within_iff hp hq, in_iff hq, in_iff hq]
  constructor
  · intro ⟨h1, h2⟩
    refine ⟨h2, ?_⟩
    rw [← floor_two _ (chk_ok hq).1 h1 (chk_ok hp).2.1, (in_iff hp).1 hl, h2]
  · intro ⟨h1, h2⟩
    refine ⟨?_, h1⟩
    rcases (show n < m ∨ m ≤ n by omega) with h | h
    · exfalso
      have h3 := (in_iff hq).2 h1
      have h4 := (in_iff hq).2 h2
      unfold inB at h3 h4
      simp only [decide_eq_true_eq] at h3 h4
      have e : sz n = 2 * sz (n + 1) := by
        unfold sz
        rw [← p2_succ]
        have := (chk_ok hq).2.1
        have := (chk_ok hp).1
        congr 1; omega
      have := sz_pos m
      have hd3 := Int.le_of_dvd (by have := sz_pos (n+1); omega) (dvd_sz m (n + 1) (by have := (chk_ok hp).1; omega) (by omega) (chk_ok hq).2.1)
      omega
    · exact h
theorem inside_meet (h1 : inB x a n = true) (h2 : inB x b m = true) : withinB a n b m = true ∨ withinB b m a n = true := by
  rw [in_iff hp] at h1
  rw [in_iff hq] at h2
  rw [within_iff hp hq, within_iff hq hp]
  rcases Int.le_total m n with h | h
  · left
    exact ⟨h, by rw [← h1, floor_two x (chk_ok hq).1 h (chk_ok hp).2.1, h2]⟩
  · right
    exact ⟨h, by rw [← h2, floor_two x (chk_ok hp).1 h (chk_ok hq).2.1, h1]⟩
omit hq in
theorem inside_between : inB x a n = (decide (a ≤ x) && decide (x ≤ a + sz n - 1)) := by
  unfold inB
  rw [Bool.eq_iff_iff, Bool.and_eq_true, decide_eq_true_eq, decide_eq_true_eq, decide_eq_true_eq]
  constructor
  · intro ⟨_, _, _⟩; omega
  · intro ⟨_, _⟩; exact ⟨hp, by omega, by omega⟩
variable (h0 : 0 ≤ a) (h1 : a < 4294967296) (h2 : 0 ≤ b) (h3 : b < 4294967296)
include h0 h1 h2 h3
theorem common_ok : comE a n b m = 0 ∧ comA a n b m = subA a (comN a n b m) ∧ comB a n b m = comN a n b m ∧ 0 ≤ comN a n b m ∧ comN a n b m ≤ 32 ∧ comN a n b m ≤ n ∧ comN a n b m ≤ m ∧ comN a n b m ≤ lz32 (xorI a b) := by
  have he : comE a n b m = 0 := by unfold comE; rw [if_pos hp, hq]
  have hl := lz32_range (xorI a b) (xor_range a b h0 h1 h2 h3).2
  have hr := com_range n m (chk_ok hp).1 (chk_ok hp).2.1 (chk_ok hq).1 (chk_ok hq).2.1 hl
  refine ⟨he, (com_yes he).1, (com_yes he).2, hr.1, hr.2, ?_⟩
  unfold comN
  split <;> split <;> omega
theorem common_in : withinB a n (comA a n b m) (comB a n b m) = true ∧ withinB b m (comA a n b m) (comB a n b m) = true := by
  obtain ⟨_, e1, e2, k0, k1, k2, k3, k4⟩ := common_ok hp hq h0 h1 h2 h3
  rw [e1, e2]
  have hd := chk_sub a (comN a n b m) k0 k1
  rw [within_iff hp hd, within_iff hq hd]
  have := (sub_yes a k0 k1).1
  refine ⟨⟨k2, this.symm⟩, k3, ?_⟩
  rw [this]
  exact ((sub_eq_iff a b _ h0 h1 h2 h3 k0 k1).2 k4).symm
include hr in
theorem common_most (w1 : withinB a n c o = true) (w2 : withinB b m c o = true) : withinB (comA a n b m) (comB a n b m) c o = true := by
  obtain ⟨_, e1, e2, k0, k1, k2, k3, k4⟩ := common_ok hp hq h0 h1 h2 h3
  rw [within_iff hp hr] at w1
  rw [within_iff hq hr] at w2
  rw [e1, e2]
  have hd := chk_sub a (comN a n b m) k0 k1
  rw [within_iff hd hr, (sub_yes a k0 k1).1]
  have ho : o ≤ lz32 (xorI a b) := (sub_eq_iff a b o h0 h1 h2 h3 (chk_ok hr).1 (chk_ok hr).2.1).1 (w1.2.trans w2.2.symm)
  have hk : o ≤ comN a n b m := by unfold comN; split <;> split <;> omega
  exact ⟨hk, by rw [floor_two a (chk_ok hr).1 hk k1, w1.2]⟩
omit hq h0 h2 h3 in
theorem halves_ok (hn : n ≠ 32) : chk a (n + 1) = 0 ∧ chk (a + sz (n + 1)) (n + 1) = 0 ∧ a + sz (n + 1) < 4294967296 ∧ inB x a n = (inB x a (n + 1) != inB x (a + sz (n + 1)) (n + 1)) ∧ cmpP a (n + 1) (a + sz (n + 1)) (n + 1) = -1 ∧ withinB a (n + 1) a n = true ∧ withinB (a + sz (n + 1)) (n + 1) a n = true := by
  obtain ⟨g0, g1, g2⟩ := chk_ok hp
  obtain ⟨l1, l2⟩ := half_le a n h1 g0 (by omega) g2
  have hs := sz_pos (n + 1)
  have d : a % sz (n + 1) = 0 := by
    have := Int.emod_emod_of_dvd a (dvd_sz (n + 1) n g0 (by omega) (by omega))
    rw [g2] at this
    simpa using this.symm
  have c1 : chk a (n + 1) = 0 := chk_zero _ _ (by omega) (by omega) d
  have c2 : chk (a + sz (n + 1)) (n + 1) = 0 := chk_zero _ _ (by omega) (by omega) (by rw [Int.add_emod, d, Int.emod_self]; rfl)
  have i1 : inB a a n = true := by unfold inB; simp [hp]; omega
  have i2 : inB (a + sz (n + 1)) a n = true := by unfold inB; simp [hp]; omega
  refine ⟨c1, c2, l2, ?_, ?_, ?_, ?_⟩
  · unfold inB
    rw [hp, c1, c2]
    by_cases e1 : a ≤ x <;> by_cases e2 : x < a + sz (n + 1) <;> by_cases e3 : x < a + sz n <;> simp [e1, e2, e3] <;> omega
  · unfold cmpP
    rw [cmpI_lt (by omega)]
    rfl
  · unfold withinB; rw [i1, c1]; simp; omega
  · unfold withinB; rw [i2, c2]; simp; omega
end
end Go.Proofs.YtdjikiakcfbklaaGreat

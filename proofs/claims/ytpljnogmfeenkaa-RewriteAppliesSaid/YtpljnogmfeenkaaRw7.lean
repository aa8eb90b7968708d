/-
  Walks over the layer of rewrites: Apply, the program's and the reference's (written by wip/gen/genrw7.py).
-/
import Derived.Test.YtpljnogmfeenkaaRw6
namespace Go.Proofs.Ytpljnogmfeenkaa
open Go Go.RowKit Go.Sort

def zeroH : HeaderV := ⟨0, 0, 0, 0, 0, by omega, by omega, by omega, by omega, by omega⟩
def setD (h : HeaderV) (x : RewV) : HeaderV := ⟨h.src, x.too, h.proto, h.sp, h.dp, h.hsrc, x.hto, h.hproto, h.hsp, h.hdp⟩
def setS (h : HeaderV) (x : RewV) : HeaderV := ⟨x.too, h.dst, h.proto, h.sp, h.dp, x.hto, h.hdst, h.hproto, h.hsp, h.hdp⟩
/-- What comes of a header. -/
def apH (Fs : List FiltV) (l : List RewV) (dest : Bool) (h : HeaderV) : HeaderV :=
  if rwE Fs l = 0 then (if 0 ≤ idxP (appB Fs dest h) l then (match l[(idxP (appB Fs dest h) l).toNat]? with | some x => if dest = true then setD h x else setS h x | none => h) else h) else zeroH
theorem apH_no {Fs : List FiltV} {l : List RewV} {dest : Bool} {h : HeaderV} (h1 : ¬ rwE Fs l = 0) : apH Fs l dest h = zeroH := if_neg h1
theorem apH_miss {Fs : List FiltV} {l : List RewV} {dest : Bool} {h : HeaderV} (h1 : rwE Fs l = 0) (h2 : idxP (appB Fs dest h) l = -1) : apH Fs l dest h = h := by
  unfold apH; rw [if_pos h1, h2, if_neg (by omega)]
theorem apH_d {Fs : List FiltV} {l : List RewV} {h : HeaderV} {k : Nat} {x : RewV} (h1 : rwE Fs l = 0) (h2 : idxP (appB Fs true h) l = k) (hx : l[k]? = some x) : apH Fs l true h = setD h x := by
  unfold apH; rw [if_pos h1, h2, if_pos (by omega), Int.toNat_natCast, hx]; rfl
theorem apH_s {Fs : List FiltV} {l : List RewV} {h : HeaderV} {k : Nat} {x : RewV} (h1 : rwE Fs l = 0) (h2 : idxP (appB Fs false h) l = k) (hx : l[k]? = some x) : apH Fs l false h = setS h x := by
  unfold apH; rw [if_pos h1, h2, if_pos (by omega), Int.toNat_natCast, hx]; rfl
def ApPost (h : HeaderV) (r : Int) (w : World) (e : Ending) (w' : World) : Prop :=
  e = .returned (.tuple #[.agg #[.int .u32 h.src, .int .u32 h.dst, .int .u8 h.proto, .int .u16 h.sp, .int .u16 h.dp], .int .i64 r]) ∧ Below w.heap.size w w'
theorem five_cells {w : World} {g : Nat} {a b c d e : Value} {t : TypeId} (h : w.heap[g]? = some (.cells #[a, b, c, d, e] t (0, 0))) :
    w.cell? ⟨g, 0, none⟩ = some a ∧ w.cell? ⟨g, 1, none⟩ = some b ∧ w.cell? ⟨g, 2, none⟩ = some c ∧ w.cell? ⟨g, 3, none⟩ = some d ∧ w.cell? ⟨g, 4, none⟩ = some e ∧
    w.frozen? ⟨g, 0, none⟩ = false ∧ w.frozen? ⟨g, 1, none⟩ = false ∧ w.frozen? ⟨g, 2, none⟩ = false ∧ w.frozen? ⟨g, 3, none⟩ = false ∧ w.frozen? ⟨g, 4, none⟩ = false :=
  ⟨cell_of_row w g 0 _ t (0, 0) h, cell_of_row w g 1 _ t (0, 0) h, cell_of_row w g 2 _ t (0, 0) h, cell_of_row w g 3 _ t (0, 0) h, cell_of_row w g 4 _ t (0, 0) h, by simp [World.frozen?, h], by simp [World.frozen?, h], by simp [World.frozen?, h], by simp [World.frozen?, h], by simp [World.frozen?, h]⟩
theorem set5 {w : World} {g : Nat} {a b c d e u0 u1 u2 u3 u4 : Value} {t : TypeId} (h : w.heap[g]? = some (.cells #[a, b, c, d, e] t (0, 0))) :
    (((((w.setCell ⟨g, 0, none⟩ u0).setCell ⟨g, 1, none⟩ u1).setCell ⟨g, 2, none⟩ u2).setCell ⟨g, 3, none⟩ u3).setCell ⟨g, 4, none⟩ u4).heap[g]? = some (.cells #[u0, u1, u2, u3, u4] t (0, 0)) :=
  set_at (i := 4) (set_at (i := 3) (set_at (i := 2) (set_at (i := 1) (set_at (i := 0) h))))
theorem below_set5 {B g : Nat} {a w : World} {u0 u1 u2 u3 u4 : Value} (h : Below B a w) (hg : B ≤ g) :
    Below B a (((((w.setCell ⟨g, 0, none⟩ u0).setCell ⟨g, 1, none⟩ u1).setCell ⟨g, 2, none⟩ u2).setCell ⟨g, 3, none⟩ u3).setCell ⟨g, 4, none⟩ u4) :=
  ((((h.setCell hg _).setCell hg _).setCell hg _).setCell hg _).setCell hg _
theorem results_h {fn : Func} {tmps : Array Value} {w : World} {g : Nat} {a b c d f e : Value} {t1 t3 : Nat} (hf : fn.results = #[.cell t1 45, .tmp t3]) (h1 : tmps.getD t1 undef = .pointer (some ⟨g, 0, none⟩)) (h3 : tmps.getD t3 undef = e)
    (k1 : w.heap[g]? = some (.cells #[a, b, c, d, f] 45 (0, 0))) :
    (results fn tmps).run Try.prog w = .ok (.tuple #[.agg #[a, b, c, d, f], e]) w := by
  obtain ⟨c0, c1, c2, c3, c4, _⟩ := five_cells k1
  have h1' : tmps[t1]?.getD undef = .pointer (some ⟨g, 0, none⟩) := by simpa using h1
  have h3' : tmps[t3]?.getD undef = e := by simpa using h3
  simp [results, hf, h1', h3', go_sem, c0, c1, c2, c3, c4]

set_option maxHeartbeats 1000000 in
theorem hsame_any (h : HeaderV) (w : World) : Calls Try.prog 55 #[.agg #[.int .u32 h.src, .int .u32 h.dst, .int .u8 h.proto, .int .u16 h.sp, .int .u16 h.dp], .agg #[.int .u32 h.src, .int .u32 h.dst, .int .u8 h.proto, .int .u16 h.sp, .int .u16 h.dp]] w fun e w' => e = .returned (.bool true) ∧ Below w.heap.size w w' := by
  go_enter Try.func55, Try.ntmps55
  go_wp2
  go_ret
  exact ⟨rfl, below2 w _ _⟩

set_option maxRecDepth 100000 in
set_option maxHeartbeats 2000000 in
theorem rwApply_any (l : List RewV) (vl : Value) (Fs : List FiltV) (v : Value) (dest : Bool) (h : HeaderV) (w : World) (hl : Rd w w.heap.size 3 vl l.length (wcells l)) (hF : FsAt w w.heap.size v Fs) (hlen : Fs.length ≤ 9223372036854775807) :
    Calls Try.prog 51 #[vl, v, .bool dest, .agg #[.int .u32 h.src, .int .u32 h.dst, .int .u8 h.proto, .int .u16 h.sp, .int .u16 h.dp]] w fun e w' => ApPost (apH Fs l dest h) (rwE Fs l) w e w' := by
  have hW := below2 w (.cells #[.int .u32 h.src, .int .u32 h.dst, .int .u8 h.proto, .int .u16 h.sp, .int .u16 h.dp] 45) (.cells #[.int .u32 0, .int .u32 0, .int .u8 0, .int .u16 0, .int .u16 0] 45)
  have hcon := rwFirst_any l vl Fs v dest h _ ((hl.below hW).mono hW.size) (hF.next hW) hlen
  have HL := Lib.hid hl
  obtain ⟨A, c, rfl, hc⟩ := hF.1.form
  obtain ⟨A', cl, rfl, hcl⟩ := hl.form
  clear hF hl
  by_cases h1 : rwE Fs l = 0
  · rw [h1] at hcon
    rcases idxP_cases (appB Fs dest h) l with ⟨hD, _⟩ | ⟨k, x, hD, hx, _, _⟩
    · have hX := Lib.hid (apH_miss h1 hD)
      rw [firN_ok dest h h1, hD] at hcon
      have H1 := Lib.hid h1
      have HC := Lib.hid hcon
      clear h1 hcon hD
      cases dest
      all_goals (
        go_enter Try.func51, Try.ntmps51
        go_wp2_with fail
        refine HC.out.mono ?_
        rintro e w1 ⟨rfl, hb⟩
        have hbw := hW.trans (hb.mono hW.size)
        have K0 := Lib.hid (blk_below hb (blk2 w (.cells #[.int .u32 h.src, .int .u32 h.dst, .int .u8 h.proto, .int .u16 h.sp, .int .u16 h.dp] 45) (.cells #[.int .u32 0, .int .u32 0, .int .u8 0, .int .u16 0, .int .u16 0] 45)).1)
        have K1 := Lib.hid (blk_below hb (blk2 w (.cells #[.int .u32 h.src, .int .u32 h.dst, .int .u8 h.proto, .int .u16 h.sp, .int .u16 h.dp] 45) (.cells #[.int .u32 0, .int .u32 0, .int .u8 0, .int .u16 0, .int .u16 0] 45)).2)
        obtain ⟨p0, p1, p2, p3, p4, q0, q1, q2, q3, q4⟩ := five_cells K0.out
        obtain ⟨r0, r1, r2, r3, r4, s0, s1, s2, s3, s4⟩ := five_cells K1.out
        clear hb
        go_wp2
        refine bodyPost_ret (results_h (t1 := 8) (t3 := 9) (g := w.heap.size + 1) Try.results51 rfl rfl (set5 K1.out)) rfl ?_
        unfold ApPost
        rw [H1.out, hX.out]
        exact ⟨rfl, below_set5 hbw (by omega)⟩)
    · rw [firN_ok dest h h1, hD] at hcon
      have HC := Lib.hid hcon
      have H1 := Lib.hid h1
      cases dest with
      | true =>
        have hX := Lib.hid (apH_d h1 hD hx)
        clear h1 hcon hD
        go_enter Try.func51, Try.ntmps51
        go_wp2_with fail
        refine HC.out.mono ?_
        rintro e w1 ⟨rfl, hb⟩
        have hbw := hW.trans (hb.mono hW.size)
        have K0 := Lib.hid (blk_below hb (blk2 w (.cells #[.int .u32 h.src, .int .u32 h.dst, .int .u8 h.proto, .int .u16 h.sp, .int .u16 h.dp] 45) (.cells #[.int .u32 0, .int .u32 0, .int .u8 0, .int .u16 0, .int .u16 0] 45)).1)
        have K1 := Lib.hid (blk_below hb (blk2 w (.cells #[.int .u32 h.src, .int .u32 h.dst, .int .u8 h.proto, .int .u16 h.sp, .int .u16 h.dp] 45) (.cells #[.int .u32 0, .int .u32 0, .int .u8 0, .int .u16 0, .int .u16 0] 45)).2)
        obtain ⟨p0, p1, p2, p3, p4, q0, q1, q2, q3, q4⟩ := five_cells K0.out
        obtain ⟨r0, r1, r2, r3, r4, s0, s1, s2, s3, s4⟩ := five_cells K1.out
        clear hb
        obtain ⟨b, off, c', hv, _, hbB, hcell⟩ := HL.out.posAt (by have := (List.getElem?_eq_some_iff.1 hx).1; omega)
        injection hv with hv1 _ hv3
        subst hv1 hv3
        have hkl : (k : Int) < (l.length : Int) := by have := (List.getElem?_eq_some_iff.1 hx).1; omega
        have c2 : w1.cell? ⟨b, off + k * 3 + 2, none⟩ = some (.int .u32 x.too) := (hbw.cell (p := ⟨b, off + k * 3 + 2, none⟩) hbB).trans (hcell k 2 _ (wcell hx rfl))
        clear hcell
        go_wp2
        refine bodyPost_ret (results_h (t1 := 8) (t3 := 9) (g := w.heap.size + 1) Try.results51 rfl rfl (set5 (set_far K1.out (by simp)))) rfl ?_
        unfold ApPost
        rw [H1.out, hX.out]
        exact ⟨rfl, below_set5 (hbw.setCell (Nat.le_refl _) _) (by omega)⟩
      | false =>
        have hX := Lib.hid (apH_s h1 hD hx)
        clear h1 hcon hD
        go_enter Try.func51, Try.ntmps51
        go_wp2_with fail
        refine HC.out.mono ?_
        rintro e w1 ⟨rfl, hb⟩
        have hbw := hW.trans (hb.mono hW.size)
        have K0 := Lib.hid (blk_below hb (blk2 w (.cells #[.int .u32 h.src, .int .u32 h.dst, .int .u8 h.proto, .int .u16 h.sp, .int .u16 h.dp] 45) (.cells #[.int .u32 0, .int .u32 0, .int .u8 0, .int .u16 0, .int .u16 0] 45)).1)
        have K1 := Lib.hid (blk_below hb (blk2 w (.cells #[.int .u32 h.src, .int .u32 h.dst, .int .u8 h.proto, .int .u16 h.sp, .int .u16 h.dp] 45) (.cells #[.int .u32 0, .int .u32 0, .int .u8 0, .int .u16 0, .int .u16 0] 45)).2)
        obtain ⟨p0, p1, p2, p3, p4, q0, q1, q2, q3, q4⟩ := five_cells K0.out
        obtain ⟨r0, r1, r2, r3, r4, s0, s1, s2, s3, s4⟩ := five_cells K1.out
        clear hb
        obtain ⟨b, off, c', hv, _, hbB, hcell⟩ := HL.out.posAt (by have := (List.getElem?_eq_some_iff.1 hx).1; omega)
        injection hv with hv1 _ hv3
        subst hv1 hv3
        have hkl : (k : Int) < (l.length : Int) := by have := (List.getElem?_eq_some_iff.1 hx).1; omega
        have c2 : w1.cell? ⟨b, off + k * 3 + 2, none⟩ = some (.int .u32 x.too) := (hbw.cell (p := ⟨b, off + k * 3 + 2, none⟩) hbB).trans (hcell k 2 _ (wcell hx rfl))
        clear hcell
        go_wp2
        refine bodyPost_ret (results_h (t1 := 8) (t3 := 9) (g := w.heap.size + 1) Try.results51 rfl rfl (set5 (set_far K1.out (by simp)))) rfl ?_
        unfold ApPost
        rw [H1.out, hX.out]
        exact ⟨rfl, below_set5 (hbw.setCell (Nat.le_refl _) _) (by omega)⟩
  · have hne : (rwE Fs l != 0) = true := by simp [h1]
    have hX := Lib.hid (apH_no (dest := dest) (h := h) h1)
    have HC := Lib.hid hcon
    clear h1 hcon
    go_enter Try.func51, Try.ntmps51
    go_wp2_with fail
    refine HC.out.mono ?_
    rintro e w1 ⟨rfl, hb⟩
    have hbw := hW.trans (hb.mono hW.size)
    have K1 := Lib.hid (blk_below hb (blk2 w (.cells #[.int .u32 h.src, .int .u32 h.dst, .int .u8 h.proto, .int .u16 h.sp, .int .u16 h.dp] 45) (.cells #[.int .u32 0, .int .u32 0, .int .u8 0, .int .u16 0, .int .u16 0] 45)).2)
    obtain ⟨r0, r1, r2, r3, r4, s0, s1, s2, s3, s4⟩ := five_cells K1.out
    clear hb
    go_wp2
    refine bodyPost_ret (results_h (t1 := 8) (t3 := 9) (g := w.heap.size + 1) Try.results51 rfl rfl (set5 K1.out)) rfl ?_
    unfold ApPost
    rw [hX.out]
    exact ⟨rfl, below_set5 hbw (by omega)⟩

set_option maxRecDepth 100000 in
set_option maxHeartbeats 2000000 in
theorem refRwApply_any (l : List RewV) (vl : Value) (Fs : List FiltV) (v : Value) (dest : Bool) (h : HeaderV) (w : World) (hl : Rd w w.heap.size 3 vl l.length (wcells l)) (hF : FsAt w w.heap.size v Fs) (hlen : Fs.length ≤ 9223372036854775807) :
    Calls Try.prog 52 #[vl, v, .bool dest, .agg #[.int .u32 h.src, .int .u32 h.dst, .int .u8 h.proto, .int .u16 h.sp, .int .u16 h.dp]] w fun e w' => ApPost (apH Fs l dest h) (rwE Fs l) w e w' := by
  have hW := below2 w (.cells #[.int .u32 h.src, .int .u32 h.dst, .int .u8 h.proto, .int .u16 h.sp, .int .u16 h.dp] 45) (.cells #[.int .u32 0, .int .u32 0, .int .u8 0, .int .u16 0, .int .u16 0] 45)
  have hcon := refRwFirst_any l vl Fs v dest h _ ((hl.below hW).mono hW.size) (hF.next hW) hlen
  have HL := Lib.hid hl
  obtain ⟨A, c, rfl, hc⟩ := hF.1.form
  obtain ⟨A', cl, rfl, hcl⟩ := hl.form
  clear hF hl
  by_cases h1 : rwE Fs l = 0
  · rw [h1] at hcon
    rcases idxP_cases (appB Fs dest h) l with ⟨hD, _⟩ | ⟨k, x, hD, hx, _, _⟩
    · have hX := Lib.hid (apH_miss h1 hD)
      rw [firN_ok dest h h1, hD] at hcon
      have H1 := Lib.hid h1
      have HC := Lib.hid hcon
      clear h1 hcon hD
      cases dest
      all_goals (
        go_enter Try.func52, Try.ntmps52
        go_wp2_with fail
        refine HC.out.mono ?_
        rintro e w1 ⟨rfl, hb⟩
        have hbw := hW.trans (hb.mono hW.size)
        have K0 := Lib.hid (blk_below hb (blk2 w (.cells #[.int .u32 h.src, .int .u32 h.dst, .int .u8 h.proto, .int .u16 h.sp, .int .u16 h.dp] 45) (.cells #[.int .u32 0, .int .u32 0, .int .u8 0, .int .u16 0, .int .u16 0] 45)).1)
        have K1 := Lib.hid (blk_below hb (blk2 w (.cells #[.int .u32 h.src, .int .u32 h.dst, .int .u8 h.proto, .int .u16 h.sp, .int .u16 h.dp] 45) (.cells #[.int .u32 0, .int .u32 0, .int .u8 0, .int .u16 0, .int .u16 0] 45)).2)
        obtain ⟨p0, p1, p2, p3, p4, q0, q1, q2, q3, q4⟩ := five_cells K0.out
        obtain ⟨r0, r1, r2, r3, r4, s0, s1, s2, s3, s4⟩ := five_cells K1.out
        clear hb
        go_wp2
        refine bodyPost_ret (results_h (t1 := 8) (t3 := 9) (g := w.heap.size + 1) Try.results52 rfl rfl (set5 K1.out)) rfl ?_
        unfold ApPost
        rw [H1.out, hX.out]
        exact ⟨rfl, below_set5 hbw (by omega)⟩)
    · rw [firN_ok dest h h1, hD] at hcon
      have HC := Lib.hid hcon
      have H1 := Lib.hid h1
      cases dest with
      | true =>
        have hX := Lib.hid (apH_d h1 hD hx)
        clear h1 hcon hD
        go_enter Try.func52, Try.ntmps52
        go_wp2_with fail
        refine HC.out.mono ?_
        rintro e w1 ⟨rfl, hb⟩
        have hbw := hW.trans (hb.mono hW.size)
        have K0 := Lib.hid (blk_below hb (blk2 w (.cells #[.int .u32 h.src, .int .u32 h.dst, .int .u8 h.proto, .int .u16 h.sp, .int .u16 h.dp] 45) (.cells #[.int .u32 0, .int .u32 0, .int .u8 0, .int .u16 0, .int .u16 0] 45)).1)
        have K1 := Lib.hid (blk_below hb (blk2 w (.cells #[.int .u32 h.src, .int .u32 h.dst, .int .u8 h.proto, .int .u16 h.sp, .int .u16 h.dp] 45) (.cells #[.int .u32 0, .int .u32 0, .int .u8 0, .int .u16 0, .int .u16 0] 45)).2)
        obtain ⟨p0, p1, p2, p3, p4, q0, q1, q2, q3, q4⟩ := five_cells K0.out
        obtain ⟨r0, r1, r2, r3, r4, s0, s1, s2, s3, s4⟩ := five_cells K1.out
        clear hb
        obtain ⟨b, off, c', hv, _, hbB, hcell⟩ := HL.out.posAt (by have := (List.getElem?_eq_some_iff.1 hx).1; omega)
        injection hv with hv1 _ hv3
        subst hv1 hv3
        have hkl : (k : Int) < (l.length : Int) := by have := (List.getElem?_eq_some_iff.1 hx).1; omega
        have c2 : w1.cell? ⟨b, off + k * 3 + 2, none⟩ = some (.int .u32 x.too) := (hbw.cell (p := ⟨b, off + k * 3 + 2, none⟩) hbB).trans (hcell k 2 _ (wcell hx rfl))
        clear hcell
        go_wp2
        refine bodyPost_ret (results_h (t1 := 8) (t3 := 9) (g := w.heap.size + 1) Try.results52 rfl rfl (set5 (set_far K1.out (by simp)))) rfl ?_
        unfold ApPost
        rw [H1.out, hX.out]
        exact ⟨rfl, below_set5 (hbw.setCell (Nat.le_refl _) _) (by omega)⟩
      | false =>
        have hX := Lib.hid (apH_s h1 hD hx)
        clear h1 hcon hD
        go_enter Try.func52, Try.ntmps52
        go_wp2_with fail
        refine HC.out.mono ?_
        rintro e w1 ⟨rfl, hb⟩
        have hbw := hW.trans (hb.mono hW.size)
        have K0 := Lib.hid (blk_below hb (blk2 w (.cells #[.int .u32 h.src, .int .u32 h.dst, .int .u8 h.proto, .int .u16 h.sp, .int .u16 h.dp] 45) (.cells #[.int .u32 0, .int .u32 0, .int .u8 0, .int .u16 0, .int .u16 0] 45)).1)
        have K1 := Lib.hid (blk_below hb (blk2 w (.cells #[.int .u32 h.src, .int .u32 h.dst, .int .u8 h.proto, .int .u16 h.sp, .int .u16 h.dp] 45) (.cells #[.int .u32 0, .int .u32 0, .int .u8 0, .int .u16 0, .int .u16 0] 45)).2)
        obtain ⟨p0, p1, p2, p3, p4, q0, q1, q2, q3, q4⟩ := five_cells K0.out
        obtain ⟨r0, r1, r2, r3, r4, s0, s1, s2, s3, s4⟩ := five_cells K1.out
        clear hb
        obtain ⟨b, off, c', hv, _, hbB, hcell⟩ := HL.out.posAt (by have := (List.getElem?_eq_some_iff.1 hx).1; omega)
        injection hv with hv1 _ hv3
        subst hv1 hv3
        have hkl : (k : Int) < (l.length : Int) := by have := (List.getElem?_eq_some_iff.1 hx).1; omega
        have c2 : w1.cell? ⟨b, off + k * 3 + 2, none⟩ = some (.int .u32 x.too) := (hbw.cell (p := ⟨b, off + k * 3 + 2, none⟩) hbB).trans (hcell k 2 _ (wcell hx rfl))
        clear hcell
        go_wp2
        refine bodyPost_ret (results_h (t1 := 8) (t3 := 9) (g := w.heap.size + 1) Try.results52 rfl rfl (set5 (set_far K1.out (by simp)))) rfl ?_
        unfold ApPost
        rw [H1.out, hX.out]
        exact ⟨rfl, below_set5 (hbw.setCell (Nat.le_refl _) _) (by omega)⟩
  · have hne : (rwE Fs l != 0) = true := by simp [h1]
    have hX := Lib.hid (apH_no (dest := dest) (h := h) h1)
    have HC := Lib.hid hcon
    clear h1 hcon
    go_enter Try.func52, Try.ntmps52
    go_wp2_with fail
    refine HC.out.mono ?_
    rintro e w1 ⟨rfl, hb⟩
    have hbw := hW.trans (hb.mono hW.size)
    have K1 := Lib.hid (blk_below hb (blk2 w (.cells #[.int .u32 h.src, .int .u32 h.dst, .int .u8 h.proto, .int .u16 h.sp, .int .u16 h.dp] 45) (.cells #[.int .u32 0, .int .u32 0, .int .u8 0, .int .u16 0, .int .u16 0] 45)).2)
    obtain ⟨r0, r1, r2, r3, r4, s0, s1, s2, s3, s4⟩ := five_cells K1.out
    clear hb
    go_wp2
    refine bodyPost_ret (results_h (t1 := 8) (t3 := 9) (g := w.heap.size + 1) Try.results52 rfl rfl (set5 K1.out)) rfl ?_
    unfold ApPost
    rw [hX.out]
    exact ⟨rfl, below_set5 hbw (by omega)⟩

end Go.Proofs.Ytpljnogmfeenkaa

/-
  Walks over the layer of rewrites: First, the program's and the reference's (written by wip/gen/genrw6.py).
-/
import Derived.Test.YtpljnogmfeenkaaRw5
namespace Go.Proofs.Ytpljnogmfeenkaa
open Go Go.RowKit Go.Sort

/-- Which rewrite applies; 0 where they are refused. -/
def firN (Fs : List FiltV) (l : List RewV) (dest : Bool) (h : HeaderV) : Int := if rwE Fs l = 0 then idxP (appB Fs dest h) l else 0
theorem firN_ok {Fs : List FiltV} {l : List RewV} (dest : Bool) (h : HeaderV) (h1 : rwE Fs l = 0) : firN Fs l dest h = idxP (appB Fs dest h) l := if_pos h1
theorem firN_no {Fs : List FiltV} {l : List RewV} (dest : Bool) (h : HeaderV) (h1 : ¬ rwE Fs l = 0) : firN Fs l dest h = 0 := if_neg h1
theorem rwE_fine {Fs : List FiltV} {l : List RewV} (h : rwE Fs l = 0) : l.length ≤ 256 ∧ ∀ x ∈ l, errX Fs x = 0 := by
  by_cases h1 : 256 < l.length
  · rw [rwE_1 h1] at h; omega
  · rw [rwE_2 h1] at h
    exact ⟨by omega, chkE_zero h⟩
theorem filtE_fine {L : List RuleV} (h : filtE L = 0) : L.length ≤ 256 := by
  rcases Nat.lt_or_ge 256 L.length with h1 | h1
  · rw [filtE_1 h1] at h; omega
  · exact h1

set_option maxRecDepth 100000 in
set_option maxHeartbeats 2000000 in
theorem rwFirst_any (l : List RewV) (vl : Value) (Fs : List FiltV) (v : Value) (dest : Bool) (h : HeaderV) (w : World) (hl : Rd w w.heap.size 3 vl l.length (wcells l)) (hF : FsAt w w.heap.size v Fs) (hlen : Fs.length ≤ 9223372036854775807) :
    Calls Try.prog 49 #[vl, v, .bool dest, .agg #[.int .u32 h.src, .int .u32 h.dst, .int .u8 h.proto, .int .u16 h.sp, .int .u16 h.dp]] w fun e w' => e = .returned (.tuple #[.int .i64 (firN Fs l dest h), .int .i64 (rwE Fs l)]) ∧ Below w.heap.size w w' := by
  have hW := below1 w (.cells #[.int .u32 h.src, .int .u32 h.dst, .int .u8 h.proto, .int .u16 h.sp, .int .u16 h.dp] 45)
  have hcon := rwCheck_any l vl Fs v _ ((hl.below hW).mono hW.size) (hF.next hW) hlen
  have HF := Lib.hid hF
  have HL := Lib.hid hl
  obtain ⟨A, c, rfl, hc⟩ := hF.1.form
  obtain ⟨A', cl, rfl, hcl⟩ := hl.form
  clear hF hl
  by_cases h1 : rwE Fs l = 0
  · rw [h1] at hcon
    have hX := Lib.hid (firN_ok dest h h1)
    have hfine := Lib.hid (rwE_fine h1)
    have H1 := Lib.hid h1
    have HC := Lib.hid hcon
    clear h1 hcon
    go_enter Try.func49, Try.ntmps49
    go_wp2_with fail
    refine HC.out.mono ?_
    rintro e w1 ⟨rfl, hb⟩
    have hbw := hW.trans (hb.mono hW.size)
    have hlt : w.heap.size < w1.heap.size := by have := hb.size; simp at this; omega
    have J0 := blk_below hb (blk1 w (.cells #[.int .u32 h.src, .int .u32 h.dst, .int .u8 h.proto, .int .u16 h.sp, .int .u16 h.dp] 45))
    have hbw2 := hbw.alloc hbw.size (.cells #[.int .i64 (-1)] 3)
    have hea := Lib.hid (each_any l (.slice A' l.length cl) Fs (.slice A Fs.length c) dest h w.heap.size w.heap.size w1.heap.size _ (HL.out.below hbw2) (HF.out.below hbw2) hlen hfine.out.1 hfine.out.2 hbw2.size hbw.size (Nat.ne_of_lt hlt) ((Below.heap_alloc w1 _ _ hlt).trans J0) (blk1 w1 _))
    clear hb J0
    go_wp2_with fail
    refine hea.out.mono ?_
    rintro e w2 ⟨rfl, hga, hb2⟩
    obtain ⟨k0, k1⟩ := one_cell hga
    have hbw3 := hbw2.trans hb2
    clear hga hb2
    go_wp2
    go_ret2
    exact ⟨rt2 ⟨vi hX.out.symm, vi H1.out.symm⟩, hbw3⟩
  · have hne : (rwE Fs l != 0) = true := by simp [h1]
    have hX := Lib.hid (firN_no dest h h1)
    have HC := Lib.hid hcon
    clear h1 hcon
    go_enter Try.func49, Try.ntmps49
    go_wp2_with fail
    refine HC.out.mono ?_
    rintro e w1 ⟨rfl, hb⟩
    have hbw := hW.trans (hb.mono hW.size)
    go_wp2
    go_ret2
    exact ⟨rt2 ⟨vi hX.out.symm, rfl⟩, hbw⟩

set_option maxRecDepth 100000 in
set_option maxHeartbeats 2000000 in
theorem refRwFirst_any (l : List RewV) (vl : Value) (Fs : List FiltV) (v : Value) (dest : Bool) (h : HeaderV) (w : World) (hl : Rd w w.heap.size 3 vl l.length (wcells l)) (hF : FsAt w w.heap.size v Fs) (hlen : Fs.length ≤ 9223372036854775807) :
    Calls Try.prog 50 #[vl, v, .bool dest, .agg #[.int .u32 h.src, .int .u32 h.dst, .int .u8 h.proto, .int .u16 h.sp, .int .u16 h.dp]] w fun e w' => e = .returned (.tuple #[.int .i64 (firN Fs l dest h), .int .i64 (rwE Fs l)]) ∧ Below w.heap.size w w' := by
  have hW := below1 w (.cells #[.int .u32 h.src, .int .u32 h.dst, .int .u8 h.proto, .int .u16 h.sp, .int .u16 h.dp] 45)
  have hcon := refRwCheck_any l vl Fs v _ ((hl.below hW).mono hW.size) (hF.next hW) hlen
  have HF := Lib.hid hF
  have HL := Lib.hid hl
  obtain ⟨A, c, rfl, hc⟩ := hF.1.form
  obtain ⟨A', cl, rfl, hcl⟩ := hl.form
  clear hF hl
  by_cases h1 : rwE Fs l = 0
  · rw [h1] at hcon
    have hX := Lib.hid (firN_ok dest h h1)
    have hfine := Lib.hid (rwE_fine h1)
    have hll := hfine.out.1
    have H1 := Lib.hid h1
    have HC := Lib.hid hcon
    clear h1 hcon
    go_enter Try.func50, Try.ntmps50
    go_wp2_with fail
    refine HC.out.mono ?_
    rintro e w1 ⟨rfl, hb⟩
    have hbw := hW.trans (hb.mono hW.size)
    have J0 := Lib.hid (blk_below hb (blk1 w (.cells #[.int .u32 h.src, .int .u32 h.dst, .int .u8 h.proto, .int .u16 h.sp, .int .u16 h.dp] 45)))
    clear hb
    go_wp2
    go_loopw [11] (fun i wr => ∃ k : Nat, i = .int .i64 k ∧ k ≤ l.length ∧ Hid (∀ (j : Nat) (x : RewV), j < k → l[j]? = some x → appB Fs dest h x = false) ∧ Hid (wr.heap[w.heap.size]? = some (.cells #[.int .u32 h.src, .int .u32 h.dst, .int .u8 h.proto, .int .u16 h.sp, .int .u16 h.dp] 45 (0, 0))) ∧ Below w.heap.size w wr) (fun i _ => l.length - (intOf i).toNat)
    case atStart => exact ⟨0, rfl, by omega, fun j r hj => absurd hj (by omega), J0.out, hbw⟩
    case round =>
      obtain ⟨k, rfl, hk, hno, hgh, hnx⟩ := hrel
      by_cases hlt : k < l.length
      · have hI : (k : Int) < (l.length : Int) := by omega
        obtain ⟨x, hx⟩ : ∃ x, l[k]? = some x := ⟨_, List.getElem?_eq_getElem hlt⟩
        obtain ⟨b, off, c', hv, _, hbB, hcell⟩ := HL.out.posAt (by omega)
        injection hv with hv1 _ hv3
        subst hv1 hv3
        obtain ⟨D, hD⟩ : ∃ D, x.dest = D := ⟨_, rfl⟩
        have c0 : wr.cell? ⟨b, off + k * 3, none⟩ = some (.bool D) := by rw [← hD]; exact (hnx.cell (p := ⟨b, off + k * 3, none⟩) hbB).trans (hcell k 0 _ (wcell hx rfl))
        have c1 : wr.cell? ⟨b, off + k * 3 + 1, none⟩ = some (.string x.nm) := (hnx.cell (p := ⟨b, off + k * 3 + 1, none⟩) hbB).trans (hcell k 1 _ (wcell hx rfl))
        have e0 : wr.cell? ⟨w.heap.size, 0, none⟩ = some (.int .u32 h.src) := cell_of_row wr w.heap.size 0 _ _ (0, 0) hgh.out
        have e1 : wr.cell? ⟨w.heap.size, 1, none⟩ = some (.int .u32 h.dst) := cell_of_row wr w.heap.size 1 _ _ (0, 0) hgh.out
        have e2 : wr.cell? ⟨w.heap.size, 2, none⟩ = some (.int .u8 h.proto) := cell_of_row wr w.heap.size 2 _ _ (0, 0) hgh.out
        have e3 : wr.cell? ⟨w.heap.size, 3, none⟩ = some (.int .u16 h.sp) := cell_of_row wr w.heap.size 3 _ _ (0, 0) hgh.out
        have e4 : wr.cell? ⟨w.heap.size, 4, none⟩ = some (.int .u16 h.dp) := cell_of_row wr w.heap.size 4 _ _ (0, 0) hgh.out
        clear hcell
        have HFr := Lib.hid ((HF.out.below hnx).mono hnx.size)
        obtain ⟨_, n2⟩ := errX_fine (hfine.out.2 x (List.mem_of_getElem? hx))
        have hle : (namL Fs x.nm).length ≤ 4294967296 := by have := filtE_fine n2; omega
        clear n2
        have hnext : appB Fs dest h x = false → Hid (∀ (j : Nat) (y : RewV), j < k + 1 → l[j]? = some y → appB Fs dest h y = false) := fun h0 j y hj hy => by
          by_cases hjk : j = k
          · subst hjk
            rw [hx] at hy
            injection hy with hy
            rw [← hy]; exact h0
          · exact hno.out j y (by omega) hy
        have HN := Lib.hid hnext
        clear hnext
        by_cases hd : D = dest
        · have hd' := hd.symm
          subst hd'
          clear hd
          have hap : Hid (appB Fs dest h x = namP Fs x.nm h) := by unfold Hid appB; simp [hD]
          clear hD
          have F0 := cell_regrown c0
          have F1 := cell_regrown c1
          have G0 := cell_regrown e0
          have G1 := cell_regrown e1
          have G2 := cell_regrown e2
          have G3 := cell_regrown e3
          have G4 := cell_regrown e4
          clear c0 c1 e0 e1 e2 e3 e4
          go_wp2
          refine wp_region_quiet_below (by kernel_rfl) (by kernel_rfl) ?_
          repeat (first | go_big_quiet_step ((go_at_call 108; exact Calls.regrown_of (refRwPermits_any Fs _ x.nm h _ (HFr.out.next (below_regrown _ _ _)) hlen hle))) | quiet_step ((go_at_call 108; exact Calls.regrown_of (refRwPermits_any Fs _ x.nm h _ (HFr.out.next (below_regrown _ _ _)) hlen hle))))
          refine wpQuiet_nil ?_
          intro _ hw'
          obtain ⟨⟨nq, osq⟩, hw''⟩ := hw'
          subst hw''
          have hq := below_regrown wr nq osq
          have hnq := hnx.trans (hq.mono hnx.size)
          have hgh' := Lib.hid (blk_below hq hgh.out)
          clear hq F0 F1 G0 G1 G2 G3 G4
          cases hp : namP Fs x.nm h with
          | true =>
            have hR : Hid (idxP (appB Fs dest h) l = k) := idxP_hit _ l k x hx (hap.out.trans hp) hno.out
            clear hp
            go_wp2
            go_ret2
            exact ⟨rt2 ⟨vi (hX.out.trans hR.out).symm, vi H1.out.symm⟩, hnq⟩
          | false =>
            have hf := Lib.hid (HN.out (hap.out.trans hp))
            clear hp
            go_wp2
            exact ⟨⟨k + 1, by go_num, by omega, hf.out.out, hgh'.out, hnq⟩, by simp only [intOf]; omega⟩
        · have hap : Hid (appB Fs dest h x = false) := by unfold Hid appB; simp [hD, hd]
          clear hD
          obtain rfl : D = !dest := by cases D <;> cases dest <;> simp_all
          clear hd
          have hbb : ((!dest) == dest) = false := by cases dest <;> rfl
          have F0 := cell_regrown c0
          go_wp2
          refine wp_region_quiet_below (by kernel_rfl) (by kernel_rfl) ?_
          repeat (first | go_big_quiet_step (fail) | quiet_step (fail))
          refine wpQuiet_nil ?_
          intro _ hw'
          obtain ⟨⟨nq, osq⟩, hw''⟩ := hw'
          subst hw''
          have hq := below_regrown wr nq osq
          have hnq := hnx.trans (hq.mono hnx.size)
          have hgh' := Lib.hid (blk_below hq hgh.out)
          clear hq F0
          go_wp2
          exact ⟨⟨k + 1, by go_num, by omega, HN.out hap.out, hgh'.out, hnq⟩, by simp only [intOf]; omega⟩
      · have hR : Hid (idxP (appB Fs dest h) l = -1) := idxP_miss _ l (fun j x hx => hno.out j x (by have := (List.getElem?_eq_some_iff.1 hx).1; omega) hx)
        go_wp2
        go_ret2
        exact ⟨rt2 ⟨vi (hX.out.trans hR.out).symm, vi H1.out.symm⟩, hnx⟩
  · have hne : (rwE Fs l != 0) = true := by simp [h1]
    have hX := Lib.hid (firN_no dest h h1)
    have HC := Lib.hid hcon
    clear h1 hcon
    go_enter Try.func50, Try.ntmps50
    go_wp2_with fail
    refine HC.out.mono ?_
    rintro e w1 ⟨rfl, hb⟩
    have hbw := hW.trans (hb.mono hW.size)
    go_wp2
    go_ret2
    exact ⟨rt2 ⟨vi hX.out.symm, rfl⟩, hbw⟩

end Go.Proofs.Ytpljnogmfeenkaa

/-
  Walks over the filter's layer: Decides; the program's and the reference's (written by wip/gen/genfilt6.py).
-/
import Derived.Test.YtpljnogmfeenkaaFilt5
namespace Go.Proofs.Ytpljnogmfeenkaa
open Go Go.RowKit Go.Sort

/-- Which rule decides. -/
def decN (L : List RuleV) (h : HeaderV) : Int := idxP (fun r => fitsB r h) L
/-- .. 0 of a filter that is refused. -/
def decR (L : List RuleV) (h : HeaderV) : Int := if filtE L = 0 then decN L h else 0
theorem decR_ok {L : List RuleV} (h : HeaderV) (h1 : filtE L = 0) : decR L h = decN L h := if_pos h1
theorem decR_no {L : List RuleV} (h : HeaderV) (h1 : ¬ filtE L = 0) : decR L h = 0 := if_neg h1

set_option maxHeartbeats 400000 in
theorem fitsClos_any (r : RuleV) (h : HeaderV) (B : Nat) (w : World) (hB : w.heap[B]? = some (.cells #[.int .u32 h.src, .int .u32 h.dst, .int .u8 h.proto, .int .u16 h.sp, .int .u16 h.dp] 45 (0, 0))) :
    Calls Try.prog 99 #[.agg #[.bool r.permit, .int .i64 r.proto, .int .u32 r.sa, .int .i64 r.sn, .int .u32 r.da, .int .i64 r.dn, .int .u32 r.sl, .int .u32 r.sh, .int .u32 r.dl, .int .u32 r.dh], .pointer (some ⟨B, 0, none⟩)] w fun e w' => e = .returned (.bool (fitsB r h)) ∧ Below w.heap.size w w' := by
  have hlt := lt_of_block hB
  have hne : B ≠ w.heap.size := Nat.ne_of_lt hlt
  have e0 : w.cell? ⟨B, 0, none⟩ = some (.int .u32 h.src) := cell_of_row w (B) 0 _ _ (0, 0) hB
  have e1 : w.cell? ⟨B, 1, none⟩ = some (.int .u32 h.dst) := cell_of_row w (B) 1 _ _ (0, 0) hB
  have e2 : w.cell? ⟨B, 2, none⟩ = some (.int .u8 h.proto) := cell_of_row w (B) 2 _ _ (0, 0) hB
  have e3 : w.cell? ⟨B, 3, none⟩ = some (.int .u16 h.sp) := cell_of_row w (B) 3 _ _ (0, 0) hB
  have e4 : w.cell? ⟨B, 4, none⟩ = some (.int .u16 h.dp) := cell_of_row w (B) 4 _ _ (0, 0) hB
  clear hB
  go_enter Try.func99, Try.ntmps99
  go_wp2_with fail
  refine (fits_any r h _).mono ?_
  rintro e w1 ⟨rfl, hb⟩
  have hbw := below_call (below1 w _) hb
  go_wp2
  go_ret
  exact ⟨rfl, hbw⟩
theorem fitsClos_pred (h : HeaderV) (B : Nat) (w : World) (hB : w.heap[B]? = some (.cells #[.int .u32 h.src, .int .u32 h.dst, .int .u8 h.proto, .int .u16 h.sp, .int .u16 h.dp] 45 (0, 0))) : PredBelow Try.prog 99 #[.pointer (some ⟨B, 0, none⟩)] (fun x : RuleV => .agg x.enc.toArray) (fun r => fitsB r h) w := fun W r hb =>
  (fitsClos_any r h B W (blk_below hb hB)).mono fun _ _ ⟨he, hb'⟩ => ⟨he, hb.trans (hb'.mono hb.size)⟩

set_option maxHeartbeats 1000000 in
theorem decides_any (nm : ByteArray) (L : List RuleV) (v : Value) (h : HeaderV) (w : World) (hr : Rd w w.heap.size 10 v L.length (rcells L)) :
    Calls Try.prog 20 #[.agg #[.string nm, v], .agg #[.int .u32 h.src, .int .u32 h.dst, .int .u8 h.proto, .int .u16 h.sp, .int .u16 h.dp]] w fun e w' => e = .returned (.tuple #[.int .i64 (decR L h), .int .i64 (filtE L)]) ∧ Below w.heap.size w w' := by
  have hW : Below w.heap.size w ((w.alloc (.cells #[.string nm, v] 34)).alloc (.cells #[.int .u32 h.src, .int .u32 h.dst, .int .u8 h.proto, .int .u16 h.sp, .int .u16 h.dp] 45)) := below2 w _ _
  have h' := (hr.below hW).mono hW.size
  obtain ⟨A, c, rfl, hc⟩ := hr.form
  have HR := Lib.hid h'
  clear hr h'
  by_cases h1 : filtE L = 0
  · have hd : (filtE L != 0) = false := by simp [h1]
    have H1 := Lib.hid h1
    have hE := Lib.hid (decR_ok h h1).symm
    have hlen : L.length ≤ 256 := by
      rcases Nat.lt_or_ge 256 L.length with h2 | h2
      · rw [filtE_1 h2] at h1; omega
      · exact h2
    clear h1
    go_enter Try.func20, Try.ntmps20
    go_wp2_with fail
    refine (filtCheck_any nm L _ _ HR.out).mono ?_
    rintro e w1 ⟨rfl, hb⟩
    have J0 := blk_below hb (blk2 w _ _).1
    have J1 := blk_below hb (blk2 w _ _).2
    have hbw := below_call hW hb
    have hcon := Lib.hid (indexRule_any L _ (fun r => fitsB r h) 99 #[.pointer (some ⟨w.heap.size + 1, 0, none⟩)] _ (enters_of Try.func99 (by kernel_rfl) rfl) (fitsClos_pred h _ _ J1) ((HR.out.below hb).mono hb.size) (by omega))
    obtain ⟨ca, cb, _, _⟩ := two_cells J0
    have l0 := lt_of_block J0
    clear hb J0 J1 hW HR
    have hdec : Hid (idxP (fun r => fitsB r h) L = decN L h) := rfl
    generalize idxP (fun r => fitsB r h) L = D at *
    go_wp2_with fail
    refine hcon.out.mono ?_
    rintro e w2 ⟨rfl, hb2⟩
    have hbw2 := below_call hbw hb2
    go_wp2
    go_ret2
    exact ⟨rt2 ⟨vi (by rw [hdec.out]; exact hE.out), vi H1.out.symm⟩, hbw2⟩
  · have hd : (filtE L != 0) = true := by simp [h1]
    have hE := Lib.hid (decR_no h h1).symm
    clear h1
    go_enter Try.func20, Try.ntmps20
    go_wp2_with fail
    refine (filtCheck_any nm L _ _ HR.out).mono ?_
    rintro e w1 ⟨rfl, hb⟩
    have hbw := below_call hW hb
    go_wp2
    go_ret2
    exact ⟨rt2 ⟨vi hE.out, rfl⟩, hbw⟩

set_option maxRecDepth 100000 in
set_option maxHeartbeats 1000000 in
theorem refDecides_any (nm : ByteArray) (L : List RuleV) (v : Value) (h : HeaderV) (w : World) (hr : Rd w w.heap.size 10 v L.length (rcells L)) (hlen : L.length ≤ 4294967296) :
    Calls Try.prog 24 #[.agg #[.string nm, v], .agg #[.int .u32 h.src, .int .u32 h.dst, .int .u8 h.proto, .int .u16 h.sp, .int .u16 h.dp]] w fun e w' => e = .returned (.int .i64 (decN L h)) ∧ Below w.heap.size w w' := by
  by_cases h0 : L.length = 0
  · obtain ⟨A, c, rfl, hc⟩ := hr.form
    have e1 : L = [] := List.eq_nil_of_length_eq_zero h0
    subst e1
    clear hr
    go_enter Try.func24, Try.ntmps24
    go_wp2
    refine wp_loop_rounds 1 ?_
    rw [rounds_succ]
    go_wp2
    go_ret
    exact ⟨rfl, below2 w _ _⟩
  · obtain ⟨b, off, c, rfl, hc, hbB, hcell⟩ := hr.posAt (by omega)
    clear hr
    have HC := Lib.hid hcell
    clear hcell
    go_enter Try.func24, Try.ntmps24
    go_wp2
    go_loopw [5] (fun i wr => ∃ k : Nat, i = .int .i64 k ∧ k ≤ L.length ∧ Hid (∀ (j : Nat) (r : RuleV), j < k → L[j]? = some r → fitsB r h = false) ∧ wr.heap[w.heap.size]? = some (.cells #[.string nm, .slice (some ⟨b, off, none⟩) L.length c] 34 (0, 0)) ∧ wr.heap[w.heap.size + 1]? = some (.cells #[.int .u32 h.src, .int .u32 h.dst, .int .u8 h.proto, .int .u16 h.sp, .int .u16 h.dp] 45 (0, 0)) ∧ Below w.heap.size w wr) (fun i _ => L.length - (intOf i).toNat)
    case atStart => exact ⟨0, rfl, by omega, fun j r hj => absurd hj (by omega), (blk2 w _ _).1, (blk2 w _ _).2, below2 w _ _⟩
    case round =>
      obtain ⟨k, rfl, hk, hno, hblk, hhd, hnx⟩ := hrel
      obtain ⟨ca, cb, _, _⟩ := two_cells hblk
      by_cases hlt : k < L.length
      · obtain ⟨r, hr⟩ : ∃ r, L[k]? = some r := ⟨_, List.getElem?_eq_getElem hlt⟩
        have hI : (k : Int) < (L.length : Int) := by omega
        have c0 : wr.cell? ⟨b, off + k * 10, none⟩ = some (.bool r.permit) := (hnx.cell hbB).trans (HC.out k 0 _ (rcell hr rfl))
        have c1 : wr.cell? ⟨b, off + k * 10 + 1, none⟩ = some (.int .i64 r.proto) := (hnx.cell hbB).trans (HC.out k 1 _ (rcell hr rfl))
        have c2 : wr.cell? ⟨b, off + k * 10 + 2, none⟩ = some (.int .u32 r.sa) := (hnx.cell hbB).trans (HC.out k 2 _ (rcell hr rfl))
        have c3 : wr.cell? ⟨b, off + k * 10 + 3, none⟩ = some (.int .i64 r.sn) := (hnx.cell hbB).trans (HC.out k 3 _ (rcell hr rfl))
        have c4 : wr.cell? ⟨b, off + k * 10 + 4, none⟩ = some (.int .u32 r.da) := (hnx.cell hbB).trans (HC.out k 4 _ (rcell hr rfl))
        have c5 : wr.cell? ⟨b, off + k * 10 + 5, none⟩ = some (.int .i64 r.dn) := (hnx.cell hbB).trans (HC.out k 5 _ (rcell hr rfl))
        have c6 : wr.cell? ⟨b, off + k * 10 + 6, none⟩ = some (.int .u32 r.sl) := (hnx.cell hbB).trans (HC.out k 6 _ (rcell hr rfl))
        have c7 : wr.cell? ⟨b, off + k * 10 + 7, none⟩ = some (.int .u32 r.sh) := (hnx.cell hbB).trans (HC.out k 7 _ (rcell hr rfl))
        have c8 : wr.cell? ⟨b, off + k * 10 + 8, none⟩ = some (.int .u32 r.dl) := (hnx.cell hbB).trans (HC.out k 8 _ (rcell hr rfl))
        have c9 : wr.cell? ⟨b, off + k * 10 + 9, none⟩ = some (.int .u32 r.dh) := (hnx.cell hbB).trans (HC.out k 9 _ (rcell hr rfl))
        have e0 : wr.cell? ⟨w.heap.size + 1, 0, none⟩ = some (.int .u32 h.src) := cell_of_row wr (w.heap.size + 1) 0 _ _ (0, 0) hhd
        have e1 : wr.cell? ⟨w.heap.size + 1, 1, none⟩ = some (.int .u32 h.dst) := cell_of_row wr (w.heap.size + 1) 1 _ _ (0, 0) hhd
        have e2 : wr.cell? ⟨w.heap.size + 1, 2, none⟩ = some (.int .u8 h.proto) := cell_of_row wr (w.heap.size + 1) 2 _ _ (0, 0) hhd
        have e3 : wr.cell? ⟨w.heap.size + 1, 3, none⟩ = some (.int .u16 h.sp) := cell_of_row wr (w.heap.size + 1) 3 _ _ (0, 0) hhd
        have e4 : wr.cell? ⟨w.heap.size + 1, 4, none⟩ = some (.int .u16 h.dp) := cell_of_row wr (w.heap.size + 1) 4 _ _ (0, 0) hhd
        have HR := Lib.hid hr
        have HB := Lib.hid hblk
        have HH := Lib.hid hhd
        clear hr hblk hhd
        have F0 := cell_regrown c0
        have F1 := cell_regrown c1
        have F2 := cell_regrown c2
        have F3 := cell_regrown c3
        have F4 := cell_regrown c4
        have F5 := cell_regrown c5
        have F6 := cell_regrown c6
        have F7 := cell_regrown c7
        have F8 := cell_regrown c8
        have F9 := cell_regrown c9
        have G0 := cell_regrown e0
        have G1 := cell_regrown e1
        have G2 := cell_regrown e2
        have G3 := cell_regrown e3
        have G4 := cell_regrown e4
        have Fa := cell_regrown ca
        have Fb := cell_regrown cb
        go_wp2
        refine wp_region_quiet_below (by kernel_rfl) (by kernel_rfl) ?_
        repeat (first | go_big_quiet_step ((go_at_call 23; exact Calls.regrown_of (refFits_any r h _))) | quiet_step ((go_at_call 23; exact Calls.regrown_of (refFits_any r h _))))
        refine wpQuiet_nil ?_
        intro _ hw'
        obtain ⟨⟨nq, osq⟩, hw''⟩ := hw'
        subst hw''
        go_wp2
        · have hm : fitsB r h = true := by assumption
          go_ret
          exact ⟨ret_int (idxP_hit _ L k r HR.out hm hno.out).symm, hnx.trans ((below_regrown wr nq osq).mono hnx.size)⟩
        · have hm : fitsB r h = false := by first | assumption | (have := ‹¬ fitsB r h = true›; simpa using this)
          refine ⟨⟨k + 1, by go_num, by omega, fun j r' hj hr' => ?_, blk_below (below_regrown wr nq osq) HB.out, blk_below (below_regrown wr nq osq) HH.out, hnx.trans ((below_regrown wr nq osq).mono hnx.size)⟩, by simp only [intOf]; omega⟩
          by_cases hjk : j = k
          · subst hjk
            have := HR.out
            rw [this] at hr'
            injection hr' with hr'
            rw [← hr']; exact hm
          · exact hno.out j r' (by omega) hr'
      · go_wp2
        go_ret
        exact ⟨ret_int (idxP_miss _ L (fun j x hx => hno.out j x (by have := (List.getElem?_eq_some_iff.1 hx).1; omega) hx)).symm, hnx⟩

end Go.Proofs.Ytpljnogmfeenkaa

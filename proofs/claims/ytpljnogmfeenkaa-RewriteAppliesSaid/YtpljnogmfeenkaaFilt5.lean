/-
  Walks over the filter's layer: whole filters: the reference's Check, Decides.
-/
import Derived.Test.YtpljnogmfeenkaaFilt4
namespace Go.Proofs.Ytpljnogmfeenkaa
open Go Go.RowKit Go.Sort

theorem rcell {L : List RuleV} {k i : Nat} {r : RuleV} {v : Value} (h : L[k]? = some r) (hv : r.enc[i]? = some v) : (rcells L)[k * 10 + i]? = some v := flat_get RuleV.enc 10 rule_len L k i r v h hv

set_option maxRecDepth 100000 in
set_option maxHeartbeats 1000000 in
theorem refFiltCheck_any (nm : ByteArray) (L : List RuleV) (v : Value) (w : World) (h : Rd w w.heap.size 10 v L.length (rcells L)) :
    Calls Try.prog 18 #[.agg #[.string nm, v]] w fun e w' => e = .returned (.int .i64 (filtE L)) ∧ Below w.heap.size w w' := by
  by_cases h1 : 256 < L.length
  · obtain ⟨A, c, rfl, hc⟩ := h.form
    have hE := Lib.hid (filtE_1 h1)
    have h2 : (256 : Int) < (L.length : Int) := by omega
    clear h
    go_enter Try.func18, Try.ntmps18
    go_wp2
    go_ret
    exact ⟨ret_int hE.out.symm, below1 w _⟩
  · have h2 : ¬ (256 : Int) < (L.length : Int) := by omega
    have H1 := Lib.hid h1
    by_cases h0 : L.length = 0
    · obtain ⟨A, c, rfl, hc⟩ := h.form
      have e1 : L = [] := List.eq_nil_of_length_eq_zero h0
      subst e1
      clear h h1
      go_enter Try.func18, Try.ntmps18
      go_wp2
      refine wp_loop_rounds 1 ?_
      rw [rounds_succ]
      go_wp2
      go_ret
      exact ⟨rfl, below1 w _⟩
    · obtain ⟨b, off, c, rfl, hc, hbB, hcell⟩ := h.posAt (by omega)
      clear h
      have HC := Lib.hid hcell
      clear hcell
      go_enter Try.func18, Try.ntmps18
      go_wp2
      go_loopw [3] (fun i wr => ∃ k : Nat, i = .int .i64 k ∧ k ≤ L.length ∧ Hid (∀ (j : Nat) (r : RuleV), j < k → L[j]? = some r → mayB r = true) ∧ wr.heap[w.heap.size]? = some (.cells #[.string nm, .slice (some ⟨b, off, none⟩) L.length c] 34 (0, 0)) ∧ Below w.heap.size w wr) (fun i _ => L.length - (intOf i).toNat)
      case atStart => exact ⟨0, rfl, by omega, fun j r hj => absurd hj (by omega), blk1 w _, below1 w _⟩
      case round =>
        obtain ⟨k, rfl, hk, hmay, hblk, hnx⟩ := hrel
        obtain ⟨ca, cb, _, _⟩ := two_cells hblk
        have HB := Lib.hid hblk
        clear hblk
        by_cases hlt : k < L.length
        · obtain ⟨r, hr⟩ : ∃ r, L[k]? = some r := ⟨_, List.getElem?_eq_getElem hlt⟩
          have hI : (k : Int) < (L.length : Int) := by omega
          have c0 : wr.cell? ⟨b, off + k * 10, none⟩ = some (.bool r.permit) := (hnx.cell hbB).trans (HC.out k 0 _ (rcell hr rfl))
          have c1 : wr.cell? ⟨b, off + k * 10 + 1, none⟩ = some (.int .i64 r.proto) := (hnx.cell hbB).trans (HC.out k 1 _ (rcell hr rfl))
          have c2 : wr.cell? ⟨b, off + k * 10 + 2, none⟩ = some (.int .u32 r.sa) := (hnx.cell hbB).trans (HC.out k 2 _ (rcell hr rfl))
          have c3 : wr.cell? ⟨b, off + k * 10 + 3, none⟩ = some (.int .i64 r.sn) := (hnx.cell hbB).trans (HC.out k 3 _ (rcell hr rfl))
          have c4 : wr.cell? ⟨b, off + k * 10 + 4, none⟩ = some (.int .u32 r.da) := (hnx.cell hbB).trans (HC.out k 4 _ (rcell hr rfl))
          have c5 : wr.cell? ⟨b, off + k * 10 + 5, none⟩ = some (.int .i64 r.dn) := (hnx.cell hbB).trans (HC.out k 5 _ (rcell hr rfl))
          have c6 : wr.cell? ⟨b, off + k * 10 + 6, none⟩ = some (.int .u32 r.sl) := (hnx.cell hbB).trans (HC.out k 6 _ (rcell hr rfl))
          have c7 : wr.cell? ⟨b, off + k * 10 + 7, none⟩ = some (.int .u32 r.sh) := (hnx.cell hbB).trans (HC.out k 7 _ (rcell hr rfl))
          have c8 : wr.cell? ⟨b, off + k * 10 + 8, none⟩ = some (.int .u32 r.dl) := (hnx.cell hbB).trans (HC.out k 8 _ (rcell hr rfl))
          have c9 : wr.cell? ⟨b, off + k * 10 + 9, none⟩ = some (.int .u32 r.dh) := (hnx.cell hbB).trans (HC.out k 9 _ (rcell hr rfl))
          have HR := Lib.hid hr
          clear hr
          by_cases hm : mayB r = true
          · have hm' : mayB r = true := hm
            have HM := Lib.hid hm
            clear hm
            go_wp2_with fail
            refine (refMay_any r _).mono ?_
            rintro e w1 ⟨rfl, hb⟩
            have J := Lib.hid (blk_below hb HB.out)
            have hnx1 := hnx.trans (hb.mono hnx.size)
            obtain ⟨ca', cb', _, _⟩ := two_cells J.out
            clear hb hnx c0 c1 c2 c3 c4 c5 c6 c7 c8 c9 ca cb
            go_wp2
            refine ⟨⟨k + 1, by go_num, by omega, fun j r' hj hr' => ?_, J.out, hnx1⟩, by simp only [intOf]; omega⟩
            by_cases hjk : j = k
            · subst hjk
              have := HR.out
              rw [this] at hr'
              injection hr' with hr'
              rw [← hr']; exact HM.out
            · exact hmay.out j r' (by omega) hr'
          · have hm' : mayB r = false := by simpa using hm
            have HM := Lib.hid hm'
            clear hm
            go_wp2_with fail
            refine (refMay_any r _).mono ?_
            rintro e w1 ⟨rfl, hb⟩
            have hnx1 := hnx.trans (hb.mono hnx.size)
            clear hb hnx c0 c1 c2 c3 c4 c5 c6 c7 c8 c9 ca cb
            go_wp2
            go_ret
            refine ⟨ret_int (filtE_2 H1.out ?_).symm, hnx1⟩
            rw [List.any_eq_true]
            exact ⟨r, List.mem_of_getElem? HR.out, by simp [HM.out]⟩
        · go_wp2
          go_ret
          refine ⟨ret_int (filtE_3 H1.out ?_).symm, hnx⟩
          rw [List.any_eq_false]
          intro r hr
          obtain ⟨j, hj, hjr⟩ := List.getElem_of_mem hr
          have := hmay.out j r (by omega) (by rw [List.getElem?_eq_getElem hj, hjr])
          simp [this]

end Go.Proofs.Ytpljnogmfeenkaa

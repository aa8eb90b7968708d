/-
  Walks over the filter's layer: the rules held against each other, the law's own probe (written by wip/gen/genfilt8.py).
-/
import Derived.Test.YtpljnogmfeenkaaFilt7
namespace Go.Proofs.Ytpljnogmfeenkaa
open Go Go.RowKit Go.Sort

set_option maxRecDepth 100000 in
set_option maxHeartbeats 1000000 in
theorem rulesSame_any (L : List RuleV) (u v : Value) (w : World) (hu : Rd w w.heap.size 10 u L.length (rcells L)) (hv : Rd w w.heap.size 10 v L.length (rcells L)) (hlen : L.length ≤ 4294967296) :
    Calls Try.prog 26 #[u, v] w fun e w' => e = .returned (.bool true) ∧ Below w.heap.size w w' := by
  by_cases h0 : L.length = 0
  · obtain ⟨A, c, rfl, hc⟩ := hu.form
    obtain ⟨A', c', rfl, hc'⟩ := hv.form
    have e1 : L = [] := List.eq_nil_of_length_eq_zero h0
    subst e1
    clear hu hv
    go_enter Try.func26, Try.ntmps26
    go_wp2
    refine wp_loop_rounds 1 ?_
    rw [rounds_succ]
    go_wp2
    go_ret
    exact ⟨rfl, Below.refl _ _⟩
  · obtain ⟨b, off, c, rfl, hc, hbB, hcell⟩ := hu.posAt (by omega)
    obtain ⟨b', off', c', rfl, hc', hbB', hcell'⟩ := hv.posAt (by omega)
    clear hu hv
    have HC := Lib.hid hcell
    have HC' := Lib.hid hcell'
    clear hcell hcell'
    go_enter Try.func26, Try.ntmps26
    go_wp2
    go_loopw [5] (fun i wr => ∃ k : Nat, i = .int .i64 k ∧ k ≤ L.length ∧ Below w.heap.size w wr) (fun i _ => L.length - (intOf i).toNat)
    case atStart => exact ⟨0, rfl, by omega, Below.refl _ _⟩
    case round =>
      obtain ⟨k, rfl, hk, hnx⟩ := hrel
      by_cases hlt : k < L.length
      · obtain ⟨r, hr⟩ : ∃ r, L[k]? = some r := ⟨_, List.getElem?_eq_getElem hlt⟩
        have hI : (k : Int) < (L.length : Int) := by omega
        have c0 : wr.cell? ⟨b, off + k * 10, none⟩ = some (.bool r.permit) := (hnx.cell hbB).trans (HC.out k 0 _ (rcell hr rfl))
        have c1 : wr.cell? ⟨b, off + k * 10 + 1, none⟩ = some (.int .i64 r.proto) := (hnx.cell hbB).trans (HC.out k 1 _ (rcell hr rfl))
        have c2 : wr.cell? ⟨b, off + k * 10 + 2, none⟩ = some (.int .u32 r.sa) := (hnx.cell hbB).trans (HC.out k 2 _ (rcell hr rfl))
        have c3 : wr.cell? ⟨b, off + k * 10 + 3, none⟩ = some (.int .i64 r.sn) := (hnx.cell hbB).trans (HC.out k 3 _ (rcell hr rfl))
        have c4 : wr.cell? ⟨b, off + k * 10 + 4, none⟩ = some (.int .u32 r.da) := (hnx.cell hbB).trans (HC.out k 4 _ (rcell hr rfl))
        have c5 : wr.cell? ⟨b, off + k * 10 + 5, none⟩ = some (.int .i64 r.dn) := (hnx.cell hbB).trans (HC.out k 5 _ (rcell hr rfl))
        have c6 : wr.cell? ⟨b, off + k * 10 + 6, none⟩ = some (.int .u32 r.sl) := (hnx.cell hbB).trans (HC.out k 6 _ (rcell hr rfl))
        have c7 : wr.cell? ⟨b, off + k * 10 + 7, none⟩ = some (.int .u32 r.sh) := (hnx.cell hbB).trans (HC.out k 7 _ (rcell hr rfl))
        have c8 : wr.cell? ⟨b, off + k * 10 + 8, none⟩ = some (.int .u32 r.dl) := (hnx.cell hbB).trans (HC.out k 8 _ (rcell hr rfl))
        have c9 : wr.cell? ⟨b, off + k * 10 + 9, none⟩ = some (.int .u32 r.dh) := (hnx.cell hbB).trans (HC.out k 9 _ (rcell hr rfl))
        have e0 : wr.cell? ⟨b', off' + k * 10, none⟩ = some (.bool r.permit) := (hnx.cell hbB').trans (HC'.out k 0 _ (rcell hr rfl))
        have e1 : wr.cell? ⟨b', off' + k * 10 + 1, none⟩ = some (.int .i64 r.proto) := (hnx.cell hbB').trans (HC'.out k 1 _ (rcell hr rfl))
        have e2 : wr.cell? ⟨b', off' + k * 10 + 2, none⟩ = some (.int .u32 r.sa) := (hnx.cell hbB').trans (HC'.out k 2 _ (rcell hr rfl))
        have e3 : wr.cell? ⟨b', off' + k * 10 + 3, none⟩ = some (.int .i64 r.sn) := (hnx.cell hbB').trans (HC'.out k 3 _ (rcell hr rfl))
        have e4 : wr.cell? ⟨b', off' + k * 10 + 4, none⟩ = some (.int .u32 r.da) := (hnx.cell hbB').trans (HC'.out k 4 _ (rcell hr rfl))
        have e5 : wr.cell? ⟨b', off' + k * 10 + 5, none⟩ = some (.int .i64 r.dn) := (hnx.cell hbB').trans (HC'.out k 5 _ (rcell hr rfl))
        have e6 : wr.cell? ⟨b', off' + k * 10 + 6, none⟩ = some (.int .u32 r.sl) := (hnx.cell hbB').trans (HC'.out k 6 _ (rcell hr rfl))
        have e7 : wr.cell? ⟨b', off' + k * 10 + 7, none⟩ = some (.int .u32 r.sh) := (hnx.cell hbB').trans (HC'.out k 7 _ (rcell hr rfl))
        have e8 : wr.cell? ⟨b', off' + k * 10 + 8, none⟩ = some (.int .u32 r.dl) := (hnx.cell hbB').trans (HC'.out k 8 _ (rcell hr rfl))
        have e9 : wr.cell? ⟨b', off' + k * 10 + 9, none⟩ = some (.int .u32 r.dh) := (hnx.cell hbB').trans (HC'.out k 9 _ (rcell hr rfl))
        have F0 := cell_regrown c0
        have F1 := cell_regrown c1
        have F2 := cell_regrown c2
        have F3 := cell_regrown c3
        have F4 := cell_regrown c4
        have F5 := cell_regrown c5
        have F6 := cell_regrown c6
        have F7 := cell_regrown c7
        have F8 := cell_regrown c8
        have F9 := cell_regrown c9
        have G0 := cell_regrown e0
        have G1 := cell_regrown e1
        have G2 := cell_regrown e2
        have G3 := cell_regrown e3
        have G4 := cell_regrown e4
        have G5 := cell_regrown e5
        have G6 := cell_regrown e6
        have G7 := cell_regrown e7
        have G8 := cell_regrown e8
        have G9 := cell_regrown e9
        clear hr
        go_wp2
        refine wp_region_quiet_below (by kernel_rfl) (by kernel_rfl) ?_
        repeat (first | go_big_quiet_step (fail) | quiet_step (fail))
        refine wpQuiet_nil ?_
        intro _ hw'
        obtain ⟨⟨nq, osq⟩, hw''⟩ := hw'
        subst hw''
        go_wp2
        refine ⟨⟨k + 1, by go_num, by omega, hnx.trans ((below_regrown wr nq osq).mono hnx.size)⟩, by simp only [intOf]; omega⟩
      · go_wp2
        go_ret
        exact ⟨rfl, hnx⟩

def pr0 : RuleV := ⟨true, 6, 0, 0, 0, 0, 0, 65535, 80, 80, by omega, by omega, by omega, by omega, by omega, by omega, by omega⟩
def pr1 : RuleV := ⟨false, -1, 0, 0, 0, 0, 0, 65535, 0, 65535, by omega, by omega, by omega, by omega, by omega, by omega, by omega⟩
def ph0 : HeaderV := ⟨0, 0, 6, 0, 80, by omega, by omega, by omega, by omega, by omega⟩
def ph1 : HeaderV := ⟨0, 0, 6, 0, 81, by omega, by omega, by omega, by omega, by omega⟩
theorem pr_e : filtE [pr0, pr1] = 0 := by decide +kernel
theorem pr_p : permB [pr0, pr1] ph0 = true := by decide +kernel
theorem pr_d : decR [pr0, pr1] ph1 = 1 := by decide +kernel
theorem pr_cells : rcells [pr0, pr1] = (#[.bool true, .int .i64 6, .int .u32 0, .int .i64 0, .int .u32 0, .int .i64 0, .int .u32 0, .int .u32 65535, .int .u32 80, .int .u32 80, .bool false, .int .i64 (-1), .int .u32 0, .int .i64 0, .int .u32 0, .int .i64 0, .int .u32 0, .int .u32 65535, .int .u32 0, .int .u32 65535] : Array Value).toList := rfl

set_option maxHeartbeats 1000000 in
theorem lawAwake10_any (w : World) : Calls Try.prog 27 #[] w fun e w' => e = .returned (.bool true) ∧ Below w.heap.size w w' := by
  go_enter Try.func27, Try.ntmps27
  go_wp2_with fail
  obtain ⟨J0, J1, J2⟩ := blk3 w (.cells #[.int .u32 0, .int .u32 65535] 37) (.cells #[.bool true, .int .i64 6, .int .u32 0, .int .i64 0, .int .u32 0, .int .i64 0, .int .u32 0, .int .u32 65535, .int .u32 80, .int .u32 80, .bool false, .int .i64 (-1), .int .u32 0, .int .i64 0, .int .u32 0, .int .i64 0, .int .u32 0, .int .u32 65535, .int .u32 0, .int .u32 65535] 39) (.cells #[.string ByteArray.empty, .slice (some ⟨w.heap.size + 1, 0, none⟩) 2 2] 34)
  have hR := Rd.of_blk (k := 10) (n := 2) (c := 2) J1 (by omega) rfl
  have hb0 := below3 w (.cells #[.int .u32 0, .int .u32 65535] 37) (.cells #[.bool true, .int .i64 6, .int .u32 0, .int .i64 0, .int .u32 0, .int .i64 0, .int .u32 0, .int .u32 65535, .int .u32 80, .int .u32 80, .bool false, .int .i64 (-1), .int .u32 0, .int .i64 0, .int .u32 0, .int .i64 0, .int .u32 0, .int .u32 65535, .int .u32 0, .int .u32 65535] 39) (.cells #[.string ByteArray.empty, .slice (some ⟨w.heap.size + 1, 0, none⟩) 2 2] 34)
  have hc := permits_any ByteArray.empty [pr0, pr1] _ ph0 _ hR
  rw [pr_e, pr_p] at hc
  refine hc.mono ?_
  rintro e w1 ⟨rfl, hb⟩
  have hR1 := (hR.below hb).mono hb.size
  have hbw := below_call hb0 hb
  have K2 := blk_below hb J2
  obtain ⟨ca, cb, _, _⟩ := two_cells K2
  have hlt := lt_of_block K2
  have hc2 := Lib.hid (decides_any ByteArray.empty [pr0, pr1] _ ph1 _ hR1)
  rw [pr_e, pr_d] at hc2
  clear hR hR1 J0 J1 J2 hb0 hb
  go_wp2_with fail
  refine hc2.out.mono ?_
  rintro e w2 ⟨rfl, hb⟩
  have hbw2 := below_call hbw hb
  go_wp2
  go_ret
  exact ⟨rfl, hbw2⟩

end Go.Proofs.Ytpljnogmfeenkaa

/-
  Joined texts: Filt7, Filt8, LawFD, Rw1, FtN.
-/
import Derived.Test.YtakkgamhceignaaGreatDoorMFilterTexts12
import Derived.Laws.StructEq
import Derived.Deep.DeepCutAuto
import Derived.Deep.RegionLawGrows
import Derived.Deep.RegionHeldLaw
import Derived.Deep.RegionHeld3
import Derived.Test.YtakkgamhceignaaGreatDoorShelf3
import Derived.Test.YtakkgamhceignaaGreatDoorMFilterTexts6
import Derived.Deep.Onto
import Derived.Laws.OwnMore
/-
  Walks over the filter's layer: Permits, the rules held against each other, the law's own probe (written by wip/gen/genfilt7.py).
-/
namespace Go.Proofs.YtakkgamhceignaaGreatDoor
open Go Go.RowKit Go.Sort

/-- What rule i says; false of none. -/
def permAt (L : List RuleV) (i : Int) : Bool := if 0 ≤ i then (L[i.toNat]?.map (·.permit)).getD false else false
def permN (L : List RuleV) (h : HeaderV) : Bool := permAt L (decN L h)
def permB (L : List RuleV) (h : HeaderV) : Bool := if filtE L = 0 then permN L h else false
theorem permB_ok {L : List RuleV} (h : HeaderV) (h1 : filtE L = 0) : permB L h = permN L h := if_pos h1
theorem permB_no {L : List RuleV} (h : HeaderV) (h1 : ¬ filtE L = 0) : permB L h = false := if_neg h1
theorem permN_miss {L : List RuleV} {h : HeaderV} (h2 : decN L h = -1) : permN L h = false := by unfold permN permAt; rw [h2, if_neg (by omega)]
theorem permN_hit {L : List RuleV} {h : HeaderV} {k : Nat} {r : RuleV} (h2 : decN L h = k) (h3 : L[k]? = some r) : permN L h = r.permit := by
  unfold permN permAt
  rw [h2, if_pos (by omega), Int.toNat_natCast, h3]; rfl

set_option maxHeartbeats 1000000 in
theorem permits_any (nm : ByteArray) (L : List RuleV) (v : Value) (h : HeaderV) (w : World) (hr : Rd w w.heap.size 10 v L.length (rcells L)) :
    Calls Tryz.prog 28 #[.agg #[.string nm, v], .agg #[.int .u32 h.src, .int .u32 h.dst, .int .u8 h.proto, .int .u16 h.sp, .int .u16 h.dp]] w fun e w' => e = .returned (.tuple #[.bool (permB L h), .int .i64 (filtE L)]) ∧ Below w.heap.size w w' := by
  have hW : Below w.heap.size w ((w.alloc (.cells #[.string nm, v] 39)).alloc (.cells #[.int .u32 h.src, .int .u32 h.dst, .int .u8 h.proto, .int .u16 h.sp, .int .u16 h.dp] 68)) := below2 w _ _
  have h' := (hr.below hW).mono hW.size
  have hcon := decides_any nm L v h _ h'
  by_cases h1 : filtE L = 0
  · rw [decR_ok h h1, h1] at hcon
    rw [permB_ok h h1, h1]
    rcases idxP_cases (fun r => fitsB r h) L with ⟨hD, _⟩ | ⟨k, r, hD, hk, _, _⟩
    · have hD' : decN L h = -1 := hD
      rw [hD'] at hcon
      rw [permN_miss hD']
      obtain ⟨A, c, rfl, hc⟩ := hr.form
      have hcon := Lib.hid hcon
      clear hr h' h1 hD hD'
      go_enter Tryz.func28, Tryz.ntmps28
      go_wp2_with fail
      refine hcon.out.mono ?_
      rintro e w1 ⟨rfl, hb⟩
      have hbw := below_call hW hb
      go_wp2
      go_ret2
      exact ⟨rfl, hbw⟩
    · have hD' : decN L h = k := hD
      have hlt := (List.getElem?_eq_some_iff.1 hk).1
      rw [hD'] at hcon
      rw [permN_hit hD' hk]
      obtain ⟨b, off, c, rfl, hc, hbB, hcell⟩ := hr.posAt (by omega)
      have e0 := hW.cell (p := ⟨b, off + k * 10 + 0, none⟩) hbB
      rw [hcell k 0 _ (rcell hk (v := .bool r.permit) rfl)] at e0
      have hbl : b < ((w.alloc (.cells #[.string nm, .slice (some ⟨b, off, none⟩) L.length c] 39)).alloc (.cells #[.int .u32 h.src, .int .u32 h.dst, .int .u8 h.proto, .int .u16 h.sp, .int .u16 h.dp] 68)).heap.size := by have := hW.size; omega
      have hkl : (k : Int) < (L.length : Int) := by omega
      have E0 := Lib.hid e0
      have HBL := Lib.hid hbl
      have hcon := Lib.hid hcon
      clear hr h' h1 hD hD' hcell e0 hbl hk
      go_enter Tryz.func28, Tryz.ntmps28
      go_wp2_with fail
      refine hcon.out.mono ?_
      rintro e w1 ⟨rfl, hb⟩
      have hbw := below_call hW hb
      have J0 := blk_below hb (blk2 w _ _).1
      obtain ⟨ca, cb, _, _⟩ := two_cells J0
      have c0 : w1.cell? ⟨b, off + k * 10, none⟩ = some (.bool r.permit) := (hb.cell (p := ⟨b, off + k * 10, none⟩) HBL.out).trans E0.out
      go_wp2
      go_ret2
      exact ⟨rfl, hbw⟩
  · have hd : (filtE L == 0) = false := by simp [h1]
    rw [decR_no h h1] at hcon
    rw [permB_no h h1]
    obtain ⟨A, c, rfl, hc⟩ := hr.form
    have hcon := Lib.hid hcon
    clear hr h' h1
    go_enter Tryz.func28, Tryz.ntmps28
    go_wp2_with fail
    refine hcon.out.mono ?_
    rintro e w1 ⟨rfl, hb⟩
    have hbw := below_call hW hb
    go_wp2
    go_ret2
    exact ⟨rfl, hbw⟩

theorem eqPref (a n : Int) (d : Nat) (w : World) : (Op.equalIn (d + 1 + 1) 25 (.agg #[.int .u32 a, .int .i64 n]) (.agg #[.int .u32 a, .int .i64 n])).run Tryz.prog w = .ok true w := by
  have hS : Tryz.prog.underlying 25 = some (.struct (Tryz.prog.fieldsOf 25)) := by kernel_rfl
  have hp : Tryz.prog.stoodInHeld 25 = false := by kernel_rfl
  have a1 := Tryz.underlying23
  have a2 := Tryz.isAgg23
  have a3 := Tryz.sizeOf23
  have b1 := Tryz.underlying3
  have b2 := Tryz.isAgg3
  have b3 := Tryz.sizeOf3
  rw [run_equalIn_agg w (d + 1) 25 _ _ hS hp]
  simp only [Program.fieldsOf, Tryz.underlying25]
  go_simp
theorem eqSpan (a n : Int) (d : Nat) (w : World) : (Op.equalIn (d + 1 + 1) 27 (.agg #[.int .u32 a, .int .u32 n]) (.agg #[.int .u32 a, .int .u32 n])).run Tryz.prog w = .ok true w := by
  have hS : Tryz.prog.underlying 27 = some (.struct (Tryz.prog.fieldsOf 27)) := by kernel_rfl
  have hp : Tryz.prog.stoodInHeld 27 = false := by kernel_rfl
  have a1 := Tryz.underlying22
  have a2 := Tryz.isAgg22
  have a3 := Tryz.sizeOf22
  rw [run_equalIn_agg w (d + 1) 27 _ _ hS hp]
  simp only [Program.fieldsOf, Tryz.underlying27]
  go_simp
/-- '!=' says false of a rule and itself. -/
@[go_sem] theorem neqRule (r : RuleV) (w : World) : (binOp .neq 29 (.agg #[.bool r.permit, .int .i64 r.proto, .int .u32 r.sa, .int .i64 r.sn, .int .u32 r.da, .int .i64 r.dn, .int .u32 r.sl, .int .u32 r.sh, .int .u32 r.dl, .int .u32 r.dh]) (.agg #[.bool r.permit, .int .i64 r.proto, .int .u32 r.sa, .int .i64 r.sn, .int .u32 r.da, .int .i64 r.dn, .int .u32 r.sl, .int .u32 r.sh, .int .u32 r.dl, .int .u32 r.dh])).run Tryz.prog w = .ok (.bool false) w := by
  have hS : Tryz.prog.underlying 29 = some (.struct (Tryz.prog.fieldsOf 29)) := by kernel_rfl
  have hp : Tryz.prog.stoodInHeld 29 = false := by kernel_rfl
  have b1 := Tryz.underlying3
  have b2 := Tryz.isAgg3
  have b3 := Tryz.sizeOf3
  have c1 := Tryz.underlying4
  have c2 := Tryz.isAgg4
  have c3 := Tryz.sizeOf4
  have d2 := Tryz.isAgg25
  have d3 := Tryz.sizeOf25
  have e2 := Tryz.isAgg27
  have e3 := Tryz.sizeOf27
  rw [run_neq_struct, show (10000 : Nat) = 9997 + 1 + 1 + 1 from rfl, run_equalIn_agg w (9997 + 1 + 1) 29 _ _ hS hp]
  generalize 9997 = d
  have E1 := fun a n w => eqPref a n d w
  have E2 := fun a n w => eqSpan a n d w
  simp only [Program.fieldsOf, Tryz.underlying29]
  go_simp

end Go.Proofs.YtakkgamhceignaaGreatDoor

/-
  Walks over the filter's layer: the rules held against each other, the law's own probe (written by wip/gen/genfilt8.py).
-/
namespace Go.Proofs.YtakkgamhceignaaGreatDoor
open Go Go.RowKit Go.Sort

set_option maxRecDepth 100000 in
set_option maxHeartbeats 1000000 in
theorem rulesSame_any (L : List RuleV) (u v : Value) (w : World) (hu : Rd w w.heap.size 10 u L.length (rcells L)) (hv : Rd w w.heap.size 10 v L.length (rcells L)) (hlen : L.length ≤ 9223372036854775807) :
    Calls Tryz.prog 12 #[u, v] w fun e w' => e = .returned (.bool true) ∧ Below w.heap.size w w' := by
  by_cases h0 : L.length = 0
  · obtain ⟨A, c, rfl, hc⟩ := hu.form
    obtain ⟨A', c', rfl, hc'⟩ := hv.form
    have e1 : L = [] := List.eq_nil_of_length_eq_zero h0
    subst e1
    clear hu hv
    go_enter Tryz.func12, Tryz.ntmps12
    go_wp2
    refine wp_loop_rounds 1 ?_
    rw [rounds_succ]
    go_wp2
    go_ret
    exact ⟨rfl, Below.refl _ _⟩
  · obtain ⟨b, off, c, rfl, hc, hbB, hcell⟩ := hu.posAt (by omega)
    obtain ⟨b', off', c', rfl, hc', hbB', hcell'⟩ := hv.posAt (by omega)
    clear hu hv
    have HC := Lib.hid hcell
    have HC' := Lib.hid hcell'
    clear hcell hcell'
    go_enter Tryz.func12, Tryz.ntmps12
    go_wp2
    go_loopw [5] (fun i wr => ∃ k : Nat, i = .int .i64 k ∧ k ≤ L.length ∧ Below w.heap.size w wr) (fun i _ => L.length - (intOf i).toNat)
    case atStart => exact ⟨0, rfl, by omega, Below.refl _ _⟩
    case round =>
      obtain ⟨k, rfl, hk, hnx⟩ := hrel
      by_cases hlt : k < L.length
      · obtain ⟨r, hr⟩ : ∃ r, L[k]? = some r := ⟨_, List.getElem?_eq_getElem hlt⟩
        have hI : (k : Int) < (L.length : Int) := by omega
        have c0 : wr.cell? ⟨b, off + k * 10, none⟩ = some (.bool r.permit) := (hnx.cell hbB).trans (HC.out k 0 _ (rcell hr rfl))
        have c1 : wr.cell? ⟨b, off + k * 10 + 1, none⟩ = some (.int .i64 r.proto) := (hnx.cell hbB).trans (HC.out k 1 _ (rcell hr rfl))
        have c2 : wr.cell? ⟨b, off + k * 10 + 2, none⟩ = some (.int .u32 r.sa) := (hnx.cell hbB).trans (HC.out k 2 _ (rcell hr rfl))
        have c3 : wr.cell? ⟨b, off + k * 10 + 3, none⟩ = some (.int .i64 r.sn) := (hnx.cell hbB).trans (HC.out k 3 _ (rcell hr rfl))
        have c4 : wr.cell? ⟨b, off + k * 10 + 4, none⟩ = some (.int .u32 r.da) := (hnx.cell hbB).trans (HC.out k 4 _ (rcell hr rfl))
        have c5 : wr.cell? ⟨b, off + k * 10 + 5, none⟩ = some (.int .i64 r.dn) := (hnx.cell hbB).trans (HC.out k 5 _ (rcell hr rfl))
        have c6 : wr.cell? ⟨b, off + k * 10 + 6, none⟩ = some (.int .u32 r.sl) := (hnx.cell hbB).trans (HC.out k 6 _ (rcell hr rfl))
        have c7 : wr.cell? ⟨b, off + k * 10 + 7, none⟩ = some (.int .u32 r.sh) := (hnx.cell hbB).trans (HC.out k 7 _ (rcell hr rfl))
        have c8 : wr.cell? ⟨b, off + k * 10 + 8, none⟩ = some (.int .u32 r.dl) := (hnx.cell hbB).trans (HC.out k 8 _ (rcell hr rfl))
        have c9 : wr.cell? ⟨b, off + k * 10 + 9, none⟩ = some (.int .u32 r.dh) := (hnx.cell hbB).trans (HC.out k 9 _ (rcell hr rfl))
        have e0 : wr.cell? ⟨b', off' + k * 10, none⟩ = some (.bool r.permit) := (hnx.cell hbB').trans (HC'.out k 0 _ (rcell hr rfl))
        have e1 : wr.cell? ⟨b', off' + k * 10 + 1, none⟩ = some (.int .i64 r.proto) := (hnx.cell hbB').trans (HC'.out k 1 _ (rcell hr rfl))
        have e2 : wr.cell? ⟨b', off' + k * 10 + 2, none⟩ = some (.int .u32 r.sa) := (hnx.cell hbB').trans (HC'.out k 2 _ (rcell hr rfl))
        have e3 : wr.cell? ⟨b', off' + k * 10 + 3, none⟩ = some (.int .i64 r.sn) := (hnx.cell hbB').trans (HC'.out k 3 _ (rcell hr rfl))
        have e4 : wr.cell? ⟨b', off' + k * 10 + 4, none⟩ = some (.int .u32 r.da) := (hnx.cell hbB').trans (HC'.out k 4 _ (rcell hr rfl))
        have e5 : wr.cell? ⟨b', off' + k * 10 + 5, none⟩ = some (.int .i64 r.dn) := (hnx.cell hbB').trans (HC'.out k 5 _ (rcell hr rfl))
        have e6 : wr.cell? ⟨b', off' + k * 10 + 6, none⟩ = some (.int .u32 r.sl) := (hnx.cell hbB').trans (HC'.out k 6 _ (rcell hr rfl))
        have e7 : wr.cell? ⟨b', off' + k * 10 + 7, none⟩ = some (.int .u32 r.sh) := (hnx.cell hbB').trans (HC'.out k 7 _ (rcell hr rfl))
        have e8 : wr.cell? ⟨b', off' + k * 10 + 8, none⟩ = some (.int .u32 r.dl) := (hnx.cell hbB').trans (HC'.out k 8 _ (rcell hr rfl))
        have e9 : wr.cell? ⟨b', off' + k * 10 + 9, none⟩ = some (.int .u32 r.dh) := (hnx.cell hbB').trans (HC'.out k 9 _ (rcell hr rfl))
        have F0 := cell_regrown c0
        have F1 := cell_regrown c1
        have F2 := cell_regrown c2
        have F3 := cell_regrown c3
        have F4 := cell_regrown c4
        have F5 := cell_regrown c5
        have F6 := cell_regrown c6
        have F7 := cell_regrown c7
        have F8 := cell_regrown c8
        have F9 := cell_regrown c9
        have G0 := cell_regrown e0
        have G1 := cell_regrown e1
        have G2 := cell_regrown e2
        have G3 := cell_regrown e3
        have G4 := cell_regrown e4
        have G5 := cell_regrown e5
        have G6 := cell_regrown e6
        have G7 := cell_regrown e7
        have G8 := cell_regrown e8
        have G9 := cell_regrown e9
        clear hr
        go_wp2
        refine wp_region_quiet_below (by kernel_rfl) (by kernel_rfl) ?_
        repeat (first | go_big_quiet_step (fail) | quiet_step (fail))
        refine wpQuiet_nil ?_
        intro _ hw'
        obtain ⟨⟨nq, osq⟩, hw''⟩ := hw'
        subst hw''
        go_wp2
        refine ⟨⟨k + 1, by go_num, by omega, hnx.trans ((below_regrown wr nq osq).mono hnx.size)⟩, by simp only [intOf]; omega⟩
      · go_wp2
        go_ret
        exact ⟨rfl, hnx⟩

def pr0 : RuleV := ⟨true, 6, 0, 0, 0, 0, 0, 65535, 80, 80, by omega, by omega, by omega, by omega, by omega, by omega, by omega⟩
def pr1 : RuleV := ⟨false, -1, 0, 0, 0, 0, 0, 65535, 0, 65535, by omega, by omega, by omega, by omega, by omega, by omega, by omega⟩
def ph0 : HeaderV := ⟨0, 0, 6, 0, 80, by omega, by omega, by omega, by omega, by omega⟩
def ph1 : HeaderV := ⟨0, 0, 6, 0, 81, by omega, by omega, by omega, by omega, by omega⟩
theorem pr_e : filtE [pr0, pr1] = 0 := by decide +kernel
theorem pr_p : permB [pr0, pr1] ph0 = true := by decide +kernel
theorem pr_d : decR [pr0, pr1] ph1 = 1 := by decide +kernel
theorem pr_cells : rcells [pr0, pr1] = (#[.bool true, .int .i64 6, .int .u32 0, .int .i64 0, .int .u32 0, .int .i64 0, .int .u32 0, .int .u32 65535, .int .u32 80, .int .u32 80, .bool false, .int .i64 (-1), .int .u32 0, .int .i64 0, .int .u32 0, .int .i64 0, .int .u32 0, .int .u32 65535, .int .u32 0, .int .u32 65535] : Array Value).toList := rfl

set_option maxHeartbeats 1000000 in
theorem lawAwake10_any (w : World) : Calls Tryz.prog 6 #[] w fun e w' => e = .returned (.bool true) ∧ Below w.heap.size w w' := by
  go_enter Tryz.func6, Tryz.ntmps6
  go_wp2_with fail
  obtain ⟨J0, J1, J2⟩ := blk3 w (.cells #[.int .u32 0, .int .u32 65535] 27) (.cells #[.bool true, .int .i64 6, .int .u32 0, .int .i64 0, .int .u32 0, .int .i64 0, .int .u32 0, .int .u32 65535, .int .u32 80, .int .u32 80, .bool false, .int .i64 (-1), .int .u32 0, .int .i64 0, .int .u32 0, .int .i64 0, .int .u32 0, .int .u32 65535, .int .u32 0, .int .u32 65535] 29) (.cells #[.string ByteArray.empty, .slice (some ⟨w.heap.size + 1, 0, none⟩) 2 2] 39)
  have hR := Rd.of_blk (k := 10) (n := 2) (c := 2) J1 (by omega) rfl
  have hb0 := below3 w (.cells #[.int .u32 0, .int .u32 65535] 27) (.cells #[.bool true, .int .i64 6, .int .u32 0, .int .i64 0, .int .u32 0, .int .i64 0, .int .u32 0, .int .u32 65535, .int .u32 80, .int .u32 80, .bool false, .int .i64 (-1), .int .u32 0, .int .i64 0, .int .u32 0, .int .i64 0, .int .u32 0, .int .u32 65535, .int .u32 0, .int .u32 65535] 29) (.cells #[.string ByteArray.empty, .slice (some ⟨w.heap.size + 1, 0, none⟩) 2 2] 39)
  have hc := permits_any ByteArray.empty [pr0, pr1] _ ph0 _ hR
  rw [pr_e, pr_p] at hc
  refine hc.mono ?_
  rintro e w1 ⟨rfl, hb⟩
  have hR1 := (hR.below hb).mono hb.size
  have hbw := below_call hb0 hb
  have K2 := blk_below hb J2
  obtain ⟨ca, cb, _, _⟩ := two_cells K2
  have hlt := lt_of_block K2
  have hc2 := Lib.hid (decides_any ByteArray.empty [pr0, pr1] _ ph1 _ hR1)
  rw [pr_e, pr_d] at hc2
  clear hR hR1 J0 J1 J2 hb0 hb
  go_wp2_with fail
  refine hc2.out.mono ?_
  rintro e w2 ⟨rfl, hb⟩
  have hbw2 := below_call hbw hb
  go_wp2
  go_ret
  exact ⟨rfl, hbw2⟩

end Go.Proofs.YtakkgamhceignaaGreatDoor

/-
  The walk of the law FilterDecides (written by wip/gen/genlawfd.py).
-/
namespace Go.Proofs.YtakkgamhceignaaGreatDoor
open Go Go.RowKit Go.Sort

def HeaderV.enc (h : HeaderV) : List Value := [.int .u32 h.src, .int .u32 h.dst, .int .u8 h.proto, .int .u16 h.sp, .int .u16 h.dp]
theorem header_len (h : HeaderV) : h.enc.length = 5 := rfl
def hcells (L : List HeaderV) : List Value := L.flatMap HeaderV.enc
theorem hcell {L : List HeaderV} {k i : Nat} {h : HeaderV} {v : Value} (hr : L[k]? = some h) (hv : h.enc[i]? = some v) : (hcells L)[k * 5 + i]? = some v := flat_get HeaderV.enc 5 header_len L k i h v hr hv
/-- A slice cut at its end. -/
theorem Rd.take {α : Type} {enc : α → List Value} {k : Nat} (hk : ∀ x, (enc x).length = k) {w : World} {B : Nat} {A : Option Addr} {c n m : Nat} {L : List α} (h : Rd w B k (.slice A n c) n (L.flatMap enc)) (hn : L.length = n) (hm : m ≤ n) :
    Rd w B k (.slice A m c) m ((L.take m).flatMap enc) := by
  obtain ⟨A', c', hv, hc, hl, hp⟩ := h
  injection hv with h1 h2 h3
  subst h1 h3
  have hlen : (L.take m).length = m := by simp; omega
  refine ⟨A, c, rfl, by omega, by rw [flat_len enc k hk, hlen], fun hm0 => ?_⟩
  obtain ⟨b, off, hA, hB, hcell⟩ := hp (by omega)
  refine ⟨b, off, hA, hB, fun j u hu => hcell j u ?_⟩
  have e : L.flatMap enc = (L.take m).flatMap enc ++ (L.drop m).flatMap enc := by rw [← List.flatMap_append, List.take_append_drop]
  rw [e, List.getElem?_append_left (List.getElem?_eq_some_iff.1 hu).1]
  exact hu

theorem src_cells {w W : World} {B b off k n c : Nat} {xs : List Value} (h : Rd w B k (.slice (some ⟨b, off, none⟩) n c) n xs) (hn : 0 < n) (hb : Below B w W) :
    ∀ j u, xs[j]? = some u → W.cell? ((⟨b, off, none⟩ : Addr).add j) = some u := by
  obtain ⟨b', off', c', hv, _, hB, hcell⟩ := h.pos hn
  injection hv with h1 _ _
  injection h1 with h1
  injection h1 with h1 h2
  subst h1 h2
  intro j u hu
  have e : (⟨b, off, none⟩ : Addr).add j = ⟨b, off + j, none⟩ := by simp [Addr.add]
  rw [e]
  exact (hb.cell (p := ⟨b, off + j, none⟩) hB).trans (hcell j u hu)
theorem new_at0 (w : World) (o : Obj) : (w.alloc o).drew.heap[w.heap.size]? = some o := heap_alloc_new w o
theorem new_at1 (w : World) (o p : Obj) : ((w.alloc o).alloc p).drew.heap[w.heap.size + 1]? = some p := (blk2 w o p).2
theorem new_at2 (w : World) (o p : Obj) : ((w.alloc o).alloc p).drew.heap[w.heap.size]? = some o := (blk2 w o p).1
theorem below_drewL {B : Nat} {a w : World} (h : Below B a w) : Below B a w.drew := ⟨h.os, h.tape, h.output, h.size, h.block⟩
theorem below_grown0 {B : Nat} {a w w' : World} (h : Below B a w) (hB : B ≤ w.heap.size) (hg : w.grownBy w' none) : Below B a w' := h.grown hg hB (fun k hk => by cases hk)
theorem Tryz.infoRule : (Tryz.prog.info? 29).map (fun i => (i.zero, i.size, i.bytes)) = some (some (.agg #[.bool false, .int .i64 0, .int .u32 0, .int .i64 0, .int .u32 0, .int .i64 0, .int .u32 0, .int .u32 0, .int .u32 0, .int .u32 0]), 10, 64) := by kernel_rfl
theorem leafAfter {wc w2 : World} {base n : Nat} {xs : List Value} {nm : ByteArray} {v : Value} (hO : w2.ownsRow base 29 10 v n xs) (hb2 : Below wc.heap.size wc w2) :
    ∃ (g : Nat) (v2 : Value), Value.pointer (some ⟨w2.heap.size, 0, none⟩) = .pointer (some ⟨g, 0, none⟩) ∧ (w2.alloc (.cells #[.string nm, v] 39)).heap[g]? = some (.cells #[.string nm, v2] 39 (0, 0)) ∧ Rd (w2.alloc (.cells #[.string nm, v] 39)) (w2.alloc (.cells #[.string nm, v] 39)).heap.size 10 v2 n xs ∧ Hid (Below wc.heap.size wc (w2.alloc (.cells #[.string nm, v] 39))) :=
  ⟨w2.heap.size, v, rfl, blk1 w2 _, ((Rd.of_own hO).below (below1 w2 _)).mono (by simp), hb2.alloc hb2.size _⟩
theorem leafBefore {wc w2 : World} {base n G : Nat} {xs : List Value} {nm : ByteArray} {v a b : Value} (hO : w2.ownsRow base 29 10 v n xs) (hq : w2.heap[G]? = some (.cells #[a, b] 39 (0, 0))) (hG : G < base) (hGw : wc.heap.size ≤ G) (hb2 : Below wc.heap.size wc w2) :
    ∃ (g : Nat) (v2 : Value), Value.pointer (some ⟨G, 0, none⟩) = .pointer (some ⟨g, 0, none⟩) ∧ ((w2.setCell ⟨G, 0, none⟩ (.string nm)).setCell ⟨G, 1, none⟩ v).heap[g]? = some (.cells #[.string nm, v2] 39 (0, 0)) ∧ Rd ((w2.setCell ⟨G, 0, none⟩ (.string nm)).setCell ⟨G, 1, none⟩ v) ((w2.setCell ⟨G, 0, none⟩ (.string nm)).setCell ⟨G, 1, none⟩ v).heap.size 10 v2 n xs ∧ Hid (Below wc.heap.size wc ((w2.setCell ⟨G, 0, none⟩ (.string nm)).setCell ⟨G, 1, none⟩ v)) :=
  ⟨G, v, rfl, set_1 (set_0 hq), Rd.of_own (owns_kept_lt hO (only_setCell (only_setCell (World.grownBy.refl w2 (some G)) (.inl rfl) _) (.inl rfl) _) hG), (hb2.setCell hGw _).setCell hGw _⟩
theorem far2 {w : World} {G a j : Nat} {u v x : Value} (h : a ≠ G) (hx : w.cell? ⟨a, j, none⟩ = some x) : ((w.setCell ⟨G, 0, none⟩ u).setCell ⟨G, 1, none⟩ v).cell? ⟨a, j, none⟩ = some x :=
  (World.cell?_of_block (w := w.setCell ⟨G, 0, none⟩ u) (Below.heap_setCell _ _ _ _ h)).trans ((World.cell?_of_block (w := w) (Below.heap_setCell _ _ _ _ h)).trans hx)
theorem liftLeaf {w wc wx : World} {n : Nat} {p : Value} {q : ByteArray} {xs : List Value} {u : Value}
    (h : ∃ (g : Nat) (v2 : Value), p = .pointer (some ⟨g, 0, none⟩) ∧ wx.heap[g]? = some (.cells #[.string q, v2] 39 (0, 0)) ∧ Rd wx wx.heap.size 10 v2 n xs ∧ Hid (Below wc.heap.size wc wx))
    {A B : Obj} (h0 : wc.heap[w.heap.size]? = some A) (h1 : wc.heap[w.heap.size + 1]? = some B) (hR : Rd wc w.heap.size 10 u n xs) (hb : Hid (Below w.heap.size w wc)) :
    ∃ (g : Nat) (v2 : Value), p = .pointer (some ⟨g, 0, none⟩) ∧ wx.heap[g]? = some (.cells #[.string q, v2] 39 (0, 0)) ∧ Rd wx wx.heap.size 10 v2 n xs ∧ wx.heap[w.heap.size]? = some A ∧ wx.heap[w.heap.size + 1]? = some B ∧ Rd wx w.heap.size 10 u n xs ∧ Hid (Below w.heap.size w wx) := by
  obtain ⟨g, v2, h2, h3, h4, h5⟩ := h
  have hx := h5.out
  exact ⟨g, v2, h2, h3, h4, blk_below hx h0, blk_below hx h1, hR.below (hx.mono hb.out.size), hb.out.trans (hx.mono hb.out.size)⟩
theorem fixO {w : World} {base n c : Nat} {A : Option Addr} {xs : List Value} (h : w.ownsRow base 29 10 (.slice A (0 + n) c) (0 + n) ([] ++ xs)) : w.ownsRow base 29 10 (.slice A n c) n xs := by
  rw [Nat.zero_add] at h; exact h
theorem blt0 (w : World) (o p : Obj) : w.heap.size < ((w.alloc o).alloc p).drew.heap.size := by
  have h : ((w.alloc o).alloc p).drew.heap.size = w.heap.size + 1 + 1 := by show ((w.alloc o).alloc p).heap.size = _; simp
  omega
theorem blt1 (w : World) (o p : Obj) : w.heap.size + 1 < ((w.alloc o).alloc p).drew.heap.size := by
  have h : ((w.alloc o).alloc p).drew.heap.size = w.heap.size + 1 + 1 := by show ((w.alloc o).alloc p).heap.size = _; simp
  omega
theorem rcells_one (L : List RuleV) : ∀ u ∈ rcells L, u.oneCell' = true := by
  intro u hu
  obtain ⟨r, _, hr⟩ := List.mem_flatMap.1 hu
  simp only [RuleV.enc, List.mem_cons, List.not_mem_nil, or_false] at hr
  rcases hr with rfl | rfl | rfl | rfl | rfl | rfl | rfl | rfl | rfl | rfl <;> rfl

theorem decides_ok (nm : ByteArray) (L : List RuleV) (v : Value) (h : HeaderV) (w : World) (hr : Rd w w.heap.size 10 v L.length (rcells L)) (h1 : filtE L = 0) :
    Calls Tryz.prog 29 #[.agg #[.string nm, v], .agg #[.int .u32 h.src, .int .u32 h.dst, .int .u8 h.proto, .int .u16 h.sp, .int .u16 h.dp]] w fun e w' => e = .returned (.tuple #[.int .i64 (decN L h), .int .i64 0]) ∧ Below w.heap.size w w' := by
  have := decides_any nm L v h w hr
  rw [decR_ok h h1, h1] at this
  exact this
theorem decides_no (nm : ByteArray) (L : List RuleV) (v : Value) (h : HeaderV) (w : World) (hr : Rd w w.heap.size 10 v L.length (rcells L)) (h1 : ¬ filtE L = 0) :
    Calls Tryz.prog 29 #[.agg #[.string nm, v], .agg #[.int .u32 h.src, .int .u32 h.dst, .int .u8 h.proto, .int .u16 h.sp, .int .u16 h.dp]] w fun e w' => e = .returned (.tuple #[.int .i64 0, .int .i64 (filtE L)]) ∧ Below w.heap.size w w' := by
  have := decides_any nm L v h w hr
  rw [decR_no h h1] at this
  exact this
theorem permits_ok (nm : ByteArray) (L : List RuleV) (v : Value) (h : HeaderV) (w : World) (hr : Rd w w.heap.size 10 v L.length (rcells L)) (h1 : filtE L = 0) :
    Calls Tryz.prog 28 #[.agg #[.string nm, v], .agg #[.int .u32 h.src, .int .u32 h.dst, .int .u8 h.proto, .int .u16 h.sp, .int .u16 h.dp]] w fun e w' => e = .returned (.tuple #[.bool (permN L h), .int .i64 0]) ∧ Below w.heap.size w w' := by
  have := permits_any nm L v h w hr
  rw [permB_ok h h1, h1] at this
  exact this
theorem permits_no (nm : ByteArray) (L : List RuleV) (v : Value) (h : HeaderV) (w : World) (hr : Rd w w.heap.size 10 v L.length (rcells L)) (h1 : ¬ filtE L = 0) :
    Calls Tryz.prog 28 #[.agg #[.string nm, v], .agg #[.int .u32 h.src, .int .u32 h.dst, .int .u8 h.proto, .int .u16 h.sp, .int .u16 h.dp]] w fun e w' => e = .returned (.tuple #[.bool false, .int .i64 (filtE L)]) ∧ Below w.heap.size w w' := by
  have := permits_any nm L v h w hr
  rw [permB_no h h1] at this
  exact this

/-- What the law's own memory holds behind its first statements: the filter as it was handed in (cut), its copy, the rule. -/
def FDst (nm : ByteArray) (M : List RuleV) (A2 : Option Addr) (c0 : Nat) (A3 : Option Addr) (c3 : Nat) (r : RuleV) (w : World) (g : Nat) (W : World) : Prop :=
  W.heap[g]? = some (.cells #[.string nm, .slice A3 M.length c3] 39 (0, 0)) ∧ Rd W W.heap.size 10 (.slice A3 M.length c3) M.length (rcells M) ∧ W.heap[w.heap.size]? = some (.cells #[.string nm, .slice A2 M.length c0] 39 (0, 0)) ∧ W.heap[w.heap.size + 1]? = some (.cells #[.bool r.permit, .int .i64 r.proto, .int .u32 r.sa, .int .i64 r.sn, .int .u32 r.da, .int .i64 r.dn, .int .u32 r.sl, .int .u32 r.sh, .int .u32 r.dl, .int .u32 r.dh] 29 (0, 0)) ∧ Rd W w.heap.size 10 (.slice A2 M.length c0) M.length (rcells M) ∧ Below w.heap.size w W
section
variable {nm : ByteArray} {M : List RuleV} {A2 : Option Addr} {c0 : Nat} {A3 : Option Addr} {c3 : Nat} {r : RuleV} {w : World} {g : Nat} {W W' : World}
theorem FDst.next (h : FDst nm M A2 c0 A3 c3 r w g W) (hb : Below W.heap.size W W') : FDst nm M A2 c0 A3 c3 r w g W' := by
  obtain ⟨h1, h2, h3, h4, h5, h6⟩ := h
  exact ⟨blk_below hb h1, (h2.below hb).mono hb.size, blk_below hb h3, blk_below hb h4, h5.below (hb.mono h6.size), h6.trans (hb.mono h6.size)⟩
theorem FDst.own (h : FDst nm M A2 c0 A3 c3 r w g W) : W.cell? ⟨g, 0, none⟩ = some (.string nm) ∧ W.cell? ⟨g, 1, none⟩ = some (.slice A3 M.length c3) := ⟨(two_cells h.1).1, (two_cells h.1).2.1⟩
theorem FDst.its (h : FDst nm M A2 c0 A3 c3 r w g W) : W.cell? ⟨w.heap.size, 0, none⟩ = some (.string nm) ∧ W.cell? ⟨w.heap.size, 1, none⟩ = some (.slice A2 M.length c0) := ⟨(two_cells h.2.2.1).1, (two_cells h.2.2.1).2.1⟩
theorem FDst.rule (h : FDst nm M A2 c0 A3 c3 r w g W) : W.cell? ⟨w.heap.size + 1, 0, none⟩ = some (.bool r.permit) ∧ W.cell? ⟨w.heap.size + 1, 1, none⟩ = some (.int .i64 r.proto) ∧ W.cell? ⟨w.heap.size + 1, 2, none⟩ = some (.int .u32 r.sa) ∧ W.cell? ⟨w.heap.size + 1, 3, none⟩ = some (.int .i64 r.sn) ∧ W.cell? ⟨w.heap.size + 1, 4, none⟩ = some (.int .u32 r.da) ∧ W.cell? ⟨w.heap.size + 1, 5, none⟩ = some (.int .i64 r.dn) ∧ W.cell? ⟨w.heap.size + 1, 6, none⟩ = some (.int .u32 r.sl) ∧ W.cell? ⟨w.heap.size + 1, 7, none⟩ = some (.int .u32 r.sh) ∧ W.cell? ⟨w.heap.size + 1, 8, none⟩ = some (.int .u32 r.dl) ∧ W.cell? ⟨w.heap.size + 1, 9, none⟩ = some (.int .u32 r.dh) :=
  ⟨cell_of_row W (w.heap.size + 1) 0 _ _ (0, 0) h.2.2.2.1, cell_of_row W (w.heap.size + 1) 1 _ _ (0, 0) h.2.2.2.1, cell_of_row W (w.heap.size + 1) 2 _ _ (0, 0) h.2.2.2.1, cell_of_row W (w.heap.size + 1) 3 _ _ (0, 0) h.2.2.2.1, cell_of_row W (w.heap.size + 1) 4 _ _ (0, 0) h.2.2.2.1, cell_of_row W (w.heap.size + 1) 5 _ _ (0, 0) h.2.2.2.1, cell_of_row W (w.heap.size + 1) 6 _ _ (0, 0) h.2.2.2.1, cell_of_row W (w.heap.size + 1) 7 _ _ (0, 0) h.2.2.2.1, cell_of_row W (w.heap.size + 1) 8 _ _ (0, 0) h.2.2.2.1, cell_of_row W (w.heap.size + 1) 9 _ _ (0, 0) h.2.2.2.1⟩
theorem FDst.rd (h : FDst nm M A2 c0 A3 c3 r w g W) : Rd W W.heap.size 10 (.slice A3 M.length c3) M.length (rcells M) := h.2.1
theorem FDst.rdf (h : FDst nm M A2 c0 A3 c3 r w g W) : Rd W W.heap.size 10 (.slice A2 M.length c0) M.length (rcells M) := h.2.2.2.2.1.mono h.2.2.2.2.2.size
theorem FDst.bel (h : FDst nm M A2 c0 A3 c3 r w g W) : Below w.heap.size w W := h.2.2.2.2.2
theorem FDst.lt (h : FDst nm M A2 c0 A3 c3 r w g W) : g < W.heap.size ∧ w.heap.size < W.heap.size ∧ w.heap.size + 1 < W.heap.size := ⟨lt_of_block h.1, lt_of_block h.2.2.1, lt_of_block h.2.2.2.1⟩
theorem ask_cell {A : List HeaderV} {b1 o1 k i : Nat} {h : HeaderV} {v : Value} (hb : Below w.heap.size w W) (hbl : b1 < w.heap.size) (hc : ∀ i j u, (hcells A)[i * 5 + j]? = some u → w.cell? ⟨b1, o1 + i * 5 + j, none⟩ = some u) (hk : A[k]? = some h) (hv : h.enc[i]? = some v) : W.cell? ⟨b1, o1 + k * 5 + i, none⟩ = some v :=
  (hb.cell (p := ⟨b1, o1 + k * 5 + i, none⟩) hbl).trans (hc k i v (hcell hk hv))
end

end Go.Proofs.YtakkgamhceignaaGreatDoor

/-
  Walks over the layer of rewrites: filters by their names (written by wip/gen/genrw1.py).
-/
namespace Go.Proofs.YtakkgamhceignaaGreatDoor
open Go Go.RowKit Go.Sort

/-- A filter as it lies in a slice: its name, the value of its rules, the rules. -/
structure FiltV where
  nm : ByteArray
  v : Value
  L : List RuleV
instance : Inhabited FiltV := ⟨⟨ByteArray.empty, .slice none 0 0, []⟩⟩
def FiltV.enc (f : FiltV) : List Value := [.string f.nm, f.v]
theorem filt_len (f : FiltV) : f.enc.length = 2 := rfl
def fcells (L : List FiltV) : List Value := L.flatMap FiltV.enc
theorem fcell {L : List FiltV} {k i : Nat} {f : FiltV} {v : Value} (hr : L[k]? = some f) (hv : f.enc[i]? = some v) : (fcells L)[k * 2 + i]? = some v := flat_get FiltV.enc 2 filt_len L k i f v hr hv
/-- The filters of a slice, in a world. -/
def FsAt (W : World) (B : Nat) (v : Value) (Fs : List FiltV) : Prop :=
  Rd W B 2 v Fs.length (fcells Fs) ∧ ∀ f ∈ Fs, Rd W B 10 f.v f.L.length (rcells f.L) ∧ f.L.length * 64 ≤ 140737488355328
theorem FsAt.below {W W' : World} {B : Nat} {v : Value} {Fs : List FiltV} (h : FsAt W B v Fs) (hb : Below B W W') : FsAt W' B v Fs := ⟨h.1.below hb, fun f hf => ⟨(h.2 f hf).1.below hb, (h.2 f hf).2⟩⟩
theorem FsAt.mono {W : World} {B B' : Nat} {v : Value} {Fs : List FiltV} (h : FsAt W B v Fs) (hb : B ≤ B') : FsAt W B' v Fs := ⟨h.1.mono hb, fun f hf => ⟨(h.2 f hf).1.mono hb, (h.2 f hf).2⟩⟩
theorem FsAt.next {W W' : World} {v : Value} {Fs : List FiltV} (h : FsAt W W.heap.size v Fs) (hb : Below W.heap.size W W') : FsAt W' W'.heap.size v Fs := (h.below hb).mono hb.size

def hasNm (nm : ByteArray) (f : FiltV) : Bool := f.nm.toList == nm.toList
/-- The first filter of a name. -/
def fnd (Fs : List FiltV) (nm : ByteArray) : Option FiltV := if 0 ≤ idxP (hasNm nm) Fs then Fs[(idxP (hasNm nm) Fs).toNat]? else none
theorem fnd_hit {Fs : List FiltV} {nm : ByteArray} {k : Nat} {f : FiltV} (h : idxP (hasNm nm) Fs = k) (hk : Fs[k]? = some f) : fnd Fs nm = some f := by
  unfold fnd
  rw [h, if_pos (by omega), Int.toNat_natCast, hk]
theorem fnd_miss {Fs : List FiltV} {nm : ByteArray} (h : idxP (hasNm nm) Fs = -1) : fnd Fs nm = none := by
  unfold fnd
  rw [h, if_neg (by omega)]
def fndNm (Fs : List FiltV) (nm : ByteArray) : ByteArray := match fnd Fs nm with | some f => f.nm | none => ByteArray.empty
def fndL (Fs : List FiltV) (nm : ByteArray) : List RuleV := match fnd Fs nm with | some f => f.L | none => []
def fndB (Fs : List FiltV) (nm : ByteArray) : Bool := (fnd Fs nm).isSome

def NewAt (base n : Nat) (A : Option Addr) : Prop := 0 < n → ∃ b off, A = some ⟨b, off, none⟩ ∧ base ≤ b
theorem NewAt.mono {base base' n : Nat} {A : Option Addr} (h : NewAt base n A) (hb : base' ≤ base) : NewAt base' n A := fun hn => by
  obtain ⟨b, off, hA, h1⟩ := h hn
  exact ⟨b, off, hA, by omega⟩
/-- What a call that names a filter gives. -/
def NamedPost (nm : ByteArray) (L : List RuleV) (b : Bool) (w : World) (e : Ending) (w' : World) : Prop :=
  ∃ A c, e = .returned (.tuple #[.agg #[.string nm, .slice A L.length c], .bool b]) ∧ Rd w' w'.heap.size 10 (.slice A L.length c) L.length (rcells L) ∧ Below w.heap.size w w' ∧ NewAt w.heap.size L.length A

theorem Rd.far {w : World} {B k n c base : Nat} {A : Option Addr} {xs : List Value} (h : Rd w B k (.slice A n c) n xs) (hA : NewAt base n A) {p : Addr} (hp : p.block < base) (u : Value) : Rd (w.setCell p u) B k (.slice A n c) n xs := by
  obtain ⟨A', c', hv, hc, hl, hq⟩ := h
  injection hv with h1 _ h3
  subst h1 h3
  refine ⟨A, c, rfl, hc, hl, fun hn => ?_⟩
  obtain ⟨b, off, hA', hB, hcell⟩ := hq hn
  obtain ⟨b', off', hA2, hb⟩ := hA hn
  rw [hA'] at hA2
  injection hA2 with hA2
  injection hA2 with hA2 hA3
  exact ⟨b, off, hA', hB, fun j v hv => (World.cell?_of_block (w := w) (Below.heap_setCell w p u b (by omega))).trans (hcell j v hv)⟩
theorem old_at (w : World) (o : Obj) {k : Nat} (h : k < w.heap.size) : (w.alloc o).drew.heap[k]? = w.heap[k]? := Below.heap_alloc w o k h
def ClonePost (L : List RuleV) (w : World) (e : Ending) (w' : World) : Prop :=
  ∃ A c, e = .returned (.slice A L.length c) ∧ Rd w' w'.heap.size 10 (.slice A L.length c) L.length (rcells L) ∧ Below w.heap.size w w' ∧ NewAt w.heap.size L.length A
set_option maxRecDepth 100000 in
set_option maxHeartbeats 1000000 in
theorem cloneRule_any (L : List RuleV) (v : Value) (w : World) (h : Rd w w.heap.size 10 v L.length (rcells L)) (hbig : L.length * 64 ≤ 140737488355328) :
    Calls Tryz.prog 46 #[v] w fun e w' => ClonePost L w e w' := by
  obtain ⟨i0, hi, hz0, hz1, hz2⟩ := info_parts Tryz.infoRule
  rcases Nat.eq_zero_or_pos L.length with h0 | h0
  · obtain rfl : L = [] := List.eq_nil_of_length_eq_zero h0
    obtain ⟨A, c, rfl, hc⟩ := h.form
    rcases A with _ | ad
    · exact (AnyE.slices_Clone_nil Tryz.cloneRule _ c w).mono fun e w' ⟨he, hw⟩ => ⟨none, 0, he, ⟨none, 0, rfl, Nat.le_refl _, rfl, fun h => absurd h (by simp)⟩, by subst hw; exact Below.refl _ _, fun h => absurd h (by simp)⟩
    · clear h
      go_enter Tryz.func46, Tryz.ntmps46
      have q : ∀ w, (binOp .eql 37 (.slice (some ad) 0 c) (.slice none 0 0)).run Tryz.prog w = .ok (.bool false) w := fun w => Lib.run_eql_slice_nil w _ _ (some ad) 0 c 0 0 Tryz.underlying37
      go_wp2
      go_ret
      exact ⟨_, _, rfl, ⟨_, 0, rfl, Nat.le_refl _, rfl, fun h => absurd h (by simp)⟩, below1 w _, fun h => absurd h (by simp)⟩
  · obtain ⟨b, off, c, rfl, hc, hbB, hcell⟩ := h.pos h0
    have := AnyE.slices_Clone Tryz.cloneRule i0 _ 10 64 hi hz0 hz1 hz2 rfl (by decide) Tryz.sizeOf29 b off L.length c (rcells L) w (flat_len RuleV.enc 10 rule_len L) (by unfold maxLen; omega) hbig hcell (rcells_one L)
    refine this.mono fun e w' ⟨v', he, hown, _, hb⟩ => ?_
    obtain ⟨A, c', rfl, hA⟩ := owns_form hown
    refine ⟨A, c', he, Rd.of_own hown, hb, fun hn => ?_⟩
    obtain ⟨g, rfl⟩ := hA hn
    exact ⟨g, 0, rfl, (hown.lt g rfl).1⟩

theorem results_f {fn : Func} {tmps : Array Value} {w : World} {g : Nat} {a b e : Value} {t1 t3 : Nat} (hf : fn.results = #[.cell t1 39, .tmp t3]) (h1 : tmps.getD t1 undef = .pointer (some ⟨g, 0, none⟩)) (h3 : tmps.getD t3 undef = e)
    (k1 : w.heap[g]? = some (.cells #[a, b] 39 (0, 0))) :
    (results fn tmps).run Tryz.prog w = .ok (.tuple #[.agg #[a, b], e]) w := by
  obtain ⟨c0, c1, _, _⟩ := two_cells k1
  have h1' : tmps[t1]?.getD undef = .pointer (some ⟨g, 0, none⟩) := by simpa using h1
  have h3' : tmps[t3]?.getD undef = e := by simpa using h3
  simp [results, hf, h1', h3', go_sem, c0, c1]

set_option maxRecDepth 100000 in
set_option maxHeartbeats 1000000 in
theorem fnamed_any (Fs : List FiltV) (v : Value) (nm : ByteArray) (w : World) (h : FsAt w w.heap.size v Fs) (hlen : Fs.length ≤ 9223372036854775807) :
    Calls Tryz.prog 11 #[v, .string nm] w fun e w' => NamedPost (fndNm Fs nm) (fndL Fs nm) (fndB Fs nm) w e w' := by
  have HF := Lib.hid h
  obtain ⟨A, c, rfl, hc⟩ := h.1.form
  clear h
  go_enter Tryz.func11, Tryz.ntmps11
  go_wp2
  go_loopw [7, 10] (fun _ i wr => ∃ k : Nat, i = .int .i64 k ∧ k ≤ Fs.length ∧ Hid (∀ (j : Nat) (f : FiltV), j < k → Fs[j]? = some f → hasNm nm f = false) ∧ wr.heap[w.heap.size]? = some (.cells #[.string ByteArray.empty, .slice none 0 0] 39 (0, 0)) ∧ Below w.heap.size w wr) (fun _ i _ => Fs.length - (intOf i).toNat)
  case atStart => exact ⟨0, rfl, by omega, fun j r hj => absurd hj (by omega), blk1 w _, below1 w _⟩
  case round =>
    obtain ⟨k, rfl, hk, hno, hblk, hnx⟩ := hrel
    by_cases hlt : k < Fs.length
    · have hI : (k : Int) < (Fs.length : Int) := by omega
      obtain ⟨f, hf⟩ : ∃ f, Fs[k]? = some f := ⟨_, List.getElem?_eq_getElem hlt⟩
      obtain ⟨b, off, c', hv, _, hbB, hcell⟩ := HF.out.1.posAt (by omega)
      injection hv with hv1 _ hv3
      subst hv1 hv3
      have c0 : wr.cell? ⟨b, off + k * 2, none⟩ = some (.string f.nm) := (hnx.cell (p := ⟨b, off + k * 2, none⟩) hbB).trans (hcell k 0 _ (fcell hf rfl))
      have c1 : wr.cell? ⟨b, off + k * 2 + 1, none⟩ = some f.v := (hnx.cell (p := ⟨b, off + k * 2 + 1, none⟩) hbB).trans (hcell k 1 _ (fcell hf rfl))
      have l0 := lt_of_block hblk
      have HB := Lib.hid hblk
      have HC := Lib.hid hcell
      clear hcell hblk
      have hrd := (HF.out.2 f (List.mem_of_getElem? hf)).1
      obtain ⟨Ar, cr, hfv, hcr⟩ := hrd.form
      rw [hfv] at c1
      have hsz := hnx.size
      have HR : Hid (∀ W, Below w.heap.size w W → Rd W W.heap.size 10 (.slice Ar f.L.length cr) f.L.length (rcells f.L)) := fun W hb => by rw [← hfv]; exact (hrd.below hb).mono hb.size
      have hbig := (HF.out.2 f (List.mem_of_getElem? hf)).2
      clear hrd hfv
      by_cases hm : f.nm.toList = nm.toList
      · have hm1 : (f.nm.toList == nm.toList) = true := by simp [hm]
        have hI : Hid (idxP (hasNm nm) Fs = k) := idxP_hit _ Fs k f hf hm1 hno.out
        have hne1 : w.heap.size ≠ wr.heap.size := by omega
        have hne2 : wr.heap.size ≠ w.heap.size := by omega
        go_wp2
        go_region_held3 (fun w' => w'.cell? ⟨wr.heap.size, 0, none⟩ = some (.string f.nm) ∧ w'.cell? ⟨wr.heap.size, 1, none⟩ = some (.slice Ar f.L.length cr)) (first | exact ⟨g0, g1⟩ | exact ⟨far2 hne2 g0, far2 hne2 g1⟩ | go_keep)
          (first | (go_at_call 46; refine (cloneRule_any f.L _ _ (HR.out _ (by repeat (first | exact Below.refl _ _ | assumption | refine below_drewL ?_ | refine Below.alloc ?_ (by first | omega | (simp; done) | (simp; omega)) _))) hbig).mono ?_; rintro e w1 ⟨A1, c1', rfl, hr1, hb1, hn1⟩; obtain ⟨g0, g1, _, _⟩ := two_cells (blk_below hb1 (new_at0 _ _)); have HK := Lib.hid (blk_below hb1 ((old_at _ _ l0).trans HB.out)); obtain ⟨k0, k1, k2, k3⟩ := two_cells HK.out; have HR1 := Lib.hid hr1; have HB1 := Lib.hid hb1; have HN1 := Lib.hid hn1; clear hr1 hb1 hn1))
        go_wp2
        refine bodyPost_ret (results_f (t1 := 4) (t3 := 5) (g := w.heap.size) Tryz.results11 rfl rfl (set_1 (set_0 HK.out))) rfl ?_
        have hlt1 : w.heap.size < (wr.alloc (.cells #[.string f.nm, .slice Ar f.L.length cr] 39)).drew.heap.size := by
          show _ < (wr.alloc _).heap.size
          simp; omega
        have hbel : Below w.heap.size w w1 := ((hnx.alloc hnx.size (.cells #[.string f.nm, .slice Ar f.L.length cr] 39)).drew).trans (HB1.out.mono (Nat.le_of_lt hlt1))
        unfold NamedPost fndNm fndL fndB
        rw [fnd_hit hI.out hf]
        exact ⟨A1, c1', rfl, ((HR1.out.far HN1.out hlt1 _).far HN1.out hlt1 _).mono (by simp [World.setCell]), (hbel.setCell (Nat.le_refl _) _).setCell (Nat.le_refl _) _, HN1.out.mono (Nat.le_of_lt hlt1)⟩
      · have hm1 : (f.nm.toList == nm.toList) = false := by simp [hm]
        go_wp2
        refine ⟨⟨k + 1, by go_num, by omega, fun j f' hj hf' => ?_, (Below.heap_alloc _ _ _ l0).trans HB.out, hnx.alloc hnx.size _⟩, by simp only [intOf]; omega⟩
        by_cases hjk : j = k
        · subst hjk
          rw [hf] at hf'
          injection hf' with hf'
          rw [← hf']; exact hm1
        · exact hno.out j f' (by omega) hf'
    · obtain ⟨k0, k1, k2, k3⟩ := two_cells hblk
      have HB := Lib.hid hblk
      clear hblk
      go_wp2
      have hE : k = Fs.length := by omega
      have hI : fnd Fs nm = none := fnd_miss (idxP_miss _ Fs (fun j f hj => hno.out j f (by have := (List.getElem?_eq_some_iff.1 hj).1; omega) hj))
      refine bodyPost_ret (results_f (t1 := 4) (t3 := 5) (g := w.heap.size) Tryz.results11 rfl rfl (set_1 (set_0 HB.out))) rfl ?_
      unfold NamedPost fndNm fndL fndB
      rw [hI]
      exact ⟨none, 0, rfl, ⟨none, 0, rfl, Nat.le_refl _, rfl, fun h => absurd h (by simp)⟩, (hnx.setCell (Nat.le_refl _) _).setCell (Nat.le_refl _) _, fun h => absurd h (by simp)⟩

end Go.Proofs.YtakkgamhceignaaGreatDoor

/-
  filter.Named once more: the rules that it hands back lie in memory of its own.
-/
namespace Go.Proofs.YtakkgamhceignaaGreatDoor
open Go Go.RowKit Go.Sort

theorem ownsNil (w : World) (base : Nat) : w.ownsRow base 29 10 (.slice none 0 0) ([] : List RuleV).length (rcells []) := ⟨by simp [rcells], .inl ⟨rfl, rfl⟩⟩
/-- What a clone is: a row of its own. -/
def CloneO (L : List RuleV) (w : World) (e : Ending) (w' : World) : Prop :=
  ∃ v', e = .returned v' ∧ w'.ownsRow w.heap.size 29 10 v' L.length (rcells L) ∧ Below w.heap.size w w'
set_option maxRecDepth 100000 in
set_option maxHeartbeats 1000000 in
theorem cloneRuleO_any (L : List RuleV) (v : Value) (w : World) (h : Rd w w.heap.size 10 v L.length (rcells L)) (hbig : L.length * 64 ≤ 140737488355328) :
    Calls Tryz.prog 46 #[v] w fun e w' => CloneO L w e w' := by
  obtain ⟨i0, hi, hz0, hz1, hz2⟩ := info_parts Tryz.infoRule
  rcases Nat.eq_zero_or_pos L.length with h0 | h0
  · obtain rfl : L = [] := List.eq_nil_of_length_eq_zero h0
    obtain ⟨A, c, rfl, hc⟩ := h.form
    rcases A with _ | ad
    · exact (AnyE.slices_Clone_nil Tryz.cloneRule _ c w).mono fun e w' ⟨he, hw⟩ => ⟨_, he, by subst hw; exact ownsNil _ _, by subst hw; exact Below.refl _ _⟩
    · clear h
      go_enter Tryz.func46, Tryz.ntmps46
      have q : ∀ w, (binOp .eql 37 (.slice (some ad) 0 c) (.slice none 0 0)).run Tryz.prog w = .ok (.bool false) w := fun w => Lib.run_eql_slice_nil w _ _ (some ad) 0 c 0 0 Tryz.underlying37
      have hmade : (w.alloc (.cells #[] 29)).ownsRow w.heap.size 29 10 (.slice (some ⟨w.heap.size, 0, none⟩) 0 0) 0 [] := World.ownsRow_made w #[] 0 (Nat.le_refl _) (Nat.zero_le _) (by simp)
      have HM := Lib.hid hmade
      clear hmade
      go_wp2
      go_ret
      exact ⟨_, rfl, HM.out, below1 w _⟩
  · obtain ⟨b, off, c, rfl, hc, hbB, hcell⟩ := h.pos h0
    have := AnyE.slices_Clone Tryz.cloneRule i0 _ 10 64 hi hz0 hz1 hz2 rfl (by decide) Tryz.sizeOf29 b off L.length c (rcells L) w (flat_len RuleV.enc 10 rule_len L) (by unfold maxLen; omega) hbig hcell (rcells_one L)
    exact this.mono fun e w' ⟨v', he, hown, _, hb⟩ => ⟨v', he, hown, hb⟩

/-- What a call that names a filter gives. -/
def NamedO (nm : ByteArray) (L : List RuleV) (b : Bool) (w : World) (e : Ending) (w' : World) : Prop :=
  ∃ v', e = .returned (.tuple #[.agg #[.string nm, v'], .bool b]) ∧ w'.ownsRow w.heap.size 29 10 v' L.length (rcells L) ∧ Below w.heap.size w w'
set_option maxRecDepth 100000 in
set_option maxHeartbeats 1000000 in
theorem fnamedO_any (Fs : List FiltV) (v : Value) (nm : ByteArray) (w : World) (h : FsAt w w.heap.size v Fs) (hlen : Fs.length ≤ 9223372036854775807) :
    Calls Tryz.prog 11 #[v, .string nm] w fun e w' => NamedO (fndNm Fs nm) (fndL Fs nm) (fndB Fs nm) w e w' := by
  have HF := Lib.hid h
  obtain ⟨A, c, rfl, hc⟩ := h.1.form
  clear h
  go_enter Tryz.func11, Tryz.ntmps11
  go_wp2
  go_loopw [7, 10] (fun _ i wr => ∃ k : Nat, i = .int .i64 k ∧ k ≤ Fs.length ∧ Hid (∀ (j : Nat) (f : FiltV), j < k → Fs[j]? = some f → hasNm nm f = false) ∧ wr.heap[w.heap.size]? = some (.cells #[.string ByteArray.empty, .slice none 0 0] 39 (0, 0)) ∧ Below w.heap.size w wr) (fun _ i _ => Fs.length - (intOf i).toNat)
  case atStart => exact ⟨0, rfl, by omega, fun j r hj => absurd hj (by omega), blk1 w _, below1 w _⟩
  case round =>
    obtain ⟨k, rfl, hk, hno, hblk, hnx⟩ := hrel
    by_cases hlt : k < Fs.length
    · have hI : (k : Int) < (Fs.length : Int) := by omega
      obtain ⟨f, hf⟩ : ∃ f, Fs[k]? = some f := ⟨_, List.getElem?_eq_getElem hlt⟩
      obtain ⟨b, off, c', hv, _, hbB, hcell⟩ := HF.out.1.posAt (by omega)
      injection hv with hv1 _ hv3
      subst hv1 hv3
      have c0 : wr.cell? ⟨b, off + k * 2, none⟩ = some (.string f.nm) := (hnx.cell (p := ⟨b, off + k * 2, none⟩) hbB).trans (hcell k 0 _ (fcell hf rfl))
      have c1 : wr.cell? ⟨b, off + k * 2 + 1, none⟩ = some f.v := (hnx.cell (p := ⟨b, off + k * 2 + 1, none⟩) hbB).trans (hcell k 1 _ (fcell hf rfl))
      have l0 := lt_of_block hblk
      have HB := Lib.hid hblk
      have HC := Lib.hid hcell
      clear hcell hblk
      have hrd := (HF.out.2 f (List.mem_of_getElem? hf)).1
      obtain ⟨Ar, cr, hfv, hcr⟩ := hrd.form
      rw [hfv] at c1
      have hsz := hnx.size
      have HR : Hid (∀ W, Below w.heap.size w W → Rd W W.heap.size 10 (.slice Ar f.L.length cr) f.L.length (rcells f.L)) := fun W hb => by rw [← hfv]; exact (hrd.below hb).mono hb.size
      have hbig := (HF.out.2 f (List.mem_of_getElem? hf)).2
      clear hrd hfv
      by_cases hm : f.nm.toList = nm.toList
      · have hm1 : (f.nm.toList == nm.toList) = true := by simp [hm]
        have hI : Hid (idxP (hasNm nm) Fs = k) := idxP_hit _ Fs k f hf hm1 hno.out
        have hne1 : w.heap.size ≠ wr.heap.size := by omega
        have hne2 : wr.heap.size ≠ w.heap.size := by omega
        go_wp2
        go_region_held3 (fun w' => w'.cell? ⟨wr.heap.size, 0, none⟩ = some (.string f.nm) ∧ w'.cell? ⟨wr.heap.size, 1, none⟩ = some (.slice Ar f.L.length cr)) (first | exact ⟨g0, g1⟩ | exact ⟨far2 hne2 g0, far2 hne2 g1⟩ | go_keep)
          (first | (go_at_call 46; refine (cloneRuleO_any f.L _ _ (HR.out _ (by repeat (first | exact Below.refl _ _ | assumption | refine below_drewL ?_ | refine Below.alloc ?_ (by first | omega | (simp; done) | (simp; omega)) _))) hbig).mono ?_; rintro e w1 ⟨v1, rfl, ho1, hb1⟩; obtain ⟨A1, c1', rfl, _⟩ := owns_form ho1; obtain ⟨g0, g1, _, _⟩ := two_cells (blk_below hb1 (new_at0 _ _)); have HK := Lib.hid (blk_below hb1 ((old_at _ _ l0).trans HB.out)); obtain ⟨k0, k1, k2, k3⟩ := two_cells HK.out; have HR1 := Lib.hid ho1; have HB1 := Lib.hid hb1; clear ho1 hb1))
        go_wp2
        refine bodyPost_ret (results_f (t1 := 4) (t3 := 5) (g := w.heap.size) Tryz.results11 rfl rfl (set_1 (set_0 HK.out))) rfl ?_
        have hlt1 : w.heap.size < (wr.alloc (.cells #[.string f.nm, .slice Ar f.L.length cr] 39)).drew.heap.size := by
          show _ < (wr.alloc _).heap.size
          simp; omega
        have hbel : Below w.heap.size w w1 := ((hnx.alloc hnx.size (.cells #[.string f.nm, .slice Ar f.L.length cr] 39)).drew).trans (HB1.out.mono (Nat.le_of_lt hlt1))
        unfold NamedO fndNm fndL fndB
        rw [fnd_hit hI.out hf]
        exact ⟨_, rfl, (owns_kept_lt HR1.out (only_setCell (only_setCell (World.grownBy.refl w1 (some w.heap.size)) (.inl rfl) _) (.inl rfl) _) hlt1).mono (Nat.le_of_lt hlt1), (hbel.setCell (Nat.le_refl _) _).setCell (Nat.le_refl _) _⟩
      · have hm1 : (f.nm.toList == nm.toList) = false := by simp [hm]
        go_wp2
        refine ⟨⟨k + 1, by go_num, by omega, fun j f' hj hf' => ?_, (Below.heap_alloc _ _ _ l0).trans HB.out, hnx.alloc hnx.size _⟩, by simp only [intOf]; omega⟩
        by_cases hjk : j = k
        · subst hjk
          rw [hf] at hf'
          injection hf' with hf'
          rw [← hf']; exact hm1
        · exact hno.out j f' (by omega) hf'
    · obtain ⟨k0, k1, k2, k3⟩ := two_cells hblk
      have HB := Lib.hid hblk
      clear hblk
      go_wp2
      have hE : k = Fs.length := by omega
      have hI : fnd Fs nm = none := fnd_miss (idxP_miss _ Fs (fun j f hj => hno.out j f (by have := (List.getElem?_eq_some_iff.1 hj).1; omega) hj))
      refine bodyPost_ret (results_f (t1 := 4) (t3 := 5) (g := w.heap.size) Tryz.results11 rfl rfl (set_1 (set_0 HB.out))) rfl ?_
      unfold NamedO fndNm fndL fndB
      rw [hI]
      exact ⟨_, rfl, ownsNil _ _, (hnx.setCell (Nat.le_refl _) _).setCell (Nat.le_refl _) _⟩

end Go.Proofs.YtakkgamhceignaaGreatDoor

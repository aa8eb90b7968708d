/-
  Joined texts: Filt6, Filt7, Filt8, LawFtBack, OpenS, ElemR.
-/
import Derived.Test.YtmgeknghgngliaaDoorMFilterBack11
import Derived.Laws.StructEq
import Derived.Test.YtmgeknghgngliaaDoorMFilterBack5
import Derived.Deep.Slices
import Derived.ChangeSame
import Derived.Lib.LaidU8
import Derived.OpenShut
import Derived.WideShapes
import Derived.ChangeMaps5
import Derived.Test.YtmgeknghgngliaaDoorMFilterBack8
import Derived.Deep.Fields
/-
  Walks over the filter's layer: Decides; the program's and the reference's (written by wip/gen/genfilt6.py).
-/
namespace Go.Proofs.YtmgeknghgngliaaDoor
open Go Go.RowKit Go.Sort

/-- Which rule decides. -/
def decN (L : List RuleV) (h : HeaderV) : Int := idxP (fun r => fitsB r h) L
/-- .. 0 of a filter that is refused. -/
def decR (L : List RuleV) (h : HeaderV) : Int := if filtE L = 0 then decN L h else 0
theorem decR_ok {L : List RuleV} (h : HeaderV) (h1 : filtE L = 0) : decR L h = decN L h := if_pos h1
theorem decR_no {L : List RuleV} (h : HeaderV) (h1 : ¬ filtE L = 0) : decR L h = 0 := if_neg h1

set_option maxHeartbeats 400000 in
theorem fitsClos_any (r : RuleV) (h : HeaderV) (B : Nat) (w : World) (hB : w.heap[B]? = some (.cells #[.int .u32 h.src, .int .u32 h.dst, .int .u8 h.proto, .int .u16 h.sp, .int .u16 h.dp] 90 (0, 0))) :
    Calls Tryd.prog 89 #[.agg #[.bool r.permit, .int .i64 r.proto, .int .u32 r.sa, .int .i64 r.sn, .int .u32 r.da, .int .i64 r.dn, .int .u32 r.sl, .int .u32 r.sh, .int .u32 r.dl, .int .u32 r.dh], .pointer (some ⟨B, 0, none⟩)] w fun e w' => e = .returned (.bool (fitsB r h)) ∧ Below w.heap.size w w' := by
  have hlt := lt_of_block hB
  have hne : B ≠ w.heap.size := Nat.ne_of_lt hlt
  have e0 : w.cell? ⟨B, 0, none⟩ = some (.int .u32 h.src) := cell_of_row w (B) 0 _ _ (0, 0) hB
  have e1 : w.cell? ⟨B, 1, none⟩ = some (.int .u32 h.dst) := cell_of_row w (B) 1 _ _ (0, 0) hB
  have e2 : w.cell? ⟨B, 2, none⟩ = some (.int .u8 h.proto) := cell_of_row w (B) 2 _ _ (0, 0) hB
  have e3 : w.cell? ⟨B, 3, none⟩ = some (.int .u16 h.sp) := cell_of_row w (B) 3 _ _ (0, 0) hB
  have e4 : w.cell? ⟨B, 4, none⟩ = some (.int .u16 h.dp) := cell_of_row w (B) 4 _ _ (0, 0) hB
  clear hB
  go_enter Tryd.func89, Tryd.ntmps89
  go_wp2_with fail
  refine (fits_any r h _).mono ?_
  rintro e w1 ⟨rfl, hb⟩
  have hbw := below_call (below1 w _) hb
  go_wp2
  go_ret
  exact ⟨rfl, hbw⟩
theorem fitsClos_pred (h : HeaderV) (B : Nat) (w : World) (hB : w.heap[B]? = some (.cells #[.int .u32 h.src, .int .u32 h.dst, .int .u8 h.proto, .int .u16 h.sp, .int .u16 h.dp] 90 (0, 0))) : PredBelow Tryd.prog 89 #[.pointer (some ⟨B, 0, none⟩)] (fun x : RuleV => .agg x.enc.toArray) (fun r => fitsB r h) w := fun W r hb =>
  (fitsClos_any r h B W (blk_below hb hB)).mono fun _ _ ⟨he, hb'⟩ => ⟨he, hb.trans (hb'.mono hb.size)⟩

set_option maxHeartbeats 1000000 in
theorem decides_any (nm : ByteArray) (L : List RuleV) (v : Value) (h : HeaderV) (w : World) (hr : Rd w w.heap.size 10 v L.length (rcells L)) :
    Calls Tryd.prog 49 #[.agg #[.string nm, v], .agg #[.int .u32 h.src, .int .u32 h.dst, .int .u8 h.proto, .int .u16 h.sp, .int .u16 h.dp]] w fun e w' => e = .returned (.tuple #[.int .i64 (decR L h), .int .i64 (filtE L)]) ∧ Below w.heap.size w w' := by
  have hW : Below w.heap.size w ((w.alloc (.cells #[.string nm, v] 85)).alloc (.cells #[.int .u32 h.src, .int .u32 h.dst, .int .u8 h.proto, .int .u16 h.sp, .int .u16 h.dp] 90)) := below2 w _ _
  have h' := (hr.below hW).mono hW.size
  obtain ⟨A, c, rfl, hc⟩ := hr.form
  have HR := Lib.hid h'
  clear hr h'
  by_cases h1 : filtE L = 0
  · have hd : (filtE L != 0) = false := by simp [h1]
    have H1 := Lib.hid h1
    have hE := Lib.hid (decR_ok h h1).symm
    have hlen : L.length ≤ 256 := by
      rcases Nat.lt_or_ge 256 L.length with h2 | h2
      · rw [filtE_1 h2] at h1; omega
      · exact h2
    clear h1
    go_enter Tryd.func49, Tryd.ntmps49
    go_wp2_with fail
    refine (filtCheck_any nm L _ _ HR.out).mono ?_
    rintro e w1 ⟨rfl, hb⟩
    have J0 := blk_below hb (blk2 w _ _).1
    have J1 := blk_below hb (blk2 w _ _).2
    have hbw := below_call hW hb
    have hcon := Lib.hid (indexRule_any L _ (fun r => fitsB r h) 89 #[.pointer (some ⟨w.heap.size + 1, 0, none⟩)] _ (enters_of Tryd.func89 (by kernel_rfl) rfl) (fitsClos_pred h _ _ J1) ((HR.out.below hb).mono hb.size) (by omega))
    obtain ⟨ca, cb, _, _⟩ := two_cells J0
    have l0 := lt_of_block J0
    clear hb J0 J1 hW HR
    have hdec : Hid (idxP (fun r => fitsB r h) L = decN L h) := rfl
    generalize idxP (fun r => fitsB r h) L = D at *
    go_wp2_with fail
    refine hcon.out.mono ?_
    rintro e w2 ⟨rfl, hb2⟩
    have hbw2 := below_call hbw hb2
    go_wp2
    go_ret2
    exact ⟨rt2 ⟨vi (by rw [hdec.out]; exact hE.out), vi H1.out.symm⟩, hbw2⟩
  · have hd : (filtE L != 0) = true := by simp [h1]
    have hE := Lib.hid (decR_no h h1).symm
    clear h1
    go_enter Tryd.func49, Tryd.ntmps49
    go_wp2_with fail
    refine (filtCheck_any nm L _ _ HR.out).mono ?_
    rintro e w1 ⟨rfl, hb⟩
    have hbw := below_call hW hb
    go_wp2
    go_ret2
    exact ⟨rt2 ⟨vi hE.out, rfl⟩, hbw⟩

end Go.Proofs.YtmgeknghgngliaaDoor

/-
  Walks over the filter's layer: Permits, the rules held against each other, the law's own probe (written by wip/gen/genfilt7.py).
-/
namespace Go.Proofs.YtmgeknghgngliaaDoor
open Go Go.RowKit Go.Sort

/-- What rule i says; false of none. -/
def permAt (L : List RuleV) (i : Int) : Bool := if 0 ≤ i then (L[i.toNat]?.map (·.permit)).getD false else false
def permN (L : List RuleV) (h : HeaderV) : Bool := permAt L (decN L h)
def permB (L : List RuleV) (h : HeaderV) : Bool := if filtE L = 0 then permN L h else false
theorem permB_ok {L : List RuleV} (h : HeaderV) (h1 : filtE L = 0) : permB L h = permN L h := if_pos h1
theorem permB_no {L : List RuleV} (h : HeaderV) (h1 : ¬ filtE L = 0) : permB L h = false := if_neg h1
theorem permN_miss {L : List RuleV} {h : HeaderV} (h2 : decN L h = -1) : permN L h = false := by unfold permN permAt; rw [h2, if_neg (by omega)]
theorem permN_hit {L : List RuleV} {h : HeaderV} {k : Nat} {r : RuleV} (h2 : decN L h = k) (h3 : L[k]? = some r) : permN L h = r.permit := by
  unfold permN permAt
  rw [h2, if_pos (by omega), Int.toNat_natCast, h3]; rfl

set_option maxHeartbeats 1000000 in
theorem permits_any (nm : ByteArray) (L : List RuleV) (v : Value) (h : HeaderV) (w : World) (hr : Rd w w.heap.size 10 v L.length (rcells L)) :
    Calls Tryd.prog 48 #[.agg #[.string nm, v], .agg #[.int .u32 h.src, .int .u32 h.dst, .int .u8 h.proto, .int .u16 h.sp, .int .u16 h.dp]] w fun e w' => e = .returned (.tuple #[.bool (permB L h), .int .i64 (filtE L)]) ∧ Below w.heap.size w w' := by
  have hW : Below w.heap.size w ((w.alloc (.cells #[.string nm, v] 85)).alloc (.cells #[.int .u32 h.src, .int .u32 h.dst, .int .u8 h.proto, .int .u16 h.sp, .int .u16 h.dp] 90)) := below2 w _ _
  have h' := (hr.below hW).mono hW.size
  have hcon := decides_any nm L v h _ h'
  by_cases h1 : filtE L = 0
  · rw [decR_ok h h1, h1] at hcon
    rw [permB_ok h h1, h1]
    rcases idxP_cases (fun r => fitsB r h) L with ⟨hD, _⟩ | ⟨k, r, hD, hk, _, _⟩
    · have hD' : decN L h = -1 := hD
      rw [hD'] at hcon
      rw [permN_miss hD']
      obtain ⟨A, c, rfl, hc⟩ := hr.form
      have hcon := Lib.hid hcon
      clear hr h' h1 hD hD'
      go_enter Tryd.func48, Tryd.ntmps48
      go_wp2_with fail
      refine hcon.out.mono ?_
      rintro e w1 ⟨rfl, hb⟩
      have hbw := below_call hW hb
      go_wp2
      go_ret2
      exact ⟨rfl, hbw⟩
    · have hD' : decN L h = k := hD
      have hlt := (List.getElem?_eq_some_iff.1 hk).1
      rw [hD'] at hcon
      rw [permN_hit hD' hk]
      obtain ⟨b, off, c, rfl, hc, hbB, hcell⟩ := hr.posAt (by omega)
      have e0 := hW.cell (p := ⟨b, off + k * 10 + 0, none⟩) hbB
      rw [hcell k 0 _ (rcell hk (v := .bool r.permit) rfl)] at e0
      have hbl : b < ((w.alloc (.cells #[.string nm, .slice (some ⟨b, off, none⟩) L.length c] 85)).alloc (.cells #[.int .u32 h.src, .int .u32 h.dst, .int .u8 h.proto, .int .u16 h.sp, .int .u16 h.dp] 90)).heap.size := by have := hW.size; omega
      have hkl : (k : Int) < (L.length : Int) := by omega
      have E0 := Lib.hid e0
      have HBL := Lib.hid hbl
      have hcon := Lib.hid hcon
      clear hr h' h1 hD hD' hcell e0 hbl hk
      go_enter Tryd.func48, Tryd.ntmps48
      go_wp2_with fail
      refine hcon.out.mono ?_
      rintro e w1 ⟨rfl, hb⟩
      have hbw := below_call hW hb
      have J0 := blk_below hb (blk2 w _ _).1
      obtain ⟨ca, cb, _, _⟩ := two_cells J0
      have c0 : w1.cell? ⟨b, off + k * 10, none⟩ = some (.bool r.permit) := (hb.cell (p := ⟨b, off + k * 10, none⟩) HBL.out).trans E0.out
      go_wp2
      go_ret2
      exact ⟨rfl, hbw⟩
  · have hd : (filtE L == 0) = false := by simp [h1]
    rw [decR_no h h1] at hcon
    rw [permB_no h h1]
    obtain ⟨A, c, rfl, hc⟩ := hr.form
    have hcon := Lib.hid hcon
    clear hr h' h1
    go_enter Tryd.func48, Tryd.ntmps48
    go_wp2_with fail
    refine hcon.out.mono ?_
    rintro e w1 ⟨rfl, hb⟩
    have hbw := below_call hW hb
    go_wp2
    go_ret2
    exact ⟨rfl, hbw⟩

theorem eqPref (a n : Int) (d : Nat) (w : World) : (Op.equalIn (d + 1 + 1) 25 (.agg #[.int .u32 a, .int .i64 n]) (.agg #[.int .u32 a, .int .i64 n])).run Tryd.prog w = .ok true w := by
  have hS : Tryd.prog.underlying 25 = some (.struct (Tryd.prog.fieldsOf 25)) := by kernel_rfl
  have hp : Tryd.prog.stoodInHeld 25 = false := by kernel_rfl
  have a1 := Tryd.underlying23
  have a2 := Tryd.isAgg23
  have a3 := Tryd.sizeOf23
  have b1 := Tryd.underlying3
  have b2 := Tryd.isAgg3
  have b3 := Tryd.sizeOf3
  rw [run_equalIn_agg w (d + 1) 25 _ _ hS hp]
  simp only [Program.fieldsOf, Tryd.underlying25]
  go_simp
theorem eqSpan (a n : Int) (d : Nat) (w : World) : (Op.equalIn (d + 1 + 1) 41 (.agg #[.int .u32 a, .int .u32 n]) (.agg #[.int .u32 a, .int .u32 n])).run Tryd.prog w = .ok true w := by
  have hS : Tryd.prog.underlying 41 = some (.struct (Tryd.prog.fieldsOf 41)) := by kernel_rfl
  have hp : Tryd.prog.stoodInHeld 41 = false := by kernel_rfl
  have a1 := Tryd.underlying22
  have a2 := Tryd.isAgg22
  have a3 := Tryd.sizeOf22
  rw [run_equalIn_agg w (d + 1) 41 _ _ hS hp]
  simp only [Program.fieldsOf, Tryd.underlying41]
  go_simp
/-- '!=' says false of a rule and itself. -/
@[go_sem] theorem neqRule (r : RuleV) (w : World) : (binOp .neq 51 (.agg #[.bool r.permit, .int .i64 r.proto, .int .u32 r.sa, .int .i64 r.sn, .int .u32 r.da, .int .i64 r.dn, .int .u32 r.sl, .int .u32 r.sh, .int .u32 r.dl, .int .u32 r.dh]) (.agg #[.bool r.permit, .int .i64 r.proto, .int .u32 r.sa, .int .i64 r.sn, .int .u32 r.da, .int .i64 r.dn, .int .u32 r.sl, .int .u32 r.sh, .int .u32 r.dl, .int .u32 r.dh])).run Tryd.prog w = .ok (.bool false) w := by
  have hS : Tryd.prog.underlying 51 = some (.struct (Tryd.prog.fieldsOf 51)) := by kernel_rfl
  have hp : Tryd.prog.stoodInHeld 51 = false := by kernel_rfl
  have b1 := Tryd.underlying3
  have b2 := Tryd.isAgg3
  have b3 := Tryd.sizeOf3
  have c1 := Tryd.underlying4
  have c2 := Tryd.isAgg4
  have c3 := Tryd.sizeOf4
  have d2 := Tryd.isAgg25
  have d3 := Tryd.sizeOf25
  have e2 := Tryd.isAgg41
  have e3 := Tryd.sizeOf41
  rw [run_neq_struct, show (10000 : Nat) = 9997 + 1 + 1 + 1 from rfl, run_equalIn_agg w (9997 + 1 + 1) 51 _ _ hS hp]
  generalize 9997 = d
  have E1 := fun a n w => eqPref a n d w
  have E2 := fun a n w => eqSpan a n d w
  simp only [Program.fieldsOf, Tryd.underlying51]
  go_simp

end Go.Proofs.YtmgeknghgngliaaDoor

/-
  Walks over the filter's layer: the rules held against each other, the law's own probe (written by wip/gen/genfilt8.py).
-/
namespace Go.Proofs.YtmgeknghgngliaaDoor
open Go Go.RowKit Go.Sort

def pr0 : RuleV := ⟨true, 6, 0, 0, 0, 0, 0, 65535, 80, 80, by omega, by omega, by omega, by omega, by omega, by omega, by omega⟩
def pr1 : RuleV := ⟨false, -1, 0, 0, 0, 0, 0, 65535, 0, 65535, by omega, by omega, by omega, by omega, by omega, by omega, by omega⟩
def ph0 : HeaderV := ⟨0, 0, 6, 0, 80, by omega, by omega, by omega, by omega, by omega⟩
def ph1 : HeaderV := ⟨0, 0, 6, 0, 81, by omega, by omega, by omega, by omega, by omega⟩
theorem pr_e : filtE [pr0, pr1] = 0 := by decide +kernel
theorem pr_p : permB [pr0, pr1] ph0 = true := by decide +kernel
theorem pr_d : decR [pr0, pr1] ph1 = 1 := by decide +kernel
theorem pr_cells : rcells [pr0, pr1] = (#[.bool true, .int .i64 6, .int .u32 0, .int .i64 0, .int .u32 0, .int .i64 0, .int .u32 0, .int .u32 65535, .int .u32 80, .int .u32 80, .bool false, .int .i64 (-1), .int .u32 0, .int .i64 0, .int .u32 0, .int .i64 0, .int .u32 0, .int .u32 65535, .int .u32 0, .int .u32 65535] : Array Value).toList := rfl

set_option maxHeartbeats 1000000 in
theorem lawAwake10_any (w : World) : Calls Tryd.prog 16 #[] w fun e w' => e = .returned (.bool true) ∧ Below w.heap.size w w' := by
  go_enter Tryd.func16, Tryd.ntmps16
  go_wp2_with fail
  obtain ⟨J0, J1, J2⟩ := blk3 w (.cells #[.int .u32 0, .int .u32 65535] 41) (.cells #[.bool true, .int .i64 6, .int .u32 0, .int .i64 0, .int .u32 0, .int .i64 0, .int .u32 0, .int .u32 65535, .int .u32 80, .int .u32 80, .bool false, .int .i64 (-1), .int .u32 0, .int .i64 0, .int .u32 0, .int .i64 0, .int .u32 0, .int .u32 65535, .int .u32 0, .int .u32 65535] 51) (.cells #[.string ByteArray.empty, .slice (some ⟨w.heap.size + 1, 0, none⟩) 2 2] 85)
  have hR := Rd.of_blk (k := 10) (n := 2) (c := 2) J1 (by omega) rfl
  have hb0 := below3 w (.cells #[.int .u32 0, .int .u32 65535] 41) (.cells #[.bool true, .int .i64 6, .int .u32 0, .int .i64 0, .int .u32 0, .int .i64 0, .int .u32 0, .int .u32 65535, .int .u32 80, .int .u32 80, .bool false, .int .i64 (-1), .int .u32 0, .int .i64 0, .int .u32 0, .int .i64 0, .int .u32 0, .int .u32 65535, .int .u32 0, .int .u32 65535] 51) (.cells #[.string ByteArray.empty, .slice (some ⟨w.heap.size + 1, 0, none⟩) 2 2] 85)
  have hc := permits_any ByteArray.empty [pr0, pr1] _ ph0 _ hR
  rw [pr_e, pr_p] at hc
  refine hc.mono ?_
  rintro e w1 ⟨rfl, hb⟩
  have hR1 := (hR.below hb).mono hb.size
  have hbw := below_call hb0 hb
  have K2 := blk_below hb J2
  obtain ⟨ca, cb, _, _⟩ := two_cells K2
  have hlt := lt_of_block K2
  have hc2 := Lib.hid (decides_any ByteArray.empty [pr0, pr1] _ ph1 _ hR1)
  rw [pr_e, pr_d] at hc2
  clear hR hR1 J0 J1 J2 hb0 hb
  go_wp2_with fail
  refine hc2.out.mono ?_
  rintro e w2 ⟨rfl, hb⟩
  have hbw2 := below_call hbw hb
  go_wp2
  go_ret
  exact ⟨rfl, hbw2⟩

end Go.Proofs.YtmgeknghgngliaaDoor

/-
  The walk of the law FilterBack (written by wip/gen/genftback.py).
-/
namespace Go.Proofs.YtmgeknghgngliaaDoor
open Go Go.RowKit Go.Lib Go.Sort

/-- '==' says true of a rule and itself. -/
@[go_sem] theorem eqlRule (r : RuleV) (w : World) : (binOp .eql 51 (.agg #[.bool r.permit, .int .i64 r.proto, .int .u32 r.sa, .int .i64 r.sn, .int .u32 r.da, .int .i64 r.dn, .int .u32 r.sl, .int .u32 r.sh, .int .u32 r.dl, .int .u32 r.dh]) (.agg #[.bool r.permit, .int .i64 r.proto, .int .u32 r.sa, .int .i64 r.sn, .int .u32 r.da, .int .i64 r.dn, .int .u32 r.sl, .int .u32 r.sh, .int .u32 r.dl, .int .u32 r.dh])).run Tryd.prog w = .ok (.bool true) w := by
  have hS : Tryd.prog.underlying 51 = some (.struct (Tryd.prog.fieldsOf 51)) := by kernel_rfl
  have hp : Tryd.prog.stoodInHeld 51 = false := by kernel_rfl
  have b1 := Tryd.underlying3
  have b2 := Tryd.isAgg3
  have b3 := Tryd.sizeOf3
  have c1 := Tryd.underlying4
  have c2 := Tryd.isAgg4
  have c3 := Tryd.sizeOf4
  have d2 := Tryd.isAgg25
  have d3 := Tryd.sizeOf25
  have e2 := Tryd.isAgg41
  have e3 := Tryd.sizeOf41
  rw [run_eql_struct, show (10000 : Nat) = 9997 + 1 + 1 + 1 from rfl, run_equalIn_agg w (9997 + 1 + 1) 51 _ _ hS hp]
  generalize 9997 = d
  have E1 := fun a n w => eqPref a n d w
  have E2 := fun a n w => eqSpan a n d w
  simp only [Program.fieldsOf, Tryd.underlying51]
  go_simp


theorem text_len {r : RuleV} (h : mayB r = true) : r.text.length ≤ 200 := by
  obtain ⟨m0, m1, m2, m3, m4, m5, m6, m7⟩ := mayB_ok h
  have k2 := chk_ok m2
  have k3 := chk_ok m3
  have a1 := prefT_len (a := r.sa) k2.1 k2.2.1
  have a2 := prefT_len (a := r.da) k3.1 k3.2.1
  have a3 := portT_len r.hsl.2 r.hsh.2
  have a4 := portT_len r.hdl.2 r.hdh.2
  have b1 : (whatT r.permit).length ≤ 6 := by cases r.permit <;> decide
  have b2 : (protoT r.proto).length ≤ 10 := by
    unfold protoT
    split
    · have := dec32 (n := r.proto.toNat) (by omega); omega
    · decide
  unfold RuleV.text RuleV.words
  rw [← joinC_join32]
  simp only [joinB32, List.length_append, List.length_cons]
  omega
set_option maxRecDepth 100000 in
set_option maxHeartbeats 8000000 in
theorem lawFtBack_any (r : RuleV) (s : ByteArray) (w : World) (hE : Env w) :
    Calls Tryd.prog 5 #[.agg #[.bool r.permit, .int .i64 r.proto, .int .u32 r.sa, .int .i64 r.sn, .int .u32 r.da, .int .i64 r.dn, .int .u32 r.sl, .int .u32 r.sh, .int .u32 r.dl, .int .u32 r.dh], .string s] w fun e w' => e = .returned (.bool true) ∧ Below w.heap.size w w' := by
  have haw := Lib.hid lawAwake10_any
  by_cases hs : 2000 < s.size
  · have hI : (s.size : Int) > 2000 := by omega
    go_enter Tryd.func5, Tryd.ntmps5
    go_wp2_with fail
    refine (haw.out _).mono ?_
    rintro e w1 ⟨rfl, hb⟩
    have hbw := below_call (below1 w (ruleObj r)) hb
    go_wp2
    go_ret
    exact ⟨rfl, hbw⟩
  · have hI : ¬ (s.size : Int) > 2000 := by omega
    go_enter Tryd.func5, Tryd.ntmps5
    go_wp2_with fail
    have hk0 := heap_alloc_new w (ruleObj r)
    have hb0 := below1 w (ruleObj r)
    have hW : w.alloc (.cells #[.bool r.permit, .int .i64 r.proto, .int .u32 r.sa, .int .i64 r.sn, .int .u32 r.da, .int .i64 r.dn, .int .u32 r.sl, .int .u32 r.sh, .int .u32 r.dl, .int .u32 r.dh] 51) = w.alloc (ruleObj r) := rfl
    try rw [hW]
    generalize w.alloc (ruleObj r) = W at *
    clear hW
    refine (haw.out _).mono ?_
    rintro e w1 ⟨rfl, hb⟩
    have hk1 := blk_below hb hk0
    have hb1 := below_call hb0 hb
    obtain ⟨c0, c1, c2, c3, c4, c5, c6, c7, c8, c9⟩ := rule_blk (r := r) hk1
    clear hb hb0 hk0
    have hT := ftText_any r w1 (hE.below hb1)
    cases hmay : mayB r with
    | false =>
      rw [(told_no hmay).1, (told_no hmay).2] at hT
      have HT := Lib.hid hT
      clear hT hmay
      go_wp2_with fail
      refine HT.out.mono ?_
      rintro e w2 ⟨rfl, hb⟩
      have hk2 := blk_below hb hk1
      have hb2 := below_call hb1 hb
      clear hb hb1 hk1 c0 c1 c2 c3 c4 c5 c6 c7 c8 c9 HT
      have hEs := hE.below hb2
      have hS := fun W (hW : Env W) => ftParse_any s W hW (by omega)
      cases hO : frO s.data.toList with
      | none =>
        have hz := fr_none hO
        rw [hz.1, hz.2] at hS
        have HS := Lib.hid (show ∀ W, Env W → Calls Tryd.prog 18 #[.string s] W fun e W' => e = .returned (.tuple #[.agg #[.bool false, .int .i64 0, .int .u32 0, .int .i64 0, .int .u32 0, .int .i64 0, .int .u32 0, .int .u32 0, .int .u32 0, .int .u32 0], .int .i64 4]) ∧ Below W.heap.size W W' from hS)
        have he : ∀ W, (binOp .eql 51 (.agg #[.bool false, .int .i64 0, .int .u32 0, .int .i64 0, .int .u32 0, .int .i64 0, .int .u32 0, .int .u32 0, .int .u32 0, .int .u32 0]) (.agg #[.bool false, .int .i64 0, .int .u32 0, .int .i64 0, .int .u32 0, .int .i64 0, .int .u32 0, .int .u32 0, .int .u32 0, .int .u32 0])).run Tryd.prog W = .ok (.bool true) W := fun W => eqlRule default W
        clear hS hz hO
        go_wp2_with fail

        refine (HS.out _ hEs).mono ?_
        rintro e wa ⟨rfl, hb⟩
        have hba := below_call hb2 hb
        have kx := heap_alloc_new wa (.cells #[.bool false, .int .i64 0, .int .u32 0, .int .i64 0, .int .u32 0, .int .i64 0, .int .u32 0, .int .u32 0, .int .u32 0, .int .u32 0] 51)
        obtain ⟨y0, y1, y2, y3, y4, y5, y6, y7, y8, y9⟩ := blk10 kx
        clear kx
        have hbf := hba.alloc hba.size (.cells #[.bool false, .int .i64 0, .int .u32 0, .int .i64 0, .int .u32 0, .int .i64 0, .int .u32 0, .int .u32 0, .int .u32 0, .int .u32 0] 51)
        go_wp2
        go_ret
        exact ⟨rfl, hbf⟩
      | some q' =>
        have hz := fr_some hO
        obtain ⟨hq1, hq2⟩ := frO_some hO
        rw [hz.1, hz.2] at hS
        have HS := Lib.hid (show ∀ W, Env W → Calls Tryd.prog 18 #[.string s] W fun e W' => e = .returned (.tuple #[.agg #[.bool q'.permit, .int .i64 q'.proto, .int .u32 q'.sa, .int .i64 q'.sn, .int .u32 q'.da, .int .i64 q'.dn, .int .u32 q'.sl, .int .u32 q'.sh, .int .u32 q'.dl, .int .u32 q'.dh], .int .i64 0]) ∧ Below W.heap.size W W' from hS)
        have hT2 := fun W (hW : Env W) => ftText_any q' W hW
        rw [(told_yes hq1).1, (told_yes hq1).2, hq2] at hT2
        have HT2 := Lib.hid hT2
        have hss : ((⟨s.data.toList.toArray⟩ : ByteArray).toList == s.toList) = true := by rw [str_mk]; simp
        clear hS hz hO hT2 hq1 hq2
        go_wp2_with fail

        refine (HS.out _ hEs).mono ?_
        rintro e wa ⟨rfl, hb⟩
        have hba := below_call hb2 hb
        have kx := heap_alloc_new wa (.cells #[.bool q'.permit, .int .i64 q'.proto, .int .u32 q'.sa, .int .i64 q'.sn, .int .u32 q'.da, .int .i64 q'.dn, .int .u32 q'.sl, .int .u32 q'.sh, .int .u32 q'.dl, .int .u32 q'.dh] 51)
        obtain ⟨y0, y1, y2, y3, y4, y5, y6, y7, y8, y9⟩ := blk10 kx
        clear kx
        have hbf := hba.alloc hba.size (.cells #[.bool q'.permit, .int .i64 q'.proto, .int .u32 q'.sa, .int .i64 q'.sn, .int .u32 q'.da, .int .i64 q'.dn, .int .u32 q'.sl, .int .u32 q'.sh, .int .u32 q'.dl, .int .u32 q'.dh] 51)
        have hEf := hE.below hbf
        go_wp2_with fail
        refine (HT2.out _ hEf).mono ?_
        rintro e wb ⟨rfl, hb⟩
        have hbg := below_call hbf hb
        go_wp2
        go_ret
        exact ⟨rfl, hbg⟩
    | true =>
      rw [(told_yes hmay).1, (told_yes hmay).2] at hT
      have HT := Lib.hid hT
      have hfr := fr_some (frO_text hmay)
      have tl := text_len hmay
      have hP : ∀ W, Env W → Calls Tryd.prog 18 #[.string ⟨r.text.toArray⟩] W fun e W' => e = .returned (.tuple #[.agg #[.bool r.permit, .int .i64 r.proto, .int .u32 r.sa, .int .i64 r.sn, .int .u32 r.da, .int .i64 r.dn, .int .u32 r.sl, .int .u32 r.sh, .int .u32 r.dl, .int .u32 r.dh], .int .i64 0]) ∧ Below W.heap.size W W' := by
        intro W hW
        have h := ftParse_any ⟨r.text.toArray⟩ W hW (by show r.text.length < _; omega)
        dsimp only at h
        rw [hfr.1, hfr.2] at h
        exact h
      have HP := Lib.hid hP
      clear hT hmay hP hfr tl
      generalize (⟨r.text.toArray⟩ : ByteArray) = q at *
      go_wp2_with fail
      refine HT.out.mono ?_
      rintro e w2 ⟨rfl, hb⟩
      have hk2 := blk_below hb hk1
      have hb2 := below_call hb1 hb
      clear hb hb1 hk1 c0 c1 c2 c3 c4 c5 c6 c7 c8 c9 HT
      obtain ⟨c0, c1, c2, c3, c4, c5, c6, c7, c8, c9⟩ := rule_blk (r := r) hk2
      go_wp2_with fail
      refine (HP.out w2 (hE.below hb2)).mono ?_
      rintro e w3 ⟨rfl, hb⟩
      have hk3 := blk_below hb hk2
      have hb3 := below_call hb2 hb
      have kx := heap_alloc_new w3 (.cells #[.bool r.permit, .int .i64 r.proto, .int .u32 r.sa, .int .i64 r.sn, .int .u32 r.da, .int .i64 r.dn, .int .u32 r.sl, .int .u32 r.sh, .int .u32 r.dl, .int .u32 r.dh] 51)
      have kr : (w3.alloc (.cells #[.bool r.permit, .int .i64 r.proto, .int .u32 r.sa, .int .i64 r.sn, .int .u32 r.da, .int .i64 r.dn, .int .u32 r.sl, .int .u32 r.sh, .int .u32 r.dl, .int .u32 r.dh] 51)).heap[w.heap.size]? = some (.cells #[.bool r.permit, .int .i64 r.proto, .int .u32 r.sa, .int .i64 r.sn, .int .u32 r.da, .int .i64 r.dn, .int .u32 r.sl, .int .u32 r.sh, .int .u32 r.dl, .int .u32 r.dh] 51) := blk_below (below1 w3 (.cells #[.bool r.permit, .int .i64 r.proto, .int .u32 r.sa, .int .i64 r.sn, .int .u32 r.da, .int .i64 r.dn, .int .u32 r.sl, .int .u32 r.sh, .int .u32 r.dl, .int .u32 r.dh] 51)) hk3
      have hbx := hb3.alloc hb3.size (.cells #[.bool r.permit, .int .i64 r.proto, .int .u32 r.sa, .int .i64 r.sn, .int .u32 r.da, .int .i64 r.dn, .int .u32 r.sl, .int .u32 r.sh, .int .u32 r.dl, .int .u32 r.dh] 51)
      obtain ⟨x0, x1, x2, x3, x4, x5, x6, x7, x8, x9⟩ := blk10 kx
      clear c0 c1 c2 c3 c4 c5 c6 c7 c8 c9
      obtain ⟨c0, c1, c2, c3, c4, c5, c6, c7, c8, c9⟩ := blk10 kr
      clear hb hb2 hk2 HP hb3 hk3 kx kr
      have hne := Lib.hid (fun W => neqRule r W)
      have hEs := hE.below hbx
      have hS := fun W (hW : Env W) => ftParse_any s W hW (by omega)
      cases hO : frO s.data.toList with
      | none =>
        have hz := fr_none hO
        rw [hz.1, hz.2] at hS
        have HS := Lib.hid (show ∀ W, Env W → Calls Tryd.prog 18 #[.string s] W fun e W' => e = .returned (.tuple #[.agg #[.bool false, .int .i64 0, .int .u32 0, .int .i64 0, .int .u32 0, .int .i64 0, .int .u32 0, .int .u32 0, .int .u32 0, .int .u32 0], .int .i64 4]) ∧ Below W.heap.size W W' from hS)
        have he : ∀ W, (binOp .eql 51 (.agg #[.bool false, .int .i64 0, .int .u32 0, .int .i64 0, .int .u32 0, .int .i64 0, .int .u32 0, .int .u32 0, .int .u32 0, .int .u32 0]) (.agg #[.bool false, .int .i64 0, .int .u32 0, .int .i64 0, .int .u32 0, .int .i64 0, .int .u32 0, .int .u32 0, .int .u32 0, .int .u32 0])).run Tryd.prog W = .ok (.bool true) W := fun W => eqlRule default W
        clear hS hz hO
        go_wp2_with fail
        have hnn := hne.out
        refine (HS.out _ hEs).mono ?_
        rintro e wa ⟨rfl, hb⟩
        have hba := below_call hbx hb
        have kx := heap_alloc_new wa (.cells #[.bool false, .int .i64 0, .int .u32 0, .int .i64 0, .int .u32 0, .int .i64 0, .int .u32 0, .int .u32 0, .int .u32 0, .int .u32 0] 51)
        obtain ⟨y0, y1, y2, y3, y4, y5, y6, y7, y8, y9⟩ := blk10 kx
        clear kx
        have hbf := hba.alloc hba.size (.cells #[.bool false, .int .i64 0, .int .u32 0, .int .i64 0, .int .u32 0, .int .i64 0, .int .u32 0, .int .u32 0, .int .u32 0, .int .u32 0] 51)
        go_wp2
        go_ret
        exact ⟨rfl, hbf⟩
      | some q' =>
        have hz := fr_some hO
        obtain ⟨hq1, hq2⟩ := frO_some hO
        rw [hz.1, hz.2] at hS
        have HS := Lib.hid (show ∀ W, Env W → Calls Tryd.prog 18 #[.string s] W fun e W' => e = .returned (.tuple #[.agg #[.bool q'.permit, .int .i64 q'.proto, .int .u32 q'.sa, .int .i64 q'.sn, .int .u32 q'.da, .int .i64 q'.dn, .int .u32 q'.sl, .int .u32 q'.sh, .int .u32 q'.dl, .int .u32 q'.dh], .int .i64 0]) ∧ Below W.heap.size W W' from hS)
        have hT2 := fun W (hW : Env W) => ftText_any q' W hW
        rw [(told_yes hq1).1, (told_yes hq1).2, hq2] at hT2
        have HT2 := Lib.hid hT2
        have hss : ((⟨s.data.toList.toArray⟩ : ByteArray).toList == s.toList) = true := by rw [str_mk]; simp
        clear hS hz hO hT2 hq1 hq2
        go_wp2_with fail
        have hnn := hne.out
        refine (HS.out _ hEs).mono ?_
        rintro e wa ⟨rfl, hb⟩
        have hba := below_call hbx hb
        have kx := heap_alloc_new wa (.cells #[.bool q'.permit, .int .i64 q'.proto, .int .u32 q'.sa, .int .i64 q'.sn, .int .u32 q'.da, .int .i64 q'.dn, .int .u32 q'.sl, .int .u32 q'.sh, .int .u32 q'.dl, .int .u32 q'.dh] 51)
        obtain ⟨y0, y1, y2, y3, y4, y5, y6, y7, y8, y9⟩ := blk10 kx
        clear kx
        have hbf := hba.alloc hba.size (.cells #[.bool q'.permit, .int .i64 q'.proto, .int .u32 q'.sa, .int .i64 q'.sn, .int .u32 q'.da, .int .i64 q'.dn, .int .u32 q'.sl, .int .u32 q'.sh, .int .u32 q'.dl, .int .u32 q'.dh] 51)
        have hEf := hE.below hbf
        go_wp2_with fail
        refine (HT2.out _ hEf).mono ?_
        rintro e wb ⟨rfl, hb⟩
        have hbg := below_call hbf hb
        go_wp2
        go_ret
        exact ⟨rfl, hbg⟩
end Go.Proofs.YtmgeknghgngliaaDoor

/-
  Arguments opened to cells: structs of any depth, slices of structs of any length; no program in sight.
-/
namespace Go.Proofs.YtmgeknghgngliaaDoor
open Go Go.RowKit Go.ChangeShapes Go.WideShapes Go.Deep

theorem list_told {α : Type} {Q : Nat → α → Prop} : ∀ n, (∀ i, i < n → ∃ r, Q i r) → ∃ L : List α, L.length = n ∧ ∀ i x, L[i]? = some x → Q i x
  | 0, _ => ⟨[], rfl, fun i x h => by simp at h⟩
  | n + 1, h => by
    obtain ⟨L, hl, hq⟩ := list_told n (fun i hi => h i (by omega))
    obtain ⟨r, hr⟩ := h n (by omega)
    refine ⟨L ++ [r], by simp [hl], fun i x hx => ?_⟩
    by_cases hi : i < L.length
    · rw [List.getElem?_append_left hi] at hx; exact hq i x hx
    · rw [List.getElem?_append_right (by omega)] at hx
      have : i - L.length = 0 := by
        have := (List.getElem?_eq_some_iff.1 hx).1
        simp at this; omega
      rw [this] at hx
      simp at hx
      subst hx
      have : i = n := by omega
      rw [this]; exact hr
theorem flat_inv {α : Type} (enc : α → List Value) (k : Nat) (hk : ∀ x, (enc x).length = k) (L : List α) (j : Nat) (u : Value) (h : (L.flatMap enc)[j]? = some u) :
    ∃ (i jj : Nat) (x : α), j = i * k + jj ∧ jj < k ∧ L[i]? = some x ∧ (enc x)[jj]? = some u := by
  have hj := (List.getElem?_eq_some_iff.1 h).1
  rw [flat_len enc k hk] at hj
  have hk0 : 0 < k := by
    rcases Nat.eq_zero_or_pos k with h0 | h0
    · subst h0; simp at hj
    · exact h0
  have hd : j / k < L.length := Nat.div_lt_of_lt_mul (by rw [Nat.mul_comm]; exact hj)
  have hm := Nat.mod_lt j hk0
  have hdm : j = j / k * k + j % k := by rw [Nat.mul_comm]; exact (Nat.div_add_mod j k).symm
  have hx := List.getElem?_eq_getElem hd
  have hu : (enc L[j / k])[j % k]? = some ((enc L[j / k])[j % k]'(by rw [hk]; exact hm)) := List.getElem?_eq_getElem _
  have hg := flat_get enc k hk L _ _ _ _ hx hu
  rw [← hdm, h] at hg
  exact ⟨j / k, j % k, _, hdm, hm, hx, hu.trans hg.symm⟩

section
variable {H : Type} {enc : TypeId × Value → H} {P : Program} {w : World} {base : Nat} {spare : Nat → Bool} {held : Bool}
theorem sub_at {t : TypeId} {fs : Array Field} {n : Nat} {cs : List Value} {x : DataW H × List MemPlace} (ht : P.underlying t = some (.struct fs)) (h : DataW.trod enc P w base spare held n t cs = some x) :
    cs.length = P.cellsOf t ∧ ∃ m, ∀ (j : Nat) (f : Field) (off : Nat) (ty : TypeId) (k : Nat), fs[j]? = some f → f.offset = off → f.type = ty → P.cellsOf ty = k → ∃ y, DataW.trod enc P w base spare held m ty ((cs.drop off).take k) = some y := by
  obtain ⟨xs, m, _, _, hl, hlen, hf⟩ := DataW.trod_struct ht h
  refine ⟨hl, m, fun j f off ty k hj ho hty hk => ?_⟩
  have h1 := hf j f hj
  have hjl : j < xs.length := by rw [hlen]; exact (Array.getElem?_eq_some_iff.1 hj).1
  subst ho hty hk
  exact ⟨_, h1.trans (List.getElem?_eq_getElem hjl)⟩
/-- A struct as a parameter. -/
theorem open_agg {r : Reach} {b0 : Nat} {t : TypeId} {fs : Array Field} {v : Value} {d : DataW H} {p : List MemPlace} (hs : P.underlying t = some (.struct fs)) (hv : Value.okWide P w r b0 t v) (h : DataW.Trod enc P w base spare held t v d p) :
    ∃ (cs : List Value) (n : Nat), v = .agg cs.toArray ∧ DataW.trod enc P w base spare held n t cs = some (d, p) := by
  obtain ⟨cs, rfl, _⟩ := okWide_struct hs hv
  obtain ⟨n, hf⟩ := h
  exact ⟨cs.toList, n, by simp, hf⟩
/-- A slice as a parameter. -/
theorem open_sl {r : Reach} {b0 : Nat} {t e : TypeId} {v : Value} {d : DataW H} {p : List MemPlace} (hs : P.underlying t = some (.slice e)) (hv : Value.okWide P w r b0 t v) (h : DataW.Trod enc P w base spare held t v d p) :
    ∃ n, DataW.trod enc P w base spare held n t [v] = some (d, p) := by
  obtain ⟨a, len, cap, rfl⟩ := okWide_slice hs hv
  exact h
/-- A slice whose elements' cells are told by one list each. -/
theorem open_rd {α : Type} {encV : α → List Value} {k : Nat} (hk : ∀ x, (encV x).length = k) (hk0 : 0 < k) {t e : TypeId} {n : Nat} {cs : List Value} {x : DataW H × List MemPlace} (ht : P.underlying t = some (.slice e)) (hC : P.cellsOf e = k)
    (hel : ∀ n cs y, DataW.trod enc P w base spare held n e cs = some y → ∃ r, cs = encV r) (h : DataW.trod enc P w base spare held n t cs = some x) :
    ∃ (v : Value) (L : List α), cs = [v] ∧ Rd w w.heap.size k v L.length (L.flatMap encV) ∧ L.length ≤ maxLen := by
  rcases open_slice ht h with ⟨h0, _⟩ | ⟨a, len, cap, m, n', D, Pl, hcs, _, hl, hm, hmm, _, hi⟩
  · exact ⟨_, [], h0, ⟨none, 0, rfl, by simp, by simp, fun h => absurd h (by simp)⟩, by simp⟩
  · have hlm : len ≤ m := by rw [hmm]; split <;> omega
    obtain ⟨L, hL, hq⟩ := list_told (Q := fun i r => w.cells? base (a.add (i * k)) k = some (encV r)) len (fun i hi' => by
      obtain ⟨cs', hc, ht'⟩ := hi i (by omega)
      obtain ⟨r, hr⟩ := hel _ _ _ ht'
      rw [hC] at hc
      exact ⟨r, by rw [hc, hr]⟩)
    refine ⟨_, L, hcs, ⟨some a, cap, by rw [hL], by omega, flat_len encV k hk L, fun hpos => ?_⟩, by omega⟩
    obtain ⟨b, off, sp⟩ := a
    have hz : ∃ u, w.cell? ⟨b, off, sp⟩ = some u := by
      obtain ⟨r, hr⟩ : ∃ r, L[0]? = some r := ⟨_, List.getElem?_eq_getElem hpos⟩
      obtain ⟨_, _, hat⟩ := World.cells?_some (hq 0 r hr)
      have h1 := hat 0 hk0
      have h2 : (encV r)[0]? = some ((encV r)[0]'(by rw [hk]; exact hk0)) := List.getElem?_eq_getElem _
      rw [h2] at h1
      refine ⟨_, Eq.trans ?_ h1⟩
      simp [Addr.add]
    obtain ⟨u0, hu0⟩ := hz
    obtain rfl := Go.Proofs.cell_spot hu0
    refine ⟨b, off, rfl, ?_, fun j u hu => ?_⟩
    · rcases Nat.lt_or_ge b w.heap.size with h | h
      · exact h
      · have hn : w.heap[b]? = none := by simp [h]
        simp [World.cell?, hn] at hu0
    · obtain ⟨i, jj, r, hj, hjj, hr, hu'⟩ := flat_inv encV k hk L j u hu
      obtain ⟨_, _, hat⟩ := World.cells?_some (hq i r hr)
      have h1 := hat jj hjj
      rw [hu'] at h1
      have e : (Addr.add ⟨b, off, none⟩ (i * k)).add jj = ⟨b, off + j, none⟩ := by
        rw [hj]; simp only [Addr.add]
        split <;> split <;> simp_all <;> omega
      rw [← e]; exact h1
end

end Go.Proofs.YtmgeknghgngliaaDoor

/-
  The cells of rules and of headers (written by wip/gen/genelem.py).
-/
namespace Go.Proofs.YtmgeknghgngliaaDoor
open Go Go.RowKit Go.ChangeShapes Go.WideShapes Go.Deep

set_option maxHeartbeats 1000000 in
theorem elem_rule {H : Type} {enc : TypeId × Value → H} {w : World} {base : Nat} {spare : Nat → Bool} {held : Bool} (n : Nat) (cs : List Value) (x : DataW H × List MemPlace) (h : DataW.trod enc Tryd.prog w base spare held n 51 cs = some x) : ∃ r : RuleV, cs = r.enc := by
  obtain ⟨l0, m0, s0⟩ := sub_at Tryd.underlying51 h
  rw [show Tryd.prog.cellsOf 51 = 10 from by kernel_rfl] at l0
  obtain ⟨c0, c1, c2, c3, c4, c5, c6, c7, c8, c9, rfl⟩ : ∃ c0 c1 c2 c3 c4 c5 c6 c7 c8 c9, cs = [c0, c1, c2, c3, c4, c5, c6, c7, c8, c9] := by
    match cs, l0 with
    | [c0, c1, c2, c3, c4, c5, c6, c7, c8, c9], _ => exact ⟨c0, c1, c2, c3, c4, c5, c6, c7, c8, c9, rfl⟩
  obtain ⟨_, g1⟩ := s0 0 _ 0 4 1 rfl rfl rfl (by kernel_rfl)
  replace g1 : DataW.trod enc Tryd.prog w base spare held m0 4 [c0] = some _ := g1
  obtain ⟨v0, e0, _⟩ := DataW.trod_bool Tryd.underlying4 g1
  obtain rfl := (List.cons.inj e0).1
  obtain ⟨_, g2⟩ := s0 1 _ 1 3 1 rfl rfl rfl (by kernel_rfl)
  replace g2 : DataW.trod enc Tryd.prog w base spare held m0 3 [c1] = some _ := g2
  obtain ⟨v1, e1, _, w1⟩ := DataW.trod_int Tryd.underlying3 g2
  have b1 := bounds_i64 w1
  obtain rfl := (List.cons.inj e1).1
  obtain ⟨_, g3⟩ := s0 2 _ 2 25 2 rfl rfl rfl (by kernel_rfl)
  replace g3 : DataW.trod enc Tryd.prog w base spare held m0 25 [c2, c3] = some _ := g3
  obtain ⟨l4, m4, s4⟩ := sub_at Tryd.underlying25 g3
  obtain ⟨_, g5⟩ := s4 0 _ 0 23 1 rfl rfl rfl (by kernel_rfl)
  replace g5 : DataW.trod enc Tryd.prog w base spare held m4 23 [c2] = some _ := g5
  obtain ⟨v2, e2, _, w2⟩ := DataW.trod_int Tryd.underlying23 g5
  have b2 := bounds_u32 w2
  obtain rfl := (List.cons.inj e2).1
  obtain ⟨_, g6⟩ := s4 1 _ 1 3 1 rfl rfl rfl (by kernel_rfl)
  replace g6 : DataW.trod enc Tryd.prog w base spare held m4 3 [c3] = some _ := g6
  obtain ⟨v3, e3, _, w3⟩ := DataW.trod_int Tryd.underlying3 g6
  have b3 := bounds_i64 w3
  obtain rfl := (List.cons.inj e3).1
  obtain ⟨_, g7⟩ := s0 3 _ 4 25 2 rfl rfl rfl (by kernel_rfl)
  replace g7 : DataW.trod enc Tryd.prog w base spare held m0 25 [c4, c5] = some _ := g7
  obtain ⟨l8, m8, s8⟩ := sub_at Tryd.underlying25 g7
  obtain ⟨_, g9⟩ := s8 0 _ 0 23 1 rfl rfl rfl (by kernel_rfl)
  replace g9 : DataW.trod enc Tryd.prog w base spare held m8 23 [c4] = some _ := g9
  obtain ⟨v4, e4, _, w4⟩ := DataW.trod_int Tryd.underlying23 g9
  have b4 := bounds_u32 w4
  obtain rfl := (List.cons.inj e4).1
  obtain ⟨_, g10⟩ := s8 1 _ 1 3 1 rfl rfl rfl (by kernel_rfl)
  replace g10 : DataW.trod enc Tryd.prog w base spare held m8 3 [c5] = some _ := g10
  obtain ⟨v5, e5, _, w5⟩ := DataW.trod_int Tryd.underlying3 g10
  have b5 := bounds_i64 w5
  obtain rfl := (List.cons.inj e5).1
  obtain ⟨_, g11⟩ := s0 4 _ 6 41 2 rfl rfl rfl (by kernel_rfl)
  replace g11 : DataW.trod enc Tryd.prog w base spare held m0 41 [c6, c7] = some _ := g11
  obtain ⟨l12, m12, s12⟩ := sub_at Tryd.underlying41 g11
  obtain ⟨_, g13⟩ := s12 0 _ 0 22 1 rfl rfl rfl (by kernel_rfl)
  replace g13 : DataW.trod enc Tryd.prog w base spare held m12 22 [c6] = some _ := g13
  obtain ⟨v6, e6, _, w6⟩ := DataW.trod_int Tryd.underlying22 g13
  have b6 := bounds_u32 w6
  obtain rfl := (List.cons.inj e6).1
  obtain ⟨_, g14⟩ := s12 1 _ 1 22 1 rfl rfl rfl (by kernel_rfl)
  replace g14 : DataW.trod enc Tryd.prog w base spare held m12 22 [c7] = some _ := g14
  obtain ⟨v7, e7, _, w7⟩ := DataW.trod_int Tryd.underlying22 g14
  have b7 := bounds_u32 w7
  obtain rfl := (List.cons.inj e7).1
  obtain ⟨_, g15⟩ := s0 5 _ 8 41 2 rfl rfl rfl (by kernel_rfl)
  replace g15 : DataW.trod enc Tryd.prog w base spare held m0 41 [c8, c9] = some _ := g15
  obtain ⟨l16, m16, s16⟩ := sub_at Tryd.underlying41 g15
  obtain ⟨_, g17⟩ := s16 0 _ 0 22 1 rfl rfl rfl (by kernel_rfl)
  replace g17 : DataW.trod enc Tryd.prog w base spare held m16 22 [c8] = some _ := g17
  obtain ⟨v8, e8, _, w8⟩ := DataW.trod_int Tryd.underlying22 g17
  have b8 := bounds_u32 w8
  obtain rfl := (List.cons.inj e8).1
  obtain ⟨_, g18⟩ := s16 1 _ 1 22 1 rfl rfl rfl (by kernel_rfl)
  replace g18 : DataW.trod enc Tryd.prog w base spare held m16 22 [c9] = some _ := g18
  obtain ⟨v9, e9, _, w9⟩ := DataW.trod_int Tryd.underlying22 g18
  have b9 := bounds_u32 w9
  obtain rfl := (List.cons.inj e9).1
  exact ⟨⟨v0, v1, v2, v3, v4, v5, v6, v7, v8, v9, by omega, ⟨by omega, by omega⟩, ⟨by omega, by omega⟩, ⟨by omega, by omega⟩, ⟨by omega, by omega⟩, ⟨by omega, by omega⟩, ⟨by omega, by omega⟩⟩, rfl⟩


end Go.Proofs.YtmgeknghgngliaaDoor

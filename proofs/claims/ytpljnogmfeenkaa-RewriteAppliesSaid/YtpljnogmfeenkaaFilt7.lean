/-
  Walks over the filter's layer: Permits, the rules held against each other, the law's own probe (written by wip/gen/genfilt7.py).
-/
import Derived.Test.YtpljnogmfeenkaaFilt6
import Derived.Laws.StructEq
namespace Go.Proofs.Ytpljnogmfeenkaa
open Go Go.RowKit Go.Sort

/-- What rule i says; false of none. -/
def permAt (L : List RuleV) (i : Int) : Bool := if 0 ≤ i then (L[i.toNat]?.map (·.permit)).getD false else false
def permN (L : List RuleV) (h : HeaderV) : Bool := permAt L (decN L h)
def permB (L : List RuleV) (h : HeaderV) : Bool := if filtE L = 0 then permN L h else false
theorem permB_ok {L : List RuleV} (h : HeaderV) (h1 : filtE L = 0) : permB L h = permN L h := if_pos h1
theorem permB_no {L : List RuleV} (h : HeaderV) (h1 : ¬ filtE L = 0) : permB L h = false := if_neg h1
theorem permN_miss {L : List RuleV} {h : HeaderV} (h2 : decN L h = -1) : permN L h = false := by unfold permN permAt; rw [h2, if_neg (by omega)]
theorem permN_hit {L : List RuleV} {h : HeaderV} {k : Nat} {r : RuleV} (h2 : decN L h = k) (h3 : L[k]? = some r) : permN L h = r.permit := by
  unfold permN permAt
  rw [h2, if_pos (by omega), Int.toNat_natCast, h3]; rfl

set_option maxHeartbeats 1000000 in
theorem permits_any (nm : ByteArray) (L : List RuleV) (v : Value) (h : HeaderV) (w : World) (hr : Rd w w.heap.size 10 v L.length (rcells L)) :
    Calls Try.prog 21 #[.agg #[.string nm, v], .agg #[.int .u32 h.src, .int .u32 h.dst, .int .u8 h.proto, .int .u16 h.sp, .int .u16 h.dp]] w fun e w' => e = .returned (.tuple #[.bool (permB L h), .int .i64 (filtE L)]) ∧ Below w.heap.size w w' := by
  have hW : Below w.heap.size w ((w.alloc (.cells #[.string nm, v] 34)).alloc (.cells #[.int .u32 h.src, .int .u32 h.dst, .int .u8 h.proto, .int .u16 h.sp, .int .u16 h.dp] 45)) := below2 w _ _
  have h' := (hr.below hW).mono hW.size
  have hcon := decides_any nm L v h _ h'
  by_cases h1 : filtE L = 0
  · rw [decR_ok h h1, h1] at hcon
    rw [permB_ok h h1, h1]
    rcases idxP_cases (fun r => fitsB r h) L with ⟨hD, _⟩ | ⟨k, r, hD, hk, _, _⟩
    · have hD' : decN L h = -1 := hD
      rw [hD'] at hcon
      rw [permN_miss hD']
      obtain ⟨A, c, rfl, hc⟩ := hr.form
      have hcon := Lib.hid hcon
      clear hr h' h1 hD hD'
      go_enter Try.func21, Try.ntmps21
      go_wp2_with fail
      refine hcon.out.mono ?_
      rintro e w1 ⟨rfl, hb⟩
      have hbw := below_call hW hb
      go_wp2
      go_ret2
      exact ⟨rfl, hbw⟩
    · have hD' : decN L h = k := hD
      have hlt := (List.getElem?_eq_some_iff.1 hk).1
      rw [hD'] at hcon
      rw [permN_hit hD' hk]
      obtain ⟨b, off, c, rfl, hc, hbB, hcell⟩ := hr.posAt (by omega)
      have e0 := hW.cell (p := ⟨b, off + k * 10 + 0, none⟩) hbB
      rw [hcell k 0 _ (rcell hk (v := .bool r.permit) rfl)] at e0
      have hbl : b < ((w.alloc (.cells #[.string nm, .slice (some ⟨b, off, none⟩) L.length c] 34)).alloc (.cells #[.int .u32 h.src, .int .u32 h.dst, .int .u8 h.proto, .int .u16 h.sp, .int .u16 h.dp] 45)).heap.size := by have := hW.size; omega
      have hkl : (k : Int) < (L.length : Int) := by omega
      have E0 := Lib.hid e0
      have HBL := Lib.hid hbl
      have hcon := Lib.hid hcon
      clear hr h' h1 hD hD' hcell e0 hbl hk
      go_enter Try.func21, Try.ntmps21
      go_wp2_with fail
      refine hcon.out.mono ?_
      rintro e w1 ⟨rfl, hb⟩
      have hbw := below_call hW hb
      have J0 := blk_below hb (blk2 w _ _).1
      obtain ⟨ca, cb, _, _⟩ := two_cells J0
      have c0 : w1.cell? ⟨b, off + k * 10, none⟩ = some (.bool r.permit) := (hb.cell (p := ⟨b, off + k * 10, none⟩) HBL.out).trans E0.out
      go_wp2
      go_ret2
      exact ⟨rfl, hbw⟩
  · have hd : (filtE L == 0) = false := by simp [h1]
    rw [decR_no h h1] at hcon
    rw [permB_no h h1]
    obtain ⟨A, c, rfl, hc⟩ := hr.form
    have hcon := Lib.hid hcon
    clear hr h' h1
    go_enter Try.func21, Try.ntmps21
    go_wp2_with fail
    refine hcon.out.mono ?_
    rintro e w1 ⟨rfl, hb⟩
    have hbw := below_call hW hb
    go_wp2
    go_ret2
    exact ⟨rfl, hbw⟩

set_option maxHeartbeats 1000000 in
theorem refPermits_any (nm : ByteArray) (L : List RuleV) (v : Value) (h : HeaderV) (w : World) (hr : Rd w w.heap.size 10 v L.length (rcells L)) (hlen : L.length ≤ 4294967296) :
    Calls Try.prog 25 #[.agg #[.string nm, v], .agg #[.int .u32 h.src, .int .u32 h.dst, .int .u8 h.proto, .int .u16 h.sp, .int .u16 h.dp]] w fun e w' => e = .returned (.bool (permN L h)) ∧ Below w.heap.size w w' := by
  have hW : Below w.heap.size w ((w.alloc (.cells #[.string nm, v] 34)).alloc (.cells #[.int .u32 h.src, .int .u32 h.dst, .int .u8 h.proto, .int .u16 h.sp, .int .u16 h.dp] 45)) := below2 w _ _
  have h' := (hr.below hW).mono hW.size
  have hcon := refDecides_any nm L v h _ h' hlen
  rcases idxP_cases (fun r => fitsB r h) L with ⟨hD, _⟩ | ⟨k, r, hD, hk, _, _⟩
  · have hD' : decN L h = -1 := hD
    rw [hD'] at hcon
    rw [permN_miss hD']
    obtain ⟨A, c, rfl, hc⟩ := hr.form
    have hcon := Lib.hid hcon
    clear hr h' hD hD'
    go_enter Try.func25, Try.ntmps25
    go_wp2_with fail
    refine hcon.out.mono ?_
    rintro e w1 ⟨rfl, hb⟩
    have hbw := below_call hW hb
    go_wp2
    go_ret
    exact ⟨rfl, hbw⟩
  · have hD' : decN L h = k := hD
    have hlt := (List.getElem?_eq_some_iff.1 hk).1
    rw [hD'] at hcon
    rw [permN_hit hD' hk]
    obtain ⟨b, off, c, rfl, hc, hbB, hcell⟩ := hr.posAt (by omega)
    have e0 := hW.cell (p := ⟨b, off + k * 10 + 0, none⟩) hbB
    rw [hcell k 0 _ (rcell hk (v := .bool r.permit) rfl)] at e0
    have hbl : b < ((w.alloc (.cells #[.string nm, .slice (some ⟨b, off, none⟩) L.length c] 34)).alloc (.cells #[.int .u32 h.src, .int .u32 h.dst, .int .u8 h.proto, .int .u16 h.sp, .int .u16 h.dp] 45)).heap.size := by have := hW.size; omega
    have hkl : (k : Int) < (L.length : Int) := by omega
    have E0 := Lib.hid e0
    have HBL := Lib.hid hbl
    have hcon := Lib.hid hcon
    clear hr h' hD hD' hcell e0 hbl hk
    go_enter Try.func25, Try.ntmps25
    go_wp2_with fail
    refine hcon.out.mono ?_
    rintro e w1 ⟨rfl, hb⟩
    have hbw := below_call hW hb
    have J0 := blk_below hb (blk2 w _ _).1
    obtain ⟨ca, cb, _, _⟩ := two_cells J0
    have c0 : w1.cell? ⟨b, off + k * 10, none⟩ = some (.bool r.permit) := (hb.cell (p := ⟨b, off + k * 10, none⟩) HBL.out).trans E0.out
    go_wp2
    go_ret
    exact ⟨rfl, hbw⟩

theorem eqPref (a n : Int) (d : Nat) (w : World) : (Op.equalIn (d + 1 + 1) 30 (.agg #[.int .u32 a, .int .i64 n]) (.agg #[.int .u32 a, .int .i64 n])).run Try.prog w = .ok true w := by
  have hS : Try.prog.underlying 30 = some (.struct (Try.prog.fieldsOf 30)) := by kernel_rfl
  have hp : Try.prog.stoodInHeld 30 = false := by kernel_rfl
  have a1 := Try.underlying23
  have a2 := Try.isAgg23
  have a3 := Try.sizeOf23
  have b1 := Try.underlying3
  have b2 := Try.isAgg3
  have b3 := Try.sizeOf3
  rw [run_equalIn_agg w (d + 1) 30 _ _ hS hp]
  simp only [Program.fieldsOf, Try.underlying30]
  go_simp
theorem eqSpan (a n : Int) (d : Nat) (w : World) : (Op.equalIn (d + 1 + 1) 37 (.agg #[.int .u32 a, .int .u32 n]) (.agg #[.int .u32 a, .int .u32 n])).run Try.prog w = .ok true w := by
  have hS : Try.prog.underlying 37 = some (.struct (Try.prog.fieldsOf 37)) := by kernel_rfl
  have hp : Try.prog.stoodInHeld 37 = false := by kernel_rfl
  have a1 := Try.underlying22
  have a2 := Try.isAgg22
  have a3 := Try.sizeOf22
  rw [run_equalIn_agg w (d + 1) 37 _ _ hS hp]
  simp only [Program.fieldsOf, Try.underlying37]
  go_simp
/-- '!=' says false of a rule and itself. -/
@[go_sem] theorem neqRule (r : RuleV) (w : World) : (binOp .neq 39 (.agg #[.bool r.permit, .int .i64 r.proto, .int .u32 r.sa, .int .i64 r.sn, .int .u32 r.da, .int .i64 r.dn, .int .u32 r.sl, .int .u32 r.sh, .int .u32 r.dl, .int .u32 r.dh]) (.agg #[.bool r.permit, .int .i64 r.proto, .int .u32 r.sa, .int .i64 r.sn, .int .u32 r.da, .int .i64 r.dn, .int .u32 r.sl, .int .u32 r.sh, .int .u32 r.dl, .int .u32 r.dh])).run Try.prog w = .ok (.bool false) w := by
  have hS : Try.prog.underlying 39 = some (.struct (Try.prog.fieldsOf 39)) := by kernel_rfl
  have hp : Try.prog.stoodInHeld 39 = false := by kernel_rfl
  have b1 := Try.underlying3
  have b2 := Try.isAgg3
  have b3 := Try.sizeOf3
  have c1 := Try.underlying4
  have c2 := Try.isAgg4
  have c3 := Try.sizeOf4
  have d2 := Try.isAgg30
  have d3 := Try.sizeOf30
  have e2 := Try.isAgg37
  have e3 := Try.sizeOf37
  rw [run_neq_struct, show (10000 : Nat) = 9997 + 1 + 1 + 1 from rfl, run_equalIn_agg w (9997 + 1 + 1) 39 _ _ hS hp]
  generalize 9997 = d
  have E1 := fun a n w => eqPref a n d w
  have E2 := fun a n w => eqSpan a n d w
  simp only [Program.fieldsOf, Try.underlying39]
  go_simp

end Go.Proofs.Ytpljnogmfeenkaa

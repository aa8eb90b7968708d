/-
  Joined texts: Rt3, Rt7.
-/
import Derived.Test.YtpmoepipoafegaaGreatDoorMRoutesTexts7
import Derived.Test.YtpmoepipoafegaaGreatDoorMRoutesTexts10
import Derived.Test.YtpmoepipoafegaaGreatDoorMRoutesTexts9
/-
  The walk of routes.AdvertText (written by wip/gen/genrt3.py).
-/
namespace Go.Proofs.YtpmoepipoafegaaGreatDoor
open Go Go.RowKit Go.Lib Go.Sort

def AvV.told (r : AvV) : List UInt8 := if r.ok then r.text else []
def AvV.toldE (r : AvV) : Int := if r.ok then 0 else 1
theorem av_told_yes {r : AvV} (h : r.ok = true) : r.told = r.text ∧ r.toldE = 0 := by unfold AvV.told AvV.toldE; rw [if_pos h, if_pos h]; exact ⟨rfl, rfl⟩
theorem av_told_no {r : AvV} (h : r.ok = false) : r.told = [] ∧ r.toldE = 1 := by unfold AvV.told AvV.toldE; rw [h]; exact ⟨rfl, rfl⟩
theorem av_ok_iff {r : AvV} : r.ok = true ↔ (chk r.a r.m = 0 ∧ (fineB r.pf = true ∧ fineB r.me = true) ∧ (r.ss = -1 ∨ fineB r.ss = true)) := by
  simp only [AvV.ok, Bool.and_eq_true, decide_eq_true_eq, Bool.or_eq_true, and_assoc]
theorem av_ok_no {r : AvV} (h : ¬ (chk r.a r.m = 0 ∧ (fineB r.pf = true ∧ fineB r.me = true) ∧ (r.ss = -1 ∨ fineB r.ss = true))) : r.ok = false := by
  cases e : r.ok with
  | false => rfl
  | true => exact absurd (av_ok_iff.1 e) h
theorem blk13 {w : World} {g : Nat} {v0 v1 v2 v3 v4 v5 v6 v7 v8 v9 v10 v11 v12 : Value} {t : TypeId} (h : w.heap[g]? = some (.cells #[v0, v1, v2, v3, v4, v5, v6, v7, v8, v9, v10, v11, v12] t (0, 0))) : w.cell? ⟨g, 0, none⟩ = some v0 ∧ w.cell? ⟨g, 1, none⟩ = some v1 ∧ w.cell? ⟨g, 2, none⟩ = some v2 ∧ w.cell? ⟨g, 3, none⟩ = some v3 ∧ w.cell? ⟨g, 4, none⟩ = some v4 ∧ w.cell? ⟨g, 5, none⟩ = some v5 ∧ w.cell? ⟨g, 6, none⟩ = some v6 ∧ w.cell? ⟨g, 7, none⟩ = some v7 ∧ w.cell? ⟨g, 8, none⟩ = some v8 ∧ w.cell? ⟨g, 9, none⟩ = some v9 ∧ w.cell? ⟨g, 10, none⟩ = some v10 ∧ w.cell? ⟨g, 11, none⟩ = some v11 ∧ w.cell? ⟨g, 12, none⟩ = some v12 :=
  ⟨cell_of_row w g 0 _ t (0, 0) h, cell_of_row w g 1 _ t (0, 0) h, cell_of_row w g 2 _ t (0, 0) h, cell_of_row w g 3 _ t (0, 0) h, cell_of_row w g 4 _ t (0, 0) h, cell_of_row w g 5 _ t (0, 0) h, cell_of_row w g 6 _ t (0, 0) h, cell_of_row w g 7 _ t (0, 0) h, cell_of_row w g 8 _ t (0, 0) h, cell_of_row w g 9 _ t (0, 0) h, cell_of_row w g 10 _ t (0, 0) h, cell_of_row w g 11 _ t (0, 0) h, cell_of_row w g 12 _ t (0, 0) h⟩
theorem sideW_any (b : Bool) (w : World) : Calls Tryz.prog 30 #[.bool b] w fun e w' => e = .returned (.string ⟨(sideT b).toArray⟩) ∧ Below w.heap.size w w' := by
  refine (side_any b w).mono ?_
  rintro e w1 ⟨rfl, rfl⟩
  refine ⟨?_, Below.refl _ _⟩
  cases b <;> rfl
theorem itoaS_any (n : Int) (h : n = -1 ∨ (0 ≤ n ∧ n ≤ 2147483647)) (w : World) (hE : Env w) :
    Calls Tryz.prog 20 #[.int .i64 n] w fun e w' => e = .returned (.string ⟨(sessT n).toArray⟩) ∧ Below w.heap.size w w' := by
  by_cases h1 : n = -1
  · subst h1
    refine (Tryz.strconv_Itoa (-1) (by omega) (by omega) w hE.tab).mono ?_
    rintro e w2 ⟨rfl, h⟩
    refine ⟨?_, below_of_grow h⟩
    have e : Lib.itoa (-1) = sessT (-1) := by
      have := Lib.itoa_neg 1 (by omega)
      rw [show (-1 : Int) = -((1 : Nat) : Int) from rfl, this, decDigits_small (by omega)]
      decide
    rw [e]
  · have h2 : 0 ≤ n ∧ n ≤ 2147483647 := h.resolve_left h1
    have e : sessT n = Lib.decDigits n.toNat := by unfold sessT; rw [if_neg h1]
    rw [e]
    exact itoaN_any n h2.1 (by omega) w hE
def decB (n : Int) : ByteArray := ⟨(Lib.decDigits n.toNat).toArray⟩
def adrB (n : Int) : ByteArray := textA n.toNat
theorem fmtB_any (n : Int) (h0 : 0 ≤ n) (h1 : n < 4294967296) (w : World) (hE : Env w) :
    Calls Tryz.prog 31 #[.int .u64 n, .int .i64 10] w fun e w' => e = .returned (.string (decB n)) ∧ Below w.heap.size w w' := fmtInt_any n h0 h1 w hE
theorem adrB_any (a : Int) (h0 : 0 ≤ a) (h1 : a < 4294967296) (w : World) (hE : Env w) :
    Calls Tryz.prog 21 #[.int .u32 a] w fun e w' => e = .returned (.string (adrB a)) ∧ Below w.heap.size w w' := addrTextI_any a ⟨h0, h1⟩ w hE
theorem sum_le {l : List (List UInt8)} {k : Nat} (h : ∀ x ∈ l, x.length ≤ k) : (l.map List.length).sum ≤ k * l.length := by
  induction l with
  | nil => simp
  | cons x r ih =>
    have h1 := h x (by simp)
    have h2 := ih (fun y hy => h y (List.mem_cons_of_mem _ hy))
    simp only [List.map_cons, List.sum_cons, List.length_cons, Nat.mul_add]
    omega
theorem dec_le {n : Int} (h : n < 4294967296) : (Lib.decDigits n.toNat).length ≤ 10 := dec32 (by omega)
theorem adr_le (n : Int) : (addrT n).length ≤ 15 := by
  have e : (textA n.toNat).data.toList.length = (textA n.toNat).size := Array.length_toList
  have := textA_size n.toNat
  unfold addrT
  omega
theorem av_text_len {r : AvV} (hlen : r.pa.length + r.co.length + r.cl.length ≤ 10000) (h : r.ok = true) : r.text.length ≤ 1000000 := by
  obtain ⟨h1, h2, h3, h4⟩ := av_ok h
  have kc := chk_ok h1
  have a0 := prefT_len (a := r.a) kc.1 kc.2.1
  have hall : ∀ x ∈ r.words, x.length ≤ 26 := by
    intro x hx
    simp only [AvV.words, AvV.head, AvV.tail, List.mem_append, List.mem_cons, List.not_mem_nil, or_false, List.mem_map] at hx
    have d1 := dec_le (n := r.pf) (by omega)
    have d2 := dec_le (n := r.me) (by omega)
    have d3 : (sessT r.ss).length ≤ 10 := by
      unfold sessT
      split
      · decide
      · exact dec_le (by omega)
    have d4 : (sideT r.ex).length ≤ 8 := by cases r.ex <;> decide
    have e1 := adr_le r.ho
    have e2 := adr_le r.pe
    have e3 := adr_le r.id
    have e4 := adr_le r.og
    rcases hx with (rfl | rfl | rfl | rfl | rfl | rfl | rfl | rfl | rfl | rfl | rfl | rfl | rfl | rfl | rfl | rfl | rfl) | ⟨n, hn, rfl⟩ | rfl | ⟨n, hn, rfl⟩ | rfl | ⟨n, hn, rfl⟩
    all_goals first
      | omega
      | (unfold decT; omega)
      | decide
      | (have := r.hpa n hn; have h9 := dec_le (n := n) (by omega); unfold decT; omega)
      | (have := r.hco n hn; have h9 := dec_le (n := n) (by omega); unfold decT; omega)
      | (have h9 := adr_le n; omega)
  have hs := sum_le hall
  have hl : r.words.length = 17 + (r.pa.length + (r.co.length + r.cl.length + 1) + 1) := by
    simp only [AvV.words, AvV.head, AvV.tail, List.length_append, List.length_cons, List.length_nil, List.length_map]
    omega
  unfold AvV.text
  rw [← joinC_join32]
  have := joinB32_len r.words
  omega
def avObj (r : AvV) (vp vo vl : Value) : Obj := .cells #[.int .u32 r.a, .int .i64 r.m, .int .u32 r.ho, .int .i64 r.pf, .int .i64 r.me, vp, vo, .int .u32 r.pe, .int .u32 r.id, .bool r.ex, .int .u32 r.og, vl, .int .i64 r.ss] 31
set_option maxRecDepth 100000 in
set_option maxHeartbeats 40000000 in
theorem avText_any (r : AvV) (vp vo vl : Value) (w : World) (hE : Env w) (hp : Rd w w.heap.size 1 vp r.pa.length (r.pa.map (Value.int .u32))) (ho : Rd w w.heap.size 1 vo r.co.length (r.co.map (Value.int .u32))) (hl : Rd w w.heap.size 1 vl r.cl.length (r.cl.map (Value.int .u32))) (hlen : r.pa.length + r.co.length + r.cl.length ≤ 10000) :
    Calls Tryz.prog 8 #[.agg #[.int .u32 r.a, .int .i64 r.m, .int .u32 r.ho, .int .i64 r.pf, .int .i64 r.me, vp, vo, .int .u32 r.pe, .int .u32 r.id, .bool r.ex, .int .u32 r.og, vl, .int .i64 r.ss]] w fun e w' => e = .returned (.tuple #[.string ⟨r.told.toArray⟩, .int .i64 r.toldE]) ∧ Below w.heap.size w w' := by
  have hk0 := heap_alloc_new w (avObj r vp vo vl)
  have hb0 := below1 w (avObj r vp vo vl)
  have hW : w.alloc (.cells #[.int .u32 r.a, .int .i64 r.m, .int .u32 r.ho, .int .i64 r.pf, .int .i64 r.me, vp, vo, .int .u32 r.pe, .int .u32 r.id, .bool r.ex, .int .u32 r.og, vl, .int .i64 r.ss] 31) = w.alloc (avObj r vp vo vl) := rfl
  have hE0 := hE.below hb0
  obtain ⟨c0, c1, c2, c3, c4, c5, c6, c7, c8, c9, c10, c11, c12⟩ := blk13 (t := 31) (show (w.alloc (avObj r vp vo vl)).heap[w.heap.size]? = some (.cells #[.int .u32 r.a, .int .i64 r.m, .int .u32 r.ho, .int .i64 r.pf, .int .i64 r.me, vp, vo, .int .u32 r.pe, .int .u32 r.id, .bool r.ex, .int .u32 r.og, vl, .int .i64 r.ss] 31 (0, 0)) from hk0)
  have HP := Lib.hid hp
  have HO := Lib.hid ho
  have HL := Lib.hid hl
  clear hp ho hl
  go_enter Tryz.func8, Tryz.ntmps8
  go_upto_region 1 with fail
  try rw [hW]
  generalize w.alloc (avObj r vp vo vl) = W at *
  clear hW
  go_cut [35] (fun sc wx => sc = .bool (!r.ok) ∧ Below W.heap.size W wx)
  case first =>
    by_cases q0 : chk r.a r.m = 0
    · by_cases q1 : (fineB r.pf = true ∧ fineB r.me = true)
      · by_cases q2 : r.ss = -1
        · have d0 : (chk r.a r.m != 0) = false := by simpa using q0
          have KC := Lib.hid (fun V (hv : Below W.heap.size W V) => addrCheck_any r.a r.m V r.ha.1 r.ha.2)
          have hfaKF : [r.pf, r.me].all fineB = true := by simpa using q1
          have KF := Lib.hid (fun V (hv : Below W.heap.size W V) g (hg : V.heap[g]? = some (.cells #[.int .i64 r.pf, .int .i64 r.me] 3 (0, 0))) => (hfaKF ▸ fine_any [r.pf, r.me] _ V (Rd.of_blk (cs := #[.int .i64 r.pf, .int .i64 r.me]) (t := 3) hg (Nat.le_refl _) rfl) (by simp) : Calls Tryz.prog 17 #[.slice (some ⟨g, 0, none⟩) 2 2] V fun e V' => e = .returned (.bool true) ∧ Below V.heap.size V V'))
          have d2 : (r.ss != -1) = false := by simpa using q2
          have hok := Lib.hid (show r.ok = true from av_ok_iff.2 ⟨q0, q1, Or.inl q2⟩)
          try clear q2
          have hv0 := Below.refl W.heap.size W
          have C0 := Lib.hid c0
          have C1 := Lib.hid c1
          have C3 := Lib.hid c3
          have C4 := Lib.hid c4
          have C12 := Lib.hid c12
          go_wp2_with fail
          refine (KC.out W hv0).mono ?_
          rintro e V1 ⟨rfl, hb⟩
          have hv1 := below_call hv0 hb
          clear hb
          clear c0 c1 c2 c3 c4 c5 c6 c7 c8 c9 c10 c11 c12
          have a0 := cell_kept hv1 C0.out
          have a1 := cell_kept hv1 C1.out
          have a3 := cell_kept hv1 C3.out
          have a4 := cell_kept hv1 C4.out
          have a12 := cell_kept hv1 C12.out
          go_wp2_with fail
          have hg := heap_alloc_new V1 (.cells #[.int .i64 r.pf, .int .i64 r.me] 3)
          have hva := hv1.alloc hv1.size (.cells #[.int .i64 r.pf, .int .i64 r.me] 3)
          refine (KF.out _ hva _ hg).mono ?_
          rintro e V2 ⟨rfl, hb⟩
          have hv2 := below_call hva hb
          clear hb
          clear a0 a1 a3 a4 a12
          have a0 := cell_kept hv2 C0.out
          have a1 := cell_kept hv2 C1.out
          have a3 := cell_kept hv2 C3.out
          have a4 := cell_kept hv2 C4.out
          have a12 := cell_kept hv2 C12.out
          go_wp2_with fail
          go_meet
          exact ⟨by rw [hok.out]; rfl, hv2⟩
        · cases q3 : fineB r.ss with
          | false =>
            have d0 : (chk r.a r.m != 0) = false := by simpa using q0
            have KC := Lib.hid (fun V (hv : Below W.heap.size W V) => addrCheck_any r.a r.m V r.ha.1 r.ha.2)
            have hfaKF : [r.pf, r.me].all fineB = true := by simpa using q1
            have KF := Lib.hid (fun V (hv : Below W.heap.size W V) g (hg : V.heap[g]? = some (.cells #[.int .i64 r.pf, .int .i64 r.me] 3 (0, 0))) => (hfaKF ▸ fine_any [r.pf, r.me] _ V (Rd.of_blk (cs := #[.int .i64 r.pf, .int .i64 r.me]) (t := 3) hg (Nat.le_refl _) rfl) (by simp) : Calls Tryz.prog 17 #[.slice (some ⟨g, 0, none⟩) 2 2] V fun e V' => e = .returned (.bool true) ∧ Below V.heap.size V V'))
            have d2 : (r.ss != -1) = true := by simpa using q2
            have hfaKG : [r.ss].all fineB = false := by simpa using q3
            have KG := Lib.hid (fun V (hv : Below W.heap.size W V) g (hg : V.heap[g]? = some (.cells #[.int .i64 r.ss] 3 (0, 0))) => (hfaKG ▸ fine_any [r.ss] _ V (Rd.of_blk (cs := #[.int .i64 r.ss]) (t := 3) hg (Nat.le_refl _) rfl) (by simp) : Calls Tryz.prog 17 #[.slice (some ⟨g, 0, none⟩) 1 1] V fun e V' => e = .returned (.bool false) ∧ Below V.heap.size V V'))
            have hok := Lib.hid (show r.ok = false from av_ok_no (fun h => by rcases h.2.2 with h2 | h2; exact q2 h2; rw [q3] at h2; cases h2))
            try clear q2
            have hv0 := Below.refl W.heap.size W
            have C0 := Lib.hid c0
            have C1 := Lib.hid c1
            have C3 := Lib.hid c3
            have C4 := Lib.hid c4
            have C12 := Lib.hid c12
            go_wp2_with fail
            refine (KC.out W hv0).mono ?_
            rintro e V1 ⟨rfl, hb⟩
            have hv1 := below_call hv0 hb
            clear hb
            clear c0 c1 c2 c3 c4 c5 c6 c7 c8 c9 c10 c11 c12
            have a0 := cell_kept hv1 C0.out
            have a1 := cell_kept hv1 C1.out
            have a3 := cell_kept hv1 C3.out
            have a4 := cell_kept hv1 C4.out
            have a12 := cell_kept hv1 C12.out
            go_wp2_with fail
            have hg := heap_alloc_new V1 (.cells #[.int .i64 r.pf, .int .i64 r.me] 3)
            have hva := hv1.alloc hv1.size (.cells #[.int .i64 r.pf, .int .i64 r.me] 3)
            refine (KF.out _ hva _ hg).mono ?_
            rintro e V2 ⟨rfl, hb⟩
            have hv2 := below_call hva hb
            clear hb
            clear a0 a1 a3 a4 a12
            have a0 := cell_kept hv2 C0.out
            have a1 := cell_kept hv2 C1.out
            have a3 := cell_kept hv2 C3.out
            have a4 := cell_kept hv2 C4.out
            have a12 := cell_kept hv2 C12.out
            go_wp2_with fail
            have hg1 := heap_alloc_new V2 (.cells #[.int .i64 r.ss] 3)
            have hvb := hv2.alloc hv2.size (.cells #[.int .i64 r.ss] 3)
            refine (KG.out _ hvb _ hg1).mono ?_
            rintro e V3 ⟨rfl, hb⟩
            have hv3 := below_call hvb hb
            clear hb
            clear a0 a1 a3 a4 a12
            have a0 := cell_kept hv3 C0.out
            have a1 := cell_kept hv3 C1.out
            have a3 := cell_kept hv3 C3.out
            have a4 := cell_kept hv3 C4.out
            have a12 := cell_kept hv3 C12.out
            go_wp2_with fail
            go_meet
            exact ⟨by rw [hok.out]; rfl, hv3⟩
          | true =>
            have d0 : (chk r.a r.m != 0) = false := by simpa using q0
            have KC := Lib.hid (fun V (hv : Below W.heap.size W V) => addrCheck_any r.a r.m V r.ha.1 r.ha.2)
            have hfaKF : [r.pf, r.me].all fineB = true := by simpa using q1
            have KF := Lib.hid (fun V (hv : Below W.heap.size W V) g (hg : V.heap[g]? = some (.cells #[.int .i64 r.pf, .int .i64 r.me] 3 (0, 0))) => (hfaKF ▸ fine_any [r.pf, r.me] _ V (Rd.of_blk (cs := #[.int .i64 r.pf, .int .i64 r.me]) (t := 3) hg (Nat.le_refl _) rfl) (by simp) : Calls Tryz.prog 17 #[.slice (some ⟨g, 0, none⟩) 2 2] V fun e V' => e = .returned (.bool true) ∧ Below V.heap.size V V'))
            have d2 : (r.ss != -1) = true := by simpa using q2
            have hfaKG : [r.ss].all fineB = true := by simpa using q3
            have KG := Lib.hid (fun V (hv : Below W.heap.size W V) g (hg : V.heap[g]? = some (.cells #[.int .i64 r.ss] 3 (0, 0))) => (hfaKG ▸ fine_any [r.ss] _ V (Rd.of_blk (cs := #[.int .i64 r.ss]) (t := 3) hg (Nat.le_refl _) rfl) (by simp) : Calls Tryz.prog 17 #[.slice (some ⟨g, 0, none⟩) 1 1] V fun e V' => e = .returned (.bool true) ∧ Below V.heap.size V V'))
            have hok := Lib.hid (show r.ok = true from av_ok_iff.2 ⟨q0, q1, Or.inr q3⟩)
            try clear q2
            have hv0 := Below.refl W.heap.size W
            have C0 := Lib.hid c0
            have C1 := Lib.hid c1
            have C3 := Lib.hid c3
            have C4 := Lib.hid c4
            have C12 := Lib.hid c12
            go_wp2_with fail
            refine (KC.out W hv0).mono ?_
            rintro e V1 ⟨rfl, hb⟩
            have hv1 := below_call hv0 hb
            clear hb
            clear c0 c1 c2 c3 c4 c5 c6 c7 c8 c9 c10 c11 c12
            have a0 := cell_kept hv1 C0.out
            have a1 := cell_kept hv1 C1.out
            have a3 := cell_kept hv1 C3.out
            have a4 := cell_kept hv1 C4.out
            have a12 := cell_kept hv1 C12.out
            go_wp2_with fail
            have hg := heap_alloc_new V1 (.cells #[.int .i64 r.pf, .int .i64 r.me] 3)
            have hva := hv1.alloc hv1.size (.cells #[.int .i64 r.pf, .int .i64 r.me] 3)
            refine (KF.out _ hva _ hg).mono ?_
            rintro e V2 ⟨rfl, hb⟩
            have hv2 := below_call hva hb
            clear hb
            clear a0 a1 a3 a4 a12
            have a0 := cell_kept hv2 C0.out
            have a1 := cell_kept hv2 C1.out
            have a3 := cell_kept hv2 C3.out
            have a4 := cell_kept hv2 C4.out
            have a12 := cell_kept hv2 C12.out
            go_wp2_with fail
            have hg1 := heap_alloc_new V2 (.cells #[.int .i64 r.ss] 3)
            have hvb := hv2.alloc hv2.size (.cells #[.int .i64 r.ss] 3)
            refine (KG.out _ hvb _ hg1).mono ?_
            rintro e V3 ⟨rfl, hb⟩
            have hv3 := below_call hvb hb
            clear hb
            clear a0 a1 a3 a4 a12
            have a0 := cell_kept hv3 C0.out
            have a1 := cell_kept hv3 C1.out
            have a3 := cell_kept hv3 C3.out
            have a4 := cell_kept hv3 C4.out
            have a12 := cell_kept hv3 C12.out
            go_wp2_with fail
            go_meet
            exact ⟨by rw [hok.out]; rfl, hv3⟩
      · have d0 : (chk r.a r.m != 0) = false := by simpa using q0
        have KC := Lib.hid (fun V (hv : Below W.heap.size W V) => addrCheck_any r.a r.m V r.ha.1 r.ha.2)
        have hfaKF : [r.pf, r.me].all fineB = false := by simpa using q1
        have KF := Lib.hid (fun V (hv : Below W.heap.size W V) g (hg : V.heap[g]? = some (.cells #[.int .i64 r.pf, .int .i64 r.me] 3 (0, 0))) => (hfaKF ▸ fine_any [r.pf, r.me] _ V (Rd.of_blk (cs := #[.int .i64 r.pf, .int .i64 r.me]) (t := 3) hg (Nat.le_refl _) rfl) (by simp) : Calls Tryz.prog 17 #[.slice (some ⟨g, 0, none⟩) 2 2] V fun e V' => e = .returned (.bool false) ∧ Below V.heap.size V V'))
        have hok := Lib.hid (show r.ok = false from av_ok_no (fun h => by have h2 := h.2.1; simp [h2] at q1))
        try clear q2
        have hv0 := Below.refl W.heap.size W
        have C0 := Lib.hid c0
        have C1 := Lib.hid c1
        have C3 := Lib.hid c3
        have C4 := Lib.hid c4
        have C12 := Lib.hid c12
        go_wp2_with fail
        refine (KC.out W hv0).mono ?_
        rintro e V1 ⟨rfl, hb⟩
        have hv1 := below_call hv0 hb
        clear hb
        clear c0 c1 c2 c3 c4 c5 c6 c7 c8 c9 c10 c11 c12
        have a0 := cell_kept hv1 C0.out
        have a1 := cell_kept hv1 C1.out
        have a3 := cell_kept hv1 C3.out
        have a4 := cell_kept hv1 C4.out
        have a12 := cell_kept hv1 C12.out
        go_wp2_with fail
        have hg := heap_alloc_new V1 (.cells #[.int .i64 r.pf, .int .i64 r.me] 3)
        have hva := hv1.alloc hv1.size (.cells #[.int .i64 r.pf, .int .i64 r.me] 3)
        refine (KF.out _ hva _ hg).mono ?_
        rintro e V2 ⟨rfl, hb⟩
        have hv2 := below_call hva hb
        clear hb
        clear a0 a1 a3 a4 a12
        have a0 := cell_kept hv2 C0.out
        have a1 := cell_kept hv2 C1.out
        have a3 := cell_kept hv2 C3.out
        have a4 := cell_kept hv2 C4.out
        have a12 := cell_kept hv2 C12.out
        go_wp2_with fail
        go_meet
        exact ⟨by rw [hok.out]; rfl, hv2⟩
    · have d0 : (chk r.a r.m != 0) = true := by simpa using q0
      have KC := Lib.hid (fun V (hv : Below W.heap.size W V) => addrCheck_any r.a r.m V r.ha.1 r.ha.2)
      have hok := Lib.hid (show r.ok = false from av_ok_no (fun h => q0 h.1))
      try clear q2
      have hv0 := Below.refl W.heap.size W
      have C0 := Lib.hid c0
      have C1 := Lib.hid c1
      have C3 := Lib.hid c3
      have C4 := Lib.hid c4
      have C12 := Lib.hid c12
      go_wp2_with fail
      refine (KC.out W hv0).mono ?_
      rintro e V1 ⟨rfl, hb⟩
      have hv1 := below_call hv0 hb
      clear hb
      clear c0 c1 c2 c3 c4 c5 c6 c7 c8 c9 c10 c11 c12
      have a0 := cell_kept hv1 C0.out
      have a1 := cell_kept hv1 C1.out
      have a3 := cell_kept hv1 C3.out
      have a4 := cell_kept hv1 C4.out
      have a12 := cell_kept hv1 C12.out
      go_wp2_with fail
      go_meet
      exact ⟨by rw [hok.out]; rfl, hv1⟩
  case rest =>
    obtain ⟨rfl, hbR⟩ := hcut
    rename World => wa
    have sz0 : w.heap.size < W.heap.size := lt_of_block hk0
    have hk : wa.heap[w.heap.size]? = some (avObj r vp vo vl) := (hbR.block _ sz0).trans hk0
    have hbw := hb0.trans (hbR.mono hb0.size)
    cases hok : r.ok with
    | false =>
      have ht := Lib.hid (av_told_no hok)
      clear hok hk0 c0 c1 c2 c3 c4 c5 c6 c7 c8 c9 c10 c11 c12
      go_wp2
      go_ret2
      exact ⟨by rw [ht.out.1, ht.out.2]; rfl, hbw⟩
    | true =>
      have ht := Lib.hid (av_told_yes hok)
      obtain ⟨k0, ⟨k3, k4⟩, k6⟩ := av_ok_iff.1 hok
      have kc := chk_ok k0
      have l3 := fine_iff.1 k3
      have l4 := fine_iff.1 k4
      have hss : r.ss = -1 ∨ (0 ≤ r.ss ∧ r.ss ≤ 2147483647) := k6.imp id (fun h => fine_iff.1 h)
      have hEc := hE.below hbw
      have HOK := Lib.hid hok
      clear c0 c1 c2 c3 c4 c5 c6 c7 c8 c9 c10 c11 c12 k3 k4 k6 hok
      obtain ⟨c0, c1, c2, c3, c4, c5, c6, c7, c8, c9, c10, c11, c12⟩ := blk13 (t := 31) (show wa.heap[w.heap.size]? = some (.cells #[.int .u32 r.a, .int .i64 r.m, .int .u32 r.ho, .int .i64 r.pf, .int .i64 r.me, vp, vo, .int .u32 r.pe, .int .u32 r.id, .bool r.ex, .int .u32 r.og, vl, .int .i64 r.ss] 31 (0, 0)) from hk)
      have KP := Lib.hid (fun V (hv : Below wa.heap.size wa V) => prefI_any r.a r.m r.ha r.hm.1 r.hm.2 V (hEc.below hv))
      have KH := Lib.hid (fun V (hv : Below wa.heap.size wa V) => addrTextI_any r.ho r.hho V (hEc.below hv))
      have KF := Lib.hid (fun V (hv : Below wa.heap.size wa V) => itoaN_any r.pf l3.1 (by omega) V (hEc.below hv))
      have KM := Lib.hid (fun V (hv : Below wa.heap.size wa V) => itoaN_any r.me l4.1 (by omega) V (hEc.below hv))
      have KE := Lib.hid (fun V (hv : Below wa.heap.size wa V) => addrTextI_any r.pe r.hpe V (hEc.below hv))
      have KI := Lib.hid (fun V (hv : Below wa.heap.size wa V) => addrTextI_any r.id r.hid V (hEc.below hv))
      have KS := Lib.hid (fun V (hv : Below wa.heap.size wa V) => sideW_any r.ex V)
      have KO := Lib.hid (fun V (hv : Below wa.heap.size wa V) => addrTextI_any r.og r.hog V (hEc.below hv))
      have KN := Lib.hid (fun V (hv : Below wa.heap.size wa V) => itoaS_any r.ss hss V (hEc.below hv))
      have HWD := Lib.hid (show ([⟨(prefT r.a r.m).toArray⟩, ⟨viaW.toArray⟩, textA r.ho.toNat, ⟨prefW.toArray⟩, ⟨(Lib.decDigits r.pf.toNat).toArray⟩, ⟨metrW.toArray⟩, ⟨(Lib.decDigits r.me.toNat).toArray⟩, ⟨peerW.toArray⟩, textA r.pe.toNat, ⟨idW.toArray⟩, textA r.id.toNat, ⟨(sideT r.ex).toArray⟩, ⟨origW.toArray⟩, textA r.og.toNat, ⟨sessW.toArray⟩, ⟨(sessT r.ss).toArray⟩, ⟨pathW.toArray⟩] : List ByteArray).map (·.data.toList) = r.head from rfl)
      generalize (⟨(prefT r.a r.m).toArray⟩ : ByteArray) = q0 at *
      generalize textA r.ho.toNat = qh at *
      generalize (⟨(Lib.decDigits r.pf.toNat).toArray⟩ : ByteArray) = qf at *
      generalize (⟨(Lib.decDigits r.me.toNat).toArray⟩ : ByteArray) = qm at *
      generalize textA r.pe.toNat = qp at *
      generalize textA r.id.toNat = qi at *
      generalize (⟨(sideT r.ex).toArray⟩ : ByteArray) = qs at *
      generalize textA r.og.toNat = qo at *
      generalize (⟨(sessT r.ss).toArray⟩ : ByteArray) = qn at *
      go_upto_region 3 with fail
      have F0 := cell_regrown c0
      have F1 := cell_regrown c1
      have F2 := cell_regrown c2
      have F3 := cell_regrown c3
      have F4 := cell_regrown c4
      have F7 := cell_regrown c7
      have F8 := cell_regrown c8
      have F9 := cell_regrown c9
      have F10 := cell_regrown c10
      have F12 := cell_regrown c12
      refine wp_region_mix [(0, false), (1, false), (3, false), (4, false), (6, false), (7, false), (9, false), (10, false), (12, false), (13, false), (15, false), (16, false), (18, false), (19, false), (21, false), (22, false), (24, false), (25, false), (2, true), (5, true), (8, true), (11, true), (14, true), (17, true), (20, true), (23, true), (26, true), (27, true), (28, false)] (by kernel_rfl) (by kernel_rfl) ?_
      have hv0 := below_drawn wa
      generalize { wa with drawn := wa.drawn + 1 } = V0 at *
      refine mix_take [0, 1, 3, 4, 6, 7, 9, 10, 12, 13, 15, 16, 18, 19, 21, 22, 24, 25] [_, _, _, _, _, _, _, _, _, _, _, _, _, _, _, _, _, _] rfl rfl ?_
      simp only [List.getElem_toArray, List.getElem_cons_zero, List.getElem_cons_succ]
      repeat (go_big_quiet_step (fail))
      refine wpQuiet_nil ?_
      refine mix_bar rfl (by rfl) ?_
      simp only [List.getElem_toArray, List.getElem_cons_zero, List.getElem_cons_succ]
      go_simp
      refine (KP.out V0 hv0).mono ?_
      rintro e V1 ⟨rfl, hb⟩
      have hv1 := below_call hv0 hb
      refine ⟨regrown_of_below hv1, ?_⟩
      clear hb
      refine mix_bar rfl (by rfl) ?_
      simp only [List.getElem_toArray, List.getElem_cons_zero, List.getElem_cons_succ]
      go_simp
      refine (KH.out V1 hv1).mono ?_
      rintro e V2 ⟨rfl, hb⟩
      have hv2 := below_call hv1 hb
      refine ⟨regrown_of_below hv2, ?_⟩
      clear hb
      refine mix_bar rfl (by rfl) ?_
      simp only [List.getElem_toArray, List.getElem_cons_zero, List.getElem_cons_succ]
      go_simp
      refine (KF.out V2 hv2).mono ?_
      rintro e V3 ⟨rfl, hb⟩
      have hv3 := below_call hv2 hb
      refine ⟨regrown_of_below hv3, ?_⟩
      clear hb
      refine mix_bar rfl (by rfl) ?_
      simp only [List.getElem_toArray, List.getElem_cons_zero, List.getElem_cons_succ]
      go_simp
      refine (KM.out V3 hv3).mono ?_
      rintro e V4 ⟨rfl, hb⟩
      have hv4 := below_call hv3 hb
      refine ⟨regrown_of_below hv4, ?_⟩
      clear hb
      refine mix_bar rfl (by rfl) ?_
      simp only [List.getElem_toArray, List.getElem_cons_zero, List.getElem_cons_succ]
      go_simp
      refine (KE.out V4 hv4).mono ?_
      rintro e V5 ⟨rfl, hb⟩
      have hv5 := below_call hv4 hb
      refine ⟨regrown_of_below hv5, ?_⟩
      clear hb
      refine mix_bar rfl (by rfl) ?_
      simp only [List.getElem_toArray, List.getElem_cons_zero, List.getElem_cons_succ]
      go_simp
      refine (KI.out V5 hv5).mono ?_
      rintro e V6 ⟨rfl, hb⟩
      have hv6 := below_call hv5 hb
      refine ⟨regrown_of_below hv6, ?_⟩
      clear hb
      refine mix_bar rfl (by rfl) ?_
      simp only [List.getElem_toArray, List.getElem_cons_zero, List.getElem_cons_succ]
      go_simp
      refine (KS.out V6 hv6).mono ?_
      rintro e V7 ⟨rfl, hb⟩
      have hv7 := below_call hv6 hb
      refine ⟨regrown_of_below hv7, ?_⟩
      clear hb
      refine mix_bar rfl (by rfl) ?_
      simp only [List.getElem_toArray, List.getElem_cons_zero, List.getElem_cons_succ]
      go_simp
      refine (KO.out V7 hv7).mono ?_
      rintro e V8 ⟨rfl, hb⟩
      have hv8 := below_call hv7 hb
      refine ⟨regrown_of_below hv8, ?_⟩
      clear hb
      refine mix_bar rfl (by rfl) ?_
      simp only [List.getElem_toArray, List.getElem_cons_zero, List.getElem_cons_succ]
      go_simp
      refine (KN.out V8 hv8).mono ?_
      rintro e V9 ⟨rfl, hb⟩
      have hv9 := below_call hv8 hb
      refine ⟨regrown_of_below hv9, ?_⟩
      clear hb
      refine mix_bar rfl (by rfl) ?_
      simp only [List.getElem_toArray, List.getElem_cons_zero, List.getElem_cons_succ]
      go_simp
      have hgw := heap_alloc_new V9 (.cells #[.string q0, .string ⟨#[118, 105, 97]⟩, .string qh, .string ⟨#[112, 114, 101, 102]⟩, .string qf, .string ⟨#[109, 101, 116, 114, 105, 99]⟩, .string qm, .string ⟨#[112, 101, 101, 114]⟩, .string qp, .string ⟨#[105, 100]⟩, .string qi, .string qs, .string ⟨#[111, 114, 105, 103, 105, 110]⟩, .string qo, .string ⟨#[115, 101, 115, 115, 105, 111, 110]⟩, .string qn, .string ⟨#[112, 97, 116, 104]⟩] 9)
      have hv10 := hv9.alloc hv9.size (.cells #[.string q0, .string ⟨#[118, 105, 97]⟩, .string qh, .string ⟨#[112, 114, 101, 102]⟩, .string qf, .string ⟨#[109, 101, 116, 114, 105, 99]⟩, .string qm, .string ⟨#[112, 101, 101, 114]⟩, .string qp, .string ⟨#[105, 100]⟩, .string qi, .string qs, .string ⟨#[111, 114, 105, 103, 105, 110]⟩, .string qo, .string ⟨#[115, 101, 115, 115, 105, 111, 110]⟩, .string qn, .string ⟨#[112, 97, 116, 104]⟩] 9)
      refine ⟨regrown_of_below hv10, ?_⟩
      generalize V9.alloc (.cells #[.string q0, .string ⟨#[118, 105, 97]⟩, .string qh, .string ⟨#[112, 114, 101, 102]⟩, .string qf, .string ⟨#[109, 101, 116, 114, 105, 99]⟩, .string qm, .string ⟨#[112, 101, 101, 114]⟩, .string qp, .string ⟨#[105, 100]⟩, .string qi, .string qs, .string ⟨#[111, 114, 105, 103, 105, 110]⟩, .string qo, .string ⟨#[115, 101, 115, 115, 105, 111, 110]⟩, .string qn, .string ⟨#[112, 97, 116, 104]⟩] 9) = V10 at *
      refine mix_take [28] [_] rfl rfl ?_
      simp only [List.getElem_toArray, List.getElem_cons_zero, List.getElem_cons_succ]
      repeat (go_big_quiet_step (fail))
      refine wpQuiet_nil ?_
      refine mix_end ?_
      have hown := owns_of_block (base := wa.heap.size) (size := 1) (n := 17) (c := 17) (xs := [q0, ⟨#[118, 105, 97]⟩, qh, ⟨#[112, 114, 101, 102]⟩, qf, ⟨#[109, 101, 116, 114, 105, 99]⟩, qm, ⟨#[112, 101, 101, 114]⟩, qp, ⟨#[105, 100]⟩, qi, qs, ⟨#[111, 114, 105, 103, 105, 110]⟩, qo, ⟨#[115, 101, 115, 115, 105, 111, 110]⟩, qn, ⟨#[112, 97, 116, 104]⟩].map Value.string) hgw (Nat.le_refl _) (by unfold maxLen; omega) rfl rfl rfl hv9.size
      have HB : Hid (([q0, ⟨#[118, 105, 97]⟩, qh, ⟨#[112, 114, 101, 102]⟩, qf, ⟨#[109, 101, 116, 114, 105, 99]⟩, qm, ⟨#[112, 101, 101, 114]⟩, qp, ⟨#[105, 100]⟩, qi, qs, ⟨#[111, 114, 105, 103, 105, 110]⟩, qo, ⟨#[115, 101, 115, 115, 105, 111, 110]⟩, qn, ⟨#[112, 97, 116, 104]⟩] : List ByteArray).map (·.data.toList) = r.head) := HWD
      generalize hB : ([q0, ⟨#[118, 105, 97]⟩, qh, ⟨#[112, 114, 101, 102]⟩, qf, ⟨#[109, 101, 116, 114, 105, 99]⟩, qm, ⟨#[112, 101, 101, 114]⟩, qp, ⟨#[105, 100]⟩, qi, qs, ⟨#[111, 114, 105, 103, 105, 110]⟩, qo, ⟨#[115, 101, 115, 115, 105, 111, 110]⟩, qn, ⟨#[112, 97, 116, 104]⟩] : List ByteArray) = B at *
      have hlB : B.length = 17 := by rw [← hB]; rfl
      have C5 := Lib.hid c5
      have C6 := Lib.hid c6
      have C11 := Lib.hid c11
      clear hB c0 c1 c2 c3 c4 c5 c6 c7 c8 c9 c10 c11 c12 hgw HWD F0 F1 F2 F3 F4 F7 F8 F9 F10 F12 KP KH KF KM KE KI KS KO KN
      generalize (Value.agg #[.int .u32 r.a, .int .i64 r.m, .int .u32 r.ho, .int .i64 r.pf, .int .i64 r.me, vp, vo, .int .u32 r.pe, .int .u32 r.id, .bool r.ex, .int .u32 r.og, vl, .int .i64 r.ss] : Value) = vr at *
      obtain ⟨i0, hi, hz0, hz1, hz2⟩ := info_parts Tryz.infoStr
      have hv9' := hv10
      generalize V10 = X0 at *
      obtain ⟨A1, g1, hv1s, _⟩ := HP.out.form
      have hR1 := HP.out
      rw [hv1s] at hR1
      have HR1 := Lib.hid hR1
      clear hR1
      have dd1 : X0.cell? ⟨w.heap.size, 5, none⟩ = some (.slice A1 r.pa.length g1) := (by rw [cell_kept hv9' C5.out, hv1s])
      go_wp2
      go_loopw [4, 67] (fun v i wr => ∃ j : Nat, i = .int .i64 j ∧ j ≤ r.pa.length ∧ wr.ownsRow wa.heap.size 9 1 v (B.length + j) ((B ++ (r.pa.take j).map decB).map Value.string) ∧ Below wa.heap.size wa wr) (fun _ i _ => r.pa.length - (intOf i).toNat)
      case atStart => exact ⟨0, rfl, by omega, by first | (rw [hlB]; simpa using hown) | (simpa using hown), hv9'⟩
      case round =>
        obtain ⟨j, rfl, hj, hown, hnx⟩ := hrel
        clear dd1
        have hsz := hnx.size
        have hbW := hbw.trans (hnx.mono hbw.size)
        by_cases hlt : j < r.pa.length
        · have hI : (j : Int) < (r.pa.length : Int) := by omega
          obtain ⟨x, hx⟩ : ∃ x, r.pa[j]? = some x := ⟨_, List.getElem?_eq_getElem hlt⟩
          have hxr := r.hpa x (List.mem_of_getElem? hx)
          obtain ⟨b, off, c', hv, _, hbB, hcell⟩ := (HR1.out.below hbW).posAt (by omega)
          injection hv with hv1 _ hv3
          subst hv1 hv3
          have f0 : wr.cell? ⟨b, off + j, none⟩ = some (.int .u32 x) := by
            have h := hcell j 0 (.int .u32 x) (by simp [hx])
            simpa using h
          have htk := Lib.hid (show (B ++ (r.pa.take (j + 1)).map decB).map Value.string = (B ++ (r.pa.take j).map decB).map Value.string ++ [.string (decB x)] by rw [List.take_add_one, hx]; simp)
          have hT := Lib.hid (fmtB_any x hxr.1 hxr.2 wr (hEc.below hnx))
          clear hx hcell
          generalize decB x = q at *
          go_wp2_with fail
          refine hT.out.mono ?_
          rintro e wn ⟨rfl, hb⟩
          have hnx2 := hnx.trans (hb.mono hsz)
          have hown2 := owns_kept_none hown (only_of_below hb none)
          clear hb hown hnx f0
          go_wp2_with (at_builtin; refine wpList_pushN rfl _ _ 45 rfl 9 i0 _ 1 16 Tryz.underlying45 hi hz0 hz1 hz2 rfl (by decide) (by decide) 1 (by decide) (by decide) [.string q] rfl rfl (by simp) hown2 rfl (str_one (l := [q])) (by omega) (hnx2).size hnx2 (Nat.le_refl _) ?_; intro v2 w5 hown5 hb5)
          refine ⟨⟨j + 1, by go_num, by omega, ?_, hb5⟩, by simp only [intOf]; omega⟩
          rw [htk.out]
          exact hown5
        · obtain rfl : j = r.pa.length := by omega
          have hI : ¬ (r.pa.length : Int) < (r.pa.length : Int) := by omega
          rw [List.take_length] at hown
          have hL1 : ∀ u, B ++ r.pa.map decB = u → u.length = B.length + r.pa.length := fun u hu => by rw [← hu]; simp
          generalize hM1 : B ++ r.pa.map decB = M1 at *
          have hl1 := hL1 _ rfl
          rw [← hl1] at hown
          have HM1 := Lib.hid hM1
          clear hM1 hL1
          obtain ⟨A2, g2, hv2s, _⟩ := HO.out.form
          have hR2 := HO.out
          rw [hv2s] at hR2
          have HR2 := Lib.hid hR2
          clear hR2
          go_wp2_with (at_builtin; refine wpList_pushN rfl _ _ 45 rfl 9 i0 _ 1 16 Tryz.underlying45 hi hz0 hz1 hz2 rfl (by decide) (by decide) 1 (by decide) (by decide) [.string ⟨#[99, 111, 109, 109]⟩] rfl rfl (by simp) hown rfl (str_one (l := [⟨#[99, 111, 109, 109]⟩])) (by omega) (hnx).size hnx (Nat.le_refl _) ?_; intro vv1 X1 ho1 hx1; have dd2 : X1.cell? ⟨w.heap.size, 6, none⟩ = some (.slice A2 r.co.length g2) := (by rw [cell_kept hx1 C6.out, hv2s]))
          obtain ⟨N1, hN1⟩ : ∃ N, N = M1 ++ [⟨#[99, 111, 109, 109]⟩] := ⟨_, rfl⟩
          have hn1 : X1.ownsRow wa.heap.size 9 1 vv1 N1.length (N1.map Value.string) := by
            rw [hN1, List.length_append, List.map_append]
            exact ho1
          have hlN1 : N1.length = M1.length + 1 := by rw [hN1]; simp
          have HN1 := Lib.hid hN1
          clear hN1 ho1 hown hnx hsz hbW
          go_loopw [4, 84] (fun v i wr => ∃ j : Nat, i = .int .i64 j ∧ j ≤ r.co.length ∧ wr.ownsRow wa.heap.size 9 1 v (N1.length + j) ((N1 ++ (r.co.take j).map decB).map Value.string) ∧ Below wa.heap.size wa wr) (fun _ i _ => r.co.length - (intOf i).toNat)
          case atStart => exact ⟨0, rfl, by omega, by first | (rw [hlB]; simpa using hn1) | (simpa using hn1), hx1⟩
          case round =>
            obtain ⟨j, rfl, hj, hown, hnx⟩ := hrel
            clear dd2
            have hsz := hnx.size
            have hbW := hbw.trans (hnx.mono hbw.size)
            by_cases hlt : j < r.co.length
            · have hI : (j : Int) < (r.co.length : Int) := by omega
              obtain ⟨x, hx⟩ : ∃ x, r.co[j]? = some x := ⟨_, List.getElem?_eq_getElem hlt⟩
              have hxr := r.hco x (List.mem_of_getElem? hx)
              obtain ⟨b, off, c', hv, _, hbB, hcell⟩ := (HR2.out.below hbW).posAt (by omega)
              injection hv with hv1 _ hv3
              subst hv1 hv3
              have f0 : wr.cell? ⟨b, off + j, none⟩ = some (.int .u32 x) := by
                have h := hcell j 0 (.int .u32 x) (by simp [hx])
                simpa using h
              have htk := Lib.hid (show (N1 ++ (r.co.take (j + 1)).map decB).map Value.string = (N1 ++ (r.co.take j).map decB).map Value.string ++ [.string (decB x)] by rw [List.take_add_one, hx]; simp)
              have hT := Lib.hid (fmtB_any x hxr.1 hxr.2 wr (hEc.below hnx))
              clear hx hcell
              generalize decB x = q at *
              go_wp2_with fail
              refine hT.out.mono ?_
              rintro e wn ⟨rfl, hb⟩
              have hnx2 := hnx.trans (hb.mono hsz)
              have hown2 := owns_kept_none hown (only_of_below hb none)
              clear hb hown hnx f0
              go_wp2_with (at_builtin; refine wpList_pushN rfl _ _ 45 rfl 9 i0 _ 1 16 Tryz.underlying45 hi hz0 hz1 hz2 rfl (by decide) (by decide) 1 (by decide) (by decide) [.string q] rfl rfl (by simp) hown2 rfl (str_one (l := [q])) (by omega) (hnx2).size hnx2 (Nat.le_refl _) ?_; intro v2 w5 hown5 hb5)
              refine ⟨⟨j + 1, by go_num, by omega, ?_, hb5⟩, by simp only [intOf]; omega⟩
              rw [htk.out]
              exact hown5
            · obtain rfl : j = r.co.length := by omega
              have hI : ¬ (r.co.length : Int) < (r.co.length : Int) := by omega
              rw [List.take_length] at hown
              have hL2 : ∀ u, N1 ++ r.co.map decB = u → u.length = N1.length + r.co.length := fun u hu => by rw [← hu]; simp
              generalize hM2 : N1 ++ r.co.map decB = M2 at *
              have hl2 := hL2 _ rfl
              rw [← hl2] at hown
              have HM2 := Lib.hid hM2
              clear hM2 hL2
              obtain ⟨A3, g3, hv3s, _⟩ := HL.out.form
              have hR3 := HL.out
              rw [hv3s] at hR3
              have HR3 := Lib.hid hR3
              clear hR3
              go_wp2_with (at_builtin; refine wpList_pushN rfl _ _ 45 rfl 9 i0 _ 1 16 Tryz.underlying45 hi hz0 hz1 hz2 rfl (by decide) (by decide) 1 (by decide) (by decide) [.string ⟨#[99, 108, 117, 115, 116, 101, 114, 115]⟩] rfl rfl (by simp) hown rfl (str_one (l := [⟨#[99, 108, 117, 115, 116, 101, 114, 115]⟩])) (by omega) (hnx).size hnx (Nat.le_refl _) ?_; intro vv2 X2 ho2 hx2; have dd3 : X2.cell? ⟨w.heap.size, 11, none⟩ = some (.slice A3 r.cl.length g3) := (by rw [cell_kept hx2 C11.out, hv3s]))
              obtain ⟨N2, hN2⟩ : ∃ N, N = M2 ++ [⟨#[99, 108, 117, 115, 116, 101, 114, 115]⟩] := ⟨_, rfl⟩
              have hn2 : X2.ownsRow wa.heap.size 9 1 vv2 N2.length (N2.map Value.string) := by
                rw [hN2, List.length_append, List.map_append]
                exact ho2
              have hlN2 : N2.length = M2.length + 1 := by rw [hN2]; simp
              have HN2 := Lib.hid hN2
              clear hN2 ho2 hown hnx hsz hbW
              go_loopw [4, 101] (fun v i wr => ∃ j : Nat, i = .int .i64 j ∧ j ≤ r.cl.length ∧ wr.ownsRow wa.heap.size 9 1 v (N2.length + j) ((N2 ++ (r.cl.take j).map adrB).map Value.string) ∧ Below wa.heap.size wa wr) (fun _ i _ => r.cl.length - (intOf i).toNat)
              case atStart => exact ⟨0, rfl, by omega, by first | (rw [hlB]; simpa using hn2) | (simpa using hn2), hx2⟩
              case round =>
                obtain ⟨j, rfl, hj, hown, hnx⟩ := hrel
                clear dd3
                have hsz := hnx.size
                have hbW := hbw.trans (hnx.mono hbw.size)
                by_cases hlt : j < r.cl.length
                · have hI : (j : Int) < (r.cl.length : Int) := by omega
                  obtain ⟨x, hx⟩ : ∃ x, r.cl[j]? = some x := ⟨_, List.getElem?_eq_getElem hlt⟩
                  have hxr := r.hcl x (List.mem_of_getElem? hx)
                  obtain ⟨b, off, c', hv, _, hbB, hcell⟩ := (HR3.out.below hbW).posAt (by omega)
                  injection hv with hv1 _ hv3
                  subst hv1 hv3
                  have f0 : wr.cell? ⟨b, off + j, none⟩ = some (.int .u32 x) := by
                    have h := hcell j 0 (.int .u32 x) (by simp [hx])
                    simpa using h
                  have htk := Lib.hid (show (N2 ++ (r.cl.take (j + 1)).map adrB).map Value.string = (N2 ++ (r.cl.take j).map adrB).map Value.string ++ [.string (adrB x)] by rw [List.take_add_one, hx]; simp)
                  have hT := Lib.hid (adrB_any x hxr.1 hxr.2 wr (hEc.below hnx))
                  clear hx hcell
                  generalize adrB x = q at *
                  go_wp2_with fail
                  refine hT.out.mono ?_
                  rintro e wn ⟨rfl, hb⟩
                  have hnx2 := hnx.trans (hb.mono hsz)
                  have hown2 := owns_kept_none hown (only_of_below hb none)
                  clear hb hown hnx f0
                  go_wp2_with (at_builtin; refine wpList_pushN rfl _ _ 45 rfl 9 i0 _ 1 16 Tryz.underlying45 hi hz0 hz1 hz2 rfl (by decide) (by decide) 1 (by decide) (by decide) [.string q] rfl rfl (by simp) hown2 rfl (str_one (l := [q])) (by omega) (hnx2).size hnx2 (Nat.le_refl _) ?_; intro v2 w5 hown5 hb5)
                  refine ⟨⟨j + 1, by go_num, by omega, ?_, hb5⟩, by simp only [intOf]; omega⟩
                  rw [htk.out]
                  exact hown5
                · obtain rfl : j = r.cl.length := by omega
                  have hI : ¬ (r.cl.length : Int) < (r.cl.length : Int) := by omega
                  rw [List.take_length] at hown
                  have hL3 : ∀ u, N2 ++ r.cl.map adrB = u → u.length = N2.length + r.cl.length := fun u hu => by rw [← hu]; simp
                  generalize hM3 : N2 ++ r.cl.map adrB = M3 at *
                  have hl3 := hL3 _ rfl
                  rw [← hl3] at hown
                  have HM3 := Lib.hid hM3
                  clear hM3 hL3
                  have hW : M3.map (·.data.toList) = r.words := by
                    rw [← HM3.out, HN2.out, ← HM2.out, HN1.out, ← HM1.out]
                    simp only [List.map_append, List.map_cons, List.map_nil, List.map_map]
                    rw [HB.out]
                    show _ = r.head ++ (r.pa.map decT ++ commW :: (r.co.map decT ++ clusW :: r.cl.map addrT))
                    simp only [List.append_assoc, List.cons_append, List.nil_append]
                    rfl
                  have htl := av_text_len hlen HOK.out
                  obtain ⟨A4, g4, rfl, _⟩ := owns_form hown
                  have hj := lineO_any M3 _ _ wr hown (by omega) (by omega) (by rw [hW]; show r.text.length ≤ _; omega)
                  rw [hW] at hj
                  have HJ := Lib.hid (show Calls Tryz.prog 22 #[.slice A4 M3.length g4] wr fun e V' => e = .returned (.string ⟨r.text.toArray⟩) ∧ Below wr.heap.size wr V' from hj)
                  clear hj hW htl hown hl1 hl2 hl3 hlN1 hlN2 hlB
                  go_wp2_with fail
                  refine HJ.out.mono ?_
                  rintro e wf ⟨rfl, hb⟩
                  have hbf := below_call hbW hb
                  go_wp2
                  go_ret2
                  exact ⟨by rw [ht.out.1, ht.out.2]; rfl, hbf⟩
end Go.Proofs.YtpmoepipoafegaaGreatDoor

/-
  The walk of routes.ParseAdvert (written by wip/gen/genrt7.py).
-/
namespace Go.Proofs.YtpmoepipoafegaaGreatDoor
open Go Go.RowKit Go.Lib Go.Sort

theorem aset0 {w : World} {g : Nat} {v0 v1 v2 v3 v4 v5 v6 v7 v8 v9 v10 v11 v12 u : Value} {t : TypeId} (h : w.heap[g]? = some (.cells #[v0, v1, v2, v3, v4, v5, v6, v7, v8, v9, v10, v11, v12] t (0, 0))) : (w.setCell ⟨g, 0, none⟩ u).heap[g]? = some (.cells #[u, v1, v2, v3, v4, v5, v6, v7, v8, v9, v10, v11, v12] t (0, 0)) := set_at h
theorem aset1 {w : World} {g : Nat} {v0 v1 v2 v3 v4 v5 v6 v7 v8 v9 v10 v11 v12 u : Value} {t : TypeId} (h : w.heap[g]? = some (.cells #[v0, v1, v2, v3, v4, v5, v6, v7, v8, v9, v10, v11, v12] t (0, 0))) : (w.setCell ⟨g, 1, none⟩ u).heap[g]? = some (.cells #[v0, u, v2, v3, v4, v5, v6, v7, v8, v9, v10, v11, v12] t (0, 0)) := set_at h
theorem aset2 {w : World} {g : Nat} {v0 v1 v2 v3 v4 v5 v6 v7 v8 v9 v10 v11 v12 u : Value} {t : TypeId} (h : w.heap[g]? = some (.cells #[v0, v1, v2, v3, v4, v5, v6, v7, v8, v9, v10, v11, v12] t (0, 0))) : (w.setCell ⟨g, 2, none⟩ u).heap[g]? = some (.cells #[v0, v1, u, v3, v4, v5, v6, v7, v8, v9, v10, v11, v12] t (0, 0)) := set_at h
theorem aset3 {w : World} {g : Nat} {v0 v1 v2 v3 v4 v5 v6 v7 v8 v9 v10 v11 v12 u : Value} {t : TypeId} (h : w.heap[g]? = some (.cells #[v0, v1, v2, v3, v4, v5, v6, v7, v8, v9, v10, v11, v12] t (0, 0))) : (w.setCell ⟨g, 3, none⟩ u).heap[g]? = some (.cells #[v0, v1, v2, u, v4, v5, v6, v7, v8, v9, v10, v11, v12] t (0, 0)) := set_at h
theorem aset4 {w : World} {g : Nat} {v0 v1 v2 v3 v4 v5 v6 v7 v8 v9 v10 v11 v12 u : Value} {t : TypeId} (h : w.heap[g]? = some (.cells #[v0, v1, v2, v3, v4, v5, v6, v7, v8, v9, v10, v11, v12] t (0, 0))) : (w.setCell ⟨g, 4, none⟩ u).heap[g]? = some (.cells #[v0, v1, v2, v3, u, v5, v6, v7, v8, v9, v10, v11, v12] t (0, 0)) := set_at h
theorem aset5 {w : World} {g : Nat} {v0 v1 v2 v3 v4 v5 v6 v7 v8 v9 v10 v11 v12 u : Value} {t : TypeId} (h : w.heap[g]? = some (.cells #[v0, v1, v2, v3, v4, v5, v6, v7, v8, v9, v10, v11, v12] t (0, 0))) : (w.setCell ⟨g, 5, none⟩ u).heap[g]? = some (.cells #[v0, v1, v2, v3, v4, u, v6, v7, v8, v9, v10, v11, v12] t (0, 0)) := set_at h
theorem aset6 {w : World} {g : Nat} {v0 v1 v2 v3 v4 v5 v6 v7 v8 v9 v10 v11 v12 u : Value} {t : TypeId} (h : w.heap[g]? = some (.cells #[v0, v1, v2, v3, v4, v5, v6, v7, v8, v9, v10, v11, v12] t (0, 0))) : (w.setCell ⟨g, 6, none⟩ u).heap[g]? = some (.cells #[v0, v1, v2, v3, v4, v5, u, v7, v8, v9, v10, v11, v12] t (0, 0)) := set_at h
theorem aset7 {w : World} {g : Nat} {v0 v1 v2 v3 v4 v5 v6 v7 v8 v9 v10 v11 v12 u : Value} {t : TypeId} (h : w.heap[g]? = some (.cells #[v0, v1, v2, v3, v4, v5, v6, v7, v8, v9, v10, v11, v12] t (0, 0))) : (w.setCell ⟨g, 7, none⟩ u).heap[g]? = some (.cells #[v0, v1, v2, v3, v4, v5, v6, u, v8, v9, v10, v11, v12] t (0, 0)) := set_at h
theorem aset8 {w : World} {g : Nat} {v0 v1 v2 v3 v4 v5 v6 v7 v8 v9 v10 v11 v12 u : Value} {t : TypeId} (h : w.heap[g]? = some (.cells #[v0, v1, v2, v3, v4, v5, v6, v7, v8, v9, v10, v11, v12] t (0, 0))) : (w.setCell ⟨g, 8, none⟩ u).heap[g]? = some (.cells #[v0, v1, v2, v3, v4, v5, v6, v7, u, v9, v10, v11, v12] t (0, 0)) := set_at h
theorem aset9 {w : World} {g : Nat} {v0 v1 v2 v3 v4 v5 v6 v7 v8 v9 v10 v11 v12 u : Value} {t : TypeId} (h : w.heap[g]? = some (.cells #[v0, v1, v2, v3, v4, v5, v6, v7, v8, v9, v10, v11, v12] t (0, 0))) : (w.setCell ⟨g, 9, none⟩ u).heap[g]? = some (.cells #[v0, v1, v2, v3, v4, v5, v6, v7, v8, u, v10, v11, v12] t (0, 0)) := set_at h
theorem aset10 {w : World} {g : Nat} {v0 v1 v2 v3 v4 v5 v6 v7 v8 v9 v10 v11 v12 u : Value} {t : TypeId} (h : w.heap[g]? = some (.cells #[v0, v1, v2, v3, v4, v5, v6, v7, v8, v9, v10, v11, v12] t (0, 0))) : (w.setCell ⟨g, 10, none⟩ u).heap[g]? = some (.cells #[v0, v1, v2, v3, v4, v5, v6, v7, v8, v9, u, v11, v12] t (0, 0)) := set_at h
theorem aset11 {w : World} {g : Nat} {v0 v1 v2 v3 v4 v5 v6 v7 v8 v9 v10 v11 v12 u : Value} {t : TypeId} (h : w.heap[g]? = some (.cells #[v0, v1, v2, v3, v4, v5, v6, v7, v8, v9, v10, v11, v12] t (0, 0))) : (w.setCell ⟨g, 11, none⟩ u).heap[g]? = some (.cells #[v0, v1, v2, v3, v4, v5, v6, v7, v8, v9, v10, u, v12] t (0, 0)) := set_at h
theorem aset12 {w : World} {g : Nat} {v0 v1 v2 v3 v4 v5 v6 v7 v8 v9 v10 v11 v12 u : Value} {t : TypeId} (h : w.heap[g]? = some (.cells #[v0, v1, v2, v3, v4, v5, v6, v7, v8, v9, v10, v11, v12] t (0, 0))) : (w.setCell ⟨g, 12, none⟩ u).heap[g]? = some (.cells #[v0, v1, v2, v3, v4, v5, v6, v7, v8, v9, v10, v11, u] t (0, 0)) := set_at h
theorem st13 {W V : World} {g : Nat} {u0 u1 u2 u3 u4 u5 u6 u7 u8 u9 u10 u11 u12 : Value} (h : Below W.heap.size W V) (hg : W.heap.size ≤ g) : Below W.heap.size W (((((((((((((V.setCell ⟨g, 0, none⟩ u0).setCell ⟨g, 1, none⟩ u1).setCell ⟨g, 2, none⟩ u2).setCell ⟨g, 3, none⟩ u3).setCell ⟨g, 4, none⟩ u4).setCell ⟨g, 5, none⟩ u5).setCell ⟨g, 6, none⟩ u6).setCell ⟨g, 7, none⟩ u7).setCell ⟨g, 8, none⟩ u8).setCell ⟨g, 9, none⟩ u9).setCell ⟨g, 10, none⟩ u10).setCell ⟨g, 11, none⟩ u11).setCell ⟨g, 12, none⟩ u12) := (((((((((((((h.setCell (p := ⟨g, 0, none⟩) hg u0).setCell (p := ⟨g, 1, none⟩) hg u1).setCell (p := ⟨g, 2, none⟩) hg u2).setCell (p := ⟨g, 3, none⟩) hg u3).setCell (p := ⟨g, 4, none⟩) hg u4).setCell (p := ⟨g, 5, none⟩) hg u5).setCell (p := ⟨g, 6, none⟩) hg u6).setCell (p := ⟨g, 7, none⟩) hg u7).setCell (p := ⟨g, 8, none⟩) hg u8).setCell (p := ⟨g, 9, none⟩) hg u9).setCell (p := ⟨g, 10, none⟩) hg u10).setCell (p := ⟨g, 11, none⟩) hg u11).setCell (p := ⟨g, 12, none⟩) hg u12)
theorem st13b {V : World} {g : Nat} {u0 u1 u2 u3 u4 u5 u6 u7 u8 u9 u10 u11 u12 v0 v1 v2 v3 v4 v5 v6 v7 v8 v9 v10 v11 v12 : Value} {t : TypeId} (h : V.heap[g]? = some (.cells #[v0, v1, v2, v3, v4, v5, v6, v7, v8, v9, v10, v11, v12] t (0, 0))) : (((((((((((((V.setCell ⟨g, 0, none⟩ u0).setCell ⟨g, 1, none⟩ u1).setCell ⟨g, 2, none⟩ u2).setCell ⟨g, 3, none⟩ u3).setCell ⟨g, 4, none⟩ u4).setCell ⟨g, 5, none⟩ u5).setCell ⟨g, 6, none⟩ u6).setCell ⟨g, 7, none⟩ u7).setCell ⟨g, 8, none⟩ u8).setCell ⟨g, 9, none⟩ u9).setCell ⟨g, 10, none⟩ u10).setCell ⟨g, 11, none⟩ u11).setCell ⟨g, 12, none⟩ u12).heap[g]? = some (.cells #[u0, u1, u2, u3, u4, u5, u6, u7, u8, u9, u10, u11, u12] t (0, 0)) := (aset12 (aset11 (aset10 (aset9 (aset8 (aset7 (aset6 (aset5 (aset4 (aset3 (aset2 (aset1 (aset0 h)))))))))))))
theorem fin13 {W V : World} {g : Nat} {u0 u1 u2 u3 u4 u5 u6 u7 u8 u9 u10 u11 u12 v0 v1 v2 v3 v4 v5 v6 v7 v8 v9 v10 v11 v12 : Value} {t : TypeId} (h : Below W.heap.size W V) (hq : V.heap[g]? = some (.cells #[v0, v1, v2, v3, v4, v5, v6, v7, v8, v9, v10, v11, v12] t (0, 0))) (hg : W.heap.size ≤ g) : ∃ g', Value.pointer (some ⟨g, 0, none⟩) = .pointer (some ⟨g', 0, none⟩) ∧ W.heap.size ≤ g' ∧ (((((((((((((V.setCell ⟨g, 0, none⟩ u0).setCell ⟨g, 1, none⟩ u1).setCell ⟨g, 2, none⟩ u2).setCell ⟨g, 3, none⟩ u3).setCell ⟨g, 4, none⟩ u4).setCell ⟨g, 5, none⟩ u5).setCell ⟨g, 6, none⟩ u6).setCell ⟨g, 7, none⟩ u7).setCell ⟨g, 8, none⟩ u8).setCell ⟨g, 9, none⟩ u9).setCell ⟨g, 10, none⟩ u10).setCell ⟨g, 11, none⟩ u11).setCell ⟨g, 12, none⟩ u12).heap[g']? = some (.cells #[u0, u1, u2, u3, u4, u5, u6, u7, u8, u9, u10, u11, u12] t (0, 0)) ∧ Below W.heap.size W (((((((((((((V.setCell ⟨g, 0, none⟩ u0).setCell ⟨g, 1, none⟩ u1).setCell ⟨g, 2, none⟩ u2).setCell ⟨g, 3, none⟩ u3).setCell ⟨g, 4, none⟩ u4).setCell ⟨g, 5, none⟩ u5).setCell ⟨g, 6, none⟩ u6).setCell ⟨g, 7, none⟩ u7).setCell ⟨g, 8, none⟩ u8).setCell ⟨g, 9, none⟩ u9).setCell ⟨g, 10, none⟩ u10).setCell ⟨g, 11, none⟩ u11).setCell ⟨g, 12, none⟩ u12) := ⟨_, rfl, hg, st13b hq, st13 h hg⟩
theorem av_blk {w : World} {g : Nat} {r : AvV} {vp vo vl : Value} (h : w.heap[g]? = some (avObj r vp vo vl)) : w.cell? ⟨g, 0, none⟩ = some (Value.int .u32 r.a) ∧ w.cell? ⟨g, 1, none⟩ = some (Value.int .i64 r.m) ∧ w.cell? ⟨g, 2, none⟩ = some (Value.int .u32 r.ho) ∧ w.cell? ⟨g, 3, none⟩ = some (Value.int .i64 r.pf) ∧ w.cell? ⟨g, 4, none⟩ = some (Value.int .i64 r.me) ∧ w.cell? ⟨g, 5, none⟩ = some (vp) ∧ w.cell? ⟨g, 6, none⟩ = some (vo) ∧ w.cell? ⟨g, 7, none⟩ = some (Value.int .u32 r.pe) ∧ w.cell? ⟨g, 8, none⟩ = some (Value.int .u32 r.id) ∧ w.cell? ⟨g, 9, none⟩ = some (Value.bool r.ex) ∧ w.cell? ⟨g, 10, none⟩ = some (Value.int .u32 r.og) ∧ w.cell? ⟨g, 11, none⟩ = some (vl) ∧ w.cell? ⟨g, 12, none⟩ = some (Value.int .i64 r.ss) := blk13 (t := 31) h
theorem results_a {fn : Func} {tmps : Array Value} {w : World} {g : Nat} {r : AvV} {vp vo vl e : Value} {t1 t3 : Nat} (hf : fn.results = #[.cell t1 31, .tmp t3]) (h1 : tmps.getD t1 undef = .pointer (some ⟨g, 0, none⟩)) (h3 : tmps.getD t3 undef = e)
    (k1 : w.heap[g]? = some (avObj r vp vo vl)) :
    (results fn tmps).run Tryz.prog w = .ok (.tuple #[.agg #[.int .u32 r.a, .int .i64 r.m, .int .u32 r.ho, .int .i64 r.pf, .int .i64 r.me, vp, vo, .int .u32 r.pe, .int .u32 r.id, .bool r.ex, .int .u32 r.og, vl, .int .i64 r.ss], e]) w := by
  obtain ⟨c0, c1, c2, c3, c4, c5, c6, c7, c8, c9, c10, c11, c12⟩ := av_blk k1
  have h1' : tmps[t1]?.getD undef = .pointer (some ⟨g, 0, none⟩) := by simpa using h1
  have h3' : tmps[t3]?.getD undef = e := by simpa using h3
  simp [results, hf, h1', h3', go_sem, c0, c1, c2, c3, c4, c5, c6, c7, c8, c9, c10, c11, c12]
/-- A slice that does not lie in a block. -/
def FarV (g : Nat) (v : Value) : Prop := ∀ b off n c, v = .slice (some ⟨b, off, none⟩) n c → b ≠ g
theorem Rd.setFar {w : World} {B k n g i : Nat} {v u : Value} {xs : List Value} (h : Rd w B k v n xs) (hf : FarV g v) : Rd (w.setCell ⟨g, i, none⟩ u) B k v n xs := by
  obtain ⟨A, c, hv, hc, hl, hq⟩ := h
  refine ⟨A, c, hv, hc, hl, fun hn => ?_⟩
  obtain ⟨b, off, hA, hB, hcell⟩ := hq hn
  refine ⟨b, off, hA, hB, fun j v' hv' => ?_⟩
  have hbg : b ≠ g := hf b off n c (by rw [hv, hA])
  exact (World.cell?_of_block (w := w) (Below.heap_setCell w _ u b hbg)).trans (hcell j v' hv')
theorem far_own {w : World} {base g n size : Nat} {e : TypeId} {v : Value} {xs : List Value} (h : w.ownsRow base e size v n xs) (hg : g < base) : FarV g v := by
  rintro b off m c rfl
  obtain ⟨A, c', hv, hA⟩ := owns_form h
  rcases h.2 with ⟨h1, _⟩ | ⟨g', cap, cur, h1, hb, _⟩
  · simp at h1
  · simp only [Value.slice.injEq, Option.some.injEq, Addr.mk.injEq] at h1
    omega
/-- Words that cannot be an advert's. -/
theorem avO_idx {l : List UInt8} {L : List ByteArray} (hL : L.map (·.data.toList) = pieces 32 l) (h : ¬ (19 ≤ L.length ∧ 17 ≤ Lib.idxOfS L ⟨commW.toArray⟩ ∧ Lib.idxOfS L ⟨commW.toArray⟩ ≤ Lib.idxOfS L ⟨clusW.toArray⟩)) : avO l = none := avO_no fun r hr ht => by
  obtain ⟨h1, h2, h3⟩ := idx_prog (L := L) hr (by rw [hL, ← ht, av_words hr])
  exact h ⟨by omega, by rw [h1]; omega, by rw [h1, h2]; omega⟩
theorem idxFrom_spec (x : ByteArray) : ∀ (zs : List ByteArray) (i : Nat), Lib.idxFromS zs x i = -1 ∨ ∃ k : Nat, Lib.idxFromS zs x i = ((i + k : Nat) : Int) ∧ zs[k]? = some x
  | [], i => Or.inl rfl
  | z :: zs, i => by
    rw [Lib.idxFromS]
    split
    · rename_i h; exact Or.inr ⟨0, by simp, by rw [h]; rfl⟩
    · rcases idxFrom_spec x zs (i + 1) with h | ⟨k, h1, h2⟩
      · exact Or.inl h
      · exact Or.inr ⟨k + 1, by rw [h1]; congr 1; omega, by simpa using h2⟩
theorem idx_spec (L : List ByteArray) (x : ByteArray) : Lib.idxOfS L x = -1 ∨ ∃ k : Nat, Lib.idxOfS L x = (k : Int) ∧ L[k]? = some x := by
  rcases idxFrom_spec x L 0 with h | ⟨k, h1, h2⟩
  · exact Or.inl h
  · exact Or.inr ⟨k, by unfold Lib.idxOfS; rw [h1]; simp, h2⟩
theorem comm_clus : (⟨commW.toArray⟩ : ByteArray) ≠ ⟨clusW.toArray⟩ := by
  intro h
  have := congrArg (fun b : ByteArray => b.data.toList) h
  revert this; decide
theorem index_list (L : List ByteArray) (x : ByteArray) (V : World) (gL : Nat) (hlen : L.length ≤ 9223372036854775807) (h : V.heap[gL]? = some (.cells (L.map Value.string).toArray 9 (0, 0))) :
    Calls Tryz.prog 34 #[.slice (some ⟨gL, 0, none⟩) L.length L.length, .string x] V fun e V' => e = .returned (.int .i64 (Lib.idxOfS L x)) ∧ Below V.heap.size V V' := by
  have := Tryz.slices_Index_string gL 0 L.length L.length L x V (Nat.le_refl _) hlen (fun j hj => by
    have hx : L[j]? = some (L.getD j ByteArray.empty) := by rw [List.getD_eq_getElem?_getD, List.getElem?_eq_getElem hj]; rfl
    rw [Nat.zero_add]; exact cells_str h hx)
  rw [List.take_length] at this
  exact this.mono fun e V' hh => ⟨hh.1, by rw [hh.2]; exact Below.refl _ _⟩
/-- What ParseAdvert answers: the advert, its lists in memory. -/
def AvRes (l : List UInt8) (w : World) (e : Ending) (w' : World) : Prop :=
  ∃ vp vo vl, e = .returned (.tuple #[.agg #[.int .u32 (avV l).a, .int .i64 (avV l).m, .int .u32 (avV l).ho, .int .i64 (avV l).pf, .int .i64 (avV l).me, vp, vo, .int .u32 (avV l).pe, .int .u32 (avV l).id, .bool (avV l).ex, .int .u32 (avV l).og, vl, .int .i64 (avV l).ss], .int .i64 (avE l)]) ∧ Rd w' w'.heap.size 1 vp (avV l).pa.length ((avV l).pa.map (Value.int .u32)) ∧ Rd w' w'.heap.size 1 vo (avV l).co.length ((avV l).co.map (Value.int .u32)) ∧ Rd w' w'.heap.size 1 vl (avV l).cl.length ((avV l).cl.map (Value.int .u32)) ∧ Below w.heap.size w w'
theorem rdNilU (w : World) (B : Nat) : Rd w B 1 (.slice none 0 0) ([] : List Int).length (([] : List Int).map (Value.int .u32)) := ⟨none, 0, rfl, Nat.le_refl _, rfl, fun h => absurd h (by simp)⟩
/-- No advert: the zero one. -/
theorem avRes_no {l : List UInt8} {w w' : World} {e : Ending} (h : avO l = none) (he : e = .returned (.tuple #[.agg #[.int .u32 av0.a, .int .i64 av0.m, .int .u32 av0.ho, .int .i64 av0.pf, .int .i64 av0.me, .slice none 0 0, .slice none 0 0, .int .u32 av0.pe, .int .u32 av0.id, .bool av0.ex, .int .u32 av0.og, .slice none 0 0, .int .i64 av0.ss], .int .i64 4])) (hb : Below w.heap.size w w') : AvRes l w e w' := by
  obtain ⟨h1, h2⟩ := av_none h
  unfold AvRes
  rw [h1, h2]
  exact ⟨_, _, _, he, rdNilU _ _, rdNilU _ _, rdNilU _ _, hb⟩
set_option maxRecDepth 100000 in
set_option maxHeartbeats 8000000 in
theorem avParse_short (s : ByteArray) (L : List ByteArray) (w : World) (hE : Env w) (hlim : s.size < 4294967281) (hP : L.map (·.data.toList) = pieces 32 s.data.toList) (hS : Lib.splitB ⟨#[32]⟩ 0 (Lib.countB s ⟨#[32]⟩) s = L) (hN : Lib.countB s ⟨#[32]⟩ + 1 = L.length) (hlen : L.length ≤ 9223372036854775807)
    (h : ¬ (19 ≤ L.length ∧ 17 ≤ Lib.idxOfS L ⟨commW.toArray⟩ ∧ Lib.idxOfS L ⟨commW.toArray⟩ ≤ Lib.idxOfS L ⟨clusW.toArray⟩)) :
    Calls Tryz.prog 12 #[.string s] w fun e w' => AvRes s.data.toList w e w' := by
  have hno := Lib.hid (avO_idx hP h)
  have hkz := heap_alloc_new w (avObj av0 (.slice none 0 0) (.slice none 0 0) (.slice none 0 0))
  have hb0 := below1 w (avObj av0 (.slice none 0 0) (.slice none 0 0) (.slice none 0 0))
  have hE0 := hE.below hb0
  obtain ⟨m, hm⟩ := hE0.len
  have hSp := Tryz.strings_Split s ⟨#[32]⟩ m (w.alloc (avObj av0 (.slice none 0 0) (.slice none 0 0) (.slice none 0 0))) (by omega) hm (by decide)
  rw [hS, hN] at hSp
  have HSp := Lib.hid hSp
  have hII := fun x V gL => index_list L x V gL hlen
  clear hSp hS hN hm hP
  have hcase : (L.length < 19) ∨ (¬ L.length < 19 ∧ Lib.idxOfS L ⟨commW.toArray⟩ < 17) ∨ (¬ L.length < 19 ∧ ¬ Lib.idxOfS L ⟨commW.toArray⟩ < 17 ∧ Lib.idxOfS L ⟨clusW.toArray⟩ < Lib.idxOfS L ⟨commW.toArray⟩) := by omega
  have hi := hII ⟨commW.toArray⟩
  have hj := hII ⟨clusW.toArray⟩
  generalize Lib.idxOfS L ⟨commW.toArray⟩ = i at *
  generalize Lib.idxOfS L ⟨clusW.toArray⟩ = j at *
  have HI := Lib.hid hi
  have HJ := Lib.hid hj
  clear hi hj hII h
  obtain ⟨n, hn⟩ : ∃ n, L.length = n := ⟨_, rfl⟩
  rw [hn] at HSp HI HJ hcase
  have hn63 : n ≤ 9223372036854775807 := by omega
  clear hlen hn
  have hcase2 : ((n : Int) < 19) ∨ (¬ (n : Int) < 19 ∧ i < 17) ∨ (¬ (n : Int) < 19 ∧ ¬ i < 17 ∧ j < i) := by omega
  clear hcase
  go_enter Tryz.func12, Tryz.ntmps12
  go_wp2_with fail
  refine HSp.out.mono ?_
  rintro e w1 ⟨rfl, rfl⟩
  have hk1 := (Below.heap_alloc (w.alloc (avObj av0 (.slice none 0 0) (.slice none 0 0) (.slice none 0 0))) (.cells (L.map Value.string).toArray 9) _ (lt_of_block hkz)).trans hkz
  have hkL := heap_alloc_new (w.alloc (avObj av0 (.slice none 0 0) (.slice none 0 0) (.slice none 0 0))) (.cells (L.map Value.string).toArray 9)
  have hb1 := hb0.alloc hb0.size (.cells (L.map Value.string).toArray 9)
  clear HSp hE0 hkz hb0
  generalize (w.alloc (avObj av0 (.slice none 0 0) (.slice none 0 0) (.slice none 0 0))).heap.size = gL at *
  generalize (w.alloc (avObj av0 (.slice none 0 0) (.slice none 0 0) (.slice none 0 0))).alloc (.cells (L.map Value.string).toArray 9) = W at *
  have K1 := HI.out W gL hkL
  go_wp2_with fail
  refine K1.mono ?_
  rintro e w2 ⟨rfl, hb⟩
  have hk2 := blk_below hb hk1
  have hkL2 := blk_below hb hkL
  have hb2 := below_call hb1 hb
  clear K1 hk1 hkL hb1 hb
  have K2 := HJ.out w2 gL hkL2
  go_wp2_with fail
  refine K2.mono ?_
  rintro e w3 ⟨rfl, hb⟩
  have hk3 := blk_below hb hk2
  have hb3 := below_call hb2 hb
  clear K2 hk2 hkL2 hb2 hb HI HJ
  obtain ⟨d0, d1, d2, d3, d4, d5, d6, d7, d8, d9, d10, d11, d12⟩ := av_blk hk3
  have z0 := frozen_row hk3 0
  have z1 := frozen_row hk3 1
  have z2 := frozen_row hk3 2
  have z3 := frozen_row hk3 3
  have z4 := frozen_row hk3 4
  have z5 := frozen_row hk3 5
  have z6 := frozen_row hk3 6
  have z7 := frozen_row hk3 7
  have z8 := frozen_row hk3 8
  have z9 := frozen_row hk3 9
  have z10 := frozen_row hk3 10
  have z11 := frozen_row hk3 11
  have z12 := frozen_row hk3 12
  have HK := Lib.hid hk3
  clear hk3
  rcases hcase2 with q0 | ⟨q0, q1⟩ | ⟨q0, q1, q2⟩
  all_goals (
    go_wp2
    exact bodyPost_ret (results_a (t1 := 2) (t3 := 3) (g := w.heap.size) (r := av0) (vp := .slice none 0 0) (vo := .slice none 0 0) (vl := .slice none 0 0) Tryz.results12 rfl rfl (aset12 (aset11 (aset10 (aset9 (aset8 (aset7 (aset6 (aset5 (aset4 (aset3 (aset2 (aset1 (aset0 HK.out)))))))))))))) rfl (avRes_no hno.out rfl (((((((((((((hb3.setCell (Nat.le_refl _) _).setCell (Nat.le_refl _) _).setCell (Nat.le_refl _) _).setCell (Nat.le_refl _) _).setCell (Nat.le_refl _) _).setCell (Nat.le_refl _) _).setCell (Nat.le_refl _) _).setCell (Nat.le_refl _) _).setCell (Nat.le_refl _) _).setCell (Nat.le_refl _) _).setCell (Nat.le_refl _) _).setCell (Nat.le_refl _) _).setCell (Nat.le_refl _) _)))

theorem rd13 {w : World} {B k n g : Nat} {v u0 u1 u2 u3 u4 u5 u6 u7 u8 u9 u10 u11 u12 : Value} {xs : List Value} (h : Rd w B k v n xs) (hf : FarV g v) : Rd (((((((((((((w.setCell ⟨g, 0, none⟩ u0).setCell ⟨g, 1, none⟩ u1).setCell ⟨g, 2, none⟩ u2).setCell ⟨g, 3, none⟩ u3).setCell ⟨g, 4, none⟩ u4).setCell ⟨g, 5, none⟩ u5).setCell ⟨g, 6, none⟩ u6).setCell ⟨g, 7, none⟩ u7).setCell ⟨g, 8, none⟩ u8).setCell ⟨g, 9, none⟩ u9).setCell ⟨g, 10, none⟩ u10).setCell ⟨g, 11, none⟩ u11).setCell ⟨g, 12, none⟩ u12) B k v n xs := (((((((((((((h.setFar (i := 0) (u := u0) hf).setFar (i := 1) (u := u1) hf).setFar (i := 2) (u := u2) hf).setFar (i := 3) (u := u3) hf).setFar (i := 4) (u := u4) hf).setFar (i := 5) (u := u5) hf).setFar (i := 6) (u := u6) hf).setFar (i := 7) (u := u7) hf).setFar (i := 8) (u := u8) hf).setFar (i := 9) (u := u9) hf).setFar (i := 10) (u := u10) hf).setFar (i := 11) (u := u11) hf).setFar (i := 12) (u := u12) hf)
theorem size13 {w : World} {g : Nat} {u0 u1 u2 u3 u4 u5 u6 u7 u8 u9 u10 u11 u12 : Value} : (((((((((((((w.setCell ⟨g, 0, none⟩ u0).setCell ⟨g, 1, none⟩ u1).setCell ⟨g, 2, none⟩ u2).setCell ⟨g, 3, none⟩ u3).setCell ⟨g, 4, none⟩ u4).setCell ⟨g, 5, none⟩ u5).setCell ⟨g, 6, none⟩ u6).setCell ⟨g, 7, none⟩ u7).setCell ⟨g, 8, none⟩ u8).setCell ⟨g, 9, none⟩ u9).setCell ⟨g, 10, none⟩ u10).setCell ⟨g, 11, none⟩ u11).setCell ⟨g, 12, none⟩ u12).heap.size = w.heap.size := by simp [World.setCell]
theorem words_tail {L : List ByteArray} {r : AvV} (hw : L.map (·.data.toList) = r.words) (k : Nat) : (L.drop (17 + k)).map (·.data.toList) = r.tail.drop k := by
  rw [List.map_drop, hw, ← List.drop_drop]
  congr 1
/-- The words of the three lists. -/
theorem lists_fit {L : List ByteArray} {r : AvV} {ni nj : Nat} (hr : r.ok = true) (hw : L.map (·.data.toList) = r.words) (hi : Lib.idxOfS L ⟨commW.toArray⟩ = (ni : Int)) (hj : Lib.idxOfS L ⟨clusW.toArray⟩ = (nj : Int)) :
    ((L.drop 17).take (ni - 17)).map (·.data.toList) = r.pa.map decT ∧ ((L.drop (ni + 1)).take (nj - (ni + 1))).map (·.data.toList) = r.co.map decT ∧ (L.drop (nj + 1)).map (·.data.toList) = r.cl.map addrT := by
  obtain ⟨h1, h2, h3⟩ := idx_prog (L := L) hr hw
  obtain rfl : ni = 17 + r.pa.length := by omega
  obtain rfl : nj = 17 + r.pa.length + 1 + r.co.length := by omega
  refine ⟨?_, ?_, ?_⟩
  · rw [List.map_take, show 17 + r.pa.length - 17 = r.pa.length by omega, ← tail_pa]
    congr 1
    exact words_tail hw 0
  · rw [List.map_take, show 17 + r.pa.length + 1 + r.co.length - (17 + r.pa.length + 1) = r.co.length by omega, ← tail_co]
    congr 1
    exact words_tail hw (r.pa.length + 1)
  · rw [← tail_cl, show 17 + r.pa.length + 1 + r.co.length + 1 = 17 + (r.pa.length + 1 + r.co.length + 1) by omega]
    exact words_tail hw _
/-- A session's word that is no number. -/
theorem avO_sess {l : List UInt8} {w0 w1 w2 w3 w4 w5 w6 w7 w8 w9 w10 w11 w12 w13 w14 w15 w16 : List UInt8} {rest : List (List UInt8)} (hp : pieces 32 l = w0 :: w1 :: w2 :: w3 :: w4 :: w5 :: w6 :: w7 :: w8 :: w9 :: w10 :: w11 :: w12 :: w13 :: w14 :: w15 :: w16 :: rest) (h1 : num31 w15 = -1) (h2 : w15 ≠ oneW) : avO l = none := avO_no fun r hr ht => by
  have hw := av_words hr
  rw [ht, hp] at hw
  unfold AvV.words AvV.head at hw
  simp only [List.cons_append, List.nil_append] at hw
  injection hw with _ hw
  injection hw with _ hw
  injection hw with _ hw
  injection hw with _ hw
  injection hw with _ hw
  injection hw with _ hw
  injection hw with _ hw
  injection hw with _ hw
  injection hw with _ hw
  injection hw with _ hw
  injection hw with _ hw
  injection hw with _ hw
  injection hw with _ hw
  injection hw with _ hw
  injection hw with _ hw
  injection hw with e15 hw
  have k4 := (av_ok hr).2.2.2
  have h3 := sess31_rel w15 r.ss k4 e15
  rw [h1] at h3
  rw [← h3] at e15
  exact h2 e15
theorem Tryz.infoAddr : (Tryz.prog.info? 23).map (fun i => (i.zero, i.size, i.bytes)) = some (some (.int .u32 0), 1, 4) := by kernel_rfl
/-- A part of a list of strings that lies in a block. -/
theorem rd_sub {V : World} {gL : Nat} {L : List ByteArray} (h : V.heap[gL]? = some (.cells (L.map Value.string).toArray 9 (0, 0))) {o n c : Nat} {A : Option Addr} (hA : 0 < n → A = some ⟨gL, o, none⟩) (ho : o + n ≤ L.length) (hc : n ≤ c) : Rd V V.heap.size 1 (.slice A n c) ((L.drop o).take n).length (((L.drop o).take n).map Value.string) := by
  have hl : ((L.drop o).take n).length = n := by simp; omega
  refine ⟨A, c, by rw [hl], by omega, by simp, fun hn => ?_⟩
  rw [hl] at hn
  refine ⟨gL, o, hA hn, lt_of_block h, fun j u hu => ?_⟩
  rw [List.getElem?_map] at hu
  cases hx : ((L.drop o).take n)[j]? with
  | none => rw [hx] at hu; cases hu
  | some y =>
    rw [hx] at hu
    injection hu with hu
    rw [← hu]
    refine cells_str h ?_
    have hj := (List.getElem?_eq_some_iff.1 hx).1
    rw [List.getElem?_take, if_pos (by rw [hl] at hj; exact hj), List.getElem?_drop] at hx
    exact hx
set_option maxRecDepth 100000 in
set_option maxHeartbeats 16000000 in
theorem avParse_main (s : ByteArray) (x0 x1 x2 x3 x4 x5 x6 x7 x8 x9 x10 x11 x12 x13 x14 x15 x16 : ByteArray) (R : List ByteArray) (w : World) (hE : Env w) (hlim : s.size < 4294967281) (hP : pieces 32 s.data.toList = x0.data.toList :: x1.data.toList :: x2.data.toList :: x3.data.toList :: x4.data.toList :: x5.data.toList :: x6.data.toList :: x7.data.toList :: x8.data.toList :: x9.data.toList :: x10.data.toList :: x11.data.toList :: x12.data.toList :: x13.data.toList :: x14.data.toList :: x15.data.toList :: x16.data.toList :: R.map (·.data.toList)) (hS : Lib.splitB ⟨#[32]⟩ 0 (Lib.countB s ⟨#[32]⟩) s = x0 :: x1 :: x2 :: x3 :: x4 :: x5 :: x6 :: x7 :: x8 :: x9 :: x10 :: x11 :: x12 :: x13 :: x14 :: x15 :: x16 :: R) (N : Nat) (hN : Lib.countB s ⟨#[32]⟩ + 1 = N) (hNR : N = R.length + 17) (hl : ∀ x ∈ x0 :: x1 :: x2 :: x3 :: x4 :: x5 :: x6 :: x7 :: x8 :: x9 :: x10 :: x11 :: x12 :: x13 :: x14 :: x15 :: x16 :: R, x.size < 4294967281) (hrn : N ≤ 5000) (ni nj : Nat) (hi : Lib.idxOfS (x0 :: x1 :: x2 :: x3 :: x4 :: x5 :: x6 :: x7 :: x8 :: x9 :: x10 :: x11 :: x12 :: x13 :: x14 :: x15 :: x16 :: R) ⟨commW.toArray⟩ = (ni : Int)) (hj : Lib.idxOfS (x0 :: x1 :: x2 :: x3 :: x4 :: x5 :: x6 :: x7 :: x8 :: x9 :: x10 :: x11 :: x12 :: x13 :: x14 :: x15 :: x16 :: R) ⟨clusW.toArray⟩ = (nj : Int)) (h17 : 17 ≤ ni) (hij : ni < nj) (hjN : nj < N) :
    Calls Tryz.prog 12 #[.string s] w fun e w' => AvRes s.data.toList w e w' := by
  have hkz := heap_alloc_new w (avObj av0 (.slice none 0 0) (.slice none 0 0) (.slice none 0 0))
  have hb0 := below1 w (avObj av0 (.slice none 0 0) (.slice none 0 0) (.slice none 0 0))
  have hE0 := hE.below hb0
  obtain ⟨m, hm⟩ := hE0.len
  have hSp := Tryz.strings_Split s ⟨#[32]⟩ m (w.alloc (avObj av0 (.slice none 0 0) (.slice none 0 0) (.slice none 0 0))) (by omega) hm (by decide)
  rw [hS, hN] at hSp
  have HSp := Lib.hid hSp
  have hLN : (x0 :: x1 :: x2 :: x3 :: x4 :: x5 :: x6 :: x7 :: x8 :: x9 :: x10 :: x11 :: x12 :: x13 :: x14 :: x15 :: x16 :: R).length = N := by rw [hNR]; rfl
  have hI0 := fun V gL => index_list (x0 :: x1 :: x2 :: x3 :: x4 :: x5 :: x6 :: x7 :: x8 :: x9 :: x10 :: x11 :: x12 :: x13 :: x14 :: x15 :: x16 :: R) ⟨commW.toArray⟩ V gL (by omega)
  have hJ0 := fun V gL => index_list (x0 :: x1 :: x2 :: x3 :: x4 :: x5 :: x6 :: x7 :: x8 :: x9 :: x10 :: x11 :: x12 :: x13 :: x14 :: x15 :: x16 :: R) ⟨clusW.toArray⟩ V gL (by omega)
  rw [hi, hLN] at hI0
  rw [hj, hLN] at hJ0
  have HI := Lib.hid hI0
  have HJ := Lib.hid hJ0
  have HIX := Lib.hid hi
  have HJX := Lib.hid hj
  have HLN := Lib.hid hLN
  clear hSp hS hN hm hI0 hJ0 hi hj hLN
  have HP := Lib.hid hP
  have HL := Lib.hid hl
  clear hP
  have hn63 : N ≤ 9223372036854775807 := by omega
  have l0 := hl x0 (by simp)
  have l2 := hl x2 (by simp)
  have l4 := hl x4 (by simp)
  have l6 := hl x6 (by simp)
  have l8 := hl x8 (by simp)
  have l10 := hl x10 (by simp)
  have l13 := hl x13 (by simp)
  have l15 := hl x15 (by simp)
  clear hl
  have HNR := Lib.hid hNR
  have hc1 : ¬ (N : Int) < 19 := by omega
  have hc2 : ¬ (ni : Int) < 17 := by omega
  have hc3 : ¬ (nj : Int) < (ni : Int) := by omega
  have hba : 0 < N := by omega
  have hia : (0 : Int) < (N : Int) := by omega
  have hbc : 2 < N := by omega
  have hic : (2 : Int) < (N : Int) := by omega
  have hbe : 4 < N := by omega
  have hie : (4 : Int) < (N : Int) := by omega
  have hbg : 6 < N := by omega
  have hig : (6 : Int) < (N : Int) := by omega
  have hbi : 8 < N := by omega
  have hii : (8 : Int) < (N : Int) := by omega
  have hbk : 10 < N := by omega
  have hik : (10 : Int) < (N : Int) := by omega
  have hbl : 11 < N := by omega
  have hil : (11 : Int) < (N : Int) := by omega
  have hbn : 13 < N := by omega
  have hin : (13 : Int) < (N : Int) := by omega
  have hbp : 15 < N := by omega
  have hip : (15 : Int) < (N : Int) := by omega
  clear hNR
  go_enter Tryz.func12, Tryz.ntmps12
  go_wp2_with fail
  refine HSp.out.mono ?_
  rintro e w1 ⟨rfl, rfl⟩
  have hk1 := (Below.heap_alloc (w.alloc (avObj av0 (.slice none 0 0) (.slice none 0 0) (.slice none 0 0))) (.cells ((x0 :: x1 :: x2 :: x3 :: x4 :: x5 :: x6 :: x7 :: x8 :: x9 :: x10 :: x11 :: x12 :: x13 :: x14 :: x15 :: x16 :: R).map Value.string).toArray 9) _ (lt_of_block hkz)).trans hkz
  have hkL := heap_alloc_new (w.alloc (avObj av0 (.slice none 0 0) (.slice none 0 0) (.slice none 0 0))) (.cells ((x0 :: x1 :: x2 :: x3 :: x4 :: x5 :: x6 :: x7 :: x8 :: x9 :: x10 :: x11 :: x12 :: x13 :: x14 :: x15 :: x16 :: R).map Value.string).toArray 9)
  have hb1 := hb0.alloc hb0.size (.cells ((x0 :: x1 :: x2 :: x3 :: x4 :: x5 :: x6 :: x7 :: x8 :: x9 :: x10 :: x11 :: x12 :: x13 :: x14 :: x15 :: x16 :: R).map Value.string).toArray 9)
  have hgw : w.heap.size < (w.alloc (avObj av0 (.slice none 0 0) (.slice none 0 0) (.slice none 0 0))).heap.size := by simp
  clear HSp hE0 hkz hb0
  generalize (w.alloc (avObj av0 (.slice none 0 0) (.slice none 0 0) (.slice none 0 0))).heap.size = gL at *
  generalize (w.alloc (avObj av0 (.slice none 0 0) (.slice none 0 0) (.slice none 0 0))).alloc (.cells ((x0 :: x1 :: x2 :: x3 :: x4 :: x5 :: x6 :: x7 :: x8 :: x9 :: x10 :: x11 :: x12 :: x13 :: x14 :: x15 :: x16 :: R).map Value.string).toArray 9) = W at *
  have K1 := HI.out W gL hkL
  go_wp2_with fail
  refine K1.mono ?_
  rintro e w2 ⟨rfl, hb⟩
  have hk2 := blk_below hb hk1
  have hkL2 := blk_below hb hkL
  have hb2 := below_call hb1 hb
  clear K1 hk1 hkL hb1 hb
  have K2 := HJ.out w2 gL hkL2
  go_wp2_with fail
  refine K2.mono ?_
  rintro e W3 ⟨rfl, hb⟩
  have hk3 := blk_below hb hk2
  have hkL3 := blk_below hb hkL2
  have hb3 := below_call hb2 hb
  have hE3 := hE.below hb3
  clear K2 hk2 hkL2 hb2 hb HI HJ
  go_upto_region 6 with fail
  have s4 := cells_str (k := 4) hkL3 rfl
  have s6 := cells_str (k := 6) hkL3 rfl
  have s11 := cells_str (k := 11) hkL3 rfl
  have s15 := cells_str (k := 15) hkL3 rfl
  have HK3 := Lib.hid hk3
  have HKL3 := Lib.hid hkL3
  clear hk3 hkL3
  have hex : (x11.toList == [101, 120, 116, 101, 114, 110, 97, 108]) = decide (x11.data.toList = extW) := by
    rw [list_of, Bool.eq_iff_iff]
    simp only [beq_iff_eq, decide_eq_true_eq]
    exact Iff.rfl
  have KN := Lib.hid (show ∀ x : ByteArray, x.size < 4294967281 → ∀ V : World, Below W3.heap.size W3 V → Calls Tryz.prog 35 #[.string x] V fun e V' => e = .returned (.int .i64 (num31 x.data.toList)) ∧ Below V.heap.size V V' from fun x hx V h => numR_any x hx V (hE3.below h))
  have hgw3 : w.heap.size < W3.heap.size := lt_of_block HK3.out
  go_cut [7] (fun sr wx => ∃ g : Nat, sr = .pointer (some ⟨g, 0, none⟩) ∧ W3.heap.size ≤ g ∧ wx.heap[g]? = some (.cells #[.int .u32 0, .int .i64 0, .int .u32 0, .int .i64 (num31 x4.data.toList), .int .i64 (num31 x6.data.toList), .slice none 0 0, .slice none 0 0, .int .u32 0, .int .u32 0, .bool (decide (x11.data.toList = extW)), .int .u32 0, .slice none 0 0, .int .i64 (num31 x15.data.toList)] 31 (0, 0)) ∧ Below W3.heap.size W3 wx)
  case first =>
    clear HK3 HKL3 HP HL hb3 hE3 HNR HIX HJX HLN
    have F4 := cell_regrown s4
    have F6 := cell_regrown s6
    have F11 := cell_regrown s11
    have F15 := cell_regrown s15
    refine wp_region_tree (plains (.fork 3 (.fork 7 (.fork 15 (plains (.bar 17 (.bar 18 .done)) [16]) 17 (.bar 15 (plains (.bar 18 .done) [16]))) 17 (.bar 7 (.bar 15 (plains (.bar 18 .done) [16])))) 17 (.bar 3 (.bar 7 (.bar 15 (plains (.bar 18 .done) [16]))))) [0, 1, 2, 4, 5, 6, 8, 9, 10, 11, 12, 13, 14]) (by kernel_rfl) (by kernel_rfl) ?_
    have hv0 := below_drawn W3
    generalize { W3 with drawn := W3.drawn + 1 } = V0 at *
    refine tree_take [0, 1, 2, 4, 5, 6, 8, 9, 10, 11, 12, 13, 14] [_, _, _, _, _, _, _, _, _, _, _, _, _] rfl rfl ?_
    simp only [List.getElem_toArray, List.getElem_cons_zero, List.getElem_cons_succ]
    repeat (go_big_quiet_step (fail))
    refine wpQuiet_nil ?_
    refine tree_fork ?_ ?_
    · refine step_same rfl (by rfl) ?_
      simp only [List.getElem_toArray, List.getElem_cons_zero, List.getElem_cons_succ]
      go_simp
      refine (KN.out x4 (by with_reducible assumption) V0 hv0).mono ?_
      rintro e V1 ⟨rfl, hb1⟩
      have hv1 := below_call hv0 hb1
      refine ⟨regrown_of_below hv1, ?_⟩
      refine tree_fork ?_ ?_
      · refine step_same rfl (by rfl) ?_
        simp only [List.getElem_toArray, List.getElem_cons_zero, List.getElem_cons_succ]
        go_simp
        refine (KN.out x6 (by with_reducible assumption) V1 hv1).mono ?_
        rintro e V2 ⟨rfl, hb2⟩
        have hv2 := below_call hv1 hb2
        refine ⟨regrown_of_below hv2, ?_⟩
        refine tree_fork ?_ ?_
        · refine step_same rfl (by rfl) ?_
          simp only [List.getElem_toArray, List.getElem_cons_zero, List.getElem_cons_succ]
          go_simp
          refine (KN.out x15 (by with_reducible assumption) V2 hv2).mono ?_
          rintro e V3 ⟨rfl, hb3⟩
          have hv3 := below_call hv2 hb3
          refine ⟨regrown_of_below hv3, ?_⟩
          refine tree_take [16] [_] rfl rfl ?_
          simp only [List.getElem_toArray, List.getElem_cons_zero, List.getElem_cons_succ]
          repeat (go_big_quiet_step (fail))
          refine wpQuiet_nil ?_
          refine tree_bar ?_
          refine step_same rfl (by rfl) ?_
          simp only [List.getElem_toArray, List.getElem_cons_zero, List.getElem_cons_succ]
          go_simp
          have hA4 := heap_alloc_new V3 (.cells #[.int .u32 0, .int .i64 0, .int .u32 0, .int .i64 0, .int .i64 0, .slice none 0 0, .slice none 0 0, .int .u32 0, .int .u32 0, .bool false, .int .u32 0, .slice none 0 0, .int .i64 0] 31)
          have hb4 := below1 V3 (.cells #[.int .u32 0, .int .i64 0, .int .u32 0, .int .i64 0, .int .i64 0, .slice none 0 0, .slice none 0 0, .int .u32 0, .int .u32 0, .bool false, .int .u32 0, .slice none 0 0, .int .i64 0] 31)
          have hv4 := below_call hv3 hb4
          have hg4 : W3.heap.size ≤ V3.heap.size := hv3.size
          refine ⟨regrown_of_below hv4, ?_⟩
          generalize V3.alloc (.cells #[.int .u32 0, .int .i64 0, .int .u32 0, .int .i64 0, .int .i64 0, .slice none 0 0, .slice none 0 0, .int .u32 0, .int .u32 0, .bool false, .int .u32 0, .slice none 0 0, .int .i64 0] 31) = V4 at *
          generalize V3.heap.size = gA at *
          obtain ⟨n0, n1, n2, n3, n4, n5, n6, n7, n8, n9, n10, n11, n12⟩ := blk13 hA4
          have m0 := frozen_row hA4 0
          have m1 := frozen_row hA4 1
          have m2 := frozen_row hA4 2
          have m3 := frozen_row hA4 3
          have m4 := frozen_row hA4 4
          have m5 := frozen_row hA4 5
          have m6 := frozen_row hA4 6
          have m7 := frozen_row hA4 7
          have m8 := frozen_row hA4 8
          have m9 := frozen_row hA4 9
          have m10 := frozen_row hA4 10
          have m11 := frozen_row hA4 11
          have m12 := frozen_row hA4 12
          refine tree_bar ?_
          refine step_same rfl (by rfl) ?_
          simp only [List.getElem_toArray, List.getElem_cons_zero, List.getElem_cons_succ]
          go_simp
          refine ⟨regrown_of_below (st13 hv4 hg4), ?_⟩
          refine tree_end ?_
          go_wp2_with fail
          go_meet
          exact fin13 hv4 hA4 hg4
        · refine step_same rfl (by rfl) ?_
          simp only [List.getElem_toArray, List.getElem_cons_zero, List.getElem_cons_succ]
          go_simp
          have hA5 := heap_alloc_new V2 (.cells #[.int .u32 0, .int .i64 0, .int .u32 0, .int .i64 0, .int .i64 0, .slice none 0 0, .slice none 0 0, .int .u32 0, .int .u32 0, .bool false, .int .u32 0, .slice none 0 0, .int .i64 0] 31)
          have hb5 := below1 V2 (.cells #[.int .u32 0, .int .i64 0, .int .u32 0, .int .i64 0, .int .i64 0, .slice none 0 0, .slice none 0 0, .int .u32 0, .int .u32 0, .bool false, .int .u32 0, .slice none 0 0, .int .i64 0] 31)
          have hv5 := below_call hv2 hb5
          have hg5 : W3.heap.size ≤ V2.heap.size := hv2.size
          refine ⟨regrown_of_below hv5, ?_⟩
          generalize V2.alloc (.cells #[.int .u32 0, .int .i64 0, .int .u32 0, .int .i64 0, .int .i64 0, .slice none 0 0, .slice none 0 0, .int .u32 0, .int .u32 0, .bool false, .int .u32 0, .slice none 0 0, .int .i64 0] 31) = V5 at *
          generalize V2.heap.size = gA at *
          refine tree_bar ?_
          refine step_same rfl (by rfl) ?_
          simp only [List.getElem_toArray, List.getElem_cons_zero, List.getElem_cons_succ]
          go_simp
          refine (KN.out x15 (by with_reducible assumption) V5 hv5).mono ?_
          rintro e V6 ⟨rfl, hb6⟩
          have hv6 := below_call hv5 hb6
          have hA6 := blk_below hb6 hA5
          refine ⟨regrown_of_below hv6, ?_⟩
          refine tree_take [16] [_] rfl rfl ?_
          simp only [List.getElem_toArray, List.getElem_cons_zero, List.getElem_cons_succ]
          repeat (go_big_quiet_step (fail))
          refine wpQuiet_nil ?_
          obtain ⟨n0, n1, n2, n3, n4, n5, n6, n7, n8, n9, n10, n11, n12⟩ := blk13 hA6
          have m0 := frozen_row hA6 0
          have m1 := frozen_row hA6 1
          have m2 := frozen_row hA6 2
          have m3 := frozen_row hA6 3
          have m4 := frozen_row hA6 4
          have m5 := frozen_row hA6 5
          have m6 := frozen_row hA6 6
          have m7 := frozen_row hA6 7
          have m8 := frozen_row hA6 8
          have m9 := frozen_row hA6 9
          have m10 := frozen_row hA6 10
          have m11 := frozen_row hA6 11
          have m12 := frozen_row hA6 12
          refine tree_bar ?_
          refine step_same rfl (by rfl) ?_
          simp only [List.getElem_toArray, List.getElem_cons_zero, List.getElem_cons_succ]
          go_simp
          refine ⟨regrown_of_below (st13 hv6 hg5), ?_⟩
          refine tree_end ?_
          go_wp2_with fail
          go_meet
          exact fin13 hv6 hA6 hg5
      · refine step_same rfl (by rfl) ?_
        simp only [List.getElem_toArray, List.getElem_cons_zero, List.getElem_cons_succ]
        go_simp
        have hA7 := heap_alloc_new V1 (.cells #[.int .u32 0, .int .i64 0, .int .u32 0, .int .i64 0, .int .i64 0, .slice none 0 0, .slice none 0 0, .int .u32 0, .int .u32 0, .bool false, .int .u32 0, .slice none 0 0, .int .i64 0] 31)
        have hb7 := below1 V1 (.cells #[.int .u32 0, .int .i64 0, .int .u32 0, .int .i64 0, .int .i64 0, .slice none 0 0, .slice none 0 0, .int .u32 0, .int .u32 0, .bool false, .int .u32 0, .slice none 0 0, .int .i64 0] 31)
        have hv7 := below_call hv1 hb7
        have hg7 : W3.heap.size ≤ V1.heap.size := hv1.size
        refine ⟨regrown_of_below hv7, ?_⟩
        generalize V1.alloc (.cells #[.int .u32 0, .int .i64 0, .int .u32 0, .int .i64 0, .int .i64 0, .slice none 0 0, .slice none 0 0, .int .u32 0, .int .u32 0, .bool false, .int .u32 0, .slice none 0 0, .int .i64 0] 31) = V7 at *
        generalize V1.heap.size = gA at *
        refine tree_bar ?_
        refine step_same rfl (by rfl) ?_
        simp only [List.getElem_toArray, List.getElem_cons_zero, List.getElem_cons_succ]
        go_simp
        refine (KN.out x6 (by with_reducible assumption) V7 hv7).mono ?_
        rintro e V8 ⟨rfl, hb8⟩
        have hv8 := below_call hv7 hb8
        have hA8 := blk_below hb8 hA7
        refine ⟨regrown_of_below hv8, ?_⟩
        refine tree_bar ?_
        refine step_same rfl (by rfl) ?_
        simp only [List.getElem_toArray, List.getElem_cons_zero, List.getElem_cons_succ]
        go_simp
        refine (KN.out x15 (by with_reducible assumption) V8 hv8).mono ?_
        rintro e V9 ⟨rfl, hb9⟩
        have hv9 := below_call hv8 hb9
        have hA9 := blk_below hb9 hA8
        refine ⟨regrown_of_below hv9, ?_⟩
        refine tree_take [16] [_] rfl rfl ?_
        simp only [List.getElem_toArray, List.getElem_cons_zero, List.getElem_cons_succ]
        repeat (go_big_quiet_step (fail))
        refine wpQuiet_nil ?_
        obtain ⟨n0, n1, n2, n3, n4, n5, n6, n7, n8, n9, n10, n11, n12⟩ := blk13 hA9
        have m0 := frozen_row hA9 0
        have m1 := frozen_row hA9 1
        have m2 := frozen_row hA9 2
        have m3 := frozen_row hA9 3
        have m4 := frozen_row hA9 4
        have m5 := frozen_row hA9 5
        have m6 := frozen_row hA9 6
        have m7 := frozen_row hA9 7
        have m8 := frozen_row hA9 8
        have m9 := frozen_row hA9 9
        have m10 := frozen_row hA9 10
        have m11 := frozen_row hA9 11
        have m12 := frozen_row hA9 12
        refine tree_bar ?_
        refine step_same rfl (by rfl) ?_
        simp only [List.getElem_toArray, List.getElem_cons_zero, List.getElem_cons_succ]
        go_simp
        refine ⟨regrown_of_below (st13 hv9 hg7), ?_⟩
        refine tree_end ?_
        go_wp2_with fail
        go_meet
        exact fin13 hv9 hA9 hg7
    · refine step_same rfl (by rfl) ?_
      simp only [List.getElem_toArray, List.getElem_cons_zero, List.getElem_cons_succ]
      go_simp
      have hA10 := heap_alloc_new V0 (.cells #[.int .u32 0, .int .i64 0, .int .u32 0, .int .i64 0, .int .i64 0, .slice none 0 0, .slice none 0 0, .int .u32 0, .int .u32 0, .bool false, .int .u32 0, .slice none 0 0, .int .i64 0] 31)
      have hb10 := below1 V0 (.cells #[.int .u32 0, .int .i64 0, .int .u32 0, .int .i64 0, .int .i64 0, .slice none 0 0, .slice none 0 0, .int .u32 0, .int .u32 0, .bool false, .int .u32 0, .slice none 0 0, .int .i64 0] 31)
      have hv10 := below_call hv0 hb10
      have hg10 : W3.heap.size ≤ V0.heap.size := hv0.size
      refine ⟨regrown_of_below hv10, ?_⟩
      generalize V0.alloc (.cells #[.int .u32 0, .int .i64 0, .int .u32 0, .int .i64 0, .int .i64 0, .slice none 0 0, .slice none 0 0, .int .u32 0, .int .u32 0, .bool false, .int .u32 0, .slice none 0 0, .int .i64 0] 31) = V10 at *
      generalize V0.heap.size = gA at *
      refine tree_bar ?_
      refine step_same rfl (by rfl) ?_
      simp only [List.getElem_toArray, List.getElem_cons_zero, List.getElem_cons_succ]
      go_simp
      refine (KN.out x4 (by with_reducible assumption) V10 hv10).mono ?_
      rintro e V11 ⟨rfl, hb11⟩
      have hv11 := below_call hv10 hb11
      have hA11 := blk_below hb11 hA10
      refine ⟨regrown_of_below hv11, ?_⟩
      refine tree_bar ?_
      refine step_same rfl (by rfl) ?_
      simp only [List.getElem_toArray, List.getElem_cons_zero, List.getElem_cons_succ]
      go_simp
      refine (KN.out x6 (by with_reducible assumption) V11 hv11).mono ?_
      rintro e V12 ⟨rfl, hb12⟩
      have hv12 := below_call hv11 hb12
      have hA12 := blk_below hb12 hA11
      refine ⟨regrown_of_below hv12, ?_⟩
      refine tree_bar ?_
      refine step_same rfl (by rfl) ?_
      simp only [List.getElem_toArray, List.getElem_cons_zero, List.getElem_cons_succ]
      go_simp
      refine (KN.out x15 (by with_reducible assumption) V12 hv12).mono ?_
      rintro e V13 ⟨rfl, hb13⟩
      have hv13 := below_call hv12 hb13
      have hA13 := blk_below hb13 hA12
      refine ⟨regrown_of_below hv13, ?_⟩
      refine tree_take [16] [_] rfl rfl ?_
      simp only [List.getElem_toArray, List.getElem_cons_zero, List.getElem_cons_succ]
      repeat (go_big_quiet_step (fail))
      refine wpQuiet_nil ?_
      obtain ⟨n0, n1, n2, n3, n4, n5, n6, n7, n8, n9, n10, n11, n12⟩ := blk13 hA13
      have m0 := frozen_row hA13 0
      have m1 := frozen_row hA13 1
      have m2 := frozen_row hA13 2
      have m3 := frozen_row hA13 3
      have m4 := frozen_row hA13 4
      have m5 := frozen_row hA13 5
      have m6 := frozen_row hA13 6
      have m7 := frozen_row hA13 7
      have m8 := frozen_row hA13 8
      have m9 := frozen_row hA13 9
      have m10 := frozen_row hA13 10
      have m11 := frozen_row hA13 11
      have m12 := frozen_row hA13 12
      refine tree_bar ?_
      refine step_same rfl (by rfl) ?_
      simp only [List.getElem_toArray, List.getElem_cons_zero, List.getElem_cons_succ]
      go_simp
      refine ⟨regrown_of_below (st13 hv13 hg10), ?_⟩
      refine tree_end ?_
      go_wp2_with fail
      go_meet
      exact fin13 hv13 hA13 hg10

  case rest =>
    obtain ⟨g, hs7, hgW, hkr, hbx⟩ := hcut
    subst hs7
    clear s4 s6 s11 s15 KN hex hc1 hc2 hc3
    have HKr := Lib.hid hkr
    clear hkr
    have f0 := cell_kept hbx (cells_str (k := 0) HKL3.out rfl)
    have hEx := hE3.below hbx
    go_wp2_with fail
    refine (parsePrefix_any x0 wc hEx l0).mono ?_
    rintro e V0 ⟨rfl, hb⟩
    have hkV := blk_below hb HKr.out
    obtain ⟨d0, d1, d2, d3, d4, d5, d6, d7, d8, d9, d10, d11, d12⟩ := blk13 hkV
    have z0 := frozen_row hkV 0
    have z1 := frozen_row hkV 1
    have z2 := frozen_row hkV 2
    have z3 := frozen_row hkV 3
    have z4 := frozen_row hkV 4
    have z5 := frozen_row hkV 5
    have z6 := frozen_row hkV 6
    have z7 := frozen_row hkV 7
    have z8 := frozen_row hkV 8
    have z9 := frozen_row hkV 9
    have z10 := frozen_row hkV 10
    have z11 := frozen_row hkV 11
    have z12 := frozen_row hkV 12
    have HV0 := Lib.hid hkV
    have hbV0 := below_call hbx hb
    clear hkV hb f0 hEx HKr
    have hbN0 := ((hbV0.setCell (p := ⟨g, 0, none⟩) hgW (.int .u32 (ppA x0.data.toList))).setCell (p := ⟨g, 1, none⟩) hgW (.int .i64 (ppN x0.data.toList)))
    have hkN := (aset1 (u := .int .i64 (ppN x0.data.toList)) (aset0 (u := .int .u32 (ppA x0.data.toList)) HV0.out))
    have HN0 := Lib.hid hkN
    clear hkN
    have hEN0 := hE3.below hbN0
    have f1' := cell_kept hbN0 (cells_str (k := 2) HKL3.out rfl)
    go_wp2_with fail
    clear d0 d1 d2 d3 d4 d5 d6 d7 d8 d9 d10 d11 d12 z0 z1 z2 z3 z4 z5 z6 z7 z8 z9 z10 z11 z12
    generalize ((V0.setCell ⟨g, 0, none⟩ (.int .u32 (ppA x0.data.toList))).setCell ⟨g, 1, none⟩ (.int .i64 (ppN x0.data.toList))) = Y0 at *
    refine (addrParse_any x2 Y0 hEN0 l2).mono ?_
    rintro e V1 ⟨rfl, hb⟩
    have hkV := blk_below hb HN0.out
    obtain ⟨d0, d1, d2, d3, d4, d5, d6, d7, d8, d9, d10, d11, d12⟩ := blk13 hkV
    have z0 := frozen_row hkV 0
    have z1 := frozen_row hkV 1
    have z2 := frozen_row hkV 2
    have z3 := frozen_row hkV 3
    have z4 := frozen_row hkV 4
    have z5 := frozen_row hkV 5
    have z6 := frozen_row hkV 6
    have z7 := frozen_row hkV 7
    have z8 := frozen_row hkV 8
    have z9 := frozen_row hkV 9
    have z10 := frozen_row hkV 10
    have z11 := frozen_row hkV 11
    have z12 := frozen_row hkV 12
    have HV1 := Lib.hid hkV
    have hbV1 := below_call hbN0 hb
    clear hkV hb f1' hEN0 HN0
    have hbN1 := (hbV1.setCell (p := ⟨g, 2, none⟩) hgW (.int .u32 (adV (parseB x2.data.toList))))
    have hkN := (aset2 (u := .int .u32 (adV (parseB x2.data.toList))) HV1.out)
    have HN1 := Lib.hid hkN
    clear hkN
    have hEN1 := hE3.below hbN1
    have f2' := cell_kept hbN1 (cells_str (k := 8) HKL3.out rfl)
    clear hbV0
    go_wp2_with fail
    clear d0 d1 d2 d3 d4 d5 d6 d7 d8 d9 d10 d11 d12 z0 z1 z2 z3 z4 z5 z6 z7 z8 z9 z10 z11 z12
    generalize (V1.setCell ⟨g, 2, none⟩ (.int .u32 (adV (parseB x2.data.toList)))) = Y1 at *
    refine (addrParse_any x8 Y1 hEN1 l8).mono ?_
    rintro e V2 ⟨rfl, hb⟩
    have hkV := blk_below hb HN1.out
    obtain ⟨d0, d1, d2, d3, d4, d5, d6, d7, d8, d9, d10, d11, d12⟩ := blk13 hkV
    have z0 := frozen_row hkV 0
    have z1 := frozen_row hkV 1
    have z2 := frozen_row hkV 2
    have z3 := frozen_row hkV 3
    have z4 := frozen_row hkV 4
    have z5 := frozen_row hkV 5
    have z6 := frozen_row hkV 6
    have z7 := frozen_row hkV 7
    have z8 := frozen_row hkV 8
    have z9 := frozen_row hkV 9
    have z10 := frozen_row hkV 10
    have z11 := frozen_row hkV 11
    have z12 := frozen_row hkV 12
    have HV2 := Lib.hid hkV
    have hbV2 := below_call hbN1 hb
    clear hkV hb f2' hEN1 HN1
    have hbN2 := (hbV2.setCell (p := ⟨g, 7, none⟩) hgW (.int .u32 (adV (parseB x8.data.toList))))
    have hkN := (aset7 (u := .int .u32 (adV (parseB x8.data.toList))) HV2.out)
    have HN2 := Lib.hid hkN
    clear hkN
    have hEN2 := hE3.below hbN2
    have f3' := cell_kept hbN2 (cells_str (k := 10) HKL3.out rfl)
    clear hbN1 hbV1
    go_wp2_with fail
    clear d0 d1 d2 d3 d4 d5 d6 d7 d8 d9 d10 d11 d12 z0 z1 z2 z3 z4 z5 z6 z7 z8 z9 z10 z11 z12
    generalize (V2.setCell ⟨g, 7, none⟩ (.int .u32 (adV (parseB x8.data.toList)))) = Y2 at *
    refine (addrParse_any x10 Y2 hEN2 l10).mono ?_
    rintro e V3 ⟨rfl, hb⟩
    have hkV := blk_below hb HN2.out
    obtain ⟨d0, d1, d2, d3, d4, d5, d6, d7, d8, d9, d10, d11, d12⟩ := blk13 hkV
    have z0 := frozen_row hkV 0
    have z1 := frozen_row hkV 1
    have z2 := frozen_row hkV 2
    have z3 := frozen_row hkV 3
    have z4 := frozen_row hkV 4
    have z5 := frozen_row hkV 5
    have z6 := frozen_row hkV 6
    have z7 := frozen_row hkV 7
    have z8 := frozen_row hkV 8
    have z9 := frozen_row hkV 9
    have z10 := frozen_row hkV 10
    have z11 := frozen_row hkV 11
    have z12 := frozen_row hkV 12
    have HV3 := Lib.hid hkV
    have hbV3 := below_call hbN2 hb
    clear hkV hb f3' hEN2 HN2
    have hbN3 := (hbV3.setCell (p := ⟨g, 8, none⟩) hgW (.int .u32 (adV (parseB x10.data.toList))))
    have hkN := (aset8 (u := .int .u32 (adV (parseB x10.data.toList))) HV3.out)
    have HN3 := Lib.hid hkN
    clear hkN
    have hEN3 := hE3.below hbN3
    have f4' := cell_kept hbN3 (cells_str (k := 13) HKL3.out rfl)
    clear hbN2 hbV2
    go_wp2_with fail
    clear d0 d1 d2 d3 d4 d5 d6 d7 d8 d9 d10 d11 d12 z0 z1 z2 z3 z4 z5 z6 z7 z8 z9 z10 z11 z12
    generalize (V3.setCell ⟨g, 8, none⟩ (.int .u32 (adV (parseB x10.data.toList)))) = Y3 at *
    refine (addrParse_any x13 Y3 hEN3 l13).mono ?_
    rintro e V4 ⟨rfl, hb⟩
    have hkV := blk_below hb HN3.out
    obtain ⟨d0, d1, d2, d3, d4, d5, d6, d7, d8, d9, d10, d11, d12⟩ := blk13 hkV
    have z0 := frozen_row hkV 0
    have z1 := frozen_row hkV 1
    have z2 := frozen_row hkV 2
    have z3 := frozen_row hkV 3
    have z4 := frozen_row hkV 4
    have z5 := frozen_row hkV 5
    have z6 := frozen_row hkV 6
    have z7 := frozen_row hkV 7
    have z8 := frozen_row hkV 8
    have z9 := frozen_row hkV 9
    have z10 := frozen_row hkV 10
    have z11 := frozen_row hkV 11
    have z12 := frozen_row hkV 12
    have HV4 := Lib.hid hkV
    have hbV4 := below_call hbN3 hb
    clear hkV hb f4' hEN3 HN3
    have hbN4 := (hbV4.setCell (p := ⟨g, 10, none⟩) hgW (.int .u32 (adV (parseB x13.data.toList))))
    have hkN := (aset10 (u := .int .u32 (adV (parseB x13.data.toList))) HV4.out)
    have HN4 := Lib.hid hkN
    clear hkN
    have hEN4 := hE3.below hbN4
    clear hbN3 hbV3
    go_upto_region 12 with fail
    clear d0 d1 d2 d3 d4 d5 d6 d7 d8 d9 d10 d11 d12 z0 z1 z2 z3 z4 z5 z6 z7 z8 z9 z10 z11 z12
    generalize (V4.setCell ⟨g, 10, none⟩ (.int .u32 (adV (parseB x13.data.toList)))) = W4 at *

    clear hba hbc hbe hbg hbi hbk hbl hbn hbp hia hic hie hig hii hik hil hin hip l0 l2 l4 l6 l8 l10 l13 l15 hbV4
    have hkL4 := blk_below hbN4 HKL3.out
    have HKL4 := Lib.hid hkL4
    clear hkL4
    have KM := Lib.hid (fun (o n c : Nat) (ho : o + n ≤ N) (hc : n ≤ c) (V : World) (hV : Below W4.heap.size W4 V) => numbers_any (((x0 :: x1 :: x2 :: x3 :: x4 :: x5 :: x6 :: x7 :: x8 :: x9 :: x10 :: x11 :: x12 :: x13 :: x14 :: x15 :: x16 :: R).drop o).take n) (.slice (some ⟨gL, o, none⟩) n c) V (hEN4.below hV) (rd_sub (blk_below hV HKL4.out) (fun _ => rfl) (by rw [HLN.out]; exact ho) hc) (fun x hx => HL.out x (List.mem_of_mem_drop (List.mem_of_mem_take hx))) (by have := HLN.out; rw [List.length_take, List.length_drop]; omega))
    have hb17 : (17 : Int) ≤ (ni : Int) := by omega
    have hbNi : (ni : Int) ≤ (N : Int) := by omega
    have hbn1 : (ni : Int) + 1 ≤ (nj : Int) := by omega
    have hbNj : (nj : Int) ≤ (N : Int) := by omega
    have hni0 : (0 : Int) ≤ (ni : Int) := by omega
    have hN17 : ¬ N = 17 := by omega
    have hNi1 : ¬ N = ni + 1 := by omega
    have hlt1 : 17 ≤ N := by omega
    have hlt2 : ni + 1 ≤ N := by omega
    have hlt3 : ni + 1 ≤ nj := by omega
    have hw1 : wrap64 ((ni : Int) + 1) = (ni : Int) + 1 := by unfold wrap64; omega
    go_cut [] (fun wx => Hid (∃ (vp vo : Value) (pa co : List Int), wx.heap[g]? = some (.cells #[.int .u32 (ppA x0.data.toList), .int .i64 (ppN x0.data.toList), .int .u32 (adV (parseB x2.data.toList)), .int .i64 (num31 x4.data.toList), .int .i64 (num31 x6.data.toList), vp, vo, .int .u32 (adV (parseB x8.data.toList)), .int .u32 (adV (parseB x10.data.toList)), .bool (decide (x11.data.toList = extW)), .int .u32 (adV (parseB x13.data.toList)), .slice none 0 0, .int .i64 (num31 x15.data.toList)] 31 (0, 0)) ∧ Rd wx wx.heap.size 1 vp pa.length (pa.map (Value.int .u32)) ∧ Rd wx wx.heap.size 1 vo co.length (co.map (Value.int .u32)) ∧ FarV g vp ∧ FarV g vo ∧ FarV w.heap.size vp ∧ FarV w.heap.size vo ∧ u32s pa ∧ u32s co ∧ ListRel NumRel ((((x0 :: x1 :: x2 :: x3 :: x4 :: x5 :: x6 :: x7 :: x8 :: x9 :: x10 :: x11 :: x12 :: x13 :: x14 :: x15 :: x16 :: R).drop 17).take (ni - 17)).map (·.data.toList)) pa ∧ ListRel NumRel ((((x0 :: x1 :: x2 :: x3 :: x4 :: x5 :: x6 :: x7 :: x8 :: x9 :: x10 :: x11 :: x12 :: x13 :: x14 :: x15 :: x16 :: R).drop (ni + 1)).take (nj - (ni + 1))).map (·.data.toList)) co ∧ Below W3.heap.size W3 wx))
    case first =>
      refine wp_region_treeB (W0 := W3) (plains (.bar 3 (plains (.bar 9 (.bar 11 (plains (.bar 13 .done) [12]))) [10])) [0, 1, 2, 4, 5, 6, 7, 8]) hbN4 (by kernel_rfl) (by kernel_rfl) ?_
      have hd0 := below_drawn W4
      have hv0 := below_call hbN4 hd0
      have hkg0 := blk_below hd0 HN4.out
      generalize { W4 with drawn := W4.drawn + 1 } = V0 at *
      refine tree_take [0, 1, 2, 4, 5, 6, 7, 8] [_, _, _, _, _, _, _, _] rfl rfl ?_
      simp only [List.getElem_toArray, List.getElem_cons_zero, List.getElem_cons_succ]
      repeat (go_big_quiet_step (fail))
      refine wpQuiet_nil ?_
      refine tree_bar ?_
      refine step_same rfl (by rfl) ?_
      simp only [List.getElem_toArray, List.getElem_cons_zero, List.getElem_cons_succ]
      go_simp
      refine (KM.out 17 (ni - 17) (N - 17) (by omega) (by omega) V0 hd0).mono ?_
      rintro e V1 ⟨v1, pa, rfl, own1, u1, r1, hb1⟩
      have hd1 := below_call hd0 hb1
      have hv1 := below_call hv0 hb1
      have hkg1 := blk_below hb1 hkg0
      obtain ⟨A1, c1, rfl, _⟩ := owns_form own1
      have far1 := far_own own1 (lt_of_block hkg0)
      have fas1 := far_own (g := w.heap.size) own1 (Nat.lt_of_lt_of_le hgw3 hv0.size)
      have rd1 := Rd.of_own own1
      refine ⟨regrown_of_below hv1, ?_⟩
      clear own1
      refine tree_take [10] [_] rfl rfl ?_
      simp only [List.getElem_toArray, List.getElem_cons_zero, List.getElem_cons_succ]
      repeat (go_big_quiet_step (fail))
      refine wpQuiet_nil ?_
      refine tree_bar ?_
      refine step_same rfl (by rfl) ?_
      simp only [List.getElem_toArray, List.getElem_cons_zero, List.getElem_cons_succ]
      go_simp
      refine (KM.out (ni + 1) (nj - (ni + 1)) (N - (ni + 1)) (by omega) (by omega) V1 hd1).mono ?_
      rintro e V2 ⟨v2, co, rfl, own2, u2, r2, hb2⟩
      have hv2 := below_call hv1 hb2
      have hkg2 := blk_below hb2 hkg1
      obtain ⟨A2, c2, rfl, _⟩ := owns_form own2
      have far2 := far_own own2 (lt_of_block hkg1)
      have fas2 := far_own (g := w.heap.size) own2 (Nat.lt_of_lt_of_le hgw3 hv1.size)
      have rd2 := Rd.of_own own2
      have rd12 := (rd1.below hb2).mono hb2.size
      refine ⟨regrown_of_below hv2, ?_⟩
      clear own2 rd1 hkg0 hkg1
      refine tree_bar ?_
      obtain ⟨d0, d1, d2, d3, d4, d5, d6, d7, d8, d9, d10, d11, d12⟩ := blk13 hkg2
      have z0 := frozen_row hkg2 0
      have z1 := frozen_row hkg2 1
      have z2 := frozen_row hkg2 2
      have z3 := frozen_row hkg2 3
      have z4 := frozen_row hkg2 4
      have z5 := frozen_row hkg2 5
      have z6 := frozen_row hkg2 6
      have z7 := frozen_row hkg2 7
      have z8 := frozen_row hkg2 8
      have z9 := frozen_row hkg2 9
      have z10 := frozen_row hkg2 10
      have z11 := frozen_row hkg2 11
      have z12 := frozen_row hkg2 12
      have HK2 := Lib.hid hkg2
      clear hkg2
      refine step_same rfl (by rfl) ?_
      simp only [List.getElem_toArray, List.getElem_cons_zero, List.getElem_cons_succ]
      go_simp
      have hv3 := hv2.setCell (p := ⟨g, 5, none⟩) hgW (.slice A1 pa.length c1)
      refine ⟨regrown_of_below hv3, ?_⟩
      have hkg3 := aset5 (u := .slice A1 pa.length c1) HK2.out
      have rd13 := rd12.setFar (i := 5) (u := .slice A1 pa.length c1) far1
      have rd23 := rd2.setFar (i := 5) (u := .slice A1 pa.length c1) far2
      clear d0 d1 d2 d3 d4 d5 d6 d7 d8 d9 d10 d11 d12 z0 z1 z2 z3 z4 z5 z6 z7 z8 z9 z10 z11 z12 rd12 rd2
      have hs2 : (V2.setCell ⟨g, 5, none⟩ (.slice A1 pa.length c1)).heap.size = V2.heap.size := by simp [World.setCell]
      rw [← hs2] at rd13 rd23
      clear hs2
      generalize V2.setCell ⟨g, 5, none⟩ (.slice A1 pa.length c1) = V3 at *
      refine tree_take [12] [_] rfl rfl ?_
      simp only [List.getElem_toArray, List.getElem_cons_zero, List.getElem_cons_succ]
      repeat (go_big_quiet_step (fail))
      refine wpQuiet_nil ?_
      refine tree_bar ?_
      obtain ⟨d0, d1, d2, d3, d4, d5, d6, d7, d8, d9, d10, d11, d12⟩ := blk13 hkg3
      have z0 := frozen_row hkg3 0
      have z1 := frozen_row hkg3 1
      have z2 := frozen_row hkg3 2
      have z3 := frozen_row hkg3 3
      have z4 := frozen_row hkg3 4
      have z5 := frozen_row hkg3 5
      have z6 := frozen_row hkg3 6
      have z7 := frozen_row hkg3 7
      have z8 := frozen_row hkg3 8
      have z9 := frozen_row hkg3 9
      have z10 := frozen_row hkg3 10
      have z11 := frozen_row hkg3 11
      have z12 := frozen_row hkg3 12
      have HK3 := Lib.hid hkg3
      clear hkg3
      refine step_same rfl (by rfl) ?_
      simp only [List.getElem_toArray, List.getElem_cons_zero, List.getElem_cons_succ]
      go_simp
      have hv4 := hv3.setCell (p := ⟨g, 6, none⟩) hgW (.slice A2 co.length c2)
      refine ⟨regrown_of_below hv4, ?_⟩
      have hkg4 := aset6 (u := .slice A2 co.length c2) HK3.out
      have rd14 := rd13.setFar (i := 6) (u := .slice A2 co.length c2) far1
      have rd24 := rd23.setFar (i := 6) (u := .slice A2 co.length c2) far2
      have hs3 : (V3.setCell ⟨g, 6, none⟩ (.slice A2 co.length c2)).heap.size = V3.heap.size := by simp [World.setCell]
      rw [← hs3] at rd14 rd24
      clear d0 d1 d2 d3 d4 d5 d6 d7 d8 d9 d10 d11 d12 z0 z1 z2 z3 z4 z5 z6 z7 z8 z9 z10 z11 z12
      refine tree_end ?_
      go_wp2_with fail
      go_meet
      exact ⟨_, _, pa, co, hkg4, rd14, rd24, far1, far2, fas1, fas2, u1, u2, r1, r2, hv4⟩
    case rest =>
      obtain ⟨vp, vo, pa, co, hkd, rdp, rdo, farp, faro, fasp, faso, up, uo, rp, ro', hbd⟩ := hcut.out
      clear hcut hw1 hN17 hNi1 hlt1 hlt2 hlt3 hb17 hbn1 hni0 hbNi KM HN4 hbN4 hEN4 HKL4
      rename World => wd
      have HKD := Lib.hid hkd
      have RDP := Lib.hid rdp
      have RDO := Lib.hid rdo
      have HBD := Lib.hid hbd
      have RP := Lib.hid rp
      have RO := Lib.hid ro'
      have UP := Lib.hid up
      have UO := Lib.hid uo
      have FP := Lib.hid farp
      have FO := Lib.hid faro
      have FSP := Lib.hid fasp
      have FSO := Lib.hid faso
      have hgd : Hid (g < wd.heap.size) := lt_of_block hkd
      clear hkd rdp rdo hbd rp ro' up uo farp faro fasp faso
      have hnj0 : (0 : Int) ≤ (nj : Int) := by omega
      have hj1 : nj + 1 ≤ N := by omega
      have hj1i : (nj : Int) + 1 ≤ (N : Int) := by omega
      have hw3 : wrap64 ((nj : Int) + 1) = (nj : Int) + 1 := by unfold wrap64; omega
      have hcz : N = nj + 1 ∨ ¬ N = nj + 1 := by omega
      go_upto_region 13 with fail
      go_cut [105, 106, 107] (fun s5 s6 s7 wx => ∃ A : Option Addr, s5 = .slice A (N - (nj + 1)) (N - (nj + 1)) ∧ s6 = .int .i64 ((N - (nj + 1) : Nat) : Int) ∧ s7 = .int .i64 0 ∧ Hid ((0 < N - (nj + 1) → A = some ⟨gL, nj + 1, none⟩) ∧ wx = wd))
      case first =>
        clear hrn h17 hij hlim hnj0
        rcases hcz with rfl | hz
        · clear hj1 hj1i
          go_wp2_with fail
          go_meet
          exact ⟨_, by simp; rfl, by simp, rfl, fun h => absurd h (by omega), rfl⟩
        · go_wp2_with fail
          go_meet
          exact ⟨_, rfl, rfl, rfl, fun _ => rfl, rfl⟩
      case rest =>
       clear hcz
       obtain ⟨A3, hs5, hs6, hs7, hA3⟩ := hcut
       subst hs5 hs6 hs7
       obtain ⟨hA4, rfl⟩ := hA3.out
       clear hA3
       rename World => wd
       generalize hn3 : N - (nj + 1) = n3 at *
       have HN3 := Lib.hid hn3
       have hn3b : n3 ≤ 5000 := by omega
       clear hn3 hw3 hj1 hj1i
       go_wp2
       obtain ⟨i0, hi0', hz0, hz1, hz2⟩ := info_parts Tryz.infoAddr
       go_loopw [9, 10, 11, 107] (fun _ _ _ i wr => ∃ (k : Nat) (vl : Value) (cl : List Int), i = .int .i64 k ∧ k ≤ n3 ∧ cl.length = k ∧ Hid (wr.heap[g]? = some (.cells #[.int .u32 (ppA x0.data.toList), .int .i64 (ppN x0.data.toList), .int .u32 (adV (parseB x2.data.toList)), .int .i64 (num31 x4.data.toList), .int .i64 (num31 x6.data.toList), vp, vo, .int .u32 (adV (parseB x8.data.toList)), .int .u32 (adV (parseB x10.data.toList)), .bool (decide (x11.data.toList = extW)), .int .u32 (adV (parseB x13.data.toList)), vl, .int .i64 (num31 x15.data.toList)] 31 (0, 0)) ∧ wr.ownsRow wd.heap.size 23 1 vl cl.length (cl.map (Value.int .u32)) ∧ Rd wr wd.heap.size 1 vp pa.length (pa.map (Value.int .u32)) ∧ Rd wr wd.heap.size 1 vo co.length (co.map (Value.int .u32)) ∧ u32s cl ∧ ListRel AddrRel ((((x0 :: x1 :: x2 :: x3 :: x4 :: x5 :: x6 :: x7 :: x8 :: x9 :: x10 :: x11 :: x12 :: x13 :: x14 :: x15 :: x16 :: R).drop (nj + 1)).take k).map (·.data.toList)) cl ∧ Below W3.heap.size W3 wr ∧ wd.heap.size ≤ wr.heap.size)) (fun _ _ _ i _ => n3 - (intOf i).toNat)
       case atStart => exact ⟨0, .slice none 0 0, [], rfl, by omega, rfl, HKD.out, World.ownsRow_nil _ _ _ _, RDP.out, RDO.out, u32s_nil, listRel_nil _, HBD.out, Nat.le_refl _⟩
       case round =>
        obtain ⟨k, vl, cl, rfl, hk, hlk, hst⟩ := hrel
        obtain rfl : cl.length = k := hlk
        obtain ⟨hG, hO, hrp, hro, hu, hlr, hB3, hsz⟩ := hst.out
        have HG := Lib.hid hG
        have HO := Lib.hid hO
        have HRP := Lib.hid hrp
        have HRO := Lib.hid hro
        have HU := Lib.hid hu
        have HLR := Lib.hid hlr
        have HB3 := Lib.hid hB3
        have HSZ := Lib.hid hsz
        clear hst hG hO hrp hro hu hlr hB3 hsz
        by_cases hlt : cl.length < n3
        · have hI : (cl.length : Int) < (n3 : Int) := by omega
          obtain rfl := hA4 (by omega)
          obtain ⟨x, hx⟩ : ∃ x, ((x0 :: x1 :: x2 :: x3 :: x4 :: x5 :: x6 :: x7 :: x8 :: x9 :: x10 :: x11 :: x12 :: x13 :: x14 :: x15 :: x16 :: R).drop (nj + 1))[cl.length]? = some x := ⟨_, List.getElem?_eq_getElem (by have := HLN.out; have := HN3.out; rw [List.length_drop]; omega)⟩
          have f0 : wr.cell? ⟨gL, nj + 1 + cl.length, none⟩ = some (.string x) := cell_kept HB3.out (cells_str (k := nj + 1 + cl.length) HKL3.out (by rw [List.getElem?_drop] at hx; exact hx))
          have hxs := HL.out x (List.mem_of_mem_drop (List.mem_of_getElem? hx))
          have HX := Lib.hid hx
          have hC := Lib.hid (addrParse_any x wr (hE3.below HB3.out) hxs)
          clear hx hxs
          go_wp2_with fail
          refine hC.out.mono ?_
          rintro e V ⟨rfl, hb⟩
          have HGV := Lib.hid (blk_below hb HG.out)
          have HBV := Lib.hid (below_call HB3.out hb)
          have hOV := owns_kept_none HO.out (only_of_below hb none)
          have hbd := hb.mono HSZ.out
          have HRPV := Lib.hid (HRP.out.below hbd)
          have HROV := Lib.hid (HRO.out.below hbd)
          have hszV : wd.heap.size ≤ V.heap.size := Nat.le_trans HSZ.out hb.size
          have hgv := HGV.out
          obtain ⟨d0, d1, d2, d3, d4, d5, d6, d7, d8, d9, d10, d11, d12⟩ := blk13 hgv
          have hadd := adV_lt x.data.toList
          clear hb hbd hgv f0 hC
          go_wp2_with (at_builtin; refine wpList_push rfl _ _ 29 rfl 23 i0 _ 1 4 Tryz.underlying29 hi0' hz0 hz1 hz2 rfl (by decide) (by decide) [.int .u32 (adV (parseB x.data.toList))] rfl rfl (by simp) hOV rfl (one_u32 _) (by omega) hszV (Below.refl wd.heap.size V) (Nat.le_refl _) ?_; intro v2 w2 hown2 hb2; obtain ⟨A5, c5, rfl, _⟩ := owns_form hown2; clear d0 d1 d2 d3 d4 d5 d6 d7 d8 d9 d10 d11 d12; have hgv2 := (hb2.block g hgd.out).trans HGV.out; obtain ⟨d0, d1, d2, d3, d4, d5, d6, d7, d8, d9, d10, d11, d12⟩ := blk13 hgv2; have z0 := frozen_row hgv2 0; have z1 := frozen_row hgv2 1; have z2 := frozen_row hgv2 2; have z3 := frozen_row hgv2 3; have z4 := frozen_row hgv2 4; have z5 := frozen_row hgv2 5; have z6 := frozen_row hgv2 6; have z7 := frozen_row hgv2 7; have z8 := frozen_row hgv2 8; have z9 := frozen_row hgv2 9; have z10 := frozen_row hgv2 10; have z11 := frozen_row hgv2 11; have z12 := frozen_row hgv2 12)
          have hB2 := HBV.out.trans (hb2.mono (Nat.le_trans (HBD.out.size) (Nat.le_refl _)))
          have hN2 := Lib.hid (show (w2.setCell ⟨g, 11, none⟩ (.slice A5 (cl.length + 1) c5)).heap[g]? = _ from aset11 (u := (.slice A5 (cl.length + 1) c5)) hgv2)
          have hO2 : (w2.setCell ⟨g, 11, none⟩ (.slice A5 (cl.length + 1) c5)).ownsRow wd.heap.size 23 1 (.slice A5 (cl.length + 1) c5) (cl ++ [adV (parseB x.data.toList)]).length ((cl ++ [adV (parseB x.data.toList)]).map (Value.int .u32)) := by
            rw [List.length_append, List.map_append]
            exact owns_kept_lt hown2 (only_setCell (p := ⟨g, 11, none⟩) (World.grownBy.refl w2 (some g)) (.inl rfl) (.slice A5 (cl.length + 1) c5)) hgd.out
          have HO2 := Lib.hid hO2
          have HRP2 := Lib.hid ((HRPV.out.below hb2).setFar (i := 11) (u := (.slice A5 (cl.length + 1) c5)) FP.out)
          have HRO2 := Lib.hid ((HROV.out.below hb2).setFar (i := 11) (u := (.slice A5 (cl.length + 1) c5)) FO.out)
          have HB4 := Lib.hid (hB2.setCell (p := ⟨g, 11, none⟩) hgW (.slice A5 (cl.length + 1) c5))
          have HS4 : Hid (wd.heap.size ≤ (w2.setCell ⟨g, 11, none⟩ (.slice A5 (cl.length + 1) c5)).heap.size) := by
            have := hb2.size
            have h2 : (w2.setCell ⟨g, 11, none⟩ (.slice A5 (cl.length + 1) c5)).heap.size = w2.heap.size := by simp [World.setCell]
            exact Lib.hid (by omega)
          have HU2 := Lib.hid (u32s_snoc HU.out hadd.1 hadd.2)
          have hlr2 : Hid (ListRel AddrRel ((((x0 :: x1 :: x2 :: x3 :: x4 :: x5 :: x6 :: x7 :: x8 :: x9 :: x10 :: x11 :: x12 :: x13 :: x14 :: x15 :: x16 :: R).drop (nj + 1)).take (cl.length + 1)).map (·.data.toList)) (cl ++ [adV (parseB x.data.toList)])) := by
            rw [List.take_add_one, HX.out, List.map_append]
            exact listRel_snoc HLR.out (addrRel_adV _)
          exact ⟨⟨cl.length + 1, (.slice A5 (cl.length + 1) c5), cl ++ [adV (parseB x.data.toList)], by go_num, by omega, by simp, hN2.out, HO2.out, HRP2.out, HRO2.out, HU2.out, hlr2.out, HB4.out, HS4.out⟩, by simp only [intOf]; omega⟩
        · have hI : ¬ (cl.length : Int) < (n3 : Int) := by omega
          have hkn : cl.length = n3 := by omega
          have hrng4 := num31_lt x4.data.toList
          have hrng6 := num31_lt x6.data.toList
          have hrng15 := num31_lt x15.data.toList
          obtain ⟨C, hC⟩ : ∃ C, C = candA x0.data.toList x2.data.toList x8.data.toList x10.data.toList x11.data.toList x13.data.toList (num31 x4.data.toList) (num31 x6.data.toList) (num31 x15.data.toList) pa co cl (by omega) (by omega) (by omega) UP.out UO.out HU.out := ⟨_, rfl⟩
          have hkC : wr.heap[g]? = some (avObj C vp vo vl) := by rw [hC]; exact HG.out
          have hlr := HLR.out
          rw [List.take_of_length_le (by have := HLN.out; have := HN3.out; rw [List.length_drop]; omega)] at hlr
          have hfit : ∀ r : AvV, r.ok = true → r.words = pieces 32 s.data.toList → C = r := by
            intro r hr hw
            have hw2 : ((x0 :: x1 :: x2 :: x3 :: x4 :: x5 :: x6 :: x7 :: x8 :: x9 :: x10 :: x11 :: x12 :: x13 :: x14 :: x15 :: x16 :: R).map (·.data.toList)) = r.words := by rw [hw, HP.out]; rfl
            obtain ⟨e1, e2, e3⟩ := lists_fit hr hw2 HIX.out HJX.out
            have q1 := RP.out
            have q2 := RO.out
            rw [e1] at q1
            rw [e2] at q2
            rw [e3] at hlr
            rw [hC]
            refine candA_fits (num31_rel _) (num31_rel _) (sess31_rel _) (rest := R.map (·.data.toList)) (fun r' hr' ht' => ?_) hr (by rw [hw, HP.out])
            have ht : R.map (·.data.toList) = r.tail := by
              have := words_tail hw2 0
              simpa using this
            have e := scan_tail r'
            rw [← ht', ht, scan_tail r] at e
            injection e with _ z1 z2 z3
            rw [z1] at q1
            rw [z2] at q2
            rw [z3] at hlr
            exact ⟨listRel_dec q1 r'.hpa, listRel_dec q2 r'.hco, listRel_addr hlr r'.hcl⟩
          have hO := avO_cand hfit
          have hlen : C.pa.length + C.co.length + C.cl.length ≤ 10000 := by
            have q1 := RP.out.1
            have q2 := RO.out.1
            have q3 := hlr.1
            rw [List.length_map] at q1 q2 q3
            rw [List.length_take] at q1 q2
            have hx := HLN.out
            rw [hC]
            show pa.length + co.length + cl.length ≤ 10000
            omega
          have hss : C.ss = num31 x15.data.toList := by rw [hC]; rfl
          have rdl := Rd.of_own HO.out
          have hEr := hE3.below HB3.out
          have hCp : C.pa = pa := by rw [hC]; rfl
          have hCo : C.co = co := by rw [hC]; rfl
          have hCl : C.cl = cl := by rw [hC]; rfl
          have FSL := Lib.hid (far_own (g := w.heap.size) HO.out (Nat.lt_of_lt_of_le hgw3 HBD.out.size))
          have hT := fun V (hV : Below wr.heap.size wr V) => avText_any C vp vo vl V (hEr.below hV) (by rw [hCp]; exact ((HRP.out.mono HSZ.out).below hV).mono hV.size) (by rw [hCo]; exact ((HRO.out.mono HSZ.out).below hV).mono hV.size) (by rw [hCl]; exact (rdl.below hV).mono hV.size) hlen
          have HT := Lib.hid hT
          have HOO := Lib.hid hO
          have HSS := Lib.hid hss
          have HKC := Lib.hid hkC
          have HRL := Lib.hid rdl
          have HCP := Lib.hid hCp
          have HCO := Lib.hid hCo
          have HCL := Lib.hid hCl
          have hk0 := blk_below HB3.out HK3.out
          have HK0 := Lib.hid hk0
          have hbw0 := Lib.hid (hb3.trans (HB3.out.mono hb3.size))
          clear hC hT hO hss hkC rdl hCp hCo hCl hlen hfit hlr hk0 hrng4 hrng6 hrng15 hkn
          have f15 : wr.cell? ⟨gL, 15, none⟩ = some (.string x15) := cell_kept HB3.out (cells_str (k := 15) HKL3.out rfl)
          have h15 : 15 < N := by omega
          have h15i : (15 : Int) < (N : Int) := by omega
          obtain ⟨d0, d1, d2, d3, d4, d5, d6, d7, d8, d9, d10, d11, d12⟩ := av_blk HKC.out
          by_cases hs1 : C.ss = -1 ∧ x15.data.toList ≠ oneW
          · have hno := Lib.hid (avO_sess HP.out (HSS.out.symm.trans hs1.1) hs1.2)
            have e1 : (C.ss == -1) = true := by rw [hs1.1]; rfl
            have e2 : (x15.toList != [45, 49]) = true := by rw [list_of]; exact bne_iff_ne.2 hs1.2
            have e3 : (x15.toList == [45, 49]) = false := by simpa using e2
            have HKZ := HK0
            have hbw := hbw0.out
            obtain ⟨c0, c1, c2, c3, c4, c5, c6, c7, c8, c9, c10, c11, c12⟩ := av_blk HK0.out
            have z0 := frozen_row HK0.out 0
            have z1 := frozen_row HK0.out 1
            have z2 := frozen_row HK0.out 2
            have z3 := frozen_row HK0.out 3
            have z4 := frozen_row HK0.out 4
            have z5 := frozen_row HK0.out 5
            have z6 := frozen_row HK0.out 6
            have z7 := frozen_row HK0.out 7
            have z8 := frozen_row HK0.out 8
            have z9 := frozen_row HK0.out 9
            have z10 := frozen_row HK0.out 10
            have z11 := frozen_row HK0.out 11
            have z12 := frozen_row HK0.out 12
            clear hs1
            go_wp2_with fail
            exact bodyPost_ret (results_a (t1 := 2) (t3 := 3) (g := w.heap.size) (r := av0) (vp := .slice none 0 0) (vo := .slice none 0 0) (vl := .slice none 0 0) Tryz.results12 rfl rfl (aset12 (aset11 (aset10 (aset9 (aset8 (aset7 (aset6 (aset5 (aset4 (aset3 (aset2 (aset1 (aset0 HKZ.out)))))))))))))) rfl (avRes_no hno.out rfl (((((((((((((hbw.setCell (Nat.le_refl _) _).setCell (Nat.le_refl _) _).setCell (Nat.le_refl _) _).setCell (Nat.le_refl _) _).setCell (Nat.le_refl _) _).setCell (Nat.le_refl _) _).setCell (Nat.le_refl _) _).setCell (Nat.le_refl _) _).setCell (Nat.le_refl _) _).setCell (Nat.le_refl _) _).setCell (Nat.le_refl _) _).setCell (Nat.le_refl _) _).setCell (Nat.le_refl _) _))
          · have hcs : ((C.ss == -1) = false) ∨ ((C.ss == -1) = true ∧ (x15.toList != [45, 49]) = false ∧ (x15.toList == [45, 49]) = true) := by
              by_cases h1 : C.ss = -1
              · right
                have h2 : x15.data.toList = [45, 49] := Classical.byContradiction fun h => hs1 ⟨h1, h⟩
                refine ⟨by rw [h1]; rfl, ?_, ?_⟩
                · rw [list_of, h2]; rfl
                · rw [list_of, h2]; rfl
              · left; simpa using h1
            clear hs1
            have hT0 := HT.out wr (Below.refl _ _)
            obtain ⟨tt, htt⟩ : ∃ x, (⟨C.told.toArray⟩ : ByteArray) = x := ⟨_, rfl⟩
            rw [htt] at hT0
            have HT0 := Lib.hid hT0
            have HTT := Lib.hid htt
            clear hT0 htt
            go_upto_region 19 with fail
            go_cut [131] (fun sb wx => sb = .bool false ∧ wx = wr)
            case first =>
              rcases hcs with e1 | ⟨e1, e2, e3⟩
              all_goals (
                go_wp2_with fail
                go_meet
                exact ⟨rfl, rfl⟩)
            case rest =>
              obtain ⟨hsb, rfl⟩ := hcut
              subst hsb
              rename World => wr
              clear hcs
              go_wp2_with fail
              refine HT0.out.mono ?_
              rintro e wh ⟨rfl, hbh⟩
              have HKZ := Lib.hid (blk_below hbh HK0.out)
              have hbw := hbw0.out.trans (hbh.mono hbw0.out.size)
              have HKC2 := Lib.hid (blk_below hbh HKC.out)
              have RP5 := Lib.hid (((HRP.out.mono HSZ.out).below hbh).mono hbh.size)
              have RO5 := Lib.hid (((HRO.out.mono HSZ.out).below hbh).mono hbh.size)
              have RL5 := Lib.hid ((HRL.out.below hbh).mono hbh.size)
              clear d0 d1 d2 d3 d4 d5 d6 d7 d8 d9 d10 d11 d12 f15 hbh
              obtain ⟨c0, c1, c2, c3, c4, c5, c6, c7, c8, c9, c10, c11, c12⟩ := av_blk HKZ.out
              have z0 := frozen_row HKZ.out 0
              have z1 := frozen_row HKZ.out 1
              have z2 := frozen_row HKZ.out 2
              have z3 := frozen_row HKZ.out 3
              have z4 := frozen_row HKZ.out 4
              have z5 := frozen_row HKZ.out 5
              have z6 := frozen_row HKZ.out 6
              have z7 := frozen_row HKZ.out 7
              have z8 := frozen_row HKZ.out 8
              have z9 := frozen_row HKZ.out 9
              have z10 := frozen_row HKZ.out 10
              have z11 := frozen_row HKZ.out 11
              have z12 := frozen_row HKZ.out 12
              cases hok : C.ok with
              | true =>
                have ht1 := av_told_yes hok
                have hs2 : (C.toldE != 0) = false := by rw [ht1.2]; rfl
                by_cases ht : C.text = s.data.toList
                · have hz := Lib.hid (av_some (HOO.out.trans (if_pos ⟨hok, ht⟩)))
                  have hs1 : (tt.toList != s.toList) = false := by rw [← HTT.out, ht1.1, ht, str_mk]; simp
                  have hs3 : (tt.toList == s.toList) = true := by simpa using hs1
                  obtain ⟨d0, d1, d2, d3, d4, d5, d6, d7, d8, d9, d10, d11, d12⟩ := av_blk HKC2.out
                  obtain ⟨Ap, cp, hvp, _⟩ := RP5.out.form
                  obtain ⟨Ao, cpo, hvo, _⟩ := RO5.out.form
                  obtain ⟨Al, cpl, hvl, _⟩ := RL5.out.form
                  subst hvp hvo hvl
                  clear hok ht ht1
                  go_wp2_with fail
                  refine bodyPost_ret (results_a (t1 := 2) (t3 := 3) (g := w.heap.size) (r := C) Tryz.results12 rfl rfl (aset12 (aset11 (aset10 (aset9 (aset8 (aset7 (aset6 (aset5 (aset4 (aset3 (aset2 (aset1 (aset0 HKZ.out)))))))))))))) rfl ?_
                  unfold AvRes
                  rw [hz.out.1, hz.out.2, HCP.out, HCO.out, HCL.out]
                  exact ⟨_, _, _, rfl, (rd13 RP5.out FSP.out).mono (Nat.le_of_eq size13.symm), (rd13 RO5.out FSO.out).mono (Nat.le_of_eq size13.symm), (rd13 RL5.out FSL.out).mono (Nat.le_of_eq size13.symm), (((((((((((((hbw.setCell (Nat.le_refl _) _).setCell (Nat.le_refl _) _).setCell (Nat.le_refl _) _).setCell (Nat.le_refl _) _).setCell (Nat.le_refl _) _).setCell (Nat.le_refl _) _).setCell (Nat.le_refl _) _).setCell (Nat.le_refl _) _).setCell (Nat.le_refl _) _).setCell (Nat.le_refl _) _).setCell (Nat.le_refl _) _).setCell (Nat.le_refl _) _).setCell (Nat.le_refl _) _)⟩
                · have hno := Lib.hid (HOO.out.trans (if_neg fun h => ht h.2))
                  have hs1 : (tt.toList != s.toList) = true := by
                    rw [← HTT.out, ht1.1, list_of, list_of]
                    simpa using ht
                  have hs3 : (tt.toList == s.toList) = false := by simpa using hs1
                  clear hok ht ht1
                  go_wp2_with fail
                  exact bodyPost_ret (results_a (t1 := 2) (t3 := 3) (g := w.heap.size) (r := av0) (vp := .slice none 0 0) (vo := .slice none 0 0) (vl := .slice none 0 0) Tryz.results12 rfl rfl (aset12 (aset11 (aset10 (aset9 (aset8 (aset7 (aset6 (aset5 (aset4 (aset3 (aset2 (aset1 (aset0 HKZ.out)))))))))))))) rfl (avRes_no hno.out rfl (((((((((((((hbw.setCell (Nat.le_refl _) _).setCell (Nat.le_refl _) _).setCell (Nat.le_refl _) _).setCell (Nat.le_refl _) _).setCell (Nat.le_refl _) _).setCell (Nat.le_refl _) _).setCell (Nat.le_refl _) _).setCell (Nat.le_refl _) _).setCell (Nat.le_refl _) _).setCell (Nat.le_refl _) _).setCell (Nat.le_refl _) _).setCell (Nat.le_refl _) _).setCell (Nat.le_refl _) _))
              | false =>
                have ht1 := av_told_no hok
                have hno := Lib.hid (HOO.out.trans (if_neg fun h => by rw [hok] at h; exact absurd h.1 (by decide)))
                have hs2 : (C.toldE != 0) = true := by rw [ht1.2]; rfl
                clear hok ht1
                go_wp2_with fail
                exact bodyPost_ret (results_a (t1 := 2) (t3 := 3) (g := w.heap.size) (r := av0) (vp := .slice none 0 0) (vo := .slice none 0 0) (vl := .slice none 0 0) Tryz.results12 rfl rfl (aset12 (aset11 (aset10 (aset9 (aset8 (aset7 (aset6 (aset5 (aset4 (aset3 (aset2 (aset1 (aset0 HKZ.out)))))))))))))) rfl (avRes_no hno.out rfl (((((((((((((hbw.setCell (Nat.le_refl _) _).setCell (Nat.le_refl _) _).setCell (Nat.le_refl _) _).setCell (Nat.le_refl _) _).setCell (Nat.le_refl _) _).setCell (Nat.le_refl _) _).setCell (Nat.le_refl _) _).setCell (Nat.le_refl _) _).setCell (Nat.le_refl _) _).setCell (Nat.le_refl _) _).setCell (Nat.le_refl _) _).setCell (Nat.le_refl _) _).setCell (Nat.le_refl _) _))
theorem seventeen {L : List ByteArray} (h : 17 ≤ L.length) : ∃ x0 x1 x2 x3 x4 x5 x6 x7 x8 x9 x10 x11 x12 x13 x14 x15 x16 R, L = x0 :: x1 :: x2 :: x3 :: x4 :: x5 :: x6 :: x7 :: x8 :: x9 :: x10 :: x11 :: x12 :: x13 :: x14 :: x15 :: x16 :: R := by
  obtain ⟨x0, x1, x2, x3, x4, R, rfl⟩ := five_list (L := L) (by omega)
  obtain ⟨x5, x6, x7, x8, x9, R, rfl⟩ := five_list (L := R) (by simp at h; omega)
  obtain ⟨x10, x11, x12, x13, x14, R, rfl⟩ := five_list (L := R) (by simp at h; omega)
  rcases R with _ | ⟨x15, _ | ⟨x16, R⟩⟩
  · simp at h
  · simp at h
  · exact ⟨_, _, _, _, _, _, _, _, _, _, _, _, _, _, _, _, _, _, rfl⟩
theorem avParse_any (s : ByteArray) (w : World) (hE : Env w) (hlim : s.size < 4294967281) (hpc : (pieces 32 s.data.toList).length ≤ 5000) :
    Calls Tryz.prog 12 #[.string s] w fun e w' => AvRes s.data.toList w e w' := by
  have hP := splitB_pieces 32 s
  have hN := countB_pieces 32 s
  have hl : (Lib.splitB ⟨#[32]⟩ 0 (Lib.countB s ⟨#[32]⟩) s).length = (pieces 32 s.data.toList).length := by rw [← hP, List.length_map]
  have hss : s.data.toList.length = s.size := Array.length_toList
  have hcnt := pieces_cnt 32 s.data.toList
  have hsz : ∀ x ∈ Lib.splitB ⟨#[32]⟩ 0 (Lib.countB s ⟨#[32]⟩) s, x.size < 4294967281 := fun x hx => by
    have h1 : x.data.toList ∈ pieces 32 s.data.toList := by rw [← hP]; exact List.mem_map_of_mem hx
    have h2 := pieces_len 32 _ _ h1
    have e2 : x.data.toList.length = x.size := Array.length_toList
    omega
  generalize hL : Lib.splitB ⟨#[32]⟩ 0 (Lib.countB s ⟨#[32]⟩) s = L at *
  by_cases h : 19 ≤ L.length ∧ 17 ≤ Lib.idxOfS L ⟨commW.toArray⟩ ∧ Lib.idxOfS L ⟨commW.toArray⟩ ≤ Lib.idxOfS L ⟨clusW.toArray⟩
  · obtain ⟨h1, h2, h3⟩ := h
    rcases idx_spec L ⟨commW.toArray⟩ with hi | ⟨ni, hi, gi⟩
    · omega
    rcases idx_spec L ⟨clusW.toArray⟩ with hj | ⟨nj, hj, gj⟩
    · omega
    have hne : ni ≠ nj := by
      rintro rfl
      rw [gi] at gj
      injection gj with gj
      exact comm_clus gj
    have hjl := (List.getElem?_eq_some_iff.1 gj).1
    obtain ⟨x0, x1, x2, x3, x4, x5, x6, x7, x8, x9, x10, x11, x12, x13, x14, x15, x16, R, rfl⟩ := seventeen (L := L) (by omega)
    have hlen : (pieces 32 s.data.toList).length = R.length + 17 := by rw [← hl]; rfl
    exact avParse_main s x0 x1 x2 x3 x4 x5 x6 x7 x8 x9 x10 x11 x12 x13 x14 x15 x16 R w hE (by omega) hP.symm hL _ (by rw [hN]) hlen hsz (by omega) ni nj hi hj (by omega) (by omega) (by rw [← hl]; exact hjl)
  · exact avParse_short s L w hE (by omega) hP hL (by rw [hN, hl]) (by omega) h
end Go.Proofs.YtpmoepipoafegaaGreatDoor

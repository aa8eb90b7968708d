/-
  Joined texts: Rt3, Rt8.
-/
import Derived.Test.YtakkgamhceignaaDoorMRoutesBack8
import Derived.Test.YtakkgamhceignaaDoorMRoutesBack9
import Derived.Test.YtakkgamhceignaaDoorMRoutesBack12
/-
  The walk of routes.AdvertText (written by wip/gen/genrt3.py).
-/
namespace Go.Proofs.YtakkgamhceignaaDoor
open Go Go.RowKit Go.Lib Go.Sort

def AvV.told (r : AvV) : List UInt8 := if r.ok then r.text else []
def AvV.toldE (r : AvV) : Int := if r.ok then 0 else 1
theorem av_told_yes {r : AvV} (h : r.ok = true) : r.told = r.text ∧ r.toldE = 0 := by unfold AvV.told AvV.toldE; rw [if_pos h, if_pos h]; exact ⟨rfl, rfl⟩
theorem av_told_no {r : AvV} (h : r.ok = false) : r.told = [] ∧ r.toldE = 1 := by unfold AvV.told AvV.toldE; rw [h]; exact ⟨rfl, rfl⟩
theorem av_ok_iff {r : AvV} : r.ok = true ↔ (chk r.a r.m = 0 ∧ (fineB r.pf = true ∧ fineB r.me = true) ∧ (r.ss = -1 ∨ fineB r.ss = true)) := by
  simp only [AvV.ok, Bool.and_eq_true, decide_eq_true_eq, Bool.or_eq_true, and_assoc]
theorem av_ok_no {r : AvV} (h : ¬ (chk r.a r.m = 0 ∧ (fineB r.pf = true ∧ fineB r.me = true) ∧ (r.ss = -1 ∨ fineB r.ss = true))) : r.ok = false := by
  cases e : r.ok with
  | false => rfl
  | true => exact absurd (av_ok_iff.1 e) h
theorem blk13 {w : World} {g : Nat} {v0 v1 v2 v3 v4 v5 v6 v7 v8 v9 v10 v11 v12 : Value} {t : TypeId} (h : w.heap[g]? = some (.cells #[v0, v1, v2, v3, v4, v5, v6, v7, v8, v9, v10, v11, v12] t (0, 0))) : w.cell? ⟨g, 0, none⟩ = some v0 ∧ w.cell? ⟨g, 1, none⟩ = some v1 ∧ w.cell? ⟨g, 2, none⟩ = some v2 ∧ w.cell? ⟨g, 3, none⟩ = some v3 ∧ w.cell? ⟨g, 4, none⟩ = some v4 ∧ w.cell? ⟨g, 5, none⟩ = some v5 ∧ w.cell? ⟨g, 6, none⟩ = some v6 ∧ w.cell? ⟨g, 7, none⟩ = some v7 ∧ w.cell? ⟨g, 8, none⟩ = some v8 ∧ w.cell? ⟨g, 9, none⟩ = some v9 ∧ w.cell? ⟨g, 10, none⟩ = some v10 ∧ w.cell? ⟨g, 11, none⟩ = some v11 ∧ w.cell? ⟨g, 12, none⟩ = some v12 :=
  ⟨cell_of_row w g 0 _ t (0, 0) h, cell_of_row w g 1 _ t (0, 0) h, cell_of_row w g 2 _ t (0, 0) h, cell_of_row w g 3 _ t (0, 0) h, cell_of_row w g 4 _ t (0, 0) h, cell_of_row w g 5 _ t (0, 0) h, cell_of_row w g 6 _ t (0, 0) h, cell_of_row w g 7 _ t (0, 0) h, cell_of_row w g 8 _ t (0, 0) h, cell_of_row w g 9 _ t (0, 0) h, cell_of_row w g 10 _ t (0, 0) h, cell_of_row w g 11 _ t (0, 0) h, cell_of_row w g 12 _ t (0, 0) h⟩
theorem sideW_any (b : Bool) (w : World) : Calls Tryd.prog 34 #[.bool b] w fun e w' => e = .returned (.string ⟨(sideT b).toArray⟩) ∧ Below w.heap.size w w' := by
  refine (side_any b w).mono ?_
  rintro e w1 ⟨rfl, rfl⟩
  refine ⟨?_, Below.refl _ _⟩
  cases b <;> rfl
theorem itoaS_any (n : Int) (h : n = -1 ∨ (0 ≤ n ∧ n ≤ 2147483647)) (w : World) (hE : Env w) :
    Calls Tryd.prog 26 #[.int .i64 n] w fun e w' => e = .returned (.string ⟨(sessT n).toArray⟩) ∧ Below w.heap.size w w' := by
  by_cases h1 : n = -1
  · subst h1
    refine (Tryd.strconv_Itoa (-1) (by omega) (by omega) w hE.tab).mono ?_
    rintro e w2 ⟨rfl, h⟩
    refine ⟨?_, below_of_grow h⟩
    have e : Lib.itoa (-1) = sessT (-1) := by
      have := Lib.itoa_neg 1 (by omega)
      rw [show (-1 : Int) = -((1 : Nat) : Int) from rfl, this, decDigits_small (by omega)]
      decide
    rw [e]
  · have h2 : 0 ≤ n ∧ n ≤ 2147483647 := h.resolve_left h1
    have e : sessT n = Lib.decDigits n.toNat := by unfold sessT; rw [if_neg h1]
    rw [e]
    exact itoaN_any n h2.1 (by omega) w hE
def decB (n : Int) : ByteArray := ⟨(Lib.decDigits n.toNat).toArray⟩
def adrB (n : Int) : ByteArray := textA n.toNat
theorem fmtB_any (n : Int) (h0 : 0 ≤ n) (h1 : n < 4294967296) (w : World) (hE : Env w) :
    Calls Tryd.prog 19 #[.int .u64 n, .int .i64 10] w fun e w' => e = .returned (.string (decB n)) ∧ Below w.heap.size w w' := fmtInt_any n h0 h1 w hE
theorem adrB_any (a : Int) (h0 : 0 ≤ a) (h1 : a < 4294967296) (w : World) (hE : Env w) :
    Calls Tryd.prog 27 #[.int .u32 a] w fun e w' => e = .returned (.string (adrB a)) ∧ Below w.heap.size w w' := addrTextI_any a ⟨h0, h1⟩ w hE
theorem sum_le {l : List (List UInt8)} {k : Nat} (h : ∀ x ∈ l, x.length ≤ k) : (l.map List.length).sum ≤ k * l.length := by
  induction l with
  | nil => simp
  | cons x r ih =>
    have h1 := h x (by simp)
    have h2 := ih (fun y hy => h y (List.mem_cons_of_mem _ hy))
    simp only [List.map_cons, List.sum_cons, List.length_cons, Nat.mul_add]
    omega
theorem dec_le {n : Int} (h : n < 4294967296) : (Lib.decDigits n.toNat).length ≤ 10 := dec32 (by omega)
theorem adr_le (n : Int) : (addrT n).length ≤ 15 := by
  have e : (textA n.toNat).data.toList.length = (textA n.toNat).size := Array.length_toList
  have := textA_size n.toNat
  unfold addrT
  omega
theorem av_text_len {r : AvV} (hlen : r.pa.length + r.co.length + r.cl.length ≤ 10000) (h : r.ok = true) : r.text.length ≤ 1000000 := by
  obtain ⟨h1, h2, h3, h4⟩ := av_ok h
  have kc := chk_ok h1
  have a0 := prefT_len (a := r.a) kc.1 kc.2.1
  have hall : ∀ x ∈ r.words, x.length ≤ 26 := by
    intro x hx
    simp only [AvV.words, AvV.head, AvV.tail, List.mem_append, List.mem_cons, List.not_mem_nil, or_false, List.mem_map] at hx
    have d1 := dec_le (n := r.pf) (by omega)
    have d2 := dec_le (n := r.me) (by omega)
    have d3 : (sessT r.ss).length ≤ 10 := by
      unfold sessT
      split
      · decide
      · exact dec_le (by omega)
    have d4 : (sideT r.ex).length ≤ 8 := by cases r.ex <;> decide
    have e1 := adr_le r.ho
    have e2 := adr_le r.pe
    have e3 := adr_le r.id
    have e4 := adr_le r.og
    rcases hx with (rfl | rfl | rfl | rfl | rfl | rfl | rfl | rfl | rfl | rfl | rfl | rfl | rfl | rfl | rfl | rfl | rfl) | ⟨n, hn, rfl⟩ | rfl | ⟨n, hn, rfl⟩ | rfl | ⟨n, hn, rfl⟩
    all_goals first
      | omega
      | (unfold decT; omega)
      | decide
      | (have := r.hpa n hn; have h9 := dec_le (n := n) (by omega); unfold decT; omega)
      | (have := r.hco n hn; have h9 := dec_le (n := n) (by omega); unfold decT; omega)
      | (have h9 := adr_le n; omega)
  have hs := sum_le hall
  have hl : r.words.length = 17 + (r.pa.length + (r.co.length + r.cl.length + 1) + 1) := by
    simp only [AvV.words, AvV.head, AvV.tail, List.length_append, List.length_cons, List.length_nil, List.length_map]
    omega
  unfold AvV.text
  rw [← joinC_join32]
  have := joinB32_len r.words
  omega
def avObj (r : AvV) (vp vo vl : Value) : Obj := .cells #[.int .u32 r.a, .int .i64 r.m, .int .u32 r.ho, .int .i64 r.pf, .int .i64 r.me, vp, vo, .int .u32 r.pe, .int .u32 r.id, .bool r.ex, .int .u32 r.og, vl, .int .i64 r.ss] 43
set_option maxRecDepth 100000 in
set_option maxHeartbeats 40000000 in
theorem avText_any (r : AvV) (vp vo vl : Value) (w : World) (hE : Env w) (hp : Rd w w.heap.size 1 vp r.pa.length (r.pa.map (Value.int .u32))) (ho : Rd w w.heap.size 1 vo r.co.length (r.co.map (Value.int .u32))) (hl : Rd w w.heap.size 1 vl r.cl.length (r.cl.map (Value.int .u32))) (hlen : r.pa.length + r.co.length + r.cl.length ≤ 10000) :
    Calls Tryd.prog 12 #[.agg #[.int .u32 r.a, .int .i64 r.m, .int .u32 r.ho, .int .i64 r.pf, .int .i64 r.me, vp, vo, .int .u32 r.pe, .int .u32 r.id, .bool r.ex, .int .u32 r.og, vl, .int .i64 r.ss]] w fun e w' => e = .returned (.tuple #[.string ⟨r.told.toArray⟩, .int .i64 r.toldE]) ∧ Below w.heap.size w w' := by
  have hk0 := heap_alloc_new w (avObj r vp vo vl)
  have hb0 := below1 w (avObj r vp vo vl)
  have hW : w.alloc (.cells #[.int .u32 r.a, .int .i64 r.m, .int .u32 r.ho, .int .i64 r.pf, .int .i64 r.me, vp, vo, .int .u32 r.pe, .int .u32 r.id, .bool r.ex, .int .u32 r.og, vl, .int .i64 r.ss] 43) = w.alloc (avObj r vp vo vl) := rfl
  have hE0 := hE.below hb0
  obtain ⟨c0, c1, c2, c3, c4, c5, c6, c7, c8, c9, c10, c11, c12⟩ := blk13 (t := 43) (show (w.alloc (avObj r vp vo vl)).heap[w.heap.size]? = some (.cells #[.int .u32 r.a, .int .i64 r.m, .int .u32 r.ho, .int .i64 r.pf, .int .i64 r.me, vp, vo, .int .u32 r.pe, .int .u32 r.id, .bool r.ex, .int .u32 r.og, vl, .int .i64 r.ss] 43 (0, 0)) from hk0)
  have HP := Lib.hid hp
  have HO := Lib.hid ho
  have HL := Lib.hid hl
  clear hp ho hl
  go_enter Tryd.func12, Tryd.ntmps12
  go_upto_region 1 with fail
  try rw [hW]
  generalize w.alloc (avObj r vp vo vl) = W at *
  clear hW
  go_cut [35] (fun sc wx => sc = .bool (!r.ok) ∧ Below W.heap.size W wx)
  case first =>
    by_cases q0 : chk r.a r.m = 0
    · by_cases q1 : (fineB r.pf = true ∧ fineB r.me = true)
      · by_cases q2 : r.ss = -1
        · have d0 : (chk r.a r.m != 0) = false := by simpa using q0
          have KC := Lib.hid (fun V (hv : Below W.heap.size W V) => addrCheck_any r.a r.m V r.ha.1 r.ha.2)
          have hfaKF : [r.pf, r.me].all fineB = true := by simpa using q1
          have KF := Lib.hid (fun V (hv : Below W.heap.size W V) g (hg : V.heap[g]? = some (.cells #[.int .i64 r.pf, .int .i64 r.me] 3 (0, 0))) => (hfaKF ▸ fine_any [r.pf, r.me] _ V (Rd.of_blk (cs := #[.int .i64 r.pf, .int .i64 r.me]) (t := 3) hg (Nat.le_refl _) rfl) (by simp) : Calls Tryd.prog 23 #[.slice (some ⟨g, 0, none⟩) 2 2] V fun e V' => e = .returned (.bool true) ∧ Below V.heap.size V V'))
          have d2 : (r.ss != -1) = false := by simpa using q2
          have hok := Lib.hid (show r.ok = true from av_ok_iff.2 ⟨q0, q1, Or.inl q2⟩)
          try clear q2
          have hv0 := Below.refl W.heap.size W
          have C0 := Lib.hid c0
          have C1 := Lib.hid c1
          have C3 := Lib.hid c3
          have C4 := Lib.hid c4
          have C12 := Lib.hid c12
          go_wp2_with fail
          refine (KC.out W hv0).mono ?_
          rintro e V1 ⟨rfl, hb⟩
          have hv1 := below_call hv0 hb
          clear hb
          clear c0 c1 c2 c3 c4 c5 c6 c7 c8 c9 c10 c11 c12
          have a0 := cell_kept hv1 C0.out
          have a1 := cell_kept hv1 C1.out
          have a3 := cell_kept hv1 C3.out
          have a4 := cell_kept hv1 C4.out
          have a12 := cell_kept hv1 C12.out
          go_wp2_with fail
          have hg := heap_alloc_new V1 (.cells #[.int .i64 r.pf, .int .i64 r.me] 3)
          have hva := hv1.alloc hv1.size (.cells #[.int .i64 r.pf, .int .i64 r.me] 3)
          refine (KF.out _ hva _ hg).mono ?_
          rintro e V2 ⟨rfl, hb⟩
          have hv2 := below_call hva hb
          clear hb
          clear a0 a1 a3 a4 a12
          have a0 := cell_kept hv2 C0.out
          have a1 := cell_kept hv2 C1.out
          have a3 := cell_kept hv2 C3.out
          have a4 := cell_kept hv2 C4.out
          have a12 := cell_kept hv2 C12.out
          go_wp2_with fail
          go_meet
          exact ⟨by rw [hok.out]; rfl, hv2⟩
        · cases q3 : fineB r.ss with
          | false =>
            have d0 : (chk r.a r.m != 0) = false := by simpa using q0
            have KC := Lib.hid (fun V (hv : Below W.heap.size W V) => addrCheck_any r.a r.m V r.ha.1 r.ha.2)
            have hfaKF : [r.pf, r.me].all fineB = true := by simpa using q1
            have KF := Lib.hid (fun V (hv : Below W.heap.size W V) g (hg : V.heap[g]? = some (.cells #[.int .i64 r.pf, .int .i64 r.me] 3 (0, 0))) => (hfaKF ▸ fine_any [r.pf, r.me] _ V (Rd.of_blk (cs := #[.int .i64 r.pf, .int .i64 r.me]) (t := 3) hg (Nat.le_refl _) rfl) (by simp) : Calls Tryd.prog 23 #[.slice (some ⟨g, 0, none⟩) 2 2] V fun e V' => e = .returned (.bool true) ∧ Below V.heap.size V V'))
            have d2 : (r.ss != -1) = true := by simpa using q2
            have hfaKG : [r.ss].all fineB = false := by simpa using q3
            have KG := Lib.hid (fun V (hv : Below W.heap.size W V) g (hg : V.heap[g]? = some (.cells #[.int .i64 r.ss] 3 (0, 0))) => (hfaKG ▸ fine_any [r.ss] _ V (Rd.of_blk (cs := #[.int .i64 r.ss]) (t := 3) hg (Nat.le_refl _) rfl) (by simp) : Calls Tryd.prog 23 #[.slice (some ⟨g, 0, none⟩) 1 1] V fun e V' => e = .returned (.bool false) ∧ Below V.heap.size V V'))
            have hok := Lib.hid (show r.ok = false from av_ok_no (fun h => by rcases h.2.2 with h2 | h2; exact q2 h2; rw [q3] at h2; cases h2))
            try clear q2
            have hv0 := Below.refl W.heap.size W
            have C0 := Lib.hid c0
            have C1 := Lib.hid c1
            have C3 := Lib.hid c3
            have C4 := Lib.hid c4
            have C12 := Lib.hid c12
            go_wp2_with fail
            refine (KC.out W hv0).mono ?_
            rintro e V1 ⟨rfl, hb⟩
            have hv1 := below_call hv0 hb
            clear hb
            clear c0 c1 c2 c3 c4 c5 c6 c7 c8 c9 c10 c11 c12
            have a0 := cell_kept hv1 C0.out
            have a1 := cell_kept hv1 C1.out
            have a3 := cell_kept hv1 C3.out
            have a4 := cell_kept hv1 C4.out
            have a12 := cell_kept hv1 C12.out
            go_wp2_with fail
            have hg := heap_alloc_new V1 (.cells #[.int .i64 r.pf, .int .i64 r.me] 3)
            have hva := hv1.alloc hv1.size (.cells #[.int .i64 r.pf, .int .i64 r.me] 3)
            refine (KF.out _ hva _ hg).mono ?_
            rintro e V2 ⟨rfl, hb⟩
            have hv2 := below_call hva hb
            clear hb
            clear a0 a1 a3 a4 a12
            have a0 := cell_kept hv2 C0.out
            have a1 := cell_kept hv2 C1.out
            have a3 := cell_kept hv2 C3.out
            have a4 := cell_kept hv2 C4.out
            have a12 := cell_kept hv2 C12.out
            go_wp2_with fail
            have hg1 := heap_alloc_new V2 (.cells #[.int .i64 r.ss] 3)
            have hvb := hv2.alloc hv2.size (.cells #[.int .i64 r.ss] 3)
            refine (KG.out _ hvb _ hg1).mono ?_
            rintro e V3 ⟨rfl, hb⟩
            have hv3 := below_call hvb hb
            clear hb
            clear a0 a1 a3 a4 a12
            have a0 := cell_kept hv3 C0.out
            have a1 := cell_kept hv3 C1.out
            have a3 := cell_kept hv3 C3.out
            have a4 := cell_kept hv3 C4.out
            have a12 := cell_kept hv3 C12.out
            go_wp2_with fail
            go_meet
            exact ⟨by rw [hok.out]; rfl, hv3⟩
          | true =>
            have d0 : (chk r.a r.m != 0) = false := by simpa using q0
            have KC := Lib.hid (fun V (hv : Below W.heap.size W V) => addrCheck_any r.a r.m V r.ha.1 r.ha.2)
            have hfaKF : [r.pf, r.me].all fineB = true := by simpa using q1
            have KF := Lib.hid (fun V (hv : Below W.heap.size W V) g (hg : V.heap[g]? = some (.cells #[.int .i64 r.pf, .int .i64 r.me] 3 (0, 0))) => (hfaKF ▸ fine_any [r.pf, r.me] _ V (Rd.of_blk (cs := #[.int .i64 r.pf, .int .i64 r.me]) (t := 3) hg (Nat.le_refl _) rfl) (by simp) : Calls Tryd.prog 23 #[.slice (some ⟨g, 0, none⟩) 2 2] V fun e V' => e = .returned (.bool true) ∧ Below V.heap.size V V'))
            have d2 : (r.ss != -1) = true := by simpa using q2
            have hfaKG : [r.ss].all fineB = true := by simpa using q3
            have KG := Lib.hid (fun V (hv : Below W.heap.size W V) g (hg : V.heap[g]? = some (.cells #[.int .i64 r.ss] 3 (0, 0))) => (hfaKG ▸ fine_any [r.ss] _ V (Rd.of_blk (cs := #[.int .i64 r.ss]) (t := 3) hg (Nat.le_refl _) rfl) (by simp) : Calls Tryd.prog 23 #[.slice (some ⟨g, 0, none⟩) 1 1] V fun e V' => e = .returned (.bool true) ∧ Below V.heap.size V V'))
            have hok := Lib.hid (show r.ok = true from av_ok_iff.2 ⟨q0, q1, Or.inr q3⟩)
            try clear q2
            have hv0 := Below.refl W.heap.size W
            have C0 := Lib.hid c0
            have C1 := Lib.hid c1
            have C3 := Lib.hid c3
            have C4 := Lib.hid c4
            have C12 := Lib.hid c12
            go_wp2_with fail
            refine (KC.out W hv0).mono ?_
            rintro e V1 ⟨rfl, hb⟩
            have hv1 := below_call hv0 hb
            clear hb
            clear c0 c1 c2 c3 c4 c5 c6 c7 c8 c9 c10 c11 c12
            have a0 := cell_kept hv1 C0.out
            have a1 := cell_kept hv1 C1.out
            have a3 := cell_kept hv1 C3.out
            have a4 := cell_kept hv1 C4.out
            have a12 := cell_kept hv1 C12.out
            go_wp2_with fail
            have hg := heap_alloc_new V1 (.cells #[.int .i64 r.pf, .int .i64 r.me] 3)
            have hva := hv1.alloc hv1.size (.cells #[.int .i64 r.pf, .int .i64 r.me] 3)
            refine (KF.out _ hva _ hg).mono ?_
            rintro e V2 ⟨rfl, hb⟩
            have hv2 := below_call hva hb
            clear hb
            clear a0 a1 a3 a4 a12
            have a0 := cell_kept hv2 C0.out
            have a1 := cell_kept hv2 C1.out
            have a3 := cell_kept hv2 C3.out
            have a4 := cell_kept hv2 C4.out
            have a12 := cell_kept hv2 C12.out
            go_wp2_with fail
            have hg1 := heap_alloc_new V2 (.cells #[.int .i64 r.ss] 3)
            have hvb := hv2.alloc hv2.size (.cells #[.int .i64 r.ss] 3)
            refine (KG.out _ hvb _ hg1).mono ?_
            rintro e V3 ⟨rfl, hb⟩
            have hv3 := below_call hvb hb
            clear hb
            clear a0 a1 a3 a4 a12
            have a0 := cell_kept hv3 C0.out
            have a1 := cell_kept hv3 C1.out
            have a3 := cell_kept hv3 C3.out
            have a4 := cell_kept hv3 C4.out
            have a12 := cell_kept hv3 C12.out
            go_wp2_with fail
            go_meet
            exact ⟨by rw [hok.out]; rfl, hv3⟩
      · have d0 : (chk r.a r.m != 0) = false := by simpa using q0
        have KC := Lib.hid (fun V (hv : Below W.heap.size W V) => addrCheck_any r.a r.m V r.ha.1 r.ha.2)
        have hfaKF : [r.pf, r.me].all fineB = false := by simpa using q1
        have KF := Lib.hid (fun V (hv : Below W.heap.size W V) g (hg : V.heap[g]? = some (.cells #[.int .i64 r.pf, .int .i64 r.me] 3 (0, 0))) => (hfaKF ▸ fine_any [r.pf, r.me] _ V (Rd.of_blk (cs := #[.int .i64 r.pf, .int .i64 r.me]) (t := 3) hg (Nat.le_refl _) rfl) (by simp) : Calls Tryd.prog 23 #[.slice (some ⟨g, 0, none⟩) 2 2] V fun e V' => e = .returned (.bool false) ∧ Below V.heap.size V V'))
        have hok := Lib.hid (show r.ok = false from av_ok_no (fun h => by have h2 := h.2.1; simp [h2] at q1))
        try clear q2
        have hv0 := Below.refl W.heap.size W
        have C0 := Lib.hid c0
        have C1 := Lib.hid c1
        have C3 := Lib.hid c3
        have C4 := Lib.hid c4
        have C12 := Lib.hid c12
        go_wp2_with fail
        refine (KC.out W hv0).mono ?_
        rintro e V1 ⟨rfl, hb⟩
        have hv1 := below_call hv0 hb
        clear hb
        clear c0 c1 c2 c3 c4 c5 c6 c7 c8 c9 c10 c11 c12
        have a0 := cell_kept hv1 C0.out
        have a1 := cell_kept hv1 C1.out
        have a3 := cell_kept hv1 C3.out
        have a4 := cell_kept hv1 C4.out
        have a12 := cell_kept hv1 C12.out
        go_wp2_with fail
        have hg := heap_alloc_new V1 (.cells #[.int .i64 r.pf, .int .i64 r.me] 3)
        have hva := hv1.alloc hv1.size (.cells #[.int .i64 r.pf, .int .i64 r.me] 3)
        refine (KF.out _ hva _ hg).mono ?_
        rintro e V2 ⟨rfl, hb⟩
        have hv2 := below_call hva hb
        clear hb
        clear a0 a1 a3 a4 a12
        have a0 := cell_kept hv2 C0.out
        have a1 := cell_kept hv2 C1.out
        have a3 := cell_kept hv2 C3.out
        have a4 := cell_kept hv2 C4.out
        have a12 := cell_kept hv2 C12.out
        go_wp2_with fail
        go_meet
        exact ⟨by rw [hok.out]; rfl, hv2⟩
    · have d0 : (chk r.a r.m != 0) = true := by simpa using q0
      have KC := Lib.hid (fun V (hv : Below W.heap.size W V) => addrCheck_any r.a r.m V r.ha.1 r.ha.2)
      have hok := Lib.hid (show r.ok = false from av_ok_no (fun h => q0 h.1))
      try clear q2
      have hv0 := Below.refl W.heap.size W
      have C0 := Lib.hid c0
      have C1 := Lib.hid c1
      have C3 := Lib.hid c3
      have C4 := Lib.hid c4
      have C12 := Lib.hid c12
      go_wp2_with fail
      refine (KC.out W hv0).mono ?_
      rintro e V1 ⟨rfl, hb⟩
      have hv1 := below_call hv0 hb
      clear hb
      clear c0 c1 c2 c3 c4 c5 c6 c7 c8 c9 c10 c11 c12
      have a0 := cell_kept hv1 C0.out
      have a1 := cell_kept hv1 C1.out
      have a3 := cell_kept hv1 C3.out
      have a4 := cell_kept hv1 C4.out
      have a12 := cell_kept hv1 C12.out
      go_wp2_with fail
      go_meet
      exact ⟨by rw [hok.out]; rfl, hv1⟩
  case rest =>
    obtain ⟨rfl, hbR⟩ := hcut
    rename World => wa
    have sz0 : w.heap.size < W.heap.size := lt_of_block hk0
    have hk : wa.heap[w.heap.size]? = some (avObj r vp vo vl) := (hbR.block _ sz0).trans hk0
    have hbw := hb0.trans (hbR.mono hb0.size)
    cases hok : r.ok with
    | false =>
      have ht := Lib.hid (av_told_no hok)
      clear hok hk0 c0 c1 c2 c3 c4 c5 c6 c7 c8 c9 c10 c11 c12
      go_wp2
      go_ret2
      exact ⟨by rw [ht.out.1, ht.out.2]; rfl, hbw⟩
    | true =>
      have ht := Lib.hid (av_told_yes hok)
      obtain ⟨k0, ⟨k3, k4⟩, k6⟩ := av_ok_iff.1 hok
      have kc := chk_ok k0
      have l3 := fine_iff.1 k3
      have l4 := fine_iff.1 k4
      have hss : r.ss = -1 ∨ (0 ≤ r.ss ∧ r.ss ≤ 2147483647) := k6.imp id (fun h => fine_iff.1 h)
      have hEc := hE.below hbw
      have HOK := Lib.hid hok
      clear c0 c1 c2 c3 c4 c5 c6 c7 c8 c9 c10 c11 c12 k3 k4 k6 hok
      obtain ⟨c0, c1, c2, c3, c4, c5, c6, c7, c8, c9, c10, c11, c12⟩ := blk13 (t := 43) (show wa.heap[w.heap.size]? = some (.cells #[.int .u32 r.a, .int .i64 r.m, .int .u32 r.ho, .int .i64 r.pf, .int .i64 r.me, vp, vo, .int .u32 r.pe, .int .u32 r.id, .bool r.ex, .int .u32 r.og, vl, .int .i64 r.ss] 43 (0, 0)) from hk)
      have KP := Lib.hid (fun V (hv : Below wa.heap.size wa V) => prefI_any r.a r.m r.ha r.hm.1 r.hm.2 V (hEc.below hv))
      have KH := Lib.hid (fun V (hv : Below wa.heap.size wa V) => addrTextI_any r.ho r.hho V (hEc.below hv))
      have KF := Lib.hid (fun V (hv : Below wa.heap.size wa V) => itoaN_any r.pf l3.1 (by omega) V (hEc.below hv))
      have KM := Lib.hid (fun V (hv : Below wa.heap.size wa V) => itoaN_any r.me l4.1 (by omega) V (hEc.below hv))
      have KE := Lib.hid (fun V (hv : Below wa.heap.size wa V) => addrTextI_any r.pe r.hpe V (hEc.below hv))
      have KI := Lib.hid (fun V (hv : Below wa.heap.size wa V) => addrTextI_any r.id r.hid V (hEc.below hv))
      have KS := Lib.hid (fun V (hv : Below wa.heap.size wa V) => sideW_any r.ex V)
      have KO := Lib.hid (fun V (hv : Below wa.heap.size wa V) => addrTextI_any r.og r.hog V (hEc.below hv))
      have KN := Lib.hid (fun V (hv : Below wa.heap.size wa V) => itoaS_any r.ss hss V (hEc.below hv))
      have HWD := Lib.hid (show ([⟨(prefT r.a r.m).toArray⟩, ⟨viaW.toArray⟩, textA r.ho.toNat, ⟨prefW.toArray⟩, ⟨(Lib.decDigits r.pf.toNat).toArray⟩, ⟨metrW.toArray⟩, ⟨(Lib.decDigits r.me.toNat).toArray⟩, ⟨peerW.toArray⟩, textA r.pe.toNat, ⟨idW.toArray⟩, textA r.id.toNat, ⟨(sideT r.ex).toArray⟩, ⟨origW.toArray⟩, textA r.og.toNat, ⟨sessW.toArray⟩, ⟨(sessT r.ss).toArray⟩, ⟨pathW.toArray⟩] : List ByteArray).map (·.data.toList) = r.head from rfl)
      generalize (⟨(prefT r.a r.m).toArray⟩ : ByteArray) = q0 at *
      generalize textA r.ho.toNat = qh at *
      generalize (⟨(Lib.decDigits r.pf.toNat).toArray⟩ : ByteArray) = qf at *
      generalize (⟨(Lib.decDigits r.me.toNat).toArray⟩ : ByteArray) = qm at *
      generalize textA r.pe.toNat = qp at *
      generalize textA r.id.toNat = qi at *
      generalize (⟨(sideT r.ex).toArray⟩ : ByteArray) = qs at *
      generalize textA r.og.toNat = qo at *
      generalize (⟨(sessT r.ss).toArray⟩ : ByteArray) = qn at *
      go_upto_region 3 with fail
      have F0 := cell_regrown c0
      have F1 := cell_regrown c1
      have F2 := cell_regrown c2
      have F3 := cell_regrown c3
      have F4 := cell_regrown c4
      have F7 := cell_regrown c7
      have F8 := cell_regrown c8
      have F9 := cell_regrown c9
      have F10 := cell_regrown c10
      have F12 := cell_regrown c12
      refine wp_region_mix [(0, false), (1, false), (3, false), (4, false), (6, false), (7, false), (9, false), (10, false), (12, false), (13, false), (15, false), (16, false), (18, false), (19, false), (21, false), (22, false), (24, false), (25, false), (2, true), (5, true), (8, true), (11, true), (14, true), (17, true), (20, true), (23, true), (26, true), (27, true), (28, false)] (by kernel_rfl) (by kernel_rfl) ?_
      have hv0 := below_drawn wa
      generalize { wa with drawn := wa.drawn + 1 } = V0 at *
      refine mix_take [0, 1, 3, 4, 6, 7, 9, 10, 12, 13, 15, 16, 18, 19, 21, 22, 24, 25] [_, _, _, _, _, _, _, _, _, _, _, _, _, _, _, _, _, _] rfl rfl ?_
      simp only [List.getElem_toArray, List.getElem_cons_zero, List.getElem_cons_succ]
      repeat (go_big_quiet_step (fail))
      refine wpQuiet_nil ?_
      refine mix_bar rfl (by rfl) ?_
      simp only [List.getElem_toArray, List.getElem_cons_zero, List.getElem_cons_succ]
      go_simp
      refine (KP.out V0 hv0).mono ?_
      rintro e V1 ⟨rfl, hb⟩
      have hv1 := below_call hv0 hb
      refine ⟨regrown_of_below hv1, ?_⟩
      clear hb
      refine mix_bar rfl (by rfl) ?_
      simp only [List.getElem_toArray, List.getElem_cons_zero, List.getElem_cons_succ]
      go_simp
      refine (KH.out V1 hv1).mono ?_
      rintro e V2 ⟨rfl, hb⟩
      have hv2 := below_call hv1 hb
      refine ⟨regrown_of_below hv2, ?_⟩
      clear hb
      refine mix_bar rfl (by rfl) ?_
      simp only [List.getElem_toArray, List.getElem_cons_zero, List.getElem_cons_succ]
      go_simp
      refine (KF.out V2 hv2).mono ?_
      rintro e V3 ⟨rfl, hb⟩
      have hv3 := below_call hv2 hb
      refine ⟨regrown_of_below hv3, ?_⟩
      clear hb
      refine mix_bar rfl (by rfl) ?_
      simp only [List.getElem_toArray, List.getElem_cons_zero, List.getElem_cons_succ]
      go_simp
      refine (KM.out V3 hv3).mono ?_
      rintro e V4 ⟨rfl, hb⟩
      have hv4 := below_call hv3 hb
      refine ⟨regrown_of_below hv4, ?_⟩
      clear hb
      refine mix_bar rfl (by rfl) ?_
      simp only [List.getElem_toArray, List.getElem_cons_zero, List.getElem_cons_succ]
      go_simp
      refine (KE.out V4 hv4).mono ?_
      rintro e V5 ⟨rfl, hb⟩
      have hv5 := below_call hv4 hb
      refine ⟨regrown_of_below hv5, ?_⟩
      clear hb
      refine mix_bar rfl (by rfl) ?_
      simp only [List.getElem_toArray, List.getElem_cons_zero, List.getElem_cons_succ]
      go_simp
      refine (KI.out V5 hv5).mono ?_
      rintro e V6 ⟨rfl, hb⟩
      have hv6 := below_call hv5 hb
      refine ⟨regrown_of_below hv6, ?_⟩
      clear hb
      refine mix_bar rfl (by rfl) ?_
      simp only [List.getElem_toArray, List.getElem_cons_zero, List.getElem_cons_succ]
      go_simp
      refine (KS.out V6 hv6).mono ?_
      rintro e V7 ⟨rfl, hb⟩
      have hv7 := below_call hv6 hb
      refine ⟨regrown_of_below hv7, ?_⟩
      clear hb
      refine mix_bar rfl (by rfl) ?_
      simp only [List.getElem_toArray, List.getElem_cons_zero, List.getElem_cons_succ]
      go_simp
      refine (KO.out V7 hv7).mono ?_
      rintro e V8 ⟨rfl, hb⟩
      have hv8 := below_call hv7 hb
      refine ⟨regrown_of_below hv8, ?_⟩
      clear hb
      refine mix_bar rfl (by rfl) ?_
      simp only [List.getElem_toArray, List.getElem_cons_zero, List.getElem_cons_succ]
      go_simp
      refine (KN.out V8 hv8).mono ?_
      rintro e V9 ⟨rfl, hb⟩
      have hv9 := below_call hv8 hb
      refine ⟨regrown_of_below hv9, ?_⟩
      clear hb
      refine mix_bar rfl (by rfl) ?_
      simp only [List.getElem_toArray, List.getElem_cons_zero, List.getElem_cons_succ]
      go_simp
      have hgw := heap_alloc_new V9 (.cells #[.string q0, .string ⟨#[118, 105, 97]⟩, .string qh, .string ⟨#[112, 114, 101, 102]⟩, .string qf, .string ⟨#[109, 101, 116, 114, 105, 99]⟩, .string qm, .string ⟨#[112, 101, 101, 114]⟩, .string qp, .string ⟨#[105, 100]⟩, .string qi, .string qs, .string ⟨#[111, 114, 105, 103, 105, 110]⟩, .string qo, .string ⟨#[115, 101, 115, 115, 105, 111, 110]⟩, .string qn, .string ⟨#[112, 97, 116, 104]⟩] 9)
      have hv10 := hv9.alloc hv9.size (.cells #[.string q0, .string ⟨#[118, 105, 97]⟩, .string qh, .string ⟨#[112, 114, 101, 102]⟩, .string qf, .string ⟨#[109, 101, 116, 114, 105, 99]⟩, .string qm, .string ⟨#[112, 101, 101, 114]⟩, .string qp, .string ⟨#[105, 100]⟩, .string qi, .string qs, .string ⟨#[111, 114, 105, 103, 105, 110]⟩, .string qo, .string ⟨#[115, 101, 115, 115, 105, 111, 110]⟩, .string qn, .string ⟨#[112, 97, 116, 104]⟩] 9)
      refine ⟨regrown_of_below hv10, ?_⟩
      generalize V9.alloc (.cells #[.string q0, .string ⟨#[118, 105, 97]⟩, .string qh, .string ⟨#[112, 114, 101, 102]⟩, .string qf, .string ⟨#[109, 101, 116, 114, 105, 99]⟩, .string qm, .string ⟨#[112, 101, 101, 114]⟩, .string qp, .string ⟨#[105, 100]⟩, .string qi, .string qs, .string ⟨#[111, 114, 105, 103, 105, 110]⟩, .string qo, .string ⟨#[115, 101, 115, 115, 105, 111, 110]⟩, .string qn, .string ⟨#[112, 97, 116, 104]⟩] 9) = V10 at *
      refine mix_take [28] [_] rfl rfl ?_
      simp only [List.getElem_toArray, List.getElem_cons_zero, List.getElem_cons_succ]
      repeat (go_big_quiet_step (fail))
      refine wpQuiet_nil ?_
      refine mix_end ?_
      have hown := owns_of_block (base := wa.heap.size) (size := 1) (n := 17) (c := 17) (xs := [q0, ⟨#[118, 105, 97]⟩, qh, ⟨#[112, 114, 101, 102]⟩, qf, ⟨#[109, 101, 116, 114, 105, 99]⟩, qm, ⟨#[112, 101, 101, 114]⟩, qp, ⟨#[105, 100]⟩, qi, qs, ⟨#[111, 114, 105, 103, 105, 110]⟩, qo, ⟨#[115, 101, 115, 115, 105, 111, 110]⟩, qn, ⟨#[112, 97, 116, 104]⟩].map Value.string) hgw (Nat.le_refl _) (by unfold maxLen; omega) rfl rfl rfl hv9.size
      have HB : Hid (([q0, ⟨#[118, 105, 97]⟩, qh, ⟨#[112, 114, 101, 102]⟩, qf, ⟨#[109, 101, 116, 114, 105, 99]⟩, qm, ⟨#[112, 101, 101, 114]⟩, qp, ⟨#[105, 100]⟩, qi, qs, ⟨#[111, 114, 105, 103, 105, 110]⟩, qo, ⟨#[115, 101, 115, 115, 105, 111, 110]⟩, qn, ⟨#[112, 97, 116, 104]⟩] : List ByteArray).map (·.data.toList) = r.head) := HWD
      generalize hB : ([q0, ⟨#[118, 105, 97]⟩, qh, ⟨#[112, 114, 101, 102]⟩, qf, ⟨#[109, 101, 116, 114, 105, 99]⟩, qm, ⟨#[112, 101, 101, 114]⟩, qp, ⟨#[105, 100]⟩, qi, qs, ⟨#[111, 114, 105, 103, 105, 110]⟩, qo, ⟨#[115, 101, 115, 115, 105, 111, 110]⟩, qn, ⟨#[112, 97, 116, 104]⟩] : List ByteArray) = B at *
      have hlB : B.length = 17 := by rw [← hB]; rfl
      have C5 := Lib.hid c5
      have C6 := Lib.hid c6
      have C11 := Lib.hid c11
      clear hB c0 c1 c2 c3 c4 c5 c6 c7 c8 c9 c10 c11 c12 hgw HWD F0 F1 F2 F3 F4 F7 F8 F9 F10 F12 KP KH KF KM KE KI KS KO KN
      generalize (Value.agg #[.int .u32 r.a, .int .i64 r.m, .int .u32 r.ho, .int .i64 r.pf, .int .i64 r.me, vp, vo, .int .u32 r.pe, .int .u32 r.id, .bool r.ex, .int .u32 r.og, vl, .int .i64 r.ss] : Value) = vr at *
      obtain ⟨i0, hi, hz0, hz1, hz2⟩ := info_parts Tryd.infoStr
      have hv9' := hv10
      generalize V10 = X0 at *
      obtain ⟨A1, g1, hv1s, _⟩ := HP.out.form
      have hR1 := HP.out
      rw [hv1s] at hR1
      have HR1 := Lib.hid hR1
      clear hR1
      have dd1 : X0.cell? ⟨w.heap.size, 5, none⟩ = some (.slice A1 r.pa.length g1) := (by rw [cell_kept hv9' C5.out, hv1s])
      go_wp2
      go_loopw [4, 67] (fun v i wr => ∃ j : Nat, i = .int .i64 j ∧ j ≤ r.pa.length ∧ wr.ownsRow wa.heap.size 9 1 v (B.length + j) ((B ++ (r.pa.take j).map decB).map Value.string) ∧ Below wa.heap.size wa wr) (fun _ i _ => r.pa.length - (intOf i).toNat)
      case atStart => exact ⟨0, rfl, by omega, by first | (rw [hlB]; simpa using hown) | (simpa using hown), hv9'⟩
      case round =>
        obtain ⟨j, rfl, hj, hown, hnx⟩ := hrel
        clear dd1
        have hsz := hnx.size
        have hbW := hbw.trans (hnx.mono hbw.size)
        by_cases hlt : j < r.pa.length
        · have hI : (j : Int) < (r.pa.length : Int) := by omega
          obtain ⟨x, hx⟩ : ∃ x, r.pa[j]? = some x := ⟨_, List.getElem?_eq_getElem hlt⟩
          have hxr := r.hpa x (List.mem_of_getElem? hx)
          obtain ⟨b, off, c', hv, _, hbB, hcell⟩ := (HR1.out.below hbW).posAt (by omega)
          injection hv with hv1 _ hv3
          subst hv1 hv3
          have f0 : wr.cell? ⟨b, off + j, none⟩ = some (.int .u32 x) := by
            have h := hcell j 0 (.int .u32 x) (by simp [hx])
            simpa using h
          have htk := Lib.hid (show (B ++ (r.pa.take (j + 1)).map decB).map Value.string = (B ++ (r.pa.take j).map decB).map Value.string ++ [.string (decB x)] by rw [List.take_add_one, hx]; simp)
          have hT := Lib.hid (fmtB_any x hxr.1 hxr.2 wr (hEc.below hnx))
          clear hx hcell
          generalize decB x = q at *
          go_wp2_with fail
          refine hT.out.mono ?_
          rintro e wn ⟨rfl, hb⟩
          have hnx2 := hnx.trans (hb.mono hsz)
          have hown2 := owns_kept_none hown (only_of_below hb none)
          clear hb hown hnx f0
          go_wp2_with (at_builtin; refine wpList_pushN rfl _ _ 57 rfl 9 i0 _ 1 16 Tryd.underlying57 hi hz0 hz1 hz2 rfl (by decide) (by decide) 1 (by decide) (by decide) [.string q] rfl rfl (by simp) hown2 rfl (str_one (l := [q])) (by omega) (hnx2).size hnx2 (Nat.le_refl _) ?_; intro v2 w5 hown5 hb5)
          refine ⟨⟨j + 1, by go_num, by omega, ?_, hb5⟩, by simp only [intOf]; omega⟩
          rw [htk.out]
          exact hown5
        · obtain rfl : j = r.pa.length := by omega
          have hI : ¬ (r.pa.length : Int) < (r.pa.length : Int) := by omega
          rw [List.take_length] at hown
          have hL1 : ∀ u, B ++ r.pa.map decB = u → u.length = B.length + r.pa.length := fun u hu => by rw [← hu]; simp
          generalize hM1 : B ++ r.pa.map decB = M1 at *
          have hl1 := hL1 _ rfl
          rw [← hl1] at hown
          have HM1 := Lib.hid hM1
          clear hM1 hL1
          obtain ⟨A2, g2, hv2s, _⟩ := HO.out.form
          have hR2 := HO.out
          rw [hv2s] at hR2
          have HR2 := Lib.hid hR2
          clear hR2
          go_wp2_with (at_builtin; refine wpList_pushN rfl _ _ 57 rfl 9 i0 _ 1 16 Tryd.underlying57 hi hz0 hz1 hz2 rfl (by decide) (by decide) 1 (by decide) (by decide) [.string ⟨#[99, 111, 109, 109]⟩] rfl rfl (by simp) hown rfl (str_one (l := [⟨#[99, 111, 109, 109]⟩])) (by omega) (hnx).size hnx (Nat.le_refl _) ?_; intro vv1 X1 ho1 hx1; have dd2 : X1.cell? ⟨w.heap.size, 6, none⟩ = some (.slice A2 r.co.length g2) := (by rw [cell_kept hx1 C6.out, hv2s]))
          obtain ⟨N1, hN1⟩ : ∃ N, N = M1 ++ [⟨#[99, 111, 109, 109]⟩] := ⟨_, rfl⟩
          have hn1 : X1.ownsRow wa.heap.size 9 1 vv1 N1.length (N1.map Value.string) := by
            rw [hN1, List.length_append, List.map_append]
            exact ho1
          have hlN1 : N1.length = M1.length + 1 := by rw [hN1]; simp
          have HN1 := Lib.hid hN1
          clear hN1 ho1 hown hnx hsz hbW
          go_loopw [4, 84] (fun v i wr => ∃ j : Nat, i = .int .i64 j ∧ j ≤ r.co.length ∧ wr.ownsRow wa.heap.size 9 1 v (N1.length + j) ((N1 ++ (r.co.take j).map decB).map Value.string) ∧ Below wa.heap.size wa wr) (fun _ i _ => r.co.length - (intOf i).toNat)
          case atStart => exact ⟨0, rfl, by omega, by first | (rw [hlB]; simpa using hn1) | (simpa using hn1), hx1⟩
          case round =>
            obtain ⟨j, rfl, hj, hown, hnx⟩ := hrel
            clear dd2
            have hsz := hnx.size
            have hbW := hbw.trans (hnx.mono hbw.size)
            by_cases hlt : j < r.co.length
            · have hI : (j : Int) < (r.co.length : Int) := by omega
              obtain ⟨x, hx⟩ : ∃ x, r.co[j]? = some x := ⟨_, List.getElem?_eq_getElem hlt⟩
              have hxr := r.hco x (List.mem_of_getElem? hx)
              obtain ⟨b, off, c', hv, _, hbB, hcell⟩ := (HR2.out.below hbW).posAt (by omega)
              injection hv with hv1 _ hv3
              subst hv1 hv3
              have f0 : wr.cell? ⟨b, off + j, none⟩ = some (.int .u32 x) := by
                have h := hcell j 0 (.int .u32 x) (by simp [hx])
                simpa using h
              have htk := Lib.hid (show (N1 ++ (r.co.take (j + 1)).map decB).map Value.string = (N1 ++ (r.co.take j).map decB).map Value.string ++ [.string (decB x)] by rw [List.take_add_one, hx]; simp)
              have hT := Lib.hid (fmtB_any x hxr.1 hxr.2 wr (hEc.below hnx))
              clear hx hcell
              generalize decB x = q at *
              go_wp2_with fail
              refine hT.out.mono ?_
              rintro e wn ⟨rfl, hb⟩
              have hnx2 := hnx.trans (hb.mono hsz)
              have hown2 := owns_kept_none hown (only_of_below hb none)
              clear hb hown hnx f0
              go_wp2_with (at_builtin; refine wpList_pushN rfl _ _ 57 rfl 9 i0 _ 1 16 Tryd.underlying57 hi hz0 hz1 hz2 rfl (by decide) (by decide) 1 (by decide) (by decide) [.string q] rfl rfl (by simp) hown2 rfl (str_one (l := [q])) (by omega) (hnx2).size hnx2 (Nat.le_refl _) ?_; intro v2 w5 hown5 hb5)
              refine ⟨⟨j + 1, by go_num, by omega, ?_, hb5⟩, by simp only [intOf]; omega⟩
              rw [htk.out]
              exact hown5
            · obtain rfl : j = r.co.length := by omega
              have hI : ¬ (r.co.length : Int) < (r.co.length : Int) := by omega
              rw [List.take_length] at hown
              have hL2 : ∀ u, N1 ++ r.co.map decB = u → u.length = N1.length + r.co.length := fun u hu => by rw [← hu]; simp
              generalize hM2 : N1 ++ r.co.map decB = M2 at *
              have hl2 := hL2 _ rfl
              rw [← hl2] at hown
              have HM2 := Lib.hid hM2
              clear hM2 hL2
              obtain ⟨A3, g3, hv3s, _⟩ := HL.out.form
              have hR3 := HL.out
              rw [hv3s] at hR3
              have HR3 := Lib.hid hR3
              clear hR3
              go_wp2_with (at_builtin; refine wpList_pushN rfl _ _ 57 rfl 9 i0 _ 1 16 Tryd.underlying57 hi hz0 hz1 hz2 rfl (by decide) (by decide) 1 (by decide) (by decide) [.string ⟨#[99, 108, 117, 115, 116, 101, 114, 115]⟩] rfl rfl (by simp) hown rfl (str_one (l := [⟨#[99, 108, 117, 115, 116, 101, 114, 115]⟩])) (by omega) (hnx).size hnx (Nat.le_refl _) ?_; intro vv2 X2 ho2 hx2; have dd3 : X2.cell? ⟨w.heap.size, 11, none⟩ = some (.slice A3 r.cl.length g3) := (by rw [cell_kept hx2 C11.out, hv3s]))
              obtain ⟨N2, hN2⟩ : ∃ N, N = M2 ++ [⟨#[99, 108, 117, 115, 116, 101, 114, 115]⟩] := ⟨_, rfl⟩
              have hn2 : X2.ownsRow wa.heap.size 9 1 vv2 N2.length (N2.map Value.string) := by
                rw [hN2, List.length_append, List.map_append]
                exact ho2
              have hlN2 : N2.length = M2.length + 1 := by rw [hN2]; simp
              have HN2 := Lib.hid hN2
              clear hN2 ho2 hown hnx hsz hbW
              go_loopw [4, 101] (fun v i wr => ∃ j : Nat, i = .int .i64 j ∧ j ≤ r.cl.length ∧ wr.ownsRow wa.heap.size 9 1 v (N2.length + j) ((N2 ++ (r.cl.take j).map adrB).map Value.string) ∧ Below wa.heap.size wa wr) (fun _ i _ => r.cl.length - (intOf i).toNat)
              case atStart => exact ⟨0, rfl, by omega, by first | (rw [hlB]; simpa using hn2) | (simpa using hn2), hx2⟩
              case round =>
                obtain ⟨j, rfl, hj, hown, hnx⟩ := hrel
                clear dd3
                have hsz := hnx.size
                have hbW := hbw.trans (hnx.mono hbw.size)
                by_cases hlt : j < r.cl.length
                · have hI : (j : Int) < (r.cl.length : Int) := by omega
                  obtain ⟨x, hx⟩ : ∃ x, r.cl[j]? = some x := ⟨_, List.getElem?_eq_getElem hlt⟩
                  have hxr := r.hcl x (List.mem_of_getElem? hx)
                  obtain ⟨b, off, c', hv, _, hbB, hcell⟩ := (HR3.out.below hbW).posAt (by omega)
                  injection hv with hv1 _ hv3
                  subst hv1 hv3
                  have f0 : wr.cell? ⟨b, off + j, none⟩ = some (.int .u32 x) := by
                    have h := hcell j 0 (.int .u32 x) (by simp [hx])
                    simpa using h
                  have htk := Lib.hid (show (N2 ++ (r.cl.take (j + 1)).map adrB).map Value.string = (N2 ++ (r.cl.take j).map adrB).map Value.string ++ [.string (adrB x)] by rw [List.take_add_one, hx]; simp)
                  have hT := Lib.hid (adrB_any x hxr.1 hxr.2 wr (hEc.below hnx))
                  clear hx hcell
                  generalize adrB x = q at *
                  go_wp2_with fail
                  refine hT.out.mono ?_
                  rintro e wn ⟨rfl, hb⟩
                  have hnx2 := hnx.trans (hb.mono hsz)
                  have hown2 := owns_kept_none hown (only_of_below hb none)
                  clear hb hown hnx f0
                  go_wp2_with (at_builtin; refine wpList_pushN rfl _ _ 57 rfl 9 i0 _ 1 16 Tryd.underlying57 hi hz0 hz1 hz2 rfl (by decide) (by decide) 1 (by decide) (by decide) [.string q] rfl rfl (by simp) hown2 rfl (str_one (l := [q])) (by omega) (hnx2).size hnx2 (Nat.le_refl _) ?_; intro v2 w5 hown5 hb5)
                  refine ⟨⟨j + 1, by go_num, by omega, ?_, hb5⟩, by simp only [intOf]; omega⟩
                  rw [htk.out]
                  exact hown5
                · obtain rfl : j = r.cl.length := by omega
                  have hI : ¬ (r.cl.length : Int) < (r.cl.length : Int) := by omega
                  rw [List.take_length] at hown
                  have hL3 : ∀ u, N2 ++ r.cl.map adrB = u → u.length = N2.length + r.cl.length := fun u hu => by rw [← hu]; simp
                  generalize hM3 : N2 ++ r.cl.map adrB = M3 at *
                  have hl3 := hL3 _ rfl
                  rw [← hl3] at hown
                  have HM3 := Lib.hid hM3
                  clear hM3 hL3
                  have hW : M3.map (·.data.toList) = r.words := by
                    rw [← HM3.out, HN2.out, ← HM2.out, HN1.out, ← HM1.out]
                    simp only [List.map_append, List.map_cons, List.map_nil, List.map_map]
                    rw [HB.out]
                    show _ = r.head ++ (r.pa.map decT ++ commW :: (r.co.map decT ++ clusW :: r.cl.map addrT))
                    simp only [List.append_assoc, List.cons_append, List.nil_append]
                    rfl
                  have htl := av_text_len hlen HOK.out
                  obtain ⟨A4, g4, rfl, _⟩ := owns_form hown
                  have hj := lineO_any M3 _ _ wr hown (by omega) (by omega) (by rw [hW]; show r.text.length ≤ _; omega)
                  rw [hW] at hj
                  have HJ := Lib.hid (show Calls Tryd.prog 28 #[.slice A4 M3.length g4] wr fun e V' => e = .returned (.string ⟨r.text.toArray⟩) ∧ Below wr.heap.size wr V' from hj)
                  clear hj hW htl hown hl1 hl2 hl3 hlN1 hlN2 hlB
                  go_wp2_with fail
                  refine HJ.out.mono ?_
                  rintro e wf ⟨rfl, hb⟩
                  have hbf := below_call hbW hb
                  go_wp2
                  go_ret2
                  exact ⟨by rw [ht.out.1, ht.out.2]; rfl, hbf⟩
end Go.Proofs.YtakkgamhceignaaDoor

/-
  The walk of routes.CmpAdvert at two adverts that are the same (written by wip/gen/genrt8.py).
-/
namespace Go.Proofs.YtakkgamhceignaaDoor
open Go Go.RowKit Go.Lib Go.Sort

theorem cmpAd_same (x : Int) (w : World) : Calls Tryd.prog 39 #[.int .u32 x, .int .u32 x] w fun e w' => e = .returned (.int .i64 0) ∧ Below w.heap.size w w' := by
  have h1 : (x != x) = false := by simp
  go_enter Tryd.func39, Tryd.ntmps39
  go_wp2
  go_ret
  exact ⟨rfl, Below.refl _ _⟩
theorem cmpU_same (x : Int) (w : World) : Calls Tryd.prog 45 #[.int .u32 x, .int .u32 x] w fun e w' => e = .returned (.int .i64 0) ∧ w = w' := by
  have h1 : (x != x) = false := by simp
  go_enter Tryd.func45, Tryd.ntmps45
  go_wp2
  go_ret
  exact ⟨rfl, rfl⟩
theorem cmpA_same (x : Int) (w : World) : Calls Tryd.prog 39 #[.int .u32 x, .int .u32 x] w fun e w' => e = .returned (.int .i64 0) ∧ w = w' := by
  have h1 : (x != x) = false := by simp
  go_enter Tryd.func39, Tryd.ntmps39
  go_wp2
  go_ret
  exact ⟨rfl, rfl⟩
theorem cmpI_same (x : Int) (w : World) : Calls Tryd.prog 38 #[.int .i64 x, .int .i64 x] w fun e w' => e = .returned (.int .i64 0) ∧ Below w.heap.size w w' := by
  have h1 : (x != x) = false := by simp
  go_enter Tryd.func38, Tryd.ntmps38
  go_wp2
  go_ret
  exact ⟨rfl, Below.refl _ _⟩
theorem cmpBool_same (b : Bool) (w : World) : Calls Tryd.prog 40 #[.bool b, .bool b] w fun e w' => e = .returned (.int .i64 0) ∧ Below w.heap.size w w' := by
  cases b
  all_goals (
    go_enter Tryd.func40, Tryd.ntmps40
    go_wp2
    go_ret
    exact ⟨rfl, Below.refl _ _⟩)
set_option maxRecDepth 100000 in
set_option maxHeartbeats 4000000 in
theorem or_zero (n : Nat) (v : Value) (w : World) (h : Rd w w.heap.size 1 v n (List.replicate n (.int .i64 0))) (hn : n ≤ 1000) :
    Calls Tryd.prog 36 #[v] w fun e w' => e = .returned (.int .i64 0) ∧ Below w.heap.size w w' := by
  obtain ⟨A, c, rfl, hc⟩ := h.form
  have HR := Lib.hid h
  clear h
  go_enter Tryd.func36, Tryd.ntmps36
  go_wp2
  go_loop [5, 8] (fun _ i => ∃ k : Nat, i = .int .i64 k ∧ k ≤ n) (fun _ i => n - (intOf i).toNat)
  case atStart => exact ⟨0, rfl, by omega⟩
  case round =>
    obtain ⟨k, rfl, hk⟩ := hrel
    by_cases hlt : k < n
    · have hI : (k : Int) < (n : Int) := by omega
      obtain ⟨b, off, c', hv, _, hbB, hcell⟩ := HR.out.posAt (by omega)
      injection hv with hv1 _ hv3
      subst hv1 hv3
      have c0 : w.cell? ⟨b, off + k, none⟩ = some (.int .i64 0) := by
        have := hcell k 0 (.int .i64 0) (by simp [hlt])
        rwa [Nat.mul_one, Nat.add_zero] at this
      clear hcell
      go_wp2
      exact ⟨⟨k + 1, by go_num, by omega⟩, by simp only [intOf]; omega⟩
    · have hI : ¬ (k : Int) < (n : Int) := by omega
      go_wp2
      go_ret
      exact ⟨rfl, Below.refl _ _⟩
set_option maxRecDepth 100000 in
set_option maxHeartbeats 4000000 in
theorem listU_same (l : List Int) (u v : Value) (w : World) (hu : Rd w w.heap.size 1 u l.length (l.map (Value.int .u32))) (hv : Rd w w.heap.size 1 v l.length (l.map (Value.int .u32))) (hlen : l.length ≤ 9223372036854775807) :
    Calls Tryd.prog 41 #[u, v] w fun e w' => e = .returned (.int .i64 0) ∧ Below w.heap.size w w' := by
  obtain ⟨A, c, rfl, hc⟩ := hu.form
  obtain ⟨A', c', rfl, hc'⟩ := hv.form
  have HU := Lib.hid hu
  have HV := Lib.hid hv
  clear hu hv
  have hC : Calls Tryd.prog 63 #[.slice A l.length c, .slice A' l.length c'] w fun e w' => e = .returned (.int .i64 0) ∧ Below w.heap.size w w' := by
    go_enter Tryd.func63, Tryd.ntmps63
    go_wp2
    go_loop [5, 6, 7, 8, 11] (fun _ _ _ _ i => ∃ k : Nat, i = .int .i64 k ∧ k ≤ l.length) (fun _ _ _ _ i => l.length - (intOf i).toNat)
    case atStart => exact ⟨0, rfl, by omega⟩
    case round =>
      obtain ⟨k, rfl, hk⟩ := hrel
      by_cases hlt : k < l.length
      · have hI : (k : Int) < (l.length : Int) := by omega
        obtain ⟨x, hx⟩ : ∃ x, l[k]? = some x := ⟨_, List.getElem?_eq_getElem hlt⟩
        obtain ⟨b, off, d, hv, _, _, hcell⟩ := HU.out.posAt (by omega)
        injection hv with hv1 _ hv3
        subst hv1 hv3
        obtain ⟨b', off', d', hv', _, _, hcell'⟩ := HV.out.posAt (by omega)
        injection hv' with hv1' _ hv3'
        subst hv1' hv3'
        have c0 : w.cell? ⟨b, off + k, none⟩ = some (.int .u32 x) := by
          have := hcell k 0 (.int .u32 x) (by simp [hx])
          rwa [Nat.mul_one, Nat.add_zero] at this
        have c1 : w.cell? ⟨b', off' + k, none⟩ = some (.int .u32 x) := by
          have := hcell' k 0 (.int .u32 x) (by simp [hx])
          rwa [Nat.mul_one, Nat.add_zero] at this
        clear hcell hcell' hx
        go_wp2_with (go_at_call 45; refine (cmpU_same x _).mono ?_; rintro e w' ⟨rfl, rfl⟩)
        exact ⟨⟨k + 1, by go_num, by omega⟩, by simp only [intOf]; omega⟩
      · have hI : ¬ (k : Int) < (l.length : Int) := by omega
        go_wp2
        go_ret
        exact ⟨rfl, Below.refl _ _⟩
  have HC := Lib.hid hC
  clear hC
  go_enter Tryd.func41, Tryd.ntmps41
  go_wp2_with fail
  refine HC.out.mono ?_
  rintro e w1 ⟨rfl, hb⟩
  go_wp2
  go_ret
  exact ⟨rfl, hb⟩
set_option maxRecDepth 100000 in
set_option maxHeartbeats 4000000 in
theorem listA_same (l : List Int) (u v : Value) (w : World) (hu : Rd w w.heap.size 1 u l.length (l.map (Value.int .u32))) (hv : Rd w w.heap.size 1 v l.length (l.map (Value.int .u32))) (hlen : l.length ≤ 9223372036854775807) :
    Calls Tryd.prog 42 #[u, v] w fun e w' => e = .returned (.int .i64 0) ∧ Below w.heap.size w w' := by
  obtain ⟨A, c, rfl, hc⟩ := hu.form
  obtain ⟨A', c', rfl, hc'⟩ := hv.form
  have HU := Lib.hid hu
  have HV := Lib.hid hv
  clear hu hv
  have hC : Calls Tryd.prog 64 #[.slice A l.length c, .slice A' l.length c'] w fun e w' => e = .returned (.int .i64 0) ∧ Below w.heap.size w w' := by
    go_enter Tryd.func64, Tryd.ntmps64
    go_wp2
    go_loop [5, 6, 7, 8, 11] (fun _ _ _ _ i => ∃ k : Nat, i = .int .i64 k ∧ k ≤ l.length) (fun _ _ _ _ i => l.length - (intOf i).toNat)
    case atStart => exact ⟨0, rfl, by omega⟩
    case round =>
      obtain ⟨k, rfl, hk⟩ := hrel
      by_cases hlt : k < l.length
      · have hI : (k : Int) < (l.length : Int) := by omega
        obtain ⟨x, hx⟩ : ∃ x, l[k]? = some x := ⟨_, List.getElem?_eq_getElem hlt⟩
        obtain ⟨b, off, d, hv, _, _, hcell⟩ := HU.out.posAt (by omega)
        injection hv with hv1 _ hv3
        subst hv1 hv3
        obtain ⟨b', off', d', hv', _, _, hcell'⟩ := HV.out.posAt (by omega)
        injection hv' with hv1' _ hv3'
        subst hv1' hv3'
        have c0 : w.cell? ⟨b, off + k, none⟩ = some (.int .u32 x) := by
          have := hcell k 0 (.int .u32 x) (by simp [hx])
          rwa [Nat.mul_one, Nat.add_zero] at this
        have c1 : w.cell? ⟨b', off' + k, none⟩ = some (.int .u32 x) := by
          have := hcell' k 0 (.int .u32 x) (by simp [hx])
          rwa [Nat.mul_one, Nat.add_zero] at this
        clear hcell hcell' hx
        go_wp2_with (go_at_call 39; refine (cmpA_same x _).mono ?_; rintro e w' ⟨rfl, rfl⟩)
        exact ⟨⟨k + 1, by go_num, by omega⟩, by simp only [intOf]; omega⟩
      · have hI : ¬ (k : Int) < (l.length : Int) := by omega
        go_wp2
        go_ret
        exact ⟨rfl, Below.refl _ _⟩
  have HC := Lib.hid hC
  clear hC
  go_enter Tryd.func42, Tryd.ntmps42
  go_wp2_with fail
  refine HC.out.mono ?_
  rintro e w1 ⟨rfl, hb⟩
  go_wp2
  go_ret
  exact ⟨rfl, hb⟩
set_option maxRecDepth 100000 in
set_option maxHeartbeats 4000000 in
theorem cmpPre_same (a m : Int) (w : World) :
    Calls Tryd.prog 37 #[.agg #[.int .u32 a, .int .i64 m], .agg #[.int .u32 a, .int .i64 m]] w fun e w' => e = .returned (.int .i64 0) ∧ Below w.heap.size w w' := by
  have hb0 := below2 w (.cells #[.int .u32 a, .int .i64 m] 37) (.cells #[.int .u32 a, .int .i64 m] 37)
  obtain ⟨k0, k1⟩ := blk2 w (.cells #[.int .u32 a, .int .i64 m] 37) (.cells #[.int .u32 a, .int .i64 m] 37)
  obtain ⟨c0, c1, _, _⟩ := two_cells k0
  obtain ⟨e0, e1, _, _⟩ := two_cells k1
  have KO := Lib.hid (fun n v w h hn => or_zero n v w h hn)
  go_enter Tryd.func37, Tryd.ntmps37
  go_upto_region 1 with fail
  clear k0 k1
  generalize (w.alloc (.cells #[.int .u32 a, .int .i64 m] 37)).alloc (.cells #[.int .u32 a, .int .i64 m] 37) = W at *
  have F0 := cell_regrown c0
  have F1 := cell_regrown c1
  have F2 := cell_regrown e0
  have F3 := cell_regrown e1
  refine wp_region_tail_below 10 (by kernel_rfl) (by kernel_rfl) ?_
  simp only [List.take_succ_cons, List.take_zero, List.drop_succ_cons, List.drop_zero]
  repeat (first | go_big_quiet_step ((first | (go_at_call 39; with_reducible exact Calls.regrown_of (cmpAd_same _ _)) | (go_at_call 38; with_reducible exact Calls.regrown_of (cmpI_same _ _)))) | quiet_step ((first | (go_at_call 39; with_reducible exact Calls.regrown_of (cmpAd_same _ _)) | (go_at_call 38; with_reducible exact Calls.regrown_of (cmpI_same _ _)))))
  refine wpQuiet_nil ?_
  intro W3 hw'
  obtain ⟨⟨nq, osq⟩, hw''⟩ := hw'
  have hb3 := hw'' ▸ below_regrown W nq osq
  clear hw''
  have hb4 := below_call hb0 hb3
  clear F0 F1 F2 F3 c0 c1 e0 e1
  go_wp2_with fail
  refine (KO.out 2 _ _ (Rd.of_blk (cs := #[.int .i64 0, .int .i64 0]) (t := 3) (heap_alloc_new _ _) (Nat.le_refl _) rfl) (by decide)).mono ?_
  rintro e w4 ⟨rfl, hb⟩
  have hb5 := below_call (hb4.alloc hb4.size _) hb
  go_wp2
  go_ret
  exact ⟨rfl, hb5⟩
set_option maxRecDepth 100000 in
set_option maxHeartbeats 8000000 in
theorem cmpAdvert_same (r : AvV) (vp vo vl up uo ul : Value) (w : World) (hp : Rd w w.heap.size 1 vp r.pa.length (r.pa.map (Value.int .u32))) (ho : Rd w w.heap.size 1 vo r.co.length (r.co.map (Value.int .u32))) (hl : Rd w w.heap.size 1 vl r.cl.length (r.cl.map (Value.int .u32)))
    (gp : Rd w w.heap.size 1 up r.pa.length (r.pa.map (Value.int .u32))) (go : Rd w w.heap.size 1 uo r.co.length (r.co.map (Value.int .u32))) (gl : Rd w w.heap.size 1 ul r.cl.length (r.cl.map (Value.int .u32))) (hlen : r.pa.length + r.co.length + r.cl.length ≤ 1000000) :
    Calls Tryd.prog 14 #[.agg #[.int .u32 r.a, .int .i64 r.m, .int .u32 r.ho, .int .i64 r.pf, .int .i64 r.me, vp, vo, .int .u32 r.pe, .int .u32 r.id, .bool r.ex, .int .u32 r.og, vl, .int .i64 r.ss], .agg #[.int .u32 r.a, .int .i64 r.m, .int .u32 r.ho, .int .i64 r.pf, .int .i64 r.me, up, uo, .int .u32 r.pe, .int .u32 r.id, .bool r.ex, .int .u32 r.og, ul, .int .i64 r.ss]] w fun e w' => e = .returned (.int .i64 0) ∧ Below w.heap.size w w' := by
  have hb0 := below2 w (.cells #[.int .u32 r.a, .int .i64 r.m, .int .u32 r.ho, .int .i64 r.pf, .int .i64 r.me, vp, vo, .int .u32 r.pe, .int .u32 r.id, .bool r.ex, .int .u32 r.og, vl, .int .i64 r.ss] 43) (.cells #[.int .u32 r.a, .int .i64 r.m, .int .u32 r.ho, .int .i64 r.pf, .int .i64 r.me, up, uo, .int .u32 r.pe, .int .u32 r.id, .bool r.ex, .int .u32 r.og, ul, .int .i64 r.ss] 43)
  obtain ⟨k0, k1⟩ := blk2 w (.cells #[.int .u32 r.a, .int .i64 r.m, .int .u32 r.ho, .int .i64 r.pf, .int .i64 r.me, vp, vo, .int .u32 r.pe, .int .u32 r.id, .bool r.ex, .int .u32 r.og, vl, .int .i64 r.ss] 43) (.cells #[.int .u32 r.a, .int .i64 r.m, .int .u32 r.ho, .int .i64 r.pf, .int .i64 r.me, up, uo, .int .u32 r.pe, .int .u32 r.id, .bool r.ex, .int .u32 r.og, ul, .int .i64 r.ss] 43)
  obtain ⟨c0, c1, c2, c3, c4, c5, c6, c7, c8, c9, c10, c11, c12⟩ := blk13 k0
  obtain ⟨d0, d1, d2, d3, d4, d5, d6, d7, d8, d9, d10, d11, d12⟩ := blk13 k1
  have KO := Lib.hid (fun n v w h hn => or_zero n v w h hn)
  go_enter Tryd.func14, Tryd.ntmps14
  go_upto_region 1 with fail
  clear k0 k1
  generalize (w.alloc (.cells #[.int .u32 r.a, .int .i64 r.m, .int .u32 r.ho, .int .i64 r.pf, .int .i64 r.me, vp, vo, .int .u32 r.pe, .int .u32 r.id, .bool r.ex, .int .u32 r.og, vl, .int .i64 r.ss] 43)).alloc (.cells #[.int .u32 r.a, .int .i64 r.m, .int .u32 r.ho, .int .i64 r.pf, .int .i64 r.me, up, uo, .int .u32 r.pe, .int .u32 r.id, .bool r.ex, .int .u32 r.og, ul, .int .i64 r.ss] 43) = W at *
  have KP := Lib.hid (show ∀ d os, Calls Tryd.prog 41 #[vp, up] (grow (redrawn W d) os) _ from fun d os => listU_same r.pa vp up _ ((hp.below (hb0.trans ((below_regrown W d os).mono hb0.size))).mono (hb0.trans ((below_regrown W d os).mono hb0.size)).size) ((gp.below (hb0.trans ((below_regrown W d os).mono hb0.size))).mono (hb0.trans ((below_regrown W d os).mono hb0.size)).size) (by omega))
  have KC := Lib.hid (show ∀ d os, Calls Tryd.prog 41 #[vo, uo] (grow (redrawn W d) os) _ from fun d os => listU_same r.co vo uo _ ((ho.below (hb0.trans ((below_regrown W d os).mono hb0.size))).mono (hb0.trans ((below_regrown W d os).mono hb0.size)).size) ((go.below (hb0.trans ((below_regrown W d os).mono hb0.size))).mono (hb0.trans ((below_regrown W d os).mono hb0.size)).size) (by omega))
  have KL := Lib.hid (show ∀ d os, Calls Tryd.prog 42 #[vl, ul] (grow (redrawn W d) os) _ from fun d os => listA_same r.cl vl ul _ ((hl.below (hb0.trans ((below_regrown W d os).mono hb0.size))).mono (hb0.trans ((below_regrown W d os).mono hb0.size)).size) ((gl.below (hb0.trans ((below_regrown W d os).mono hb0.size))).mono (hb0.trans ((below_regrown W d os).mono hb0.size)).size) (by omega))
  clear hp ho hl gp go gl hlen
  have F0 := cell_regrown c0
  have G0 := cell_regrown d0
  have F1 := cell_regrown c1
  have G1 := cell_regrown d1
  have F2 := cell_regrown c2
  have G2 := cell_regrown d2
  have F3 := cell_regrown c3
  have G3 := cell_regrown d3
  have F4 := cell_regrown c4
  have G4 := cell_regrown d4
  have F5 := cell_regrown c5
  have G5 := cell_regrown d5
  have F6 := cell_regrown c6
  have G6 := cell_regrown d6
  have F7 := cell_regrown c7
  have G7 := cell_regrown d7
  have F8 := cell_regrown c8
  have G8 := cell_regrown d8
  have F9 := cell_regrown c9
  have G9 := cell_regrown d9
  have F10 := cell_regrown c10
  have G10 := cell_regrown d10
  have F11 := cell_regrown c11
  have G11 := cell_regrown d11
  have F12 := cell_regrown c12
  have G12 := cell_regrown d12
  refine wp_region_tail_below 60 (by kernel_rfl) (by kernel_rfl) ?_
  simp only [List.take_succ_cons, List.take_zero, List.drop_succ_cons, List.drop_zero]
  repeat (first | go_big_quiet_step ((first | (go_at_call 39; with_reducible exact Calls.regrown_of (cmpAd_same _ _)) | (go_at_call 38; with_reducible exact Calls.regrown_of (cmpI_same _ _)) | (go_at_call 37; with_reducible exact Calls.regrown_of (cmpPre_same _ _ _)) | (go_at_call 40; with_reducible exact Calls.regrown_of (cmpBool_same _ _)) | (go_at_call 41; with_reducible exact Calls.regrown_of (KP.out _ _)) | (go_at_call 41; with_reducible exact Calls.regrown_of (KC.out _ _)) | (go_at_call 42; with_reducible exact Calls.regrown_of (KL.out _ _)))) | quiet_step ((first | (go_at_call 39; with_reducible exact Calls.regrown_of (cmpAd_same _ _)) | (go_at_call 38; with_reducible exact Calls.regrown_of (cmpI_same _ _)) | (go_at_call 37; with_reducible exact Calls.regrown_of (cmpPre_same _ _ _)) | (go_at_call 40; with_reducible exact Calls.regrown_of (cmpBool_same _ _)) | (go_at_call 41; with_reducible exact Calls.regrown_of (KP.out _ _)) | (go_at_call 41; with_reducible exact Calls.regrown_of (KC.out _ _)) | (go_at_call 42; with_reducible exact Calls.regrown_of (KL.out _ _)))))
  refine wpQuiet_nil ?_
  intro W3 hw'
  obtain ⟨⟨nq, osq⟩, hw''⟩ := hw'
  have hb3 := hw'' ▸ below_regrown W nq osq
  clear hw''
  have hb4 := below_call hb0 hb3
  clear F0 G0 c0 d0 F1 G1 c1 d1 F2 G2 c2 d2 F3 G3 c3 d3 F4 G4 c4 d4 F5 G5 c5 d5 F6 G6 c6 d6 F7 G7 c7 d7 F8 G8 c8 d8 F9 G9 c9 d9 F10 G10 c10 d10 F11 G11 c11 d11 F12 G12 c12 d12 KP KC KL
  go_wp2_with fail
  refine (KO.out 12 _ _ (Rd.of_blk (cs := #[.int .i64 0, .int .i64 0, .int .i64 0, .int .i64 0, .int .i64 0, .int .i64 0, .int .i64 0, .int .i64 0, .int .i64 0, .int .i64 0, .int .i64 0, .int .i64 0]) (t := 3) (heap_alloc_new _ _) (Nat.le_refl _) rfl) (by decide)).mono ?_
  rintro e w4 ⟨rfl, hb⟩
  have hb5 := below_call (hb4.alloc hb4.size _) hb
  go_wp2
  go_ret
  exact ⟨rfl, hb5⟩
end Go.Proofs.YtakkgamhceignaaDoor

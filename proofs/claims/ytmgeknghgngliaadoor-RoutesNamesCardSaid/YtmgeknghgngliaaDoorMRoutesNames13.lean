/-
  Joined texts: Rt3, RtN, LawRtNames.
-/
import Derived.Test.YtmgeknghgngliaaDoorMRoutesNames10
import Derived.Test.YtmgeknghgngliaaDoorMRoutesNames11
import Derived.Test.YtmgeknghgngliaaDoorMRoutesNames12
import Derived.Test.YtmgeknghgngliaaDoorShelf4
import Derived.Lib.ConvBytes
import Derived.Lib.SliceRun
/-
  The walk of routes.AdvertText (written by wip/gen/genrt3.py).
-/
namespace Go.Proofs.YtmgeknghgngliaaDoor
open Go Go.RowKit Go.Lib Go.Sort

def AvV.told (r : AvV) : List UInt8 := if r.ok then r.text else []
def AvV.toldE (r : AvV) : Int := if r.ok then 0 else 1
theorem av_told_yes {r : AvV} (h : r.ok = true) : r.told = r.text ∧ r.toldE = 0 := by unfold AvV.told AvV.toldE; rw [if_pos h, if_pos h]; exact ⟨rfl, rfl⟩
theorem av_told_no {r : AvV} (h : r.ok = false) : r.told = [] ∧ r.toldE = 1 := by unfold AvV.told AvV.toldE; rw [h]; exact ⟨rfl, rfl⟩
theorem av_ok_iff {r : AvV} : r.ok = true ↔ (chk r.a r.m = 0 ∧ (fineB r.pf = true ∧ fineB r.me = true) ∧ (r.ss = -1 ∨ fineB r.ss = true)) := by
  simp only [AvV.ok, Bool.and_eq_true, decide_eq_true_eq, Bool.or_eq_true, and_assoc]
theorem av_ok_no {r : AvV} (h : ¬ (chk r.a r.m = 0 ∧ (fineB r.pf = true ∧ fineB r.me = true) ∧ (r.ss = -1 ∨ fineB r.ss = true))) : r.ok = false := by
  cases e : r.ok with
  | false => rfl
  | true => exact absurd (av_ok_iff.1 e) h
theorem blk13 {w : World} {g : Nat} {v0 v1 v2 v3 v4 v5 v6 v7 v8 v9 v10 v11 v12 : Value} {t : TypeId} (h : w.heap[g]? = some (.cells #[v0, v1, v2, v3, v4, v5, v6, v7, v8, v9, v10, v11, v12] t (0, 0))) : w.cell? ⟨g, 0, none⟩ = some v0 ∧ w.cell? ⟨g, 1, none⟩ = some v1 ∧ w.cell? ⟨g, 2, none⟩ = some v2 ∧ w.cell? ⟨g, 3, none⟩ = some v3 ∧ w.cell? ⟨g, 4, none⟩ = some v4 ∧ w.cell? ⟨g, 5, none⟩ = some v5 ∧ w.cell? ⟨g, 6, none⟩ = some v6 ∧ w.cell? ⟨g, 7, none⟩ = some v7 ∧ w.cell? ⟨g, 8, none⟩ = some v8 ∧ w.cell? ⟨g, 9, none⟩ = some v9 ∧ w.cell? ⟨g, 10, none⟩ = some v10 ∧ w.cell? ⟨g, 11, none⟩ = some v11 ∧ w.cell? ⟨g, 12, none⟩ = some v12 :=
  ⟨cell_of_row w g 0 _ t (0, 0) h, cell_of_row w g 1 _ t (0, 0) h, cell_of_row w g 2 _ t (0, 0) h, cell_of_row w g 3 _ t (0, 0) h, cell_of_row w g 4 _ t (0, 0) h, cell_of_row w g 5 _ t (0, 0) h, cell_of_row w g 6 _ t (0, 0) h, cell_of_row w g 7 _ t (0, 0) h, cell_of_row w g 8 _ t (0, 0) h, cell_of_row w g 9 _ t (0, 0) h, cell_of_row w g 10 _ t (0, 0) h, cell_of_row w g 11 _ t (0, 0) h, cell_of_row w g 12 _ t (0, 0) h⟩
theorem sideW_any (b : Bool) (w : World) : Calls Tryd.prog 37 #[.bool b] w fun e w' => e = .returned (.string ⟨(sideT b).toArray⟩) ∧ Below w.heap.size w w' := by
  refine (side_any b w).mono ?_
  rintro e w1 ⟨rfl, rfl⟩
  refine ⟨?_, Below.refl _ _⟩
  cases b <;> rfl
theorem itoaS_any (n : Int) (h : n = -1 ∨ (0 ≤ n ∧ n ≤ 2147483647)) (w : World) (hE : EnvT w) :
    Calls Tryd.prog 34 #[.int .i64 n] w fun e w' => e = .returned (.string ⟨(sessT n).toArray⟩) ∧ Below w.heap.size w w' := by
  by_cases h1 : n = -1
  · subst h1
    refine (Tryd.strconv_Itoa (-1) (by omega) (by omega) w hE.tab).mono ?_
    rintro e w2 ⟨rfl, h⟩
    refine ⟨?_, below_of_grow h⟩
    have e : Lib.itoa (-1) = sessT (-1) := by
      have := Lib.itoa_neg 1 (by omega)
      rw [show (-1 : Int) = -((1 : Nat) : Int) from rfl, this, decDigits_small (by omega)]
      decide
    rw [e]
  · have h2 : 0 ≤ n ∧ n ≤ 2147483647 := h.resolve_left h1
    have e : sessT n = Lib.decDigits n.toNat := by unfold sessT; rw [if_neg h1]
    rw [e]
    exact itoaN_any n h2.1 (by omega) w hE
def decB (n : Int) : ByteArray := ⟨(Lib.decDigits n.toNat).toArray⟩
def adrB (n : Int) : ByteArray := textA n.toNat
theorem fmtB_any (n : Int) (h0 : 0 ≤ n) (h1 : n < 4294967296) (w : World) (hE : EnvT w) :
    Calls Tryd.prog 38 #[.int .u64 n, .int .i64 10] w fun e w' => e = .returned (.string (decB n)) ∧ Below w.heap.size w w' := fmtInt_any n h0 h1 w hE
theorem adrB_any (a : Int) (h0 : 0 ≤ a) (h1 : a < 4294967296) (w : World) (hE : EnvT w) :
    Calls Tryd.prog 35 #[.int .u32 a] w fun e w' => e = .returned (.string (adrB a)) ∧ Below w.heap.size w w' := addrTextI_any a ⟨h0, h1⟩ w hE
theorem sum_le {l : List (List UInt8)} {k : Nat} (h : ∀ x ∈ l, x.length ≤ k) : (l.map List.length).sum ≤ k * l.length := by
  induction l with
  | nil => simp
  | cons x r ih =>
    have h1 := h x (by simp)
    have h2 := ih (fun y hy => h y (List.mem_cons_of_mem _ hy))
    simp only [List.map_cons, List.sum_cons, List.length_cons, Nat.mul_add]
    omega
theorem dec_le {n : Int} (h : n < 4294967296) : (Lib.decDigits n.toNat).length ≤ 10 := dec32 (by omega)
theorem adr_le (n : Int) : (addrT n).length ≤ 15 := by
  have e : (textA n.toNat).data.toList.length = (textA n.toNat).size := Array.length_toList
  have := textA_size n.toNat
  unfold addrT
  omega
theorem av_text_len {r : AvV} (hlen : r.pa.length + r.co.length + r.cl.length ≤ 1000) (h : r.ok = true) : r.text.length ≤ 100000 := by
  obtain ⟨h1, h2, h3, h4⟩ := av_ok h
  have kc := chk_ok h1
  have a0 := prefT_len (a := r.a) kc.1 kc.2.1
  have hall : ∀ x ∈ r.words, x.length ≤ 26 := by
    intro x hx
    simp only [AvV.words, AvV.head, AvV.tail, List.mem_append, List.mem_cons, List.not_mem_nil, or_false, List.mem_map] at hx
    have d1 := dec_le (n := r.pf) (by omega)
    have d2 := dec_le (n := r.me) (by omega)
    have d3 : (sessT r.ss).length ≤ 10 := by
      unfold sessT
      split
      · decide
      · exact dec_le (by omega)
    have d4 : (sideT r.ex).length ≤ 8 := by cases r.ex <;> decide
    have e1 := adr_le r.ho
    have e2 := adr_le r.pe
    have e3 := adr_le r.id
    have e4 := adr_le r.og
    rcases hx with (rfl | rfl | rfl | rfl | rfl | rfl | rfl | rfl | rfl | rfl | rfl | rfl | rfl | rfl | rfl | rfl | rfl) | ⟨n, hn, rfl⟩ | rfl | ⟨n, hn, rfl⟩ | rfl | ⟨n, hn, rfl⟩
    all_goals first
      | omega
      | (unfold decT; omega)
      | decide
      | (have := r.hpa n hn; have h9 := dec_le (n := n) (by omega); unfold decT; omega)
      | (have := r.hco n hn; have h9 := dec_le (n := n) (by omega); unfold decT; omega)
      | (have h9 := adr_le n; omega)
  have hs := sum_le hall
  have hl : r.words.length = 17 + (r.pa.length + (r.co.length + r.cl.length + 1) + 1) := by
    simp only [AvV.words, AvV.head, AvV.tail, List.length_append, List.length_cons, List.length_nil, List.length_map]
    omega
  unfold AvV.text
  rw [← joinC_join32]
  have := joinB32_len r.words
  omega
def avObj (r : AvV) (vp vo vl : Value) : Obj := .cells #[.int .u32 r.a, .int .i64 r.m, .int .u32 r.ho, .int .i64 r.pf, .int .i64 r.me, vp, vo, .int .u32 r.pe, .int .u32 r.id, .bool r.ex, .int .u32 r.og, vl, .int .i64 r.ss] 35
set_option maxRecDepth 100000 in
set_option maxHeartbeats 40000000 in
theorem avText_any (r : AvV) (vp vo vl : Value) (w : World) (hE : EnvT w) (hp : Rd w w.heap.size 1 vp r.pa.length (r.pa.map (Value.int .u32))) (ho : Rd w w.heap.size 1 vo r.co.length (r.co.map (Value.int .u32))) (hl : Rd w w.heap.size 1 vl r.cl.length (r.cl.map (Value.int .u32))) (hlen : r.pa.length + r.co.length + r.cl.length ≤ 1000) :
    Calls Tryd.prog 9 #[.agg #[.int .u32 r.a, .int .i64 r.m, .int .u32 r.ho, .int .i64 r.pf, .int .i64 r.me, vp, vo, .int .u32 r.pe, .int .u32 r.id, .bool r.ex, .int .u32 r.og, vl, .int .i64 r.ss]] w fun e w' => e = .returned (.tuple #[.string ⟨r.told.toArray⟩, .int .i64 r.toldE]) ∧ Below w.heap.size w w' := by
  have hk0 := heap_alloc_new w (avObj r vp vo vl)
  have hb0 := below1 w (avObj r vp vo vl)
  have hW : w.alloc (.cells #[.int .u32 r.a, .int .i64 r.m, .int .u32 r.ho, .int .i64 r.pf, .int .i64 r.me, vp, vo, .int .u32 r.pe, .int .u32 r.id, .bool r.ex, .int .u32 r.og, vl, .int .i64 r.ss] 35) = w.alloc (avObj r vp vo vl) := rfl
  have hE0 := hE.below hb0
  obtain ⟨c0, c1, c2, c3, c4, c5, c6, c7, c8, c9, c10, c11, c12⟩ := blk13 (t := 35) (show (w.alloc (avObj r vp vo vl)).heap[w.heap.size]? = some (.cells #[.int .u32 r.a, .int .i64 r.m, .int .u32 r.ho, .int .i64 r.pf, .int .i64 r.me, vp, vo, .int .u32 r.pe, .int .u32 r.id, .bool r.ex, .int .u32 r.og, vl, .int .i64 r.ss] 35 (0, 0)) from hk0)
  have HP := Lib.hid hp
  have HO := Lib.hid ho
  have HL := Lib.hid hl
  clear hp ho hl
  go_enter Tryd.func9, Tryd.ntmps9
  go_upto_region 1 with fail
  try rw [hW]
  generalize w.alloc (avObj r vp vo vl) = W at *
  clear hW
  go_cut [35] (fun sc wx => sc = .bool (!r.ok) ∧ Below W.heap.size W wx)
  case first =>
    by_cases q0 : chk r.a r.m = 0
    · by_cases q1 : (fineB r.pf = true ∧ fineB r.me = true)
      · by_cases q2 : r.ss = -1
        · have d0 : (chk r.a r.m != 0) = false := by simpa using q0
          have KC := Lib.hid (fun V (hv : Below W.heap.size W V) => addrCheck_any r.a r.m V r.ha.1 r.ha.2)
          have hfaKF : [r.pf, r.me].all fineB = true := by simpa using q1
          have KF := Lib.hid (fun V (hv : Below W.heap.size W V) g (hg : V.heap[g]? = some (.cells #[.int .i64 r.pf, .int .i64 r.me] 3 (0, 0))) => (hfaKF ▸ fine_any [r.pf, r.me] _ V (Rd.of_blk (cs := #[.int .i64 r.pf, .int .i64 r.me]) (t := 3) hg (Nat.le_refl _) rfl) (by simp) : Calls Tryd.prog 31 #[.slice (some ⟨g, 0, none⟩) 2 2] V fun e V' => e = .returned (.bool true) ∧ Below V.heap.size V V'))
          have d2 : (r.ss != -1) = false := by simpa using q2
          have hok := Lib.hid (show r.ok = true from av_ok_iff.2 ⟨q0, q1, Or.inl q2⟩)
          try clear q2
          have hv0 := Below.refl W.heap.size W
          have C0 := Lib.hid c0
          have C1 := Lib.hid c1
          have C3 := Lib.hid c3
          have C4 := Lib.hid c4
          have C12 := Lib.hid c12
          go_wp2_with fail
          refine (KC.out W hv0).mono ?_
          rintro e V1 ⟨rfl, hb⟩
          have hv1 := below_call hv0 hb
          clear hb
          clear c0 c1 c2 c3 c4 c5 c6 c7 c8 c9 c10 c11 c12
          have a0 := cell_kept hv1 C0.out
          have a1 := cell_kept hv1 C1.out
          have a3 := cell_kept hv1 C3.out
          have a4 := cell_kept hv1 C4.out
          have a12 := cell_kept hv1 C12.out
          go_wp2_with fail
          have hg := heap_alloc_new V1 (.cells #[.int .i64 r.pf, .int .i64 r.me] 3)
          have hva := hv1.alloc hv1.size (.cells #[.int .i64 r.pf, .int .i64 r.me] 3)
          refine (KF.out _ hva _ hg).mono ?_
          rintro e V2 ⟨rfl, hb⟩
          have hv2 := below_call hva hb
          clear hb
          clear a0 a1 a3 a4 a12
          have a0 := cell_kept hv2 C0.out
          have a1 := cell_kept hv2 C1.out
          have a3 := cell_kept hv2 C3.out
          have a4 := cell_kept hv2 C4.out
          have a12 := cell_kept hv2 C12.out
          go_wp2_with fail
          go_meet
          exact ⟨by rw [hok.out]; rfl, hv2⟩
        · cases q3 : fineB r.ss with
          | false =>
            have d0 : (chk r.a r.m != 0) = false := by simpa using q0
            have KC := Lib.hid (fun V (hv : Below W.heap.size W V) => addrCheck_any r.a r.m V r.ha.1 r.ha.2)
            have hfaKF : [r.pf, r.me].all fineB = true := by simpa using q1
            have KF := Lib.hid (fun V (hv : Below W.heap.size W V) g (hg : V.heap[g]? = some (.cells #[.int .i64 r.pf, .int .i64 r.me] 3 (0, 0))) => (hfaKF ▸ fine_any [r.pf, r.me] _ V (Rd.of_blk (cs := #[.int .i64 r.pf, .int .i64 r.me]) (t := 3) hg (Nat.le_refl _) rfl) (by simp) : Calls Tryd.prog 31 #[.slice (some ⟨g, 0, none⟩) 2 2] V fun e V' => e = .returned (.bool true) ∧ Below V.heap.size V V'))
            have d2 : (r.ss != -1) = true := by simpa using q2
            have hfaKG : [r.ss].all fineB = false := by simpa using q3
            have KG := Lib.hid (fun V (hv : Below W.heap.size W V) g (hg : V.heap[g]? = some (.cells #[.int .i64 r.ss] 3 (0, 0))) => (hfaKG ▸ fine_any [r.ss] _ V (Rd.of_blk (cs := #[.int .i64 r.ss]) (t := 3) hg (Nat.le_refl _) rfl) (by simp) : Calls Tryd.prog 31 #[.slice (some ⟨g, 0, none⟩) 1 1] V fun e V' => e = .returned (.bool false) ∧ Below V.heap.size V V'))
            have hok := Lib.hid (show r.ok = false from av_ok_no (fun h => by rcases h.2.2 with h2 | h2; exact q2 h2; rw [q3] at h2; cases h2))
            try clear q2
            have hv0 := Below.refl W.heap.size W
            have C0 := Lib.hid c0
            have C1 := Lib.hid c1
            have C3 := Lib.hid c3
            have C4 := Lib.hid c4
            have C12 := Lib.hid c12
            go_wp2_with fail
            refine (KC.out W hv0).mono ?_
            rintro e V1 ⟨rfl, hb⟩
            have hv1 := below_call hv0 hb
            clear hb
            clear c0 c1 c2 c3 c4 c5 c6 c7 c8 c9 c10 c11 c12
            have a0 := cell_kept hv1 C0.out
            have a1 := cell_kept hv1 C1.out
            have a3 := cell_kept hv1 C3.out
            have a4 := cell_kept hv1 C4.out
            have a12 := cell_kept hv1 C12.out
            go_wp2_with fail
            have hg := heap_alloc_new V1 (.cells #[.int .i64 r.pf, .int .i64 r.me] 3)
            have hva := hv1.alloc hv1.size (.cells #[.int .i64 r.pf, .int .i64 r.me] 3)
            refine (KF.out _ hva _ hg).mono ?_
            rintro e V2 ⟨rfl, hb⟩
            have hv2 := below_call hva hb
            clear hb
            clear a0 a1 a3 a4 a12
            have a0 := cell_kept hv2 C0.out
            have a1 := cell_kept hv2 C1.out
            have a3 := cell_kept hv2 C3.out
            have a4 := cell_kept hv2 C4.out
            have a12 := cell_kept hv2 C12.out
            go_wp2_with fail
            have hg1 := heap_alloc_new V2 (.cells #[.int .i64 r.ss] 3)
            have hvb := hv2.alloc hv2.size (.cells #[.int .i64 r.ss] 3)
            refine (KG.out _ hvb _ hg1).mono ?_
            rintro e V3 ⟨rfl, hb⟩
            have hv3 := below_call hvb hb
            clear hb
            clear a0 a1 a3 a4 a12
            have a0 := cell_kept hv3 C0.out
            have a1 := cell_kept hv3 C1.out
            have a3 := cell_kept hv3 C3.out
            have a4 := cell_kept hv3 C4.out
            have a12 := cell_kept hv3 C12.out
            go_wp2_with fail
            go_meet
            exact ⟨by rw [hok.out]; rfl, hv3⟩
          | true =>
            have d0 : (chk r.a r.m != 0) = false := by simpa using q0
            have KC := Lib.hid (fun V (hv : Below W.heap.size W V) => addrCheck_any r.a r.m V r.ha.1 r.ha.2)
            have hfaKF : [r.pf, r.me].all fineB = true := by simpa using q1
            have KF := Lib.hid (fun V (hv : Below W.heap.size W V) g (hg : V.heap[g]? = some (.cells #[.int .i64 r.pf, .int .i64 r.me] 3 (0, 0))) => (hfaKF ▸ fine_any [r.pf, r.me] _ V (Rd.of_blk (cs := #[.int .i64 r.pf, .int .i64 r.me]) (t := 3) hg (Nat.le_refl _) rfl) (by simp) : Calls Tryd.prog 31 #[.slice (some ⟨g, 0, none⟩) 2 2] V fun e V' => e = .returned (.bool true) ∧ Below V.heap.size V V'))
            have d2 : (r.ss != -1) = true := by simpa using q2
            have hfaKG : [r.ss].all fineB = true := by simpa using q3
            have KG := Lib.hid (fun V (hv : Below W.heap.size W V) g (hg : V.heap[g]? = some (.cells #[.int .i64 r.ss] 3 (0, 0))) => (hfaKG ▸ fine_any [r.ss] _ V (Rd.of_blk (cs := #[.int .i64 r.ss]) (t := 3) hg (Nat.le_refl _) rfl) (by simp) : Calls Tryd.prog 31 #[.slice (some ⟨g, 0, none⟩) 1 1] V fun e V' => e = .returned (.bool true) ∧ Below V.heap.size V V'))
            have hok := Lib.hid (show r.ok = true from av_ok_iff.2 ⟨q0, q1, Or.inr q3⟩)
            try clear q2
            have hv0 := Below.refl W.heap.size W
            have C0 := Lib.hid c0
            have C1 := Lib.hid c1
            have C3 := Lib.hid c3
            have C4 := Lib.hid c4
            have C12 := Lib.hid c12
            go_wp2_with fail
            refine (KC.out W hv0).mono ?_
            rintro e V1 ⟨rfl, hb⟩
            have hv1 := below_call hv0 hb
            clear hb
            clear c0 c1 c2 c3 c4 c5 c6 c7 c8 c9 c10 c11 c12
            have a0 := cell_kept hv1 C0.out
            have a1 := cell_kept hv1 C1.out
            have a3 := cell_kept hv1 C3.out
            have a4 := cell_kept hv1 C4.out
            have a12 := cell_kept hv1 C12.out
            go_wp2_with fail
            have hg := heap_alloc_new V1 (.cells #[.int .i64 r.pf, .int .i64 r.me] 3)
            have hva := hv1.alloc hv1.size (.cells #[.int .i64 r.pf, .int .i64 r.me] 3)
            refine (KF.out _ hva _ hg).mono ?_
            rintro e V2 ⟨rfl, hb⟩
            have hv2 := below_call hva hb
            clear hb
            clear a0 a1 a3 a4 a12
            have a0 := cell_kept hv2 C0.out
            have a1 := cell_kept hv2 C1.out
            have a3 := cell_kept hv2 C3.out
            have a4 := cell_kept hv2 C4.out
            have a12 := cell_kept hv2 C12.out
            go_wp2_with fail
            have hg1 := heap_alloc_new V2 (.cells #[.int .i64 r.ss] 3)
            have hvb := hv2.alloc hv2.size (.cells #[.int .i64 r.ss] 3)
            refine (KG.out _ hvb _ hg1).mono ?_
            rintro e V3 ⟨rfl, hb⟩
            have hv3 := below_call hvb hb
            clear hb
            clear a0 a1 a3 a4 a12
            have a0 := cell_kept hv3 C0.out
            have a1 := cell_kept hv3 C1.out
            have a3 := cell_kept hv3 C3.out
            have a4 := cell_kept hv3 C4.out
            have a12 := cell_kept hv3 C12.out
            go_wp2_with fail
            go_meet
            exact ⟨by rw [hok.out]; rfl, hv3⟩
      · have d0 : (chk r.a r.m != 0) = false := by simpa using q0
        have KC := Lib.hid (fun V (hv : Below W.heap.size W V) => addrCheck_any r.a r.m V r.ha.1 r.ha.2)
        have hfaKF : [r.pf, r.me].all fineB = false := by simpa using q1
        have KF := Lib.hid (fun V (hv : Below W.heap.size W V) g (hg : V.heap[g]? = some (.cells #[.int .i64 r.pf, .int .i64 r.me] 3 (0, 0))) => (hfaKF ▸ fine_any [r.pf, r.me] _ V (Rd.of_blk (cs := #[.int .i64 r.pf, .int .i64 r.me]) (t := 3) hg (Nat.le_refl _) rfl) (by simp) : Calls Tryd.prog 31 #[.slice (some ⟨g, 0, none⟩) 2 2] V fun e V' => e = .returned (.bool false) ∧ Below V.heap.size V V'))
        have hok := Lib.hid (show r.ok = false from av_ok_no (fun h => by have h2 := h.2.1; simp [h2] at q1))
        try clear q2
        have hv0 := Below.refl W.heap.size W
        have C0 := Lib.hid c0
        have C1 := Lib.hid c1
        have C3 := Lib.hid c3
        have C4 := Lib.hid c4
        have C12 := Lib.hid c12
        go_wp2_with fail
        refine (KC.out W hv0).mono ?_
        rintro e V1 ⟨rfl, hb⟩
        have hv1 := below_call hv0 hb
        clear hb
        clear c0 c1 c2 c3 c4 c5 c6 c7 c8 c9 c10 c11 c12
        have a0 := cell_kept hv1 C0.out
        have a1 := cell_kept hv1 C1.out
        have a3 := cell_kept hv1 C3.out
        have a4 := cell_kept hv1 C4.out
        have a12 := cell_kept hv1 C12.out
        go_wp2_with fail
        have hg := heap_alloc_new V1 (.cells #[.int .i64 r.pf, .int .i64 r.me] 3)
        have hva := hv1.alloc hv1.size (.cells #[.int .i64 r.pf, .int .i64 r.me] 3)
        refine (KF.out _ hva _ hg).mono ?_
        rintro e V2 ⟨rfl, hb⟩
        have hv2 := below_call hva hb
        clear hb
        clear a0 a1 a3 a4 a12
        have a0 := cell_kept hv2 C0.out
        have a1 := cell_kept hv2 C1.out
        have a3 := cell_kept hv2 C3.out
        have a4 := cell_kept hv2 C4.out
        have a12 := cell_kept hv2 C12.out
        go_wp2_with fail
        go_meet
        exact ⟨by rw [hok.out]; rfl, hv2⟩
    · have d0 : (chk r.a r.m != 0) = true := by simpa using q0
      have KC := Lib.hid (fun V (hv : Below W.heap.size W V) => addrCheck_any r.a r.m V r.ha.1 r.ha.2)
      have hok := Lib.hid (show r.ok = false from av_ok_no (fun h => q0 h.1))
      try clear q2
      have hv0 := Below.refl W.heap.size W
      have C0 := Lib.hid c0
      have C1 := Lib.hid c1
      have C3 := Lib.hid c3
      have C4 := Lib.hid c4
      have C12 := Lib.hid c12
      go_wp2_with fail
      refine (KC.out W hv0).mono ?_
      rintro e V1 ⟨rfl, hb⟩
      have hv1 := below_call hv0 hb
      clear hb
      clear c0 c1 c2 c3 c4 c5 c6 c7 c8 c9 c10 c11 c12
      have a0 := cell_kept hv1 C0.out
      have a1 := cell_kept hv1 C1.out
      have a3 := cell_kept hv1 C3.out
      have a4 := cell_kept hv1 C4.out
      have a12 := cell_kept hv1 C12.out
      go_wp2_with fail
      go_meet
      exact ⟨by rw [hok.out]; rfl, hv1⟩
  case rest =>
    obtain ⟨rfl, hbR⟩ := hcut
    rename World => wa
    have sz0 : w.heap.size < W.heap.size := lt_of_block hk0
    have hk : wa.heap[w.heap.size]? = some (avObj r vp vo vl) := (hbR.block _ sz0).trans hk0
    have hbw := hb0.trans (hbR.mono hb0.size)
    cases hok : r.ok with
    | false =>
      have ht := Lib.hid (av_told_no hok)
      clear hok hk0 c0 c1 c2 c3 c4 c5 c6 c7 c8 c9 c10 c11 c12
      go_wp2
      go_ret2
      exact ⟨by rw [ht.out.1, ht.out.2]; rfl, hbw⟩
    | true =>
      have ht := Lib.hid (av_told_yes hok)
      obtain ⟨k0, ⟨k3, k4⟩, k6⟩ := av_ok_iff.1 hok
      have kc := chk_ok k0
      have l3 := fine_iff.1 k3
      have l4 := fine_iff.1 k4
      have hss : r.ss = -1 ∨ (0 ≤ r.ss ∧ r.ss ≤ 2147483647) := k6.imp id (fun h => fine_iff.1 h)
      have hEc := hE.below hbw
      have HOK := Lib.hid hok
      clear c0 c1 c2 c3 c4 c5 c6 c7 c8 c9 c10 c11 c12 k3 k4 k6 hok
      obtain ⟨c0, c1, c2, c3, c4, c5, c6, c7, c8, c9, c10, c11, c12⟩ := blk13 (t := 35) (show wa.heap[w.heap.size]? = some (.cells #[.int .u32 r.a, .int .i64 r.m, .int .u32 r.ho, .int .i64 r.pf, .int .i64 r.me, vp, vo, .int .u32 r.pe, .int .u32 r.id, .bool r.ex, .int .u32 r.og, vl, .int .i64 r.ss] 35 (0, 0)) from hk)
      have KP := Lib.hid (fun V (hv : Below wa.heap.size wa V) => prefI_any r.a r.m r.ha r.hm.1 r.hm.2 V (hEc.below hv))
      have KH := Lib.hid (fun V (hv : Below wa.heap.size wa V) => addrTextI_any r.ho r.hho V (hEc.below hv))
      have KF := Lib.hid (fun V (hv : Below wa.heap.size wa V) => itoaN_any r.pf l3.1 (by omega) V (hEc.below hv))
      have KM := Lib.hid (fun V (hv : Below wa.heap.size wa V) => itoaN_any r.me l4.1 (by omega) V (hEc.below hv))
      have KE := Lib.hid (fun V (hv : Below wa.heap.size wa V) => addrTextI_any r.pe r.hpe V (hEc.below hv))
      have KI := Lib.hid (fun V (hv : Below wa.heap.size wa V) => addrTextI_any r.id r.hid V (hEc.below hv))
      have KS := Lib.hid (fun V (hv : Below wa.heap.size wa V) => sideW_any r.ex V)
      have KO := Lib.hid (fun V (hv : Below wa.heap.size wa V) => addrTextI_any r.og r.hog V (hEc.below hv))
      have KN := Lib.hid (fun V (hv : Below wa.heap.size wa V) => itoaS_any r.ss hss V (hEc.below hv))
      have HWD := Lib.hid (show ([⟨(prefT r.a r.m).toArray⟩, ⟨viaW.toArray⟩, textA r.ho.toNat, ⟨prefW.toArray⟩, ⟨(Lib.decDigits r.pf.toNat).toArray⟩, ⟨metrW.toArray⟩, ⟨(Lib.decDigits r.me.toNat).toArray⟩, ⟨peerW.toArray⟩, textA r.pe.toNat, ⟨idW.toArray⟩, textA r.id.toNat, ⟨(sideT r.ex).toArray⟩, ⟨origW.toArray⟩, textA r.og.toNat, ⟨sessW.toArray⟩, ⟨(sessT r.ss).toArray⟩, ⟨pathW.toArray⟩] : List ByteArray).map (·.data.toList) = r.head from rfl)
      generalize (⟨(prefT r.a r.m).toArray⟩ : ByteArray) = q0 at *
      generalize textA r.ho.toNat = qh at *
      generalize (⟨(Lib.decDigits r.pf.toNat).toArray⟩ : ByteArray) = qf at *
      generalize (⟨(Lib.decDigits r.me.toNat).toArray⟩ : ByteArray) = qm at *
      generalize textA r.pe.toNat = qp at *
      generalize textA r.id.toNat = qi at *
      generalize (⟨(sideT r.ex).toArray⟩ : ByteArray) = qs at *
      generalize textA r.og.toNat = qo at *
      generalize (⟨(sessT r.ss).toArray⟩ : ByteArray) = qn at *
      go_upto_region 3 with fail
      have F0 := cell_regrown c0
      have F1 := cell_regrown c1
      have F2 := cell_regrown c2
      have F3 := cell_regrown c3
      have F4 := cell_regrown c4
      have F7 := cell_regrown c7
      have F8 := cell_regrown c8
      have F9 := cell_regrown c9
      have F10 := cell_regrown c10
      have F12 := cell_regrown c12
      refine wp_region_mix [(0, false), (1, false), (3, false), (4, false), (6, false), (7, false), (9, false), (10, false), (12, false), (13, false), (15, false), (16, false), (18, false), (19, false), (21, false), (22, false), (24, false), (25, false), (2, true), (5, true), (8, true), (11, true), (14, true), (17, true), (20, true), (23, true), (26, true), (27, true), (28, false)] (by kernel_rfl) (by kernel_rfl) ?_
      have hv0 := below_drawn wa
      generalize { wa with drawn := wa.drawn + 1 } = V0 at *
      refine mix_take [0, 1, 3, 4, 6, 7, 9, 10, 12, 13, 15, 16, 18, 19, 21, 22, 24, 25] [_, _, _, _, _, _, _, _, _, _, _, _, _, _, _, _, _, _] rfl rfl ?_
      simp only [List.getElem_toArray, List.getElem_cons_zero, List.getElem_cons_succ]
      repeat (go_big_quiet_step (fail))
      refine wpQuiet_nil ?_
      refine mix_bar rfl (by rfl) ?_
      simp only [List.getElem_toArray, List.getElem_cons_zero, List.getElem_cons_succ]
      go_simp
      refine (KP.out V0 hv0).mono ?_
      rintro e V1 ⟨rfl, hb⟩
      have hv1 := below_call hv0 hb
      refine ⟨regrown_of_below hv1, ?_⟩
      clear hb
      refine mix_bar rfl (by rfl) ?_
      simp only [List.getElem_toArray, List.getElem_cons_zero, List.getElem_cons_succ]
      go_simp
      refine (KH.out V1 hv1).mono ?_
      rintro e V2 ⟨rfl, hb⟩
      have hv2 := below_call hv1 hb
      refine ⟨regrown_of_below hv2, ?_⟩
      clear hb
      refine mix_bar rfl (by rfl) ?_
      simp only [List.getElem_toArray, List.getElem_cons_zero, List.getElem_cons_succ]
      go_simp
      refine (KF.out V2 hv2).mono ?_
      rintro e V3 ⟨rfl, hb⟩
      have hv3 := below_call hv2 hb
      refine ⟨regrown_of_below hv3, ?_⟩
      clear hb
      refine mix_bar rfl (by rfl) ?_
      simp only [List.getElem_toArray, List.getElem_cons_zero, List.getElem_cons_succ]
      go_simp
      refine (KM.out V3 hv3).mono ?_
      rintro e V4 ⟨rfl, hb⟩
      have hv4 := below_call hv3 hb
      refine ⟨regrown_of_below hv4, ?_⟩
      clear hb
      refine mix_bar rfl (by rfl) ?_
      simp only [List.getElem_toArray, List.getElem_cons_zero, List.getElem_cons_succ]
      go_simp
      refine (KE.out V4 hv4).mono ?_
      rintro e V5 ⟨rfl, hb⟩
      have hv5 := below_call hv4 hb
      refine ⟨regrown_of_below hv5, ?_⟩
      clear hb
      refine mix_bar rfl (by rfl) ?_
      simp only [List.getElem_toArray, List.getElem_cons_zero, List.getElem_cons_succ]
      go_simp
      refine (KI.out V5 hv5).mono ?_
      rintro e V6 ⟨rfl, hb⟩
      have hv6 := below_call hv5 hb
      refine ⟨regrown_of_below hv6, ?_⟩
      clear hb
      refine mix_bar rfl (by rfl) ?_
      simp only [List.getElem_toArray, List.getElem_cons_zero, List.getElem_cons_succ]
      go_simp
      refine (KS.out V6 hv6).mono ?_
      rintro e V7 ⟨rfl, hb⟩
      have hv7 := below_call hv6 hb
      refine ⟨regrown_of_below hv7, ?_⟩
      clear hb
      refine mix_bar rfl (by rfl) ?_
      simp only [List.getElem_toArray, List.getElem_cons_zero, List.getElem_cons_succ]
      go_simp
      refine (KO.out V7 hv7).mono ?_
      rintro e V8 ⟨rfl, hb⟩
      have hv8 := below_call hv7 hb
      refine ⟨regrown_of_below hv8, ?_⟩
      clear hb
      refine mix_bar rfl (by rfl) ?_
      simp only [List.getElem_toArray, List.getElem_cons_zero, List.getElem_cons_succ]
      go_simp
      refine (KN.out V8 hv8).mono ?_
      rintro e V9 ⟨rfl, hb⟩
      have hv9 := below_call hv8 hb
      refine ⟨regrown_of_below hv9, ?_⟩
      clear hb
      refine mix_bar rfl (by rfl) ?_
      simp only [List.getElem_toArray, List.getElem_cons_zero, List.getElem_cons_succ]
      go_simp
      have hgw := heap_alloc_new V9 (.cells #[.string q0, .string ⟨#[118, 105, 97]⟩, .string qh, .string ⟨#[112, 114, 101, 102]⟩, .string qf, .string ⟨#[109, 101, 116, 114, 105, 99]⟩, .string qm, .string ⟨#[112, 101, 101, 114]⟩, .string qp, .string ⟨#[105, 100]⟩, .string qi, .string qs, .string ⟨#[111, 114, 105, 103, 105, 110]⟩, .string qo, .string ⟨#[115, 101, 115, 115, 105, 111, 110]⟩, .string qn, .string ⟨#[112, 97, 116, 104]⟩] 9)
      have hv10 := hv9.alloc hv9.size (.cells #[.string q0, .string ⟨#[118, 105, 97]⟩, .string qh, .string ⟨#[112, 114, 101, 102]⟩, .string qf, .string ⟨#[109, 101, 116, 114, 105, 99]⟩, .string qm, .string ⟨#[112, 101, 101, 114]⟩, .string qp, .string ⟨#[105, 100]⟩, .string qi, .string qs, .string ⟨#[111, 114, 105, 103, 105, 110]⟩, .string qo, .string ⟨#[115, 101, 115, 115, 105, 111, 110]⟩, .string qn, .string ⟨#[112, 97, 116, 104]⟩] 9)
      refine ⟨regrown_of_below hv10, ?_⟩
      generalize V9.alloc (.cells #[.string q0, .string ⟨#[118, 105, 97]⟩, .string qh, .string ⟨#[112, 114, 101, 102]⟩, .string qf, .string ⟨#[109, 101, 116, 114, 105, 99]⟩, .string qm, .string ⟨#[112, 101, 101, 114]⟩, .string qp, .string ⟨#[105, 100]⟩, .string qi, .string qs, .string ⟨#[111, 114, 105, 103, 105, 110]⟩, .string qo, .string ⟨#[115, 101, 115, 115, 105, 111, 110]⟩, .string qn, .string ⟨#[112, 97, 116, 104]⟩] 9) = V10 at *
      refine mix_take [28] [_] rfl rfl ?_
      simp only [List.getElem_toArray, List.getElem_cons_zero, List.getElem_cons_succ]
      repeat (go_big_quiet_step (fail))
      refine wpQuiet_nil ?_
      refine mix_end ?_
      have hown := owns_of_block (base := wa.heap.size) (size := 1) (n := 17) (c := 17) (xs := [q0, ⟨#[118, 105, 97]⟩, qh, ⟨#[112, 114, 101, 102]⟩, qf, ⟨#[109, 101, 116, 114, 105, 99]⟩, qm, ⟨#[112, 101, 101, 114]⟩, qp, ⟨#[105, 100]⟩, qi, qs, ⟨#[111, 114, 105, 103, 105, 110]⟩, qo, ⟨#[115, 101, 115, 115, 105, 111, 110]⟩, qn, ⟨#[112, 97, 116, 104]⟩].map Value.string) hgw (Nat.le_refl _) (by unfold maxLen; omega) rfl rfl rfl hv9.size
      have HB : Hid (([q0, ⟨#[118, 105, 97]⟩, qh, ⟨#[112, 114, 101, 102]⟩, qf, ⟨#[109, 101, 116, 114, 105, 99]⟩, qm, ⟨#[112, 101, 101, 114]⟩, qp, ⟨#[105, 100]⟩, qi, qs, ⟨#[111, 114, 105, 103, 105, 110]⟩, qo, ⟨#[115, 101, 115, 115, 105, 111, 110]⟩, qn, ⟨#[112, 97, 116, 104]⟩] : List ByteArray).map (·.data.toList) = r.head) := HWD
      generalize hB : ([q0, ⟨#[118, 105, 97]⟩, qh, ⟨#[112, 114, 101, 102]⟩, qf, ⟨#[109, 101, 116, 114, 105, 99]⟩, qm, ⟨#[112, 101, 101, 114]⟩, qp, ⟨#[105, 100]⟩, qi, qs, ⟨#[111, 114, 105, 103, 105, 110]⟩, qo, ⟨#[115, 101, 115, 115, 105, 111, 110]⟩, qn, ⟨#[112, 97, 116, 104]⟩] : List ByteArray) = B at *
      have hlB : B.length = 17 := by rw [← hB]; rfl
      have C5 := Lib.hid c5
      have C6 := Lib.hid c6
      have C11 := Lib.hid c11
      clear hB c0 c1 c2 c3 c4 c5 c6 c7 c8 c9 c10 c11 c12 hgw HWD F0 F1 F2 F3 F4 F7 F8 F9 F10 F12 KP KH KF KM KE KI KS KO KN
      generalize (Value.agg #[.int .u32 r.a, .int .i64 r.m, .int .u32 r.ho, .int .i64 r.pf, .int .i64 r.me, vp, vo, .int .u32 r.pe, .int .u32 r.id, .bool r.ex, .int .u32 r.og, vl, .int .i64 r.ss] : Value) = vr at *
      obtain ⟨i0, hi, hz0, hz1, hz2⟩ := info_parts Tryd.infoStr
      have hv9' := hv10
      generalize V10 = X0 at *
      obtain ⟨A1, g1, hv1s, _⟩ := HP.out.form
      have hR1 := HP.out
      rw [hv1s] at hR1
      have HR1 := Lib.hid hR1
      clear hR1
      have dd1 : X0.cell? ⟨w.heap.size, 5, none⟩ = some (.slice A1 r.pa.length g1) := (by rw [cell_kept hv9' C5.out, hv1s])
      go_wp2
      go_loopw [4, 67] (fun v i wr => ∃ j : Nat, i = .int .i64 j ∧ j ≤ r.pa.length ∧ wr.ownsRow wa.heap.size 9 1 v (B.length + j) ((B ++ (r.pa.take j).map decB).map Value.string) ∧ Below wa.heap.size wa wr) (fun _ i _ => r.pa.length - (intOf i).toNat)
      case atStart => exact ⟨0, rfl, by omega, by first | (rw [hlB]; simpa using hown) | (simpa using hown), hv9'⟩
      case round =>
        obtain ⟨j, rfl, hj, hown, hnx⟩ := hrel
        clear dd1
        have hsz := hnx.size
        have hbW := hbw.trans (hnx.mono hbw.size)
        by_cases hlt : j < r.pa.length
        · have hI : (j : Int) < (r.pa.length : Int) := by omega
          obtain ⟨x, hx⟩ : ∃ x, r.pa[j]? = some x := ⟨_, List.getElem?_eq_getElem hlt⟩
          have hxr := r.hpa x (List.mem_of_getElem? hx)
          obtain ⟨b, off, c', hv, _, hbB, hcell⟩ := (HR1.out.below hbW).posAt (by omega)
          injection hv with hv1 _ hv3
          subst hv1 hv3
          have f0 : wr.cell? ⟨b, off + j, none⟩ = some (.int .u32 x) := by
            have h := hcell j 0 (.int .u32 x) (by simp [hx])
            simpa using h
          have htk := Lib.hid (show (B ++ (r.pa.take (j + 1)).map decB).map Value.string = (B ++ (r.pa.take j).map decB).map Value.string ++ [.string (decB x)] by rw [List.take_add_one, hx]; simp)
          have hT := Lib.hid (fmtB_any x hxr.1 hxr.2 wr (hEc.below hnx))
          clear hx hcell
          generalize decB x = q at *
          go_wp2_with fail
          refine hT.out.mono ?_
          rintro e wn ⟨rfl, hb⟩
          have hnx2 := hnx.trans (hb.mono hsz)
          have hown2 := owns_kept_none hown (only_of_below hb none)
          clear hb hown hnx f0
          go_wp2_with (at_builtin; refine wpList_pushN rfl _ _ 67 rfl 9 i0 _ 1 16 Tryd.underlying67 hi hz0 hz1 hz2 rfl (by decide) (by decide) 1 (by decide) (by decide) [.string q] rfl rfl (by simp) hown2 rfl (str_one (l := [q])) (by omega) (hnx2).size hnx2 (Nat.le_refl _) ?_; intro v2 w5 hown5 hb5)
          refine ⟨⟨j + 1, by go_num, by omega, ?_, hb5⟩, by simp only [intOf]; omega⟩
          rw [htk.out]
          exact hown5
        · obtain rfl : j = r.pa.length := by omega
          have hI : ¬ (r.pa.length : Int) < (r.pa.length : Int) := by omega
          rw [List.take_length] at hown
          have hL1 : ∀ u, B ++ r.pa.map decB = u → u.length = B.length + r.pa.length := fun u hu => by rw [← hu]; simp
          generalize hM1 : B ++ r.pa.map decB = M1 at *
          have hl1 := hL1 _ rfl
          rw [← hl1] at hown
          have HM1 := Lib.hid hM1
          clear hM1 hL1
          obtain ⟨A2, g2, hv2s, _⟩ := HO.out.form
          have hR2 := HO.out
          rw [hv2s] at hR2
          have HR2 := Lib.hid hR2
          clear hR2
          go_wp2_with (at_builtin; refine wpList_pushN rfl _ _ 67 rfl 9 i0 _ 1 16 Tryd.underlying67 hi hz0 hz1 hz2 rfl (by decide) (by decide) 1 (by decide) (by decide) [.string ⟨#[99, 111, 109, 109]⟩] rfl rfl (by simp) hown rfl (str_one (l := [⟨#[99, 111, 109, 109]⟩])) (by omega) (hnx).size hnx (Nat.le_refl _) ?_; intro vv1 X1 ho1 hx1; have dd2 : X1.cell? ⟨w.heap.size, 6, none⟩ = some (.slice A2 r.co.length g2) := (by rw [cell_kept hx1 C6.out, hv2s]))
          obtain ⟨N1, hN1⟩ : ∃ N, N = M1 ++ [⟨#[99, 111, 109, 109]⟩] := ⟨_, rfl⟩
          have hn1 : X1.ownsRow wa.heap.size 9 1 vv1 N1.length (N1.map Value.string) := by
            rw [hN1, List.length_append, List.map_append]
            exact ho1
          have hlN1 : N1.length = M1.length + 1 := by rw [hN1]; simp
          have HN1 := Lib.hid hN1
          clear hN1 ho1 hown hnx hsz hbW
          go_loopw [4, 84] (fun v i wr => ∃ j : Nat, i = .int .i64 j ∧ j ≤ r.co.length ∧ wr.ownsRow wa.heap.size 9 1 v (N1.length + j) ((N1 ++ (r.co.take j).map decB).map Value.string) ∧ Below wa.heap.size wa wr) (fun _ i _ => r.co.length - (intOf i).toNat)
          case atStart => exact ⟨0, rfl, by omega, by first | (rw [hlB]; simpa using hn1) | (simpa using hn1), hx1⟩
          case round =>
            obtain ⟨j, rfl, hj, hown, hnx⟩ := hrel
            clear dd2
            have hsz := hnx.size
            have hbW := hbw.trans (hnx.mono hbw.size)
            by_cases hlt : j < r.co.length
            · have hI : (j : Int) < (r.co.length : Int) := by omega
              obtain ⟨x, hx⟩ : ∃ x, r.co[j]? = some x := ⟨_, List.getElem?_eq_getElem hlt⟩
              have hxr := r.hco x (List.mem_of_getElem? hx)
              obtain ⟨b, off, c', hv, _, hbB, hcell⟩ := (HR2.out.below hbW).posAt (by omega)
              injection hv with hv1 _ hv3
              subst hv1 hv3
              have f0 : wr.cell? ⟨b, off + j, none⟩ = some (.int .u32 x) := by
                have h := hcell j 0 (.int .u32 x) (by simp [hx])
                simpa using h
              have htk := Lib.hid (show (N1 ++ (r.co.take (j + 1)).map decB).map Value.string = (N1 ++ (r.co.take j).map decB).map Value.string ++ [.string (decB x)] by rw [List.take_add_one, hx]; simp)
              have hT := Lib.hid (fmtB_any x hxr.1 hxr.2 wr (hEc.below hnx))
              clear hx hcell
              generalize decB x = q at *
              go_wp2_with fail
              refine hT.out.mono ?_
              rintro e wn ⟨rfl, hb⟩
              have hnx2 := hnx.trans (hb.mono hsz)
              have hown2 := owns_kept_none hown (only_of_below hb none)
              clear hb hown hnx f0
              go_wp2_with (at_builtin; refine wpList_pushN rfl _ _ 67 rfl 9 i0 _ 1 16 Tryd.underlying67 hi hz0 hz1 hz2 rfl (by decide) (by decide) 1 (by decide) (by decide) [.string q] rfl rfl (by simp) hown2 rfl (str_one (l := [q])) (by omega) (hnx2).size hnx2 (Nat.le_refl _) ?_; intro v2 w5 hown5 hb5)
              refine ⟨⟨j + 1, by go_num, by omega, ?_, hb5⟩, by simp only [intOf]; omega⟩
              rw [htk.out]
              exact hown5
            · obtain rfl : j = r.co.length := by omega
              have hI : ¬ (r.co.length : Int) < (r.co.length : Int) := by omega
              rw [List.take_length] at hown
              have hL2 : ∀ u, N1 ++ r.co.map decB = u → u.length = N1.length + r.co.length := fun u hu => by rw [← hu]; simp
              generalize hM2 : N1 ++ r.co.map decB = M2 at *
              have hl2 := hL2 _ rfl
              rw [← hl2] at hown
              have HM2 := Lib.hid hM2
              clear hM2 hL2
              obtain ⟨A3, g3, hv3s, _⟩ := HL.out.form
              have hR3 := HL.out
              rw [hv3s] at hR3
              have HR3 := Lib.hid hR3
              clear hR3
              go_wp2_with (at_builtin; refine wpList_pushN rfl _ _ 67 rfl 9 i0 _ 1 16 Tryd.underlying67 hi hz0 hz1 hz2 rfl (by decide) (by decide) 1 (by decide) (by decide) [.string ⟨#[99, 108, 117, 115, 116, 101, 114, 115]⟩] rfl rfl (by simp) hown rfl (str_one (l := [⟨#[99, 108, 117, 115, 116, 101, 114, 115]⟩])) (by omega) (hnx).size hnx (Nat.le_refl _) ?_; intro vv2 X2 ho2 hx2; have dd3 : X2.cell? ⟨w.heap.size, 11, none⟩ = some (.slice A3 r.cl.length g3) := (by rw [cell_kept hx2 C11.out, hv3s]))
              obtain ⟨N2, hN2⟩ : ∃ N, N = M2 ++ [⟨#[99, 108, 117, 115, 116, 101, 114, 115]⟩] := ⟨_, rfl⟩
              have hn2 : X2.ownsRow wa.heap.size 9 1 vv2 N2.length (N2.map Value.string) := by
                rw [hN2, List.length_append, List.map_append]
                exact ho2
              have hlN2 : N2.length = M2.length + 1 := by rw [hN2]; simp
              have HN2 := Lib.hid hN2
              clear hN2 ho2 hown hnx hsz hbW
              go_loopw [4, 101] (fun v i wr => ∃ j : Nat, i = .int .i64 j ∧ j ≤ r.cl.length ∧ wr.ownsRow wa.heap.size 9 1 v (N2.length + j) ((N2 ++ (r.cl.take j).map adrB).map Value.string) ∧ Below wa.heap.size wa wr) (fun _ i _ => r.cl.length - (intOf i).toNat)
              case atStart => exact ⟨0, rfl, by omega, by first | (rw [hlB]; simpa using hn2) | (simpa using hn2), hx2⟩
              case round =>
                obtain ⟨j, rfl, hj, hown, hnx⟩ := hrel
                clear dd3
                have hsz := hnx.size
                have hbW := hbw.trans (hnx.mono hbw.size)
                by_cases hlt : j < r.cl.length
                · have hI : (j : Int) < (r.cl.length : Int) := by omega
                  obtain ⟨x, hx⟩ : ∃ x, r.cl[j]? = some x := ⟨_, List.getElem?_eq_getElem hlt⟩
                  have hxr := r.hcl x (List.mem_of_getElem? hx)
                  obtain ⟨b, off, c', hv, _, hbB, hcell⟩ := (HR3.out.below hbW).posAt (by omega)
                  injection hv with hv1 _ hv3
                  subst hv1 hv3
                  have f0 : wr.cell? ⟨b, off + j, none⟩ = some (.int .u32 x) := by
                    have h := hcell j 0 (.int .u32 x) (by simp [hx])
                    simpa using h
                  have htk := Lib.hid (show (N2 ++ (r.cl.take (j + 1)).map adrB).map Value.string = (N2 ++ (r.cl.take j).map adrB).map Value.string ++ [.string (adrB x)] by rw [List.take_add_one, hx]; simp)
                  have hT := Lib.hid (adrB_any x hxr.1 hxr.2 wr (hEc.below hnx))
                  clear hx hcell
                  generalize adrB x = q at *
                  go_wp2_with fail
                  refine hT.out.mono ?_
                  rintro e wn ⟨rfl, hb⟩
                  have hnx2 := hnx.trans (hb.mono hsz)
                  have hown2 := owns_kept_none hown (only_of_below hb none)
                  clear hb hown hnx f0
                  go_wp2_with (at_builtin; refine wpList_pushN rfl _ _ 67 rfl 9 i0 _ 1 16 Tryd.underlying67 hi hz0 hz1 hz2 rfl (by decide) (by decide) 1 (by decide) (by decide) [.string q] rfl rfl (by simp) hown2 rfl (str_one (l := [q])) (by omega) (hnx2).size hnx2 (Nat.le_refl _) ?_; intro v2 w5 hown5 hb5)
                  refine ⟨⟨j + 1, by go_num, by omega, ?_, hb5⟩, by simp only [intOf]; omega⟩
                  rw [htk.out]
                  exact hown5
                · obtain rfl : j = r.cl.length := by omega
                  have hI : ¬ (r.cl.length : Int) < (r.cl.length : Int) := by omega
                  rw [List.take_length] at hown
                  have hL3 : ∀ u, N2 ++ r.cl.map adrB = u → u.length = N2.length + r.cl.length := fun u hu => by rw [← hu]; simp
                  generalize hM3 : N2 ++ r.cl.map adrB = M3 at *
                  have hl3 := hL3 _ rfl
                  rw [← hl3] at hown
                  have HM3 := Lib.hid hM3
                  clear hM3 hL3
                  have hW : M3.map (·.data.toList) = r.words := by
                    rw [← HM3.out, HN2.out, ← HM2.out, HN1.out, ← HM1.out]
                    simp only [List.map_append, List.map_cons, List.map_nil, List.map_map]
                    rw [HB.out]
                    show _ = r.head ++ (r.pa.map decT ++ commW :: (r.co.map decT ++ clusW :: r.cl.map addrT))
                    simp only [List.append_assoc, List.cons_append, List.nil_append]
                    rfl
                  have htl := av_text_len hlen HOK.out
                  obtain ⟨A4, g4, rfl, _⟩ := owns_form hown
                  have hj := lineO_any M3 _ _ wr hown (by omega) (by omega) (by rw [hW]; show r.text.length ≤ _; omega)
                  rw [hW] at hj
                  have HJ := Lib.hid (show Calls Tryd.prog 36 #[.slice A4 M3.length g4] wr fun e V' => e = .returned (.string ⟨r.text.toArray⟩) ∧ Below wr.heap.size wr V' from hj)
                  clear hj hW htl hown hl1 hl2 hl3 hlN1 hlN2 hlB
                  go_wp2_with fail
                  refine HJ.out.mono ?_
                  rintro e wf ⟨rfl, hb⟩
                  have hbf := below_call hbW hb
                  go_wp2
                  go_ret2
                  exact ⟨by rw [ht.out.1, ht.out.2]; rfl, hbf⟩
end Go.Proofs.YtmgeknghgngliaaDoor

/-
  Walks at the fixed arguments of RoutesNames: name, Sort, Same.
-/
namespace Go.Proofs.YtmgeknghgngliaaDoor
open Go Go.RowKit Go.Lib Go.Sort

theorem below_bytes (w : World) (e : TypeId) (s : ByteArray) : Below w.heap.size w (Go.Lib.bytesWorld w e s) := ⟨rfl, rfl, rfl, by rw [Go.Lib.bytesWorld_size]; omega, fun k hk => Go.Lib.bytesWorld_at_old w e s k hk⟩
set_option maxRecDepth 100000 in
set_option maxHeartbeats 1000000 in
theorem rName_a (w : World) : Calls Tryd.prog 32 #[.string ⟨#[97]⟩] w fun e w' => e = .returned (.bool true) ∧ Below w.heap.size w w' := by
  have hcv := Go.Lib.run_convert_string_bytes (P := Tryd.prog) w 9 125 5 ⟨#[97]⟩ Tryd.underlying9 Tryd.underlying125 Tryd.underlying5
  have hc := Go.Lib.bytesWorld_cell w 5 ⟨#[97]⟩ 0 (by decide)
  have hb := below_bytes w 5 ⟨#[97]⟩
  have hc2 : (Go.Lib.bytesWorld w 5 ⟨#[97]⟩).cell? ⟨w.heap.size, 0, none⟩ = some (.int .u8 97) := hc
  have hsz : (⟨#[97]⟩ : ByteArray).size = 1 := rfl
  rw [hsz] at hcv
  clear hc
  generalize Go.Lib.bytesWorld w 5 ⟨#[97]⟩ = W at *
  generalize grownCap w 1 0 5 = gc at *
  go_enter Tryd.func32, Tryd.ntmps32
  go_wp2
  refine wp_loop_rounds 2 ?_
  rw [rounds_succ]
  go_wp2
  rw [rounds_succ]
  go_wp2
  go_ret
  exact ⟨rfl, hb⟩
set_option maxRecDepth 100000 in
set_option maxHeartbeats 1000000 in
theorem rName_one (w : World) : Calls Tryd.prog 32 #[.string ⟨#[49]⟩] w fun e w' => e = .returned (.bool false) ∧ Below w.heap.size w w' := by
  have hcv := Go.Lib.run_convert_string_bytes (P := Tryd.prog) w 9 125 5 ⟨#[49]⟩ Tryd.underlying9 Tryd.underlying125 Tryd.underlying5
  have hc := Go.Lib.bytesWorld_cell w 5 ⟨#[49]⟩ 0 (by decide)
  have hb := below_bytes w 5 ⟨#[49]⟩
  have hc2 : (Go.Lib.bytesWorld w 5 ⟨#[49]⟩).cell? ⟨w.heap.size, 0, none⟩ = some (.int .u8 49) := hc
  have hsz : (⟨#[49]⟩ : ByteArray).size = 1 := rfl
  rw [hsz] at hcv
  clear hc
  generalize Go.Lib.bytesWorld w 5 ⟨#[49]⟩ = W at *
  generalize grownCap w 1 0 5 = gc at *
  go_enter Tryd.func32, Tryd.ntmps32
  go_wp2
  refine wp_loop_rounds 2 ?_
  rw [rounds_succ]
  go_wp2
  go_ret
  exact ⟨rfl, hb⟩
set_option maxRecDepth 100000 in
set_option maxHeartbeats 1000000 in
theorem rSame_nil (w : World) : Calls Tryd.prog 11 #[.slice none 0 0, .slice none 0 0] w fun e w' => e = .returned (.bool true) ∧ Below w.heap.size w w' := by
  have hq : Calls Tryd.prog 43 #[.slice none 0 0, .slice none 0 0] w fun e w' => e = .returned (.bool true) ∧ Below w.heap.size w w' := by
    go_enter Tryd.func43, Tryd.ntmps43
    go_wp2
    refine wp_loop_rounds 1 ?_
    rw [rounds_succ]
    go_wp2
    go_ret
    exact ⟨rfl, Below.refl _ _⟩
  have HQ := Lib.hid hq
  clear hq
  go_enter Tryd.func11, Tryd.ntmps11
  go_wp2_with fail
  refine HQ.out.mono ?_
  rintro e w1 ⟨rfl, hb⟩
  go_wp2
  go_ret
  exact ⟨rfl, hb⟩
set_option maxRecDepth 100000 in
set_option maxHeartbeats 1000000 in
theorem rSort_nil (w : World) : Calls Tryd.prog 10 #[.slice none 0 0] w fun e w' => e = .returned (.slice none 0 0) ∧ Below w.heap.size w w' := by
  have hc : Calls Tryd.prog 39 #[.slice none 0 0] w fun e w' => e = .returned (.slice none 0 0) ∧ w = w' := by
    have q : ∀ w, (binOp .eql 36 (.slice none 0 0) (.slice none 0 0)).run Tryd.prog w = .ok (.bool true) w := fun w => Lib.run_eql_slice_nil w _ _ none 0 0 0 0 Tryd.underlying36
    go_enter Tryd.func39, Tryd.ntmps39
    go_wp2
    go_ret
    exact ⟨rfl, rfl⟩
  have hs := AnyF.slices_SortFunc_none Tryd.sortRoute none 0 (.func (.func 41) #[] #[]) w
  have hk : ∀ V, Calls Tryd.prog 42 #[.slice none 0 0] V fun e w' => e = .returned (.slice none 0 0) ∧ V = w' := by
    intro V
    go_enter Tryd.func42, Tryd.ntmps42
    go_wp2
    go_ret
    exact ⟨rfl, rfl⟩
  have HC := Lib.hid hc
  have HS := Lib.hid hs
  have HK := Lib.hid hk
  clear hc hs hk
  go_enter Tryd.func10, Tryd.ntmps10
  go_wp2_with fail
  refine HC.out.mono ?_
  rintro e w1 ⟨rfl, rfl⟩
  go_wp2_with fail
  refine HS.out.mono ?_
  rintro e w2 ⟨rfl, hw⟩
  subst hw
  go_wp2_with fail
  refine (HK.out _).mono ?_
  rintro e w3 ⟨rfl, rfl⟩
  go_wp2
  go_ret
  exact ⟨rfl, Below.refl _ _⟩
end Go.Proofs.YtmgeknghgngliaaDoor

/-
  The walk of the law RoutesNames.
-/
namespace Go.Proofs.YtmgeknghgngliaaDoor
open Go Go.RowKit Go.Lib Go.Sort

def rn0 : RtV := ⟨0, 0, 8, 2147483647, 2147483647, 2147483647, [97], 0, false, by omega, by omega, by omega, by omega, by omega, by omega, by omega⟩
def rn1 : RtV := ⟨0, 0, 8, 2147483647, 2147483647, 2147483648, [97], 0, false, by omega, by omega, by omega, by omega, by omega, by omega, by omega⟩
def rn2 : RtV := ⟨0, 0, 9, 0, 0, 0, [], 0, false, by omega, by omega, by omega, by omega, by omega, by omega, by omega⟩
def rn3 : RtV := ⟨0, 0, 1, 0, 0, 0, [49], 0, false, by omega, by omega, by omega, by omega, by omega, by omega, by omega⟩
theorem u32s_max : u32s [4294967295] := fun x hx => by simp at hx; subst hx; omega
def an0 : AvV := ⟨0, 0, -1, 0, 0, 0, 0, 0, false, 0, [4294967295], [], [], by omega, by omega, by omega, by omega, by omega, by omega, by omega, by omega, by omega, u32s_max, u32s_nil, u32s_nil⟩
def an1 : AvV := ⟨0, 0, -2, 0, 0, 0, 0, 0, false, 0, [], [], [], by omega, by omega, by omega, by omega, by omega, by omega, by omega, by omega, by omega, u32s_nil, u32s_nil, u32s_nil⟩
def txt0 : ByteArray := ⟨#[48, 46, 48, 46, 48, 46, 48, 47, 48, 32, 105, 98, 103, 112, 32, 50, 49, 52, 55, 52, 56, 51, 54, 52, 55, 32, 50, 49, 52, 55, 52, 56, 51, 54, 52, 55, 32, 50, 49, 52, 55, 52, 56, 51, 54, 52, 55, 32, 111, 110, 32, 97]⟩
def txt1 : ByteArray := ⟨#[48, 46, 48, 46, 48, 46, 48, 47, 48, 32, 118, 105, 97, 32, 48, 46, 48, 46, 48, 46, 48, 32, 112, 114, 101, 102, 32, 48, 32, 109, 101, 116, 114, 105, 99, 32, 48, 32, 112, 101, 101, 114, 32, 48, 46, 48, 46, 48, 46, 48, 32, 105, 100, 32, 48, 46, 48, 46, 48, 46, 48, 32, 105, 110, 116, 101, 114, 110, 97, 108, 32, 111, 114, 105, 103, 105, 110, 32, 48, 46, 48, 46, 48, 46, 48, 32, 115, 101, 115, 115, 105, 111, 110, 32, 45, 49, 32, 112, 97, 116, 104, 32, 52, 50, 57, 52, 57, 54, 55, 50, 57, 53, 32, 99, 111, 109, 109, 32, 99, 108, 117, 115, 116, 101, 114, 115]⟩
theorem rn0_t : rn0.told = [48, 46, 48, 46, 48, 46, 48, 47, 48, 32, 105, 98, 103, 112, 32, 50, 49, 52, 55, 52, 56, 51, 54, 52, 55, 32, 50, 49, 52, 55, 52, 56, 51, 54, 52, 55, 32, 50, 49, 52, 55, 52, 56, 51, 54, 52, 55, 32, 111, 110, 32, 97] ∧ rn0.toldE = 0 := by decide +kernel
theorem rn1_t : rn1.told = [] ∧ rn1.toldE = 1 := by decide +kernel
theorem rn2_t : rn2.told = [] ∧ rn2.toldE = 1 := by decide +kernel
theorem rn3_t : rn3.told = [] ∧ rn3.toldE = 1 := by decide +kernel
theorem an0_t : an0.told = [48, 46, 48, 46, 48, 46, 48, 47, 48, 32, 118, 105, 97, 32, 48, 46, 48, 46, 48, 46, 48, 32, 112, 114, 101, 102, 32, 48, 32, 109, 101, 116, 114, 105, 99, 32, 48, 32, 112, 101, 101, 114, 32, 48, 46, 48, 46, 48, 46, 48, 32, 105, 100, 32, 48, 46, 48, 46, 48, 46, 48, 32, 105, 110, 116, 101, 114, 110, 97, 108, 32, 111, 114, 105, 103, 105, 110, 32, 48, 46, 48, 46, 48, 46, 48, 32, 115, 101, 115, 115, 105, 111, 110, 32, 45, 49, 32, 112, 97, 116, 104, 32, 52, 50, 57, 52, 57, 54, 55, 50, 57, 53, 32, 99, 111, 109, 109, 32, 99, 108, 117, 115, 116, 101, 114, 115] ∧ an0.toldE = 0 := by decide +kernel
theorem an1_t : an1.told = [] ∧ an1.toldE = 1 := by decide +kernel
theorem nameC_a : NameC [97] := fun W _ => rName_a W
theorem nameC_1 : NameC [49] := fun W _ => rName_one W
set_option maxRecDepth 100000 in
set_option maxHeartbeats 4000000 in
theorem lawRtNames_any (w : World) (hE : EnvT w) : Calls Tryd.prog 3 #[] w fun e w' => e = .returned (.bool true) ∧ Below w.heap.size w w' := by
  have T0 : ∀ W, EnvT W → Calls Tryd.prog 8 #[.agg #[.int .u32 0, .int .i64 0, .int .u8 8, .int .i64 2147483647, .int .i64 2147483647, .int .i64 2147483647, .string ⟨#[97]⟩, .int .u32 0, .bool false]] W fun e w' => e = .returned (.tuple #[.string ⟨#[48, 46, 48, 46, 48, 46, 48, 47, 48, 32, 105, 98, 103, 112, 32, 50, 49, 52, 55, 52, 56, 51, 54, 52, 55, 32, 50, 49, 52, 55, 52, 56, 51, 54, 52, 55, 32, 50, 49, 52, 55, 52, 56, 51, 54, 52, 55, 32, 111, 110, 32, 97]⟩, .int .i64 0]) ∧ Below W.heap.size W w' := fun W h => by
    have t := rtText_any rn0 W h (fun _ => nameC_a)
    rw [rn0_t.1, rn0_t.2] at t
    exact t
  have T1 : ∀ W, EnvT W → Calls Tryd.prog 8 #[.agg #[.int .u32 0, .int .i64 0, .int .u8 8, .int .i64 2147483647, .int .i64 2147483647, .int .i64 2147483648, .string ⟨#[97]⟩, .int .u32 0, .bool false]] W fun e w' => e = .returned (.tuple #[.string ⟨#[]⟩, .int .i64 1]) ∧ Below W.heap.size W w' := fun W h => by
    have t := rtText_any rn1 W h (fun _ => nameC_a)
    rw [rn1_t.1, rn1_t.2] at t
    exact t
  have T2 : ∀ W, EnvT W → Calls Tryd.prog 8 #[.agg #[.int .u32 0, .int .i64 0, .int .u8 9, .int .i64 0, .int .i64 0, .int .i64 0, .string ⟨#[]⟩, .int .u32 0, .bool false]] W fun e w' => e = .returned (.tuple #[.string ⟨#[]⟩, .int .i64 1]) ∧ Below W.heap.size W w' := fun W h => by
    have t := rtText_any rn2 W h (fun h => absurd rfl h)
    rw [rn2_t.1, rn2_t.2] at t
    exact t
  have T3 : ∀ W, EnvT W → Calls Tryd.prog 8 #[.agg #[.int .u32 0, .int .i64 0, .int .u8 1, .int .i64 0, .int .i64 0, .int .i64 0, .string ⟨#[49]⟩, .int .u32 0, .bool false]] W fun e w' => e = .returned (.tuple #[.string ⟨#[]⟩, .int .i64 1]) ∧ Below W.heap.size W w' := fun W h => by
    have t := rtText_any rn3 W h (fun _ => nameC_1)
    rw [rn3_t.1, rn3_t.2] at t
    exact t
  have A0 : ∀ W g, EnvT W → W.heap[g]? = some (.cells #[.int .u32 4294967295] 22 (0, 0)) → Calls Tryd.prog 9 #[.agg #[.int .u32 0, .int .i64 0, .int .u32 0, .int .i64 0, .int .i64 0, .slice (some ⟨g, 0, none⟩) 1 1, .slice none 0 0, .int .u32 0, .int .u32 0, .bool false, .int .u32 0, .slice none 0 0, .int .i64 (-1)]] W fun e w' => e = .returned (.tuple #[.string ⟨#[48, 46, 48, 46, 48, 46, 48, 47, 48, 32, 118, 105, 97, 32, 48, 46, 48, 46, 48, 46, 48, 32, 112, 114, 101, 102, 32, 48, 32, 109, 101, 116, 114, 105, 99, 32, 48, 32, 112, 101, 101, 114, 32, 48, 46, 48, 46, 48, 46, 48, 32, 105, 100, 32, 48, 46, 48, 46, 48, 46, 48, 32, 105, 110, 116, 101, 114, 110, 97, 108, 32, 111, 114, 105, 103, 105, 110, 32, 48, 46, 48, 46, 48, 46, 48, 32, 115, 101, 115, 115, 105, 111, 110, 32, 45, 49, 32, 112, 97, 116, 104, 32, 52, 50, 57, 52, 57, 54, 55, 50, 57, 53, 32, 99, 111, 109, 109, 32, 99, 108, 117, 115, 116, 101, 114, 115]⟩, .int .i64 0]) ∧ Below W.heap.size W w' := fun W g h hg => by
    have t := avText_any an0 (.slice (some ⟨g, 0, none⟩) 1 1) (.slice none 0 0) (.slice none 0 0) W h (Rd.of_blk (cs := #[.int .u32 4294967295]) (t := 22) hg (Nat.le_refl _) rfl) (rd_nil W _ 1) (rd_nil W _ 1) (by decide)
    rw [an0_t.1, an0_t.2] at t
    exact t
  have A1 : ∀ W, EnvT W → Calls Tryd.prog 9 #[.agg #[.int .u32 0, .int .i64 0, .int .u32 0, .int .i64 0, .int .i64 0, .slice none 0 0, .slice none 0 0, .int .u32 0, .int .u32 0, .bool false, .int .u32 0, .slice none 0 0, .int .i64 (-2)]] W fun e w' => e = .returned (.tuple #[.string ⟨#[]⟩, .int .i64 1]) ∧ Below W.heap.size W w' := fun W h => by
    have t := avText_any an1 (.slice none 0 0) (.slice none 0 0) (.slice none 0 0) W h (rd_nil W _ 1) (rd_nil W _ 1) (rd_nil W _ 1) (by decide)
    rw [an1_t.1, an1_t.2] at t
    exact t
  have T0' := Lib.hid T0
  have T1' := Lib.hid T1
  have T2' := Lib.hid T2
  have T3' := Lib.hid T3
  have A0' := Lib.hid A0
  have A1' := Lib.hid A1
  clear T0 T1 T2 T3 A0 A1
  go_enter Tryd.func3, Tryd.ntmps3
  go_wp2_with fail
  have hk0 := heap_alloc_new w (.cells #[.int .u32 0, .int .i64 0, .int .u8 8, .int .i64 2147483647, .int .i64 2147483647, .int .i64 2147483647, .string ⟨#[97]⟩, .int .u32 0, .bool false] 27)
  have hb0 := below1 w (.cells #[.int .u32 0, .int .i64 0, .int .u8 8, .int .i64 2147483647, .int .i64 2147483647, .int .i64 2147483647, .string ⟨#[97]⟩, .int .u32 0, .bool false] 27)
  refine (T0'.out _ (hE.below hb0)).mono ?_
  rintro e w1 ⟨rfl, hb⟩
  have hk1 := blk_below hb hk0
  have hb1 := below_call hb0 hb
  obtain ⟨c0, c1, c2, c3, c4, c5, c6, c7, c8⟩ := blk9 hk1
  have f5 := frozen_row hk1 5
  have hk2 := set_at (i := 5) hk1 (u := .int .i64 2147483648)
  have hb2 := hb1.setCell (p := ⟨w.heap.size, 5, none⟩) (Nat.le_refl _) (.int .i64 2147483648)
  obtain ⟨d0, d1, d2, d3, d4, d5, d6, d7, d8⟩ := blk9 (show (w1.setCell ⟨w.heap.size, 5, none⟩ (.int .i64 2147483648)).heap[w.heap.size]? = some (.cells #[.int .u32 0, .int .i64 0, .int .u8 8, .int .i64 2147483647, .int .i64 2147483647, .int .i64 2147483648, .string ⟨#[97]⟩, .int .u32 0, .bool false] 27 (0, 0)) from hk2)
  have HB2 := Lib.hid hb2
  clear hb hb1 hb0 hk0 hk1 hk2 hb2
  go_wp2_with fail
  refine (T1'.out _ (hE.below HB2.out)).mono ?_
  rintro e w3 ⟨rfl, hb⟩
  have hb3 := below_call HB2.out hb
  clear hb HB2 c0 c1 c2 c3 c4 c5 c6 c7 c8 d0 d1 d2 d3 d4 d5 d6 d7 d8 f5
  go_wp2_with fail
  refine (T2'.out _ (hE.below hb3)).mono ?_
  rintro e w4 ⟨rfl, hb⟩
  have hb4 := below_call hb3 hb
  clear hb hb3
  go_wp2_with fail
  refine (T3'.out _ (hE.below hb4)).mono ?_
  rintro e w5 ⟨rfl, hb⟩
  have hb5 := below_call hb4 hb
  clear hb hb4
  go_wp2_with fail
  have hb5a := hb5.alloc hb5.size (.cells #[.int .u32 4294967295] 22)
  refine (A0'.out _ _ (hE.below hb5a) (heap_alloc_new _ _)).mono ?_
  rintro e w6 ⟨rfl, hb⟩
  have hb6 := below_call hb5a hb
  clear hb hb5 hb5a
  go_wp2_with fail
  refine (A1'.out _ (hE.below hb6)).mono ?_
  rintro e w7 ⟨rfl, hb⟩
  have hb7 := below_call hb6 hb
  clear hb hb6
  go_wp2_with fail
  refine (rSort_nil w7).mono ?_
  rintro e w8 ⟨rfl, hb⟩
  have hb8 := below_call hb7 hb
  clear hb hb7
  go_wp2_with fail
  refine (rSame_nil w8).mono ?_
  rintro e w9 ⟨rfl, hb⟩
  have hb9 := below_call hb8 hb
  go_wp2
  go_ret
  exact ⟨rfl, hb9⟩
end Go.Proofs.YtmgeknghgngliaaDoor

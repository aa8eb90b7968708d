/-
  Walks over the addresses' texts: ParsePrefix.
-/
import Derived.Test.YtdlhpiknifcehaaDoorAd3
import Derived.Test.YtdlhpiknifcehaaDoorAddr8
namespace Go.Proofs.YtdlhpiknifcehaaDoor
open Go Go.RowKit Go.Sort

/-- The prefix that a text spells, its bits not yet asked. -/
def ppO (l : List UInt8) : Option (Nat × Nat) :=
  if (Lib.cut l [47]).2.2 = true then (parseB (Lib.cut l [47]).1).bind fun a => (readB (Lib.cut l [47]).2.1 32).map fun n => (a, n) else none
def ppE (l : List UInt8) : Int := match ppO l with | none => 4 | some (a, n) => chk a n
def ppA (l : List UInt8) : Int := match ppO l with | none => 0 | some (a, n) => if chk a n = 0 then a else 0
def ppN (l : List UInt8) : Int := match ppO l with | none => 0 | some (a, n) => if chk a n = 0 then n else 0
theorem pp_none {l : List UInt8} (h : ppO l = none) : ppE l = 4 ∧ ppA l = 0 ∧ ppN l = 0 := by unfold ppE ppA ppN; rw [h]; exact ⟨rfl, rfl, rfl⟩
theorem pp_no {l : List UInt8} {a n : Nat} (h : ppO l = some (a, n)) (hc : ¬ chk a n = 0) : ppE l = chk a n ∧ ppA l = 0 ∧ ppN l = 0 := by unfold ppE ppA ppN; rw [h]; exact ⟨rfl, if_neg hc, if_neg hc⟩
theorem pp_yes {l : List UInt8} {a n : Nat} (h : ppO l = some (a, n)) (hc : chk a n = 0) : ppE l = 0 ∧ ppA l = a ∧ ppN l = n := by unfold ppE ppA ppN; rw [h]; exact ⟨hc, if_pos hc, if_pos hc⟩
theorem cut_fst_len (l : List UInt8) (c : List UInt8) : (Lib.cut l c).1.length ≤ l.length := by
  unfold Lib.cut
  split
  · simp; omega
  · exact Nat.le_refl _
theorem cut_snd_len (l : List UInt8) (c : List UInt8) : (Lib.cut l c).2.1.length ≤ l.length := by
  unfold Lib.cut
  split
  · simp
  · simp

set_option maxHeartbeats 2000000 in
theorem parsePrefix_any (s : ByteArray) (w : World) (hE : Env w) (hlim : s.size < 4294967281) :
    Calls Tryd.prog 14 #[.string s] w fun e w' => e = .returned (.tuple #[.agg #[.int .u32 (ppA s.data.toList), .int .i64 (ppN s.data.toList)], .int .i64 (ppE s.data.toList)]) ∧ Below w.heap.size w w' := by
  obtain ⟨m, hm⟩ := hE.len
  have hO := Lib.hid (ppO.eq_1 s.data.toList)
  have l1 := cut_fst_len s.data.toList [47]
  have l2 := cut_snd_len s.data.toList [47]
  have e0 : s.data.toList.length = s.size := Array.length_toList
  rw [e0] at l1 l2
  have hk0 := heap_alloc_new w (.cells #[.int .u32 0, .int .i64 0] 25)
  have hb0 : Below w.heap.size w (w.alloc (.cells #[.int .u32 0, .int .i64 0] 25)) := (Below.refl _ _).alloc (Nat.le_refl _) _
  have hE0 := hE.below hb0
  have hm0 := (hb0.cell (World.block_lt_of_cell? _ _ hm)).trans hm
  have hC := Tryd.strings_Cut s ⟨#[47]⟩ m (w.alloc (.cells #[.int .u32 0, .int .i64 0] 25)) hlim hm0
  generalize hX : Lib.cut s.data.toList [47] = X at hO l1 l2
  rw [show ({ data := #[47] } : ByteArray).data.toList = [47] from rfl, hX] at hC
  clear hX
  obtain ⟨x, y, ok⟩ := X
  dsimp only at hO l1 l2 hC
  have hp := Lib.hid (fun (v : World) (hv : Env v) => addrParse_any ⟨x.toArray⟩ v hv (by have : (⟨x.toArray⟩ : ByteArray).size = x.length := rfl; omega))
  have hn := Lib.hid (fun (v : World) (hv : Env v) => number_any ⟨y.toArray⟩ 32 (by omega) v hv (by have : (⟨y.toArray⟩ : ByteArray).size = y.length := rfl; omega))
  generalize hW : w.alloc (.cells #[.int .u32 0, .int .i64 0] 25) = W at *
  have hsz0 : w.heap.size < W.heap.size := lt_of_block hk0
  go_enter Tryd.func14, Tryd.ntmps14
  go_wp2_with fail
  refine hC.mono ?_
  rintro e w1 ⟨rfl, q, rfl⟩
  have hE1 : Env (W.drewN q) := hE0.below (below_drewN (Below.refl _ _) q)
  have hk1 : (W.drewN q).heap[w.heap.size]? = some (.cells #[.int .u32 0, .int .i64 0] 25 (0, 0)) := hk0
  have hb1 : Below w.heap.size w (W.drewN q) := below_drewN hb0 q
  generalize W.drewN q = W1 at *
  go_wp2_with fail
  refine (hp.out W1 hE1).mono ?_
  rintro e w2 ⟨rfl, hb⟩
  have hE2 := hE1.below hb
  have hk2 := blk_below hb hk1
  have hb2 := hb1.trans (hb.mono hb1.size)
  clear hb
  go_wp2_with fail
  refine (hn.out w2 hE2).mono ?_
  rintro e w3 ⟨⟨z, rfl, hz⟩, hb⟩
  have hE3 := hE2.below hb
  have hk3 := blk_below hb hk2
  have hb3 := hb2.trans (hb.mono hb2.size)
  clear hb hk1 hk2 hE1 hE2 hb1 hb2
  obtain ⟨c0, c1, f0, f1⟩ := two_cells hk3
  have hsz3 := lt_of_block hk3
  have HK3 := Lib.hid hk3
  clear hk3
  cases ok with
  | false =>
    have hN := Lib.hid (pp_none (l := s.data.toList) (by rw [hO.out]; simp ))
    clear hO hz
    go_wp2
    exact bodyPost_ret (results_p (t1 := 2) (t3 := 3) (g := w.heap.size) Tryd.results14 rfl rfl (set_1 (set_0 HK3.out))) rfl ⟨ret_p2 ⟨hN.out.2.1.symm, hN.out.2.2.symm, hN.out.1.symm⟩, (hb3.setCell (Nat.le_refl _) _).setCell (Nat.le_refl _) _⟩
  | true =>
  cases hb : readB y 32 with
  | none =>
    rw [hb] at hz
    have hN := Lib.hid (pp_none (l := s.data.toList) (by rw [hO.out]; simp [hb]))
    clear hO hz
    go_wp2
    exact bodyPost_ret (results_p (t1 := 2) (t3 := 3) (g := w.heap.size) Tryd.results14 rfl rfl (set_1 (set_0 HK3.out))) rfl ⟨ret_p2 ⟨hN.out.2.1.symm, hN.out.2.2.symm, hN.out.1.symm⟩, (hb3.setCell (Nat.le_refl _) _).setCell (Nat.le_refl _) _⟩
  | some n =>
  cases ha : parseB x with
  | none =>
    have ea : adE (none : Option Nat) = 4 := rfl
    rw [hb] at hz
    have hN := Lib.hid (pp_none (l := s.data.toList) (by rw [hO.out]; simp [ha]))
    clear hO hz
    go_wp2
    exact bodyPost_ret (results_p (t1 := 2) (t3 := 3) (g := w.heap.size) Tryd.results14 rfl rfl (set_1 (set_0 HK3.out))) rfl ⟨ret_p2 ⟨hN.out.2.1.symm, hN.out.2.2.symm, hN.out.1.symm⟩, (hb3.setCell (Nat.le_refl _) _).setCell (Nat.le_refl _) _⟩
  | some a =>
  rw [hb] at hz
  obtain rfl := hz n rfl
  have ea : adE (some a) = 0 := rfl
  have ev : adV (some a) = (a : Int) := rfl
  have hal := parseB_lt ha
  have hnl := readB_le hb
  have hO2 := Lib.hid (show ppO s.data.toList = some (a, n) by rw [hO.out]; simp [ha, hb])
  clear hO hz
  by_cases hc : chk a n = 0
  · have hd : (chk a n != 0) = false := by simp [hc]
    have hY := Lib.hid (pp_yes hO2.out hc)
    clear hc ha hb
    go_wp2_with fail
    refine (addrCheck_any _ _ _ (by omega) (by omega)).mono ?_
    rintro e w4 ⟨rfl, hb4⟩
    have K3 := blk_below hb4 ((Below.heap_alloc w3 (.cells #[.int .u32 a, .int .i64 n] 25) _ hsz3).trans HK3.out)
    have K4 := blk_below hb4 (blk1 w3 (.cells #[.int .u32 a, .int .i64 n] 25))
    have hbw4 := below_call (hb3.alloc hb3.size _) hb4
    clear c0 c1 f0 f1 hb4
    obtain ⟨c0, c1, f0, f1⟩ := two_cells K3
    obtain ⟨c2, c3, f2, f3⟩ := two_cells K4
    have HK4 := Lib.hid K3
    have hne : w.heap.size ≠ w3.heap.size := by omega
    clear K3 K4
    go_wp2
    exact bodyPost_ret (results_p (t1 := 2) (t3 := 3) (g := w.heap.size) Tryd.results14 rfl rfl (set_1 (set_0 HK4.out))) rfl ⟨ret_p2 ⟨hY.out.2.1.symm, hY.out.2.2.symm, hY.out.1.symm⟩, (hbw4.setCell (Nat.le_refl _) _).setCell (Nat.le_refl _) _⟩
  · have hd : (chk a n != 0) = true := by simp [hc]
    have hY := Lib.hid (pp_no hO2.out hc)
    clear hc ha hb
    go_wp2_with fail
    refine (addrCheck_any _ _ _ (by omega) (by omega)).mono ?_
    rintro e w4 ⟨rfl, hb4⟩
    have K3 := blk_below hb4 ((Below.heap_alloc w3 (.cells #[.int .u32 a, .int .i64 n] 25) _ hsz3).trans HK3.out)
    have K4 := blk_below hb4 (blk1 w3 (.cells #[.int .u32 a, .int .i64 n] 25))
    have hbw4 := below_call (hb3.alloc hb3.size _) hb4
    clear c0 c1 f0 f1 hb4
    obtain ⟨c0, c1, f0, f1⟩ := two_cells K3
    obtain ⟨c2, c3, f2, f3⟩ := two_cells K4
    have HK4 := Lib.hid K3
    have hne : w.heap.size ≠ w3.heap.size := by omega
    clear K3 K4
    go_wp2
    exact bodyPost_ret (results_p (t1 := 2) (t3 := 3) (g := w.heap.size) Tryd.results14 rfl rfl (set_1 (set_0 HK4.out))) rfl ⟨ret_p2 ⟨hY.out.2.1.symm, hY.out.2.2.symm, hY.out.1.symm⟩, (hbw4.setCell (Nat.le_refl _) _).setCell (Nat.le_refl _) _⟩
end Go.Proofs.YtdlhpiknifcehaaDoor

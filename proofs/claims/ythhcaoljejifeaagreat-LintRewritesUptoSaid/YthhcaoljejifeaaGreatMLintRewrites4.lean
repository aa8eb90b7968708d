/-
  Joined texts: Addr2, MixS, Rb4, Rb2, Wid3, Rb5, SpMath, Cmp, Sp1, OpenS, Sp2, SpMath2, SpMath3.
-/
import Derived.Test.YthhcaoljejifeaaGreatMLintRewrites3
import Derived.Test.YthhcaoljejifeaaGreatMLintRewrites1
import Derived.Test.YthhcaoljejifeaaGreatProg
import Derived.Test.YthhcaoljejifeaaGreatShelf4
import Derived.Deep.RegionHeld3
import Derived.Deep.Slices
import Derived.ChangeSame
import Derived.Lib.LaidU8
import Derived.OpenShut
import Derived.WideShapes
import Derived.ChangeMaps5
import Derived.Laws.OwnMore
/-
  Walks over the addresses' layer: In; the program's and the reference's.
-/
namespace Go.Proofs.YthhcaoljejifeaaGreat
open Go Go.RowKit Go.Sort

theorem in_no (x a n : Int) (h : ¬ chk a n = 0) : false = inB x a n := by unfold inB; simp [h]
theorem in_low (x a n : Int) (h : ¬ a ≤ x) : false = inB x a n := by unfold inB; simp [h]
theorem in_sub (x a n : Int) (hr : chk a n = 0) (h : a ≤ x) : decide (x - a < sz n) = inB x a n := by
  unfold inB
  rw [decide_eq_decide]
  constructor
  · intro h1; exact ⟨hr, h, by omega⟩
  · intro h1; omega
set_option maxHeartbeats 400000 in
theorem refIn_any (x a n : Int) (w : World) (hx : 0 ≤ x) (hx' : x < 4294967296) (ha : 0 ≤ a) (hb : a < 4294967296) :
    Calls Tryz.prog 70 #[.int .u32 x, .agg #[.int .u32 a, .int .i64 n]] w fun e w' => e = .returned (.bool (inB x a n)) ∧ Below w.heap.size w w' := by
  by_cases hr : chk a n = 0
  · obtain ⟨h0, h1, h2⟩ := chk_ok hr
    have hd : (chk a n == 0) = true := by simp [hr]
    by_cases hl : a ≤ x
    · have hl' : decide (a ≤ x) = true := by simp [hl]
      have hE := Lib.hid (in_sub x a n hr hl)
      have hp := sz_pos n
      have hq := sz_le n
      clear hr h2
      go_enter Tryz.func70, Tryz.ntmps70
      go_wp2
      have c0 : (w.alloc (.cells #[.int .u32 a, .int .i64 n] 69)).cell? ⟨w.heap.size, 0, none⟩ = some (.int .u32 a) := by simp
      have c1 : (w.alloc (.cells #[.int .u32 a, .int .i64 n] 69)).cell? ⟨w.heap.size, 1, none⟩ = some (.int .i64 n) := by simp
      have hbW : Below w.heap.size w (w.alloc (.cells #[.int .u32 a, .int .i64 n] 69)) := (Below.refl _ _).alloc (Nat.le_refl _) _
      generalize w.alloc (.cells #[.int .u32 a, .int .i64 n] 69) = W at *
      have F0 := cell_regrown c0
      have F1 := cell_regrown c1
      refine wp_region_quiet_below (by kernel_rfl) (by kernel_rfl) ?_
      repeat (first | go_big_quiet_step ((first | (go_at_call 39; exact Calls.regrown_of (refCheck_any _ _ _ (by omega) (by omega))) | (go_at_call 54; exact regrown_left (size_any _ _ (by omega) (by omega))))) | quiet_step ((first | (go_at_call 39; exact Calls.regrown_of (refCheck_any _ _ _ (by omega) (by omega))) | (go_at_call 54; exact regrown_left (size_any _ _ (by omega) (by omega))))))
      refine wpQuiet_nil ?_
      intro _ hw'
      obtain ⟨⟨nq, osq⟩, hw''⟩ := hw'
      subst hw''
      go_wp2
      go_ret
      exact ⟨ret_bool (hE.out), (hbW.trans ((below_regrown W nq osq).mono hbW.size))⟩
    · have hl' : decide (a ≤ x) = false := by simp; omega
      have hE := Lib.hid (in_low x a n hl)
      clear hr h2
      go_enter Tryz.func70, Tryz.ntmps70
      go_wp2
      have c0 : (w.alloc (.cells #[.int .u32 a, .int .i64 n] 69)).cell? ⟨w.heap.size, 0, none⟩ = some (.int .u32 a) := by simp
      have c1 : (w.alloc (.cells #[.int .u32 a, .int .i64 n] 69)).cell? ⟨w.heap.size, 1, none⟩ = some (.int .i64 n) := by simp
      have hbW : Below w.heap.size w (w.alloc (.cells #[.int .u32 a, .int .i64 n] 69)) := (Below.refl _ _).alloc (Nat.le_refl _) _
      generalize w.alloc (.cells #[.int .u32 a, .int .i64 n] 69) = W at *
      have F0 := cell_regrown c0
      have F1 := cell_regrown c1
      refine wp_region_quiet_below (by kernel_rfl) (by kernel_rfl) ?_
      repeat (first | go_big_quiet_step (((go_at_call 39; exact Calls.regrown_of (refCheck_any _ _ _ (by omega) (by omega))))) | quiet_step (((go_at_call 39; exact Calls.regrown_of (refCheck_any _ _ _ (by omega) (by omega))))))
      refine wpQuiet_nil ?_
      intro _ hw'
      obtain ⟨⟨nq, osq⟩, hw''⟩ := hw'
      subst hw''
      go_wp2
      go_ret
      exact ⟨ret_bool (hE.out), (hbW.trans ((below_regrown W nq osq).mono hbW.size))⟩
  · have hd : (chk a n == 0) = false := by simp [hr]
    have hE := Lib.hid (in_no x a n hr)
    clear hr
    go_enter Tryz.func70, Tryz.ntmps70
    go_wp2
    have c0 : (w.alloc (.cells #[.int .u32 a, .int .i64 n] 69)).cell? ⟨w.heap.size, 0, none⟩ = some (.int .u32 a) := by simp
    have c1 : (w.alloc (.cells #[.int .u32 a, .int .i64 n] 69)).cell? ⟨w.heap.size, 1, none⟩ = some (.int .i64 n) := by simp
    have hbW : Below w.heap.size w (w.alloc (.cells #[.int .u32 a, .int .i64 n] 69)) := (Below.refl _ _).alloc (Nat.le_refl _) _
    generalize w.alloc (.cells #[.int .u32 a, .int .i64 n] 69) = W at *
    have F0 := cell_regrown c0
    have F1 := cell_regrown c1
    refine wp_region_quiet_below (by kernel_rfl) (by kernel_rfl) ?_
    repeat (first | go_big_quiet_step (((go_at_call 39; exact Calls.regrown_of (refCheck_any _ _ _ (by omega) (by omega))))) | quiet_step (((go_at_call 39; exact Calls.regrown_of (refCheck_any _ _ _ (by omega) (by omega))))))
    refine wpQuiet_nil ?_
    intro _ hw'
    obtain ⟨⟨nq, osq⟩, hw''⟩ := hw'
    subst hw''
    go_wp2
    go_ret
    exact ⟨ret_bool (hE.out), (hbW.trans ((below_regrown W nq osq).mono hbW.size))⟩

end Go.Proofs.YthhcaoljejifeaaGreat

/-
  A region that draws its order, walked in the order of the text: the class of worlds is any that the prover names. No program in sight.
-/
namespace Go.Proofs.YthhcaoljejifeaaGreat
open Go Go.RowKit Go.Sort

section
variable {P : Program} {ops : Array Oper} {Q : Exit → Act → World → Prop}
/-- The worlds that meet S. -/
structure InW (S : World → Prop) where
  w : World
  h : S w
@[reducible] def InS (S : World → Prop) : World → Prop := fun w' => ∃ p : InW S, w' = p.w
theorem inS {S : World → Prop} {w : World} (h : S w) : InS S w := ⟨⟨w, h⟩, rfl⟩
theorem inS_sub {S S' : World → Prop} (h : ∀ v, S' v → S v) : ∀ v, InS S' v → InS S v := by
  intro v hv
  obtain ⟨p, hp⟩ := hv
  exact ⟨⟨p.w, h _ p.h⟩, hp⟩
theorem wp_region_mixS {id : Nat} {a : Act} {w : World} {l : List Oper} (S : World → Prop) (m : List (Nat × Bool)) (hm : P.follows .mixedOrders = true) (hB : mixOk l m = true) (hS : S { w with drawn := w.drawn + 1 })
    (h : mixW P l.toArray (NoPanic Q) m (fun w' => ∃ p : InW S, w' = p.w) a { w with drawn := w.drawn + 1 }) : (Code.region id l.toArray true).wp P Q a w := by
  simp only [mixOk, Bool.and_eq_true, decide_eq_true_eq] at hB
  obtain ⟨⟨hs, hlen⟩, hmix⟩ := hB
  refine wp_region_noPanic (wp_region_held (S := InS S) hm ?_)
  have H := mix_sound (md := .any) hs (fun d v c a w hh => hh) m _ (Array.replicate l.length false) a { w with drawn := w.drawn + 1 } hmix (inS hS) h
  rw [hlen] at H
  simpa using H
/-- A barrier behind which the class may be narrower. -/
theorem mix_barS {m : List (Nat × Bool)} {k : Nat} {o : Oper} {a : Act} {S : World → Prop} {w : World} (ho : ops[k]? = some o) (hw : Region.wanted o (yielded ops a.tmps) = true)
    (h : o.wp P a w (fun a' w' => ∃ S' : World → Prop, S' w' ∧ (∀ v, S' v → S v) ∧ mixW P ops Q m (fun w' => ∃ p : InW S', w' = p.w) a' w') Q) : mixW P ops Q ((k, true) :: m) (fun w' => ∃ p : InW S, w' = p.w) a w := by
  simp only [mixW]
  refine ⟨o, ho, ?_⟩
  rw [if_pos hw]
  exact Oper.wp_mono (fun a' w' hh => by obtain ⟨S', h1, h2, h3⟩ := hh; exact ⟨_, inS h1, inS_sub h2, h3⟩) h
end
end Go.Proofs.YthhcaoljejifeaaGreat

/-
  A space's fields' places; Keep, and Prefix.
-/
namespace Go.Proofs.YthhcaoljejifeaaGreat
open Go Go.RowKit Go.ChangeMaps Go.MapKept Go.Maps Go.Lib Go.Sort

instance (A : Blks) (km : Nat) (V : World) : Nonempty (InW (KeptS A km V)) := ⟨⟨V, KeptS.refl A km V⟩⟩
def partsObj : Obj := .cells #[.int .i64 0, .int .i64 32, .int .i64 32, .int .i64 32, .int .i64 64, .int .i64 8, .int .i64 72, .int .i64 16, .int .i64 88, .int .i64 16] 147
set_option maxHeartbeats 400000 in
theorem parts_any (w : World) : Calls Tryz.prog 72 #[] w fun e w' => e = .returned (.slice (some ⟨w.heap.size, 0, none⟩) 5 5) ∧ w' = w.alloc partsObj := by
  unfold partsObj
  go_enter Tryz.func72, Tryz.ntmps72
  go_wp2
  go_ret
  exact ⟨rfl, rfl⟩
/-- Where a field's bits begin; how many there are. -/
def fAt : Nat → Nat
  | 0 => 0
  | 1 => 32
  | 2 => 64
  | 3 => 72
  | _ => 88
def fBits : Nat → Nat
  | 0 => 32
  | 1 => 32
  | 2 => 8
  | _ => 16
theorem parts_at (w : World) (f : Nat) (hf : f < 5) : (w.alloc partsObj).cell? ⟨w.heap.size, f * 2, none⟩ = some (.int .i64 (fAt f)) ∧ (w.alloc partsObj).cell? ⟨w.heap.size, f * 2 + 1, none⟩ = some (.int .i64 (fBits f)) := by
  have hb := blk1 w (.cells #[.int .i64 0, .int .i64 32, .int .i64 32, .int .i64 32, .int .i64 64, .int .i64 8, .int .i64 72, .int .i64 16, .int .i64 88, .int .i64 16] 147)
  unfold partsObj
  obtain rfl | rfl | rfl | rfl | rfl : f = 0 ∨ f = 1 ∨ f = 2 ∨ f = 3 ∨ f = 4 := by omega
  all_goals exact ⟨by rw [cell_of_row _ _ _ _ _ (0, 0) hb]; rfl, by rw [cell_of_row _ _ _ _ _ (0, 0) hb]; rfl⟩
section
variable {w : World} {B S km : Nat} {A : Blks} {Mo : Nat} {σ : Sg}
set_option maxRecDepth 100000
set_option maxHeartbeats 2000000
theorem prefix_yes (h : SpOk w B S km A Mo σ) (f a n : Nat) (hf : f < 2) (ha : a < 4294967296) (hn : n ≤ 32) (hc : chk a n = 0) (hl : σ.N.length + 96 ≤ 2147483647) :
    Calls Tryz.prog 56 #[.pointer (some ⟨S, 0, none⟩), .int .i64 f, .agg #[.int .u32 a, .int .i64 n]] w (SpRes w B S km A Mo σ (bitsF (32 * f) 0 n (a / 2 ^ (32 - n)) n) (3 * n) (3 * n)) := by
  have hbw := below1 w (.cells #[.int .u32 a, .int .i64 n] 69)
  have hbk := blk1 w (.cells #[.int .u32 a, .int .i64 n] 69)
  have hfo := h.sp.ar.foreign_new hbw (Nat.le_refl _) (lt_of_block hbk)
  have HCK := Lib.hid (fun W => addrCheck_any (a : Int) (n : Int) W (by omega) (by omega))
  rw [hc] at HCK
  have HK0 := Lib.hid (h.kept hbw)
  have HS := Lib.hid (h.below hbw)
  have HBK := Lib.hid hbk
  have b0 : (w.alloc (.cells #[.int .u32 a, .int .i64 n] 69)).cell? ⟨w.heap.size, 0, none⟩ = some (.int .u32 a) := by rw [cell_of_row _ _ 0 _ _ (0, 0) hbk]; rfl
  have b1 : (w.alloc (.cells #[.int .u32 a, .int .i64 n] 69)).cell? ⟨w.heap.size, 1, none⟩ = some (.int .i64 n) := by rw [cell_of_row _ _ 1 _ _ (0, 0) hbk]; rfl
  have hn1 : (n : Int) ≤ 32 := by omega
  have HNE : Hid (w.heap.size ≠ km) := Lib.hid (by have := h.sp.fk.1; omega)
  have HFK : Hid (∀ W, Below (w.alloc (.cells #[.int .u32 a, .int .i64 n] 69)).heap.size (w.alloc (.cells #[.int .u32 a, .int .i64 n] 69)) W → Foreign A W w.heap.size ∧ w.heap.size ≠ km) := Lib.hid fun W hb => ⟨((HS.out.kept hb).same _ hfo HNE.out).2, HNE.out⟩
  have f1 : ¬ (f : Int) ≠ 0 ∨ (f : Int) ≠ 0 ∧ ¬ (f : Int) ≠ 1 := by omega
  clear h hbw hfo hbk hc
  go_enter Tryz.func56, Tryz.ntmps56
  go_upto_region 1 with fail
  generalize w.alloc (.cells #[.int .u32 a, .int .i64 n] 69) = w0 at *
  obtain rfl | rfl : f = 0 ∨ f = 1 := by omega
  · go_upto_region 8 with ((with_reducible refine (HCK.out _).mono ?_); rintro e W2 ⟨rfl, hb2⟩; have HS2 := Lib.hid (HS.out.below hb2); have HK2 := Lib.hid (HK0.out.trans (HS.out.kept hb2)); have HB2 := Lib.hid hb2; clear hb2)
    have hk2 := blk_below HB2.out HBK.out
    have hwd : Below W2.heap.size W2 { W2 with drawn := W2.drawn + 1 } := ⟨rfl, rfl, rfl, Nat.le_refl _, fun _ _ => rfl⟩
    have HSV := Lib.hid (HS2.out.below hwd)
    have HKV := Lib.hid (HK2.out.trans (HS2.out.kept hwd))
    have hk3 := blk_below hwd hk2
    have HFO := Lib.hid ((KeptS.same (HS2.out.kept hwd) _ (HFK.out W2 HB2.out).1 (HFK.out W2 HB2.out).2).2)
    clear hk2 hwd b0 b1
    refine wp_region_mixS (KeptS A km { W2 with drawn := W2.drawn + 1 }) [(0, false), (2, false), (6, false), (7, false), (8, false), (9, false), (10, false), (11, false), (12, false), (13, false), (14, false), (1, true), (3, false), (4, false), (5, false), (15, true), (16, false), (17, false), (18, false), (19, false)] (by kernel_rfl) (by kernel_rfl) (KeptS.refl _ _ _) ?_
    generalize { W2 with drawn := W2.drawn + 1 } = V0 at *
    have d0 : ∀ p : InW (KeptS A km V0), p.w.cell? ⟨w.heap.size, 0, none⟩ = some (.int .u32 a) := fun p => by rw [cell_of_row _ _ 0 _ _ (0, 0) ((p.h.same _ HFO.out HNE.out).1.trans hk3)]; rfl
    have d1 : ∀ p : InW (KeptS A km V0), p.w.cell? ⟨w.heap.size, 1, none⟩ = some (.int .i64 n) := fun p => by rw [cell_of_row _ _ 1 _ _ (0, 0) ((p.h.same _ HFO.out HNE.out).1.trans hk3)]; rfl
    refine mix_take [0, 2, 6, 7, 8, 9, 10, 11, 12, 13, 14] [_, _, _, _, _, _, _, _, _, _, _] rfl rfl ?_
    simp only [List.getElem_toArray, List.getElem_cons_zero, List.getElem_cons_succ]
    repeat (go_big_quiet_step (fail))
    refine wpQuiet_nil ?_
    refine mix_barS rfl (by rfl) ?_
    simp only [List.getElem_toArray, List.getElem_cons_zero, List.getElem_cons_succ]
    go_simp
    have hbp := below1 V0 partsObj
    have HSP := Lib.hid (HSV.out.below hbp)
    have HKP := Lib.hid (HSV.out.kept hbp)
    have hpk := blk1 V0 partsObj
    have hpf := HSV.out.sp.ar.foreign_new hbp (Nat.le_refl _) (lt_of_block hpk)
    have hpn : V0.heap.size ≠ km := by have := HSV.out.sp.fk.1; omega
    have hpp := (parts_at V0 0 (by omega)).1
    refine (parts_any _).mono ?_
    rintro e _ ⟨rfl, rfl⟩
    refine ⟨KeptS A km (V0.alloc partsObj), KeptS.refl _ _ _, fun v hv => HKP.out.trans hv, ?_⟩
    have p0 : ∀ p : InW (KeptS A km (V0.alloc partsObj)), p.w.cell? ⟨V0.heap.size, 0, none⟩ = some (.int .i64 0) := fun p => (World.cell?_of_block (p.h.same _ hpf hpn).1).trans hpp
    clear hbp hpk hpf hpn hpp d0 d1 hk3
    generalize V0.alloc partsObj = V1 at *
    refine mix_take [3, 4, 5] [_, _, _] rfl rfl ?_
    simp only [List.getElem_toArray, List.getElem_cons_zero, List.getElem_cons_succ]
    repeat (go_big_quiet_step (fail))
    refine wpQuiet_nil ?_
    refine mix_barS rfl (by rfl) ?_
    simp only [List.getElem_toArray, List.getElem_cons_zero, List.getElem_cons_succ]
    go_simp
    have hdl : a / 2 ^ (32 - n) ≤ a := Nat.div_le_self _ _
    have hdv : ((a / 2 ^ (32 - n) : Nat) : Int) = (a : Int) / 2 ^ (32 - n) := by simp
    have hbits := bits_any HSP.out nowF (32 * 0) n (a / 2 ^ (32 - n)) (by omega) hn (by omega) (by omega)
    rw [hdv] at hbits
    have HBITS := Lib.hid (show Calls Tryz.prog 71 #[.pointer (some ⟨S, 0, none⟩), .int .i64 0, .int .i64 n, .int .u64 ((a : Int) / 2 ^ (32 - n)), .func (.func 73) #[] #[]] V1 _ from hbits)
    clear hdl hdv hbits
    refine HBITS.out.mono ?_
    rintro e W5 hr5
    have HR5 := Lib.hid (hr5.after (To.refl σ) (HKV.out.trans HKP.out))
    obtain ⟨q5, c5, rfl⟩ := hr5.form
    refine ⟨KeptS A km V1, hr5.1, fun _ h => h, ?_⟩
    clear hr5
    refine mix_take [16, 17, 18, 19] [_, _, _, _] rfl rfl ?_
    simp only [List.getElem_toArray, List.getElem_cons_zero, List.getElem_cons_succ]
    repeat (go_big_quiet_step (fail))
    refine wpQuiet_nil ?_
    refine mix_end ?_
    go_wp2
    go_ret2
    simpa using HR5.out
  · go_upto_region 8 with ((with_reducible refine (HCK.out _).mono ?_); rintro e W2 ⟨rfl, hb2⟩; have HS2 := Lib.hid (HS.out.below hb2); have HK2 := Lib.hid (HK0.out.trans (HS.out.kept hb2)); have HB2 := Lib.hid hb2; clear hb2)
    have hk2 := blk_below HB2.out HBK.out
    have hwd : Below W2.heap.size W2 { W2 with drawn := W2.drawn + 1 } := ⟨rfl, rfl, rfl, Nat.le_refl _, fun _ _ => rfl⟩
    have HSV := Lib.hid (HS2.out.below hwd)
    have HKV := Lib.hid (HK2.out.trans (HS2.out.kept hwd))
    have hk3 := blk_below hwd hk2
    have HFO := Lib.hid ((KeptS.same (HS2.out.kept hwd) _ (HFK.out W2 HB2.out).1 (HFK.out W2 HB2.out).2).2)
    clear hk2 hwd b0 b1
    refine wp_region_mixS (KeptS A km { W2 with drawn := W2.drawn + 1 }) [(0, false), (2, false), (6, false), (7, false), (8, false), (9, false), (10, false), (11, false), (12, false), (13, false), (14, false), (1, true), (3, false), (4, false), (5, false), (15, true), (16, false), (17, false), (18, false), (19, false)] (by kernel_rfl) (by kernel_rfl) (KeptS.refl _ _ _) ?_
    generalize { W2 with drawn := W2.drawn + 1 } = V0 at *
    have d0 : ∀ p : InW (KeptS A km V0), p.w.cell? ⟨w.heap.size, 0, none⟩ = some (.int .u32 a) := fun p => by rw [cell_of_row _ _ 0 _ _ (0, 0) ((p.h.same _ HFO.out HNE.out).1.trans hk3)]; rfl
    have d1 : ∀ p : InW (KeptS A km V0), p.w.cell? ⟨w.heap.size, 1, none⟩ = some (.int .i64 n) := fun p => by rw [cell_of_row _ _ 1 _ _ (0, 0) ((p.h.same _ HFO.out HNE.out).1.trans hk3)]; rfl
    refine mix_take [0, 2, 6, 7, 8, 9, 10, 11, 12, 13, 14] [_, _, _, _, _, _, _, _, _, _, _] rfl rfl ?_
    simp only [List.getElem_toArray, List.getElem_cons_zero, List.getElem_cons_succ]
    repeat (go_big_quiet_step (fail))
    refine wpQuiet_nil ?_
    refine mix_barS rfl (by rfl) ?_
    simp only [List.getElem_toArray, List.getElem_cons_zero, List.getElem_cons_succ]
    go_simp
    have hbp := below1 V0 partsObj
    have HSP := Lib.hid (HSV.out.below hbp)
    have HKP := Lib.hid (HSV.out.kept hbp)
    have hpk := blk1 V0 partsObj
    have hpf := HSV.out.sp.ar.foreign_new hbp (Nat.le_refl _) (lt_of_block hpk)
    have hpn : V0.heap.size ≠ km := by have := HSV.out.sp.fk.1; omega
    have hpp := (parts_at V0 1 (by omega)).1
    refine (parts_any _).mono ?_
    rintro e _ ⟨rfl, rfl⟩
    refine ⟨KeptS A km (V0.alloc partsObj), KeptS.refl _ _ _, fun v hv => HKP.out.trans hv, ?_⟩
    have p0 : ∀ p : InW (KeptS A km (V0.alloc partsObj)), p.w.cell? ⟨V0.heap.size, 2, none⟩ = some (.int .i64 32) := fun p => (World.cell?_of_block (p.h.same _ hpf hpn).1).trans hpp
    clear hbp hpk hpf hpn hpp d0 d1 hk3
    generalize V0.alloc partsObj = V1 at *
    refine mix_take [3, 4, 5] [_, _, _] rfl rfl ?_
    simp only [List.getElem_toArray, List.getElem_cons_zero, List.getElem_cons_succ]
    repeat (go_big_quiet_step (fail))
    refine wpQuiet_nil ?_
    refine mix_barS rfl (by rfl) ?_
    simp only [List.getElem_toArray, List.getElem_cons_zero, List.getElem_cons_succ]
    go_simp
    have hdl : a / 2 ^ (32 - n) ≤ a := Nat.div_le_self _ _
    have hdv : ((a / 2 ^ (32 - n) : Nat) : Int) = (a : Int) / 2 ^ (32 - n) := by simp
    have hbits := bits_any HSP.out nowF (32 * 1) n (a / 2 ^ (32 - n)) (by omega) hn (by omega) (by omega)
    rw [hdv] at hbits
    have HBITS := Lib.hid (show Calls Tryz.prog 71 #[.pointer (some ⟨S, 0, none⟩), .int .i64 32, .int .i64 n, .int .u64 ((a : Int) / 2 ^ (32 - n)), .func (.func 73) #[] #[]] V1 _ from hbits)
    clear hdl hdv hbits
    refine HBITS.out.mono ?_
    rintro e W5 hr5
    have HR5 := Lib.hid (hr5.after (To.refl σ) (HKV.out.trans HKP.out))
    obtain ⟨q5, c5, rfl⟩ := hr5.form
    refine ⟨KeptS A km V1, hr5.1, fun _ h => h, ?_⟩
    clear hr5
    refine mix_take [16, 17, 18, 19] [_, _, _, _] rfl rfl ?_
    simp only [List.getElem_toArray, List.getElem_cons_zero, List.getElem_cons_succ]
    repeat (go_big_quiet_step (fail))
    refine wpQuiet_nil ?_
    refine mix_end ?_
    go_wp2
    go_ret2
    simpa using HR5.out
end
end Go.Proofs.YthhcaoljejifeaaGreat

/-
  A field's values from a number up, or up to a number (written by wip/gen/genrb2.py).
-/
namespace Go.Proofs.YthhcaoljejifeaaGreat
open Go Go.RowKit Go.ChangeMaps Go.MapKept Go.Maps Go.Lib Go.Sort

def stepF (x : Nat) (up b : Bool) (F : Fun) : Fun := fun s => if s x then (if b then F s else up) else (if b then !up else F s)
/-- The last m bits of a field's n are not below (up), not above v's. -/
def reachF (a n v : Nat) (up : Bool) : Nat → Fun
  | 0 => fun _ => true
  | m + 1 => stepF (2 * (a + (n - 1 - m))) up (v.testBit m) (reachF a n v up m)
theorem Hangs.step {F : Fun} {x a b : Nat} (up c : Bool) (h : Hangs F a b) (h1 : x ≤ a) (h2 : x < b) : Hangs (stepF x up c F) x b := fun s t e => by
  unfold stepF
  rw [e x (Nat.le_refl _) h2, h s t fun u h3 h4 => e u (by omega) h4]
theorem reachF_hangs (a n v : Nat) (up : Bool) : ∀ m, m ≤ n → Hangs (reachF a n v up m) (2 * (a + (n - m))) (2 * (a + n))
  | 0, _ => Hangs.const true _ _
  | m + 1, hm => by
    have := reachF_hangs a n v up m (by omega)
    rw [show n - (m + 1) = n - 1 - m from by omega]
    exact this.step _ _ (by omega) (by omega)
theorem bit_u64' (v m : Nat) (hv : v < 4294967296) (b : Bool) (hb : v.testBit m = b) : bits .and .u64 ((v : Int) / 2 ^ m) 1 = if b then 1 else 0 := by rw [bit_u64 v m hv, hb]
set_option maxRecDepth 100000 in
set_option maxHeartbeats 4000000 in
theorem reach_any {w : World} {B S km : Nat} {A : Blks} {Mo : Nat} {σ : Sg} (h : SpOk w B S km A Mo σ) (a n v : Nat) (up : Bool) (hn : a + n ≤ 104) (hn32 : n ≤ 32) (hv : v < 4294967296) (hl : σ.N.length + 2 * n ≤ 2147483647) :
    Calls Tryz.prog 75 #[.pointer (some ⟨S, 0, none⟩), .agg #[.int .i64 a, .int .i64 n], .int .u64 v, .bool up] w (SpRes w B S km A Mo σ (reachF a n v up n) (2 * n) (2 * n)) := by
  have hbw := below1 w (.cells #[.int .i64 a, .int .i64 n] 147)
  have hbk := blk1 w (.cells #[.int .i64 a, .int .i64 n] 147)
  have hfo := h.sp.ar.foreign_new hbw (Nat.le_refl _) (lt_of_block hbk)
  have hfk := h.sp.fk.1
  have HBX : Hid (∀ W, KeptS A km (w.alloc (.cells #[.int .i64 a, .int .i64 n] 147)) W → W.cell? ⟨w.heap.size, 0, none⟩ = some (.int .i64 a) ∧ W.cell? ⟨w.heap.size, 1, none⟩ = some (.int .i64 n)) := Lib.hid fun W hW => by
    have hk := (hW.same _ hfo (by omega)).1.trans hbk
    exact ⟨by rw [cell_of_row W _ 0 _ _ (0, 0) hk]; rfl, by rw [cell_of_row W _ 1 _ _ (0, 0) hk]; rfl⟩
  have HK0 := Lib.hid (h.kept hbw)
  have HS := Lib.hid (h.below hbw)
  have HBK := Lib.hid hbk
  have hn1 : (n : Int) ≤ 104 := by omega
  have ha1 : (a : Int) ≤ 104 := by omega
  clear h hbw hfo hfk hbk
  go_enter Tryz.func75, Tryz.ntmps75
  obtain ⟨b0, b1⟩ := HBX.out _ (KeptS.refl _ _ _)
  go_upto_region 2 with fail
  generalize w.alloc (.cells #[.int .i64 a, .int .i64 n] 147) = w0 at *
  go_wp2
  clear b0 b1
  go_loopw [10, 11] (fun f i wr => ∃ m : Nat, m ≤ n ∧ i = .int .i64 ((n : Int) - 1 - m) ∧ ∃ (r : Nat) (τ : Sg), f = .int .i64 r ∧ Hid (SpOk wr B S km A Mo τ) ∧ Hid (To (2 * m) (2 * m) σ τ) ∧ Hid (Den τ r (reachF a n v up m)) ∧ Hid (KeptS A km w0 wr)) (fun _ i _ => (intOf i + 1).toNat)
  case atStart => exact ⟨0, by omega, by simp, 1, σ, rfl, HS, Lib.hid (To.refl σ), Lib.hid (Den.one HS.out.ok), Lib.hid (KeptS.refl _ _ _)⟩
  case round =>
    obtain ⟨m, hm, rfl, r, τ, rfl, HS1, HT1, HD1, HK1⟩ := hrel
    by_cases hlt : m < n
    · have hI : (n : Int) - 1 - m ≥ 0 := by omega
      have c0 := HS1.out.sp.c0
      obtain ⟨b0, b1⟩ := HBX.out wr HK1.out
      obtain ⟨x, hx⟩ : ∃ x, x = 2 * (a + (n - 1 - m)) := ⟨_, rfl⟩
      have hxi : ((a + (n - 1 - m) : Nat) : Int) = (a : Int) + ((n : Int) - 1 - m) := by omega
      have HN := Lib.hid (show ∀ W, Calls Tryz.prog 73 #[.int .i64 ((a : Int) + ((n : Int) - 1 - m))] W (fun e w' => e = .returned (.int .i64 (x : Int)) ∧ w' = W) from fun W => by
        have := now_any (a + (n - 1 - m)) W (by omega)
        rw [hxi, Nat.add_zero, ← hx] at this
        exact this)
      have hwd : Below wr.heap.size wr wr.drew := ⟨rfl, rfl, rfl, Nat.le_refl _, fun _ _ => rfl⟩
      have HSD := Lib.hid (HS1.out.below hwd)
      have HKD := Lib.hid (HK1.out.trans (HS1.out.kept hwd))
      have hnl := HT1.out.nl
      have hvar := Lib.hid (HSD.out.var x (by omega) (by omega))
      have hw1 : IntKind.i64.wrap ((a : Int) + ((n : Int) - 1 - m)) = (a : Int) + ((n : Int) - 1 - m) := IntWalk.i64_in _ (by omega)
      have HX := Lib.hid hx
      clear hxi hnl hwd hx
      go_upto_region 5 with fail
      go_region_held3 (fun w' => w'.cell? ⟨S, 0, none⟩ = some (.pointer (some ⟨A.a, 0, none⟩)) ∧ w'.cell? ⟨w.heap.size, 0, none⟩ = some (.int .i64 a)) (first | exact hcs | go_keep) ((first
        | ((with_reducible refine (HN.out _).mono ?_); rintro e _ ⟨rfl, rfl⟩)
        | ((with_reducible refine hvar.out.mono ?_); rintro e W5 hr5; obtain ⟨q5, c5, he5⟩ := hr5.form; have HR5 := Lib.hid hr5; subst he5; have hcs : W5.cell? ⟨S, 0, none⟩ = some (.pointer (some ⟨A.a, 0, none⟩)) ∧ W5.cell? ⟨w.heap.size, 0, none⟩ = some (.int .i64 a) := ⟨hr5.c0, (HBX.out _ (HKD.out.trans hr5.1)).1⟩; clear hr5)))
      have hfin5 := HR5.out.two
      clear hcs
      rcases hfin5 with ⟨rfl, rfl, hlt5, τ5, hs5, ht5⟩ | ⟨r5, τ5, rfl, rfl, hs5, ht5, hd5⟩
      · have HFIN := Lib.hid (SpRes.full (F := reachF a n v up n) (HK0.out.trans (HKD.out.trans HR5.out.1)) rfl (by have := HT1.out.hl; omega) hs5 ((HT1.out.trans ht5).mono (show 2 * m + 1 ≤ 2 * n by omega) (show 2 * m + 1 ≤ 2 * n by omega)))
        clear hlt5 hs5 ht5
        go_wp2
        go_ret2
        exact HFIN.out
      · have HS5 := Lib.hid hs5
        have HT5 := Lib.hid (HT1.out.trans ht5)
        have HD5 := Lib.hid hd5
        have HK5 := Lib.hid (HKD.out.trans HR5.out.1)
        have c5 := hs5.sp.c0
        have HD5r := Lib.hid (HD1.out.to ht5 HS1.out.ok hs5.ok)
        obtain ⟨d0, d1⟩ := HBX.out W5 HK5.out
        clear hs5 ht5 hd5 HR5 hvar HN c0 b0 b1 HSD HS1 HT1 HD1 HK1
        have hsh : (n : Int) - 1 - ((n : Int) - 1 - m) = m := by omega
        have hn5 := HT5.out.nl
        have hh5 := HT5.out.hl
        have hxl : x < 208 := by have := HX.out; omega
        have HLF : Hid (∀ (b : Bool) (hi lo : Nat) (F G : Fun), v.testBit m = b → Den τ5 hi F → Den τ5 lo G → Hangs F (x + 1) 256 → Hangs G (x + 1) 256 → stepF x up b (reachF a n v up m) = (fun s => if s x then F s else G s) → Calls Tryz.prog 36 #[.pointer (some ⟨A.a, 0, none⟩), .int .i64 r5, .int .i64 hi, .int .i64 lo] W5 (fun e w' => ∃ Q C : Int, e = .returned (.tuple #[.int .i64 Q, .int .i64 C]) ∧ ((Q = 0 ∧ C = 3 ∧ SpRes w B S km A Mo σ (reachF a n v up n) (2 * n) (2 * n) e w') ∨
            ∃ (r' : Nat) (τ' : Sg), Q = r' ∧ C = 0 ∧ SpOk w' B S km A Mo τ' ∧ To (2 * (m + 1)) (2 * (m + 1)) σ τ' ∧ Den τ' r' (reachF a n v up (m + 1)) ∧ KeptS A km w0 w'))) := Lib.hid (by
          intro b hi lo F G hb dh dl hF hG he
          have hgr := dh.step dl HS5.out.ok hxl hF hG
          refine (HS5.out.ite HD5.out dh dl (a := 1) (b := 1) hgr (by omega)).mono fun e w' hr => ?_
          obtain ⟨Q, C, rfl⟩ := hr.form
          refine ⟨Q, C, rfl, ?_⟩
          rcases hr.two with ⟨h1, h2, h3, τ', h4, h5⟩ | ⟨r', τ', h1, h2, h4, h5, h6⟩
          · subst h1 h2
            exact .inl ⟨rfl, rfl, SpRes.full (HK0.out.trans (HK5.out.trans hr.1)) rfl (by omega) h4 ((HT5.out.trans h5).mono (by omega) (by omega))⟩
          · refine .inr ⟨r', τ', h1, h2, h4, (HT5.out.trans h5).mono (by omega) (by omega), ?_, HK5.out.trans hr.1⟩
            have : reachF a n v up (m + 1) = fun s => if s x then F s else G s := by rw [← he, ← hb, HX.out]; rfl
            rw [this]
            exact h6)
        have HHF := Lib.hid ((reachF_hangs a n v up m hm).mono (show x + 1 ≤ 2 * (a + (n - m)) by have := HX.out; omega) (show 2 * (a + n) ≤ 256 by omega))
        have HD0 := Lib.hid (Den.zero HS5.out.ok)
        have HD1' := Lib.hid (Den.one HS5.out.ok)
        clear hn5 hh5 hxl
        cases up with
        | false =>
          cases hb : v.testBit m with
          | false =>
            have hbit : bits .and .u64 ((v : Int) / 2 ^ m) 1 = 0 := bit_u64' v m hv false hb
            have HITE := Lib.hid (show Calls Tryz.prog 36 #[.pointer (some ⟨A.a, 0, none⟩), .int .i64 r5, .int .i64 0, .int .i64 r] W5 _ from HLF.out false 0 r (fun _ => false) (reachF a n v false m) hb HD0.out HD5r.out (Hangs.const false _ _) HHF.out (funext fun s => by unfold stepF; cases s x <;> rfl))
            clear HLF hb
            go_upto_region 18 with ((with_reducible refine HITE.out.mono ?_); rintro e W7 ⟨q7, c7, he7, hr7⟩; subst he7; have HR7 := Lib.hid hr7; clear hr7)
            rcases HR7.out with ⟨rfl, rfl, hr⟩ | ⟨r7, τ7, rfl, rfl, hs7, ht7, hd7, hk7⟩
            · have HFIN := Lib.hid hr
              clear hr HR7
              go_wp2
              go_ret2
              exact HFIN.out
            · have HS7 := Lib.hid hs7
              have HT7 := Lib.hid ht7
              have HD7 := Lib.hid hd7
              have HK7 := Lib.hid hk7
              clear hs7 ht7 hd7 hk7 HR7 HITE
              go_wp2
              exact ⟨⟨m + 1, by omega, by go_num, r7, τ7, rfl, HS7, HT7, HD7, HK7⟩, by simp only [intOf]; omega⟩
          | true =>
            have hbit : bits .and .u64 ((v : Int) / 2 ^ m) 1 = 1 := bit_u64' v m hv true hb
            have HITE := Lib.hid (show Calls Tryz.prog 36 #[.pointer (some ⟨A.a, 0, none⟩), .int .i64 r5, .int .i64 r, .int .i64 1] W5 _ from HLF.out true r 1 (reachF a n v false m) (fun _ => true) hb HD5r.out HD1'.out HHF.out (Hangs.const true _ _) (funext fun s => by unfold stepF; cases s x <;> rfl))
            clear HLF hb
            go_upto_region 18 with ((with_reducible refine HITE.out.mono ?_); rintro e W7 ⟨q7, c7, he7, hr7⟩; subst he7; have HR7 := Lib.hid hr7; clear hr7)
            rcases HR7.out with ⟨rfl, rfl, hr⟩ | ⟨r7, τ7, rfl, rfl, hs7, ht7, hd7, hk7⟩
            · have HFIN := Lib.hid hr
              clear hr HR7
              go_wp2
              go_ret2
              exact HFIN.out
            · have HS7 := Lib.hid hs7
              have HT7 := Lib.hid ht7
              have HD7 := Lib.hid hd7
              have HK7 := Lib.hid hk7
              clear hs7 ht7 hd7 hk7 HR7 HITE
              go_wp2
              exact ⟨⟨m + 1, by omega, by go_num, r7, τ7, rfl, HS7, HT7, HD7, HK7⟩, by simp only [intOf]; omega⟩
        | true =>
          cases hb : v.testBit m with
          | false =>
            have hbit : bits .and .u64 ((v : Int) / 2 ^ m) 1 = 0 := bit_u64' v m hv false hb
            have HITE := Lib.hid (show Calls Tryz.prog 36 #[.pointer (some ⟨A.a, 0, none⟩), .int .i64 r5, .int .i64 1, .int .i64 r] W5 _ from HLF.out false 1 r (fun _ => true) (reachF a n v true m) hb HD1'.out HD5r.out (Hangs.const true _ _) HHF.out (funext fun s => by unfold stepF; cases s x <;> rfl))
            clear HLF hb
            go_upto_region 18 with ((with_reducible refine HITE.out.mono ?_); rintro e W7 ⟨q7, c7, he7, hr7⟩; subst he7; have HR7 := Lib.hid hr7; clear hr7)
            rcases HR7.out with ⟨rfl, rfl, hr⟩ | ⟨r7, τ7, rfl, rfl, hs7, ht7, hd7, hk7⟩
            · have HFIN := Lib.hid hr
              clear hr HR7
              go_wp2
              go_ret2
              exact HFIN.out
            · have HS7 := Lib.hid hs7
              have HT7 := Lib.hid ht7
              have HD7 := Lib.hid hd7
              have HK7 := Lib.hid hk7
              clear hs7 ht7 hd7 hk7 HR7 HITE
              go_wp2
              exact ⟨⟨m + 1, by omega, by go_num, r7, τ7, rfl, HS7, HT7, HD7, HK7⟩, by simp only [intOf]; omega⟩
          | true =>
            have hbit : bits .and .u64 ((v : Int) / 2 ^ m) 1 = 1 := bit_u64' v m hv true hb
            have HITE := Lib.hid (show Calls Tryz.prog 36 #[.pointer (some ⟨A.a, 0, none⟩), .int .i64 r5, .int .i64 r, .int .i64 0] W5 _ from HLF.out true r 0 (reachF a n v true m) (fun _ => false) hb HD5r.out HD0.out HHF.out (Hangs.const false _ _) (funext fun s => by unfold stepF; cases s x <;> rfl))
            clear HLF hb
            go_upto_region 18 with ((with_reducible refine HITE.out.mono ?_); rintro e W7 ⟨q7, c7, he7, hr7⟩; subst he7; have HR7 := Lib.hid hr7; clear hr7)
            rcases HR7.out with ⟨rfl, rfl, hr⟩ | ⟨r7, τ7, rfl, rfl, hs7, ht7, hd7, hk7⟩
            · have HFIN := Lib.hid hr
              clear hr HR7
              go_wp2
              go_ret2
              exact HFIN.out
            · have HS7 := Lib.hid hs7
              have HT7 := Lib.hid ht7
              have HD7 := Lib.hid hd7
              have HK7 := Lib.hid hk7
              clear hs7 ht7 hd7 hk7 HR7 HITE
              go_wp2
              exact ⟨⟨m + 1, by omega, by go_num, r7, τ7, rfl, HS7, HT7, HD7, HK7⟩, by simp only [intOf]; omega⟩
    · obtain rfl : m = n := by omega
      have hI : ¬ (m : Int) - 1 - m ≥ 0 := by omega
      have HFIN : Hid (SpRes w B S km A Mo σ (reachF a m v up m) (2 * m) (2 * m) (.returned (.tuple #[.int .i64 r, .int .i64 0])) wr) := Lib.hid ⟨HK0.out.trans HK1.out, .inr ⟨r, τ, rfl, HS1.out, HT1.out, HD1.out⟩⟩
      go_wp2
      go_ret2
      exact HFIN.out
end Go.Proofs.YthhcaoljejifeaaGreat

/-
  How many nodes stand for what is made of bits.
-/
namespace Go.Proofs.YthhcaoljejifeaaGreat

theorem CutF.mono {F : Fun} {v k m : Nat} (h : CutF F v k) (hk : k ≤ m) : CutF F v m := by
  obtain ⟨L, a, b⟩ := h
  exact ⟨L, by omega, b⟩
theorem CutF.const (b : Bool) (v : Nat) : CutF (fun _ => b) v 1 := ⟨[fun _ => b], Nat.le_refl _, fun _ => List.mem_cons_of_mem _ (List.mem_singleton.2 rfl)⟩
theorem CutF.lit {F : Fun} {x c v k : Nat} (b : Bool) (hF : Hangs F (x + 1) c) (hc : x < c) (h : CutF F v k) (hk : 1 ≤ k) : CutF (litF x b F) v k := by
  rcases Nat.lt_or_ge x v with hv | hv
  · obtain ⟨L, h1, h2⟩ := h
    refine ⟨L, h1, fun s => ?_⟩
    cases hs : (s x == b)
    · have : cof (litF x b F) v s = fun _ => false := funext fun t => by
        show ((mixS v s t x == b) && F (mixS v s t)) = false
        rw [mixS_low _ _ hv, hs]; rfl
      rw [this]
      exact List.mem_cons_self ..
    · have : cof (litF x b F) v s = cof F v s := funext fun t => by
        show ((mixS v s t x == b) && F (mixS v s t)) = F (mixS v s t)
        rw [mixS_low _ _ hv, hs]; rfl
      rw [this]
      exact h2 s
  · exact ((hF.lit b (by omega) hc).aheadF hv).mono hk
theorem CutF.eq {F : Fun} {x v k : Nat} (hF : Hangs F (x + 2) 208) (hx : x + 2 ≤ 208) (h : CutF F v k) (hk : 2 ≤ k) : CutF (eqF x F) v k := by
  rcases Nat.lt_or_ge x v with hv | hv
  · rcases Nat.lt_or_ge (x + 1) v with hv2 | hv2
    · obtain ⟨L, h1, h2⟩ := h
      refine ⟨L, h1, fun s => ?_⟩
      cases hs : (s x == s (x + 1))
      · have : cof (eqF x F) v s = fun _ => false := funext fun t => by
          show ((mixS v s t x == mixS v s t (x + 1)) && F (mixS v s t)) = false
          rw [mixS_low _ _ hv, mixS_low _ _ hv2, hs]; rfl
        rw [this]
        exact List.mem_cons_self ..
      · have : cof (eqF x F) v s = cof F v s := funext fun t => by
          show ((mixS v s t x == mixS v s t (x + 1)) && F (mixS v s t)) = F (mixS v s t)
          rw [mixS_low _ _ hv, mixS_low _ _ hv2, hs]; rfl
        rw [this]
        exact h2 s
    · obtain rfl : v = x + 1 := by omega
      obtain ⟨L, h1, h2⟩ := CutLe.second (hF.eqF (Nat.le_refl _) hx)
      exact ⟨L, by omega, fun s => List.mem_cons_of_mem _ (h2 s)⟩
  · exact ((hF.eqF (Nat.le_refl _) hx).aheadF hv).mono (by omega)
/-- All that is left is true, false, or one more. -/
theorem reachF_cut (a n v u : Nat) (up : Bool) : ∀ m, m ≤ n → CutLe (reachF a n v up m) u 3
  | 0, _ => (CutLe.const true u).mono (by omega)
  | m + 1, hm => by
    have H : ∀ m, m ≤ n → ∃ G : Fun, ∀ s, cof (reachF a n v up m) u s = (fun _ => true) ∨ cof (reachF a n v up m) u s = (fun _ => false) ∨ cof (reachF a n v up m) u s = G := by
      intro m
      induction m with
      | zero => exact fun _ => ⟨fun _ => true, fun s => .inl rfl⟩
      | succ m ih =>
        intro hm
        have hh := (reachF_hangs a n v up m (by omega)).mono (show 2 * (a + (n - 1 - m)) + 1 ≤ 2 * (a + (n - m)) by omega) (Nat.le_refl _)
        rcases Nat.lt_or_ge (2 * (a + (n - 1 - m))) u with hv | hv
        · obtain ⟨G, hG⟩ := ih (by omega)
          refine ⟨G, fun s => ?_⟩
          have e : cof (reachF a n v up (m + 1)) u s = fun t => if s (2 * (a + (n - 1 - m))) then (if v.testBit m then reachF a n v up m (mixS u s t) else up) else (if v.testBit m then !up else reachF a n v up m (mixS u s t)) := funext fun t => by
            show stepF (2 * (a + (n - 1 - m))) up (v.testBit m) (reachF a n v up m) (mixS u s t) = _
            unfold stepF
            rw [mixS_low _ _ hv]
          rw [e]
          cases s (2 * (a + (n - 1 - m))) <;> cases v.testBit m <;> cases up
          all_goals first
            | exact hG s
            | exact .inl rfl
            | exact .inr (.inl rfl)
        · obtain ⟨L, h1, h2⟩ := (Hangs.step up (v.testBit m) hh (by omega) (by omega)).ahead hv
          refine ⟨reachF a n v up (m + 1), fun s => .inr (.inr ?_)⟩
          have hh2 := Hangs.step up (v.testBit m) hh (show 2 * (a + (n - 1 - m)) ≤ 2 * (a + (n - 1 - m)) + 1 by omega) (by omega)
          exact funext fun t => hh2 _ _ fun w h1 _ => mixS_high _ _ (by omega)
    obtain ⟨G, hG⟩ := H (m + 1) hm
    refine ⟨[fun _ => true, fun _ => false, G], Nat.le_refl _, fun s => ?_⟩
    rcases hG s with h | h | h <;> simp [h]
theorem sumTo_seg (k a b : Nat) : ∀ n, sumTo (fun v => if a ≤ v ∧ v < b then k else 0) n = (min n b - a) * k
  | 0 => by simp [sumTo]
  | n + 1 => by
    show sumTo _ n + (if a ≤ n ∧ n < b then k else 0) = _
    rw [sumTo_seg k a b n]
    by_cases h : a ≤ n ∧ n < b
    · rw [if_pos h, show min (n + 1) b - a = (min n b - a) + 1 by omega, Nat.add_mul, Nat.one_mul]
    · rw [if_neg h, show min (n + 1) b - a = min n b - a by omega, Nat.add_zero]
theorem Wid.seg {F : Fun} {a b k : Nat} (h : Hangs F a b) (hb : b ≤ 256) (hc : ∀ v, CutLe F v k) : Wid F ((b - a) * k) := by
  refine ⟨fun v => if a ≤ v ∧ v < b then k else 0, fun v hv => ?_, by rw [sumTo_seg, Nat.min_eq_right hb]; exact Nat.le_refl _⟩
  by_cases h1 : a ≤ v ∧ v < b
  · refine .inr ?_
    simp only [h1, and_self, if_true]
    exact hc v
  · exact .inl (h.free (by omega))
theorem Wid.all {F : Fun} {k : Nat} (h : Hangs F 0 208) (hc : ∀ v, CutLe F v k) : Wid F (208 * k) := Wid.of_hangs h (by omega) fun v _ _ => hc v
/-- With the value v in the field of n bits from a on. -/
def putF (a n v : Nat) : Fun := fun s => sameF a n 104 s && bitsF a 1 n v n s
theorem reachF_hang (a n v : Nat) (up : Bool) (h : a + n ≤ 104) : Hangs (reachF a n v up n) 0 208 := (reachF_hangs a n v up n (Nat.le_refl _)).mono (by omega) (by omega)
end Go.Proofs.YthhcaoljejifeaaGreat

/-
  A value put into a field of all headers (written by wip/gen/genrb5.py).
-/
namespace Go.Proofs.YthhcaoljejifeaaGreat
open Go Go.RowKit Go.ChangeMaps Go.MapKept Go.Maps Go.Lib Go.Sort

section
variable {w : World} {B S km : Nat} {A : Blks} {Mo : Nat} {σ : Sg}
set_option maxRecDepth 100000
set_option maxHeartbeats 4000000
end
end Go.Proofs.YthhcaoljejifeaaGreat

/-
  Sets of numbers as spans: the normal form is told by its members. No program in sight.
-/
namespace Go.Proofs.YthhcaoljejifeaaGreat

structure SpanV where
  lo : Int
  hi : Int
  hlo : 0 ≤ lo ∧ lo < 4294967296
  hhi : 0 ≤ hi ∧ hi < 4294967296
instance : Inhabited SpanV := ⟨⟨0, 0, by omega, by omega⟩⟩
theorem SpanV.eq {s t : SpanV} (h1 : s.lo = t.lo) (h2 : s.hi = t.hi) : s = t := by
  cases s; cases t; simp_all
def SpanV.inB (s : SpanV) (x : Int) : Bool := decide (s.lo ≤ x) && decide (x ≤ s.hi)
def hasB (L : List SpanV) (x : Int) : Bool := L.any fun s => s.inB x
theorem hasB_iff {L : List SpanV} {x : Int} : hasB L x = true ↔ ∃ s ∈ L, s.lo ≤ x ∧ x ≤ s.hi := by
  simp [hasB, SpanV.inB]
/-- The normal form: rising, none empty, none touching the next. -/
def NF : List SpanV → Prop
  | [] => True
  | s :: r => s.lo ≤ s.hi ∧ (∀ t ∈ r, s.hi + 1 < t.lo) ∧ NF r
theorem NF.ok {L : List SpanV} (h : NF L) : ∀ s ∈ L, s.lo ≤ s.hi := by
  induction L with
  | nil => intro s hs; simp at hs
  | cons t r ih =>
    intro s hs
    rcases List.mem_cons.1 hs with rfl | hs
    · exact h.1
    · exact ih h.2.2 s hs
theorem NF.head {s : SpanV} {r : List SpanV} (h : NF (s :: r)) {x : Int} (hx : hasB (s :: r) x = true) : s.lo ≤ x := by
  obtain ⟨t, ht, h1, h2⟩ := hasB_iff.1 hx
  rcases List.mem_cons.1 ht with rfl | ht
  · exact h1
  · have := h.2.1 t ht
    have := h.1
    omega
theorem NF.unique : ∀ {A B : List SpanV}, NF A → NF B → (∀ x, hasB A x = hasB B x) → A = B
  | [], [], _, _, _ => rfl
  | [], t :: q, _, hB, h => by
    have := h t.lo
    have h2 : hasB (t :: q) t.lo = true := hasB_iff.2 ⟨t, List.mem_cons_self .., by omega, hB.1⟩
    rw [h2] at this
    simp [hasB] at this
  | s :: r, [], hA, _, h => by
    have := h s.lo
    have h2 : hasB (s :: r) s.lo = true := hasB_iff.2 ⟨s, List.mem_cons_self .., by omega, hA.1⟩
    rw [h2] at this
    simp [hasB] at this
  | s :: r, t :: q, hA, hB, h => by
    have a1 : hasB (s :: r) s.lo = true := hasB_iff.2 ⟨s, List.mem_cons_self .., by omega, hA.1⟩
    have b1 : hasB (t :: q) t.lo = true := hasB_iff.2 ⟨t, List.mem_cons_self .., by omega, hB.1⟩
    have l1 := hB.head ((h s.lo).symm.trans a1)
    have l2 := hA.head ((h t.lo).trans b1)
    have hlo : s.lo = t.lo := by omega
    have key : ∀ {s t : SpanV} {r q : List SpanV}, NF (s :: r) → NF (t :: q) → s.lo = t.lo → (∀ x, hasB (s :: r) x = hasB (t :: q) x) → ¬ s.hi < t.hi := by
      intro s t r q hA hB hlo h hlt
      have h1 : hasB (t :: q) (s.hi + 1) = true := hasB_iff.2 ⟨t, List.mem_cons_self .., by have := hA.1; omega, by omega⟩
      obtain ⟨u, hu, h2, h3⟩ := hasB_iff.1 ((h _).trans h1)
      rcases List.mem_cons.1 hu with rfl | hu
      · omega
      · have := hA.2.1 u hu; omega
    have n1 := key hA hB hlo h
    have n2 := key hB hA hlo.symm (fun x => (h x).symm)
    have e : s = t := SpanV.eq hlo (by omega)
    subst e
    have rest : ∀ {s : SpanV} {r : List SpanV}, NF (s :: r) → ∀ x, hasB r x = (hasB (s :: r) x && decide (s.hi < x)) := by
      intro s r hA x
      rw [Bool.eq_iff_iff, Bool.and_eq_true, decide_eq_true_eq, hasB_iff, hasB_iff]
      constructor
      · rintro ⟨u, hu, h1, h2⟩
        have := hA.2.1 u hu
        exact ⟨⟨u, List.mem_cons_of_mem _ hu, h1, h2⟩, by omega⟩
      · rintro ⟨⟨u, hu, h1, h2⟩, h3⟩
        rcases List.mem_cons.1 hu with rfl | hu
        · omega
        · exact ⟨u, hu, h1, h2⟩
    rw [NF.unique hA.2.2 hB.2.2 (fun x => by rw [rest hA x, rest hB x, h x])]

end Go.Proofs.YthhcaoljejifeaaGreat

/-
  Walks over package cmp at the types of this seat: Compare and Or.
-/
namespace Go.Proofs.YthhcaoljejifeaaGreat
open Go Go.RowKit

/-- -1, 0, 1. -/
def cmpI (x y : Int) : Int := if x < y then -1 else if y < x then 1 else 0
theorem cmpI_lt {x y : Int} (h : x < y) : cmpI x y = -1 := if_pos h
theorem cmpI_gt {x y : Int} (h : y < x) : cmpI x y = 1 := by unfold cmpI; rw [if_neg (by omega), if_pos h]
theorem cmpI_eq (x : Int) : cmpI x x = 0 := by unfold cmpI; rw [if_neg (by omega), if_neg (by omega)]
/-- The first that is not 0. -/
def firstNZ : List Int → Int
  | [] => 0
  | x :: l => if x = 0 then firstNZ l else x
theorem firstNZ_take (l : List Int) (k : Nat) (x : Int) (hx : l[k]? = some x) (h : ∀ j, j < k → l[j]? = some 0) (hn : x ≠ 0) : firstNZ l = x := by
  induction l generalizing k with
  | nil => simp at hx
  | cons y l ih =>
    cases k with
    | zero => simp at hx; subst hx; unfold firstNZ; rw [if_neg hn]
    | succ k =>
      have h0 := h 0 (by omega)
      simp at h0
      subst h0
      unfold firstNZ; rw [if_pos rfl]
      exact ih k (by simpa using hx) (fun j hj => by simpa using h (j + 1) (by omega))
theorem firstNZ_zero (l : List Int) (h : ∀ j, j < l.length → l[j]? = some 0) : firstNZ l = 0 := by
  induction l with
  | nil => rfl
  | cons y l ih =>
    have h0 := h 0 (by simp)
    simp at h0
    subst h0
    unfold firstNZ; rw [if_pos rfl]
    exact ih (fun j hj => by simpa using h (j + 1) (by simp; omega))




set_option maxHeartbeats 400000 in
theorem cmpU32_any (x y : Int) (w : World) : Calls Tryz.prog 86 #[.int .u32 x, .int .u32 y] w fun e w' => e = .returned (.int .i64 (cmpI x y)) ∧ w = w' := by
  have hx : (x != x) = false := by simp
  have hy : (y != y) = false := by simp
  rcases Int.lt_trichotomy x y with h | h | h
  · have hE := Lib.hid (cmpI_lt h)
    go_enter Tryz.func86, Tryz.ntmps86
    go_wp2
    go_ret
    exact ⟨ret_int hE.out.symm, rfl⟩
  · subst h
    have hE := Lib.hid (cmpI_eq x)
    go_enter Tryz.func86, Tryz.ntmps86
    go_wp2
    go_ret
    exact ⟨ret_int hE.out.symm, rfl⟩
  · have hE := Lib.hid (cmpI_gt h)
    have h' : ¬ x < y := by omega
    go_enter Tryz.func86, Tryz.ntmps86
    go_wp2
    go_ret
    exact ⟨ret_int hE.out.symm, rfl⟩

set_option maxHeartbeats 400000 in
theorem cmpOr_any (l : List Int) (v : Value) (w : World) (h : Rd w w.heap.size 1 v l.length (l.map (Value.int .i64))) (hlen : l.length ≤ 4294967296) :
    Calls Tryz.prog 85 #[v] w fun e w' => e = .returned (.int .i64 (firstNZ l)) ∧ w = w' := by
  by_cases h0 : l.length = 0
  · obtain ⟨A, c, rfl, hc⟩ := h.form
    have e1 : l = [] := List.eq_nil_of_length_eq_zero h0
    subst e1
    go_enter Tryz.func85, Tryz.ntmps85
    go_wp2
    refine wp_loop_rounds 1 ?_
    rw [rounds_succ]
    go_wp2
    go_ret
    exact ⟨rfl, rfl⟩
  · obtain ⟨b, off, c, rfl, hc, hbB, hcell⟩ := h.pos (by omega)
    clear h
    go_enter Tryz.func85, Tryz.ntmps85
    go_wp2
    go_loop [8] (fun i => ∃ k : Nat, i = .int .i64 k ∧ k ≤ l.length ∧ ∀ j, j < k → l[j]? = some 0) (fun i => l.length - (intOf i).toNat)
    case atStart => exact ⟨0, rfl, by omega, fun j hj => absurd hj (by omega)⟩
    case round =>
      obtain ⟨k, rfl, hk, hz⟩ := hrel
      have HZ := Lib.hid hz
      clear hz
      by_cases hlt : k < l.length
      · obtain ⟨x, hx⟩ : ∃ x, l[k]? = some x := ⟨_, List.getElem?_eq_getElem hlt⟩
        have ca : w.cell? ⟨b, off + k, none⟩ = some (.int .i64 x) := hcell k _ (by simp [hx])
        have hI : (k : Int) < (l.length : Int) := by omega
        have HX := Lib.hid hx
        have HC := Lib.hid hcell
        clear hx hcell
        by_cases e : x = 0
        · have E := Lib.hid e
          have e' : (x != 0) = false := by simp [e]
          clear e
          go_wp2
          go_round
          case rel =>
            refine ⟨k + 1, by go_num, by omega, fun j hj => ?_⟩
            by_cases hjk : j = k
            · subst hjk; rw [HX.out, E.out]
            · exact HZ.out j (by omega)
          case measure => simp only [intOf]; omega
        · have E := Lib.hid e
          have e' : (x != 0) = true := by simp [e]
          clear e
          go_wp2
          go_ret
          exact ⟨ret_int (firstNZ_take l k x HX.out HZ.out E.out).symm, rfl⟩
      · go_wp2
        go_ret
        exact ⟨ret_int (firstNZ_zero l (fun j hj => HZ.out j (by omega))).symm, rfl⟩

end Go.Proofs.YthhcaoljejifeaaGreat

/-
  Walks over the layer of spans: the closure of Form, the sort of spans.
-/
namespace Go.Proofs.YthhcaoljejifeaaGreat
open Go Go.RowKit Go.Lib Go.Sort

def SpanV.enc (s : SpanV) : List Value := [.int .u32 s.lo, .int .u32 s.hi]
theorem span_len (s : SpanV) : s.enc.length = 2 := rfl
def cmpS (x y : SpanV) : Int := firstNZ [cmpI x.lo y.lo, cmpI x.hi y.hi]

set_option maxHeartbeats 1000000 in
theorem formClos_any (x y : SpanV) (w : World) :
    Calls Tryz.prog 84 #[.agg #[.int .u32 x.lo, .int .u32 x.hi], .agg #[.int .u32 y.lo, .int .u32 y.hi]] w fun e w' => e = .returned (.int .i64 (cmpS x y)) ∧ ∃ q os', w' = grow (w.drewN q) os' := by
  have hBX : ∃ os, (w.alloc (.cells #[.int .u32 x.lo, .int .u32 x.hi] 66)).alloc (.cells #[.int .u32 y.lo, .int .u32 y.hi] 66) = grow w os := ⟨_, by rw [alloc_eq_grow, alloc_eq_grow, grow_grow]⟩
  have HB := Lib.hid hBX
  clear hBX
  go_enter Tryz.func84, Tryz.ntmps84
  go_wp2
  obtain ⟨k0, k1⟩ := blk2 w (.cells #[.int .u32 x.lo, .int .u32 x.hi] 66) (.cells #[.int .u32 y.lo, .int .u32 y.hi] 66)
  obtain ⟨c0, c1, _, _⟩ := two_cells k0
  obtain ⟨c2, c3, _, _⟩ := two_cells k1
  have hsz := lt_of_block k1
  clear k0 k1
  obtain ⟨os0, hos⟩ := HB.out
  have HOS := Lib.hid hos
  clear hos HB
  generalize (w.alloc (.cells #[.int .u32 x.lo, .int .u32 x.hi] 66)).alloc (.cells #[.int .u32 y.lo, .int .u32 y.hi] 66) = W at *
  go_region_held3 (fun w' => w'.cell? ⟨w.heap.size, 0, none⟩ = some (.int .u32 x.lo) ∧ w'.cell? ⟨w.heap.size, 1, none⟩ = some (.int .u32 x.hi) ∧ w'.cell? ⟨w.heap.size + 1, 0, none⟩ = some (.int .u32 y.lo) ∧ w'.cell? ⟨w.heap.size + 1, 1, none⟩ = some (.int .u32 y.hi)) (go_keep)
    (first | (go_at_call 86; refine (cmpU32_any _ _ _).mono ?_; rintro e w' ⟨rfl, rfl⟩) | (go_at_call 85; refine (cmpOr_any [cmpI x.lo y.lo, cmpI x.hi y.hi] _ _ (Rd.of_blk (cs := #[.int .i64 (cmpI x.lo y.lo), .int .i64 (cmpI x.hi y.hi)]) (t := 3) (heap_drew (heap_alloc_new _ _)) (Nat.le_refl _) rfl) (by simp)).mono ?_; rintro e w' ⟨rfl, rfl⟩))
  all_goals go_wp2
  go_ret
  refine ⟨rfl, 1, os0 ++ #[.cells #[.int .i64 (cmpI x.lo y.lo), .int .i64 (cmpI x.hi y.hi)] 3], ?_⟩
  rw [HOS.out, alloc_eq_grow, grow_grow]
  rfl

end Go.Proofs.YthhcaoljejifeaaGreat

/-
  Arguments opened to cells: structs of any depth, slices of structs of any length; no program in sight.
-/
namespace Go.Proofs.YthhcaoljejifeaaGreat
open Go Go.RowKit Go.ChangeShapes Go.WideShapes Go.Deep

theorem list_told {α : Type} {Q : Nat → α → Prop} : ∀ n, (∀ i, i < n → ∃ r, Q i r) → ∃ L : List α, L.length = n ∧ ∀ i x, L[i]? = some x → Q i x
  | 0, _ => ⟨[], rfl, fun i x h => by simp at h⟩
  | n + 1, h => by
    obtain ⟨L, hl, hq⟩ := list_told n (fun i hi => h i (by omega))
    obtain ⟨r, hr⟩ := h n (by omega)
    refine ⟨L ++ [r], by simp [hl], fun i x hx => ?_⟩
    by_cases hi : i < L.length
    · rw [List.getElem?_append_left hi] at hx; exact hq i x hx
    · rw [List.getElem?_append_right (by omega)] at hx
      have : i - L.length = 0 := by
        have := (List.getElem?_eq_some_iff.1 hx).1
        simp at this; omega
      rw [this] at hx
      simp at hx
      subst hx
      have : i = n := by omega
      rw [this]; exact hr
theorem flat_inv {α : Type} (enc : α → List Value) (k : Nat) (hk : ∀ x, (enc x).length = k) (L : List α) (j : Nat) (u : Value) (h : (L.flatMap enc)[j]? = some u) :
    ∃ (i jj : Nat) (x : α), j = i * k + jj ∧ jj < k ∧ L[i]? = some x ∧ (enc x)[jj]? = some u := by
  have hj := (List.getElem?_eq_some_iff.1 h).1
  rw [flat_len enc k hk] at hj
  have hk0 : 0 < k := by
    rcases Nat.eq_zero_or_pos k with h0 | h0
    · subst h0; simp at hj
    · exact h0
  have hd : j / k < L.length := Nat.div_lt_of_lt_mul (by rw [Nat.mul_comm]; exact hj)
  have hm := Nat.mod_lt j hk0
  have hdm : j = j / k * k + j % k := by rw [Nat.mul_comm]; exact (Nat.div_add_mod j k).symm
  have hx := List.getElem?_eq_getElem hd
  have hu : (enc L[j / k])[j % k]? = some ((enc L[j / k])[j % k]'(by rw [hk]; exact hm)) := List.getElem?_eq_getElem _
  have hg := flat_get enc k hk L _ _ _ _ hx hu
  rw [← hdm, h] at hg
  exact ⟨j / k, j % k, _, hdm, hm, hx, hu.trans hg.symm⟩

section
variable {H : Type} {enc : TypeId × Value → H} {P : Program} {w : World} {base : Nat} {spare : Nat → Bool} {held : Bool}
theorem sub_at {t : TypeId} {fs : Array Field} {n : Nat} {cs : List Value} {x : DataW H × List MemPlace} (ht : P.underlying t = some (.struct fs)) (h : DataW.trod enc P w base spare held n t cs = some x) :
    cs.length = P.cellsOf t ∧ ∃ m, ∀ (j : Nat) (f : Field) (off : Nat) (ty : TypeId) (k : Nat), fs[j]? = some f → f.offset = off → f.type = ty → P.cellsOf ty = k → ∃ y, DataW.trod enc P w base spare held m ty ((cs.drop off).take k) = some y := by
  obtain ⟨xs, m, _, _, hl, hlen, hf⟩ := DataW.trod_struct ht h
  refine ⟨hl, m, fun j f off ty k hj ho hty hk => ?_⟩
  have h1 := hf j f hj
  have hjl : j < xs.length := by rw [hlen]; exact (Array.getElem?_eq_some_iff.1 hj).1
  subst ho hty hk
  exact ⟨_, h1.trans (List.getElem?_eq_getElem hjl)⟩
/-- A struct as a parameter. -/
theorem open_agg {r : Reach} {b0 : Nat} {t : TypeId} {fs : Array Field} {v : Value} {d : DataW H} {p : List MemPlace} (hs : P.underlying t = some (.struct fs)) (hv : Value.okWide P w r b0 t v) (h : DataW.Trod enc P w base spare held t v d p) :
    ∃ (cs : List Value) (n : Nat), v = .agg cs.toArray ∧ DataW.trod enc P w base spare held n t cs = some (d, p) := by
  obtain ⟨cs, rfl, _⟩ := okWide_struct hs hv
  obtain ⟨n, hf⟩ := h
  exact ⟨cs.toList, n, by simp, hf⟩
/-- A slice as a parameter. -/
theorem open_sl {r : Reach} {b0 : Nat} {t e : TypeId} {v : Value} {d : DataW H} {p : List MemPlace} (hs : P.underlying t = some (.slice e)) (hv : Value.okWide P w r b0 t v) (h : DataW.Trod enc P w base spare held t v d p) :
    ∃ n, DataW.trod enc P w base spare held n t [v] = some (d, p) := by
  obtain ⟨a, len, cap, rfl⟩ := okWide_slice hs hv
  exact h
end

end Go.Proofs.YthhcaoljejifeaaGreat

/-
  Rows of structs and the shelf's sort: cells told both ways; the sort of spans.
-/
namespace Go.Proofs.YthhcaoljejifeaaGreat
open Go Go.RowKit Go.Lib Go.Sort

section
variable {α : Type} [Inhabited α] {enc : α → List Value} {k : Nat}
theorem flatK_at (hk : ∀ x, (enc x).length = k) {L : List α} {j : Nat} {u : Value} (h : (L.flatMap enc)[j]? = some u) : (flatK enc k L.toArray)[j]! = u := by
  have hj := (List.getElem?_eq_some_iff.1 h).1
  rw [flat_len enc k hk] at hj
  rw [get_flatK _ _ _ _ (by simpa using hj)]
  obtain ⟨i, jj, x, rfl, hjj, hx, hu⟩ := flat_inv enc k hk L j u h
  have e1 : (i * k + jj) / k = i := by
    rw [Nat.mul_comm, Nat.mul_add_div (by omega), Nat.div_eq_of_lt hjj, Nat.add_zero]
  have e2 : (i * k + jj) % k = jj := by
    rw [Nat.mul_comm, Nat.mul_add_mod, Nat.mod_eq_of_lt hjj]
  rw [e1, e2]
  have hi := (List.getElem?_eq_some_iff.1 hx)
  have e3 : L.toArray[i]! = x := by
    have := get_bang hi.1
    rw [hx] at this
    injection this with this
    rw [this]
    simp
  rw [e3]
  have := get_bang (List.getElem?_eq_some_iff.1 hu).1
  rw [hu] at this
  injection this with this
  exact this.symm
theorem holdsK_of (hk : ∀ x, (enc x).length = k) {L : List α} {w : World} {g off : Nat} (h : ∀ j u, (L.flatMap enc)[j]? = some u → w.cell? ⟨g, off + j, none⟩ = some u) (hf : ∀ j, w.frozen? ⟨g, j, none⟩ = false) : HoldsK enc k w g off L.toArray := by
  intro j hj
  rw [size_flatK] at hj
  have hj' : j < (L.flatMap enc).length := by rw [flat_len enc k hk]; simpa using hj
  refine ⟨?_, hf _⟩
  rw [flatK_at hk (List.getElem?_eq_getElem hj')]
  exact h j _ (List.getElem?_eq_getElem hj')
theorem cells_of_holdsK (hk : ∀ x, (enc x).length = k) {d : Array α} {w : World} {g off : Nat} (h : HoldsK enc k w g off d) : ∀ j u, (d.toList.flatMap enc)[j]? = some u → w.cell? ⟨g, off + j, none⟩ = some u := by
  intro j u hu
  have hj := (List.getElem?_eq_some_iff.1 hu).1
  rw [flat_len enc k hk] at hj
  have := (h j (by rw [size_flatK]; simpa using hj)).1
  have e := flatK_at hk (L := d.toList) hu
  rw [show d.toList.toArray = d by simp] at e
  rw [e] at this
  exact this
theorem below_sortWorldK {w : World} {B g off m : Nat} {d : Array α} {os : Array Obj} (hg : B ≤ g) (hB : B ≤ w.heap.size) : RowKit.Below B w (sortWorldK enc k w g off m d os) := by
  refine ⟨rfl, rfl, rfl, ?_, fun i hi => ?_⟩
  · simp [sortWorldK, grow, putRowK, putRow, mapBlock]
  · have hne : i ≠ g := by omega
    simp only [sortWorldK, grow, putRowK, putRow, mapBlock]
    rw [Array.getElem?_append_left (by simp; omega), Array.getElem?_modify, if_neg (Ne.symm hne)]
    rfl
end

theorem ltS (x y : SpanV) : ltOf cmpS x y = decide (x.lo < y.lo ∨ (x.lo = y.lo ∧ x.hi < y.hi)) := by
  unfold ltOf cmpS
  rcases Int.lt_trichotomy x.lo y.lo with h | h | h
  · rw [cmpI_lt h]
    simp [firstNZ, h]
  · rw [h, cmpI_eq]
    rcases Int.lt_trichotomy x.hi y.hi with h2 | h2 | h2
    · rw [cmpI_lt h2]; simp [firstNZ, h2]
    · rw [h2, cmpI_eq]; simp [firstNZ]
    · rw [cmpI_gt h2]; simp [firstNZ]; omega
  · rw [cmpI_gt h]
    simp [firstNZ]; omega
theorem swoS : SWO (ltOf cmpS) where
  irrefl x := by rw [ltS]; simp
  trans x y z h1 h2 := by rw [ltS] at *; simp at *; omega
  ntrans x y z h1 h2 := by rw [ltS] at *; simp at *; omega

def scells (L : List SpanV) : List Value := L.flatMap SpanV.enc
theorem scell {L : List SpanV} {k i : Nat} {x : SpanV} {v : Value} (hr : L[k]? = some x) (hv : x.enc[i]? = some v) : (scells L)[k * 2 + i]? = some v := flat_get SpanV.enc 2 span_len L k i x v hr hv
def SortPost (L : List SpanV) (v : Value) (base : Nat) (w : World) (e : Ending) (w' : World) : Prop :=
  e = .returned (.tuple #[]) ∧ ∃ L' : List SpanV, L'.Perm L ∧ L'.Pairwise (fun x y => x.lo ≤ y.lo) ∧ Rd w' w'.heap.size 2 v L'.length (scells L') ∧ ∀ B, B ≤ base → B ≤ w.heap.size → RowKit.Below B w w'

theorem sortSpan_any (L : List SpanV) (v : Value) (base : Nat) (w : World) (hown : w.ownsRow base 66 2 v L.length (scells L)) (hlen : L.length < 4611686018427387904) :
    Calls Tryz.prog 83 #[v, .func (.func 84) #[] #[]] w fun e w' => SortPost L v base w e w' := by
  rcases Nat.eq_zero_or_pos L.length with h0 | h0
  · obtain rfl : L = [] := List.eq_nil_of_length_eq_zero h0
    obtain ⟨A, c, rfl, _⟩ := owns_form hown
    refine (AnyF.slices_SortFunc_none Tryz.sortSpan A c (.func (.func 84) #[] #[]) w).mono fun e w' ⟨he, hw⟩ => ⟨he, [], List.Perm.refl _, List.Pairwise.nil, ?_, fun B _ _ => ?_⟩
    · subst hw; exact Rd.of_own hown
    · subst hw; exact RowKit.Below.refl _ _
  · obtain ⟨A, c, rfl, hA⟩ := owns_form hown
    obtain ⟨g, rfl⟩ := hA h0
    have hg := hown.lt g rfl
    have hH : HoldsK SpanV.enc 2 w g 0 L.toArray := holdsK_of span_len (fun j u hu => by
      have := hown.cells (g := g) rfl j u hu
      have e : (⟨g, 0, none⟩ : Addr).add j = ⟨g, 0 + j, none⟩ := by simp [Addr.add]; omega
      rw [← e]; exact this) (fun j => hown.frozenAt j)
    have hcon := AnyQ.slices_SortFunc Tryz.sortSpan 2 Tryz.isAgg66 Tryz.sizeOf66 SpanV.enc span_len (fun x v hv => by simp [SpanV.enc] at hv; rcases hv with rfl | rfl <;> rfl) cmpS swoS 84 #[] g 0 c L.toArray w (enters_of Tryz.func84 (by kernel_rfl) rfl) (fun _ _ _ _ x y => formClos_any x y _) hH hg.2 (by simpa using hlen)
    rw [List.size_toArray] at hcon
    change Calls Tryz.prog 83 _ _ _ at hcon
    refine hcon.mono ?_
    rintro e w' ⟨he, d', n, os, hp, hs, hw⟩
    have hsz : d'.size = L.length := by simpa using hp.1
    subst hw
    have hK := holdsK_sortWorldK_c (enc := SpanV.enc) (k := 2) (w := w) (blk := g) (off := 0) L.toArray d' n os hH hg.2 (by simpa using hsz)
    refine ⟨he, d'.toList, ?_, ?_, ⟨_, c, ?_, ?_, ?_, fun _ => ⟨g, 0, rfl, ?_, fun j u hu => ?_⟩⟩, fun B hB hB2 => below_sortWorldK (by omega) hB2⟩
    · have := hp.2.2
      rw [← hsz] at this
      have e1 : (d'.extract 0 d'.size).toList = d'.toList := by simp
      have e2 : (L.toArray.extract 0 d'.size).toList = L := by rw [hsz]; simp
      rw [e1, e2] at this
      exact this
    · rw [List.pairwise_iff_getElem]
      intro i j hi hj hij
      have h1 := hs i j (Nat.zero_le _) hij (by simpa [hsz] using hj)
      rw [ltS] at h1
      have e1 : d'[i]! = d'.toList[i] := by
        have : i < d'.size := by simpa using hi
        simp [this]
      have e2 : d'[j]! = d'.toList[j] := by
        have : j < d'.size := by simpa using hj
        simp [this]
      rw [e1, e2] at h1
      simp at h1
      simp
      omega
    · have e1 : d'.toList.length = L.length := by simpa using hsz
      rw [e1]
    · have := hown
      obtain ⟨_, hq⟩ := this
      rcases hq with ⟨h1, _⟩ | ⟨g', cap, cur, h1, _, _, h2, _⟩
      · cases h1
      · injection h1 with _ _ h1
        rw [Array.length_toList, hsz, h1]
        exact h2
    · exact flat_len SpanV.enc 2 span_len _
    · have := size_sortWorldK_c (enc := SpanV.enc) (k := 2) (w := w) (blk := g) (off := 0) n d' os
      omega
    · exact cells_of_holdsK span_len hK j u hu

end Go.Proofs.YthhcaoljejifeaaGreat

/-
  Sets of numbers as spans: the list in normal form with given members; one step of the merging. No program in sight.
-/
namespace Go.Proofs.YthhcaoljejifeaaGreat

open Classical in
/-- The normal form of a set of numbers (if it has one). -/
noncomputable def theSet (P : Int → Bool) : List SpanV := if h : ∃ R : List SpanV, NF R ∧ ∀ x, hasB R x = P x then h.choose else []
theorem theSet_eq {P : Int → Bool} {R : List SpanV} (h : NF R) (hm : ∀ x, hasB R x = P x) : theSet P = R := by
  have he : ∃ R : List SpanV, NF R ∧ ∀ x, hasB R x = P x := ⟨R, h, hm⟩
  unfold theSet
  rw [dif_pos he]
  exact NF.unique he.choose_spec.1 h (fun x => (he.choose_spec.2 x).trans (hm x).symm)
theorem inB_iff {s : SpanV} {x : Int} : s.inB x = true ↔ s.lo ≤ x ∧ x ≤ s.hi := by simp [SpanV.inB]
theorem hasB_append (A B : List SpanV) (x : Int) : hasB (A ++ B) x = (hasB A x || hasB B x) := by simp [hasB]
theorem hasB_one (s : SpanV) (x : Int) : hasB [s] x = s.inB x := by simp [hasB]
theorem hasB_perm {A B : List SpanV} (h : A.Perm B) (x : Int) : hasB A x = hasB B x := by
  rw [Bool.eq_iff_iff, hasB_iff, hasB_iff]
  constructor
  · rintro ⟨s, hs, h1⟩; exact ⟨s, h.mem_iff.1 hs, h1⟩
  · rintro ⟨s, hs, h1⟩; exact ⟨s, h.mem_iff.2 hs, h1⟩
theorem NF.snoc : ∀ {A : List SpanV} {t : SpanV}, NF (A ++ [t]) ↔ NF A ∧ t.lo ≤ t.hi ∧ ∀ a ∈ A, a.hi + 1 < t.lo
  | [], t => by simp [NF]
  | s :: A, t => by
    have ih := @NF.snoc A t
    show (s.lo ≤ s.hi ∧ (∀ u ∈ A ++ [t], s.hi + 1 < u.lo) ∧ NF (A ++ [t])) ↔ _
    rw [ih]
    constructor
    · rintro ⟨h1, h2, h3, h4, h5⟩
      refine ⟨⟨h1, fun u hu => h2 u (List.mem_append_left _ hu), h3⟩, h4, fun a ha => ?_⟩
      rcases List.mem_cons.1 ha with rfl | ha
      · exact h2 t (List.mem_append_right _ (List.mem_singleton.2 rfl))
      · exact h5 a ha
    · rintro ⟨⟨h1, h2, h3⟩, h4, h5⟩
      refine ⟨h1, fun u hu => ?_, h3, h4, fun a ha => h5 a (List.mem_cons_of_mem _ ha)⟩
      rcases List.mem_append.1 hu with hu | hu
      · exact h2 u hu
      · obtain rfl := List.mem_singleton.1 hu
        exact h5 s (List.mem_cons_self ..)
/-- A span that reaches farther. -/
def SpanV.reach (t s : SpanV) : SpanV := ⟨t.lo, max t.hi s.hi, t.hlo, by have := t.hhi; have := s.hhi; omega⟩
theorem merge_in {A : List SpanV} {t s : SpanV} (h : NF (A ++ [t])) (hs : s.lo ≤ s.hi) (hts : t.lo ≤ s.lo) (hm : s.lo ≤ t.hi + 1) :
    NF (A ++ [t.reach s]) ∧ ∀ x, hasB (A ++ [t.reach s]) x = (hasB (A ++ [t]) x || s.inB x) := by
  obtain ⟨h1, h2, h3⟩ := NF.snoc.1 h
  refine ⟨NF.snoc.2 ⟨h1, ?_, h3⟩, fun x => ?_⟩
  · show t.lo ≤ max t.hi s.hi
    omega
  · rw [hasB_append, hasB_append, hasB_one, hasB_one, Bool.or_assoc]
    congr 1
    rw [Bool.eq_iff_iff, Bool.or_eq_true, inB_iff, inB_iff, inB_iff]
    show (t.lo ≤ x ∧ x ≤ max t.hi s.hi) ↔ _
    omega
theorem merge_new {A : List SpanV} {t s : SpanV} (h : NF (A ++ [t])) (hs : s.lo ≤ s.hi) (hm : t.hi + 1 < s.lo) : NF (A ++ [t] ++ [s]) := by
  obtain ⟨h1, h2, h3⟩ := NF.snoc.1 h
  refine NF.snoc.2 ⟨h, hs, fun a ha => ?_⟩
  rcases List.mem_append.1 ha with ha | ha
  · have := h3 a ha; omega
  · obtain rfl := List.mem_singleton.1 ha
    exact hm

end Go.Proofs.YthhcaoljejifeaaGreat

/-
  Sets of numbers as spans: the merging of a sorted list; what is in both; what is in none. No program in sight.
-/
namespace Go.Proofs.YthhcaoljejifeaaGreat

theorem hasB_nil (x : Int) : hasB [] x = false := rfl
theorem hasB_take_succ {L : List SpanV} {j : Nat} {s : SpanV} (h : L[j]? = some s) (x : Int) : hasB (L.take (j + 1)) x = (hasB (L.take j) x || s.inB x) := by
  rw [List.take_add_one, h, hasB_append]
  show _ = (_ || s.inB x)
  congr 1
  simp [hasB]
/-- One step of the merging. -/
def mstep (O : List SpanV) (s : SpanV) : List SpanV :=
  match O.getLast? with
  | none => [s]
  | some t => if s.lo ≤ t.hi + 1 then O.dropLast ++ [t.reach s] else O ++ [s]
theorem mstep_nil (s : SpanV) : mstep [] s = [s] := rfl
theorem mstep_in {A : List SpanV} {t s : SpanV} (h : s.lo ≤ t.hi + 1) : mstep (A ++ [t]) s = A ++ [t.reach s] := by
  simp [mstep, h]
theorem mstep_new {A : List SpanV} {t s : SpanV} (h : ¬ s.lo ≤ t.hi + 1) : mstep (A ++ [t]) s = A ++ [t] ++ [s] := by
  simp [mstep, h]
def mfold (L : List SpanV) : List SpanV := L.foldl mstep []
theorem mfold_succ {L : List SpanV} {j : Nat} {s : SpanV} (h : L[j]? = some s) : mfold (L.take (j + 1)) = mstep (mfold (L.take j)) s := by
  rw [List.take_add_one, h]
  simp [mfold, List.foldl_append]
theorem snoc_cases {α : Type} (O : List α) : O = [] ∨ ∃ A t, O = A ++ [t] := by
  rcases List.eq_nil_or_concat O with h | ⟨A, t, h⟩
  · exact .inl h
  · exact .inr ⟨A, t, by simpa using h⟩
theorem mfold_ok {L : List SpanV} (hs : L.Pairwise (fun x y => x.lo ≤ y.lo)) (hv : ∀ s ∈ L, s.lo ≤ s.hi) :
    ∀ j, j ≤ L.length → NF (mfold (L.take j)) ∧ (∀ x, hasB (mfold (L.take j)) x = hasB (L.take j) x) ∧ ∀ t ∈ mfold (L.take j), ∀ s ∈ L.drop j, t.lo ≤ s.lo := by
  intro j
  induction j with
  | zero => intro _; exact ⟨trivial, fun x => rfl, fun t ht => by simp [mfold] at ht⟩
  | succ j ih =>
    intro hj
    obtain ⟨h1, h2, h3⟩ := ih (by omega)
    obtain ⟨s, hsj⟩ : ∃ s, L[j]? = some s := ⟨_, List.getElem?_eq_getElem (by omega)⟩
    have hsm : s ∈ L := List.mem_of_getElem? hsj
    have hd : L.drop j = s :: L.drop (j + 1) := by
      obtain ⟨hj', e⟩ := List.getElem?_eq_some_iff.1 hsj
      rw [List.drop_eq_getElem_cons hj', e]
    have hsrest : ∀ u ∈ L.drop (j + 1), s.lo ≤ u.lo := by
      have := hs.sublist (List.drop_sublist j L)
      rw [hd] at this
      exact (List.pairwise_cons.1 this).1
    have h3' : ∀ t ∈ mfold (L.take j), t.lo ≤ s.lo := fun t ht => h3 t ht s (by rw [hd]; exact List.mem_cons_self ..)
    have h3'' : ∀ t ∈ mfold (L.take j), ∀ u ∈ L.drop (j + 1), t.lo ≤ u.lo := fun t ht u hu => h3 t ht u (by rw [hd]; exact List.mem_cons_of_mem _ hu)
    rw [mfold_succ hsj]
    have hmem : ∀ x, hasB (L.take (j + 1)) x = (hasB (mfold (L.take j)) x || s.inB x) := fun x => by rw [hasB_take_succ hsj, h2 x]
    generalize hO : mfold (L.take j) = O at *
    rcases snoc_cases O with rfl | ⟨A, t, rfl⟩
    · rw [mstep_nil]
      refine ⟨⟨hv s hsm, fun t ht => by simp at ht, trivial⟩, fun x => by rw [hmem, hasB_one, hasB_nil, Bool.false_or], fun t ht u hu => ?_⟩
      obtain rfl := List.mem_singleton.1 ht
      exact hsrest u hu
    · have htl : t.lo ≤ s.lo := h3' t (List.mem_append_right _ (List.mem_singleton.2 rfl))
      by_cases hm : s.lo ≤ t.hi + 1
      · rw [mstep_in hm]
        obtain ⟨k1, k2⟩ := merge_in h1 (hv s hsm) htl hm
        refine ⟨k1, fun x => by rw [k2, hmem], fun u hu v hv' => ?_⟩
        rcases List.mem_append.1 hu with hu | hu
        · exact h3'' u (List.mem_append_left _ hu) v hv'
        · obtain rfl := List.mem_singleton.1 hu
          exact h3'' t (List.mem_append_right _ (List.mem_singleton.2 rfl)) v hv'
      · rw [mstep_new hm]
        refine ⟨merge_new h1 (hv s hsm) (by omega), fun x => by rw [hasB_append, hasB_one, hmem], fun u hu v hv' => ?_⟩
        rcases List.mem_append.1 hu with hu | hu
        · exact h3'' u hu v hv'
        · obtain rfl := List.mem_singleton.1 hu
          exact hsrest v hv'
/-- The form of a list: what the program's three steps make is the list in normal form with the same members. -/
def okS (s : SpanV) : Bool := decide (s.lo ≤ s.hi)
theorem hasB_filter (L : List SpanV) (x : Int) : hasB (L.filter okS) x = hasB L x := by
  rw [Bool.eq_iff_iff, hasB_iff, hasB_iff]
  constructor
  · rintro ⟨s, hs, h1⟩; exact ⟨s, (List.mem_filter.1 hs).1, h1⟩
  · rintro ⟨s, hs, h1, h2⟩; exact ⟨s, List.mem_filter.2 ⟨hs, by simp [okS]; omega⟩, h1, h2⟩
noncomputable def formOf (L : List SpanV) : List SpanV := theSet (hasB L)
theorem formOf_eq {L L' : List SpanV} (hp : L'.Perm (L.filter okS)) (hs : L'.Pairwise (fun x y => x.lo ≤ y.lo)) :
    formOf L = mfold L' ∧ NF (mfold L') ∧ ∀ x, hasB (mfold L') x = hasB L x := by
  have hv : ∀ s ∈ L', s.lo ≤ s.hi := fun s h => by
    have := (List.mem_filter.1 (hp.mem_iff.1 h)).2
    simpa [okS] using this
  obtain ⟨h1, h2, _⟩ := mfold_ok hs hv L'.length (Nat.le_refl _)
  rw [List.take_length] at h1 h2
  have h3 : ∀ x, hasB (mfold L') x = hasB L x := fun x => by rw [h2, hasB_perm hp, hasB_filter]
  exact ⟨theSet_eq h1 h3, h1, h3⟩
theorem mfold_len (L : List SpanV) : ∀ j, (mfold (L.take j)).length ≤ j := by
  intro j
  induction j with
  | zero => simp [mfold]
  | succ j ih =>
    rcases Nat.lt_or_ge j L.length with h | h
    · rw [mfold_succ (List.getElem?_eq_getElem h)]
      generalize mfold (L.take j) = O at *
      rcases snoc_cases O with rfl | ⟨A, t, rfl⟩
      · simp [mstep_nil]
      · by_cases hm : (L[j]).lo ≤ t.hi + 1
        · rw [mstep_in hm]; simp at *; omega
        · rw [mstep_new hm]; simp at *; omega
    · have e : L.take (j + 1) = L.take j := by rw [List.take_of_length_le h, List.take_of_length_le (by omega)]
      rw [e]; omega
/-- What two spans have in common. -/
def meet1 (s t : SpanV) : List SpanV := if max s.lo t.lo ≤ min s.hi t.hi then [⟨max s.lo t.lo, min s.hi t.hi, by have := s.hlo; have := t.hlo; omega, by have := s.hhi; have := t.hhi; omega⟩] else []
def meetRow (s : SpanV) (B : List SpanV) : List SpanV := B.flatMap (meet1 s)
def meetAll (A B : List SpanV) : List SpanV := A.flatMap (fun s => meetRow s B)
/-- What is not in a list, up to most: step by step over its form. -/
def gapOf (at' most : Int) (s : SpanV) : List SpanV :=
  if h : 0 ≤ at' ∧ at' < s.lo ∧ at' ≤ most ∧ most < 4294967296 then [⟨at', min (s.lo - 1) most, by omega, by omega⟩] else []
def natAt (F : List SpanV) : Int := match F.getLast? with | none => 0 | some s => s.hi + 1
theorem NF.take {F : List SpanV} (h : NF F) : ∀ k, NF (F.take k) := by
  induction F with
  | nil => intro k; simp [NF]
  | cons s r ih =>
    intro k
    cases k with
    | zero => trivial
    | succ k => exact ⟨h.1, fun t ht => h.2.1 t (List.mem_of_mem_take ht), ih h.2.2 k⟩
def notTo (most : Int) (F : List SpanV) : Nat → List SpanV
  | 0 => []
  | k + 1 => notTo most F k ++ (match F[k]? with | some s => gapOf (natAt (F.take k)) most s | none => [])
def lastOf (at' most : Int) : List SpanV := if h : 0 ≤ at' ∧ at' ≤ most ∧ most < 4294967296 then [⟨at', most, by omega, by omega⟩] else []
def notAll (most : Int) (F : List SpanV) : List SpanV := notTo most F F.length ++ lastOf (natAt F) most
/-- What is in none of a list, up to most. -/
def notP (most : Int) (L : List SpanV) (x : Int) : Bool := decide (0 ≤ x) && decide (x ≤ most) && !hasB L x
end Go.Proofs.YthhcaoljejifeaaGreat

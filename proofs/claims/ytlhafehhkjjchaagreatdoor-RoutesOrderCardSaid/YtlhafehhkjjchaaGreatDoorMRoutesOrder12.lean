/-
  Joined texts: Addr6, Addr7, Addr8, Ad4, Cut, Ad5.
-/
import Derived.Test.YtlhafehhkjjchaaGreatDoorMRoutesOrder11
import Derived.Test.YtlhafehhkjjchaaGreatDoorMRoutesOrder1
import Derived.Test.YtlhafehhkjjchaaGreatDoorMRoutesOrder7
import Derived.Deep.RegionHeld3
/-
  Walks over the addresses' layer: Within, Cmp, and the law's same; the program's and the reference's.
-/
namespace Go.Proofs.YtlhafehhkjjchaaGreatDoor
open Go Go.RowKit Go.Sort

/-- Is a prefix in another one? -/
def withinB (a n b m : Int) : Bool := decide (chk a n = 0 ∧ m ≤ n) && inB a b m
theorem within_1 {a n : Int} (b m : Int) (h : ¬ chk a n = 0) : false = withinB a n b m := by unfold withinB; simp [h]
theorem within_2 {n m : Int} (a b : Int) (h : ¬ m ≤ n) : false = withinB a n b m := by unfold withinB; simp [h]
theorem within_3 {a n b m : Int} (h : ¬ chk b m = 0) : false = withinB a n b m := by unfold withinB; rw [← in_no a b m h]; simp
theorem within_4 {a n b m : Int} (h : chk a n = 0) (h1 : m ≤ n) : inB a b m = withinB a n b m := by unfold withinB; simp [h, h1]

end Go.Proofs.YtlhafehhkjjchaaGreatDoor

/-
  Walks over the addresses' layer: Cmp, and the law's same.
-/
namespace Go.Proofs.YtlhafehhkjjchaaGreatDoor
open Go Go.RowKit Go.Sort

/-- The order of prefixes. -/
def cmpP (a n b m : Int) : Int := firstNZ [cmpI a b, cmpI n m]

end Go.Proofs.YtlhafehhkjjchaaGreatDoor

/-
  Walks over the addresses' layer: Common; the program's.
-/
namespace Go.Proofs.YtlhafehhkjjchaaGreatDoor
open Go Go.RowKit Go.Sort

/-- What two addresses have in common: the leading zeros of the bits in which they differ. -/
def xorI (a b : Int) : Int := ((a.toNat ^^^ b.toNat : Nat) : Int)
theorem xor_range (a b : Int) (h0 : 0 ≤ a) (h1 : a < 4294967296) (h2 : 0 ≤ b) (h3 : b < 4294967296) : 0 ≤ xorI a b ∧ xorI a b < 4294967296 := by
  unfold xorI
  have := Nat.xor_lt_two_pow (x := a.toNat) (y := b.toNat) (n := 32) (by omega) (by omega)
  omega
theorem xor_val (a b : Int) (h0 : 0 ≤ a) (h1 : a < 4294967296) (h2 : 0 ≤ b) (h3 : b < 4294967296) : bits .xor .u32 a b = xorI a b := u32_xor a b h0 h1 h2 h3
/-- The bits of what two prefixes have in common. -/
def comN (a n b m : Int) : Int := if lz32 (xorI a b) < (if m < n then m else n) then lz32 (xorI a b) else (if m < n then m else n)
theorem com_range {a b : Int} (n m : Int) (hn0 : 0 ≤ n) (hn1 : n ≤ 32) (hm0 : 0 ≤ m) (hm1 : m ≤ 32) (hl : 0 ≤ lz32 (xorI a b) ∧ lz32 (xorI a b) ≤ 32) : 0 ≤ comN a n b m ∧ comN a n b m ≤ 32 := by
  unfold comN
  split <;> split <;> omega
def comE (a n b m : Int) : Int := if chk a n = 0 then chk b m else chk a n
def comA (a n b m : Int) : Int := if comE a n b m = 0 then subA a (comN a n b m) else 0
def comB (a n b m : Int) : Int := if comE a n b m = 0 then comN a n b m else 0
theorem com_yes {a n b m : Int} (h : comE a n b m = 0) : comA a n b m = subA a (comN a n b m) ∧ comB a n b m = comN a n b m := ⟨if_pos h, if_pos h⟩
theorem com_no {a n b m : Int} (h : ¬ comE a n b m = 0) : comA a n b m = 0 ∧ comB a n b m = 0 := ⟨if_neg h, if_neg h⟩
theorem comE_1 {a n : Int} (b m : Int) (h : ¬ chk a n = 0) : comE a n b m = chk a n := if_neg h
theorem comE_2 {a n : Int} (b m : Int) (h : chk a n = 0) : comE a n b m = chk b m := if_pos h
theorem results_p {fn : Func} {tmps : Array Value} {w : World} {g : Nat} {a b e : Value} {t1 t3 : Nat} (hf : fn.results = #[.cell t1 25, .tmp t3]) (h1 : tmps.getD t1 undef = .pointer (some ⟨g, 0, none⟩)) (h3 : tmps.getD t3 undef = e)
    (k1 : w.heap[g]? = some (.cells #[a, b] 25 (0, 0))) :
    (results fn tmps).run Tryz.prog w = .ok (.tuple #[.agg #[a, b], e]) w := by
  obtain ⟨c0, c1, _, _⟩ := two_cells k1
  have h1' : tmps[t1]?.getD undef = .pointer (some ⟨g, 0, none⟩) := by simpa using h1
  have h3' : tmps[t3]?.getD undef = e := by simpa using h3
  simp [results, hf, h1', h3', go_sem, c0, c1]
def ComRes (a n b m : Int) (w : World) (en : Ending) (w' : World) : Prop :=
  en = .returned (.tuple #[.agg #[.int .u32 (comA a n b m), .int .i64 (comB a n b m)], .int .i64 (comE a n b m)]) ∧ Below w.heap.size w w'

end Go.Proofs.YtlhafehhkjjchaaGreatDoor

/-
  Walks over the addresses' texts: ParsePrefix.
-/
namespace Go.Proofs.YtlhafehhkjjchaaGreatDoor
open Go Go.RowKit Go.Sort

/-- The prefix that a text spells, its bits not yet asked. -/
def ppO (l : List UInt8) : Option (Nat × Nat) :=
  if (Lib.cut l [47]).2.2 = true then (parseB (Lib.cut l [47]).1).bind fun a => (readB (Lib.cut l [47]).2.1 32).map fun n => (a, n) else none
def ppE (l : List UInt8) : Int := match ppO l with | none => 4 | some (a, n) => chk a n
def ppA (l : List UInt8) : Int := match ppO l with | none => 0 | some (a, n) => if chk a n = 0 then a else 0
def ppN (l : List UInt8) : Int := match ppO l with | none => 0 | some (a, n) => if chk a n = 0 then n else 0
theorem pp_none {l : List UInt8} (h : ppO l = none) : ppE l = 4 ∧ ppA l = 0 ∧ ppN l = 0 := by unfold ppE ppA ppN; rw [h]; exact ⟨rfl, rfl, rfl⟩
theorem pp_no {l : List UInt8} {a n : Nat} (h : ppO l = some (a, n)) (hc : ¬ chk a n = 0) : ppE l = chk a n ∧ ppA l = 0 ∧ ppN l = 0 := by unfold ppE ppA ppN; rw [h]; exact ⟨rfl, if_neg hc, if_neg hc⟩
theorem pp_yes {l : List UInt8} {a n : Nat} (h : ppO l = some (a, n)) (hc : chk a n = 0) : ppE l = 0 ∧ ppA l = a ∧ ppN l = n := by unfold ppE ppA ppN; rw [h]; exact ⟨hc, if_pos hc, if_pos hc⟩
theorem cut_fst_len (l : List UInt8) (c : List UInt8) : (Lib.cut l c).1.length ≤ l.length := by
  unfold Lib.cut
  split
  · simp; omega
  · exact Nat.le_refl _
theorem cut_snd_len (l : List UInt8) (c : List UInt8) : (Lib.cut l c).2.1.length ≤ l.length := by
  unfold Lib.cut
  split
  · simp
  · simp

set_option maxHeartbeats 2000000 in
theorem parsePrefix_any (s : ByteArray) (w : World) (hE : Env w) (hlim : s.size < 4294967281) :
    Calls Tryz.prog 32 #[.string s] w fun e w' => e = .returned (.tuple #[.agg #[.int .u32 (ppA s.data.toList), .int .i64 (ppN s.data.toList)], .int .i64 (ppE s.data.toList)]) ∧ Below w.heap.size w w' := by
  obtain ⟨m, hm⟩ := hE.len
  have hO := Lib.hid (ppO.eq_1 s.data.toList)
  have l1 := cut_fst_len s.data.toList [47]
  have l2 := cut_snd_len s.data.toList [47]
  have e0 : s.data.toList.length = s.size := Array.length_toList
  rw [e0] at l1 l2
  have hk0 := heap_alloc_new w (.cells #[.int .u32 0, .int .i64 0] 25)
  have hb0 : Below w.heap.size w (w.alloc (.cells #[.int .u32 0, .int .i64 0] 25)) := (Below.refl _ _).alloc (Nat.le_refl _) _
  have hE0 := hE.below hb0
  have hm0 := (hb0.cell (World.block_lt_of_cell? _ _ hm)).trans hm
  have hC := Tryz.strings_Cut s ⟨#[47]⟩ m (w.alloc (.cells #[.int .u32 0, .int .i64 0] 25)) hlim hm0
  generalize hX : Lib.cut s.data.toList [47] = X at hO l1 l2
  rw [show ({ data := #[47] } : ByteArray).data.toList = [47] from rfl, hX] at hC
  clear hX
  obtain ⟨x, y, ok⟩ := X
  dsimp only at hO l1 l2 hC
  have hp := Lib.hid (fun (v : World) (hv : Env v) => addrParse_any ⟨x.toArray⟩ v hv (by have : (⟨x.toArray⟩ : ByteArray).size = x.length := rfl; omega))
  have hn := Lib.hid (fun (v : World) (hv : Env v) => number_any ⟨y.toArray⟩ 32 (by omega) v hv (by have : (⟨y.toArray⟩ : ByteArray).size = y.length := rfl; omega))
  generalize hW : w.alloc (.cells #[.int .u32 0, .int .i64 0] 25) = W at *
  have hsz0 : w.heap.size < W.heap.size := lt_of_block hk0
  go_enter Tryz.func32, Tryz.ntmps32
  go_wp2_with fail
  refine hC.mono ?_
  rintro e w1 ⟨rfl, q, rfl⟩
  have hE1 : Env (W.drewN q) := hE0.below (below_drewN (Below.refl _ _) q)
  have hk1 : (W.drewN q).heap[w.heap.size]? = some (.cells #[.int .u32 0, .int .i64 0] 25 (0, 0)) := hk0
  have hb1 : Below w.heap.size w (W.drewN q) := below_drewN hb0 q
  generalize W.drewN q = W1 at *
  go_wp2_with fail
  refine (hp.out W1 hE1).mono ?_
  rintro e w2 ⟨rfl, hb⟩
  have hE2 := hE1.below hb
  have hk2 := blk_below hb hk1
  have hb2 := hb1.trans (hb.mono hb1.size)
  clear hb
  go_wp2_with fail
  refine (hn.out w2 hE2).mono ?_
  rintro e w3 ⟨⟨z, rfl, hz⟩, hb⟩
  have hE3 := hE2.below hb
  have hk3 := blk_below hb hk2
  have hb3 := hb2.trans (hb.mono hb2.size)
  clear hb hk1 hk2 hE1 hE2 hb1 hb2
  obtain ⟨c0, c1, f0, f1⟩ := two_cells hk3
  have hsz3 := lt_of_block hk3
  have HK3 := Lib.hid hk3
  clear hk3
  cases ok with
  | false =>
    have hN := Lib.hid (pp_none (l := s.data.toList) (by rw [hO.out]; simp ))
    clear hO hz
    go_wp2
    exact bodyPost_ret (results_p (t1 := 2) (t3 := 3) (g := w.heap.size) Tryz.results32 rfl rfl (set_1 (set_0 HK3.out))) rfl ⟨ret_p2 ⟨hN.out.2.1.symm, hN.out.2.2.symm, hN.out.1.symm⟩, (hb3.setCell (Nat.le_refl _) _).setCell (Nat.le_refl _) _⟩
  | true =>
  cases hb : readB y 32 with
  | none =>
    rw [hb] at hz
    have hN := Lib.hid (pp_none (l := s.data.toList) (by rw [hO.out]; simp [hb]))
    clear hO hz
    go_wp2
    exact bodyPost_ret (results_p (t1 := 2) (t3 := 3) (g := w.heap.size) Tryz.results32 rfl rfl (set_1 (set_0 HK3.out))) rfl ⟨ret_p2 ⟨hN.out.2.1.symm, hN.out.2.2.symm, hN.out.1.symm⟩, (hb3.setCell (Nat.le_refl _) _).setCell (Nat.le_refl _) _⟩
  | some n =>
  cases ha : parseB x with
  | none =>
    have ea : adE (none : Option Nat) = 4 := rfl
    rw [hb] at hz
    have hN := Lib.hid (pp_none (l := s.data.toList) (by rw [hO.out]; simp [ha]))
    clear hO hz
    go_wp2
    exact bodyPost_ret (results_p (t1 := 2) (t3 := 3) (g := w.heap.size) Tryz.results32 rfl rfl (set_1 (set_0 HK3.out))) rfl ⟨ret_p2 ⟨hN.out.2.1.symm, hN.out.2.2.symm, hN.out.1.symm⟩, (hb3.setCell (Nat.le_refl _) _).setCell (Nat.le_refl _) _⟩
  | some a =>
  rw [hb] at hz
  obtain rfl := hz n rfl
  have ea : adE (some a) = 0 := rfl
  have ev : adV (some a) = (a : Int) := rfl
  have hal := parseB_lt ha
  have hnl := readB_le hb
  have hO2 := Lib.hid (show ppO s.data.toList = some (a, n) by rw [hO.out]; simp [ha, hb])
  clear hO hz
  by_cases hc : chk a n = 0
  · have hd : (chk a n != 0) = false := by simp [hc]
    have hY := Lib.hid (pp_yes hO2.out hc)
    clear hc ha hb
    go_wp2_with fail
    refine (addrCheck_any _ _ _ (by omega) (by omega)).mono ?_
    rintro e w4 ⟨rfl, hb4⟩
    have K3 := blk_below hb4 ((Below.heap_alloc w3 (.cells #[.int .u32 a, .int .i64 n] 25) _ hsz3).trans HK3.out)
    have K4 := blk_below hb4 (blk1 w3 (.cells #[.int .u32 a, .int .i64 n] 25))
    have hbw4 := below_call (hb3.alloc hb3.size _) hb4
    clear c0 c1 f0 f1 hb4
    obtain ⟨c0, c1, f0, f1⟩ := two_cells K3
    obtain ⟨c2, c3, f2, f3⟩ := two_cells K4
    have HK4 := Lib.hid K3
    have hne : w.heap.size ≠ w3.heap.size := by omega
    clear K3 K4
    go_wp2
    exact bodyPost_ret (results_p (t1 := 2) (t3 := 3) (g := w.heap.size) Tryz.results32 rfl rfl (set_1 (set_0 HK4.out))) rfl ⟨ret_p2 ⟨hY.out.2.1.symm, hY.out.2.2.symm, hY.out.1.symm⟩, (hbw4.setCell (Nat.le_refl _) _).setCell (Nat.le_refl _) _⟩
  · have hd : (chk a n != 0) = true := by simp [hc]
    have hY := Lib.hid (pp_no hO2.out hc)
    clear hc ha hb
    go_wp2_with fail
    refine (addrCheck_any _ _ _ (by omega) (by omega)).mono ?_
    rintro e w4 ⟨rfl, hb4⟩
    have K3 := blk_below hb4 ((Below.heap_alloc w3 (.cells #[.int .u32 a, .int .i64 n] 25) _ hsz3).trans HK3.out)
    have K4 := blk_below hb4 (blk1 w3 (.cells #[.int .u32 a, .int .i64 n] 25))
    have hbw4 := below_call (hb3.alloc hb3.size _) hb4
    clear c0 c1 f0 f1 hb4
    obtain ⟨c0, c1, f0, f1⟩ := two_cells K3
    obtain ⟨c2, c3, f2, f3⟩ := two_cells K4
    have HK4 := Lib.hid K3
    have hne : w.heap.size ≠ w3.heap.size := by omega
    clear K3 K4
    go_wp2
    exact bodyPost_ret (results_p (t1 := 2) (t3 := 3) (g := w.heap.size) Tryz.results32 rfl rfl (set_1 (set_0 HK4.out))) rfl ⟨ret_p2 ⟨hY.out.2.1.symm, hY.out.2.2.symm, hY.out.1.symm⟩, (hbw4.setCell (Nat.le_refl _) _).setCell (Nat.le_refl _) _⟩
end Go.Proofs.YtlhafehhkjjchaaGreatDoor

/-
  The walk of the program's Cut and of its closure.
-/
namespace Go.Proofs.YtlhafehhkjjchaaGreatDoor
open Go Go.RowKit

theorem Tryz.infoPrefix : (Tryz.prog.info? 25).map (fun i => (i.zero, i.size, i.bytes)) = some (some (.agg #[.int .u32 0, .int .i64 0]), 2, 16) := by kernel_rfl

/-- The cells of a list of prefixes. -/
def pcells (L : List (Int × Int)) : List Value := L.flatMap fun p => [.int .u32 p.1, .int .i64 p.2]
theorem pcells_snoc (L : List (Int × Int)) (a n : Int) : pcells (L ++ [(a, n)]) = pcells L ++ [.int .u32 a, .int .i64 n] := by simp [pcells]

/-- The prefixes between two addresses. -/
def cutP (lo hi : Int) : List (Int × Int) := cutL (hi + 1) (hi + 1 - lo).toNat lo

/-- A new list of prefixes is handed back, with no error; nothing that was there has turned. -/
def CutRes (L : List (Int × Int)) (w : World) (en : Ending) (w' : World) : Prop :=
  ∃ v, en = .returned (.tuple #[v, .int .i64 0]) ∧ w'.ownsRow w.heap.size 25 2 v L.length (pcells L) ∧ Below w.heap.size w w'

end Go.Proofs.YtlhafehhkjjchaaGreatDoor

/-
  Walks over the addresses' laws: works.
-/
namespace Go.Proofs.YtlhafehhkjjchaaGreatDoor
open Go Go.RowKit Go.Sort

theorem le_up {w W : World} (h : Below w.heap.size w W) : w.heap.size ≤ W.heap.size := h.size
theorem sub_24 : subA 167838211 24 = 167838208 ∧ subN 24 = 24 ∧ argE 24 = 0 := by decide +kernel
theorem pp_8 : ppA [49, 48, 46, 48, 46, 48, 46, 48, 47, 56] = 167772160 ∧ ppN [49, 48, 46, 48, 46, 48, 46, 48, 47, 56] = 8 ∧ ppE [49, 48, 46, 48, 46, 48, 46, 48, 47, 56] = 0 := by decide +kernel
theorem pa_8 : parseB [49, 48, 46, 49, 46, 50, 46, 51] = some 167838211 := by decide +kernel
theorem cut_8 : (cutP 167838211 167838212).length = 2 := by decide +kernel
theorem text_8 : textA 167838211 = ⟨#[49, 48, 46, 49, 46, 50, 46, 51]⟩ := by rw [textA_eq]; decide +kernel
theorem textp_8 : textP 167838208 24 = ⟨#[49, 48, 46, 49, 46, 50, 46, 48, 47, 50, 52]⟩ := by
  unfold textP
  rw [textA_eq, show Lib.itoa 24 = Lib.decDigits 24 from rfl, dec3_eq (by omega)]
  decide +kernel
theorem works_parse (w : World) (hE : Env w) : Calls Tryz.prog 35 #[.string ⟨#[49, 48, 46, 49, 46, 50, 46, 51]⟩] w fun e w' => e = .returned (.tuple #[.int .u32 167838211, .int .i64 0]) ∧ Below w.heap.size w w' := by
  have h := addrParse_any ⟨#[49, 48, 46, 49, 46, 50, 46, 51]⟩ w hE (by decide)
  rw [show parseB (⟨#[49, 48, 46, 49, 46, 50, 46, 51]⟩ : ByteArray).data.toList = some 167838211 from pa_8] at h
  exact h
theorem works_prefix (w : World) (hE : Env w) : Calls Tryz.prog 32 #[.string ⟨#[49, 48, 46, 48, 46, 48, 46, 48, 47, 56]⟩] w fun e w' => e = .returned (.tuple #[.agg #[.int .u32 167772160, .int .i64 8], .int .i64 0]) ∧ Below w.heap.size w w' := by
  have h := parsePrefix_any ⟨#[49, 48, 46, 48, 46, 48, 46, 48, 47, 56]⟩ w hE (by decide)
  rw [show ppA (⟨#[49, 48, 46, 48, 46, 48, 46, 48, 47, 56]⟩ : ByteArray).data.toList = 167772160 from pp_8.1, show ppN (⟨#[49, 48, 46, 48, 46, 48, 46, 48, 47, 56]⟩ : ByteArray).data.toList = 8 from pp_8.2.1, show ppE (⟨#[49, 48, 46, 48, 46, 48, 46, 48, 47, 56]⟩ : ByteArray).data.toList = 0 from pp_8.2.2] at h
  exact h
theorem works_text (w : World) (hE : Env w) : Calls Tryz.prog 29 #[.int .u32 167838211] w fun e w' => e = .returned (.string ⟨#[49, 48, 46, 49, 46, 50, 46, 51]⟩) ∧ Below w.heap.size w w' := by
  have h := addrText_any 167838211 (by omega) w hE
  rw [text_8] at h
  exact h
theorem works_ptext (w : World) (hE : Env w) : Calls Tryz.prog 27 #[.agg #[.int .u32 167838208, .int .i64 24]] w fun e w' => e = .returned (.string ⟨#[49, 48, 46, 49, 46, 50, 46, 48, 47, 50, 52]⟩) ∧ Below w.heap.size w w' := by
  have h := prefixText_any 167838208 24 (by omega) (by omega) (by omega) w hE
  rw [textp_8] at h
  exact h
theorem in_8 : inB 167838211 167772160 8 = true ∧ withinB 167838208 24 167772160 8 = true ∧ withinB 167772160 8 167838208 24 = false := by decide +kernel
end Go.Proofs.YtlhafehhkjjchaaGreatDoor

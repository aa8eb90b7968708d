/-
  Walks over headers: Parse.
-/
import Derived.Test.YtdlhpiknifcehaaDoorHd8
namespace Go.Proofs.YtdlhpiknifcehaaDoor
open Go Go.RowKit Go.Sort

theorem hpO_three {l p q r : List UInt8} (h : pieces 32 l = [p, q, r]) : hpO l = match endO p, endO q, Lib.parseUintB 8 r with
    | some (a, m), some (b, n), .ok k => if (⟨a, b, k, m, n⟩ : Hd).textL = l then some ⟨a, b, k, m, n⟩ else none
    | _, _, _ => none := by
  unfold hpO
  rw [h]
  rfl
theorem hpO_not {l : List UInt8} (h : (pieces 32 l).length ≠ 3) : hpO l = none := by
  unfold hpO
  split
  · rename_i e; rw [e] at h; exact absurd rfl h
  · rfl
/-- How far the parts have been read. -/
def PSt (p q : List UInt8) : Nat → Hd → Prop
  | 0, h => h = ⟨0, 0, 0, 0, 0⟩
  | 1, h => ∃ a m : Nat, endO p = some (a, m) ∧ h = ⟨a, 0, 0, m, 0⟩
  | _, h => ∃ a m b n : Nat, endO p = some (a, m) ∧ endO q = some (b, n) ∧ h = ⟨a, b, 0, m, n⟩
theorem end_bad {p : List UInt8} {x y : List UInt8} {ok : Bool} (hc : Lib.cut p [58] = (x, y, ok)) (h : parseB x = none ∨ ∀ n, Lib.parseUintB 16 y ≠ .ok n) : endO p = none := by
  unfold endO
  rw [hc]
  dsimp only
  rcases h with h | h
  · rw [h]
  · split
    · rename_i h1 h2; exact absurd h2 (h _)
    · rfl
theorem end_good {p : List UInt8} {x y : List UInt8} {ok : Bool} {a n : Nat} (hc : Lib.cut p [58] = (x, y, ok)) (h1 : parseB x = some a) (h2 : Lib.parseUintB 16 y = .ok n) : endO p = some (a, n) := by
  unfold endO
  rw [hc]
  dsimp only
  rw [h1, h2]
theorem hpO_bad1 {l p q r : List UInt8} (h : pieces 32 l = [p, q, r]) (hp : endO p = none) : hpO l = none := by rw [hpO_three h, hp]
theorem hpO_bad2 {l p q r : List UInt8} (h : pieces 32 l = [p, q, r]) (hp : endO q = none) : hpO l = none := by
  rw [hpO_three h, hp]
  split <;> simp_all
theorem hpO_bad3 {l p q r : List UInt8} (h : pieces 32 l = [p, q, r]) (hp : ∀ n, Lib.parseUintB 8 r ≠ .ok n) : hpO l = none := by
  rw [hpO_three h]
  split
  · rename_i h3; exact absurd h3 (hp _)
  · rfl
theorem hpO_good {l p q r : List UInt8} {a m b n k : Nat} (h : pieces 32 l = [p, q, r]) (h1 : endO p = some (a, m)) (h2 : endO q = some (b, n)) (h3 : Lib.parseUintB 8 r = .ok k) : hpO l = if (⟨a, b, k, m, n⟩ : Hd).textL = l then some ⟨a, b, k, m, n⟩ else none := by
  rw [hpO_three h, h1, h2, h3]
structure PaSt (L : List ByteArray) (gl gh : Nat) (h : Hd) (w W : World) : Prop where
  r : W.heap[w.heap.size]? = some (Hd.cells ⟨0, 0, 0, 0, 0⟩)
  l : W.heap[gl]? = some (.cells (L.map Value.string).toArray 9)
  b : W.heap[gh]? = some h.cells
  e : Env W
  n : Below w.heap.size w W
theorem PaSt.below {L : List ByteArray} {gl gh : Nat} {h : Hd} {w W W' : World} (H : PaSt L gl gh h w W) (hb : Below W.heap.size W W') : PaSt L gl gh h w W' :=
  ⟨blk_below hb H.r, blk_below hb H.l, blk_below hb H.b, H.e.below hb, below_call H.n hb⟩
theorem bytes_ne {a b : ByteArray} (h : ¬ a = b) : (a.toList == b.toList) = false := by
  rw [list_of, list_of]
  simpa using fun e : a.data = b.data => h (byte_ext (congrArg Array.toList e))
theorem uint16_yes (y : ByteArray) (hl : y.size < 4294967281) (u : Nat) (h : Lib.parseUintB 16 y.data.toList = .ok u) (w : World) :
    Calls Tryd.prog 64 #[.string y, .int .i64 10, .int .i64 16] w fun e w' => e = .returned (.tuple #[.int .u64 u, .nilIface]) ∧ Below w.heap.size w w' :=
  (Tryd.strconv_ParseUint_10_at16_ok y (by omega) u h w).mono fun _ _ hh => ⟨hh.1, below_of_atoi (t := 5) (hh.2.imp id fun e => ⟨_, e⟩)⟩
theorem uint16_no (y : ByteArray) (hl : y.size < 4294967281) (h : ∀ n, Lib.parseUintB 16 y.data.toList ≠ .ok n) (w : World) (hE : Env w) :
    Calls Tryd.prog 64 #[.string y, .int .i64 10, .int .i64 16] w fun e w' => (∃ (x : Int) (tq : TypeId) (vq : Value), e = .returned (.tuple #[.int .u64 x, .iface tq vq]) ∧ 0 ≤ x ∧ x < 65536) ∧ Below w.heap.size w w' := by
  cases hp : Lib.parseUintB 16 y.data.toList with
  | ok n => exact absurd hp (h n)
  | range =>
    obtain ⟨tp, p, hs⟩ := hE.ran
    refine (Tryd.strconv_ParseUint_10_at16_range y (by omega) hp _ w hs (Or.inr ⟨_, _, rfl⟩)).mono ?_
    rintro e w1 ⟨N, rfl, _, _, hb⟩
    exact ⟨⟨_, _, _, rfl, by omega, by omega⟩, hb⟩
  | _ =>
    obtain ⟨tp, p, hs⟩ := hE.syn
    refine (Tryd.strconv_ParseUint_10_at16_syntax y (by omega) hp _ w hs (Or.inr ⟨_, _, rfl⟩)).mono ?_
    rintro e w1 ⟨N, rfl, _, _, hb⟩
    exact ⟨⟨_, _, _, rfl, by omega, by omega⟩, hb⟩
theorem uint8_yes (y : ByteArray) (hl : y.size < 4294967281) (u : Nat) (h : Lib.parseUintB 8 y.data.toList = .ok u) (w : World) :
    Calls Tryd.prog 64 #[.string y, .int .i64 10, .int .i64 8] w fun e w' => e = .returned (.tuple #[.int .u64 u, .nilIface]) ∧ Below w.heap.size w w' :=
  (Tryd.strconv_ParseUint_10_at8_ok y (by omega) u h w).mono fun _ _ hh => ⟨hh.1, below_of_atoi (t := 5) (hh.2.imp id fun e => ⟨_, e⟩)⟩
theorem uint8_no (y : ByteArray) (hl : y.size < 4294967281) (h : ∀ n, Lib.parseUintB 8 y.data.toList ≠ .ok n) (w : World) (hE : Env w) :
    Calls Tryd.prog 64 #[.string y, .int .i64 10, .int .i64 8] w fun e w' => (∃ (x : Int) (tq : TypeId) (vq : Value), e = .returned (.tuple #[.int .u64 x, .iface tq vq]) ∧ 0 ≤ x ∧ x < 256) ∧ Below w.heap.size w w' := by
  cases hp : Lib.parseUintB 8 y.data.toList with
  | ok n => exact absurd hp (h n)
  | range =>
    obtain ⟨tp, p, hs⟩ := hE.ran
    refine (Tryd.strconv_ParseUint_10_at8_range y (by omega) hp _ w hs (Or.inr ⟨_, _, rfl⟩)).mono ?_
    rintro e w1 ⟨N, rfl, _, _, hb⟩
    exact ⟨⟨_, _, _, rfl, by omega, by omega⟩, hb⟩
  | _ =>
    obtain ⟨tp, p, hs⟩ := hE.syn
    refine (Tryd.strconv_ParseUint_10_at8_syntax y (by omega) hp _ w hs (Or.inr ⟨_, _, rfl⟩)).mono ?_
    rintro e w1 ⟨N, rfl, _, _, hb⟩
    exact ⟨⟨_, _, _, rfl, by omega, by omega⟩, hb⟩
set_option maxRecDepth 100000 in
set_option maxHeartbeats 4000000 in
theorem hdParse_any (s : ByteArray) (w : World) (hE : Env w) (hlim : s.size < 4294967281) :
    Calls Tryd.prog 29 #[.string s] w fun e w' => e = .returned (.tuple #[.agg #[.int .u32 (hpV s.data.toList).src, .int .u32 (hpV s.data.toList).dst, .int .u8 (hpV s.data.toList).proto, .int .u16 (hpV s.data.toList).sp, .int .u16 (hpV s.data.toList).dp], .int .i64 (hpE s.data.toList)]) ∧ Below w.heap.size w w' := by
  have hk0 := heap_alloc_new w (Hd.cells ⟨0, 0, 0, 0, 0⟩)
  have hb0 : Below w.heap.size w (w.alloc (Hd.cells ⟨0, 0, 0, 0, 0⟩)) := (Below.refl _ _).alloc (Nat.le_refl _) _
  have hE0 := hE.below hb0
  obtain ⟨m, hm⟩ := hE0.len
  have hP := splitB_pieces 32 s
  have hN := countB_pieces 32 s
  have hS := Tryd.strings_Split s ⟨#[32]⟩ m (w.alloc (Hd.cells ⟨0, 0, 0, 0, 0⟩)) hlim hm (by decide)
  have hl : (Lib.splitB ⟨#[32]⟩ 0 (Lib.countB s ⟨#[32]⟩) s).length = (pieces 32 s.data.toList).length := by rw [← hP, List.length_map]
  generalize hLL : Lib.splitB ⟨#[32]⟩ 0 (Lib.countB s ⟨#[32]⟩) s = L at hP hS hl
  generalize hNN : Lib.countB s ⟨#[32]⟩ + 1 = N at hN hS
  clear hLL hNN
  have HS := Lib.hid (show ∀ (k : Nat) (x : ByteArray), L[k]? = some x → x.size ≤ s.size from fun k x h => by
    have h1 : (pieces 32 s.data.toList)[k]? = some x.data.toList := by rw [← hP, List.getElem?_map, h]; rfl
    have h2 := pieces_len 32 _ _ (List.mem_of_getElem? h1)
    have e1 : s.size = s.data.size := rfl
    have e2 : x.size = x.data.size := rfl
    simp at h2
    omega)
  generalize hW : w.alloc (Hd.cells ⟨0, 0, 0, 0, 0⟩) = W at *
  have hW' : w.alloc (.cells #[.int .u32 0, .int .u32 0, .int .u8 0, .int .u16 0, .int .u16 0] 48) = W := hW
  have lt0 : w.heap.size < W.heap.size := lt_of_block hk0
  have hb1 : Below w.heap.size w (W.alloc (.cells (L.map Value.string).toArray 9)) := hb0.alloc hb0.size _
  have hE1 := hE.below hb1
  have hk1 := heap_alloc_new W (.cells (L.map Value.string).toArray 9)
  have hr1 := (Below.heap_alloc W (.cells (L.map Value.string).toArray 9) _ lt0).trans hk0
  by_cases h3 : N = 3
  · subst h3
    have hL3 := Lib.hid (show L.length = 3 by omega)
    go_enter Tryd.func29, Tryd.ntmps29
    go_wp2_with fail
    refine hS.mono ?_
    rintro e w1 ⟨rfl, rfl⟩
    generalize W.alloc (.cells (L.map Value.string).toArray 9) = W1 at *
    have hS0 : PaSt L W.heap.size W1.heap.size ⟨0, 0, 0, 0, 0⟩ w (W1.alloc (Hd.cells ⟨0, 0, 0, 0, 0⟩)) :=
      ⟨(Below.heap_alloc _ _ _ (lt_of_block hr1)).trans hr1, (Below.heap_alloc _ _ _ (lt_of_block hk1)).trans hk1, heap_alloc_new _ _, hE1.below ((Below.refl _ _).alloc (Nat.le_refl _) _), hb1.alloc hb1.size _⟩
    have n1 : w.heap.size ≠ W1.heap.size := Nat.ne_of_lt (lt_of_block hr1)
    have n2 : W.heap.size ≠ W1.heap.size := Nat.ne_of_lt (lt_of_block hk1)
    have n3 : w.heap.size < W1.heap.size := lt_of_block hr1
    generalize W.heap.size = gl at *
    have HS0 := Lib.hid hS0
    clear hS0 hr1 hk1 hk0 hE0 hE1 hm hb1 hb0 lt0
    obtain ⟨p, q, r, rfl⟩ : ∃ p q r, L = [p, q, r] := by
      match L, hL3.out with
      | [p, q, r], _ => exact ⟨p, q, r, rfl⟩
    have hpc := Lib.hid (show pieces 32 s.data.toList = [p.data.toList, q.data.toList, r.data.toList] from hP.symm)
    have zp := HS.out 0 p rfl
    have zq := HS.out 1 q rfl
    have zr := HS.out 2 r rfl
    clear hP hN hl hL3 HS hS
    go_wp2
    have hW5 : W1.alloc (.cells #[.int .u32 0, .int .u32 0, .int .u8 0, .int .u16 0, .int .u16 0] 48) = W1.alloc (Hd.cells ⟨0, 0, 0, 0, 0⟩) := rfl
    rw [hW5]
    clear hW5
    generalize W1.alloc (Hd.cells ⟨0, 0, 0, 0, 0⟩) = W5 at *
    change World at W1
    generalize W1.heap.size = gh at *
    go_loopw [22] (fun i wr => ∃ (k : Nat) (h : Hd), i = .int .i64 k ∧ k ≤ 2 ∧ Hid (PSt p.data.toList q.data.toList k h) ∧ Hid (PaSt [p, q, r] gl gh h w wr)) (fun i _ => 2 - (intOf i).toNat)
    case atStart => exact ⟨0, _, rfl, by omega, (rfl : PSt p.data.toList q.data.toList 0 ⟨0, 0, 0, 0, 0⟩), HS0⟩
    case round =>
      obtain ⟨k, h, rfl, hk, hPs, hSt⟩ := hrel
      clear HS0
      by_cases hlt : k < 2
      · have hI : (k : Int) < 2 := by omega
        rcases (show k = 0 ∨ k = 1 by omega) with rfl | rfl
        · have cl := cells_str hSt.out.l (k := 0) (x := p) rfl
          generalize hX : Lib.cut p.data.toList [58] = X
          obtain ⟨x, y, ok⟩ := X
          have hcut := Lib.hid hX
          have lx : x.length ≤ p.size := by have := cut_fst_len p.data.toList [58]; rw [hX] at this; exact this
          have ly : y.length ≤ p.size := by have := cut_snd_len p.data.toList [58]; rw [hX] at this; exact this
          have sx : (⟨x.toArray⟩ : ByteArray).size < 4294967281 := by show x.length < _; omega
          have sy : (⟨y.toArray⟩ : ByteArray).size < 4294967281 := by show y.length < _; omega
          obtain ⟨m, hm⟩ := hSt.out.e.len
          have hC := Tryd.strings_Cut p ⟨#[58]⟩ m wr (by omega) hm
          rw [show ({ data := #[58] } : ByteArray).data.toList = [58] from rfl, hX] at hC
          dsimp only at hC
          clear hX hm
          have HC := Lib.hid hC
          clear hC
          go_wp2_with fail
          refine HC.out.mono ?_
          rintro e w2 ⟨rfl, nq, rfl⟩
          have hS2 := Lib.hid (hSt.out.below (below_drewN (Below.refl _ _) nq))
          clear hSt cl HC
          generalize wr.drewN nq = W2 at *
          go_wp2_with fail
          refine (addrParse_any ⟨x.toArray⟩ W2 hS2.out.e sx).mono ?_
          rintro e w3 ⟨rfl, hb⟩
          have hS3 := Lib.hid (hS2.out.below hb)
          clear hS2 hb
          by_cases hu : ∃ n, Lib.parseUintB 16 y = .ok n
          · obtain ⟨n, hu⟩ := hu
            go_wp2_with fail
            refine (uint16_yes ⟨y.toArray⟩ sy n hu w3).mono ?_
            rintro e w4 ⟨rfl, hb⟩
            have hSt := Lib.hid (hS3.out.below hb)
            clear hS3 hb
            cases ha : parseB x with
            | none =>
              have e4 : adE (none : Option Nat) = 4 := rfl
              have hz := Lib.hid (hp_none (hpO_bad1 hpc.out (end_bad hcut.out (Or.inl ha))))
              obtain ⟨d0, d1, d2, d3, d4⟩ := hd_cell hSt.out.r
              have f1 := hd_frozen hSt.out.r
              go_wp2
              rw [hz.out.1, hz.out.2]
              have hbn := hSt.out.n
              exact bodyPost_ret (results_hd2 (t1 := 2) (t3 := 3) (g := w.heap.size) Tryd.results29 rfl rfl (hd_set4 (hd_set3 (hd_set2 (hd_set1 (hd_set0 hSt.out.r _) _) _) _) _)) rfl ⟨rfl, (((((hbn.setCell (p := ⟨w.heap.size, 0, none⟩) (by first | exact Nat.le_refl _ | exact Nat.le_succ _) _).setCell (p := ⟨w.heap.size, 1, none⟩) (by first | exact Nat.le_refl _ | exact Nat.le_succ _) _).setCell (p := ⟨w.heap.size, 2, none⟩) (by first | exact Nat.le_refl _ | exact Nat.le_succ _) _).setCell (p := ⟨w.heap.size, 3, none⟩) (by first | exact Nat.le_refl _ | exact Nat.le_succ _) _).setCell (p := ⟨w.heap.size, 4, none⟩) (by first | exact Nat.le_refl _ | exact Nat.le_succ _) _)⟩
            | some a =>
              have e4 : adE (some a) = 0 := rfl
              have e5 : adV (some a) = (a : Int) := rfl
              have hal := parseB_lt ha
              have hnl := uint16_le hu
              have hO := Lib.hid (end_good hcut.out ha hu)
              have w1 : IntKind.u16.wrap (n : Int) = n := wrap16_s _ (by omega) (by omega)
              have w2 : (n : Int) % 65536 = n := by omega
              have hc := hd_cell hSt.out.b
              have hf := hd_frozen hSt.out.b
              have hPn : Hid (PSt p.data.toList q.data.toList 1 { h with src := a, sp := n }) := by
                have e := hPs.out
                simp only [PSt] at e
                subst e
                exact ⟨a, n, hO.out, rfl⟩
              have hSn : Hid (PaSt [p, q, r] gl gh { h with src := a, sp := n } w ((w4.setCell ⟨gh, 0, none⟩ (.int .u32 a)).setCell ⟨gh, 3, none⟩ (.int .u16 n))) := by
                have H := hSt.out
                have hbn : Below w.heap.size w ((w4.setCell ⟨gh, 0, none⟩ (.int .u32 a)).setCell ⟨gh, 3, none⟩ (.int .u16 n)) := (H.n.setCell (p := ⟨gh, 0, none⟩) (by show w.heap.size ≤ gh; omega) _).setCell (p := ⟨gh, 3, none⟩) (by show w.heap.size ≤ gh; omega) _
                exact ⟨(set_heap _ _ _ _ _ n1).trans ((set_heap _ _ _ _ _ n1).trans H.r), (set_heap _ _ _ _ _ n2).trans ((set_heap _ _ _ _ _ n2).trans H.l), hd_set3 (hd_set0 H.b _) _, hE.below hbn, hbn⟩
              obtain ⟨c0, c1, c2, c3, c4⟩ := hc
              clear hSt hPs hcut ha hu
              go_wp2
              exact ⟨⟨1, _, rfl, by omega, hPn, hSn⟩, by simp only [intOf]; omega⟩
          · have hu' : ∀ n, Lib.parseUintB 16 (⟨y.toArray⟩ : ByteArray).data.toList ≠ .ok n := fun n e => hu ⟨n, e⟩
            go_wp2_with fail
            refine (uint16_no ⟨y.toArray⟩ sy hu' w3 hS3.out.e).mono ?_
            rintro e w4 ⟨⟨xv, tq, vq, rfl, g0, g1⟩, hb⟩
            have hSt := Lib.hid (hS3.out.below hb)
            clear hS3 hb
            cases ha : parseB x with
            | none =>
              have e4 : adE (none : Option Nat) = 4 := rfl
              have hz := Lib.hid (hp_none (hpO_bad1 hpc.out (end_bad hcut.out (Or.inl ha))))
              obtain ⟨d0, d1, d2, d3, d4⟩ := hd_cell hSt.out.r
              have f1 := hd_frozen hSt.out.r
              go_wp2
              rw [hz.out.1, hz.out.2]
              have hbn := hSt.out.n
              exact bodyPost_ret (results_hd2 (t1 := 2) (t3 := 3) (g := w.heap.size) Tryd.results29 rfl rfl (hd_set4 (hd_set3 (hd_set2 (hd_set1 (hd_set0 hSt.out.r _) _) _) _) _)) rfl ⟨rfl, (((((hbn.setCell (p := ⟨w.heap.size, 0, none⟩) (by first | exact Nat.le_refl _ | exact Nat.le_succ _) _).setCell (p := ⟨w.heap.size, 1, none⟩) (by first | exact Nat.le_refl _ | exact Nat.le_succ _) _).setCell (p := ⟨w.heap.size, 2, none⟩) (by first | exact Nat.le_refl _ | exact Nat.le_succ _) _).setCell (p := ⟨w.heap.size, 3, none⟩) (by first | exact Nat.le_refl _ | exact Nat.le_succ _) _).setCell (p := ⟨w.heap.size, 4, none⟩) (by first | exact Nat.le_refl _ | exact Nat.le_succ _) _)⟩
            | some a =>
              have e4 : adE (some a) = 0 := rfl
              have e5 : adV (some a) = (a : Int) := rfl
              have hz := Lib.hid (hp_none (hpO_bad1 hpc.out (end_bad hcut.out (Or.inr hu'))))
              obtain ⟨d0, d1, d2, d3, d4⟩ := hd_cell hSt.out.r
              have f1 := hd_frozen hSt.out.r
              go_wp2
              rw [hz.out.1, hz.out.2]
              have hbn := hSt.out.n
              exact bodyPost_ret (results_hd2 (t1 := 2) (t3 := 3) (g := w.heap.size) Tryd.results29 rfl rfl (hd_set4 (hd_set3 (hd_set2 (hd_set1 (hd_set0 hSt.out.r _) _) _) _) _)) rfl ⟨rfl, (((((hbn.setCell (p := ⟨w.heap.size, 0, none⟩) (by first | exact Nat.le_refl _ | exact Nat.le_succ _) _).setCell (p := ⟨w.heap.size, 1, none⟩) (by first | exact Nat.le_refl _ | exact Nat.le_succ _) _).setCell (p := ⟨w.heap.size, 2, none⟩) (by first | exact Nat.le_refl _ | exact Nat.le_succ _) _).setCell (p := ⟨w.heap.size, 3, none⟩) (by first | exact Nat.le_refl _ | exact Nat.le_succ _) _).setCell (p := ⟨w.heap.size, 4, none⟩) (by first | exact Nat.le_refl _ | exact Nat.le_succ _) _)⟩
        · have cl := cells_str hSt.out.l (k := 1) (x := q) rfl
          generalize hX : Lib.cut q.data.toList [58] = X
          obtain ⟨x, y, ok⟩ := X
          have hcut := Lib.hid hX
          have lx : x.length ≤ q.size := by have := cut_fst_len q.data.toList [58]; rw [hX] at this; exact this
          have ly : y.length ≤ q.size := by have := cut_snd_len q.data.toList [58]; rw [hX] at this; exact this
          have sx : (⟨x.toArray⟩ : ByteArray).size < 4294967281 := by show x.length < _; omega
          have sy : (⟨y.toArray⟩ : ByteArray).size < 4294967281 := by show y.length < _; omega
          obtain ⟨m, hm⟩ := hSt.out.e.len
          have hC := Tryd.strings_Cut q ⟨#[58]⟩ m wr (by omega) hm
          rw [show ({ data := #[58] } : ByteArray).data.toList = [58] from rfl, hX] at hC
          dsimp only at hC
          clear hX hm
          have HC := Lib.hid hC
          clear hC
          go_wp2_with fail
          refine HC.out.mono ?_
          rintro e w2 ⟨rfl, nq, rfl⟩
          have hS2 := Lib.hid (hSt.out.below (below_drewN (Below.refl _ _) nq))
          clear hSt cl HC
          generalize wr.drewN nq = W2 at *
          go_wp2_with fail
          refine (addrParse_any ⟨x.toArray⟩ W2 hS2.out.e sx).mono ?_
          rintro e w3 ⟨rfl, hb⟩
          have hS3 := Lib.hid (hS2.out.below hb)
          clear hS2 hb
          by_cases hu : ∃ n, Lib.parseUintB 16 y = .ok n
          · obtain ⟨n, hu⟩ := hu
            go_wp2_with fail
            refine (uint16_yes ⟨y.toArray⟩ sy n hu w3).mono ?_
            rintro e w4 ⟨rfl, hb⟩
            have hSt := Lib.hid (hS3.out.below hb)
            clear hS3 hb
            cases ha : parseB x with
            | none =>
              have e4 : adE (none : Option Nat) = 4 := rfl
              have hz := Lib.hid (hp_none (hpO_bad2 hpc.out (end_bad hcut.out (Or.inl ha))))
              obtain ⟨d0, d1, d2, d3, d4⟩ := hd_cell hSt.out.r
              have f1 := hd_frozen hSt.out.r
              go_wp2
              rw [hz.out.1, hz.out.2]
              have hbn := hSt.out.n
              exact bodyPost_ret (results_hd2 (t1 := 2) (t3 := 3) (g := w.heap.size) Tryd.results29 rfl rfl (hd_set4 (hd_set3 (hd_set2 (hd_set1 (hd_set0 hSt.out.r _) _) _) _) _)) rfl ⟨rfl, (((((hbn.setCell (p := ⟨w.heap.size, 0, none⟩) (by first | exact Nat.le_refl _ | exact Nat.le_succ _) _).setCell (p := ⟨w.heap.size, 1, none⟩) (by first | exact Nat.le_refl _ | exact Nat.le_succ _) _).setCell (p := ⟨w.heap.size, 2, none⟩) (by first | exact Nat.le_refl _ | exact Nat.le_succ _) _).setCell (p := ⟨w.heap.size, 3, none⟩) (by first | exact Nat.le_refl _ | exact Nat.le_succ _) _).setCell (p := ⟨w.heap.size, 4, none⟩) (by first | exact Nat.le_refl _ | exact Nat.le_succ _) _)⟩
            | some a =>
              have e4 : adE (some a) = 0 := rfl
              have e5 : adV (some a) = (a : Int) := rfl
              have hal := parseB_lt ha
              have hnl := uint16_le hu
              have hO := Lib.hid (end_good hcut.out ha hu)
              have w1 : IntKind.u16.wrap (n : Int) = n := wrap16_s _ (by omega) (by omega)
              have w2 : (n : Int) % 65536 = n := by omega
              have hc := hd_cell hSt.out.b
              have hf := hd_frozen hSt.out.b
              have hPn : Hid (PSt p.data.toList q.data.toList 2 { h with dst := a, dp := n }) := by
                obtain ⟨a0, m0, e0, e⟩ := hPs.out
                subst e
                exact ⟨a0, m0, a, n, e0, hO.out, rfl⟩
              have hSn : Hid (PaSt [p, q, r] gl gh { h with dst := a, dp := n } w ((w4.setCell ⟨gh, 1, none⟩ (.int .u32 a)).setCell ⟨gh, 4, none⟩ (.int .u16 n))) := by
                have H := hSt.out
                have hbn : Below w.heap.size w ((w4.setCell ⟨gh, 1, none⟩ (.int .u32 a)).setCell ⟨gh, 4, none⟩ (.int .u16 n)) := (H.n.setCell (p := ⟨gh, 1, none⟩) (by show w.heap.size ≤ gh; omega) _).setCell (p := ⟨gh, 4, none⟩) (by show w.heap.size ≤ gh; omega) _
                exact ⟨(set_heap _ _ _ _ _ n1).trans ((set_heap _ _ _ _ _ n1).trans H.r), (set_heap _ _ _ _ _ n2).trans ((set_heap _ _ _ _ _ n2).trans H.l), hd_set4 (hd_set1 H.b _) _, hE.below hbn, hbn⟩
              obtain ⟨c0, c1, c2, c3, c4⟩ := hc
              clear hSt hPs hcut ha hu
              go_wp2
              exact ⟨⟨2, _, rfl, by omega, hPn, hSn⟩, by simp only [intOf]; omega⟩
          · have hu' : ∀ n, Lib.parseUintB 16 (⟨y.toArray⟩ : ByteArray).data.toList ≠ .ok n := fun n e => hu ⟨n, e⟩
            go_wp2_with fail
            refine (uint16_no ⟨y.toArray⟩ sy hu' w3 hS3.out.e).mono ?_
            rintro e w4 ⟨⟨xv, tq, vq, rfl, g0, g1⟩, hb⟩
            have hSt := Lib.hid (hS3.out.below hb)
            clear hS3 hb
            cases ha : parseB x with
            | none =>
              have e4 : adE (none : Option Nat) = 4 := rfl
              have hz := Lib.hid (hp_none (hpO_bad2 hpc.out (end_bad hcut.out (Or.inl ha))))
              obtain ⟨d0, d1, d2, d3, d4⟩ := hd_cell hSt.out.r
              have f1 := hd_frozen hSt.out.r
              go_wp2
              rw [hz.out.1, hz.out.2]
              have hbn := hSt.out.n
              exact bodyPost_ret (results_hd2 (t1 := 2) (t3 := 3) (g := w.heap.size) Tryd.results29 rfl rfl (hd_set4 (hd_set3 (hd_set2 (hd_set1 (hd_set0 hSt.out.r _) _) _) _) _)) rfl ⟨rfl, (((((hbn.setCell (p := ⟨w.heap.size, 0, none⟩) (by first | exact Nat.le_refl _ | exact Nat.le_succ _) _).setCell (p := ⟨w.heap.size, 1, none⟩) (by first | exact Nat.le_refl _ | exact Nat.le_succ _) _).setCell (p := ⟨w.heap.size, 2, none⟩) (by first | exact Nat.le_refl _ | exact Nat.le_succ _) _).setCell (p := ⟨w.heap.size, 3, none⟩) (by first | exact Nat.le_refl _ | exact Nat.le_succ _) _).setCell (p := ⟨w.heap.size, 4, none⟩) (by first | exact Nat.le_refl _ | exact Nat.le_succ _) _)⟩
            | some a =>
              have e4 : adE (some a) = 0 := rfl
              have e5 : adV (some a) = (a : Int) := rfl
              have hz := Lib.hid (hp_none (hpO_bad2 hpc.out (end_bad hcut.out (Or.inr hu'))))
              obtain ⟨d0, d1, d2, d3, d4⟩ := hd_cell hSt.out.r
              have f1 := hd_frozen hSt.out.r
              go_wp2
              rw [hz.out.1, hz.out.2]
              have hbn := hSt.out.n
              exact bodyPost_ret (results_hd2 (t1 := 2) (t3 := 3) (g := w.heap.size) Tryd.results29 rfl rfl (hd_set4 (hd_set3 (hd_set2 (hd_set1 (hd_set0 hSt.out.r _) _) _) _) _)) rfl ⟨rfl, (((((hbn.setCell (p := ⟨w.heap.size, 0, none⟩) (by first | exact Nat.le_refl _ | exact Nat.le_succ _) _).setCell (p := ⟨w.heap.size, 1, none⟩) (by first | exact Nat.le_refl _ | exact Nat.le_succ _) _).setCell (p := ⟨w.heap.size, 2, none⟩) (by first | exact Nat.le_refl _ | exact Nat.le_succ _) _).setCell (p := ⟨w.heap.size, 3, none⟩) (by first | exact Nat.le_refl _ | exact Nat.le_succ _) _).setCell (p := ⟨w.heap.size, 4, none⟩) (by first | exact Nat.le_refl _ | exact Nat.le_succ _) _)⟩
      · obtain rfl : k = 2 := by omega
        obtain ⟨a0, m0, b0, n0, g1, g2, rfl⟩ := hPs.out
        have la := endO_lt g1
        have lb := endO_lt g2
        have G1 := Lib.hid g1
        have G2 := Lib.hid g2
        have cl := cells_str hSt.out.l (k := 2) (x := r) rfl
        clear g1 g2 hPs
        by_cases hu : ∃ k, Lib.parseUintB 8 r.data.toList = .ok k
        · obtain ⟨kk, hu⟩ := hu
          have hkl := uint8_le hu
          have hG := Lib.hid (hpO_good hpc.out G1.out G2.out hu)
          go_wp2_with fail
          refine (uint8_yes r (by omega) kk hu wr).mono ?_
          rintro e w5 ⟨rfl, hb⟩
          have hS5 := Lib.hid (hSt.out.below hb)
          clear hSt hb cl hu
          have w1 : IntKind.u8.wrap (kk : Int) = kk := by rw [u8_wrap]; omega
          have w2 : (kk : Int) % 256 = kk := by omega
          have hSn : Hid (PaSt [p, q, r] gl gh ⟨a0, b0, kk, m0, n0⟩ w (w5.setCell ⟨gh, 2, none⟩ (.int .u8 kk))) := by
            have H := hS5.out
            have hbn : Below w.heap.size w (w5.setCell ⟨gh, 2, none⟩ (.int .u8 kk)) := H.n.setCell (p := ⟨gh, 2, none⟩) (by show w.heap.size ≤ gh; omega) _
            exact ⟨(set_heap _ _ _ _ _ n1).trans H.r, (set_heap _ _ _ _ _ n2).trans H.l, hd_set2 H.b _, hE.below hbn, hbn⟩
          obtain ⟨c0, c1, c2, c3, c4⟩ := hd_cell hS5.out.b
          have hf := hd_frozen hS5.out.b
          obtain ⟨d0, d1, d2, d3, d4⟩ := hd_cell hS5.out.r
          have f1 := hd_frozen hS5.out.r
          clear hS5
          have hok : (⟨a0, b0, kk, m0, n0⟩ : Hd).ok := ⟨by simp only; omega, by simp only; omega, by simp only; omega, by simp only; omega, by simp only; omega, by simp only; omega, by simp only; omega, by simp only; omega, by simp only; omega, by simp only; omega⟩
          have hT := Lib.hid (fun (v : World) (hv : Env v) => hdText_any ⟨a0, b0, kk, m0, n0⟩ hok v hv)
          dsimp only at c0 c1 c2 c3 c4 hT
          clear hok
          go_wp2_with fail
          refine (hT.out _ hSn.out.e).mono ?_
          rintro e w6 ⟨rfl, hb⟩
          have hS6 := Lib.hid (hSn.out.below hb)
          clear hSn hb hT c0 c1 c2 c3 c4 hf d0 d1 d2 d3 d4 f1
          obtain ⟨c0, c1, c2, c3, c4⟩ := hd_cell hS6.out.b
          have hf := hd_frozen hS6.out.b
          obtain ⟨d0, d1, d2, d3, d4⟩ := hd_cell hS6.out.r
          have f1 := hd_frozen hS6.out.r
          dsimp only at c0 c1 c2 c3 c4
          by_cases hts : (⟨a0, b0, kk, m0, n0⟩ : Hd).text = s
          · have hz := Lib.hid (hp_some (l := s.data.toList) (x := ⟨a0, b0, kk, m0, n0⟩) (by rw [hG.out, if_pos (by rw [← hts]; rfl)]))
            rw [hts]
            clear hts
            go_wp2
            rw [hz.out.1, hz.out.2]
            have hbn := hS6.out.n
            exact bodyPost_ret (results_hd2 (t1 := 2) (t3 := 3) (g := w.heap.size) Tryd.results29 rfl rfl (hd_set4 (hd_set3 (hd_set2 (hd_set1 (hd_set0 hS6.out.r _) _) _) _) _)) rfl ⟨rfl, (((((hbn.setCell (p := ⟨w.heap.size, 0, none⟩) (by first | exact Nat.le_refl _ | exact Nat.le_succ _) _).setCell (p := ⟨w.heap.size, 1, none⟩) (by first | exact Nat.le_refl _ | exact Nat.le_succ _) _).setCell (p := ⟨w.heap.size, 2, none⟩) (by first | exact Nat.le_refl _ | exact Nat.le_succ _) _).setCell (p := ⟨w.heap.size, 3, none⟩) (by first | exact Nat.le_refl _ | exact Nat.le_succ _) _).setCell (p := ⟨w.heap.size, 4, none⟩) (by first | exact Nat.le_refl _ | exact Nat.le_succ _) _)⟩
          · have hz := Lib.hid (hp_none (l := s.data.toList) (by rw [hG.out, if_neg (show ¬ (⟨a0, b0, kk, m0, n0⟩ : Hd).textL = s.data.toList from fun e => hts (byte_ext e))]))
            generalize (⟨a0, b0, kk, m0, n0⟩ : Hd).text = T at *
            have hq3 : (T.toList == s.toList) = false := bytes_ne hts
            go_wp2
            rw [hz.out.1, hz.out.2]
            have hbn := hS6.out.n
            exact bodyPost_ret (results_hd2 (t1 := 2) (t3 := 3) (g := w.heap.size) Tryd.results29 rfl rfl (hd_set4 (hd_set3 (hd_set2 (hd_set1 (hd_set0 hS6.out.r _) _) _) _) _)) rfl ⟨rfl, (((((hbn.setCell (p := ⟨w.heap.size, 0, none⟩) (by first | exact Nat.le_refl _ | exact Nat.le_succ _) _).setCell (p := ⟨w.heap.size, 1, none⟩) (by first | exact Nat.le_refl _ | exact Nat.le_succ _) _).setCell (p := ⟨w.heap.size, 2, none⟩) (by first | exact Nat.le_refl _ | exact Nat.le_succ _) _).setCell (p := ⟨w.heap.size, 3, none⟩) (by first | exact Nat.le_refl _ | exact Nat.le_succ _) _).setCell (p := ⟨w.heap.size, 4, none⟩) (by first | exact Nat.le_refl _ | exact Nat.le_succ _) _)⟩
        · have hu' : ∀ k, Lib.parseUintB 8 r.data.toList ≠ .ok k := fun k e => hu ⟨k, e⟩
          go_wp2_with fail
          refine (uint8_no r (by omega) hu' wr hSt.out.e).mono ?_
          rintro e w5 ⟨⟨xv, tq, vq, rfl, g0, g1⟩, hb⟩
          have hS5 := Lib.hid (hSt.out.below hb)
          clear hSt hb cl
          have w1 : IntKind.u8.wrap xv = xv := by rw [u8_wrap]; omega
          have w2 : xv % 256 = xv := by omega
          have hSn : Hid (PaSt [p, q, r] gl gh ⟨a0, b0, xv, m0, n0⟩ w (w5.setCell ⟨gh, 2, none⟩ (.int .u8 xv))) := by
            have H := hS5.out
            have hbn : Below w.heap.size w (w5.setCell ⟨gh, 2, none⟩ (.int .u8 xv)) := H.n.setCell (p := ⟨gh, 2, none⟩) (by show w.heap.size ≤ gh; omega) _
            exact ⟨(set_heap _ _ _ _ _ n1).trans H.r, (set_heap _ _ _ _ _ n2).trans H.l, hd_set2 H.b _, hE.below hbn, hbn⟩
          obtain ⟨c0, c1, c2, c3, c4⟩ := hd_cell hS5.out.b
          have hf := hd_frozen hS5.out.b
          obtain ⟨d0, d1, d2, d3, d4⟩ := hd_cell hS5.out.r
          have f1 := hd_frozen hS5.out.r
          have hz := Lib.hid (hp_none (hpO_bad3 hpc.out hu'))
          clear hS5 hu hu'
          dsimp only at c0 c1 c2 c3 c4
          go_wp2
          rw [hz.out.1, hz.out.2]
          have hbn := hSn.out.n
          exact bodyPost_ret (results_hd2 (t1 := 2) (t3 := 3) (g := w.heap.size) Tryd.results29 rfl rfl (hd_set4 (hd_set3 (hd_set2 (hd_set1 (hd_set0 hSn.out.r _) _) _) _) _)) rfl ⟨rfl, (((((hbn.setCell (p := ⟨w.heap.size, 0, none⟩) (by first | exact Nat.le_refl _ | exact Nat.le_succ _) _).setCell (p := ⟨w.heap.size, 1, none⟩) (by first | exact Nat.le_refl _ | exact Nat.le_succ _) _).setCell (p := ⟨w.heap.size, 2, none⟩) (by first | exact Nat.le_refl _ | exact Nat.le_succ _) _).setCell (p := ⟨w.heap.size, 3, none⟩) (by first | exact Nat.le_refl _ | exact Nat.le_succ _) _).setCell (p := ⟨w.heap.size, 4, none⟩) (by first | exact Nat.le_refl _ | exact Nat.le_succ _) _)⟩
  · have hz := Lib.hid (hp_none (hpO_not (l := s.data.toList) (by omega)))
    have hd : ((N : Int) != 3) = true := by simp; omega
    clear hP hN hl
    go_enter Tryd.func29, Tryd.ntmps29
    go_wp2_with fail
    refine hS.mono ?_
    rintro e w1 ⟨rfl, rfl⟩
    generalize W.alloc (.cells (L.map Value.string).toArray 9) = W1 at *
    obtain ⟨d0, d1, d2, d3, d4⟩ := hd_cell hr1
    have f1 := hd_frozen hr1
    have K1 := Lib.hid hr1
    clear hr1 hk0 hk1 hE1 hE0 hm hE
    go_wp2
    rw [hz.out.1, hz.out.2]
    exact bodyPost_ret (results_hd2 (t1 := 2) (t3 := 3) (g := w.heap.size) Tryd.results29 rfl rfl (hd_set4 (hd_set3 (hd_set2 (hd_set1 (hd_set0 K1.out _) _) _) _) _)) rfl ⟨rfl, (((((hb1.setCell (p := ⟨w.heap.size, 0, none⟩) (by first | exact Nat.le_refl _ | exact Nat.le_succ _) _).setCell (p := ⟨w.heap.size, 1, none⟩) (by first | exact Nat.le_refl _ | exact Nat.le_succ _) _).setCell (p := ⟨w.heap.size, 2, none⟩) (by first | exact Nat.le_refl _ | exact Nat.le_succ _) _).setCell (p := ⟨w.heap.size, 3, none⟩) (by first | exact Nat.le_refl _ | exact Nat.le_succ _) _).setCell (p := ⟨w.heap.size, 4, none⟩) (by first | exact Nat.le_refl _ | exact Nat.le_succ _) _)⟩
end Go.Proofs.YtdlhpiknifcehaaDoor

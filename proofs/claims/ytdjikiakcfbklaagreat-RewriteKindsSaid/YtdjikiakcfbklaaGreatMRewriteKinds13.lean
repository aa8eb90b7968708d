/-
  Joined texts: CovMath, Ad6, Hd1, Hd2, Re2, Re3, Re4, RwK2, Rw12, Rw12b, Rw13, Rw14, LawRwK, OpenS2.
-/
import Derived.Test.YtdjikiakcfbklaaGreatMRewriteKinds12
import Derived.Deep.DeepCutAuto
import Derived.Deep.RegionHeld3
import Derived.StillTailTactics
import Derived.Test.YtdjikiakcfbklaaGreatMRewriteKinds8
import Derived.Laws.ResultCell
import Derived.Laws.Rows
import Derived.Test.YtdjikiakcfbklaaGreatMRewriteKinds6
import Derived.Test.YtdjikiakcfbklaaGreatMRewriteKinds9
import Derived.SizedLaws
/-
  The addresses between two, cut: as few prefixes as can be, each address in just one; plain laws, no program in sight.
-/
namespace Go.Proofs.YtdjikiakcfbklaaGreat
open Go Go.RowKit Go.Sort

theorem pick_max (a e : Int) : ∀ (k j : Nat), j ≤ k → a % p2 j = 0 → a + p2 j ≤ e → j ≤ pick a e k
  | 0, j, h, _, _ => by omega
  | k + 1, j, h, h1, h2 => by
    unfold pick
    split
    · exact h
    · rename_i hn
      rcases (show j = k + 1 ∨ j ≤ k by omega) with rfl | hj
      · exact absurd ⟨h1, h2⟩ hn
      · exact pick_max a e k j hj h1 h2
theorem sz_pick (k : Nat) (h : k ≤ 32) : sz (32 - (k : Int)) = p2 k := by unfold sz; congr 1; omega
theorem p2_dvd {j k : Nat} (h : j ≤ k) : p2 j ∣ p2 k := by
  refine ⟨p2 (k - j), ?_⟩
  unfold p2
  rw [← Int.pow_add]; congr 1; omega
theorem mod_up {a : Int} {j k : Nat} (h : j ≤ k) (ha : a % p2 k = 0) : a % p2 j = 0 := by
  have := Int.emod_emod_of_dvd a (p2_dvd h)
  rw [ha] at this
  simpa using this.symm
theorem mod_add {a : Int} {k : Nat} (ha : a % p2 k = 0) : (a + p2 k) % p2 k = 0 := by rw [Int.add_emod, ha, Int.emod_self]; rfl
/-- Two multiples together: the next one. -/
theorem mod_next {a : Int} {k : Nat} (ha : a % p2 k = 0) (h : ¬ a % p2 (k + 1) = 0) : (a + p2 k) % p2 (k + 1) = 0 := by
  have hp := p2_pos k
  have hs := p2_succ k
  have e := Int.emod_emod_of_dvd a (p2_dvd (Nat.le_succ k))
  rw [ha] at e
  have b1 := Int.emod_nonneg a (show p2 (k + 1) ≠ 0 by omega)
  have b2 := Int.emod_lt_of_pos a (show 0 < p2 (k + 1) by omega)
  have b3 : a % p2 (k + 1) = p2 k := by
    have e2 := Int.mul_ediv_add_emod (a % p2 (k + 1)) (p2 k)
    rw [e] at e2
    have q0 : a % p2 (k + 1) / p2 k < 2 := Int.ediv_lt_of_lt_mul (by omega) (by omega)
    have q1 : 0 ≤ a % p2 (k + 1) / p2 k := Int.ediv_nonneg b1 (by omega)
    rcases (show a % p2 (k + 1) / p2 k = 0 ∨ a % p2 (k + 1) / p2 k = 1 by omega) with h0 | h0
    · rw [h0] at e2; omega
    · rw [h0] at e2; omega
  have e4 : p2 k % p2 (k + 1) = p2 k := Int.emod_eq_of_lt (by omega) (by omega)
  rw [Int.add_emod, b3, e4, show p2 k + p2 k = p2 (k + 1) by omega, Int.emod_self]
/-- Behind the turn the pieces grow smaller. -/
theorem cut_down (e : Int) : ∀ (j f : Nat) (a : Int), j ≤ 32 → a % p2 j = 0 → e - a < p2 j → (cutL e f a).length ≤ j
  | j, 0, a, _, _, _ => by unfold cutL; simp
  | j, f + 1, a, hj, ha, he => by
    by_cases h : e ≤ a
    · rw [cutL_done e a (f + 1) h]; simp
    · rw [cutL_step e a f (by omega), List.length_cons]
      obtain ⟨o1, o2⟩ := pick_ok a e 32 (by omega)
      have hk : pick a e 32 < j := by
        rcases (show pick a e 32 < j ∨ j ≤ pick a e 32 by omega) with h1 | h1
        · exact h1
        · have := p2_mono h1; omega
      have hm := fun h1 h2 => pick_max a e 32 (pick a e 32 + 1) (by omega) h1 h2
      have h1 : a % p2 (pick a e 32 + 1) = 0 := mod_up (by omega) ha
      have h2 : ¬ a + p2 (pick a e 32 + 1) ≤ e := fun h2 => by have := hm h1 h2; omega
      have hs := p2_succ (pick a e 32)
      have := cut_down e (pick a e 32) f (a + p2 (pick a e 32)) (by omega) (mod_add o1) (by omega)
      omega
/-- Ahead of it they grow. -/
theorem cut_up (e : Int) (he : e ≤ 4294967296) : ∀ (f j : Nat) (a : Int), j ≤ 31 → 0 < a → a % p2 j = 0 → (cutL e f a).length ≤ 62 - j
  | 0, j, a, _, _, _ => by unfold cutL; simp
  | f + 1, j, a, hj, h0, ha => by
    by_cases h : e ≤ a
    · rw [cutL_done e a (f + 1) h]; simp
    · by_cases hfit : a + p2 j ≤ e
      · rw [cutL_step e a f (by omega), List.length_cons]
        obtain ⟨o1, o2⟩ := pick_ok a e 32 (by omega)
        have hjk := pick_max a e 32 j (by omega) ha hfit
        have hle := pick_le a e 32
        generalize hk : pick a e 32 = k at *
        have hs := p2_succ k
        have hge : p2 k ≤ a := Int.le_of_dvd h0 (Int.dvd_of_emod_eq_zero o1)
        have hk31 : k ≤ 31 := by
          rcases (show k ≤ 31 ∨ k = 32 by omega) with h1 | rfl
          · exact h1
          · rw [p2_32] at hge; omega
        by_cases h31 : k = 31
        · subst h31
          have e31 : p2 31 = 2147483648 := by decide
          rw [cutL_done e _ f (by omega)]
          simp; omega
        · by_cases hal : a % p2 (k + 1) = 0
          · have h2 : ¬ a + p2 (k + 1) ≤ e := fun h2 => by have := pick_max a e 32 (k + 1) (by omega) hal h2; omega
            have := cut_down e k f (a + p2 k) (by omega) (mod_add o1) (by omega)
            omega
          · have := cut_up e he f (k + 1) (a + p2 k) (by omega) (by have := p2_pos k; omega) (mod_next o1 hal)
            omega
      · have := cut_down e j (f + 1) a (by omega) ha (by omega)
        omega
theorem cut_most (e : Int) (he : e ≤ 4294967296) (f : Nat) (a : Int) (h0 : 0 ≤ a) : (cutL e f a).length ≤ 62 := by
  rcases (show a = 0 ∨ 0 < a by omega) with rfl | h1
  · rcases (show e < 4294967296 ∨ e = 4294967296 by omega) with h2 | rfl
    · have := cut_down e 32 f 0 (by omega) (by simp) (by rw [p2_32]; omega)
      omega
    · cases f with
      | zero => unfold cutL; simp
      | succ f =>
        have hp : pick 0 4294967296 32 = 32 := pick_hit 0 4294967296 32 (by simp) (by rw [p2_32]; omega)
        rw [cutL_step _ _ f (by omega), hp, cutL_done _ _ f (by rw [p2_32]; omega)]
        simp
  · exact cut_up e he f 0 a (by omega) h1 (by rw [p2_zero]; omega)
/-- How many of the prefixes an address is in. -/
def cntIn (y : Int) (L : List (Int × Int)) : Nat := (L.filter fun p => inB y p.1 p.2).length
theorem chk_pick (a e : Int) (h : a < e) : chk a (32 - (pick a e 32 : Int)) = 0 := by
  have hk := pick_le a e 32
  exact chk_zero _ _ (by omega) (by omega) (by rw [sz_pick _ hk]; exact (pick_ok a e 32 h).1)
theorem cut_once (e y : Int) : ∀ (f : Nat) (a : Int), e - a ≤ f → cntIn y (cutL e f a) = if a ≤ y ∧ y < e then 1 else 0
  | 0, a, hf => by
    rw [cutL_done e a 0 (by omega), if_neg (by omega)]; rfl
  | f + 1, a, hf => by
    by_cases h : e ≤ a
    · rw [cutL_done e a (f + 1) h, if_neg (by omega)]; rfl
    · have hk := pick_le a e 32
      have hp := p2_pos (pick a e 32)
      have ho := (pick_ok a e 32 (by omega)).2
      have ih := cut_once e y f (a + p2 (pick a e 32)) (by omega)
      rw [cutL_step e a f (by omega)]
      unfold cntIn at ih ⊢
      rw [List.filter_cons]
      have hc := chk_pick a e (by omega)
      have hi : inB y a (32 - (pick a e 32 : Int)) = decide (a ≤ y ∧ y < a + p2 (pick a e 32)) := by
        unfold inB; rw [sz_pick _ hk, hc]; simp
      simp only [hi]
      by_cases h1 : a ≤ y ∧ y < a + p2 (pick a e 32)
      · rw [if_pos (by simpa using h1), List.length_cons, ih, if_neg (by omega), if_pos (by omega)]
      · rw [if_neg (by simpa using h1), ih]
        by_cases h2 : a + p2 (pick a e 32) ≤ y ∧ y < e
        · rw [if_pos h2, if_pos (by omega)]
        · rw [if_neg h2, if_neg (by omega)]
/-- What is between one piece and the next. -/
def Next (p q : Int × Int) : Prop := q.1 = p.1 + sz p.2 ∧ (p.2 = q.2 → ¬ p.1 % (2 * sz p.2) = 0)
def AllOk (e : Int) (p : Int × Int) : Prop := chk p.1 p.2 = 0 ∧ 0 ≤ p.1 ∧ p.1 + sz p.2 ≤ e
theorem cut_allOk (e : Int) : ∀ (f : Nat) (a : Int), 0 ≤ a → ∀ p, p ∈ cutL e f a → AllOk e p
  | 0, a, _, p, h => by unfold cutL at h; simp at h
  | f + 1, a, h0, p, h => by
    by_cases he : e ≤ a
    · rw [cutL_done e a (f + 1) he] at h; simp at h
    · rw [cutL_step e a f (by omega)] at h
      have hk := pick_le a e 32
      have hp := p2_pos (pick a e 32)
      rcases List.mem_cons.1 h with rfl | h
      · exact ⟨chk_pick a e (by omega), h0, by show a + sz (32 - (pick a e 32 : Int)) ≤ e; rw [sz_pick _ hk]; exact (pick_ok a e 32 (by omega)).2⟩
      · exact cut_allOk e f _ (by omega) p h
theorem cut_next (e : Int) (hE : e ≤ 4294967296) : ∀ (f : Nat) (a : Int) (k : Nat) (p q : Int × Int), 0 ≤ a → (cutL e f a)[k]? = some p → (cutL e f a)[k + 1]? = some q → Next p q
  | 0, a, k, p, q, _, h, _ => by unfold cutL at h; simp at h
  | f + 1, a, k, p, q, h0, h, h' => by
    by_cases he : e ≤ a
    · rw [cutL_done e a (f + 1) he] at h; simp at h
    · rw [cutL_step e a f (by omega)] at h h'
      cases k with
      | succ k => exact cut_next e hE f (a + p2 (pick a e 32)) k p q (by have := p2_pos (pick a e 32); omega) (by simpa using h) (by simpa using h')
      | zero =>
        simp at h h'
        subst h
        have hk := pick_le a e 32
        have hp := p2_pos (pick a e 32)
        have hok := pick_ok a e 32 (by omega)
        have hm := pick_max a e 32 (pick a e 32 + 1)
        cases f with
        | zero => unfold cutL at h'; simp at h'
        | succ f =>
          by_cases h2 : e ≤ a + p2 (pick a e 32)
          · rw [cutL_done e _ (f + 1) h2] at h'; simp at h'
          · rw [cutL_step e _ f (by omega)] at h'
            simp at h'
            subst h'
            refine ⟨by show a + p2 (pick a e 32) = _; rw [sz_pick _ hk], ?_⟩
            have hok2 := pick_ok (a + p2 (pick a e 32)) e 32 (by omega)
            show 32 - (pick a e 32 : Int) = 32 - (pick (a + p2 (pick a e 32)) e 32 : Int) → ¬ a % (2 * sz (32 - (pick a e 32 : Int))) = 0
            rw [sz_pick _ hk, ← p2_succ]
            intro e1 e2
            have e3 : pick (a + p2 (pick a e 32)) e 32 = pick a e 32 := by omega
            rw [e3] at hok2
            have hs := p2_succ (pick a e 32)
            rcases (show pick a e 32 ≤ 31 ∨ pick a e 32 = 32 by omega) with h3 | h3
            · have := hm (by omega) e2 (by omega)
              omega
            · rw [h3, p2_32] at h2
              omega
end Go.Proofs.YtdjikiakcfbklaaGreat

/-
  Walks over the addresses' laws: fit, same.
-/
namespace Go.Proofs.YtdjikiakcfbklaaGreat
open Go Go.RowKit Go.Sort

/-- The bits that 'fit' makes of any int. -/
def fitN (k : Int) : Int := IntKind.u64.wrap k % 33
theorem fitN_range (k : Int) : 0 ≤ fitN k ∧ fitN k ≤ 32 := by unfold fitN; omega
theorem fit_chk (a k : Int) : chk (subA a (fitN k)) (fitN k) = 0 := chk_sub a (fitN k) (fitN_range k).1 (fitN_range k).2
theorem results_1 {fn : Func} {tmps : Array Value} {w : World} {g : Nat} {a b : Value} {t1 : Nat} (hf : fn.results = #[.cell t1 40]) (h1 : tmps.getD t1 undef = .pointer (some ⟨g, 0, none⟩))
    (k1 : w.heap[g]? = some (.cells #[a, b] 40 (0, 0))) :
    (results fn tmps).run Tryz.prog w = .ok (.agg #[a, b]) w := by
  obtain ⟨c0, c1, _, _⟩ := two_cells k1
  have h1' : tmps[t1]?.getD undef = .pointer (some ⟨g, 0, none⟩) := by simpa using h1
  simp [results, hf, h1', go_sem, c0, c1]
end Go.Proofs.YtdjikiakcfbklaaGreat

/-
  Walks over headers: Bytes.
-/
namespace Go.Proofs.YtdjikiakcfbklaaGreat
open Go Go.RowKit Go.Sort

/-- A header. -/
structure Hd where
  src : Int
  dst : Int
  proto : Int
  sp : Int
  dp : Int
  deriving DecidableEq
def Hd.enc (h : Hd) : List Value := [.int .u32 h.src, .int .u32 h.dst, .int .u8 h.proto, .int .u16 h.sp, .int .u16 h.dp]
structure Hd.ok (h : Hd) : Prop where
  s0 : 0 ≤ h.src
  s1 : h.src < 4294967296
  d0 : 0 ≤ h.dst
  d1 : h.dst < 4294967296
  p0 : 0 ≤ h.proto
  p1 : h.proto < 256
  a0 : 0 ≤ h.sp
  a1 : h.sp < 65536
  b0 : 0 ≤ h.dp
  b1 : h.dp < 65536
/-- Its bytes. -/
def Hd.bytes (h : Hd) : List Int := [h.src / 16777216, h.src / 65536 % 256, h.src / 256 % 256, h.src % 256, h.dst / 16777216, h.dst / 65536 % 256, h.dst / 256 % 256, h.dst % 256, h.proto, h.sp / 256, h.sp % 256, h.dp / 256, h.dp % 256]
/-- The array while the addresses are written. -/
def Hd.part (h : Hd) (k j : Nat) (p : Bool) : List Int := (List.range 13).map fun i => if (i < 4 ∧ i < k) ∨ (4 ≤ i ∧ i < 8 ∧ i - 4 < k) ∨ (i = 8 ∧ p = true) ∨ (9 ≤ i ∧ i < 11 ∧ i - 9 < j) ∨ (11 ≤ i ∧ i - 11 < j) then h.bytes.getD i 0 else 0
theorem part_start (h : Hd) : h.part 0 0 false = List.replicate 13 0 := rfl
theorem part_full (h : Hd) : h.part 4 2 true = h.bytes := rfl

def Hd.cells (h : Hd) : Obj := .cells #[.int .u32 h.src, .int .u32 h.dst, .int .u8 h.proto, .int .u16 h.sp, .int .u16 h.dp] 28
def arr (l : List Int) : Obj := .cells (l.map (Value.int .u8)).toArray 149
structure BySt (h : Hd) (l : List Int) (g : Nat) (w W : World) : Prop where
  a : W.heap[g]? = some h.cells
  r : W.heap[g + 1]? = some (arr (List.replicate 13 0))
  b : W.heap[g + 2]? = some (arr l)
  n : Below w.heap.size w W
theorem arr_cell {w : World} {g : Nat} {l : List Int} (h : w.heap[g]? = some (arr l)) {k : Nat} {x : Int} (hk : l[k]? = some x) : w.cell? ⟨g, k, none⟩ = some (.int .u8 x) := by
  rw [cell_of_row w g k _ _ _ h]
  simp [hk]
theorem arr_set {w : World} {g : Nat} {l : List Int} (h : w.heap[g]? = some (arr l)) (k : Nat) (x : Int) : (w.setCell ⟨g, k, none⟩ (.int .u8 x)).heap[g]? = some (arr (l.set k x)) := by
  rw [heap_setCell_same _ _ _ _ _ _ h]
  unfold arr
  congr 2
  rw [List.map_set]
  simp
theorem byst_next {h : Hd} {l : List Int} {g : Nat} {w W : World} (H : BySt h l g w W) (hg : w.heap.size ≤ g) (i j : Nat) (x y : Int) : BySt h ((l.set i x).set j y) g w ((W.setCell ⟨g + 1 + 1, i, none⟩ (.int .u8 x)).setCell ⟨g + 1 + 1, j, none⟩ (.int .u8 y)).drew := by
  refine ⟨?_, ?_, ?_, ?_⟩
  · show (((W.setCell _ _).setCell _ _)).heap[g]? = _
    rw [heap_setCell_other _ _ _ _ (by show g ≠ g + 1 + 1; omega), heap_setCell_other _ _ _ _ (by show g ≠ g + 1 + 1; omega)]; exact H.a
  · show (((W.setCell _ _).setCell _ _)).heap[g + 1]? = _
    rw [heap_setCell_other _ _ _ _ (by simp), heap_setCell_other _ _ _ _ (by simp)]; exact H.r
  · exact arr_set (arr_set H.b i x) j y
  · exact ((H.n.setCell (p := ⟨g + 1 + 1, i, none⟩) (by show w.heap.size ≤ g + 1 + 1; omega) _).setCell (p := ⟨g + 1 + 1, j, none⟩) (by show w.heap.size ≤ g + 1 + 1; omega) _).drew
theorem byst_one {h : Hd} {l : List Int} {g : Nat} {w W : World} (H : BySt h l g w W) (hg : w.heap.size ≤ g) (i : Nat) (x : Int) : BySt h (l.set i x) g w (W.setCell ⟨g + 1 + 1, i, none⟩ (.int .u8 x)) := by
  refine ⟨?_, ?_, ?_, ?_⟩
  · rw [heap_setCell_other _ _ _ _ (by show g ≠ g + 1 + 1; omega)]; exact H.a
  · rw [heap_setCell_other _ _ _ _ (by show g + 1 ≠ g + 1 + 1; omega)]; exact H.r
  · exact arr_set H.b i x
  · exact H.n.setCell (p := ⟨g + 1 + 1, i, none⟩) (by show w.heap.size ≤ g + 1 + 1; omega) _
theorem results_arr {fn : Func} {tmps : Array Value} {w : World} {g : Nat} {x0 x1 x2 x3 x4 x5 x6 x7 x8 x9 x10 x11 x12 : Int} {t1 : Nat} (hf : fn.results = #[.cell t1 149]) (h1 : tmps.getD t1 undef = .pointer (some ⟨g, 0, none⟩)) (k1 : w.heap[g]? = some (arr [x0, x1, x2, x3, x4, x5, x6, x7, x8, x9, x10, x11, x12])) :
    (results fn tmps).run Tryz.prog w = .ok (.agg #[.int .u8 x0, .int .u8 x1, .int .u8 x2, .int .u8 x3, .int .u8 x4, .int .u8 x5, .int .u8 x6, .int .u8 x7, .int .u8 x8, .int .u8 x9, .int .u8 x10, .int .u8 x11, .int .u8 x12]) w := by
  have c0 := arr_cell k1 (k := 0) (x := x0) rfl
  have c1 := arr_cell k1 (k := 1) (x := x1) rfl
  have c2 := arr_cell k1 (k := 2) (x := x2) rfl
  have c3 := arr_cell k1 (k := 3) (x := x3) rfl
  have c4 := arr_cell k1 (k := 4) (x := x4) rfl
  have c5 := arr_cell k1 (k := 5) (x := x5) rfl
  have c6 := arr_cell k1 (k := 6) (x := x6) rfl
  have c7 := arr_cell k1 (k := 7) (x := x7) rfl
  have c8 := arr_cell k1 (k := 8) (x := x8) rfl
  have c9 := arr_cell k1 (k := 9) (x := x9) rfl
  have c10 := arr_cell k1 (k := 10) (x := x10) rfl
  have c11 := arr_cell k1 (k := 11) (x := x11) rfl
  have c12 := arr_cell k1 (k := 12) (x := x12) rfl
  have h1' : tmps[t1]?.getD undef = .pointer (some ⟨g, 0, none⟩) := by simpa using h1
  simp [results, hf, h1', go_sem, c0, c1, c2, c3, c4, c5, c6, c7, c8, c9, c10, c11, c12]
theorem u8_wrap (x : Int) : IntKind.u8.wrap x = x % 256 := by simp [IntKind.wrap, IntKind.bits, IntKind.signed]
set_option maxRecDepth 100000 in
set_option maxHeartbeats 4000000 in
theorem bytes_any (h : Hd) (ho : h.ok) (w : World) :
    Calls Tryz.prog 96 #[.agg #[.int .u32 h.src, .int .u32 h.dst, .int .u8 h.proto, .int .u16 h.sp, .int .u16 h.dp]] w fun e w' => e = .returned (.agg (h.bytes.map (Value.int .u8)).toArray) ∧ Below w.heap.size w w' := by
  obtain ⟨s0, s1, d0, d1, p0, p1, a0, a1, b0, b1⟩ := ho
  have hS : Hid (BySt h (h.part 0 0 false) w.heap.size w (((w.alloc h.cells).alloc (arr (List.replicate 13 0))).alloc (arr (List.replicate 13 0)))) := by
    obtain ⟨k0, k1, k2⟩ := blk3 w h.cells (arr (List.replicate 13 0)) (arr (List.replicate 13 0))
    exact Lib.hid ⟨k0, k1, k2, below3 w _ _ _⟩
  go_enter Tryz.func96, Tryz.ntmps96
  go_wp2
  change Hid (BySt h (h.part 0 0 false) w.heap.size w (((w.alloc (.cells #[.int .u32 h.src, .int .u32 h.dst, .int .u8 h.proto, .int .u16 h.sp, .int .u16 h.dp] 28)).alloc (.cells #[.int .u8 0, .int .u8 0, .int .u8 0, .int .u8 0, .int .u8 0, .int .u8 0, .int .u8 0, .int .u8 0, .int .u8 0, .int .u8 0, .int .u8 0, .int .u8 0, .int .u8 0] 149)).alloc (.cells #[.int .u8 0, .int .u8 0, .int .u8 0, .int .u8 0, .int .u8 0, .int .u8 0, .int .u8 0, .int .u8 0, .int .u8 0, .int .u8 0, .int .u8 0, .int .u8 0, .int .u8 0] 149))) at hS
  generalize ((w.alloc (.cells #[.int .u32 h.src, .int .u32 h.dst, .int .u8 h.proto, .int .u16 h.sp, .int .u16 h.dp] 28)).alloc (.cells #[.int .u8 0, .int .u8 0, .int .u8 0, .int .u8 0, .int .u8 0, .int .u8 0, .int .u8 0, .int .u8 0, .int .u8 0, .int .u8 0, .int .u8 0, .int .u8 0, .int .u8 0] 149)).alloc (.cells #[.int .u8 0, .int .u8 0, .int .u8 0, .int .u8 0, .int .u8 0, .int .u8 0, .int .u8 0, .int .u8 0, .int .u8 0, .int .u8 0, .int .u8 0, .int .u8 0, .int .u8 0] 149) = W at *
  go_loopw [6] (fun i wr => ∃ k : Nat, i = .int .i64 k ∧ k ≤ 4 ∧ Hid (BySt h (h.part k 0 false) w.heap.size w wr)) (fun i _ => 4 - (intOf i).toNat)
  case atStart => exact ⟨0, rfl, by omega, hS⟩
  case round =>
    obtain ⟨k, rfl, hk, hSr⟩ := hrel
    clear hS
    by_cases hlt : k < 4
    · have hI : (k : Int) < 4 := by omega
      have c0 : wr.cell? ⟨w.heap.size, 0, none⟩ = some (.int .u32 h.src) := by rw [cell_of_row wr _ 0 _ _ _ hSr.out.a]; rfl
      have c1 : wr.cell? ⟨w.heap.size, 1, none⟩ = some (.int .u32 h.dst) := by rw [cell_of_row wr _ 1 _ _ _ hSr.out.a]; rfl
      rcases (show k = 0 ∨ k = 1 ∨ k = 2 ∨ k = 3 by omega) with rfl | rfl | rfl | rfl
      · go_upto_region 5 with fail
        have q0 := arr_cell hSr.out.b (k := 0) (x := 0) rfl
        have q4 := arr_cell hSr.out.b (k := 4) (x := 0) rfl
        have z0 := frozen_row hSr.out.b 0
        have z4 := frozen_row hSr.out.b 4
        have n1 : w.heap.size ≠ w.heap.size + 1 + 1 := by omega
        have n2 : w.heap.size + 1 + 1 ≠ w.heap.size := by omega
        have y0 : IntKind.i64.wrap 0 = 0 := by decide
        have y4 : IntKind.i64.wrap 4 = 4 := by decide
        have y24 : IntKind.i64.wrap 24 = 24 := by decide
        go_region_held3 (fun w' => w'.cell? ⟨w.heap.size, 0, none⟩ = some (.int .u32 h.src) ∧ w'.cell? ⟨w.heap.size, 1, none⟩ = some (.int .u32 h.dst)) (go_keep) (fail)
        have hN := byst_next hSr.out (Nat.le_refl _) 0 4 (IntKind.u8.wrap (h.src / 16777216)) (IntKind.u8.wrap (h.dst / 16777216))
        have hL : ((h.part 0 0 false).set 0 (IntKind.u8.wrap (h.src / 16777216))).set 4 (IntKind.u8.wrap (h.dst / 16777216)) = h.part 1 0 false := by
          rw [show IntKind.u8.wrap (h.src / 16777216) = h.src / 16777216 by simp only [u8_wrap] <;> omega, show IntKind.u8.wrap (h.dst / 16777216) = h.dst / 16777216 by simp only [u8_wrap] <;> omega]
          rfl
        rw [hL] at hN
        have hN2 := Lib.hid hN
        rw [show IntKind.u8.wrap (h.src / 16777216) = h.src / 16777216 by simp only [u8_wrap] <;> omega, show IntKind.u8.wrap (h.dst / 16777216) = h.dst / 16777216 by simp only [u8_wrap] <;> omega] at hN
        have hN3 := Lib.hid hN
        clear hN hL q0 q4 z0 z4 c0 c1 hSr
        go_wp2
        first | exact ⟨⟨1, rfl, by omega, hN3⟩, by simp only [intOf]; omega⟩ | exact ⟨⟨1, rfl, by omega, hN2⟩, by simp only [intOf]; omega⟩
      · go_upto_region 5 with fail
        have q0 := arr_cell hSr.out.b (k := 1) (x := 0) rfl
        have q4 := arr_cell hSr.out.b (k := 5) (x := 0) rfl
        have z0 := frozen_row hSr.out.b 1
        have z4 := frozen_row hSr.out.b 5
        have n1 : w.heap.size ≠ w.heap.size + 1 + 1 := by omega
        have n2 : w.heap.size + 1 + 1 ≠ w.heap.size := by omega
        have y5 : IntKind.i64.wrap 5 = 5 := by decide
        have y8 : IntKind.i64.wrap 8 = 8 := by decide
        have y16 : IntKind.i64.wrap 16 = 16 := by decide
        go_region_held3 (fun w' => w'.cell? ⟨w.heap.size, 0, none⟩ = some (.int .u32 h.src) ∧ w'.cell? ⟨w.heap.size, 1, none⟩ = some (.int .u32 h.dst)) (go_keep) (fail)
        have hN := byst_next hSr.out (Nat.le_refl _) 1 5 (IntKind.u8.wrap (h.src / 65536)) (IntKind.u8.wrap (h.dst / 65536))
        have hL : ((h.part 1 0 false).set 1 (IntKind.u8.wrap (h.src / 65536))).set 5 (IntKind.u8.wrap (h.dst / 65536)) = h.part 2 0 false := by
          rw [show IntKind.u8.wrap (h.src / 65536) = h.src / 65536 % 256 by simp only [u8_wrap] <;> omega, show IntKind.u8.wrap (h.dst / 65536) = h.dst / 65536 % 256 by simp only [u8_wrap] <;> omega]
          rfl
        rw [hL] at hN
        have hN2 := Lib.hid hN
        rw [show IntKind.u8.wrap (h.src / 65536) = h.src / 65536 % 256 by simp only [u8_wrap] <;> omega, show IntKind.u8.wrap (h.dst / 65536) = h.dst / 65536 % 256 by simp only [u8_wrap] <;> omega] at hN
        have hN3 := Lib.hid hN
        clear hN hL q0 q4 z0 z4 c0 c1 hSr
        go_wp2
        first | exact ⟨⟨2, rfl, by omega, hN3⟩, by simp only [intOf]; omega⟩ | exact ⟨⟨2, rfl, by omega, hN2⟩, by simp only [intOf]; omega⟩
      · go_upto_region 5 with fail
        have q0 := arr_cell hSr.out.b (k := 2) (x := 0) rfl
        have q4 := arr_cell hSr.out.b (k := 6) (x := 0) rfl
        have z0 := frozen_row hSr.out.b 2
        have z4 := frozen_row hSr.out.b 6
        have n1 : w.heap.size ≠ w.heap.size + 1 + 1 := by omega
        have n2 : w.heap.size + 1 + 1 ≠ w.heap.size := by omega
        have y6 : IntKind.i64.wrap 6 = 6 := by decide
        have y8 : IntKind.i64.wrap 8 = 8 := by decide
        have y16 : IntKind.i64.wrap 16 = 16 := by decide
        go_region_held3 (fun w' => w'.cell? ⟨w.heap.size, 0, none⟩ = some (.int .u32 h.src) ∧ w'.cell? ⟨w.heap.size, 1, none⟩ = some (.int .u32 h.dst)) (go_keep) (fail)
        have hN := byst_next hSr.out (Nat.le_refl _) 2 6 (IntKind.u8.wrap (h.src / 256)) (IntKind.u8.wrap (h.dst / 256))
        have hL : ((h.part 2 0 false).set 2 (IntKind.u8.wrap (h.src / 256))).set 6 (IntKind.u8.wrap (h.dst / 256)) = h.part 3 0 false := by
          rw [show IntKind.u8.wrap (h.src / 256) = h.src / 256 % 256 by simp only [u8_wrap] <;> omega, show IntKind.u8.wrap (h.dst / 256) = h.dst / 256 % 256 by simp only [u8_wrap] <;> omega]
          rfl
        rw [hL] at hN
        have hN2 := Lib.hid hN
        rw [show IntKind.u8.wrap (h.src / 256) = h.src / 256 % 256 by simp only [u8_wrap] <;> omega, show IntKind.u8.wrap (h.dst / 256) = h.dst / 256 % 256 by simp only [u8_wrap] <;> omega] at hN
        have hN3 := Lib.hid hN
        clear hN hL q0 q4 z0 z4 c0 c1 hSr
        go_wp2
        first | exact ⟨⟨3, rfl, by omega, hN3⟩, by simp only [intOf]; omega⟩ | exact ⟨⟨3, rfl, by omega, hN2⟩, by simp only [intOf]; omega⟩
      · go_upto_region 5 with fail
        have q0 := arr_cell hSr.out.b (k := 3) (x := 0) rfl
        have q4 := arr_cell hSr.out.b (k := 7) (x := 0) rfl
        have z0 := frozen_row hSr.out.b 3
        have z4 := frozen_row hSr.out.b 7
        have n1 : w.heap.size ≠ w.heap.size + 1 + 1 := by omega
        have n2 : w.heap.size + 1 + 1 ≠ w.heap.size := by omega
        have y0 : IntKind.i64.wrap 0 = 0 := by decide
        have y7 : IntKind.i64.wrap 7 = 7 := by decide
        have y24 : IntKind.i64.wrap 24 = 24 := by decide
        go_region_held3 (fun w' => w'.cell? ⟨w.heap.size, 0, none⟩ = some (.int .u32 h.src) ∧ w'.cell? ⟨w.heap.size, 1, none⟩ = some (.int .u32 h.dst)) (go_keep) (fail)
        have hN := byst_next hSr.out (Nat.le_refl _) 3 7 (IntKind.u8.wrap (h.src)) (IntKind.u8.wrap (h.dst))
        have hL : ((h.part 3 0 false).set 3 (IntKind.u8.wrap (h.src))).set 7 (IntKind.u8.wrap (h.dst)) = h.part 4 0 false := by
          rw [show IntKind.u8.wrap (h.src) = h.src % 256 by simp only [u8_wrap] <;> omega, show IntKind.u8.wrap (h.dst) = h.dst % 256 by simp only [u8_wrap] <;> omega]
          rfl
        rw [hL] at hN
        have hN2 := Lib.hid hN
        rw [show IntKind.u8.wrap (h.src) = h.src % 256 by simp only [u8_wrap] <;> omega, show IntKind.u8.wrap (h.dst) = h.dst % 256 by simp only [u8_wrap] <;> omega] at hN
        have hN3 := Lib.hid hN
        clear hN hL q0 q4 z0 z4 c0 c1 hSr
        go_wp2
        first | exact ⟨⟨4, rfl, by omega, hN3⟩, by simp only [intOf]; omega⟩ | exact ⟨⟨4, rfl, by omega, hN2⟩, by simp only [intOf]; omega⟩
    · obtain rfl : k = 4 := by omega
      have c2 : wr.cell? ⟨w.heap.size, 2, none⟩ = some (.int .u8 h.proto) := by rw [cell_of_row wr _ 2 _ _ _ hSr.out.a]; rfl
      have q8 := arr_cell hSr.out.b (k := 8) (x := 0) rfl
      have z8 := frozen_row hSr.out.b 8
      have hN := Lib.hid (byst_one hSr.out (Nat.le_refl _) 8 h.proto)
      have hN2 : Hid (BySt h (h.part 4 0 true) w.heap.size w (wr.setCell ⟨w.heap.size + 1 + 1, 8, none⟩ (.int .u8 h.proto))) := hN
      clear hN hSr
      go_wp2
      generalize wr.setCell ⟨w.heap.size + 1 + 1, 8, none⟩ (.int .u8 h.proto) = W2 at *
      clear c2 q8 z8
      go_loopw [32] (fun i wr => ∃ k : Nat, i = .int .i64 k ∧ k ≤ 2 ∧ Hid (BySt h (h.part 4 k true) w.heap.size w wr)) (fun i _ => 2 - (intOf i).toNat)
      case atStart => exact ⟨0, rfl, by omega, hN2⟩
      case round =>
        clear hN2
        obtain ⟨k, rfl, hk2, hSr⟩ := hrel
        by_cases hlt2 : k < 2
        · have hI : (k : Int) < 2 := by omega
          have c3 : wr.cell? ⟨w.heap.size, 3, none⟩ = some (.int .u16 h.sp) := by rw [cell_of_row wr _ 3 _ _ _ hSr.out.a]; rfl
          have c4 : wr.cell? ⟨w.heap.size, 4, none⟩ = some (.int .u16 h.dp) := by rw [cell_of_row wr _ 4 _ _ _ hSr.out.a]; rfl
          rcases (show k = 0 ∨ k = 1 by omega) with rfl | rfl
          · go_upto_region 11 with fail
            have q0 := arr_cell hSr.out.b (k := 9) (x := 0) rfl
            have q4 := arr_cell hSr.out.b (k := 11) (x := 0) rfl
            have z0 := frozen_row hSr.out.b 9
            have z4 := frozen_row hSr.out.b 11
            have n1 : w.heap.size ≠ w.heap.size + 1 + 1 := by omega
            have n2 : w.heap.size + 1 + 1 ≠ w.heap.size := by omega
            have y0 : IntKind.i64.wrap 0 = 0 := by decide
            have y8 : IntKind.i64.wrap 8 = 8 := by decide
            have y9 : IntKind.i64.wrap 9 = 9 := by decide
            have y11 : IntKind.i64.wrap 11 = 11 := by decide
            go_region_held3 (fun w' => w'.cell? ⟨w.heap.size, 3, none⟩ = some (.int .u16 h.sp) ∧ w'.cell? ⟨w.heap.size, 4, none⟩ = some (.int .u16 h.dp)) (go_keep) (fail)
            have hN := byst_next hSr.out (Nat.le_refl _) 9 11 (IntKind.u8.wrap (h.sp / 256)) (IntKind.u8.wrap (h.dp / 256))
            have hL : ((h.part 4 0 true).set 9 (IntKind.u8.wrap (h.sp / 256))).set 11 (IntKind.u8.wrap (h.dp / 256)) = h.part 4 1 true := by
              rw [show IntKind.u8.wrap (h.sp / 256) = h.sp / 256 by simp only [u8_wrap] <;> omega, show IntKind.u8.wrap (h.dp / 256) = h.dp / 256 by simp only [u8_wrap] <;> omega]
              rfl
            rw [hL] at hN
            have hN2 := Lib.hid hN
            rw [show IntKind.u8.wrap (h.sp / 256) = h.sp / 256 by simp only [u8_wrap] <;> omega, show IntKind.u8.wrap (h.dp / 256) = h.dp / 256 by simp only [u8_wrap] <;> omega] at hN
            have hN3 := Lib.hid hN
            clear hN hL q0 q4 z0 z4 c3 c4 hSr
            go_wp2
            go_roundw
            case rel => first | exact ⟨1, rfl, by omega, hN3⟩ | exact ⟨1, rfl, by omega, hN2⟩ | ((repeat apply Exists.intro); first | exact ⟨⟨1, rfl, by omega, hN3⟩, rfl⟩ | exact ⟨⟨1, rfl, by omega, hN2⟩, rfl⟩)
            case measure =>
              change 2 - (intOf (Value.int .i64 1)).toNat < 2 - (intOf (Value.int .i64 ((0 : Nat) : Int))).toNat
              simp only [intOf]
              omega
          · go_upto_region 11 with fail
            have q0 := arr_cell hSr.out.b (k := 10) (x := 0) rfl
            have q4 := arr_cell hSr.out.b (k := 12) (x := 0) rfl
            have z0 := frozen_row hSr.out.b 10
            have z4 := frozen_row hSr.out.b 12
            have n1 : w.heap.size ≠ w.heap.size + 1 + 1 := by omega
            have n2 : w.heap.size + 1 + 1 ≠ w.heap.size := by omega
            have y0 : IntKind.i64.wrap 0 = 0 := by decide
            have y8 : IntKind.i64.wrap 8 = 8 := by decide
            have y10 : IntKind.i64.wrap 10 = 10 := by decide
            have y12 : IntKind.i64.wrap 12 = 12 := by decide
            go_region_held3 (fun w' => w'.cell? ⟨w.heap.size, 3, none⟩ = some (.int .u16 h.sp) ∧ w'.cell? ⟨w.heap.size, 4, none⟩ = some (.int .u16 h.dp)) (go_keep) (fail)
            have hN := byst_next hSr.out (Nat.le_refl _) 10 12 (IntKind.u8.wrap (h.sp)) (IntKind.u8.wrap (h.dp))
            have hL : ((h.part 4 1 true).set 10 (IntKind.u8.wrap (h.sp))).set 12 (IntKind.u8.wrap (h.dp)) = h.part 4 2 true := by
              rw [show IntKind.u8.wrap (h.sp) = h.sp % 256 by simp only [u8_wrap] <;> omega, show IntKind.u8.wrap (h.dp) = h.dp % 256 by simp only [u8_wrap] <;> omega]
              rfl
            rw [hL] at hN
            have hN2 := Lib.hid hN
            rw [show IntKind.u8.wrap (h.sp) = h.sp % 256 by simp only [u8_wrap] <;> omega, show IntKind.u8.wrap (h.dp) = h.dp % 256 by simp only [u8_wrap] <;> omega] at hN
            have hN3 := Lib.hid hN
            clear hN hL q0 q4 z0 z4 c3 c4 hSr
            go_wp2
            go_roundw
            case rel => first | exact ⟨2, rfl, by omega, hN3⟩ | exact ⟨2, rfl, by omega, hN2⟩ | ((repeat apply Exists.intro); first | exact ⟨⟨2, rfl, by omega, hN3⟩, rfl⟩ | exact ⟨⟨2, rfl, by omega, hN2⟩, rfl⟩)
            case measure =>
              change 2 - (intOf (Value.int .i64 2)).toNat < 2 - (intOf (Value.int .i64 ((1 : Nat) : Int))).toNat
              simp only [intOf]
              omega
        · obtain rfl : k = 2 := by omega
          have hb : wr.heap[w.heap.size + 1 + 1]? = some (arr h.bytes) := hSr.out.b
          have hr := hSr.out.r
          have hn := hSr.out.n
          have q0 := arr_cell hb (k := 0) (x := h.src / 16777216) rfl
          have r0 := arr_cell hr (k := 0) (x := 0) rfl
          have z0 := frozen_row hr 0
          have q1 := arr_cell hb (k := 1) (x := h.src / 65536 % 256) rfl
          have r1 := arr_cell hr (k := 1) (x := 0) rfl
          have z1 := frozen_row hr 1
          have q2 := arr_cell hb (k := 2) (x := h.src / 256 % 256) rfl
          have r2 := arr_cell hr (k := 2) (x := 0) rfl
          have z2 := frozen_row hr 2
          have q3 := arr_cell hb (k := 3) (x := h.src % 256) rfl
          have r3 := arr_cell hr (k := 3) (x := 0) rfl
          have z3 := frozen_row hr 3
          have q4 := arr_cell hb (k := 4) (x := h.dst / 16777216) rfl
          have r4 := arr_cell hr (k := 4) (x := 0) rfl
          have z4 := frozen_row hr 4
          have q5 := arr_cell hb (k := 5) (x := h.dst / 65536 % 256) rfl
          have r5 := arr_cell hr (k := 5) (x := 0) rfl
          have z5 := frozen_row hr 5
          have q6 := arr_cell hb (k := 6) (x := h.dst / 256 % 256) rfl
          have r6 := arr_cell hr (k := 6) (x := 0) rfl
          have z6 := frozen_row hr 6
          have q7 := arr_cell hb (k := 7) (x := h.dst % 256) rfl
          have r7 := arr_cell hr (k := 7) (x := 0) rfl
          have z7 := frozen_row hr 7
          have q8 := arr_cell hb (k := 8) (x := h.proto) rfl
          have r8 := arr_cell hr (k := 8) (x := 0) rfl
          have z8 := frozen_row hr 8
          have q9 := arr_cell hb (k := 9) (x := h.sp / 256) rfl
          have r9 := arr_cell hr (k := 9) (x := 0) rfl
          have z9 := frozen_row hr 9
          have q10 := arr_cell hb (k := 10) (x := h.sp % 256) rfl
          have r10 := arr_cell hr (k := 10) (x := 0) rfl
          have z10 := frozen_row hr 10
          have q11 := arr_cell hb (k := 11) (x := h.dp / 256) rfl
          have r11 := arr_cell hr (k := 11) (x := 0) rfl
          have z11 := frozen_row hr 11
          have q12 := arr_cell hb (k := 12) (x := h.dp % 256) rfl
          have r12 := arr_cell hr (k := 12) (x := 0) rfl
          have z12 := frozen_row hr 12
          have HR := Lib.hid hr
          have HN := Lib.hid hn
          clear hb hr hn hSr
          go_wp2
          have hr := HR.out
          have hn := HN.out
          exact bodyPost_ret (results_arr (t1 := 2) (g := w.heap.size + 1) Tryz.results96 rfl (arr_set (arr_set (arr_set (arr_set (arr_set (arr_set (arr_set (arr_set (arr_set (arr_set (arr_set (arr_set (arr_set hr 0 (h.src / 16777216)) 1 (h.src / 65536 % 256)) 2 (h.src / 256 % 256)) 3 (h.src % 256)) 4 (h.dst / 16777216)) 5 (h.dst / 65536 % 256)) 6 (h.dst / 256 % 256)) 7 (h.dst % 256)) 8 (h.proto)) 9 (h.sp / 256)) 10 (h.sp % 256)) 11 (h.dp / 256)) 12 (h.dp % 256))) rfl ⟨rfl, (((((((((((((hn.setCell (p := ⟨w.heap.size + 1, 0, none⟩) (Nat.le_succ _) _).setCell (p := ⟨w.heap.size + 1, 1, none⟩) (Nat.le_succ _) _).setCell (p := ⟨w.heap.size + 1, 2, none⟩) (Nat.le_succ _) _).setCell (p := ⟨w.heap.size + 1, 3, none⟩) (Nat.le_succ _) _).setCell (p := ⟨w.heap.size + 1, 4, none⟩) (Nat.le_succ _) _).setCell (p := ⟨w.heap.size + 1, 5, none⟩) (Nat.le_succ _) _).setCell (p := ⟨w.heap.size + 1, 6, none⟩) (Nat.le_succ _) _).setCell (p := ⟨w.heap.size + 1, 7, none⟩) (Nat.le_succ _) _).setCell (p := ⟨w.heap.size + 1, 8, none⟩) (Nat.le_succ _) _).setCell (p := ⟨w.heap.size + 1, 9, none⟩) (Nat.le_succ _) _).setCell (p := ⟨w.heap.size + 1, 10, none⟩) (Nat.le_succ _) _).setCell (p := ⟨w.heap.size + 1, 11, none⟩) (Nat.le_succ _) _).setCell (p := ⟨w.heap.size + 1, 12, none⟩) (Nat.le_succ _) _)⟩
end Go.Proofs.YtdjikiakcfbklaaGreat

/-
  Walks over headers: Bit.
-/
namespace Go.Proofs.YtdjikiakcfbklaaGreat
open Go Go.RowKit Go.Sort

/-- Is a bit set? -/
def Hd.bit (h : Hd) (i : Nat) : Bool := h.bytes.getD (i / 8) 0 / 2 ^ (7 - i % 8) % 2 == 1
theorem bytes_range (h : Hd) (ho : h.ok) : ∀ x ∈ h.bytes, 0 ≤ x ∧ x < 256 := by
  obtain ⟨s0, s1, d0, d1, p0, p1, a0, a1, b0, b1⟩ := ho
  intro x hx
  simp only [Hd.bytes, List.mem_cons, List.mem_nil_iff, or_false] at hx
  rcases hx with rfl | rfl | rfl | rfl | rfl | rfl | rfl | rfl | rfl | rfl | rfl | rfl | rfl <;> omega
theorem and_1 (x : Int) (h0 : 0 ≤ x) (h1 : x < 256) : bits .and .u8 x 1 = x % 2 := by
  obtain ⟨x, rfl⟩ := Int.eq_ofNat_of_zero_le h0
  rw [u8_and _ _ h0 h1 (by omega) (by omega), Int.toNat_natCast, show (1 : Int).toNat = 1 from rfl, Nat.and_one_is_mod]
  rfl
theorem div_pow (v : Int) (k : Nat) (h0 : 0 ≤ v) (h1 : v < 256) : 0 ≤ v / 2 ^ k ∧ v / 2 ^ k < 256 := by
  have hp : (1 : Int) ≤ 2 ^ k := p2_pos k
  exact ⟨Int.ediv_nonneg h0 (by omega), Int.lt_of_le_of_lt (Int.ediv_le_self _ h0) h1⟩
theorem bytes_len (h : Hd) : h.bytes.length = 13 := rfl
set_option maxRecDepth 100000 in
set_option maxHeartbeats 2000000 in
theorem bit_no (h : Hd) (i : Int) (w : World) (hi : i < 0 ∨ 104 ≤ i) :
    Calls Tryz.prog 88 #[.agg #[.int .u32 h.src, .int .u32 h.dst, .int .u8 h.proto, .int .u16 h.sp, .int .u16 h.dp], .int .i64 i] w fun e w' => e = .returned (.tuple #[.bool false, .int .i64 1]) ∧ Below w.heap.size w w' := by
  rcases hi with hi | hi
  · go_enter Tryz.func88, Tryz.ntmps88
    go_wp2
    go_ret2
    exact ⟨rfl, (Below.refl _ _).alloc (Nat.le_refl _) _⟩
  · have h1 : ¬ i < 0 := by omega
    have h2 : i ≥ 104 := hi
    go_enter Tryz.func88, Tryz.ntmps88
    go_wp2
    go_ret2
    exact ⟨rfl, (Below.refl _ _).alloc (Nat.le_refl _) _⟩
set_option maxRecDepth 100000 in
set_option maxHeartbeats 2000000 in
theorem bit_yes (h : Hd) (ho : h.ok) (i : Nat) (w : World) (hi : i < 104) :
    Calls Tryz.prog 88 #[.agg #[.int .u32 h.src, .int .u32 h.dst, .int .u8 h.proto, .int .u16 h.sp, .int .u16 h.dp], .int .i64 i] w fun e w' => e = .returned (.tuple #[.bool (h.bit i), .int .i64 0]) ∧ Below w.heap.size w w' := by
  have h1 : ¬ (i : Int) < 0 := by omega
  have h2 : ¬ (i : Int) ≥ 104 := by omega
  have hB : Hid (∀ v : World, Calls Tryz.prog 96 #[.agg #[.int .u32 h.src, .int .u32 h.dst, .int .u8 h.proto, .int .u16 h.sp, .int .u16 h.dp]] v fun e w' => e = .returned (.agg #[.int .u8 (h.src / 16777216), .int .u8 (h.src / 65536 % 256), .int .u8 (h.src / 256 % 256), .int .u8 (h.src % 256), .int .u8 (h.dst / 16777216), .int .u8 (h.dst / 65536 % 256), .int .u8 (h.dst / 256 % 256), .int .u8 (h.dst % 256), .int .u8 (h.proto), .int .u8 (h.sp / 256), .int .u8 (h.sp % 256), .int .u8 (h.dp / 256), .int .u8 (h.dp % 256)]) ∧ Below v.heap.size v w') := Lib.hid (fun v => bytes_any h ho v)
  go_enter Tryz.func88, Tryz.ntmps88
  go_wp2_with fail
  refine (hB.out _).mono ?_
  rintro e w1 ⟨rfl, hb1⟩
  have hbw := below_call ((Below.refl w.heap.size w).alloc (Nat.le_refl _) _) hb1
  go_upto_region 4 with fail
  obtain ⟨v, hv⟩ : ∃ v, h.bytes[i / 8]? = some v := ⟨_, List.getElem?_eq_getElem (by rw [bytes_len]; omega)⟩
  have hc : (w1.alloc (.cells #[.int .u8 (h.src / 16777216), .int .u8 (h.src / 65536 % 256), .int .u8 (h.src / 256 % 256), .int .u8 (h.src % 256), .int .u8 (h.dst / 16777216), .int .u8 (h.dst / 65536 % 256), .int .u8 (h.dst / 256 % 256), .int .u8 (h.dst % 256), .int .u8 (h.proto), .int .u8 (h.sp / 256), .int .u8 (h.sp % 256), .int .u8 (h.dp / 256), .int .u8 (h.dp % 256)] 149)).cell? ⟨w1.heap.size, i / 8, none⟩ = some (.int .u8 v) := arr_cell (heap_alloc_new w1 (arr h.bytes)) hv
  have hr := bytes_range h ho v (List.mem_of_getElem? hv)
  have hbit := Lib.hid (show h.bit i = (v / 2 ^ (7 - i % 8) % 2 == 1) by unfold Hd.bit; rw [List.getD, hv]; rfl)
  have hb2 := hbw.alloc hbw.size (.cells #[.int .u8 (h.src / 16777216), .int .u8 (h.src / 65536 % 256), .int .u8 (h.src / 256 % 256), .int .u8 (h.src % 256), .int .u8 (h.dst / 16777216), .int .u8 (h.dst / 65536 % 256), .int .u8 (h.dst / 256 % 256), .int .u8 (h.dst % 256), .int .u8 (h.proto), .int .u8 (h.sp / 256), .int .u8 (h.sp % 256), .int .u8 (h.dp / 256), .int .u8 (h.dp % 256)] 149)
  generalize w1.alloc (.cells #[.int .u8 (h.src / 16777216), .int .u8 (h.src / 65536 % 256), .int .u8 (h.src / 256 % 256), .int .u8 (h.src % 256), .int .u8 (h.dst / 16777216), .int .u8 (h.dst / 65536 % 256), .int .u8 (h.dst / 256 % 256), .int .u8 (h.dst % 256), .int .u8 (h.proto), .int .u8 (h.sp / 256), .int .u8 (h.sp % 256), .int .u8 (h.dp / 256), .int .u8 (h.dp % 256)] 149) = W2 at *
  clear hv hB hb1 hbw
  obtain ⟨q, hq⟩ : ∃ q, q = i / 8 := ⟨_, rfl⟩
  obtain ⟨r, hr8⟩ : ∃ r, r = i % 8 := ⟨_, rfl⟩
  have e1 : (i : Int).tdiv 8 = (q : Int) := by rw [Int.tdiv_eq_ediv_of_nonneg (by omega)]; omega
  have e2 : (i : Int).tmod 8 = (r : Int) := by rw [Int.tmod_eq_emod_of_nonneg (by omega)]; omega
  have e3 : (i : Int) / 8 = (q : Int) := by omega
  have e4 : (i : Int) % 8 = (r : Int) := by omega
  have e5 : wrap64 (7 - (r : Int)) = 7 - (r : Int) := by unfold wrap64; omega
  have e6 : (7 - (r : Int) < 0) = False := by simp; omega
  have e7 : (q : Int) < 13 := by omega
  have e8 : (0 : Int) ≤ (q : Int) := by omega
  rw [← hq] at hc
  rw [← hr8] at hbit
  clear hq hr8 h1 h2
  have hd := Lib.hid (div_pow v (7 - r) hr.1 hr.2)
  go_wp2
  go_ret2
  exact ⟨by rw [hbit.out, ← and_1 _ hd.out.1 hd.out.2]; rfl, hb2⟩
end Go.Proofs.YtdjikiakcfbklaaGreat

/-
  A header's bits laid among values.
-/
namespace Go.Proofs.YtdjikiakcfbklaaGreat
open Go Go.RowKit Go.ChangeMaps Go.MapKept Go.Maps Go.Lib Go.Sort

def bcells (f : Nat → Bool) : Array Value := ((List.range 208).map fun k => Value.bool (f k)).toArray
theorem bcells_size (f : Nat → Bool) : (bcells f).size = 208 := by simp [bcells]
theorem bcells_get (f : Nat → Bool) {k : Nat} (h : k < 208) : (bcells f)[k]? = some (.bool (f k)) := by simp [bcells, h]
theorem bcells_set (f : Nat → Bool) (k : Nat) (b : Bool) : (bcells f).setIfInBounds k (.bool b) = bcells (put f k b) := by
  apply Array.ext
  · simp [bcells_size]
  · intro i h1 h2
    have hi : i < 208 := by rw [bcells_size] at h2; exact h2
    have hi' : i < (bcells f).size := by rw [bcells_size]; exact hi
    have e1 : (bcells (put f k b))[i]'h2 = .bool (put f k b i) := by
      have := bcells_get (put f k b) hi
      rw [Array.getElem?_eq_getElem h2] at this
      exact Option.some.inj this
    have e2 : (bcells f)[i]'hi' = .bool (f i) := by
      have := bcells_get f hi
      rw [Array.getElem?_eq_getElem hi'] at this
      exact Option.some.inj this
    rw [e1, Array.getElem_setIfInBounds]
    by_cases hik : k = i
    · subst hik; rw [if_pos rfl, put_same]
    · rw [if_neg hik, e2, put_other (fun e => hik e.symm)]
    · exact hi'
/-- The values with the first m bits laid. -/
def layF (h : Hd) (o : Nat) (f : Nat → Bool) (m : Nat) : Nat → Bool := fun k => if k % 2 = o ∧ k / 2 < m then h.bit (k / 2) else f k
theorem layF_zero (h : Hd) (o : Nat) (f : Nat → Bool) : layF h o f 0 = f := funext fun k => by simp [layF]
theorem layF_succ (h : Hd) (o : Nat) (ho : o < 2) (f : Nat → Bool) (m : Nat) : put (layF h o f m) (2 * m + o) (h.bit m) = layF h o f (m + 1) := funext fun k => by
  unfold put layF
  by_cases hk : k = 2 * m + o
  · subst hk
    rw [if_pos rfl, if_pos ⟨by omega, by omega⟩, show (2 * m + o) / 2 = m by omega]
  · rw [if_neg hk]
    by_cases h1 : k % 2 = o ∧ k / 2 < m
    · rw [if_pos h1, if_pos ⟨h1.1, by omega⟩]
    · rw [if_neg h1, if_neg (fun h2 => by
        have : k / 2 < m ∨ k / 2 = m := by omega
        rcases this with h3 | h3
        · exact h1 ⟨h2.1, h3⟩
        · omega)]
def BRow (w : World) (g : Nat) (f : Nat → Bool) : Prop := w.heap[g]? = some (.cells (bcells f) 4 (0, 0))
theorem BRow.cell {w : World} {g : Nat} {f : Nat → Bool} (h : BRow w g f) {k : Nat} (hk : k < 208) : w.cell? ⟨g, k, none⟩ = some (.bool (f k)) := by
  rw [cell_of_row w _ k _ _ (0, 0) h]
  exact bcells_get f hk
theorem BRow.set {w : World} {g : Nat} {f : Nat → Bool} (h : BRow w g f) (k : Nat) (b : Bool) : BRow (w.setCell ⟨g, k, none⟩ (.bool b)) g (put f k b) := by
  unfold BRow
  rw [heap_setCell_same _ _ _ _ _ _ h, bcells_set]
theorem BRow.below {w w' : World} {g : Nat} {f : Nat → Bool} (h : BRow w g f) (hb : Below w.heap.size w w') : BRow w' g f := blk_below hb h
set_option maxRecDepth 100000 in
set_option maxHeartbeats 4000000 in
theorem lay_any {w : World} {vf : FuncId} {o : Nat} (V : VarF vf o) (h : Hd) (ho : h.ok) (f : Nat → Bool) (g : Nat) (hg : BRow w g f) :
    Calls Tryz.prog 49 #[.slice (some ⟨g, 0, none⟩) 208 208, .agg #[.int .u32 h.src, .int .u32 h.dst, .int .u8 h.proto, .int .u16 h.sp, .int .u16 h.dp], .func (.func vf) #[] #[]] w fun e w' => e = .returned (.tuple #[]) ∧ BRow w' g (layF h o f 104) ∧ w.grownBy w' (some g) := by
  have hen := V.en
  have HV := Lib.hid V
  have HO := Lib.hid ho
  have hlg := lt_of_block hg
  have hbw := below1 w h.cells
  have hbk := blk1 w h.cells
  have HG := Lib.hid (hg.below hbw)
  have HGR := Lib.hid (show w.grownBy (w.alloc h.cells) (some g) from World.grownBy_alloc w _ _)
  have HNE : Hid (w.heap.size ≠ g) := Lib.hid (by omega)
  have HBK := Lib.hid hbk
  clear V ho hg hbw hbk
  have hW : w.alloc (.cells #[.int .u32 h.src, .int .u32 h.dst, .int .u8 h.proto, .int .u16 h.sp, .int .u16 h.dp] 28) = w.alloc h.cells := rfl
  go_enter Tryz.func49, Tryz.ntmps49
  go_upto_region 1 with fail
  clear hW
  generalize hw0 : w.alloc h.cells = w0 at *
  clear hw0
  go_wp2
  go_loopw [7] (fun i wr => ∃ m : Nat, m ≤ 104 ∧ i = .int .i64 m ∧ Hid (BRow wr g (layF h o f m)) ∧ Hid (w0.grownBy wr (some g))) (fun i _ => 104 - (intOf i).toNat)
  case atStart => exact ⟨0, by omega, rfl, Lib.hid (by rw [layF_zero]; exact HG.out), Lib.hid (World.grownBy.refl _ _)⟩
  case round =>
    obtain ⟨m, hm, rfl, HR, HW⟩ := hrel
    by_cases hlt : m < 104
    · have hI : (m : Int) < 104 := by omega
      obtain ⟨x, hx⟩ : ∃ x, x = 2 * m + o := ⟨_, rfl⟩
      have ho2 := HV.out.o2
      have hxl : (x : Int) < 208 := by omega
      have hxn : x < 208 := by omega
      have HN := Lib.hid (show ∀ W, Calls Tryz.prog vf #[.int .i64 m] W (fun e w' => e = .returned (.int .i64 (x : Int)) ∧ Below W.heap.size W w') from fun W => by
        have := HV.out.calls m W (by omega)
        rw [← hx] at this
        refine this.mono ?_
        rintro e w' ⟨rfl, rfl⟩
        exact ⟨rfl, Below.refl _ _⟩)
      have HBIT := Lib.hid (fun W => bit_yes h HO.out m W hlt)
      have HX := Lib.hid hx
      have hk := (HW.out.block _ (lt_of_block HBK.out) (fun e => HNE.out (by injection e))).trans HBK.out
      have hne : Nonempty (InW (fun x => wr.grownBy x (some g))) := ⟨⟨wr, World.grownBy.refl _ _⟩⟩
      have hlw := lt_of_block hk
      have kk : ∀ p : InW (fun x => wr.grownBy x (some g)), p.w.heap[w.heap.size]? = some h.cells := fun p => (p.h.block _ hlw (fun e => HNE.out (by injection e))).trans hk
      have c0 : ∀ p : InW (fun x => wr.grownBy x (some g)), p.w.cell? ⟨w.heap.size, 0, none⟩ = some (.int .u32 h.src) := fun p => by rw [cell_of_row _ _ 0 _ _ (0, 0) (kk p)]; rfl
      have c1 : ∀ p : InW (fun x => wr.grownBy x (some g)), p.w.cell? ⟨w.heap.size, 1, none⟩ = some (.int .u32 h.dst) := fun p => by rw [cell_of_row _ _ 1 _ _ (0, 0) (kk p)]; rfl
      have c2 : ∀ p : InW (fun x => wr.grownBy x (some g)), p.w.cell? ⟨w.heap.size, 2, none⟩ = some (.int .u8 h.proto) := fun p => by rw [cell_of_row _ _ 2 _ _ (0, 0) (kk p)]; rfl
      have c3 : ∀ p : InW (fun x => wr.grownBy x (some g)), p.w.cell? ⟨w.heap.size, 3, none⟩ = some (.int .u16 h.sp) := fun p => by rw [cell_of_row _ _ 3 _ _ (0, 0) (kk p)]; rfl
      have c4 : ∀ p : InW (fun x => wr.grownBy x (some g)), p.w.cell? ⟨w.heap.size, 4, none⟩ = some (.int .u16 h.dp) := fun p => by rw [cell_of_row _ _ 4 _ _ (0, 0) (kk p)]; rfl
      clear hx hk ho2 kk hlw
      go_upto_region 4 with fail
      refine wp_region_mixS (fun x => wr.grownBy x (some g)) [(0, false), (1, false), (2, false), (4, false), (5, false), (3, true), (6, true), (7, false), (8, false), (9, false), (10, false), (11, true)] (by kernel_rfl) (by kernel_rfl) ⟨rfl, rfl, rfl, Nat.le_refl _, fun _ _ _ => rfl⟩ ?_
      have hdr : wr.grownBy { wr with drawn := wr.drawn + 1 } (some g) := ⟨rfl, rfl, rfl, Nat.le_refl _, fun _ _ _ => rfl⟩
      have hdb : Below wr.heap.size wr { wr with drawn := wr.drawn + 1 } := ⟨rfl, rfl, rfl, Nat.le_refl _, fun _ _ => rfl⟩
      have HR1 := Lib.hid (HR.out.below hdb)
      generalize { wr with drawn := wr.drawn + 1 } = V0 at *
      refine mix_take [0, 1, 2, 4, 5] [_, _, _, _, _] rfl rfl ?_
      simp only [List.getElem_toArray, List.getElem_cons_zero, List.getElem_cons_succ]
      repeat (go_big_quiet_step (fail))
      refine wpQuiet_nil ?_
      refine mix_barS rfl (by rfl) ?_
      simp only [List.getElem_toArray, List.getElem_cons_zero, List.getElem_cons_succ]
      go_simp
      refine (HN.out _).mono ?_
      rintro e V1 ⟨rfl, hb1⟩
      have hg1 : wr.grownBy V1 (some g) := hdr.trans ⟨hb1.os, hb1.tape, hb1.output, hb1.size, fun i hi _ => hb1.block i hi⟩
      refine ⟨fun x => wr.grownBy x (some g), hg1, fun _ h => h, ?_⟩
      refine mix_barS rfl (by rfl) ?_
      simp only [List.getElem_toArray, List.getElem_cons_zero, List.getElem_cons_succ]
      go_simp
      refine (HBIT.out _).mono ?_
      rintro e V2 ⟨rfl, hb2⟩
      have hg2 : wr.grownBy V2 (some g) := hg1.trans ⟨hb2.os, hb2.tape, hb2.output, hb2.size, fun i hi _ => hb2.block i hi⟩
      refine ⟨fun x => wr.grownBy x (some g), hg2, fun _ h => h, ?_⟩
      refine mix_take [7, 8, 9, 10] [_, _, _, _] rfl rfl ?_
      simp only [List.getElem_toArray, List.getElem_cons_zero, List.getElem_cons_succ]
      repeat (go_big_quiet_step (fail))
      refine wpQuiet_nil ?_
      have HR3 := Lib.hid ((HR1.out.below hb1).below hb2)
      have cx := HR3.out.cell hxn
      have fx := frozen_of_row V2 _ x _ _ HR3.out
      have HRF := HR3.out.set x (h.bit m)
      have hg3 : wr.grownBy (V2.setCell ⟨g, x, none⟩ (.bool (h.bit m))) (some g) := ⟨hg2.os, hg2.tape, hg2.output, by have := hg2.size; simpa [World.setCell] using this, fun i hi hne => (Below.heap_setCell V2 ⟨g, x, none⟩ _ i (fun e => hne (by rw [e]))).trans (hg2.block i hi hne)⟩
      rw [HX.out, layF_succ h o HV.out.o2] at HRF
      rw [← HX.out] at HRF
      have HS := Lib.hid HRF
      have HG3 := Lib.hid hg3
      have HWF := Lib.hid (HW.out.trans hg3)
      clear HRF hg3
      refine mix_barS rfl (by rfl) ?_
      simp only [List.getElem_toArray, List.getElem_cons_zero, List.getElem_cons_succ]
      go_simp
      refine ⟨fun x => wr.grownBy x (some g), HG3.out, fun _ h => h, ?_⟩
      refine mix_end ?_
      go_wp2
      exact ⟨⟨m + 1, by omega, by go_num, HS, HWF⟩, by simp only [intOf]; omega⟩
    · obtain rfl : m = 104 := by omega
      have hI : ¬ ((104 : Nat) : Int) < 104 := by omega
      go_wp2
      go_end0
      exact ⟨rfl, HR.out, HGR.out.trans HW.out⟩
end Go.Proofs.YtdjikiakcfbklaaGreat

/-
  What a diagram says of values; whether a header is in a set; whether a relation leads from one to another.
-/
namespace Go.Proofs.YtdjikiakcfbklaaGreat
open Go Go.RowKit Go.ChangeMaps Go.MapKept Go.Maps Go.Lib Go.Sort

theorem cutN_at (N : List Nd) (i : Nat) (b : Bool) : cutN N i (nd N i).v b = if b then (nd N i).hi else (nd N i).lo := by
  unfold cutN
  rw [if_neg (fun h => h rfl)]
set_option maxRecDepth 100000 in
set_option maxHeartbeats 4000000 in
theorem At_any {w : World} {B : Nat} {A : Blks} {Mo : Nat} {N : List Nd} {H G : List Nat} (f g : Nat) (s : Nat → Bool) (hA : ArAt w B A 208 Mo N H G) (hf : f ∈ G ∧ f < N.length) (hh : Hangs (fun s => ev N s f) 0 208) (hg : BRow w g s) :
    Calls Tryz.prog 51 #[A.val, .int .i64 f, .slice (some ⟨g, 0, none⟩) 208 208] w fun e w' => e = .returned (.tuple #[.bool (ev N s f), .int .i64 0]) ∧ Below w.heap.size w w' := by
  have hwf : WF N := by obtain ⟨_, h⟩ := hA; exact h.wf
  have hle : N.length ≤ 2147483647 := by obtain ⟨_, h⟩ := hA; exact h.le
  have HL : Hid (∀ i, 2 ≤ i → Rch N f i → (nd N i).v < 208) := Lib.hid fun i h2 hr => by
    rcases Nat.lt_or_ge (nd N i).v 208 with h | h
    · exact h
    · exact absurd (hh.free (.inr h)) (not_free hwf hf.2 hr h2)
  have hb1 := below1 w (.cells ([f].map fun (n : Nat) => Value.int .i64 (n : Int)).toArray 3)
  have hA1 := hA.below hb1
  have hck := check_any hA1 [f] w.heap.size 1 (new_cells w [f] 3) (by
    intro x hx
    simp at hx
    subst hx
    exact ⟨hf.1, by omega⟩) (by simp)
  have hck : Calls Tryz.prog 83 #[A.val, .slice (some ⟨w.heap.size, 0, none⟩) 1 1] (w.alloc (.cells #[.int .i64 f] 3)) fun e w' => e = .returned (.int .i64 0) ∧ Below (w.alloc (.cells #[.int .i64 f] 3)).heap.size (w.alloc (.cells #[.int .i64 f] 3)) w' := hck
  have HB1 := Lib.hid hb1
  have HCK := Lib.hid hck
  have HA := Lib.hid hA
  have HG := Lib.hid hg
  have f1 := hf.2
  have f2 : (f : Int) ≤ 2147483646 := by omega
  have HWF := Lib.hid hwf
  clear hA hA1 hb1 hck hf hh hg hwf
  unfold Blks.val at *
  go_enter Tryz.func51, Tryz.ntmps51
  go_upto_region 4 with ((with_reducible refine HCK.out.mono ?_); rintro e W2 ⟨rfl, hb2⟩; have HB2 := Lib.hid (HB1.out.trans (hb2.mono HB1.out.size)); clear hb2)
  have HA2 := Lib.hid (HA.out.below HB2.out)
  have a0 : W2.cell? ⟨A.a, 0, none⟩ = some (.int .i64 (208 : Nat)) := by obtain ⟨_, h⟩ := HA2.out; exact h.cellAt rfl
  have a0 : W2.cell? ⟨A.a, 0, none⟩ = some (.int .i64 208) := a0
  go_upto_region 6 with fail
  clear HCK HB1
  go_wp2
  go_loopw [9] (fun i wr => ∃ k : Nat, i = .int .i32 k ∧ k < N.length ∧ Hid (Rch N f k) ∧ Hid (ev N s k = ev N s f) ∧ Hid (Below w.heap.size w wr)) (fun i _ => (intOf i).toNat)
  case atStart => exact ⟨f, rfl, f1, Lib.hid (.refl f), Lib.hid rfl, HB2⟩
  case round =>
    obtain ⟨k, rfl, hk, HR, HE, HB⟩ := hrel
    by_cases hlt : 2 ≤ k
    · have hI : (k : Int) > 1 := by omega
      have HAR := Lib.hid (HA.out.below HB.out)
      obtain ⟨nv, hN⟩ := HAR.out
      obtain ⟨ng, cp, rfl, hat⟩ := hN.at_node
      obtain ⟨x0, x1, x2⟩ := hat k hk
      have c3 : wr.cell? ⟨A.a, 2, none⟩ = some (.slice (some ⟨ng, 0, none⟩) N.length cp) := hN.cellAt rfl
      have hI2 : (k : Int) < (N.length : Int) := by omega
      have hkb : (k : Int) ≤ 2147483646 := by omega
      clear hN hat
      go_upto_region 9 with fail
      have hbn := below1 wr (.cells #[.int .i32 (nd N k).v, .int .i32 (nd N k).lo, .int .i32 (nd N k).hi] 124)
      have hkn := blk1 wr (.cells #[.int .i32 (nd N k).v, .int .i32 (nd N k).lo, .int .i32 (nd N k).hi] 124)
      have n0 := cell_of_row _ _ 0 _ _ (0, 0) hkn
      have n0 : (wr.alloc (.cells #[.int .i32 (nd N k).v, .int .i32 (nd N k).lo, .int .i32 (nd N k).hi] 124)).cell? ⟨wr.heap.size, 0, none⟩ = some (.int .i32 (nd N k).v) := n0
      have hBW := HB.out.trans (hbn.mono HB.out.size)
      have HBW := Lib.hid hBW
      have HAW := Lib.hid (HA.out.below hBW)
      have hlb := HL.out k hlt HR.out
      have hv := (HG.out.below hBW).cell hlb
      have hI3 : ((nd N k).v : Int) < 208 := by omega
      clear x0 x1 x2 c3 hbn hkn hBW
      generalize wr.alloc (.cells #[.int .i32 (nd N k).v, .int .i32 (nd N k).lo, .int .i32 (nd N k).hi] 124) = W4 at *
      have N0 := cell_regrown n0
      have HV := cell_regrown hv
      have HCUT := Lib.hid (fun (W : World) (hb : Below W4.heap.size W4 W) => (show Calls Tryz.prog 89 #[.pointer (some ⟨A.a, 0, none⟩), .int .i32 k, .int .i32 (nd N k).v, .bool (s (nd N k).v)] W (fun e w' => e = .returned (.int .i32 (cutN N k (nd N k).v (s (nd N k).v))) ∧ Below W.heap.size W w') from ncut_any k (nd N k).v (s (nd N k).v) (HAW.out.below hb) hk))
      generalize hvv : (nd N k).v = v at *
      have HVV := Lib.hid hvv
      clear hvv
      refine wp_region_quiet_below (by kernel_rfl) (by kernel_rfl) ?_
      repeat (first
        | go_big_quiet_step ((with_reducible exact Calls.regrown_of (HCUT.out _ (below_regrown W4 _ _))))
        | quiet_step ((with_reducible exact Calls.regrown_of (HCUT.out _ (below_regrown W4 _ _)))))
      refine wpQuiet_nil ?_
      intro W5 hw'
      obtain ⟨⟨nq, osq⟩, hw''⟩ := hw'
      subst hw''
      have HB5 := Lib.hid (HBW.out.trans ((below_regrown W4 nq osq).mono HBW.out.size))
      have HCN := Lib.hid (cutN_at N k (s (nd N k).v))
      rw [HVV.out] at HCN
      have hlo := HWF.out.lo k hlt hk
      have hhi := HWF.out.hi k hlt hk
      have HEV := Lib.hid (ev_node HWF.out s hlt hk)
      rw [HVV.out] at HEV
      clear N0 HV n0 hv
      generalize grow (redrawn W4 nq) osq = W5 at *
      go_wp2
      refine ⟨⟨cutN N k v (s v), rfl, ?_, Lib.hid ?_, Lib.hid ?_, HB5⟩, ?_⟩
      · rw [HCN.out]; split <;> omega
      · refine HR.out.trans ?_
        rw [HCN.out]
        split
        · exact .hi hlt hk (.refl _)
        · exact .lo hlt hk (.refl _)
      · rw [← HE.out, HEV.out, HCN.out]
        split <;> rfl
      · simp only [intOf]
        rw [HCN.out]
        split <;> omega
    · have hI : ¬ (k : Int) > 1 := by omega
      have HB9 := Lib.hid HB.out
      obtain rfl | rfl : k = 0 ∨ k = 1 := by omega
      · have HF : Hid (ev N s f = false) := Lib.hid (by rw [← HE.out]; rfl)
        go_wp2
        go_ret2
        exact ⟨by rw [HF.out]; rfl, HB9.out⟩
      · have HF : Hid (ev N s f = true) := Lib.hid (by rw [← HE.out]; rfl)
        go_wp2
        go_ret2
        exact ⟨by rw [HF.out]; rfl, HB9.out⟩
theorem Tryz.infoBool : (Tryz.prog.info? 4).map (fun i => (i.zero, i.size, i.bytes)) = some (some (.bool false), 1, 1) := by kernel_rfl
def boolsW (w : World) : World := w.alloc (.cells (bcells fun _ => false) 4)
theorem boolsW_row (w : World) : BRow (boolsW w) w.heap.size fun _ => false := blk1 w _
theorem boolsW_below (w : World) : Below w.heap.size w (boolsW w) := below1 w _
theorem mkBools (w : World) : (Instr.makeSlice 34 (.int .i64 208) (.int .i64 208)).run Tryz.prog w = .ok (.slice (some ⟨w.heap.size, 0, none⟩) 208 208) (boolsW w) := by
  obtain ⟨i0, hi, hz0, hz1, hz2⟩ := info_parts Tryz.infoBool
  have hb : (i0.bytes : Int) * (208 : Int) ≤ 281474976710656 := by rw [hz2]; omega
  have h := run_make (P := Tryz.prog) w 34 4 i0 _ Tryz.underlying34 hi hz0 .i64 .i64 (208 : Int) (208 : Int) (by omega) (Int.le_refl _) hb (by omega)
  have e : madeCells (Value.bool false).cells ((208 : Int).toNat * i0.size) = bcells fun _ => false := by
    rw [hz1]
    apply Array.ext'
    rw [show ((208 : Int).toNat * 1) = 208 from rfl]
    refine (toList_madeCells_one _ _).trans ?_
    apply List.ext_getElem?
    intro i
    simp only [bcells, List.getElem?_replicate, List.getElem?_map]
    by_cases hi : i < 208
    · simp [hi]
    · simp [hi]
  rw [e] at h
  exact h
/-- A header's values, and those of the one behind. -/
def nowS (h : Hd) : Nat → Bool := layF h 0 (fun _ => false) 104
def bothS (h g : Hd) : Nat → Bool := layF g 1 (nowS h) 104
section
variable {w : World} {B S km : Nat} {A : Blks} {Mo : Nat} {σ : Sg}
set_option maxRecDepth 100000
set_option maxHeartbeats 2000000
/-- What a question comes to: the space knows more, and nothing else. -/
def AskRes (w : World) (B S km : Nat) (A : Blks) (Mo : Nat) (σ : Sg) (v : Value) (e : Ending) (w' : World) : Prop := e = .returned v ∧ ∃ K, SpOk w' B S km A Mo (σ.know K) ∧ KeptS A km w w'
theorem SpOk.at {w : World} (h : SpOk w B S km A Mo σ) {f : Nat} {F : Fun} (hf : Den σ f F) (g : Nat) (s : Nat → Bool) (hg : BRow w g s) :
    Calls Tryz.prog 51 #[.pointer (some ⟨A.a, 0, none⟩), .int .i64 f, .slice (some ⟨g, 0, none⟩) 208 208] w fun e w' => e = .returned (.tuple #[.bool (F s), .int .i64 0]) ∧ Below w.heap.size w w' := by
  have := At_any f g s h.sp.ar ⟨hf.1, (h.ok.g f hf.1).1⟩ (h.ok.g f hf.1).2.2 hg
  rw [hf.2] at this
  exact this
theorem grown_space {g : Nat} {w' : World} (h : SpOk w B S km A Mo σ) (hgr : w.grownBy w' (some g)) (hf : Foreign A w g) (hne : g ≠ km) (hS : g ≠ S) : SpOk w' B S km A Mo σ ∧ (∀ k, Foreign A w k → Foreign A w' k) := by
  obtain ⟨nv, hA⟩ := h.sp.ar
  obtain ⟨a1, a2, a3⟩ := hA.calm hgr.size fun k hk hn => hgr.block k hk (fun e => hn (by injection e with e; rw [e]; exact hf))
  exact ⟨⟨⟨⟨nv, a1⟩, (hgr.block S (lt_of_block h.sp.cells) (fun e => hS (by injection e with e; exact e.symm))).trans h.sp.cells, a2 _ h.sp.fs, h.sp.known.same (hgr.block km h.sp.fk.1 (fun e => hne (by injection e with e; exact e.symm))), a2 _ h.sp.fk, h.sp.ne⟩, h.ok⟩, a2⟩
theorem keptG {W3 W4 : World} {g : Nat} (h : KeptS A km w W3) (hg : W3.grownBy W4 (some g)) (hs : w.heap.size ≤ g) (hf : ∀ k, Foreign A W3 k → Foreign A W4 k) : KeptS A km w W4 :=
  ⟨hg.os.trans h.os, hg.tape.trans h.tape, hg.output.trans h.output, Nat.le_trans h.size hg.size, fun k hk hn => ⟨(hg.block k (Nat.lt_of_lt_of_le hk.1 h.size) (fun e => by injection e with e; have := hk.1; omega)).trans (h.same k hk hn).1, hf k (h.same k hk hn).2⟩⟩
theorem has_yes (h : SpOk w B S km A Mo σ) {f : Nat} {F : Fun} (hf : Den σ f F) (sf : SetF F) (hd : Hd) (ho : hd.ok) :
    Calls Tryz.prog 19 #[.pointer (some ⟨S, 0, none⟩), .int .i64 f, .agg #[.int .u32 hd.src, .int .u32 hd.dst, .int .u8 hd.proto, .int .u16 hd.sp, .int .u16 hd.dp]] w (AskRes w B S km A Mo σ (.tuple #[.bool (F (nowS hd)), .int .i64 0])) := by
  have hfl := hf.lt64 h.ok
  have hW : w.alloc (.cells #[.int .u32 hd.src, .int .u32 hd.dst, .int .u8 hd.proto, .int .u16 hd.sp, .int .u16 hd.dp] 28) = w.alloc hd.cells := rfl
  have hbw := below1 w hd.cells
  have hbk := blk1 w hd.cells
  have HFO := Lib.hid (h.sp.ar.foreign_new hbw (Nat.le_refl _) (lt_of_block hbk))
  have HNE : Hid (w.heap.size ≠ km) := Lib.hid (by have := h.sp.fk.1; omega)
  have HBK := Lib.hid hbk
  have HCK := Lib.hid ((h.below hbw).check1 f (by unfold I64; omega))
  have HK0 := Lib.hid (h.kept hbw)
  have HA := Lib.hid (And.intro hf sf)
  have HH := Lib.hid ho
  have hmk := mkBools
  clear h hbw hbk hf sf ho
  go_enter Tryz.func19, Tryz.ntmps19
  go_upto_region 1 with fail
  clear hW
  generalize w.alloc hd.cells = w0 at *
  go_upto_region 4 with ((with_reducible refine HCK.out.mono ?_); rintro e W2 hr; obtain ⟨he, K, hs2, hk2⟩ := hr.yes (allOk1 HA.out.1 HA.out.2); subst he; have HS2 := Lib.hid hs2; have HK2 := Lib.hid hk2; clear hr hs2 hk2)
  go_upto_region 5 with fail
  have HB3 := Lib.hid (boolsW_below W2)
  have HR3 := Lib.hid (boolsW_row W2)
  have hls := lt_of_block HS2.out.sp.cells
  have HF3 := Lib.hid (HS2.out.sp.ar.foreign_new HB3.out (Nat.le_refl _) (lt_of_block HR3.out))
  have HN3 : Hid (W2.heap.size ≠ km ∧ W2.heap.size ≠ S) := Lib.hid (by have := HS2.out.sp.fk.1; omega)
  have HS3 := Lib.hid (HS2.out.below HB3.out)
  have HK3 := Lib.hid (HK0.out.trans (HK2.out.trans (HS2.out.kept HB3.out)))
  have hk3 := blk_below HB3.out ((HK2.out.same _ HFO.out HNE.out).1.trans HBK.out)
  unfold Hd.cells at hk3
  clear hls hmk
  generalize boolsW W2 = W3 at *
  have e0 : W3.cell? ⟨w.heap.size, 0, none⟩ = some (.int .u32 hd.src) := cell_of_row _ _ 0 _ _ (0, 0) hk3
  have e1 : W3.cell? ⟨w.heap.size, 1, none⟩ = some (.int .u32 hd.dst) := cell_of_row _ _ 1 _ _ (0, 0) hk3
  have e2 : W3.cell? ⟨w.heap.size, 2, none⟩ = some (.int .u8 hd.proto) := cell_of_row _ _ 2 _ _ (0, 0) hk3
  have e3 : W3.cell? ⟨w.heap.size, 3, none⟩ = some (.int .u16 hd.sp) := cell_of_row _ _ 3 _ _ (0, 0) hk3
  have e4 : W3.cell? ⟨w.heap.size, 4, none⟩ = some (.int .u16 hd.dp) := cell_of_row _ _ 4 _ _ (0, 0) hk3
  have HLAY := Lib.hid (lay_any nowF hd HH.out (fun _ => false) W2.heap.size HR3.out)
  clear hk3
  go_upto_region 6 with ((with_reducible refine HLAY.out.mono ?_); rintro e W4 ⟨rfl, hr4, hg4⟩; have HR4 := Lib.hid hr4; have HG4 := Lib.hid hg4; clear hr4 hg4)
  obtain ⟨hs4, hf4⟩ := grown_space HS3.out HG4.out HF3.out HN3.out.1 HN3.out.2
  have c0 := hs4.sp.c0
  have HS4 := Lib.hid hs4
  have HK4 : Hid (KeptS A km w W4) := Lib.hid (keptG HK3.out HG4.out (by have := HK0.out.size; have := HK2.out.size; omega) hf4)
  have HAT := Lib.hid (hs4.at (HA.out.1.known K) W2.heap.size (nowS hd) HR4.out)
  clear hs4 hf4 e0 e1 e2 e3 e4
  go_wp2_with ((with_reducible refine HAT.out.mono ?_); rintro e W5 ⟨rfl, hb5⟩; have HS5 := Lib.hid (HS4.out.below hb5); have HK5 := Lib.hid (HK4.out.trans (HS4.out.kept hb5)); clear hb5)
  go_ret2
  exact ⟨rfl, K, HS5.out, HK5.out⟩
end
end Go.Proofs.YtdjikiakcfbklaaGreat

/-
  Whether a relation leads from a header to another one; the refusals (written by wip/gen/genre4.py).
-/
namespace Go.Proofs.YtdjikiakcfbklaaGreat
open Go Go.RowKit Go.ChangeMaps Go.MapKept Go.Maps Go.Lib Go.Sort

section
variable {w : World} {B S km : Nat} {A : Blks} {Mo : Nat} {σ : Sg}
set_option maxRecDepth 100000
set_option maxHeartbeats 2000000
theorem has_no (h : SpOk w B S km A Mo σ) (x : Int) (hx : I64 x) (ok : ¬ AllNum σ [x] []) (hd : Hd) :
    Calls Tryz.prog 19 #[.pointer (some ⟨S, 0, none⟩), .int .i64 x, .agg #[.int .u32 hd.src, .int .u32 hd.dst, .int .u8 hd.proto, .int .u16 hd.sp, .int .u16 hd.dp]] w (AskRes w B S km A Mo σ (.tuple #[.bool false, .int .i64 1])) := by
  have hW : w.alloc (.cells #[.int .u32 hd.src, .int .u32 hd.dst, .int .u8 hd.proto, .int .u16 hd.sp, .int .u16 hd.dp] 28) = w.alloc hd.cells := rfl
  have hbw := below1 w hd.cells
  have HCK := Lib.hid ((h.below hbw).check1 x hx)
  have HK0 := Lib.hid (h.kept hbw)
  clear h hbw
  go_enter Tryz.func19, Tryz.ntmps19
  go_upto_region 1 with fail
  clear hW
  generalize w.alloc hd.cells = w0 at *
  go_wp2_with ((with_reducible refine HCK.out.mono ?_); rintro e W2 hr; obtain ⟨he, K, hs2, hk2⟩ := hr.no ok; subst he; have HS2 := Lib.hid hs2; have HK2 := Lib.hid hk2; clear hr hs2 hk2)
  go_ret2
  exact ⟨rfl, K, HS2.out, HK0.out.trans HK2.out⟩
theorem leads_no (h : SpOk w B S km A Mo σ) (x : Int) (hx : I64 x) (ok : ¬ AllNum σ [] [x]) (hd hg : Hd) :
    Calls Tryz.prog 24 #[.pointer (some ⟨S, 0, none⟩), .int .i64 x, .agg #[.int .u32 hd.src, .int .u32 hd.dst, .int .u8 hd.proto, .int .u16 hd.sp, .int .u16 hd.dp], .agg #[.int .u32 hg.src, .int .u32 hg.dst, .int .u8 hg.proto, .int .u16 hg.sp, .int .u16 hg.dp]] w (AskRes w B S km A Mo σ (.tuple #[.bool false, .int .i64 1])) := by
  have hW : (w.alloc (.cells #[.int .u32 hd.src, .int .u32 hd.dst, .int .u8 hd.proto, .int .u16 hd.sp, .int .u16 hd.dp] 28)).alloc (.cells #[.int .u32 hg.src, .int .u32 hg.dst, .int .u8 hg.proto, .int .u16 hg.sp, .int .u16 hg.dp] 28) = (w.alloc hd.cells).alloc hg.cells := rfl
  have hbw := below2 w hd.cells hg.cells
  have HCK := Lib.hid ((h.below hbw).checkN1 x hx)
  have HK0 := Lib.hid (h.kept hbw)
  clear h hbw
  go_enter Tryz.func24, Tryz.ntmps24
  go_upto_region 1 with fail
  clear hW
  generalize (w.alloc hd.cells).alloc hg.cells = w0 at *
  go_wp2_with ((with_reducible refine HCK.out.mono ?_); rintro e W2 hr; obtain ⟨he, K, hs2, hk2⟩ := hr.no ok; subst he; have HS2 := Lib.hid hs2; have HK2 := Lib.hid hk2; clear hr hs2 hk2)
  go_ret2
  exact ⟨rfl, K, HS2.out, HK0.out.trans HK2.out⟩
theorem leads_yes (h : SpOk w B S km A Mo σ) {f : Nat} {F : Fun} (hf : Den σ f F) (hd hg : Hd) (ho : hd.ok) (hgo : hg.ok) :
    Calls Tryz.prog 24 #[.pointer (some ⟨S, 0, none⟩), .int .i64 f, .agg #[.int .u32 hd.src, .int .u32 hd.dst, .int .u8 hd.proto, .int .u16 hd.sp, .int .u16 hd.dp], .agg #[.int .u32 hg.src, .int .u32 hg.dst, .int .u8 hg.proto, .int .u16 hg.sp, .int .u16 hg.dp]] w (AskRes w B S km A Mo σ (.tuple #[.bool (F (bothS hd hg)), .int .i64 0])) := by
  have hfl := hf.lt64 h.ok
  have hW : (w.alloc (.cells #[.int .u32 hd.src, .int .u32 hd.dst, .int .u8 hd.proto, .int .u16 hd.sp, .int .u16 hd.dp] 28)).alloc (.cells #[.int .u32 hg.src, .int .u32 hg.dst, .int .u8 hg.proto, .int .u16 hg.sp, .int .u16 hg.dp] 28) = (w.alloc hd.cells).alloc hg.cells := rfl
  have hbw := below2 w hd.cells hg.cells
  have hs1 : (w.alloc hd.cells).heap.size = w.heap.size + 1 := by simp
  have hbk := blk_below (below1 (w.alloc hd.cells) hg.cells) (blk1 w hd.cells)
  have hbk2 := blk1 (w.alloc hd.cells) hg.cells
  rw [hs1] at hbk2
  have HFO := Lib.hid (And.intro (h.sp.ar.foreign_new hbw (Nat.le_refl _) (lt_of_block hbk)) (h.sp.ar.foreign_new hbw (show w.heap.size ≤ w.heap.size + 1 by omega) (lt_of_block hbk2)))
  have HNE : Hid (w.heap.size ≠ km ∧ w.heap.size + 1 ≠ km) := Lib.hid (by have := h.sp.fk.1; omega)
  have HBK := Lib.hid (And.intro hbk hbk2)
  have HCK := Lib.hid ((h.below hbw).checkN1 f (by unfold I64; omega))
  have HK0 := Lib.hid (h.kept hbw)
  have HA := Lib.hid hf
  have HH := Lib.hid (And.intro ho hgo)
  have hmk := mkBools
  clear h hbw hbk hbk2 hf ho hgo hs1
  go_enter Tryz.func24, Tryz.ntmps24
  go_upto_region 1 with fail
  clear hW
  generalize (w.alloc hd.cells).alloc hg.cells = w0 at *
  go_upto_region 4 with ((with_reducible refine HCK.out.mono ?_); rintro e W2 hr; obtain ⟨he, K, hs2, hk2⟩ := hr.yes (allOkN1 HA.out); subst he; have HS2 := Lib.hid hs2; have HK2 := Lib.hid hk2; clear hr hs2 hk2)
  go_upto_region 5 with fail
  have HB3 := Lib.hid (boolsW_below W2)
  have HR3 := Lib.hid (boolsW_row W2)
  have hls := lt_of_block HS2.out.sp.cells
  have HF3 := Lib.hid (HS2.out.sp.ar.foreign_new HB3.out (Nat.le_refl _) (lt_of_block HR3.out))
  have HN3 : Hid (W2.heap.size ≠ km ∧ W2.heap.size ≠ S) := Lib.hid (by have := HS2.out.sp.fk.1; omega)
  have HS3 := Lib.hid (HS2.out.below HB3.out)
  have HK3 := Lib.hid (HK0.out.trans (HK2.out.trans (HS2.out.kept HB3.out)))
  have hk3 := blk_below HB3.out ((HK2.out.same _ HFO.out.1 HNE.out.1).1.trans HBK.out.1)
  have hg3 := blk_below HB3.out ((HK2.out.same _ HFO.out.2 HNE.out.2).1.trans HBK.out.2)
  have hl3 : w.heap.size + 1 < W2.heap.size := (HK2.out.same _ HFO.out.2 HNE.out.2).2.1
  unfold Hd.cells at hk3 hg3
  clear hls hmk
  generalize boolsW W2 = W3 at *
  have e0 : W3.cell? ⟨w.heap.size, 0, none⟩ = some (.int .u32 hd.src) := cell_of_row _ _ 0 _ _ (0, 0) hk3
  have e1 : W3.cell? ⟨w.heap.size, 1, none⟩ = some (.int .u32 hd.dst) := cell_of_row _ _ 1 _ _ (0, 0) hk3
  have e2 : W3.cell? ⟨w.heap.size, 2, none⟩ = some (.int .u8 hd.proto) := cell_of_row _ _ 2 _ _ (0, 0) hk3
  have e3 : W3.cell? ⟨w.heap.size, 3, none⟩ = some (.int .u16 hd.sp) := cell_of_row _ _ 3 _ _ (0, 0) hk3
  have e4 : W3.cell? ⟨w.heap.size, 4, none⟩ = some (.int .u16 hd.dp) := cell_of_row _ _ 4 _ _ (0, 0) hk3
  have HLAY := Lib.hid (lay_any nowF hd HH.out.1 (fun _ => false) W2.heap.size HR3.out)
  clear hk3
  go_upto_region 6 with ((with_reducible refine HLAY.out.mono ?_); rintro e W4 ⟨rfl, hr4, hg4⟩; have HR4 := Lib.hid hr4; have HG4 := Lib.hid hg4; clear hr4 hg4)
  have hs4 := grown_space HS3.out HG4.out HF3.out HN3.out.1 HN3.out.2
  have hg4 := (HG4.out.block _ (lt_of_block hg3) (fun e => by injection e; omega)).trans hg3
  have g0 : W4.cell? ⟨w.heap.size + 1, 0, none⟩ = some (.int .u32 hg.src) := cell_of_row _ _ 0 _ _ (0, 0) hg4
  have g1 : W4.cell? ⟨w.heap.size + 1, 1, none⟩ = some (.int .u32 hg.dst) := cell_of_row _ _ 1 _ _ (0, 0) hg4
  have g2 : W4.cell? ⟨w.heap.size + 1, 2, none⟩ = some (.int .u8 hg.proto) := cell_of_row _ _ 2 _ _ (0, 0) hg4
  have g3 : W4.cell? ⟨w.heap.size + 1, 3, none⟩ = some (.int .u16 hg.sp) := cell_of_row _ _ 3 _ _ (0, 0) hg4
  have g4 : W4.cell? ⟨w.heap.size + 1, 4, none⟩ = some (.int .u16 hg.dp) := cell_of_row _ _ 4 _ _ (0, 0) hg4
  have HS4 := Lib.hid hs4
  have HLAY2 := Lib.hid (lay_any thenF hg HH.out.2 (nowS hd) W2.heap.size HR4.out)
  clear hs4 hg3 hg4 e0 e1 e2 e3 e4 hl3 HLAY
  go_upto_region 7 with ((with_reducible refine HLAY2.out.mono ?_); rintro e W5 ⟨rfl, hr5, hg5⟩; have HR5 := Lib.hid hr5; have HG5 := Lib.hid (HG4.out.trans hg5); clear hr5 hg5)
  obtain ⟨hs5, hf5⟩ := grown_space HS3.out HG5.out HF3.out HN3.out.1 HN3.out.2
  have c0 := hs5.sp.c0
  have HS5 := Lib.hid hs5
  have HK5 : Hid (KeptS A km w W5) := Lib.hid (keptG HK3.out HG5.out (by have := HK0.out.size; have := HK2.out.size; omega) hf5)
  have HAT := Lib.hid (hs5.at (HA.out.known K) W2.heap.size (bothS hd hg) HR5.out)
  clear hs5 hf5 g0 g1 g2 g3 g4
  go_wp2_with ((with_reducible refine HAT.out.mono ?_); rintro e W6 ⟨rfl, hb6⟩; have HS6 := Lib.hid (HS5.out.below hb6); have HK6 := Lib.hid (HK5.out.trans (HS5.out.kept hb6)); clear hb6)
  go_ret2
  exact ⟨rfl, K, HS6.out, HK6.out⟩
end
end Go.Proofs.YtdjikiakcfbklaaGreat

/-
  Where the relation of the small example leads.
-/
namespace Go.Proofs.YtdjikiakcfbklaaGreat
open Go Go.RowKit Go.ChangeMaps Go.MapKept Go.Maps Go.Lib Go.Sort

def exA : Hd := ⟨167772161, 134744072, 0, 0, 0⟩
def exB : Hd := ⟨16909060, 134744072, 0, 0, 0⟩
theorem small_at (v0 v1 : Value) (s : Nat → Bool) : relW false smallL (smallF v0 v1) s = (((false || (rwPut false sx0 s && (true && bitsF 0 0 8 10 8 s))) || (rwPut false sx2 s && ((true && !bitsF 0 0 8 10 8 s) && true))) || (sameF 0 0 104 s && ((true && !bitsF 0 0 8 10 8 s) && !true))) := by
  show (outW false smallL (smallF v0 v1) 3 s || (sameF 0 0 104 s && leftW false smallL (smallF v0 v1) 3 s)) = _
  rw [(small_left v0 v1).2.2, (small_out v0 v1).2.2]
theorem small_yes (v0 v1 : Value) : relW false smallL (smallF v0 v1) (bothS exA exB) = true := by
  rw [small_at]
  decide +kernel
theorem small_no (v0 v1 : Value) : relW false smallL (smallF v0 v1) (bothS exA exA) = false := by
  rw [small_at]
  decide +kernel
end Go.Proofs.YtdjikiakcfbklaaGreat

/-
  The walks of the law's example.
-/
namespace Go.Proofs.YtdjikiakcfbklaaGreat
open Go Go.RowKit Go.ChangeMaps Go.MapKept Go.Maps Go.Lib Go.Sort

section
set_option maxRecDepth 100000
set_option maxHeartbeats 4000000
theorem lawAll_any (w : World) : Calls Tryz.prog 66 #[] w fun e w' => e = .returned (.agg #[.bool true, .int .i64 (-1), .int .u32 0, .int .i64 0, .int .u32 0, .int .i64 0, .int .u32 0, .int .u32 65535, .int .u32 0, .int .u32 65535]) ∧ Below w.heap.size w w' := by
  go_enter Tryz.func66, Tryz.ntmps66
  go_wp2
  exact bodyPost_ret (results_cell_row Tryz.results66 _ _ w.heap.size _ _ (0, 0) _ rfl (blk1 w _) Tryz.underlying74 rfl (by kernel_rfl)) rfl ⟨rfl, below1 w _⟩
end
end Go.Proofs.YtdjikiakcfbklaaGreat

/-
  What waymarklaw11.small hands back, out of its four blocks.
-/
namespace Go.Proofs.YtdjikiakcfbklaaGreat
open Go Go.RowKit Go.ChangeMaps Go.MapKept Go.Maps Go.Lib Go.Sort

theorem smallFin {w W : World} {e : Ending} {gl g0 g1 gv : Nat} (he : e = .returned (.tuple #[.slice (some ⟨gl, 0, none⟩) 3 3, .slice (some ⟨gv, 0, none⟩) 2 2])) (hb : Below w.heap.size w W)
    (kl : W.heap[gl]? = some (.cells #[.bool false, .string ⟨#[102]⟩, .int .u32 16909060, .bool true, .string ⟨#[103]⟩, .int .u32 84281096, .bool false, .string ⟨#[103]⟩, .int .u32 151587081] 33 (0, 0)))
    (k0 : W.heap[g0]? = some (.cells #[.bool true, .int .i64 (-1), .int .u32 167772160, .int .i64 8, .int .u32 0, .int .i64 0, .int .u32 0, .int .u32 65535, .int .u32 0, .int .u32 65535] 74 (0, 0)))
    (k1 : W.heap[g1]? = some (.cells #[.bool true, .int .i64 (-1), .int .u32 0, .int .i64 0, .int .u32 0, .int .i64 0, .int .u32 0, .int .u32 65535, .int .u32 0, .int .u32 65535] 74 (0, 0)))
    (kv : W.heap[gv]? = some (.cells #[.string ⟨#[102]⟩, .slice (some ⟨g0, 0, none⟩) 1 1, .string ⟨#[103]⟩, .slice (some ⟨g1, 0, none⟩) 1 1] 77 (0, 0))) :
    ∃ (v0 v1 : Value) (hl hv : Nat), e = .returned (.tuple #[.slice (some ⟨hl, 0, none⟩) 3 3, .slice (some ⟨hv, 0, none⟩) 2 2]) ∧ Rd W W.heap.size 3 (.slice (some ⟨hl, 0, none⟩) 3 3) 3 (wcells smallL) ∧ FsAt W W.heap.size (.slice (some ⟨hv, 0, none⟩) 2 2) (smallF v0 v1) ∧ Below w.heap.size w W := by
  refine ⟨.slice (some ⟨g0, 0, none⟩) 1 1, .slice (some ⟨g1, 0, none⟩) 1 1, gl, gv, he, Rd.of_blk (k := 3) (n := 3) (c := 3) kl (Nat.le_refl _) rfl, ⟨Rd.of_blk (k := 2) (n := 2) (c := 2) kv (Nat.le_refl _) rfl, ?_⟩, hb⟩
  intro f hf
  have h2 : f = ⟨⟨#[102]⟩, .slice (some ⟨g0, 0, none⟩) 1 1, [tenR]⟩ ∨ f = ⟨⟨#[103]⟩, .slice (some ⟨g1, 0, none⟩) 1 1, [openR]⟩ := by simpa [smallF] using hf
  rcases h2 with rfl | rfl
  · exact ⟨Rd.of_blk (k := 10) (n := 1) (c := 1) k0 (Nat.le_refl _) rfl, by show 1 * 64 ≤ _; omega⟩
  · exact ⟨Rd.of_blk (k := 10) (n := 1) (c := 1) k1 (Nat.le_refl _) rfl, by show 1 * 64 ≤ _; omega⟩
end Go.Proofs.YtdjikiakcfbklaaGreat

/-
  The walks of the law's example.
-/
namespace Go.Proofs.YtdjikiakcfbklaaGreat
open Go Go.RowKit Go.ChangeMaps Go.MapKept Go.Maps Go.Lib Go.Sort

section
set_option maxRecDepth 100000
set_option maxHeartbeats 4000000
theorem blkNew (w : World) (o : Obj) {k : Nat} (hk : k = w.heap.size) : (w.alloc o).heap[k]? = some o := by subst hk; exact blk1 w o
theorem belowStep {w W W' : World} (h9 : Below W.heap.size W W') (h : Below w.heap.size w W) : Below w.heap.size w W' := h.trans (h9.mono h.size)
theorem belowAlloc {w W : World} (o : Obj) (h : Below w.heap.size w W) : Below w.heap.size w (W.alloc o) := h.alloc h.size o
theorem belowDrew {w W : World} (h : Below w.heap.size w W) : Below w.heap.size w W.drew := ⟨h.os, h.tape, h.output, h.size, h.block⟩
theorem blkDrew {W : World} {k : Nat} {o : Obj} (h : W.heap[k]? = some o) : W.drew.heap[k]? = some o := h
theorem lawSmall_any (w : World) : Calls Tryz.prog 33 #[] w fun e w' => ∃ (v0 v1 : Value) (hl hv : Nat), e = .returned (.tuple #[.slice (some ⟨hl, 0, none⟩) 3 3, .slice (some ⟨hv, 0, none⟩) 2 2]) ∧ Rd w' w'.heap.size 3 (.slice (some ⟨hl, 0, none⟩) 3 3) 3 (wcells smallL) ∧ FsAt w' w'.heap.size (.slice (some ⟨hv, 0, none⟩) 2 2) (smallF v0 v1) ∧ Below w.heap.size w w' := by
  have HALL := Lib.hid lawAll_any
  go_enter Tryz.func33, Tryz.ntmps33
  go_upto_region 2 with ((with_reducible refine (HALL.out _).mono ?_); rintro e w1 ⟨rfl, hb1⟩; have HB1 := Lib.hid hb1; clear hb1)
  have k1 := blk1 w1 (.cells #[.bool true, .int .i64 (-1), .int .u32 0, .int .i64 0, .int .u32 0, .int .i64 0, .int .u32 0, .int .u32 65535, .int .u32 0, .int .u32 65535] 74)
  have HB2 := Lib.hid (HB1.out.alloc HB1.out.size (.cells #[.bool true, .int .i64 (-1), .int .u32 0, .int .i64 0, .int .u32 0, .int .i64 0, .int .u32 0, .int .u32 65535, .int .u32 0, .int .u32 65535] 74))
  have hz : w.heap.size ≤ w1.heap.size := HB1.out.size
  generalize w1.alloc (.cells #[.bool true, .int .i64 (-1), .int .u32 0, .int .i64 0, .int .u32 0, .int .i64 0, .int .u32 0, .int .u32 65535, .int .u32 0, .int .u32 65535] 74) = w2 at *
  have c2 : w2.cell? ⟨w1.heap.size, 2, none⟩ = some (.int .u32 0) := cell_of_row _ _ 2 _ _ (0, 0) k1
  have c3 : w2.cell? ⟨w1.heap.size, 3, none⟩ = some (.int .i64 0) := cell_of_row _ _ 3 _ _ (0, 0) k1
  have f2 := frozen_of_row _ _ 2 _ _ k1
  have f3 := frozen_of_row _ _ 3 _ _ k1
  have y1 : (w2.setCell ⟨w1.heap.size, 2, none⟩ (.int .u32 167772160)).heap[w1.heap.size]? = some (.cells #[.bool true, .int .i64 (-1), .int .u32 167772160, .int .i64 0, .int .u32 0, .int .i64 0, .int .u32 0, .int .u32 65535, .int .u32 0, .int .u32 65535] 74 (0, 0)) := heap_setCell_same _ _ _ _ _ _ k1
  have y2 : ((w2.setCell ⟨w1.heap.size, 2, none⟩ (.int .u32 167772160)).setCell ⟨w1.heap.size, 3, none⟩ (.int .i64 8)).heap[w1.heap.size]? = some (.cells #[.bool true, .int .i64 (-1), .int .u32 167772160, .int .i64 8, .int .u32 0, .int .i64 0, .int .u32 0, .int .u32 65535, .int .u32 0, .int .u32 65535] 74 (0, 0)) := heap_setCell_same _ _ _ _ _ _ y1
  have g2 := (HB2.out.setCell (p := ⟨w1.heap.size, 2, none⟩) hz (.int .u32 167772160)).setCell (p := ⟨w1.heap.size, 3, none⟩) hz (.int .i64 8)
  have HY := Lib.hid y2
  have HG := Lib.hid g2
  clear y1 y2 g2 k1 HB2 HB1
  go_upto_region 3 with fail
  clear c2 c3 f2 f3
  generalize (w2.setCell ⟨w1.heap.size, 2, none⟩ (.int .u32 167772160)).setCell ⟨w1.heap.size, 3, none⟩ (.int .i64 8) = w3 at *
  have d0 : w3.cell? ⟨w1.heap.size, 0, none⟩ = some (.bool true) := cell_of_row _ _ 0 _ _ (0, 0) HY.out
  have d1 : w3.cell? ⟨w1.heap.size, 1, none⟩ = some (.int .i64 (-1)) := cell_of_row _ _ 1 _ _ (0, 0) HY.out
  have d2 : w3.cell? ⟨w1.heap.size, 2, none⟩ = some (.int .u32 167772160) := cell_of_row _ _ 2 _ _ (0, 0) HY.out
  have d3 : w3.cell? ⟨w1.heap.size, 3, none⟩ = some (.int .i64 8) := cell_of_row _ _ 3 _ _ (0, 0) HY.out
  have d4 : w3.cell? ⟨w1.heap.size, 4, none⟩ = some (.int .u32 0) := cell_of_row _ _ 4 _ _ (0, 0) HY.out
  have d5 : w3.cell? ⟨w1.heap.size, 5, none⟩ = some (.int .i64 0) := cell_of_row _ _ 5 _ _ (0, 0) HY.out
  have d6 : w3.cell? ⟨w1.heap.size, 6, none⟩ = some (.int .u32 0) := cell_of_row _ _ 6 _ _ (0, 0) HY.out
  have d7 : w3.cell? ⟨w1.heap.size, 7, none⟩ = some (.int .u32 65535) := cell_of_row _ _ 7 _ _ (0, 0) HY.out
  have d8 : w3.cell? ⟨w1.heap.size, 8, none⟩ = some (.int .u32 0) := cell_of_row _ _ 8 _ _ (0, 0) HY.out
  have d9 : w3.cell? ⟨w1.heap.size, 9, none⟩ = some (.int .u32 65535) := cell_of_row _ _ 9 _ _ (0, 0) HY.out
  have l0 := lt_of_block HY.out
  go_region_held3 (fun w' => w'.cell? ⟨w1.heap.size, 0, none⟩ = some (.bool true) ∧ w'.cell? ⟨w1.heap.size, 1, none⟩ = some (.int .i64 (-1)) ∧ w'.cell? ⟨w1.heap.size, 2, none⟩ = some (.int .u32 167772160) ∧ w'.cell? ⟨w1.heap.size, 3, none⟩ = some (.int .i64 8) ∧ w'.cell? ⟨w1.heap.size, 4, none⟩ = some (.int .u32 0) ∧ w'.cell? ⟨w1.heap.size, 5, none⟩ = some (.int .i64 0) ∧ w'.cell? ⟨w1.heap.size, 6, none⟩ = some (.int .u32 0) ∧ w'.cell? ⟨w1.heap.size, 7, none⟩ = some (.int .u32 65535) ∧ w'.cell? ⟨w1.heap.size, 8, none⟩ = some (.int .u32 0) ∧ w'.cell? ⟨w1.heap.size, 9, none⟩ = some (.int .u32 65535)) (go_keep) (((with_reducible refine (HALL.out _).mono ?_); rintro e w9 ⟨rfl, hb9⟩; have HB9 := Lib.hid hb9; have e0 : w9.cell? ⟨w1.heap.size, 0, none⟩ = some (.bool true) := (hb9.cell (p := ⟨w1.heap.size, 0, none⟩) (by first | omega | (simp; done) | (simp; omega))).trans (by first | assumption | (simp only [*]; done) | simp_all); have e1 : w9.cell? ⟨w1.heap.size, 1, none⟩ = some (.int .i64 (-1)) := (hb9.cell (p := ⟨w1.heap.size, 1, none⟩) (by first | omega | (simp; done) | (simp; omega))).trans (by first | assumption | (simp only [*]; done) | simp_all); have e2 : w9.cell? ⟨w1.heap.size, 2, none⟩ = some (.int .u32 167772160) := (hb9.cell (p := ⟨w1.heap.size, 2, none⟩) (by first | omega | (simp; done) | (simp; omega))).trans (by first | assumption | (simp only [*]; done) | simp_all); have e3 : w9.cell? ⟨w1.heap.size, 3, none⟩ = some (.int .i64 8) := (hb9.cell (p := ⟨w1.heap.size, 3, none⟩) (by first | omega | (simp; done) | (simp; omega))).trans (by first | assumption | (simp only [*]; done) | simp_all); have e4 : w9.cell? ⟨w1.heap.size, 4, none⟩ = some (.int .u32 0) := (hb9.cell (p := ⟨w1.heap.size, 4, none⟩) (by first | omega | (simp; done) | (simp; omega))).trans (by first | assumption | (simp only [*]; done) | simp_all); have e5 : w9.cell? ⟨w1.heap.size, 5, none⟩ = some (.int .i64 0) := (hb9.cell (p := ⟨w1.heap.size, 5, none⟩) (by first | omega | (simp; done) | (simp; omega))).trans (by first | assumption | (simp only [*]; done) | simp_all); have e6 : w9.cell? ⟨w1.heap.size, 6, none⟩ = some (.int .u32 0) := (hb9.cell (p := ⟨w1.heap.size, 6, none⟩) (by first | omega | (simp; done) | (simp; omega))).trans (by first | assumption | (simp only [*]; done) | simp_all); have e7 : w9.cell? ⟨w1.heap.size, 7, none⟩ = some (.int .u32 65535) := (hb9.cell (p := ⟨w1.heap.size, 7, none⟩) (by first | omega | (simp; done) | (simp; omega))).trans (by first | assumption | (simp only [*]; done) | simp_all); have e8 : w9.cell? ⟨w1.heap.size, 8, none⟩ = some (.int .u32 0) := (hb9.cell (p := ⟨w1.heap.size, 8, none⟩) (by first | omega | (simp; done) | (simp; omega))).trans (by first | assumption | (simp only [*]; done) | simp_all); have e9 : w9.cell? ⟨w1.heap.size, 9, none⟩ = some (.int .u32 65535) := (hb9.cell (p := ⟨w1.heap.size, 9, none⟩) (by first | omega | (simp; done) | (simp; omega))).trans (by first | assumption | (simp only [*]; done) | simp_all); clear hb9))
  all_goals
    clear d0 d1 d2 d3 d4 d5 d6 d7 d8 d9 e0 e1 e2 e3 e4 e5 e6 e7 e8 e9 HY HALL
    go_wp2
    go_ret2
    apply smallFin rfl
    case hb => repeat (first | exact HG.out | with_reducible refine belowDrew ?_ | with_reducible refine belowAlloc _ ?_ | with_reducible refine belowStep HB9.out ?_)
    case kv => repeat (first | with_reducible refine blkDrew ?_ | ((with_reducible refine blkNew _ _ ?_); simp; done) | ((with_reducible refine blkNew _ _ ?_); simp [World.drew]; done) | with_reducible refine blk_below (below1 _ _) ?_ | with_reducible refine blk_below HB9.out ?_)
    case kl => repeat (first | with_reducible refine blkDrew ?_ | ((with_reducible refine blkNew _ _ ?_); simp; done) | ((with_reducible refine blkNew _ _ ?_); simp [World.drew]; done) | with_reducible refine blk_below (below1 _ _) ?_ | with_reducible refine blk_below HB9.out ?_)
    case k0 => repeat (first | with_reducible refine blkDrew ?_ | ((with_reducible refine blkNew _ _ ?_); simp; done) | ((with_reducible refine blkNew _ _ ?_); simp [World.drew]; done) | with_reducible refine blk_below (below1 _ _) ?_ | with_reducible refine blk_below HB9.out ?_)
    case k1 => repeat (first | with_reducible refine blkDrew ?_ | ((with_reducible refine blkNew _ _ ?_); simp; done) | ((with_reducible refine blkNew _ _ ?_); simp [World.drew]; done) | with_reducible refine blk_below (below1 _ _) ?_ | with_reducible refine blk_below HB9.out ?_)
end
end Go.Proofs.YtdjikiakcfbklaaGreat

/-
  What the small example gives (plain), and the law's works.
-/
namespace Go.Proofs.YtdjikiakcfbklaaGreat
open Go Go.RowKit Go.ChangeMaps Go.MapKept Go.Maps Go.Lib Go.Sort

theorem small_fb (v0 v1 : Value) : namB (smallF v0 v1) ⟨#[102]⟩ = true := by
  have hn : ¬ (⟨#[102]⟩ : ByteArray).toList = [] := by rw [nm_f]; simp
  have h := fnd_hit (Fs := smallF v0 v1) (nm := ⟨#[102]⟩) (k := 0) (idxP_hit _ _ 0 _ rfl (by unfold hasNm; simp) (fun j y hj _ => by omega)) rfl
  exact (nam_hit hn h).1
theorem small_gb (v0 v1 : Value) : namB (smallF v0 v1) ⟨#[103]⟩ = true := by
  have hn : ¬ (⟨#[103]⟩ : ByteArray).toList = [] := by rw [nm_g]; simp
  have h := fnd_hit (Fs := smallF v0 v1) (nm := ⟨#[103]⟩) (k := 1) (idxP_hit _ _ 1 _ rfl (by unfold hasNm; simp) (fun j y hj hy => by
    obtain rfl : j = 0 := by omega
    injection hy with hy
    subst hy
    unfold hasNm
    rw [nm_f, nm_g]
    decide)) rfl
  exact (nam_hit hn h).1
theorem ten_e : filtE [tenR] = 0 := by decide +kernel
theorem open_e : filtE [openR] = 0 := by decide +kernel
theorem small_mem {x : RewV} (h : x ∈ smallL) : x.nm = ⟨#[102]⟩ ∨ x.nm = ⟨#[103]⟩ := by
  simp only [smallL, List.mem_cons, List.not_mem_nil, or_false] at h
  rcases h with rfl | rfl | rfl
  · exact .inl rfl
  · exact .inr rfl
  · exact .inr rfl
theorem small_err (v0 v1 : Value) {x : RewV} (h : x.nm = ⟨#[102]⟩ ∨ x.nm = ⟨#[103]⟩) : errX (smallF v0 v1) x = 0 := by
  rcases h with h | h
  · exact errX_3 (by rw [h]; exact small_fb v0 v1) (by rw [h, small_f]; exact ten_e)
  · exact errX_3 (by rw [h]; exact small_gb v0 v1) (by rw [h, small_g]; exact open_e)
theorem small_e (v0 v1 : Value) : rwE (smallF v0 v1) smallL = 0 := by
  rw [rwE_2 (show ¬ 256 < smallL.length by decide)]
  exact chkE_all fun j x hx => small_err v0 v1 (small_mem (List.mem_of_getElem? hx))
theorem small_pf (v0 v1 : Value) (h : HeaderV) : namP (smallF v0 v1) ⟨#[102]⟩ h = permN [tenR] h := by unfold namP; rw [small_f]
theorem small_pg (v0 v1 : Value) (h : HeaderV) : namP (smallF v0 v1) ⟨#[103]⟩ h = permN [openR] h := by unfold namP; rw [small_g]
def exH : HeaderV := ⟨167772161, 134744072, 0, 0, 0, by omega, by omega, by omega, by omega, by omega⟩
theorem ten_exH : permN [tenR] exH = true := by decide +kernel
theorem open_exH : permN [openR] exH = true := by decide +kernel
theorem small_fir (v0 v1 : Value) : firN (smallF v0 v1) smallL false exH = 0 := by
  rw [firN_ok false exH (small_e v0 v1)]
  exact idxP_hit _ _ 0 _ rfl (by show (false == false && namP (smallF v0 v1) ⟨#[102]⟩ exH) = true; rw [small_pf, ten_exH]; rfl) (fun j y hj _ => by omega)
def sx1 : RewV := ⟨true, ⟨#[103]⟩, 84281096, by omega⟩
theorem small_ap (v0 v1 : Value) : apH (smallF v0 v1) smallL true exH = setD exH sx1 :=
  apH_d (k := 1) (x := sx1) (small_e v0 v1) (idxP_hit _ _ 1 _ rfl (by show (true == true && namP (smallF v0 v1) ⟨#[103]⟩ exH) = true; rw [small_pg, open_exH]; rfl) (fun j y hj hy => by
    obtain rfl : j = 0 := by omega
    injection hy with hy
    subst hy
    rfl)) rfl
theorem exA_ok : exA.ok := by constructor <;> decide
theorem exB_ok : exB.ok := by constructor <;> decide
theorem nsg_h : newSg.H.length = 0 := rfl
theorem nsg_n : newSg.N.length = 2 := rfl
section
set_option maxRecDepth 100000
set_option maxHeartbeats 8000000
theorem lawWorks_any (w : World) : Calls Tryz.prog 6 #[] w fun e w' => e = .returned (.bool true) ∧ Below w.heap.size w w' := by
  have HSM := Lib.hid (lawSmall_any w)
  go_enter Tryz.func6, Tryz.ntmps6
  go_upto_region 2 with ((with_reducible refine HSM.out.mono ?_); rintro e w1 ⟨v0, v1, gl, gv, rfl, hl1, hf1, hb1⟩; have HL1 := Lib.hid hl1; have HF1 := Lib.hid hf1; have HB1 := Lib.hid hb1; clear hl1 hf1 hb1)
  clear HSM
  have hbA := below1 w1 (.cells #[.int .u32 167772161, .int .u32 134744072, .int .u8 0, .int .u16 0, .int .u16 0] 28)
  have hkA := blk1 w1 (.cells #[.int .u32 167772161, .int .u32 134744072, .int .u8 0, .int .u16 0, .int .u16 0] 28)
  have HL2 := Lib.hid ((HL1.out.below hbA).mono hbA.size)
  have HF2 := Lib.hid (HF1.out.next hbA)
  have HB2 := Lib.hid (HB1.out.trans (hbA.mono HB1.out.size))
  have HK2 := Lib.hid hkA
  clear hbA hkA HL1 HF1
  go_upto_region 3 with fail
  have hgz : w.heap.size ≤ w1.heap.size := HB1.out.size
  generalize hg0 : w1.heap.size = g0 at *
  clear hg0
  generalize w1.alloc (.cells #[.int .u32 167772161, .int .u32 134744072, .int .u8 0, .int .u16 0, .int .u16 0] 28) = w2 at *
  have hfir := rwFirst_any smallL _ (smallF v0 v1) _ false exH w2 HL2.out HF2.out (by show 2 ≤ _; omega)
  rw [small_fir, small_e] at hfir
  have HFIR : Hid (Calls Tryz.prog 37 #[.slice (some ⟨gl, 0, none⟩) 3 3, .slice (some ⟨gv, 0, none⟩) 2 2, .bool false, .agg #[.int .u32 167772161, .int .u32 134744072, .int .u8 0, .int .u16 0, .int .u16 0]] w2 (fun e w' => e = .returned (.tuple #[.int .i64 0, .int .i64 0]) ∧ Below w2.heap.size w2 w')) := Lib.hid hfir
  obtain ⟨c0, c1, c2, c3, c4, _⟩ := five_cells HK2.out
  clear hfir HB1
  go_upto_region 4 with ((with_reducible refine HFIR.out.mono ?_); rintro e w3 ⟨rfl, hb3⟩; have HB3 := Lib.hid hb3; clear hb3)
  clear HFIR c0 c1 c2 c3 c4
  have HL3 := Lib.hid ((HL2.out.below HB3.out).mono HB3.out.size)
  have HF3 := Lib.hid (HF2.out.next HB3.out)
  have HX3 : Hid (Below w.heap.size w w3) := Lib.hid (HB2.out.trans (HB3.out.mono HB2.out.size))
  have HK3 := Lib.hid (blk_below HB3.out HK2.out)
  clear HL2 HF2 HB2 HK2 HB3
  have hap := rwApply_any smallL _ (smallF v0 v1) _ true exH w3 HL3.out HF3.out (by show 2 ≤ _; omega)
  rw [small_ap, small_e] at hap
  have HAP : Hid (Calls Tryz.prog 8 #[.slice (some ⟨gl, 0, none⟩) 3 3, .slice (some ⟨gv, 0, none⟩) 2 2, .bool true, .agg #[.int .u32 167772161, .int .u32 134744072, .int .u8 0, .int .u16 0, .int .u16 0]] w3 (fun e w' => e = .returned (.tuple #[.agg #[.int .u32 167772161, .int .u32 84281096, .int .u8 0, .int .u16 0, .int .u16 0], .int .i64 0]) ∧ Below w3.heap.size w3 w')) := Lib.hid hap
  obtain ⟨c0, c1, c2, c3, c4, _⟩ := five_cells HK3.out
  clear hap
  go_upto_region 5 with ((with_reducible refine HAP.out.mono ?_); rintro e w4 ⟨rfl, hb4⟩; have HB4 := Lib.hid hb4; clear hb4)
  clear HAP c0 c1 c2 c3 c4
  have hbA := below1 w4 (.cells #[.int .u32 167772161, .int .u32 84281096, .int .u8 0, .int .u16 0, .int .u16 0] 28)
  have hkA := blk1 w4 (.cells #[.int .u32 167772161, .int .u32 84281096, .int .u8 0, .int .u16 0, .int .u16 0] 28)
  have hbB := HB4.out.trans (hbA.mono HB4.out.size)
  have HL4 := Lib.hid ((HL3.out.below hbB).mono hbB.size)
  have HF4 := Lib.hid (HF3.out.next hbB)
  have HX4 : Hid (Below w.heap.size w (w4.alloc (.cells #[.int .u32 167772161, .int .u32 84281096, .int .u8 0, .int .u16 0, .int .u16 0] 28))) := Lib.hid (HX3.out.trans (hbB.mono HX3.out.size))
  have HK4 := Lib.hid (blk_below hbB HK3.out)
  have HA4 := Lib.hid hkA
  clear HL3 HF3 HX3 HK3 HB4 hbA hkA hbB
  generalize w4.heap.size = g4 at *
  generalize w4.alloc (.cells #[.int .u32 167772161, .int .u32 84281096, .int .u8 0, .int .u16 0, .int .u16 0] 28) = w5 at *
  have HNEW := Lib.hid (show Calls Tryz.prog 10 #[.int .i64 4194304] w5 (fun e w' => ∃ (S km : Nat) (A : Blks), e = .returned (.tuple #[.pointer (some ⟨S, 0, none⟩), .int .i64 0]) ∧ SpAt w' w5.heap.size S km A 4194304 N0 [] [0, 1] [] ∧ Below w5.heap.size w5 w' ∧ w5.heap.size ≤ S ∧ w5.heap.size ≤ km) from relNew_any w5 4194304 (Nat.le_refl _))
  go_upto_region 6 with ((with_reducible refine HNEW.out.mono ?_); rintro e w6 ⟨S, km, A, rfl, hs6, hb6, hS6, hkm6⟩; have HS6 := Lib.hid hs6.newOk; have HB6 := Lib.hid hb6; have HLO := Lib.hid (And.intro hS6 hkm6); clear hs6 hb6 hS6 hkm6)
  clear HNEW
  have HZ5 : Hid (w.heap.size ≤ w5.heap.size) := Lib.hid HX4.out.size
  have HX6 : Hid (Below w.heap.size w w6) := Lib.hid (HX4.out.trans (HB6.out.mono HX4.out.size))
  have HK6 := Lib.hid (blk_below HB6.out HK4.out)
  have HA6 := Lib.hid (blk_below HB6.out HA4.out)
  have HLT : Hid (g0 < w5.heap.size ∧ g4 < w5.heap.size) := Lib.hid ⟨lt_of_block HK4.out, lt_of_block HA4.out⟩
  have hrel := relation_yes HS6.out HLO.out.2 (HL4.out.below HB6.out) (HF4.out.below HB6.out) (by show 2 ≤ _; omega) (by decide) (small_e v0 v1) (dest := false) (fun k x hx hd => small_step v0 v1 k x hx hd) (small_keep v0 v1) (small_rel v0 v1) (by rw [nsg_h]; show 0 + (3 * stepC 29952 1 + 936 + (29952 + 179712)) ≤ _; unfold stepC; omega) (by rw [nsg_n]; show 2 + (3 * stepC 29952 1 + 936 + (29952 + 179712)) ≤ _; unfold stepC; omega)
  have HREL := Lib.hid hrel
  clear hrel HL4 HF4 HX4 HK4 HA4
  go_upto_region 7 with ((with_reducible refine HREL.out.mono ?_); rintro e w7 ⟨r, τ7, rfl, hs7, hk7, ht7, hd7⟩; have HS7 := Lib.hid hs7; have HKS := Lib.hid hk7; have HD7 := Lib.hid hd7; clear hs7 hk7 ht7 hd7)
  have HLW := Lib.hid (HS6.out.low HLO.out.2 HKS.out)
  have HX7 : Hid (Below w.heap.size w w7) := Lib.hid (HX6.out.trans (HLW.out.mono HZ5.out))
  clear HREL
  have HK7 := Lib.hid ((HLW.out.block _ HLT.out.1).trans HK6.out)
  have HA7 := Lib.hid ((HLW.out.block _ HLT.out.2).trans HA6.out)
  clear HK6 HA6 HX6 HKS HLW HS6 HB6
  have hle := leads_yes HS7.out HD7.out exA exB exA_ok exB_ok
  rw [small_yes] at hle
  have HLE : Hid (Calls Tryz.prog 24 #[.pointer (some ⟨S, 0, none⟩), .int .i64 r, .agg #[.int .u32 167772161, .int .u32 134744072, .int .u8 0, .int .u16 0, .int .u16 0], .agg #[.int .u32 16909060, .int .u32 134744072, .int .u8 0, .int .u16 0, .int .u16 0]] w7 (AskRes w7 w5.heap.size S km A 4194304 τ7 (.tuple #[.bool true, .int .i64 0]))) := Lib.hid hle
  clear hle
  obtain ⟨c0, c1, c2, c3, c4, _⟩ := five_cells HK7.out
  go_upto_region 8 with ((with_reducible refine HLE.out.mono ?_); rintro e w8 ⟨rfl, K8, hs8, hk8⟩; have HS8 := Lib.hid hs8; have HKS := Lib.hid hk8; clear hs8 hk8)
  clear c0 c1 c2 c3 c4 HLE
  have HLW := Lib.hid (HS7.out.low HLO.out.2 HKS.out)
  have HX8 : Hid (Below w.heap.size w w8) := Lib.hid (HX7.out.trans (HLW.out.mono HZ5.out))
  have HK8 := Lib.hid ((HLW.out.block _ HLT.out.1).trans HK7.out)
  have HA8 := Lib.hid ((HLW.out.block _ HLT.out.2).trans HA7.out)
  have HD8 := Lib.hid (HD7.out.known K8)
  clear HK7 HA7 HX7 HKS HLW HS7 HD7
  have hle := leads_yes HS8.out HD8.out exA exA exA_ok exA_ok
  rw [small_no] at hle
  have HLE : Hid (Calls Tryz.prog 24 #[.pointer (some ⟨S, 0, none⟩), .int .i64 r, .agg #[.int .u32 167772161, .int .u32 134744072, .int .u8 0, .int .u16 0, .int .u16 0], .agg #[.int .u32 167772161, .int .u32 134744072, .int .u8 0, .int .u16 0, .int .u16 0]] w8 (AskRes w8 w5.heap.size S km A 4194304 (τ7.know K8) (.tuple #[.bool false, .int .i64 0]))) := Lib.hid hle
  clear hle
  obtain ⟨c0, c1, c2, c3, c4, _⟩ := five_cells HK8.out
  go_upto_region 9 with ((with_reducible refine HLE.out.mono ?_); rintro e w9 ⟨rfl, K9, hs9, hk9⟩; have HS9 := Lib.hid hs9; have HKS := Lib.hid hk9; clear hs9 hk9)
  clear c0 c1 c2 c3 c4 HLE
  have HLW := Lib.hid (HS8.out.low HLO.out.2 HKS.out)
  have HX9 : Hid (Below w.heap.size w w9) := Lib.hid (HX8.out.trans (HLW.out.mono HZ5.out))
  have HA9 := Lib.hid ((HLW.out.block _ HLT.out.2).trans HA8.out)
  clear HK8 HA8 HX8 HKS HLW HS8 HD8
  obtain ⟨c0, c1, c2, c3, c4, _⟩ := five_cells HA9.out
  go_wp2_with fail
  go_ret
  exact ⟨rfl, HX9.out⟩
end
end Go.Proofs.YtdjikiakcfbklaaGreat

/-
  The walk of the law RewriteKinds.
-/
namespace Go.Proofs.YtdjikiakcfbklaaGreat
open Go Go.RowKit Go.ChangeMaps Go.MapKept Go.Maps Go.Lib Go.Sort

instance (V : World) : Nonempty (InW (fun v => Below V.heap.size V v)) := ⟨⟨V, ⟨rfl, rfl, rfl, Nat.le_refl _, fun _ _ => rfl⟩⟩⟩
section
set_option maxRecDepth 100000
set_option maxHeartbeats 8000000
theorem rkSame_any (h : HeaderV) (w : World) : Calls Tryz.prog 9 #[.agg #[.int .u32 h.src, .int .u32 h.dst, .int .u8 h.proto, .int .u16 h.sp, .int .u16 h.dp], .agg #[.int .u32 h.src, .int .u32 h.dst, .int .u8 h.proto, .int .u16 h.sp, .int .u16 h.dp]] w fun e w' => e = .returned (.bool true) ∧ Below w.heap.size w w' := by
  go_enter Tryz.func9, Tryz.ntmps9
  go_wp2
  go_ret
  exact ⟨rfl, below2 w _ _⟩
/-- A goal at which the walk stands still. -/
def StopTag (p : Prop) : Prop := p
theorem stopT {p : Prop} (h : StopTag p) : p := h
/-- What stands behind the loops, and stays. -/
structure KFin (w W : World) (h : HeaderV) (l : List RewV) (vl : Value) (t : Int) (ht : 0 ≤ t ∧ t < 4294967296) (vt vs vd vb : Value) (v : Value) (Fs : List FiltV) : Prop where
  hd : W.heap[w.heap.size]? = some (.cells #[.int .u32 h.src, .int .u32 h.dst, .int .u8 h.proto, .int .u16 h.sp, .int .u16 h.dp] 28 (0, 0))
  rl : Rd W W.heap.size 3 vl l.length (wcells l)
  rt : Rd W W.heap.size 3 vt (trn l).length (wcells (trn l))
  rs : Rd W W.heap.size 3 vs (kd false l).length (wcells (kd false l))
  rd : Rd W W.heap.size 3 vd (kd true l).length (wcells (kd true l))
  rb : Rd W W.heap.size 3 vb (bth t ht l).length (wcells (bth t ht l))
  fs : FsAt W W.heap.size v Fs
  bel : Below w.heap.size w W
theorem KFin.next {w W W' : World} {h : HeaderV} {l : List RewV} {vl : Value} {t : Int} {ht : 0 ≤ t ∧ t < 4294967296} {vt vs vd vb : Value} {v : Value} {Fs : List FiltV} (k : KFin w W h l vl t ht vt vs vd vb v Fs) (hb : Below W.heap.size W W') : KFin w W' h l vl t ht vt vs vd vb v Fs :=
  ⟨blk_below hb k.hd, (k.rl.below hb).mono hb.size, (k.rt.below hb).mono hb.size, (k.rs.below hb).mono hb.size, (k.rd.below hb).mono hb.size, (k.rb.below hb).mono hb.size, k.fs.next hb, k.bel.trans (hb.mono k.bel.size)⟩
theorem lawKinds_any (l : List RewV) (vl : Value) (Fs : List FiltV) (v : Value) (h : HeaderV) (t : Int) (ht : 0 ≤ t ∧ t < 4294967296) (w : World) (hl : Rd w w.heap.size 3 vl l.length (wcells l)) (hF : FsAt w w.heap.size v Fs) (hlen : Fs.length ≤ 9223372036854775807) (hll : l.length ≤ 9223372036854775807) :
    Calls Tryz.prog 3 #[vl, v, .agg #[.int .u32 h.src, .int .u32 h.dst, .int .u8 h.proto, .int .u16 h.sp, .int .u16 h.dp], .int .u32 t] w fun e w' => e = .returned (.bool true) ∧ Below w.heap.size w w' := by
  obtain ⟨i0, hi, hz0, hz1, hz2⟩ := info_parts Tryz.infoRew
  obtain ⟨Af, cf, rfl, hcf⟩ := hF.1.form
  obtain ⟨Al, cl, rfl, hcl⟩ := hl.form
  have hbA := below1 w (.cells #[.int .u32 h.src, .int .u32 h.dst, .int .u8 h.proto, .int .u16 h.sp, .int .u16 h.dp] 28)
  have HK0 := Lib.hid (blk1 w (.cells #[.int .u32 h.src, .int .u32 h.dst, .int .u8 h.proto, .int .u16 h.sp, .int .u16 h.dp] 28))
  have HL0 := Lib.hid ((hl.below hbA).mono hbA.size)
  have HF0 := Lib.hid (hF.next hbA)
  have HB0 := Lib.hid hbA
  have HT := Lib.hid ht
  have HWK := Lib.hid lawWorks_any
  clear hF hl hbA ht
  go_enter Tryz.func3, Tryz.ntmps3
  go_upto_region 1 with fail
  generalize w.alloc (.cells #[.int .u32 h.src, .int .u32 h.dst, .int .u8 h.proto, .int .u16 h.sp, .int .u16 h.dp] 28) = w0 at *
  by_cases hbig : 100 < l.length
  · have hI : (100 : Int) < (l.length : Int) := by omega
    clear hbig
    go_upto_region 2 with ((with_reducible refine (HWK.out _).mono ?_); rintro e w1 ⟨rfl, hb1⟩; have HB1 := Lib.hid hb1; clear hb1)
    go_wp2_with ((with_reducible refine (HWK.out _).mono ?_); rintro e w2 ⟨rfl, hb2⟩; have HB2 := Lib.hid hb2; clear hb2)
    go_ret
    exact ⟨rfl, HB0.out.trans ((HB1.out.trans (HB2.out.mono HB1.out.size)).mono HB0.out.size)⟩
  · have hI : ¬ (100 : Int) < (l.length : Int) := by omega
    go_upto_region 3 with ((with_reducible refine (HWK.out _).mono ?_); rintro e w1 ⟨rfl, hb1⟩; have HB1 := Lib.hid hb1; clear hb1)
    have HK1 := Lib.hid (blk_below HB1.out HK0.out)
    have HL1 := Lib.hid ((HL0.out.below HB1.out).mono HB1.out.size)
    have HF1 := Lib.hid (HF0.out.next HB1.out)
    have HX1 : Hid (Below w.heap.size w w1) := Lib.hid (HB0.out.trans (HB1.out.mono HB0.out.size))
    clear HK0 HL0 HF0 HB0 HB1 HWK hI
    have HCK := Lib.hid (rwCheck_any l _ Fs _ _ HL1.out HF1.out hlen)
    obtain ⟨E, hE⟩ : ∃ E, rwE Fs l = E := ⟨_, rfl⟩
    rw [hE] at HCK
    have HE := Lib.hid hE
    clear hE
    by_cases he : E = 0
    · subst he
      have hl100 : l.length ≤ 100 := by omega
      have HKI := Lib.hid (kinds_of hl100 HE.out h t HT.out)
      have HE0 := HE
      clear HE hbig
      go_upto_region 6 with ((with_reducible refine HCK.out.mono ?_); rintro e w2 ⟨rfl, hb2⟩; have HB2 := Lib.hid hb2; clear hb2)
      have HK2 := Lib.hid (blk_below HB2.out HK1.out)
      have HL2 := Lib.hid ((HL1.out.below HB2.out).mono HB2.out.size)
      have HF2 := Lib.hid (HF1.out.next HB2.out)
      have HX2 : Hid (Below w.heap.size w w2) := Lib.hid (HX1.out.trans (HB2.out.mono HX1.out.size))
      clear HK1 HL1 HF1 HX1 HB2 HCK
      go_wp2
      go_loopw [9, 10, 11, 12] (fun s9 s10 s11 i wr => ∃ (k : Nat) (vd vs vb : Value), s9 = vs ∧ s10 = vd ∧ s11 = vb ∧ i = .int .i64 k ∧ k ≤ l.length ∧ Hid (Rows3 w2.heap.size w2 wr vd vs vb (kd true (l.take k)) (kd false (l.take k)) (bth t HT.out (l.take k)))) (fun _ _ _ i _ => l.length - (intOf i).toNat)
      case atStart => exact ⟨0, _, _, _, rfl, rfl, rfl, rfl, by omega, Lib.hid ⟨⟨rfl, rfl, rfl, Nat.le_refl _, fun _ _ => rfl⟩, Nat.le_refl _, owns_nil _ _ _ _, owns_nil _ _ _ _, owns_nil _ _ _ _, (fun g hg => by cases hg), (fun g hg => by cases hg), (fun g hg => by cases hg)⟩⟩
      case round =>
        obtain ⟨k, vd, vs, vb, rfl, rfl, rfl, rfl, hk, HR⟩ := hrel
        obtain ⟨Ad, cd, rfl, _⟩ := owns_form HR.out.d
        obtain ⟨As, cs, rfl, _⟩ := owns_form HR.out.s
        obtain ⟨Ab, cb, rfl, _⟩ := owns_form HR.out.b
        have hlk : (l.take k).length ≤ 100 := by rw [List.length_take]; omega
        have hnd := Nat.le_trans (kd_len true (l.take k)) hlk
        have hns := Nat.le_trans (kd_len false (l.take k)) hlk
        have hnb : (bth t HT.out (l.take k)).length ≤ 200 := by rw [bth_len]; omega
        by_cases hlt : k < l.length
        · have hI : (k : Int) < (l.length : Int) := by omega
          obtain ⟨x, hx⟩ : ∃ x, l[k]? = some x := ⟨_, List.getElem?_eq_getElem hlt⟩
          have HX := Lib.hid hx
          obtain ⟨b, off, c', hv, _, hbB, hcell⟩ := HL2.out.posAt (by omega)
          injection hv with hv1 hvl hv3
          subst hv1 hv3
          clear hvl
          have z0 : w2.cell? ⟨b, off + k * 3, none⟩ = some (.bool x.dest) := hcell k 0 _ (wcell hx rfl)
          have z1 : w2.cell? ⟨b, off + k * 3 + 1, none⟩ = some (.string x.nm) := hcell k 1 _ (wcell hx rfl)
          have z2 : w2.cell? ⟨b, off + k * 3 + 2, none⟩ = some (.int .u32 x.too) := hcell k 2 _ (wcell hx rfl)
          obtain ⟨D, hD⟩ : ∃ D, x.dest = D := ⟨_, rfl⟩
          have HD := Lib.hid hD
          rw [hD] at z0
          have HBB := Lib.hid (And.intro hbB (And.intro z0 (And.intro z1 z2)))
          have HE : Hid (x.enc = [.bool D, .string x.nm, .int .u32 x.too]) := Lib.hid (by unfold RewV.enc; rw [hD])
          have HE2 : Hid ((tw t HT.out x).enc = [.bool D, .string x.nm, .int .u32 t]) := Lib.hid (by unfold RewV.enc tw; rw [hD])
          clear hcell hx hD z0 z1 z2 hbB
          have c0 := (HR.out.bel.cell HBB.out.1).trans HBB.out.2.1
          have c1 := (HR.out.bel.cell HBB.out.1).trans HBB.out.2.2.1
          have c2 := (HR.out.bel.cell HBB.out.1).trans HBB.out.2.2.2
          cases D with
          | false =>
            go_upto_region 12 with (at_builtin; refine wpList_push2 (v := .slice As (kd false (l.take k)).length cs) rfl _ _ 22 rfl 33 i0 _ 3 32 Tryz.underlying22 hi hz0 hz1 hz2 rfl (by decide) (by decide) [.bool false, .string x.nm, .int .u32 x.too] rfl rfl rfl HR.out.s rfl (by intro u hu; simp only [List.mem_cons, List.not_mem_nil, or_false] at hu; rcases hu with rfl | rfl | rfl <;> rfl) (by omega) HR.out.bsz ?_; intro v3 w3 ho3 hg3 hm3; have HR3 := Lib.hid (HR.out.pushS (x := x) (by rw [HE.out]; exact ho3) hg3 hm3); obtain ⟨A3, c3, rfl, _⟩ := owns_form ho3; clear ho3 hg3 hm3)
            clear c0 c1 c2
            have c0 := (HR3.out.bel.cell HBB.out.1).trans HBB.out.2.1
            have c1 := (HR3.out.bel.cell HBB.out.1).trans HBB.out.2.2.1
            have c2 := (HR3.out.bel.cell HBB.out.1).trans HBB.out.2.2.2
            have hwd : Below w3.heap.size w3 { w3 with drawn := w3.drawn + 1 } := ⟨rfl, rfl, rfl, Nat.le_refl _, fun _ _ => rfl⟩
            have HR4 := Lib.hid (HR3.out.size hwd)
            clear hwd c0 c1 c2
            refine wp_region_mixS (fun v => Below w2.heap.size w2 v) [(0, false), (1, false), (2, false), (3, false), (4, false), (5, false), (6, false), (7, false), (8, false), (9, false), (10, false), (11, false), (12, false), (13, false), (14, false), (15, false), (16, false), (17, true), (18, true), (19, false)] (by kernel_rfl) (by kernel_rfl) HR4.out.bel ?_
            generalize { w3 with drawn := w3.drawn + 1 } = W4 at *
            have d0 : ∀ p : InW (fun v => Below w2.heap.size w2 v), p.w.cell? ⟨b, off + k * 3, none⟩ = some (.bool false) := fun p => (p.h.cell HBB.out.1).trans HBB.out.2.1
            have d1 : ∀ p : InW (fun v => Below w2.heap.size w2 v), p.w.cell? ⟨b, off + k * 3 + 1, none⟩ = some (.string x.nm) := fun p => (p.h.cell HBB.out.1).trans HBB.out.2.2.1
            have d2 : ∀ p : InW (fun v => Below w2.heap.size w2 v), p.w.cell? ⟨b, off + k * 3 + 2, none⟩ = some (.int .u32 x.too) := fun p => (p.h.cell HBB.out.1).trans HBB.out.2.2.2
            refine mix_take [0, 1, 2, 3, 4, 5, 6, 7, 8, 9, 10, 11, 12, 13, 14, 15, 16] [_, _, _, _, _, _, _, _, _, _, _, _, _, _, _, _, _] rfl rfl ?_
            simp only [List.getElem_toArray, List.getElem_cons_zero, List.getElem_cons_succ]
            repeat (go_big_quiet_step (fail))
            refine wpQuiet_nil ?_
            clear d0 d1 d2
            refine mix_barS rfl (by rfl) ?_
            simp only [List.getElem_toArray, List.getElem_cons_zero, List.getElem_cons_succ]
            go_simp
            refine ⟨fun v => Below w2.heap.size w2 v, HR4.out.bel.alloc HR4.out.bsz _, fun _ h => h, ?_⟩
            refine mix_barS rfl (by rfl) ?_
            simp only [List.getElem_toArray, List.getElem_cons_zero, List.getElem_cons_succ]
            refine oper_pushM (v := .slice Ab (bth t HT.out (l.take k)).length cb) rfl _ _ 22 rfl 33 i0 _ 3 32 Tryz.underlying22 hi hz0 hz1 hz2 rfl (by decide) (by decide) 2 (by decide) (by decide) [.bool false, .string x.nm, .int .u32 x.too, .bool false, .string x.nm, .int .u32 t] rfl rfl rfl HR4.out.b rfl (by intro u hu; simp only [List.mem_cons, List.not_mem_nil, or_false] at hu; rcases hu with rfl | rfl | rfl | rfl | rfl | rfl <;> rfl) (by omega) HR4.out.bsz ?_
            intro v5 w5 ho5 hg5 hm5
            have HR5 := Lib.hid (HR4.out.pushB (x := x) (y := tw t HT.out x) (by rw [HE.out, HE2.out]; exact ho5) hg5 hm5)
            obtain ⟨A5, c5, rfl, _⟩ := owns_form ho5
            clear ho5 hg5 hm5
            refine ⟨fun v => Below w2.heap.size w2 v, HR5.out.bel, fun _ h => h, ?_⟩
            go_simp
            refine mix_take [19] [_] rfl rfl ?_
            simp only [List.getElem_toArray, List.getElem_cons_zero, List.getElem_cons_succ]
            repeat (go_big_quiet_step (fail))
            refine wpQuiet_nil ?_
            refine mix_end ?_
            go_wp2
            exact ⟨⟨k + 1, _, _, _, rfl, rfl, rfl, by go_num, by omega, Lib.hid (by
              rw [(kd_snoc HX.out : kd false (l.take (k + 1)) = _).trans (if_pos HD.out), (kd_snoc HX.out : kd true (l.take (k + 1)) = _).trans (if_neg (by rw [HD.out]; decide)), bth_snoc (ht := HT.out) HX.out]
              exact HR5.out)⟩, by simp only [intOf]; omega⟩
          | true =>
            go_upto_region 12 with (at_builtin; refine wpList_push2 (v := .slice Ad (kd true (l.take k)).length cd) rfl _ _ 22 rfl 33 i0 _ 3 32 Tryz.underlying22 hi hz0 hz1 hz2 rfl (by decide) (by decide) [.bool true, .string x.nm, .int .u32 x.too] rfl rfl rfl HR.out.d rfl (by intro u hu; simp only [List.mem_cons, List.not_mem_nil, or_false] at hu; rcases hu with rfl | rfl | rfl <;> rfl) (by omega) HR.out.bsz ?_; intro v3 w3 ho3 hg3 hm3; have HR3 := Lib.hid (HR.out.pushD (x := x) (by rw [HE.out]; exact ho3) hg3 hm3); obtain ⟨A3, c3, rfl, _⟩ := owns_form ho3; clear ho3 hg3 hm3)
            clear c0 c1 c2
            have c0 := (HR3.out.bel.cell HBB.out.1).trans HBB.out.2.1
            have c1 := (HR3.out.bel.cell HBB.out.1).trans HBB.out.2.2.1
            have c2 := (HR3.out.bel.cell HBB.out.1).trans HBB.out.2.2.2
            have hwd : Below w3.heap.size w3 { w3 with drawn := w3.drawn + 1 } := ⟨rfl, rfl, rfl, Nat.le_refl _, fun _ _ => rfl⟩
            have HR4 := Lib.hid (HR3.out.size hwd)
            clear hwd c0 c1 c2
            refine wp_region_mixS (fun v => Below w2.heap.size w2 v) [(0, false), (1, false), (2, false), (3, false), (4, false), (5, false), (6, false), (7, false), (8, false), (9, false), (10, false), (11, false), (12, false), (13, false), (14, false), (15, false), (16, false), (17, true), (18, true), (19, false)] (by kernel_rfl) (by kernel_rfl) HR4.out.bel ?_
            generalize { w3 with drawn := w3.drawn + 1 } = W4 at *
            have d0 : ∀ p : InW (fun v => Below w2.heap.size w2 v), p.w.cell? ⟨b, off + k * 3, none⟩ = some (.bool true) := fun p => (p.h.cell HBB.out.1).trans HBB.out.2.1
            have d1 : ∀ p : InW (fun v => Below w2.heap.size w2 v), p.w.cell? ⟨b, off + k * 3 + 1, none⟩ = some (.string x.nm) := fun p => (p.h.cell HBB.out.1).trans HBB.out.2.2.1
            have d2 : ∀ p : InW (fun v => Below w2.heap.size w2 v), p.w.cell? ⟨b, off + k * 3 + 2, none⟩ = some (.int .u32 x.too) := fun p => (p.h.cell HBB.out.1).trans HBB.out.2.2.2
            refine mix_take [0, 1, 2, 3, 4, 5, 6, 7, 8, 9, 10, 11, 12, 13, 14, 15, 16] [_, _, _, _, _, _, _, _, _, _, _, _, _, _, _, _, _] rfl rfl ?_
            simp only [List.getElem_toArray, List.getElem_cons_zero, List.getElem_cons_succ]
            repeat (go_big_quiet_step (fail))
            refine wpQuiet_nil ?_
            clear d0 d1 d2
            refine mix_barS rfl (by rfl) ?_
            simp only [List.getElem_toArray, List.getElem_cons_zero, List.getElem_cons_succ]
            go_simp
            refine ⟨fun v => Below w2.heap.size w2 v, HR4.out.bel.alloc HR4.out.bsz _, fun _ h => h, ?_⟩
            refine mix_barS rfl (by rfl) ?_
            simp only [List.getElem_toArray, List.getElem_cons_zero, List.getElem_cons_succ]
            refine oper_pushM (v := .slice Ab (bth t HT.out (l.take k)).length cb) rfl _ _ 22 rfl 33 i0 _ 3 32 Tryz.underlying22 hi hz0 hz1 hz2 rfl (by decide) (by decide) 2 (by decide) (by decide) [.bool true, .string x.nm, .int .u32 x.too, .bool true, .string x.nm, .int .u32 t] rfl rfl rfl HR4.out.b rfl (by intro u hu; simp only [List.mem_cons, List.not_mem_nil, or_false] at hu; rcases hu with rfl | rfl | rfl | rfl | rfl | rfl <;> rfl) (by omega) HR4.out.bsz ?_
            intro v5 w5 ho5 hg5 hm5
            have HR5 := Lib.hid (HR4.out.pushB (x := x) (y := tw t HT.out x) (by rw [HE.out, HE2.out]; exact ho5) hg5 hm5)
            obtain ⟨A5, c5, rfl, _⟩ := owns_form ho5
            clear ho5 hg5 hm5
            refine ⟨fun v => Below w2.heap.size w2 v, HR5.out.bel, fun _ h => h, ?_⟩
            go_simp
            refine mix_take [19] [_] rfl rfl ?_
            simp only [List.getElem_toArray, List.getElem_cons_zero, List.getElem_cons_succ]
            repeat (go_big_quiet_step (fail))
            refine wpQuiet_nil ?_
            refine mix_end ?_
            go_wp2
            exact ⟨⟨k + 1, _, _, _, rfl, rfl, rfl, by go_num, by omega, Lib.hid (by
              rw [(kd_snoc HX.out : kd true (l.take (k + 1)) = _).trans (if_pos HD.out), (kd_snoc HX.out : kd false (l.take (k + 1)) = _).trans (if_neg (by rw [HD.out]; decide)), bth_snoc (ht := HT.out) HX.out]
              exact HR5.out)⟩, by simp only [intOf]; omega⟩
        · obtain rfl : k = l.length := by omega
          have hI : ¬ (l.length : Int) < (l.length : Int) := by omega
          rw [List.take_length] at HR hlk hnd hns hnb
          have hmx : (kd true l).length + (kd false l).length ≤ 1000 := by omega
          go_upto_region 14 with (at_builtin; apply stopT)
          unfold StopTag
          refine wpList_appendA rfl _ _ 22 rfl wr.heap.size 33 i0 _ 3 32 Tryz.underlying22 hi hz0 hz1 hz2 rfl (by decide) (.slice (some ⟨wr.heap.size, 0, none⟩) 0 0) 0 [] rfl (made_at wr wr.heap.size 33 3 rfl) rfl (HR.out.d.alloc _) (wcells_one _) (by unfold maxLen; omega) (by omega) (by simp) ?_
          intro v3 w3 ho3 hg3
          have HB3 := Lib.hid ((below1 wr _).grown hg3 (by simp) (fun k hk => by simp [Value.ownBlock] at hk; omega))
          have HO3 := Lib.hid (show w3.ownsRow wr.heap.size 33 3 v3 (kd true l).length (wcells (kd true l)) from by simpa using ho3)
          obtain ⟨A3, c3, hv3, _⟩ := owns_form HO3.out
          subst hv3
          clear ho3 hg3
          go_upto_region 14 with (at_builtin; apply stopT)
          unfold StopTag
          refine wpList_appendA rfl _ _ 22 rfl wr.heap.size 33 i0 _ 3 32 Tryz.underlying22 hi hz0 hz1 hz2 rfl (by decide) (.slice A3 (kd true l).length c3) (kd true l).length _ rfl HO3.out rfl (owns_kept_none HR.out.s (only_of_below HB3.out none)) (wcells_one _) (by unfold maxLen; omega) (by omega) HB3.out.size ?_
          intro v4 w4 ho4 hg4
          have HB4 := Lib.hid (below_own HB3.out HB3.out.size HO3.out hg4)
          have HO4 := Lib.hid (show w4.ownsRow wr.heap.size 33 3 v4 (trn l).length (wcells (trn l)) from by rw [trn, List.length_append, wcells_app]; exact ho4)
          obtain ⟨A4, c4, hv4, _⟩ := owns_form HO4.out
          subst hv4
          clear ho4 hg4
          go_upto_region 14 with fail
          have hlt0 := lt_of_block HK2.out
          have hkf : KFin w w4 h l (.slice Al l.length cl) t HT.out (.slice A4 (trn l).length c4) (.slice As (kd false l).length cs) (.slice Ad (kd true l).length cd) (.slice Ab (bth t HT.out l).length cb) (.slice Af Fs.length cf) Fs :=
            ⟨blk_below HB4.out (blk_below HR.out.bel HK2.out), (((HL2.out.below HR.out.bel).mono HR.out.bsz).below HB4.out).mono HB4.out.size, Rd.of_own HO4.out, ((Rd.of_own HR.out.s).below HB4.out).mono HB4.out.size, ((Rd.of_own HR.out.d).below HB4.out).mono HB4.out.size, ((Rd.of_own HR.out.b).below HB4.out).mono HB4.out.size,
              (((HF2.out.below HR.out.bel).mono HR.out.bsz).below HB4.out).mono HB4.out.size, HX2.out.trans ((HR.out.bel.trans (HB4.out.mono HR.out.bsz)).mono HX2.out.size)⟩
          have hb5 := below1 w4 (.cells #[.bool false, .bool true] 4)
          have KF5 := Lib.hid (hkf.next hb5)
          have HQ5 := Lib.hid (blk1 w4 (.cells #[.bool false, .bool true] 4))
          clear hkf hb5 HB4 HO4 HB3 HO3 HR HK2 HL2 HF2 HX2 hlt0 hmx hnb hns hnd hlk
          go_upto_region 15 with fail
          generalize w4.heap.size = gq at *
          generalize w4.alloc (.cells #[.bool false, .bool true] 4) = w5 at *
          go_loopw [89] (fun i W => ∃ k : Nat, i = .int .i64 k ∧ k ≤ 2 ∧ Hid (KFin w W h l (.slice Al l.length cl) t HT.out (.slice A4 (trn l).length c4) (.slice As (kd false l).length cs) (.slice Ad (kd true l).length cd) (.slice Ab (bth t HT.out l).length cb) (.slice Af Fs.length cf) Fs) ∧ Hid (W.heap[gq]? = some (.cells #[.bool false, .bool true] 4 (0, 0)))) (fun i _ => 2 - (intOf i).toNat)
          case atStart => exact ⟨0, rfl, by omega, KF5, HQ5⟩
          case round =>
            obtain ⟨k, rfl, hk2, KF, HQ⟩ := hrel
            clear KF5 HQ5
            by_cases hk3 : k < 2
            · have hI : (k : Int) < 2 := by omega
              obtain ⟨dest, hdq⟩ : ∃ dest : Bool, wr.cell? ⟨gq, k, none⟩ = some (.bool dest) := by
                obtain rfl | rfl : k = 0 ∨ k = 1 := by omega
                · exact ⟨_, cell_of_row _ _ 0 _ _ (0, 0) HQ.out⟩
                · exact ⟨_, cell_of_row _ _ 1 _ _ (0, 0) HQ.out⟩
              obtain ⟨a, ha⟩ : ∃ a, apH Fs l dest h = a := ⟨_, rfl⟩
              have HAH := Lib.hid ha
              clear ha
              go_upto_region 17 with fail
              clear hdq
              have hap := rwApply_any l _ Fs _ dest h wr KF.out.rl KF.out.fs hlen
              rw [HAH.out, HE0.out] at hap
              have HAP := Lib.hid hap
              obtain ⟨c0, c1, c2, c3', c4', _⟩ := five_cells KF.out.hd
              clear hap
              go_upto_region 18 with ((with_reducible refine HAP.out.mono ?_); rintro e v5 ⟨rfl, hb5⟩; have HB5 := Lib.hid hb5; clear hb5)
              clear HAP c0 c1 c2 c3' c4'
              have hA5 := HB5.out.trans ((below1 v5 (.cells #[.int .u32 a.src, .int .u32 a.dst, .int .u8 a.proto, .int .u16 a.sp, .int .u16 a.dp] 28)).mono HB5.out.size)
              have KF5 := Lib.hid (KF.out.next hA5)
              have P5 := Lib.hid (blk1 v5 (.cells #[.int .u32 a.src, .int .u32 a.dst, .int .u8 a.proto, .int .u16 a.sp, .int .u16 a.dp] 28))
              have HQ' := Lib.hid (blk_below hA5 HQ.out)
              clear HQ
              have HQ := HQ'
              clear HQ'
              clear hA5 HB5 KF
              generalize v5.heap.size = g5 at *
              generalize v5.alloc (.cells #[.int .u32 a.src, .int .u32 a.dst, .int .u8 a.proto, .int .u16 a.sp, .int .u16 a.dp] 28) = x5 at *
              have hap := rwApply_any (trn l) _ Fs _ dest h x5 KF5.out.rt KF5.out.fs hlen
              rw [HKI.out.a1, HAH.out, HKI.out.e1] at hap
              have HAP := Lib.hid hap
              obtain ⟨c0, c1, c2, c3', c4', _⟩ := five_cells KF5.out.hd
              clear hap
              go_upto_region 19 with ((with_reducible refine HAP.out.mono ?_); rintro e v6 ⟨rfl, hb6⟩; have HB6 := Lib.hid hb6; clear hb6)
              clear HAP c0 c1 c2 c3' c4'
              have hA6 := HB6.out.trans ((below1 v6 (.cells #[.int .u32 a.src, .int .u32 a.dst, .int .u8 a.proto, .int .u16 a.sp, .int .u16 a.dp] 28)).mono HB6.out.size)
              have KF6 := Lib.hid (KF5.out.next hA6)
              have P6 := Lib.hid (blk1 v6 (.cells #[.int .u32 a.src, .int .u32 a.dst, .int .u8 a.proto, .int .u16 a.sp, .int .u16 a.dp] 28))
              have HQ' := Lib.hid (blk_below hA6 HQ.out)
              clear HQ
              have HQ := HQ'
              clear HQ'
              have P5' := Lib.hid (blk_below hA6 P5.out)
              clear P5
              have P5 := P5'
              clear P5'
              clear hA6 HB6 KF5
              generalize v6.heap.size = g6 at *
              generalize v6.alloc (.cells #[.int .u32 a.src, .int .u32 a.dst, .int .u8 a.proto, .int .u16 a.sp, .int .u16 a.dp] 28) = x6 at *
              have hap := rwApply_any (bth t HT.out l) _ Fs _ dest h x6 KF6.out.rb KF6.out.fs hlen
              rw [HKI.out.a2, HAH.out, HKI.out.e2] at hap
              have HAP := Lib.hid hap
              obtain ⟨c0, c1, c2, c3', c4', _⟩ := five_cells KF6.out.hd
              clear hap
              go_upto_region 20 with ((with_reducible refine HAP.out.mono ?_); rintro e v7 ⟨rfl, hb7⟩; have HB7 := Lib.hid hb7; clear hb7)
              clear HAP c0 c1 c2 c3' c4'
              have hA7 := HB7.out.trans ((below1 v7 (.cells #[.int .u32 a.src, .int .u32 a.dst, .int .u8 a.proto, .int .u16 a.sp, .int .u16 a.dp] 28)).mono HB7.out.size)
              have KF7 := Lib.hid (KF6.out.next hA7)
              have P7 := Lib.hid (blk1 v7 (.cells #[.int .u32 a.src, .int .u32 a.dst, .int .u8 a.proto, .int .u16 a.sp, .int .u16 a.dp] 28))
              have HQ' := Lib.hid (blk_below hA7 HQ.out)
              clear HQ
              have HQ := HQ'
              clear HQ'
              have P5' := Lib.hid (blk_below hA7 P5.out)
              clear P5
              have P5 := P5'
              clear P5'
              have P6' := Lib.hid (blk_below hA7 P6.out)
              clear P6
              have P6 := P6'
              clear P6'
              clear hA7 HB7 KF6
              generalize v7.heap.size = g7 at *
              generalize v7.alloc (.cells #[.int .u32 a.src, .int .u32 a.dst, .int .u8 a.proto, .int .u16 a.sp, .int .u16 a.dp] 28) = x7 at *
              have HSM := Lib.hid (rkSame_any a)
              obtain ⟨m0, m1, m2, m3, m4, _⟩ := five_cells P5.out
              obtain ⟨n0, n1, n2, n3, n4, _⟩ := five_cells P6.out
              go_upto_region 22 with (first
                | ((with_reducible refine (HSM.out x8).mono ?_); rintro e x9 ⟨rfl, hb9⟩; have HB9 := Lib.hid hb9; clear hb9)
                | ((with_reducible refine (HSM.out _).mono ?_); rintro e x8 ⟨rfl, hb8⟩; have HB8 := Lib.hid hb8; have P5' := Lib.hid (blk_below hb8 P5.out); have P7' := Lib.hid (blk_below hb8 P7.out); clear hb8; obtain ⟨u0', u1', u2', u3', u4', _⟩ := five_cells P5'.out; obtain ⟨l0', l1', l2', l3', l4', _⟩ := five_cells P7'.out))
              have hz9 := HB8.out.trans (HB9.out.mono HB8.out.size)
              have KF9 := Lib.hid (KF7.out.next hz9)
              have HQ9 := Lib.hid (blk_below hz9 HQ.out)
              clear hz9
              go_wp2_with fail
              exact ⟨⟨k + 1, by go_num, by omega, KF9, HQ9⟩, by simp only [intOf]; omega⟩
            · obtain rfl : k = 2 := by omega
              have hI : ¬ ((2 : Nat) : Int) < 2 := by omega
              go_upto_region 23 with fail
              have hap := rwApply_any (kd false l) _ Fs _ true h wr KF.out.rs KF.out.fs hlen
              rw [HKI.out.a3, HKI.out.e3] at hap
              have HAP := Lib.hid hap
              obtain ⟨c0, c1, c2, c3', c4', _⟩ := five_cells KF.out.hd
              clear hap
              go_upto_region 24 with ((with_reducible refine HAP.out.mono ?_); rintro e v5 ⟨rfl, hb5⟩; have HB5 := Lib.hid hb5; clear hb5)
              clear HAP c0 c1 c2 c3' c4'
              have hA5 := HB5.out.trans ((below1 v5 (.cells #[.int .u32 h.src, .int .u32 h.dst, .int .u8 h.proto, .int .u16 h.sp, .int .u16 h.dp] 28)).mono HB5.out.size)
              have KF5 := Lib.hid (KF.out.next hA5)
              have P5 := Lib.hid (blk1 v5 (.cells #[.int .u32 h.src, .int .u32 h.dst, .int .u8 h.proto, .int .u16 h.sp, .int .u16 h.dp] 28))
              clear hA5 HB5 KF
              generalize v5.heap.size = g5 at *
              generalize v5.alloc (.cells #[.int .u32 h.src, .int .u32 h.dst, .int .u8 h.proto, .int .u16 h.sp, .int .u16 h.dp] 28) = x5 at *
              have hap := rwApply_any (kd true l) _ Fs _ false h x5 KF5.out.rd KF5.out.fs hlen
              rw [HKI.out.a4, HKI.out.e4] at hap
              have HAP := Lib.hid hap
              obtain ⟨c0, c1, c2, c3', c4', _⟩ := five_cells KF5.out.hd
              clear hap
              go_upto_region 25 with ((with_reducible refine HAP.out.mono ?_); rintro e v6 ⟨rfl, hb6⟩; have HB6 := Lib.hid hb6; clear hb6)
              clear HAP c0 c1 c2 c3' c4'
              have hA6 := HB6.out.trans ((below1 v6 (.cells #[.int .u32 h.src, .int .u32 h.dst, .int .u8 h.proto, .int .u16 h.sp, .int .u16 h.dp] 28)).mono HB6.out.size)
              have KF6 := Lib.hid (KF5.out.next hA6)
              have P6 := Lib.hid (blk1 v6 (.cells #[.int .u32 h.src, .int .u32 h.dst, .int .u8 h.proto, .int .u16 h.sp, .int .u16 h.dp] 28))
              have P5' := Lib.hid (blk_below hA6 P5.out)
              clear P5
              have P5 := P5'
              clear P5'
              clear hA6 HB6 KF5
              generalize v6.heap.size = g6 at *
              generalize v6.alloc (.cells #[.int .u32 h.src, .int .u32 h.dst, .int .u8 h.proto, .int .u16 h.sp, .int .u16 h.dp] 28) = x6 at *
              have HSM := Lib.hid (rkSame_any h)
              obtain ⟨m0, m1, m2, m3, m4, _⟩ := five_cells P5.out
              obtain ⟨n0, n1, n2, n3, n4, _⟩ := five_cells KF6.out.hd
              go_wp2_with (first
                | ((with_reducible refine (HSM.out x8).mono ?_); rintro e x9 ⟨rfl, hb9⟩; have HB9 := Lib.hid hb9; clear hb9)
                | ((with_reducible refine (HSM.out _).mono ?_); rintro e x8 ⟨rfl, hb8⟩; have HB8 := Lib.hid hb8; have P6' := Lib.hid (blk_below hb8 P6.out); have P7' := Lib.hid (blk_below hb8 KF6.out.hd); clear hb8; obtain ⟨u0', u1', u2', u3', u4', _⟩ := five_cells P6'.out; obtain ⟨l0', l1', l2', l3', l4', _⟩ := five_cells P7'.out))
              have hz9 := HB8.out.trans (HB9.out.mono HB8.out.size)
              have hfin := (KF6.out.next hz9).bel
              have HFIN := Lib.hid hfin
              clear hz9 hfin
              go_ret
              exact ⟨rfl, HFIN.out⟩
    · have hI2 : (E != 0) = true := by simpa using he
      clear he
      go_wp2_with ((with_reducible refine HCK.out.mono ?_); rintro e w2 ⟨rfl, hb2⟩; have HB2 := Lib.hid hb2; clear hb2)
      go_ret
      exact ⟨rfl, HX1.out.trans (HB2.out.mono HX1.out.size)⟩
end
end Go.Proofs.YtdjikiakcfbklaaGreat

/-
  Arguments opened to cells with their weights: no program in sight.
-/
namespace Go.Proofs.YtdjikiakcfbklaaGreat
open Go Go.RowKit Go.ChangeShapes Go.WideShapes Go.Deep

section
variable {H : Type} {enc : TypeId × Value → H} {P : Program} {w : World} {base : Nat} {spare : Nat → Bool} {held : Bool}
/-- All of a datum's weights are within the reach. -/
def InReach (P : Program) (t : TypeId) (d : DataW H) : Prop := ∀ m ∈ d.weights P t, m ≤ reachBytes
theorem mem_weightsAll {e : TypeId} {d : DataW H} : ∀ {ds : List (DataW H)}, d ∈ ds → ∀ n ∈ d.weights P e, n ∈ DataW.weightsAll P e ds
  | [], h, _, _ => by simp at h
  | x :: ds, h, n, hn => by
    rw [DataW.weightsAll, List.mem_append]
    rcases List.mem_cons.1 h with rfl | h
    · exact .inl hn
    · exact .inr (mem_weightsAll h n hn)
theorem sub_at2 {t : TypeId} {fs : Array Field} {n : Nat} {cs : List Value} {x : DataW H × List MemPlace} (ht : P.underlying t = some (.struct fs)) (h : DataW.trod enc P w base spare held n t cs = some x) (hw : InReach P t x.1) :
    cs.length = P.cellsOf t ∧ ∃ m, ∀ (j : Nat) (f : Field) (off : Nat) (ty : TypeId) (k : Nat), fs[j]? = some f → f.offset = off → f.type = ty → P.cellsOf ty = k → ∃ y, DataW.trod enc P w base spare held m ty ((cs.drop off).take k) = some y ∧ InReach P ty y.1 := by
  obtain ⟨xs, m, _, hx, hl, hlen, hf⟩ := DataW.trod_struct ht h
  refine ⟨hl, m, fun j f off ty k hj ho hty hk => ?_⟩
  have h1 := hf j f hj
  have hjl : j < xs.length := by rw [hlen]; exact (Array.getElem?_eq_some_iff.1 hj).1
  subst ho hty hk
  refine ⟨_, h1.trans (List.getElem?_eq_getElem hjl), fun q hq => hw q ?_⟩
  rw [hx]
  simp only [DataW.weights, ht]
  exact DataW.weights_mem_each (j := j) (t := f.type) (by simpa using congrArg (Option.map (·.type)) hj) (by simp [hjl]) q hq
theorem open_rd2 {α : Type} {encV : α → List Value} {Q : α → Prop} {k : Nat} (hk : ∀ x, (encV x).length = k) (hk0 : 0 < k) {t e : TypeId} {n : Nat} {cs : List Value} {x : DataW H × List MemPlace} (ht : P.underlying t = some (.slice e)) (hC : P.cellsOf e = k)
    (hel : ∀ n cs y, DataW.trod enc P w base spare held n e cs = some y → InReach P e y.1 → ∃ r, cs = encV r ∧ Q r) (h : DataW.trod enc P w base spare held n t cs = some x) (hw : InReach P t x.1) :
    ∃ (v : Value) (L : List α), cs = [v] ∧ Rd w w.heap.size k v L.length (L.flatMap encV) ∧ L.length ≤ maxLen ∧ (∀ r ∈ L, Q r) ∧ L.length * P.bytesOf e ≤ reachBytes := by
  rcases open_slice ht h with ⟨h0, _⟩ | ⟨a, len, cap, m, n', D, Pl, hcs, _, hl, hm, hmm, hx, hi⟩
  · exact ⟨_, [], h0, ⟨none, 0, rfl, by simp, by simp, fun h => absurd h (by simp)⟩, by simp, by simp, by simp⟩
  · have hlm : len ≤ m := by rw [hmm]; split <;> omega
    have hw1 : ∀ i, i < len → InReach P e (D i) := fun i hi' q hq => by
      refine hw q ?_
      rw [hx]
      simp only [DataW.weights, ht]
      refine List.mem_cons_of_mem _ (List.mem_append_left _ (mem_weightsAll (d := D i) ?_ q hq))
      exact List.mem_map.2 ⟨i, List.mem_range.2 hi', rfl⟩
    have hw2 : len * P.bytesOf e ≤ reachBytes := by
      have := hw ((((List.range len).map D).length + ((List.range (m - len)).map fun j => D (len + j)).length) * P.bytesOf e) (by rw [hx]; simp only [DataW.weights, ht]; exact List.mem_cons_self ..)
      refine Nat.le_trans (Nat.mul_le_mul_right _ ?_) this
      simp
    obtain ⟨L, hL, hq⟩ := list_told (Q := fun i r => w.cells? base (a.add (i * k)) k = some (encV r) ∧ Q r) len (fun i hi' => by
      obtain ⟨cs', hc, ht'⟩ := hi i (by omega)
      obtain ⟨r, hr, hQ⟩ := hel _ _ _ ht' (hw1 i hi')
      rw [hC] at hc
      exact ⟨r, by rw [hc, hr], hQ⟩)
    refine ⟨_, L, hcs, ⟨some a, cap, by rw [hL], by omega, flat_len encV k hk L, fun hpos => ?_⟩, by omega, fun r hr => ?_, by rw [hL]; exact hw2⟩
    · obtain ⟨b, off, sp⟩ := a
      have hz : ∃ u, w.cell? ⟨b, off, sp⟩ = some u := by
        obtain ⟨r, hr⟩ : ∃ r, L[0]? = some r := ⟨_, List.getElem?_eq_getElem hpos⟩
        obtain ⟨_, _, hat⟩ := World.cells?_some (hq 0 r hr).1
        have h1 := hat 0 hk0
        have h2 : (encV r)[0]? = some ((encV r)[0]'(by rw [hk]; exact hk0)) := List.getElem?_eq_getElem _
        rw [h2] at h1
        refine ⟨_, Eq.trans ?_ h1⟩
        simp [Addr.add]
      obtain ⟨u0, hu0⟩ := hz
      obtain rfl := Go.Proofs.cell_spot hu0
      refine ⟨b, off, rfl, ?_, fun j u hu => ?_⟩
      · rcases Nat.lt_or_ge b w.heap.size with h | h
        · exact h
        · have hn : w.heap[b]? = none := by simp [h]
          simp [World.cell?, hn] at hu0
      · obtain ⟨i, jj, r, hj, hjj, hr, hu'⟩ := flat_inv encV k hk L j u hu
        obtain ⟨_, _, hat⟩ := World.cells?_some (hq i r hr).1
        have h1 := hat jj hjj
        rw [hu'] at h1
        have e : (Addr.add ⟨b, off, none⟩ (i * k)).add jj = ⟨b, off + j, none⟩ := by
          rw [hj]; simp only [Addr.add]
          split <;> split <;> simp_all <;> omega
        rw [← e]; exact h1
    · obtain ⟨i, hi', he⟩ := List.getElem_of_mem hr
      exact (hq i r (by rw [← he]; exact List.getElem?_eq_getElem hi')).2
end

end Go.Proofs.YtdjikiakcfbklaaGreat

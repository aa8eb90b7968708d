/-
  Joined texts: Hd1, Hd2, Re2, Re3, Ln6, Ln7, LnAw, LawLnNm.
-/
import Derived.Test.YtehpkpjgkmbngaaGreatMLintNames13
import Derived.Deep.DeepCutAuto
import Derived.Deep.RegionHeld3
import Derived.StillTailTactics
import Derived.Test.YtehpkpjgkmbngaaGreatMLintNames12
import Derived.Test.YtehpkpjgkmbngaaGreatMLintNames4
import Derived.Laws.ResultCell
import Derived.Laws.Rows
/-
  Walks over headers: Bytes.
-/
namespace Go.Proofs.YtehpkpjgkmbngaaGreat
open Go Go.RowKit Go.Sort

/-- A header. -/
structure Hd where
  src : Int
  dst : Int
  proto : Int
  sp : Int
  dp : Int
  deriving DecidableEq
def Hd.enc (h : Hd) : List Value := [.int .u32 h.src, .int .u32 h.dst, .int .u8 h.proto, .int .u16 h.sp, .int .u16 h.dp]
structure Hd.ok (h : Hd) : Prop where
  s0 : 0 ≤ h.src
  s1 : h.src < 4294967296
  d0 : 0 ≤ h.dst
  d1 : h.dst < 4294967296
  p0 : 0 ≤ h.proto
  p1 : h.proto < 256
  a0 : 0 ≤ h.sp
  a1 : h.sp < 65536
  b0 : 0 ≤ h.dp
  b1 : h.dp < 65536
/-- Its bytes. -/
def Hd.bytes (h : Hd) : List Int := [h.src / 16777216, h.src / 65536 % 256, h.src / 256 % 256, h.src % 256, h.dst / 16777216, h.dst / 65536 % 256, h.dst / 256 % 256, h.dst % 256, h.proto, h.sp / 256, h.sp % 256, h.dp / 256, h.dp % 256]
/-- The array while the addresses are written. -/
def Hd.part (h : Hd) (k j : Nat) (p : Bool) : List Int := (List.range 13).map fun i => if (i < 4 ∧ i < k) ∨ (4 ≤ i ∧ i < 8 ∧ i - 4 < k) ∨ (i = 8 ∧ p = true) ∨ (9 ≤ i ∧ i < 11 ∧ i - 9 < j) ∨ (11 ≤ i ∧ i - 11 < j) then h.bytes.getD i 0 else 0
theorem part_start (h : Hd) : h.part 0 0 false = List.replicate 13 0 := rfl
theorem part_full (h : Hd) : h.part 4 2 true = h.bytes := rfl

theorem u8_wrap (x : Int) : IntKind.u8.wrap x = x % 256 := by simp [IntKind.wrap, IntKind.bits, IntKind.signed]
end Go.Proofs.YtehpkpjgkmbngaaGreat

/-
  Walks over headers: Bit.
-/
namespace Go.Proofs.YtehpkpjgkmbngaaGreat
open Go Go.RowKit Go.Sort

/-- Is a bit set? -/
def Hd.bit (h : Hd) (i : Nat) : Bool := h.bytes.getD (i / 8) 0 / 2 ^ (7 - i % 8) % 2 == 1
theorem bytes_range (h : Hd) (ho : h.ok) : ∀ x ∈ h.bytes, 0 ≤ x ∧ x < 256 := by
  obtain ⟨s0, s1, d0, d1, p0, p1, a0, a1, b0, b1⟩ := ho
  intro x hx
  simp only [Hd.bytes, List.mem_cons, List.mem_nil_iff, or_false] at hx
  rcases hx with rfl | rfl | rfl | rfl | rfl | rfl | rfl | rfl | rfl | rfl | rfl | rfl | rfl <;> omega
theorem and_1 (x : Int) (h0 : 0 ≤ x) (h1 : x < 256) : bits .and .u8 x 1 = x % 2 := by
  obtain ⟨x, rfl⟩ := Int.eq_ofNat_of_zero_le h0
  rw [u8_and _ _ h0 h1 (by omega) (by omega), Int.toNat_natCast, show (1 : Int).toNat = 1 from rfl, Nat.and_one_is_mod]
  rfl
theorem div_pow (v : Int) (k : Nat) (h0 : 0 ≤ v) (h1 : v < 256) : 0 ≤ v / 2 ^ k ∧ v / 2 ^ k < 256 := by
  have hp : (1 : Int) ≤ 2 ^ k := p2_pos k
  exact ⟨Int.ediv_nonneg h0 (by omega), Int.lt_of_le_of_lt (Int.ediv_le_self _ h0) h1⟩
theorem bytes_len (h : Hd) : h.bytes.length = 13 := rfl
end Go.Proofs.YtehpkpjgkmbngaaGreat

/-
  A header's bits laid among values.
-/
namespace Go.Proofs.YtehpkpjgkmbngaaGreat
open Go Go.RowKit Go.ChangeMaps Go.MapKept Go.Maps Go.Lib Go.Sort

def bcells (f : Nat → Bool) : Array Value := ((List.range 208).map fun k => Value.bool (f k)).toArray
theorem bcells_size (f : Nat → Bool) : (bcells f).size = 208 := by simp [bcells]
theorem bcells_get (f : Nat → Bool) {k : Nat} (h : k < 208) : (bcells f)[k]? = some (.bool (f k)) := by simp [bcells, h]
theorem bcells_set (f : Nat → Bool) (k : Nat) (b : Bool) : (bcells f).setIfInBounds k (.bool b) = bcells (put f k b) := by
  apply Array.ext
  · simp [bcells_size]
  · intro i h1 h2
    have hi : i < 208 := by rw [bcells_size] at h2; exact h2
    have hi' : i < (bcells f).size := by rw [bcells_size]; exact hi
    have e1 : (bcells (put f k b))[i]'h2 = .bool (put f k b i) := by
      have := bcells_get (put f k b) hi
      rw [Array.getElem?_eq_getElem h2] at this
      exact Option.some.inj this
    have e2 : (bcells f)[i]'hi' = .bool (f i) := by
      have := bcells_get f hi
      rw [Array.getElem?_eq_getElem hi'] at this
      exact Option.some.inj this
    rw [e1, Array.getElem_setIfInBounds]
    by_cases hik : k = i
    · subst hik; rw [if_pos rfl, put_same]
    · rw [if_neg hik, e2, put_other (fun e => hik e.symm)]
    · exact hi'
/-- The values with the first m bits laid. -/
def layF (h : Hd) (o : Nat) (f : Nat → Bool) (m : Nat) : Nat → Bool := fun k => if k % 2 = o ∧ k / 2 < m then h.bit (k / 2) else f k
theorem layF_zero (h : Hd) (o : Nat) (f : Nat → Bool) : layF h o f 0 = f := funext fun k => by simp [layF]
theorem layF_succ (h : Hd) (o : Nat) (ho : o < 2) (f : Nat → Bool) (m : Nat) : put (layF h o f m) (2 * m + o) (h.bit m) = layF h o f (m + 1) := funext fun k => by
  unfold put layF
  by_cases hk : k = 2 * m + o
  · subst hk
    rw [if_pos rfl, if_pos ⟨by omega, by omega⟩, show (2 * m + o) / 2 = m by omega]
  · rw [if_neg hk]
    by_cases h1 : k % 2 = o ∧ k / 2 < m
    · rw [if_pos h1, if_pos ⟨h1.1, by omega⟩]
    · rw [if_neg h1, if_neg (fun h2 => by
        have : k / 2 < m ∨ k / 2 = m := by omega
        rcases this with h3 | h3
        · exact h1 ⟨h2.1, h3⟩
        · omega)]
def BRow (w : World) (g : Nat) (f : Nat → Bool) : Prop := w.heap[g]? = some (.cells (bcells f) 4 (0, 0))
theorem BRow.cell {w : World} {g : Nat} {f : Nat → Bool} (h : BRow w g f) {k : Nat} (hk : k < 208) : w.cell? ⟨g, k, none⟩ = some (.bool (f k)) := by
  rw [cell_of_row w _ k _ _ (0, 0) h]
  exact bcells_get f hk
theorem BRow.set {w : World} {g : Nat} {f : Nat → Bool} (h : BRow w g f) (k : Nat) (b : Bool) : BRow (w.setCell ⟨g, k, none⟩ (.bool b)) g (put f k b) := by
  unfold BRow
  rw [heap_setCell_same _ _ _ _ _ _ h, bcells_set]
theorem BRow.below {w w' : World} {g : Nat} {f : Nat → Bool} (h : BRow w g f) (hb : Below w.heap.size w w') : BRow w' g f := blk_below hb h
end Go.Proofs.YtehpkpjgkmbngaaGreat

/-
  What a diagram says of values; whether a header is in a set; whether a relation leads from one to another.
-/
namespace Go.Proofs.YtehpkpjgkmbngaaGreat
open Go Go.RowKit Go.ChangeMaps Go.MapKept Go.Maps Go.Lib Go.Sort

theorem cutN_at (N : List Nd) (i : Nat) (b : Bool) : cutN N i (nd N i).v b = if b then (nd N i).hi else (nd N i).lo := by
  unfold cutN
  rw [if_neg (fun h => h rfl)]
theorem Tryz.infoBool : (Tryz.prog.info? 4).map (fun i => (i.zero, i.size, i.bytes)) = some (some (.bool false), 1, 1) := by kernel_rfl
def boolsW (w : World) : World := w.alloc (.cells (bcells fun _ => false) 4)
theorem boolsW_row (w : World) : BRow (boolsW w) w.heap.size fun _ => false := blk1 w _
theorem boolsW_below (w : World) : Below w.heap.size w (boolsW w) := below1 w _
theorem mkBools (w : World) : (Instr.makeSlice 33 (.int .i64 208) (.int .i64 208)).run Tryz.prog w = .ok (.slice (some ⟨w.heap.size, 0, none⟩) 208 208) (boolsW w) := by
  obtain ⟨i0, hi, hz0, hz1, hz2⟩ := info_parts Tryz.infoBool
  have hb : (i0.bytes : Int) * (208 : Int) ≤ 281474976710656 := by rw [hz2]; omega
  have h := run_make (P := Tryz.prog) w 33 4 i0 _ Tryz.underlying33 hi hz0 .i64 .i64 (208 : Int) (208 : Int) (by omega) (Int.le_refl _) hb (by omega)
  have e : madeCells (Value.bool false).cells ((208 : Int).toNat * i0.size) = bcells fun _ => false := by
    rw [hz1]
    apply Array.ext'
    rw [show ((208 : Int).toNat * 1) = 208 from rfl]
    refine (toList_madeCells_one _ _).trans ?_
    apply List.ext_getElem?
    intro i
    simp only [bcells, List.getElem?_replicate, List.getElem?_map]
    by_cases hi : i < 208
    · simp [hi]
    · simp [hi]
  rw [e] at h
  exact h
/-- A header's values, and those of the one behind. -/
def nowS (h : Hd) : Nat → Bool := layF h 0 (fun _ => false) 104
def bothS (h g : Hd) : Nat → Bool := layF g 1 (nowS h) 104
section
variable {w : World} {B S km : Nat} {A : Blks} {Mo : Nat} {σ : Sg}
set_option maxRecDepth 100000
set_option maxHeartbeats 2000000
/-- What a question comes to: the space knows more, and nothing else. -/
def AskRes (w : World) (B S km : Nat) (A : Blks) (Mo : Nat) (σ : Sg) (v : Value) (e : Ending) (w' : World) : Prop := e = .returned v ∧ ∃ K, SpOk w' B S km A Mo (σ.know K) ∧ KeptS A km w w'
theorem grown_space {g : Nat} {w' : World} (h : SpOk w B S km A Mo σ) (hgr : w.grownBy w' (some g)) (hf : Foreign A w g) (hne : g ≠ km) (hS : g ≠ S) : SpOk w' B S km A Mo σ ∧ (∀ k, Foreign A w k → Foreign A w' k) := by
  obtain ⟨nv, hA⟩ := h.sp.ar
  obtain ⟨a1, a2, a3⟩ := hA.calm hgr.size fun k hk hn => hgr.block k hk (fun e => hn (by injection e with e; rw [e]; exact hf))
  exact ⟨⟨⟨⟨nv, a1⟩, (hgr.block S (lt_of_block h.sp.cells) (fun e => hS (by injection e with e; exact e.symm))).trans h.sp.cells, a2 _ h.sp.fs, h.sp.known.same (hgr.block km h.sp.fk.1 (fun e => hne (by injection e with e; exact e.symm))), a2 _ h.sp.fk, h.sp.ne⟩, h.ok⟩, a2⟩
theorem keptG {W3 W4 : World} {g : Nat} (h : KeptS A km w W3) (hg : W3.grownBy W4 (some g)) (hs : w.heap.size ≤ g) (hf : ∀ k, Foreign A W3 k → Foreign A W4 k) : KeptS A km w W4 :=
  ⟨hg.os.trans h.os, hg.tape.trans h.tape, hg.output.trans h.output, Nat.le_trans h.size hg.size, fun k hk hn => ⟨(hg.block k (Nat.lt_of_lt_of_le hk.1 h.size) (fun e => by injection e with e; have := hk.1; omega)).trans (h.same k hk hn).1, hf k (h.same k hk hn).2⟩⟩
end
end Go.Proofs.YtehpkpjgkmbngaaGreat

/-
  The linter where there is nothing: Entries, Clauses, Rewrites.
-/
namespace Go.Proofs.YtehpkpjgkmbngaaGreat
open Go Go.RowKit Go.ChangeMaps Go.MapKept Go.Maps Go.Lib Go.Sort

theorem plL_zero (p : Nat → Bool) : plL p 0 = [] := rfl
theorem mkBool0 (w : World) : (Instr.makeSlice 33 (.int .i64 0) (.int .i64 0)).run Tryz.prog w = .ok (.slice (some ⟨w.heap.size, 0, none⟩) 0 0) (w.alloc (.cells #[] 4)) := by
  obtain ⟨i0, hi, hz0, hz1, hz2⟩ := info_parts Tryz.infoBool
  have hb : (i0.bytes : Int) * (0 : Int) ≤ 281474976710656 := by omega
  have h := run_make (P := Tryz.prog) w 33 4 i0 _ Tryz.underlying33 hi hz0 .i64 .i64 (0 : Int) (0 : Int) (by omega) (Int.le_refl _) hb (by omega)
  have e : madeCells (Value.bool false).cells ((0 : Int).toNat * i0.size) = #[] := by
    rw [show ((0 : Int).toNat * i0.size) = 0 by simp]
    simp [madeCells]
  rw [e] at h
  exact h
section
set_option maxRecDepth 100000
set_option maxHeartbeats 4000000
theorem placesNil_any (fid : FuncId) (caps : Array Value) (w : World) (en : ∀ (args : Array Value) (W : World), (callFunc fid args).run Tryz.prog W = .ok (.enter fid args) W) :
    Calls Tryz.prog 20 #[.int .i64 0, .func (.func fid) #[] caps] w fun e w' => (∃ A c, e = .returned (.slice A 0 c)) ∧ Below w.heap.size w w' := by
  refine (show Calls Tryz.prog 20 #[.int .i64 0, .func (.func fid) #[] caps] w _ from places_any 0 fid caps (fun _ => false) w en (fun i _ hi => absurd hi (by omega)) (by omega)).mono ?_
  rintro e w' ⟨v, rfl, ho, hb⟩
  obtain ⟨A, c, rfl, _⟩ := owns_form ho
  exact ⟨⟨A, c, rfl⟩, hb⟩
theorem entriesNil_any (nm : ByteArray) (w : World) :
    Calls Tryz.prog 6 #[.agg #[.string nm, .slice none 0 0]] w fun e w' => (∃ A c, e = .returned (.slice A 0 c)) ∧ Below w.heap.size w w' := by
  have hmk := mkBool0
  have HB0 := Lib.hid (below1 w (.cells #[.string nm, .slice none 0 0] 24))
  have b1 : (w.alloc (.cells #[.string nm, .slice none 0 0] 24)).cell? ⟨w.heap.size, 1, none⟩ = some (.slice none 0 0) := cell_of_row _ _ 1 _ _ (0, 0) (blk1 w _)
  have HK0 := Lib.hid (blk1 w (.cells #[.string nm, .slice none 0 0] 24))
  go_enter Tryz.func6, Tryz.ntmps6
  go_upto_region 1 with fail
  generalize w.alloc (.cells #[.string nm, .slice none 0 0] 24) = w0 at *
  go_wp2
  have hb2 := below2 w0 (.cells #[] 4) (.cells #[.slice (some ⟨w0.heap.size, 0, none⟩) 0 0] 33)
  have hs2 : (w0.alloc (.cells #[] 4)).heap.size = w0.heap.size + 1 := by simp
  have hk2 := blk1 (w0.alloc (.cells #[] 4)) (.cells #[.slice (some ⟨w0.heap.size, 0, none⟩) 0 0] 33)
  rw [hs2] at hk2
  have HB2 := Lib.hid (HB0.out.trans (hb2.mono HB0.out.size))
  have d0 := cell0 hk2
  have d1 : ((w0.alloc (.cells #[] 4)).alloc (.cells #[.slice (some ⟨w0.heap.size, 0, none⟩) 0 0] 33)).cell? ⟨w.heap.size, 1, none⟩ = some (.slice none 0 0) := cell_of_row _ _ 1 _ _ (0, 0) (blk_below hb2 HK0.out)
  clear hs2 hk2 hb2 b1
  generalize (w0.alloc (.cells #[] 4)).alloc (.cells #[.slice (some ⟨w0.heap.size, 0, none⟩) 0 0] 33) = w2 at *
  go_loopw [16] (fun i wr => ∃ k : Nat, i = .int .i64 k ∧ k ≤ 33 ∧ wr = w2) (fun i _ => 33 - (intOf i).toNat)
  case atStart => exact ⟨0, rfl, by omega, rfl⟩
  case round =>
    obtain ⟨k, rfl, hk, rfl⟩ := hrel
    by_cases hlt : k < 33
    · have hI : (k : Int) < 33 := by omega
      go_wp2
      refine wp_loop_rounds 1 ?_
      rw [rounds_succ]
      go_wp2
      exact ⟨⟨k + 1, by go_num, by omega, trivial⟩, by simp only [intOf]; omega⟩
    · obtain rfl : k = 33 := by omega
      have hI : ¬ ((33 : Nat) : Int) < 33 := by omega
      have HPL := Lib.hid (placesNil_any 21 #[.pointer (some ⟨w0.heap.size + 1, 0, none⟩)] wr (enters_of Tryz.func21 (by kernel_rfl) rfl))
      go_wp2_with ((with_reducible refine HPL.out.mono ?_); rintro e w3 ⟨⟨A3, c3, rfl⟩, hb3⟩; have HB3 := Lib.hid (HB2.out.trans (hb3.mono HB2.out.size)); clear hb3)
      go_ret
      exact ⟨⟨_, _, rfl⟩, HB3.out⟩
theorem toNil_any (w : World) (a b c d : Value) {g : Nat} (hn : w.heap[g]? = some (.cells #[.int .i64 0] 3 (0, 0))) :
    Calls Tryz.prog 43 #[.int .i64 0, .pointer (some ⟨g, 0, none⟩), a, b, c, d] w fun e w' => e = .returned (.tuple #[]) ∧ w' = w := by
  have c0 := cell0 hn
  clear hn
  go_enter Tryz.func43, Tryz.ntmps43
  go_wp2
  (try simp only [Exit.inBlock, Exit.then])
  refine bodyPost_ret (results_none rfl _ _ _) rfl ?_
  exact ⟨rfl, rfl⟩
theorem clausesNil_any (w : World) :
    Calls Tryz.prog 16 #[.agg #[.string ⟨#[]⟩, .int .u8 0, .slice none 0 0, .slice none 0 0, .slice none 0 0, .slice none 0 0, .slice none 0 0, .slice none 0 0, .slice none 0 0, .slice none 0 0, .slice none 0 0, .slice none 0 0], .agg #[.string ⟨#[]⟩, .slice none 0 0, .bool false]] w fun e w' => (∃ A c, e = .returned (.slice A 0 c)) ∧ Below w.heap.size w w' := by
  have hmk := mkBool0
  have hb1 := below2 w (.cells #[.string ⟨#[]⟩, .int .u8 0, .slice none 0 0, .slice none 0 0, .slice none 0 0, .slice none 0 0, .slice none 0 0, .slice none 0 0, .slice none 0 0, .slice none 0 0, .slice none 0 0, .slice none 0 0] 67) (.cells #[.string ⟨#[]⟩, .slice none 0 0, .bool false] 76)
  have hs1 : (w.alloc (.cells #[.string ⟨#[]⟩, .int .u8 0, .slice none 0 0, .slice none 0 0, .slice none 0 0, .slice none 0 0, .slice none 0 0, .slice none 0 0, .slice none 0 0, .slice none 0 0, .slice none 0 0, .slice none 0 0] 67)).heap.size = w.heap.size + 1 := by simp
  have hk1 := blk1 (w.alloc (.cells #[.string ⟨#[]⟩, .int .u8 0, .slice none 0 0, .slice none 0 0, .slice none 0 0, .slice none 0 0, .slice none 0 0, .slice none 0 0, .slice none 0 0, .slice none 0 0, .slice none 0 0, .slice none 0 0] 67)) (.cells #[.string ⟨#[]⟩, .slice none 0 0, .bool false] 76)
  rw [hs1] at hk1
  have p1 := cell_of_row _ _ 1 _ _ (0, 0) hk1
  have HB1 := Lib.hid hb1
  have HK1 := Lib.hid hk1
  clear hb1 hs1 hk1
  go_enter Tryz.func16, Tryz.ntmps16
  go_upto_region 1 with fail
  generalize (w.alloc (.cells #[.string ⟨#[]⟩, .int .u8 0, .slice none 0 0, .slice none 0 0, .slice none 0 0, .slice none 0 0, .slice none 0 0, .slice none 0 0, .slice none 0 0, .slice none 0 0, .slice none 0 0, .slice none 0 0] 67)).alloc (.cells #[.string ⟨#[]⟩, .slice none 0 0, .bool false] 76) = w1 at *
  have p1' : w1.cell? ⟨w.heap.size + 1, 1, none⟩ = some (.slice none 0 0) := p1
  clear p1
  go_upto_region 2 with fail
  have HB2 := Lib.hid (HB1.out.trans ((below1 w1 (.cells #[.int .i64 0] 3)).mono HB1.out.size))
  have HN2 := Lib.hid (blk1 w1 (.cells #[.int .i64 0] 3))
  have HK2 := Lib.hid (blk_below (below1 w1 (.cells #[.int .i64 0] 3)) HK1.out)
  clear p1' HK1 HB1
  generalize w1.heap.size = gn at *
  generalize w1.alloc (.cells #[.int .i64 0] 3) = w2 at *
  have n2 := cell0 HN2.out
  go_upto_region 3 with fail
  have hb3 := below2 w2 (.cells #[] 4) (.cells #[.slice (some ⟨w2.heap.size, 0, none⟩) 0 0] 33)
  have HB3 := Lib.hid (HB2.out.trans (hb3.mono HB2.out.size))
  have HN3 := Lib.hid (blk_below hb3 HN2.out)
  have HK3 := Lib.hid (blk_below hb3 HK2.out)
  clear hb3 HB2 HN2 HK2 n2
  generalize (w2.alloc (.cells #[] 4)).alloc (.cells #[.slice (some ⟨w2.heap.size, 0, none⟩) 0 0] 33) = w3 at *
  generalize w2.heap.size + 1 = g3 at *
  generalize w2.heap.size = g2 at *
  have n3 := cell0 HN3.out
  go_upto_region 4 with fail
  have hb4 := below2 w3 (.cells #[] 4) (.cells #[.slice (some ⟨w3.heap.size, 0, none⟩) 0 0] 33)
  have HB4 := Lib.hid (HB3.out.trans (hb4.mono HB3.out.size))
  have HN4 := Lib.hid (blk_below hb4 HN3.out)
  have HK4 := Lib.hid (blk_below hb4 HK3.out)
  clear hb4 HB3 HN3 HK3 n3
  generalize (w3.alloc (.cells #[] 4)).alloc (.cells #[.slice (some ⟨w3.heap.size, 0, none⟩) 0 0] 33) = w4 at *
  generalize w3.heap.size + 1 = g5 at *
  generalize w3.heap.size = g4 at *
  have p4 : w4.cell? ⟨w.heap.size + 1, 1, none⟩ = some (.slice none 0 0) := cell_of_row _ _ 1 _ _ (0, 0) HK4.out
  go_wp2
  refine wp_loop_rounds 1 ?_
  rw [rounds_succ]
  go_upto_region 10 with fail
  have hb5 := below1 w4 (.cells #[.nilFunc] 115)
  have hk5 := blk1 w4 (.cells #[.nilFunc] 115)
  have hrs := @run_store_fn Tryz.prog
  have c5 := cell0 hk5
  have f5 := frozen_of_row _ _ 0 _ _ hk5
  have hb6 := below1 w4 (.cells #[(.func (.func 43) #[] #[.pointer (some ⟨gn, 0, none⟩), .pointer (some ⟨g3, 0, none⟩), .pointer (some ⟨w.heap.size + 1, 0, none⟩), .pointer (some ⟨w4.heap.size, 0, none⟩), .pointer (some ⟨g5, 0, none⟩)])] 115)
  have HB5 := Lib.hid (HB4.out.trans (hb6.mono HB4.out.size))
  have HN5 := Lib.hid (blk_below hb6 HN4.out)
  have H5 := Lib.hid (cell0 (blk1 w4 (.cells #[(.func (.func 43) #[] #[.pointer (some ⟨gn, 0, none⟩), .pointer (some ⟨g3, 0, none⟩), .pointer (some ⟨w.heap.size + 1, 0, none⟩), .pointer (some ⟨w4.heap.size, 0, none⟩), .pointer (some ⟨g5, 0, none⟩)])] 115)))
  clear hb5 hb6 hk5 HB4 HN4 HK4 p4
  go_upto_region 11 with fail
  clear c5 f5 hrs
  generalize w4.alloc (.cells #[(.func (.func 43) #[] #[.pointer (some ⟨gn, 0, none⟩), .pointer (some ⟨g3, 0, none⟩), .pointer (some ⟨w.heap.size + 1, 0, none⟩), .pointer (some ⟨w4.heap.size, 0, none⟩), .pointer (some ⟨g5, 0, none⟩)])] 115) = w5 at *
  have c5 := H5.out
  have n5 := cell0 HN5.out
  have HTO := Lib.hid (toNil_any w5 (.pointer (some ⟨g3, 0, none⟩)) (.pointer (some ⟨w.heap.size + 1, 0, none⟩)) (.pointer (some ⟨w4.heap.size, 0, none⟩)) (.pointer (some ⟨g5, 0, none⟩)) HN5.out)
  have HPL := Lib.hid (placesNil_any 45 #[.pointer (some ⟨g3, 0, none⟩), .pointer (some ⟨g5, 0, none⟩)] w5 (enters_of Tryz.func45 (by kernel_rfl) rfl))
  go_wp2_with (first
    | ((with_reducible refine HTO.out.mono ?_); rintro e w5 ⟨rfl, rfl⟩)
    | ((with_reducible refine HPL.out.mono ?_); rintro e w6 ⟨⟨A6, c6, rfl⟩, hb6⟩; have HB6 := Lib.hid (HB5.out.trans (hb6.mono HB5.out.size)); clear hb6))
  go_ret
  exact ⟨⟨_, _, rfl⟩, HB6.out⟩
theorem rewritesNil_any (w : World) :
    Calls Tryz.prog 37 #[.agg #[.string ⟨#[]⟩, .int .u8 0, .slice none 0 0, .slice none 0 0, .slice none 0 0, .slice none 0 0, .slice none 0 0, .slice none 0 0, .slice none 0 0, .slice none 0 0, .slice none 0 0, .slice none 0 0]] w fun e w' => e = .returned (.tuple #[.slice none 0 0, .int .i64 0]) ∧ Below w.heap.size w w' := by
  have hmm := @run_makeMap Tryz.prog
  have HB1 := Lib.hid (below1 w (.cells #[.string ⟨#[]⟩, .int .u8 0, .slice none 0 0, .slice none 0 0, .slice none 0 0, .slice none 0 0, .slice none 0 0, .slice none 0 0, .slice none 0 0, .slice none 0 0, .slice none 0 0, .slice none 0 0] 67))
  have HK1 := Lib.hid (blk1 w (.cells #[.string ⟨#[]⟩, .int .u8 0, .slice none 0 0, .slice none 0 0, .slice none 0 0, .slice none 0 0, .slice none 0 0, .slice none 0 0, .slice none 0 0, .slice none 0 0, .slice none 0 0, .slice none 0 0] 67))
  have p1 : (w.alloc (.cells #[.string ⟨#[]⟩, .int .u8 0, .slice none 0 0, .slice none 0 0, .slice none 0 0, .slice none 0 0, .slice none 0 0, .slice none 0 0, .slice none 0 0, .slice none 0 0, .slice none 0 0, .slice none 0 0] 67)).cell? ⟨w.heap.size, 4, none⟩ = some (.slice none 0 0) := cell_of_row _ _ 4 _ _ (0, 0) HK1.out
  go_enter Tryz.func37, Tryz.ntmps37
  go_upto_region 1 with fail
  generalize w.alloc (.cells #[.string ⟨#[]⟩, .int .u8 0, .slice none 0 0, .slice none 0 0, .slice none 0 0, .slice none 0 0, .slice none 0 0, .slice none 0 0, .slice none 0 0, .slice none 0 0, .slice none 0 0, .slice none 0 0] 67) = w1 at *
  have HNEW := Lib.hid (show Calls Tryz.prog 40 #[.int .i64 4194304] w1 (fun e w' => ∃ (S km : Nat) (A : Blks), e = .returned (.tuple #[.pointer (some ⟨S, 0, none⟩), .int .i64 0]) ∧ SpAt w' w1.heap.size S km A 4194304 N0 [] [0, 1] [] ∧ Below w1.heap.size w1 w' ∧ w1.heap.size ≤ S ∧ w1.heap.size ≤ km) from relNew_any w1 4194304 (Nat.le_refl _))
  go_wp2
  refine wp_loop_rounds 1 ?_
  rw [rounds_succ]
  go_upto_region 9 with ((with_reducible refine HNEW.out.mono ?_); rintro e w2 ⟨S, km, A, rfl, hs2, hb2, _, _⟩; have HB2 := Lib.hid (HB1.out.trans (hb2.mono HB1.out.size)); have HK2 := Lib.hid (blk_below hb2 HK1.out); clear hs2 hb2)
  have HB3 := Lib.hid (HB2.out.trans ((below1 w2 (.map #[] 0)).mono HB2.out.size))
  have p3 : (w2.alloc (.map #[] 0)).cell? ⟨w.heap.size, 5, none⟩ = some (.slice none 0 0) := cell_of_row _ _ 5 _ _ (0, 0) (blk_below (below1 w2 (.map #[] 0)) HK2.out)
  go_wp2
  refine wp_loop_rounds 1 ?_
  rw [rounds_succ]
  go_wp2
  go_ret2
  exact ⟨rfl, HB3.out⟩
theorem namingNil_any (w : World) :
    Calls Tryz.prog 38 #[.agg #[.string ⟨#[]⟩, .int .u8 0, .slice none 0 0, .slice none 0 0, .slice none 0 0, .slice none 0 0, .slice none 0 0, .slice none 0 0, .slice none 0 0, .slice none 0 0, .slice none 0 0, .slice none 0 0]] w fun e w' => (∃ a b c d, e = .returned (.agg #[.map (some a), .map (some b), .map (some c), .map (some d)])) ∧ Below w.heap.size w w' := by
  have hmm := @run_makeMap Tryz.prog
  have hb1 := below2 w (.cells #[.string ⟨#[]⟩, .int .u8 0, .slice none 0 0, .slice none 0 0, .slice none 0 0, .slice none 0 0, .slice none 0 0, .slice none 0 0, .slice none 0 0, .slice none 0 0, .slice none 0 0, .slice none 0 0] 67) (.cells #[.map none, .map none, .map none, .map none] 105)
  have hs1 : (w.alloc (.cells #[.string ⟨#[]⟩, .int .u8 0, .slice none 0 0, .slice none 0 0, .slice none 0 0, .slice none 0 0, .slice none 0 0, .slice none 0 0, .slice none 0 0, .slice none 0 0, .slice none 0 0, .slice none 0 0] 67)).heap.size = w.heap.size + 1 := by simp
  have hk1 := blk1 (w.alloc (.cells #[.string ⟨#[]⟩, .int .u8 0, .slice none 0 0, .slice none 0 0, .slice none 0 0, .slice none 0 0, .slice none 0 0, .slice none 0 0, .slice none 0 0, .slice none 0 0, .slice none 0 0, .slice none 0 0] 67)) (.cells #[.map none, .map none, .map none, .map none] 105)
  rw [hs1] at hk1
  have HN1 := Lib.hid hk1
  have HK1 := Lib.hid (blk_below (below1 (w.alloc (.cells #[.string ⟨#[]⟩, .int .u8 0, .slice none 0 0, .slice none 0 0, .slice none 0 0, .slice none 0 0, .slice none 0 0, .slice none 0 0, .slice none 0 0, .slice none 0 0, .slice none 0 0, .slice none 0 0] 67)) (.cells #[.map none, .map none, .map none, .map none] 105)) (blk1 w (.cells #[.string ⟨#[]⟩, .int .u8 0, .slice none 0 0, .slice none 0 0, .slice none 0 0, .slice none 0 0, .slice none 0 0, .slice none 0 0, .slice none 0 0, .slice none 0 0, .slice none 0 0, .slice none 0 0] 67)))
  have HB1 := Lib.hid hb1
  clear hb1 hs1 hk1
  go_enter Tryz.func38, Tryz.ntmps38
  go_upto_region 1 with fail
  generalize (w.alloc (.cells #[.string ⟨#[]⟩, .int .u8 0, .slice none 0 0, .slice none 0 0, .slice none 0 0, .slice none 0 0, .slice none 0 0, .slice none 0 0, .slice none 0 0, .slice none 0 0, .slice none 0 0, .slice none 0 0] 67)).alloc (.cells #[.map none, .map none, .map none, .map none] 105) = w1 at *
  go_upto_region 2 with fail
  have hb2 : Below w1.heap.size w1 (((((w1.alloc (.map #[] 0)).alloc (.map #[] 0)).alloc (.map #[] 0)).alloc (.map #[] 0)).alloc (.cells #[.map (some w1.heap.size), .map (some (w1.heap.size + 1)), .map (some (w1.heap.size + 1 + 1)), .map (some (w1.heap.size + 1 + 1 + 1))] 105)) := ((((below1 w1 (.map #[] 0)).alloc (by simp) (.map #[] 0)).alloc (by simp; omega) (.map #[] 0)).alloc (by simp; omega) (.map #[] 0)).alloc (by simp; omega) (.cells #[.map (some w1.heap.size), .map (some (w1.heap.size + 1)), .map (some (w1.heap.size + 1 + 1)), .map (some (w1.heap.size + 1 + 1 + 1))] 105)
  have hs4 : ((((w1.alloc (.map #[] 0)).alloc (.map #[] 0)).alloc (.map #[] 0)).alloc (.map #[] 0)).heap.size = w1.heap.size + 1 + 1 + 1 + 1 := by simp
  have hk2 := blk1 ((((w1.alloc (.map #[] 0)).alloc (.map #[] 0)).alloc (.map #[] 0)).alloc (.map #[] 0)) (.cells #[.map (some w1.heap.size), .map (some (w1.heap.size + 1)), .map (some (w1.heap.size + 1 + 1)), .map (some (w1.heap.size + 1 + 1 + 1))] 105)
  rw [hs4] at hk2
  have HM2 := Lib.hid hk2
  have HN2 := Lib.hid (blk_below hb2 HN1.out)
  have HK2 := Lib.hid (blk_below hb2 HK1.out)
  have HB2 := Lib.hid (HB1.out.trans (hb2.mono HB1.out.size))
  have hz := lt_of_block HN1.out
  clear hb2 hs4 hk2 HB1 HN1 HK1
  generalize ((((w1.alloc (.map #[] 0)).alloc (.map #[] 0)).alloc (.map #[] 0)).alloc (.map #[] 0)).alloc (.cells #[.map (some w1.heap.size), .map (some (w1.heap.size + 1)), .map (some (w1.heap.size + 1 + 1)), .map (some (w1.heap.size + 1 + 1 + 1))] 105) = w2 at *
  generalize w1.heap.size = g1 at *
  have d3 : w2.cell? ⟨w.heap.size, 3, none⟩ = some (.slice none 0 0) := cell_of_row _ _ 3 _ _ (0, 0) HK2.out
  have d5 : w2.cell? ⟨w.heap.size, 5, none⟩ = some (.slice none 0 0) := cell_of_row _ _ 5 _ _ (0, 0) HK2.out
  have d9 : w2.cell? ⟨w.heap.size, 9, none⟩ = some (.slice none 0 0) := cell_of_row _ _ 9 _ _ (0, 0) HK2.out
  have d10 : w2.cell? ⟨w.heap.size, 10, none⟩ = some (.slice none 0 0) := cell_of_row _ _ 10 _ _ (0, 0) HK2.out
  have d11 : w2.cell? ⟨w.heap.size, 11, none⟩ = some (.slice none 0 0) := cell_of_row _ _ 11 _ _ (0, 0) HK2.out
  go_wp2
  refine wp_loop_rounds 1 ?_
  rw [rounds_succ]
  go_wp2
  refine wp_loop_rounds 1 ?_
  rw [rounds_succ]
  go_wp2
  refine wp_loop_rounds 1 ?_
  rw [rounds_succ]
  go_wp2
  refine wp_loop_rounds 1 ?_
  rw [rounds_succ]
  go_wp2
  refine wp_loop_rounds 1 ?_
  rw [rounds_succ]
  go_upto_region 40 with fail
  have m0 := cell_of_row _ _ 0 _ _ (0, 0) HM2.out
  have m1 := cell_of_row _ _ 1 _ _ (0, 0) HM2.out
  have m2 := cell_of_row _ _ 2 _ _ (0, 0) HM2.out
  have m3 := cell_of_row _ _ 3 _ _ (0, 0) HM2.out
  have n0 := cell_of_row _ _ 0 _ _ (0, 0) HN2.out
  have n1 := cell_of_row _ _ 1 _ _ (0, 0) HN2.out
  have n2 := cell_of_row _ _ 2 _ _ (0, 0) HN2.out
  have n3 := cell_of_row _ _ 3 _ _ (0, 0) HN2.out
  have f0 := frozen_of_row _ _ 0 _ _ HN2.out
  have f1 := frozen_of_row _ _ 1 _ _ HN2.out
  have f2 := frozen_of_row _ _ 2 _ _ HN2.out
  have f3 := frozen_of_row _ _ 3 _ _ HN2.out
  simp only [List.getElem?_toArray, List.getElem?_cons_zero, List.getElem?_cons_succ] at m0 m1 m2 m3 n0 n1 n2 n3
  go_wp2
  have h4 := set_at (i := 3) (u := .map (some (g1 + 1 + 1 + 1))) (set_at (i := 2) (u := .map (some (g1 + 1 + 1))) (set_at (i := 1) (u := .map (some (g1 + 1))) (set_at (i := 0) (u := .map (some g1)) HN2.out)))
  have hb4 := (((HB2.out.setCell (p := ⟨w.heap.size + 1, 0, none⟩) (Nat.le_succ _) (.map (some g1))).setCell (p := ⟨w.heap.size + 1, 1, none⟩) (Nat.le_succ _) (.map (some (g1 + 1)))).setCell (p := ⟨w.heap.size + 1, 2, none⟩) (Nat.le_succ _) (.map (some (g1 + 1 + 1)))).setCell (p := ⟨w.heap.size + 1, 3, none⟩) (Nat.le_succ _) (.map (some (g1 + 1 + 1 + 1)))
  exact bodyPost_ret (results_cell_row Tryz.results38 _ _ (w.heap.size + 1) _ _ (0, 0) _ rfl h4 Tryz.underlying105 rfl (by kernel_rfl)) rfl ⟨⟨g1, g1 + 1, g1 + 1 + 1, g1 + 1 + 1 + 1, rfl⟩, hb4⟩
end
end Go.Proofs.YtehpkpjgkmbngaaGreat

/-
  The linter where there is nothing: a device without anything.
-/
namespace Go.Proofs.YtehpkpjgkmbngaaGreat
open Go Go.RowKit Go.ChangeMaps Go.MapKept Go.Maps Go.Lib Go.Sort

section
set_option maxRecDepth 100000
set_option maxHeartbeats 4000000
theorem addNil_any (w : World) (k : Int) (nm : ByteArray) (g : Nat) :
    Calls Tryz.prog 36 #[.int .i64 k, .string nm, .slice none 0 0, .pointer (some ⟨g, 0, none⟩)] w fun e w' => e = .returned (.tuple #[]) ∧ w' = w := by
  go_enter Tryz.func36, Tryz.ntmps36
  go_wp2
  refine wp_loop_rounds 1 ?_
  rw [rounds_succ]
  go_wp2
  go_end0
  exact ⟨rfl, rfl⟩
theorem deviceNil_any (w : World) :
    Calls Tryz.prog 14 #[.agg #[.string ⟨#[]⟩, .int .u8 0, .slice none 0 0, .slice none 0 0, .slice none 0 0, .slice none 0 0, .slice none 0 0, .slice none 0 0, .slice none 0 0, .slice none 0 0, .slice none 0 0, .slice none 0 0]] w fun e w' => e = .returned (.tuple #[.slice none 0 0, .int .i64 0]) ∧ Below w.heap.size w w' := by
  have hb1 := below2 w (.cells #[.string ⟨#[]⟩, .int .u8 0, .slice none 0 0, .slice none 0 0, .slice none 0 0, .slice none 0 0, .slice none 0 0, .slice none 0 0, .slice none 0 0, .slice none 0 0, .slice none 0 0, .slice none 0 0] 67) (.cells #[.slice none 0 0] 52)
  have hs1 : (w.alloc (.cells #[.string ⟨#[]⟩, .int .u8 0, .slice none 0 0, .slice none 0 0, .slice none 0 0, .slice none 0 0, .slice none 0 0, .slice none 0 0, .slice none 0 0, .slice none 0 0, .slice none 0 0, .slice none 0 0] 67)).heap.size = w.heap.size + 1 := by simp
  have hk1 := blk1 (w.alloc (.cells #[.string ⟨#[]⟩, .int .u8 0, .slice none 0 0, .slice none 0 0, .slice none 0 0, .slice none 0 0, .slice none 0 0, .slice none 0 0, .slice none 0 0, .slice none 0 0, .slice none 0 0, .slice none 0 0] 67)) (.cells #[.slice none 0 0] 52)
  rw [hs1] at hk1
  have HO1 := Lib.hid hk1
  have HK1 := Lib.hid (blk_below (below1 (w.alloc (.cells #[.string ⟨#[]⟩, .int .u8 0, .slice none 0 0, .slice none 0 0, .slice none 0 0, .slice none 0 0, .slice none 0 0, .slice none 0 0, .slice none 0 0, .slice none 0 0, .slice none 0 0, .slice none 0 0] 67)) (.cells #[.slice none 0 0] 52)) (blk1 w (.cells #[.string ⟨#[]⟩, .int .u8 0, .slice none 0 0, .slice none 0 0, .slice none 0 0, .slice none 0 0, .slice none 0 0, .slice none 0 0, .slice none 0 0, .slice none 0 0, .slice none 0 0, .slice none 0 0] 67)))
  have HB1 := Lib.hid hb1
  clear hb1 hs1 hk1
  have hrs := @run_store_fn Tryz.prog
  go_enter Tryz.func14, Tryz.ntmps14
  go_upto_region 2 with fail
  generalize (w.alloc (.cells #[.string ⟨#[]⟩, .int .u8 0, .slice none 0 0, .slice none 0 0, .slice none 0 0, .slice none 0 0, .slice none 0 0, .slice none 0 0, .slice none 0 0, .slice none 0 0, .slice none 0 0, .slice none 0 0] 67)).alloc (.cells #[.slice none 0 0] 52) = w1 at *
  go_upto_region 3 with fail
  have hb2 := below1 w1 (.cells #[.func (.func 36) #[] #[.pointer (some ⟨w.heap.size + 1, 0, none⟩)]] 101)
  have HB2 := Lib.hid (HB1.out.trans (hb2.mono HB1.out.size))
  have HO2 := Lib.hid (blk_below hb2 HO1.out)
  have HK2 := Lib.hid (blk_below hb2 HK1.out)
  have HF2 := Lib.hid (blk1 w1 (.cells #[.func (.func 36) #[] #[.pointer (some ⟨w.heap.size + 1, 0, none⟩)]] 101))
  clear hb2 HB1 HO1 HK1 hrs
  generalize w1.alloc (.cells #[.func (.func 36) #[] #[.pointer (some ⟨w.heap.size + 1, 0, none⟩)]] 101) = w2 at *
  generalize w1.heap.size = gf at *
  have q0 : w2.cell? ⟨w.heap.size, 0, none⟩ = some (.string ⟨#[]⟩) := cell_of_row _ _ 0 _ _ (0, 0) HK2.out
  have q1 : w2.cell? ⟨w.heap.size, 1, none⟩ = some (.int .u8 0) := cell_of_row _ _ 1 _ _ (0, 0) HK2.out
  have q2 : w2.cell? ⟨w.heap.size, 2, none⟩ = some (.slice none 0 0) := cell_of_row _ _ 2 _ _ (0, 0) HK2.out
  have q3 : w2.cell? ⟨w.heap.size, 3, none⟩ = some (.slice none 0 0) := cell_of_row _ _ 3 _ _ (0, 0) HK2.out
  have q4 : w2.cell? ⟨w.heap.size, 4, none⟩ = some (.slice none 0 0) := cell_of_row _ _ 4 _ _ (0, 0) HK2.out
  have q5 : w2.cell? ⟨w.heap.size, 5, none⟩ = some (.slice none 0 0) := cell_of_row _ _ 5 _ _ (0, 0) HK2.out
  have q6 : w2.cell? ⟨w.heap.size, 6, none⟩ = some (.slice none 0 0) := cell_of_row _ _ 6 _ _ (0, 0) HK2.out
  have q7 : w2.cell? ⟨w.heap.size, 7, none⟩ = some (.slice none 0 0) := cell_of_row _ _ 7 _ _ (0, 0) HK2.out
  have q8 : w2.cell? ⟨w.heap.size, 8, none⟩ = some (.slice none 0 0) := cell_of_row _ _ 8 _ _ (0, 0) HK2.out
  have q9 : w2.cell? ⟨w.heap.size, 9, none⟩ = some (.slice none 0 0) := cell_of_row _ _ 9 _ _ (0, 0) HK2.out
  have q10 : w2.cell? ⟨w.heap.size, 10, none⟩ = some (.slice none 0 0) := cell_of_row _ _ 10 _ _ (0, 0) HK2.out
  have q11 : w2.cell? ⟨w.heap.size, 11, none⟩ = some (.slice none 0 0) := cell_of_row _ _ 11 _ _ (0, 0) HK2.out
  go_wp2
  refine wp_loop_rounds 1 ?_
  rw [rounds_succ]
  go_wp2
  refine wp_loop_rounds 1 ?_
  rw [rounds_succ]
  go_wp2
  refine wp_loop_rounds 1 ?_
  rw [rounds_succ]
  go_wp2
  refine wp_loop_rounds 1 ?_
  rw [rounds_succ]
  have HRW := Lib.hid (rewritesNil_any w2)
  go_upto_region 27 with ((with_reducible refine HRW.out.mono ?_); rintro e w3 ⟨rfl, hb3⟩; have HB3 := Lib.hid (HB2.out.trans (hb3.mono HB2.out.size)); have HO3 := Lib.hid (blk_below hb3 HO2.out); have HK3 := Lib.hid (blk_below hb3 HK2.out); have HF3 := Lib.hid (blk_below hb3 HF2.out); clear hb3)
  clear q0 q1 q2 q3 q4 q5 q6 q7 q8 q9 q10 q11
  clear HRW HB2 HO2 HK2 HF2
  have q0 : w3.cell? ⟨w.heap.size, 0, none⟩ = some (.string ⟨#[]⟩) := cell_of_row _ _ 0 _ _ (0, 0) HK3.out
  have q1 : w3.cell? ⟨w.heap.size, 1, none⟩ = some (.int .u8 0) := cell_of_row _ _ 1 _ _ (0, 0) HK3.out
  have q2 : w3.cell? ⟨w.heap.size, 2, none⟩ = some (.slice none 0 0) := cell_of_row _ _ 2 _ _ (0, 0) HK3.out
  have q3 : w3.cell? ⟨w.heap.size, 3, none⟩ = some (.slice none 0 0) := cell_of_row _ _ 3 _ _ (0, 0) HK3.out
  have q4 : w3.cell? ⟨w.heap.size, 4, none⟩ = some (.slice none 0 0) := cell_of_row _ _ 4 _ _ (0, 0) HK3.out
  have q5 : w3.cell? ⟨w.heap.size, 5, none⟩ = some (.slice none 0 0) := cell_of_row _ _ 5 _ _ (0, 0) HK3.out
  have q6 : w3.cell? ⟨w.heap.size, 6, none⟩ = some (.slice none 0 0) := cell_of_row _ _ 6 _ _ (0, 0) HK3.out
  have q7 : w3.cell? ⟨w.heap.size, 7, none⟩ = some (.slice none 0 0) := cell_of_row _ _ 7 _ _ (0, 0) HK3.out
  have q8 : w3.cell? ⟨w.heap.size, 8, none⟩ = some (.slice none 0 0) := cell_of_row _ _ 8 _ _ (0, 0) HK3.out
  have q9 : w3.cell? ⟨w.heap.size, 9, none⟩ = some (.slice none 0 0) := cell_of_row _ _ 9 _ _ (0, 0) HK3.out
  have q10 : w3.cell? ⟨w.heap.size, 10, none⟩ = some (.slice none 0 0) := cell_of_row _ _ 10 _ _ (0, 0) HK3.out
  have q11 : w3.cell? ⟨w.heap.size, 11, none⟩ = some (.slice none 0 0) := cell_of_row _ _ 11 _ _ (0, 0) HK3.out
  have f3 := cell0 HF3.out
  have HAD := Lib.hid (addNil_any w3 5 ⟨#[]⟩ (w.heap.size + 1))
  go_upto_region 30 with ((with_reducible refine HAD.out.mono ?_); rintro e w3 ⟨rfl, rfl⟩)
  have HNA := Lib.hid (namingNil_any w3)
  go_upto_region 31 with ((with_reducible refine HNA.out.mono ?_); rintro e w4 ⟨⟨a, b, c, d, rfl⟩, hb4⟩; have HB4 := Lib.hid (HB3.out.trans (hb4.mono HB3.out.size)); have HO4 := Lib.hid (blk_below hb4 HO3.out); have HK4 := Lib.hid (blk_below hb4 HK3.out); clear hb4)
  clear q0 q1 q2 q3 q4 q5 q6 q7 q8 q9 q10 q11
  clear HNA HAD f3 HB3 HO3 HK3 HF3
  have hb5 := below1 w4 (.cells #[.map (some a), .map (some b), .map (some c), .map (some d)] 105)
  have HB5 := Lib.hid (HB4.out.trans (hb5.mono HB4.out.size))
  have HO5 := Lib.hid (blk_below hb5 HO4.out)
  have HK5 := Lib.hid (blk_below hb5 HK4.out)
  clear hb5 HB4 HO4 HK4
  generalize w4.alloc (.cells #[.map (some a), .map (some b), .map (some c), .map (some d)] 105) = w5 at *
  generalize w4.heap.size = g4 at *
  have q0 : w5.cell? ⟨w.heap.size, 0, none⟩ = some (.string ⟨#[]⟩) := cell_of_row _ _ 0 _ _ (0, 0) HK5.out
  have q1 : w5.cell? ⟨w.heap.size, 1, none⟩ = some (.int .u8 0) := cell_of_row _ _ 1 _ _ (0, 0) HK5.out
  have q2 : w5.cell? ⟨w.heap.size, 2, none⟩ = some (.slice none 0 0) := cell_of_row _ _ 2 _ _ (0, 0) HK5.out
  have q3 : w5.cell? ⟨w.heap.size, 3, none⟩ = some (.slice none 0 0) := cell_of_row _ _ 3 _ _ (0, 0) HK5.out
  have q4 : w5.cell? ⟨w.heap.size, 4, none⟩ = some (.slice none 0 0) := cell_of_row _ _ 4 _ _ (0, 0) HK5.out
  have q5 : w5.cell? ⟨w.heap.size, 5, none⟩ = some (.slice none 0 0) := cell_of_row _ _ 5 _ _ (0, 0) HK5.out
  have q6 : w5.cell? ⟨w.heap.size, 6, none⟩ = some (.slice none 0 0) := cell_of_row _ _ 6 _ _ (0, 0) HK5.out
  have q7 : w5.cell? ⟨w.heap.size, 7, none⟩ = some (.slice none 0 0) := cell_of_row _ _ 7 _ _ (0, 0) HK5.out
  have q8 : w5.cell? ⟨w.heap.size, 8, none⟩ = some (.slice none 0 0) := cell_of_row _ _ 8 _ _ (0, 0) HK5.out
  have q9 : w5.cell? ⟨w.heap.size, 9, none⟩ = some (.slice none 0 0) := cell_of_row _ _ 9 _ _ (0, 0) HK5.out
  have q10 : w5.cell? ⟨w.heap.size, 10, none⟩ = some (.slice none 0 0) := cell_of_row _ _ 10 _ _ (0, 0) HK5.out
  have q11 : w5.cell? ⟨w.heap.size, 11, none⟩ = some (.slice none 0 0) := cell_of_row _ _ 11 _ _ (0, 0) HK5.out
  have o5 := cell0 HO5.out
  go_wp2
  refine wp_loop_rounds 1 ?_
  rw [rounds_succ]
  go_wp2
  refine wp_loop_rounds 1 ?_
  rw [rounds_succ]
  go_wp2
  refine wp_loop_rounds 1 ?_
  rw [rounds_succ]
  go_wp2
  refine wp_loop_rounds 1 ?_
  rw [rounds_succ]
  go_wp2
  go_ret2
  exact ⟨rfl, HB5.out⟩
end
end Go.Proofs.YtehpkpjgkmbngaaGreat

/-
  The linter's small example: awake.
-/
namespace Go.Proofs.YtehpkpjgkmbngaaGreat
open Go Go.RowKit Go.ChangeMaps Go.MapKept Go.Maps Go.Lib Go.Sort

theorem zF_no {F : Fun} (h : F ≠ fun _ => false) : zF F = false := by
  cases hz : zF F with
  | false => rfl
  | true => exact absurd (funext ((zF_iff F).1 hz)) h
theorem ln_zeros : zerosP lnL 3 = [2] := by
  rw [zerosP_succ, zerosP_succ, zerosP_succ, zF_no ln_dec0_ne, zF_no ln_dec1_ne, (zF_iff _).2 (fun s => by rw [ln_dec2_eq])]
  rfl
theorem zeros_nil : zerosP [] 0 = [] := rfl
def lnMs (a b c : Value) : List MemV := [⟨false, a, [1, 2]⟩, ⟨false, b, [1]⟩, ⟨false, c, [1, 2, 3]⟩]
theorem ln_mem (a b c : Value) : plL (memP (lnMs a b c)) 3 = [2] := by
  rw [plL_succ, plL_succ, plL_succ]
  rw [show memP (lnMs a b c) 0 = false from rfl, show memP (lnMs a b c) 1 = false from rfl, show memP (lnMs a b c) 2 = true from rfl]
  rfl
theorem own_one {W : World} {B : Nat} {v : Value} {n : Nat} (h : W.ownsRow B 3 1 v [n].length (ncl [n])) : ∃ g c, v = .slice (some ⟨g, 0, none⟩) 1 c ∧ W.cell? ⟨g, 0, none⟩ = some (.int .i64 n) ∧ g < W.heap.size := by
  obtain ⟨A, c, rfl, hA⟩ := owns_form h
  obtain ⟨g, rfl⟩ := hA (by show 0 < 1; omega)
  refine ⟨g, c, rfl, ?_, (h.lt g rfl).2⟩
  have := h.cellAt 0 (by show 0 < 1 * 1; omega)
  simpa [ncl] using this
section
set_option maxRecDepth 100000
set_option maxHeartbeats 4000000
theorem lawAwake30_any (w : World) : Calls Tryz.prog 5 #[] w fun e w' => e = .returned (.bool true) ∧ Below w.heap.size w w' := by
  have HB1 := Lib.hid (below1 w (.cells #[.int .u32 0, .int .u32 65535] 78))
  have HS1 := Lib.hid (blk1 w (.cells #[.int .u32 0, .int .u32 65535] 78))
  go_enter Tryz.func5, Tryz.ntmps5
  go_upto_region 2 with fail
  generalize w.alloc (.cells #[.int .u32 0, .int .u32 65535] 78) = w1 at *
  have s0 := cell_of_row _ _ 0 _ _ (0, 0) HS1.out
  have s1 := cell_of_row _ _ 1 _ _ (0, 0) HS1.out
  simp only [List.getElem?_toArray, List.getElem?_cons_zero, List.getElem?_cons_succ] at s0 s1
  have HB2 := Lib.hid (HB1.out.trans ((below1 w1 (.cells #[.bool true, .int .i64 6, .int .u32 0, .int .i64 0, .int .u32 0, .int .i64 0, .int .u32 0, .int .u32 65535, .int .u32 0, .int .u32 65535, .bool false, .int .i64 (-1), .int .u32 0, .int .i64 0, .int .u32 0, .int .i64 0, .int .u32 0, .int .u32 65535, .int .u32 0, .int .u32 65535, .bool true, .int .i64 17, .int .u32 0, .int .i64 0, .int .u32 0, .int .i64 0, .int .u32 0, .int .u32 65535, .int .u32 0, .int .u32 65535] 80)).mono HB1.out.size))
  have HLR := Lib.hid (lintRules_any (w1.alloc (.cells #[.bool true, .int .i64 6, .int .u32 0, .int .i64 0, .int .u32 0, .int .i64 0, .int .u32 0, .int .u32 65535, .int .u32 0, .int .u32 65535, .bool false, .int .i64 (-1), .int .u32 0, .int .i64 0, .int .u32 0, .int .i64 0, .int .u32 0, .int .u32 65535, .int .u32 0, .int .u32 65535, .bool true, .int .i64 17, .int .u32 0, .int .i64 0, .int .u32 0, .int .i64 0, .int .u32 0, .int .u32 65535, .int .u32 0, .int .u32 65535] 80)) ⟨#[]⟩ lnL (.slice (some ⟨w1.heap.size, 0, none⟩) 3 3) (Rd.of_blk (k := 10) (n := 3) (c := 3) (blk1 w1 (.cells #[.bool true, .int .i64 6, .int .u32 0, .int .i64 0, .int .u32 0, .int .i64 0, .int .u32 0, .int .u32 65535, .int .u32 0, .int .u32 65535, .bool false, .int .i64 (-1), .int .u32 0, .int .i64 0, .int .u32 0, .int .i64 0, .int .u32 0, .int .u32 65535, .int .u32 0, .int .u32 65535, .bool true, .int .i64 17, .int .u32 0, .int .i64 0, .int .u32 0, .int .i64 0, .int .u32 0, .int .u32 65535, .int .u32 0, .int .u32 65535] 80)) (Nat.le_refl _) rfl) ln_e 16848 ln_filt (by show 3 * (6080 + 7 * 16848) ≤ 4194304; omega))
  go_upto_region 3 with ((with_reducible refine HLR.out.mono ?_); rintro e w2 ⟨v2, rfl, ho2, hb2⟩; rw [show zerosP lnL lnL.length = [2] from ln_zeros] at ho2; obtain ⟨g2, c2, rfl, hc2, hg2⟩ := own_one ho2; have HC2 := Lib.hid (And.intro hc2 hg2); have HB3 := Lib.hid (HB2.out.trans (hb2.mono HB2.out.size)); clear ho2 hb2 hc2 hg2)
  clear s0 s1 HLR HB1 HS1 HB2
  have hb3 := below3 w2 (.cells #[.int .u32 1, .int .u32 2] 35) (.cells #[.int .u32 1] 35) (.cells #[.int .u32 1, .int .u32 2, .int .u32 3] 35)
  obtain ⟨u0, u1, u2⟩ := blk3 w2 (.cells #[.int .u32 1, .int .u32 2] 35) (.cells #[.int .u32 1] 35) (.cells #[.int .u32 1, .int .u32 2, .int .u32 3] 35)
  have hs3 : (((w2.alloc (.cells #[.int .u32 1, .int .u32 2] 35)).alloc (.cells #[.int .u32 1] 35)).alloc (.cells #[.int .u32 1, .int .u32 2, .int .u32 3] 35)).heap.size = w2.heap.size + 1 + 1 + 1 := by simp
  have hb4 := below1 (((w2.alloc (.cells #[.int .u32 1, .int .u32 2] 35)).alloc (.cells #[.int .u32 1] 35)).alloc (.cells #[.int .u32 1, .int .u32 2, .int .u32 3] 35)) (.cells #[.bool false, (.slice (some ⟨w2.heap.size, 0, none⟩) 2 2), .bool false, (.slice (some ⟨w2.heap.size + 1, 0, none⟩) 1 1), .bool false, (.slice (some ⟨w2.heap.size + 1 + 1, 0, none⟩) 3 3)] 48)
  have km := blk1 (((w2.alloc (.cells #[.int .u32 1, .int .u32 2] 35)).alloc (.cells #[.int .u32 1] 35)).alloc (.cells #[.int .u32 1, .int .u32 2, .int .u32 3] 35)) (.cells #[.bool false, (.slice (some ⟨w2.heap.size, 0, none⟩) 2 2), .bool false, (.slice (some ⟨w2.heap.size + 1, 0, none⟩) 1 1), .bool false, (.slice (some ⟨w2.heap.size + 1 + 1, 0, none⟩) 3 3)] 48)
  rw [hs3] at km
  have hb5 : Below w2.heap.size w2 ((((w2.alloc (.cells #[.int .u32 1, .int .u32 2] 35)).alloc (.cells #[.int .u32 1] 35)).alloc (.cells #[.int .u32 1, .int .u32 2, .int .u32 3] 35)).alloc (.cells #[.bool false, (.slice (some ⟨w2.heap.size, 0, none⟩) 2 2), .bool false, (.slice (some ⟨w2.heap.size + 1, 0, none⟩) 1 1), .bool false, (.slice (some ⟨w2.heap.size + 1 + 1, 0, none⟩) 3 3)] 48)) := hb3.trans (hb4.mono hb3.size)
  have hM : MsAt ((((w2.alloc (.cells #[.int .u32 1, .int .u32 2] 35)).alloc (.cells #[.int .u32 1] 35)).alloc (.cells #[.int .u32 1, .int .u32 2, .int .u32 3] 35)).alloc (.cells #[.bool false, (.slice (some ⟨w2.heap.size, 0, none⟩) 2 2), .bool false, (.slice (some ⟨w2.heap.size + 1, 0, none⟩) 1 1), .bool false, (.slice (some ⟨w2.heap.size + 1 + 1, 0, none⟩) 3 3)] 48)) ((((w2.alloc (.cells #[.int .u32 1, .int .u32 2] 35)).alloc (.cells #[.int .u32 1] 35)).alloc (.cells #[.int .u32 1, .int .u32 2, .int .u32 3] 35)).alloc (.cells #[.bool false, (.slice (some ⟨w2.heap.size, 0, none⟩) 2 2), .bool false, (.slice (some ⟨w2.heap.size + 1, 0, none⟩) 1 1), .bool false, (.slice (some ⟨w2.heap.size + 1 + 1, 0, none⟩) 3 3)] 48)).heap.size (.slice (some ⟨w2.heap.size + 1 + 1 + 1, 0, none⟩) 3 3) (lnMs (.slice (some ⟨w2.heap.size, 0, none⟩) 2 2) (.slice (some ⟨w2.heap.size + 1, 0, none⟩) 1 1) (.slice (some ⟨w2.heap.size + 1 + 1, 0, none⟩) 3 3)) := by
    refine ⟨Rd.of_blk (k := 2) (n := 3) (c := 3) km (Nat.le_refl _) rfl, fun m hm => ?_⟩
    simp only [lnMs, List.mem_cons, List.not_mem_nil, or_false] at hm
    rcases hm with rfl | rfl | rfl
    · exact ⟨Rd.of_blk (k := 1) (n := 2) (c := 2) (blk_below hb4 u0) (Nat.le_refl _) rfl, by show 2 ≤ _; omega⟩
    · exact ⟨Rd.of_blk (k := 1) (n := 1) (c := 1) (blk_below hb4 u1) (Nat.le_refl _) rfl, by show 1 ≤ _; omega⟩
    · exact ⟨Rd.of_blk (k := 1) (n := 3) (c := 3) (blk_below hb4 u2) (Nat.le_refl _) rfl, by show 3 ≤ _; omega⟩
  have HMB := Lib.hid (members_any ((((w2.alloc (.cells #[.int .u32 1, .int .u32 2] 35)).alloc (.cells #[.int .u32 1] 35)).alloc (.cells #[.int .u32 1, .int .u32 2, .int .u32 3] 35)).alloc (.cells #[.bool false, (.slice (some ⟨w2.heap.size, 0, none⟩) 2 2), .bool false, (.slice (some ⟨w2.heap.size + 1, 0, none⟩) 1 1), .bool false, (.slice (some ⟨w2.heap.size + 1 + 1, 0, none⟩) 3 3)] 48)) ⟨#[]⟩ _ _ hM (by show 3 ≤ _; omega))
  have HB5 := Lib.hid (HB3.out.trans (hb5.mono HB3.out.size))
  have HC5 := Lib.hid ((hb5.cell (p := ⟨g2, 0, none⟩) HC2.out.2).trans HC2.out.1)
  have HG5 : Hid (g2 < ((((w2.alloc (.cells #[.int .u32 1, .int .u32 2] 35)).alloc (.cells #[.int .u32 1] 35)).alloc (.cells #[.int .u32 1, .int .u32 2, .int .u32 3] 35)).alloc (.cells #[.bool false, (.slice (some ⟨w2.heap.size, 0, none⟩) 2 2), .bool false, (.slice (some ⟨w2.heap.size + 1, 0, none⟩) 1 1), .bool false, (.slice (some ⟨w2.heap.size + 1 + 1, 0, none⟩) 3 3)] 48)).heap.size) := Lib.hid (Nat.lt_of_lt_of_le HC2.out.2 hb5.size)
  clear hb3 u0 u1 u2 hs3 hb4 km hb5 hM HB3 HC2
  go_upto_region 4 with ((with_reducible refine HMB.out.mono ?_); rintro e w6 ⟨v6, rfl, ho6, hb6⟩; rw [show plL (memP (lnMs (.slice (some ⟨w2.heap.size, 0, none⟩) 2 2) (.slice (some ⟨w2.heap.size + 1, 0, none⟩) 1 1) (.slice (some ⟨w2.heap.size + 1 + 1, 0, none⟩) 3 3))) (lnMs (.slice (some ⟨w2.heap.size, 0, none⟩) 2 2) (.slice (some ⟨w2.heap.size + 1, 0, none⟩) 1 1) (.slice (some ⟨w2.heap.size + 1 + 1, 0, none⟩) 3 3)).length = [2] from ln_mem _ _ _] at ho6; obtain ⟨g6, c6, rfl, hc6, _⟩ := own_one ho6; have HC6 := Lib.hid hc6; have HC7 := Lib.hid ((hb6.cell (p := ⟨g2, 0, none⟩) HG5.out).trans HC5.out); have HB6 := Lib.hid (HB5.out.trans (hb6.mono HB5.out.size)); clear ho6 hb6 hc6)
  clear HMB HB5 HC5 HG5
  have c6' : w6.cell? ⟨g6, 0, none⟩ = some (.int .i64 2) := HC6.out
  have c7' : w6.cell? ⟨g2, 0, none⟩ = some (.int .i64 2) := HC7.out
  go_wp2
  go_ret
  exact ⟨rfl, HB6.out⟩
end
end Go.Proofs.YtehpkpjgkmbngaaGreat

/-
  The walk of the closed law LintNames.
-/
namespace Go.Proofs.YtehpkpjgkmbngaaGreat
open Go Go.RowKit Go.ChangeMaps Go.MapKept Go.Maps Go.Lib Go.Sort

section
set_option maxRecDepth 100000
set_option maxHeartbeats 4000000
theorem lawLnNm_any (w : World) : Calls Tryz.prog 4 #[] w fun e w' => e = .returned (.bool true) ∧ Below w.heap.size w w' := by
  have HDV := Lib.hid (deviceNil_any w)
  go_enter Tryz.func4, Tryz.ntmps4
  go_upto_region 2 with ((with_reducible refine HDV.out.mono ?_); rintro e w1 ⟨rfl, hb1⟩; have HB1 := Lib.hid hb1; clear hb1)
  clear HDV
  have HLR := Lib.hid (lintRules_any w1 ⟨#[]⟩ [] (.slice none 0 0) ⟨_, 0, rfl, Nat.le_refl _, rfl, fun h => absurd h (by decide)⟩ (by decide +kernel) 0 (fun k r h => by simp at h) (by show 0 * _ ≤ _; omega))
  go_upto_region 3 with ((with_reducible refine HLR.out.mono ?_); rintro e w2 ⟨v2, rfl, ho2, hb2⟩; obtain ⟨A2, c2, rfl, _⟩ := owns_form ho2; have HB2 := Lib.hid (HB1.out.trans (hb2.mono HB1.out.size)); clear ho2 hb2)
  clear HLR HB1
  have HEN := Lib.hid (entriesNil_any ⟨#[]⟩)
  have HME := Lib.hid (fun W => members_any W ⟨#[]⟩ (.slice none 0 0) [] ⟨⟨_, 0, rfl, Nat.le_refl _, rfl, fun h => absurd h (by decide)⟩, fun m hm => by cases hm⟩ (by show 0 ≤ _; omega))
  have HCL := Lib.hid clausesNil_any
  have HAW := Lib.hid lawAwake30_any
  go_wp2_with (first
    | ((with_reducible refine (HAW.out w5).mono ?_); rintro e w6 ⟨rfl, hb6⟩; have HB6 := Lib.hid (HB5.out.trans (hb6.mono HB5.out.size)); clear hb6)
    | ((with_reducible refine (HCL.out w4).mono ?_); rintro e w5 ⟨⟨A5, c5, rfl⟩, hb5⟩; have HB5 := Lib.hid (HB4.out.trans (hb5.mono HB4.out.size)); clear hb5)
    | ((with_reducible refine (HME.out w3).mono ?_); rintro e w4 ⟨v4, rfl, ho4, hb4⟩; obtain ⟨A4, c4, rfl, _⟩ := owns_form ho4; have HB4 := Lib.hid (HB3.out.trans (hb4.mono HB3.out.size)); clear ho4 hb4)
    | ((with_reducible refine (HEN.out w2).mono ?_); rintro e w3 ⟨⟨A3, c3, rfl⟩, hb3⟩; have HB3 := Lib.hid (HB2.out.trans (hb3.mono HB2.out.size)); clear hb3))
  go_ret
  exact ⟨rfl, HB6.out⟩
end
end Go.Proofs.YtehpkpjgkmbngaaGreat

/-
  Joined texts: LawFD, Addr3, Addr4, Addr5, Addr6, Addr7, Addr8, Rw1, Rw2, Rw3.
-/
import Derived.Test.YthhcaoljejifeaaGreatMLintRewrites11
import Derived.Deep.DeepCutAuto
import Derived.Deep.RegionLawGrows
import Derived.Deep.RegionHeldLaw
import Derived.Deep.RegionHeld3
import Derived.Test.YthhcaoljejifeaaGreatMLintRewrites4
import Derived.StillTailTactics
import Derived.RegionTactic
import Derived.BigRegion
import Derived.Test.YthhcaoljejifeaaGreatShelf3
/-
  The walk of the law FilterDecides (written by wip/gen/genlawfd.py).
-/
namespace Go.Proofs.YthhcaoljejifeaaGreat
open Go Go.RowKit Go.Sort

def HeaderV.enc (h : HeaderV) : List Value := [.int .u32 h.src, .int .u32 h.dst, .int .u8 h.proto, .int .u16 h.sp, .int .u16 h.dp]
theorem header_len (h : HeaderV) : h.enc.length = 5 := rfl
def hcells (L : List HeaderV) : List Value := L.flatMap HeaderV.enc
theorem hcell {L : List HeaderV} {k i : Nat} {h : HeaderV} {v : Value} (hr : L[k]? = some h) (hv : h.enc[i]? = some v) : (hcells L)[k * 5 + i]? = some v := flat_get HeaderV.enc 5 header_len L k i h v hr hv
/-- A slice cut at its end. -/
theorem Rd.take {α : Type} {enc : α → List Value} {k : Nat} (hk : ∀ x, (enc x).length = k) {w : World} {B : Nat} {A : Option Addr} {c n m : Nat} {L : List α} (h : Rd w B k (.slice A n c) n (L.flatMap enc)) (hn : L.length = n) (hm : m ≤ n) :
    Rd w B k (.slice A m c) m ((L.take m).flatMap enc) := by
  obtain ⟨A', c', hv, hc, hl, hp⟩ := h
  injection hv with h1 h2 h3
  subst h1 h3
  have hlen : (L.take m).length = m := by simp; omega
  refine ⟨A, c, rfl, by omega, by rw [flat_len enc k hk, hlen], fun hm0 => ?_⟩
  obtain ⟨b, off, hA, hB, hcell⟩ := hp (by omega)
  refine ⟨b, off, hA, hB, fun j u hu => hcell j u ?_⟩
  have e : L.flatMap enc = (L.take m).flatMap enc ++ (L.drop m).flatMap enc := by rw [← List.flatMap_append, List.take_append_drop]
  rw [e, List.getElem?_append_left (List.getElem?_eq_some_iff.1 hu).1]
  exact hu

theorem new_at0 (w : World) (o : Obj) : (w.alloc o).drew.heap[w.heap.size]? = some o := heap_alloc_new w o
theorem below_drewL {B : Nat} {a w : World} (h : Below B a w) : Below B a w.drew := ⟨h.os, h.tape, h.output, h.size, h.block⟩
theorem Tryz.infoRule : (Tryz.prog.info? 71).map (fun i => (i.zero, i.size, i.bytes)) = some (some (.agg #[.bool false, .int .i64 0, .int .u32 0, .int .i64 0, .int .u32 0, .int .i64 0, .int .u32 0, .int .u32 0, .int .u32 0, .int .u32 0]), 10, 64) := by kernel_rfl
theorem far2 {w : World} {G a j : Nat} {u v x : Value} (h : a ≠ G) (hx : w.cell? ⟨a, j, none⟩ = some x) : ((w.setCell ⟨G, 0, none⟩ u).setCell ⟨G, 1, none⟩ v).cell? ⟨a, j, none⟩ = some x :=
  (World.cell?_of_block (w := w.setCell ⟨G, 0, none⟩ u) (Below.heap_setCell _ _ _ _ h)).trans ((World.cell?_of_block (w := w) (Below.heap_setCell _ _ _ _ h)).trans hx)
theorem rcells_one (L : List RuleV) : ∀ u ∈ rcells L, u.oneCell' = true := by
  intro u hu
  obtain ⟨r, _, hr⟩ := List.mem_flatMap.1 hu
  simp only [RuleV.enc, List.mem_cons, List.not_mem_nil, or_false] at hr
  rcases hr with rfl | rfl | rfl | rfl | rfl | rfl | rfl | rfl | rfl | rfl <;> rfl

/-- What the law's own memory holds behind its first statements: the filter as it was handed in (cut), its copy, the rule. -/
def FDst (nm : ByteArray) (M : List RuleV) (A2 : Option Addr) (c0 : Nat) (A3 : Option Addr) (c3 : Nat) (r : RuleV) (w : World) (g : Nat) (W : World) : Prop :=
  W.heap[g]? = some (.cells #[.string nm, .slice A3 M.length c3] 54 (0, 0)) ∧ Rd W W.heap.size 10 (.slice A3 M.length c3) M.length (rcells M) ∧ W.heap[w.heap.size]? = some (.cells #[.string nm, .slice A2 M.length c0] 54 (0, 0)) ∧ W.heap[w.heap.size + 1]? = some (.cells #[.bool r.permit, .int .i64 r.proto, .int .u32 r.sa, .int .i64 r.sn, .int .u32 r.da, .int .i64 r.dn, .int .u32 r.sl, .int .u32 r.sh, .int .u32 r.dl, .int .u32 r.dh] 71 (0, 0)) ∧ Rd W w.heap.size 10 (.slice A2 M.length c0) M.length (rcells M) ∧ Below w.heap.size w W
section
variable {nm : ByteArray} {M : List RuleV} {A2 : Option Addr} {c0 : Nat} {A3 : Option Addr} {c3 : Nat} {r : RuleV} {w : World} {g : Nat} {W W' : World}
theorem FDst.next (h : FDst nm M A2 c0 A3 c3 r w g W) (hb : Below W.heap.size W W') : FDst nm M A2 c0 A3 c3 r w g W' := by
  obtain ⟨h1, h2, h3, h4, h5, h6⟩ := h
  exact ⟨blk_below hb h1, (h2.below hb).mono hb.size, blk_below hb h3, blk_below hb h4, h5.below (hb.mono h6.size), h6.trans (hb.mono h6.size)⟩
theorem FDst.own (h : FDst nm M A2 c0 A3 c3 r w g W) : W.cell? ⟨g, 0, none⟩ = some (.string nm) ∧ W.cell? ⟨g, 1, none⟩ = some (.slice A3 M.length c3) := ⟨(two_cells h.1).1, (two_cells h.1).2.1⟩
theorem FDst.its (h : FDst nm M A2 c0 A3 c3 r w g W) : W.cell? ⟨w.heap.size, 0, none⟩ = some (.string nm) ∧ W.cell? ⟨w.heap.size, 1, none⟩ = some (.slice A2 M.length c0) := ⟨(two_cells h.2.2.1).1, (two_cells h.2.2.1).2.1⟩
theorem FDst.rule (h : FDst nm M A2 c0 A3 c3 r w g W) : W.cell? ⟨w.heap.size + 1, 0, none⟩ = some (.bool r.permit) ∧ W.cell? ⟨w.heap.size + 1, 1, none⟩ = some (.int .i64 r.proto) ∧ W.cell? ⟨w.heap.size + 1, 2, none⟩ = some (.int .u32 r.sa) ∧ W.cell? ⟨w.heap.size + 1, 3, none⟩ = some (.int .i64 r.sn) ∧ W.cell? ⟨w.heap.size + 1, 4, none⟩ = some (.int .u32 r.da) ∧ W.cell? ⟨w.heap.size + 1, 5, none⟩ = some (.int .i64 r.dn) ∧ W.cell? ⟨w.heap.size + 1, 6, none⟩ = some (.int .u32 r.sl) ∧ W.cell? ⟨w.heap.size + 1, 7, none⟩ = some (.int .u32 r.sh) ∧ W.cell? ⟨w.heap.size + 1, 8, none⟩ = some (.int .u32 r.dl) ∧ W.cell? ⟨w.heap.size + 1, 9, none⟩ = some (.int .u32 r.dh) :=
  ⟨cell_of_row W (w.heap.size + 1) 0 _ _ (0, 0) h.2.2.2.1, cell_of_row W (w.heap.size + 1) 1 _ _ (0, 0) h.2.2.2.1, cell_of_row W (w.heap.size + 1) 2 _ _ (0, 0) h.2.2.2.1, cell_of_row W (w.heap.size + 1) 3 _ _ (0, 0) h.2.2.2.1, cell_of_row W (w.heap.size + 1) 4 _ _ (0, 0) h.2.2.2.1, cell_of_row W (w.heap.size + 1) 5 _ _ (0, 0) h.2.2.2.1, cell_of_row W (w.heap.size + 1) 6 _ _ (0, 0) h.2.2.2.1, cell_of_row W (w.heap.size + 1) 7 _ _ (0, 0) h.2.2.2.1, cell_of_row W (w.heap.size + 1) 8 _ _ (0, 0) h.2.2.2.1, cell_of_row W (w.heap.size + 1) 9 _ _ (0, 0) h.2.2.2.1⟩
theorem FDst.rd (h : FDst nm M A2 c0 A3 c3 r w g W) : Rd W W.heap.size 10 (.slice A3 M.length c3) M.length (rcells M) := h.2.1
theorem FDst.bel (h : FDst nm M A2 c0 A3 c3 r w g W) : Below w.heap.size w W := h.2.2.2.2.2
theorem FDst.lt (h : FDst nm M A2 c0 A3 c3 r w g W) : g < W.heap.size ∧ w.heap.size < W.heap.size ∧ w.heap.size + 1 < W.heap.size := ⟨lt_of_block h.1, lt_of_block h.2.2.1, lt_of_block h.2.2.2.1⟩
end

end Go.Proofs.YthhcaoljejifeaaGreat

/-
  Walks over the addresses' layer: Mask, Bits, Subnet; the program's and the reference's.
-/
namespace Go.Proofs.YthhcaoljejifeaaGreat
open Go Go.RowKit Go.Sort

/-- The mask of so many bits, and the refusal. -/
def maskA (n : Int) : Int := if n < 0 ∨ 32 < n then 0 else 4294967296 - sz n
def argE (n : Int) : Int := if n < 0 ∨ 32 < n then 1 else 0
/-- Of how many bits a mask is, and the refusal. -/
def bitsN (m : Int) : Int := if maskA (lz32 (4294967295 - m)) = m then lz32 (4294967295 - m) else 0
def bitsE (m : Int) : Int := if maskA (lz32 (4294967295 - m)) = m then 0 else 10
end Go.Proofs.YthhcaoljejifeaaGreat

/-
  Walks over the addresses' layer: Subnet, Ends; the program's and the reference's.
-/
namespace Go.Proofs.YthhcaoljejifeaaGreat
open Go Go.RowKit Go.Sort

/-- The first address of a subnet of so many bits. -/
def subA (a n : Int) : Int := if n < 0 ∨ 32 < n then 0 else a - a % sz n
def subN (n : Int) : Int := if n < 0 ∨ 32 < n then 0 else n
/-- The last address of a prefix that may be. -/
def endA (a n : Int) : Int := if chk a n = 0 then a else 0
def endB (a n : Int) : Int := if chk a n = 0 then a + sz n - 1 else 0
end Go.Proofs.YthhcaoljejifeaaGreat

/-
  Walks over the addresses' layer: Halves; the program's and the reference's.
-/
namespace Go.Proofs.YthhcaoljejifeaaGreat
open Go Go.RowKit Go.Sort

/-- The halves of a prefix: the refusal, where they begin, their bits. -/
def halfE (a n : Int) : Int := if chk a n = 0 then (if n = 32 then 5 else 0) else chk a n
def halfL (a n : Int) : Int := if halfE a n = 0 then a else 0
def halfH (a n : Int) : Int := if halfE a n = 0 then a + sz (n + 1) else 0
def halfN (a n : Int) : Int := if halfE a n = 0 then n + 1 else 0
def HalfRes (a n : Int) (w : World) (en : Ending) (w' : World) : Prop :=
  en = .returned (.tuple #[.agg #[.int .u32 (halfL a n), .int .i64 (halfN a n)], .agg #[.int .u32 (halfH a n), .int .i64 (halfN a n)], .int .i64 (halfE a n)]) ∧ Below w.heap.size w w'

end Go.Proofs.YthhcaoljejifeaaGreat

/-
  Walks over the addresses' layer: Within, Cmp, and the law's same; the program's and the reference's.
-/
namespace Go.Proofs.YthhcaoljejifeaaGreat
open Go Go.RowKit Go.Sort

/-- Is a prefix in another one? -/
def withinB (a n b m : Int) : Bool := decide (chk a n = 0 ∧ m ≤ n) && inB a b m
end Go.Proofs.YthhcaoljejifeaaGreat

/-
  Walks over the addresses' layer: Cmp, and the law's same.
-/
namespace Go.Proofs.YthhcaoljejifeaaGreat
open Go Go.RowKit Go.Sort

/-- The order of prefixes. -/
def cmpP (a n b m : Int) : Int := firstNZ [cmpI a b, cmpI n m]

end Go.Proofs.YthhcaoljejifeaaGreat

/-
  Walks over the addresses' layer: Common; the program's.
-/
namespace Go.Proofs.YthhcaoljejifeaaGreat
open Go Go.RowKit Go.Sort

/-- What two addresses have in common: the leading zeros of the bits in which they differ. -/
def xorI (a b : Int) : Int := ((a.toNat ^^^ b.toNat : Nat) : Int)
/-- The bits of what two prefixes have in common. -/
def comN (a n b m : Int) : Int := if lz32 (xorI a b) < (if m < n then m else n) then lz32 (xorI a b) else (if m < n then m else n)
def comE (a n b m : Int) : Int := if chk a n = 0 then chk b m else chk a n
def comA (a n b m : Int) : Int := if comE a n b m = 0 then subA a (comN a n b m) else 0
def comB (a n b m : Int) : Int := if comE a n b m = 0 then comN a n b m else 0
def ComRes (a n b m : Int) (w : World) (en : Ending) (w' : World) : Prop :=
  en = .returned (.tuple #[.agg #[.int .u32 (comA a n b m), .int .i64 (comB a n b m)], .int .i64 (comE a n b m)]) ∧ Below w.heap.size w w'

end Go.Proofs.YthhcaoljejifeaaGreat

/-
  Walks over the layer of rewrites: filters by their names (written by wip/gen/genrw1.py).
-/
namespace Go.Proofs.YthhcaoljejifeaaGreat
open Go Go.RowKit Go.Sort

/-- A filter as it lies in a slice: its name, the value of its rules, the rules. -/
structure FiltV where
  nm : ByteArray
  v : Value
  L : List RuleV
instance : Inhabited FiltV := ⟨⟨ByteArray.empty, .slice none 0 0, []⟩⟩
def FiltV.enc (f : FiltV) : List Value := [.string f.nm, f.v]
theorem filt_len (f : FiltV) : f.enc.length = 2 := rfl
def fcells (L : List FiltV) : List Value := L.flatMap FiltV.enc
theorem fcell {L : List FiltV} {k i : Nat} {f : FiltV} {v : Value} (hr : L[k]? = some f) (hv : f.enc[i]? = some v) : (fcells L)[k * 2 + i]? = some v := flat_get FiltV.enc 2 filt_len L k i f v hr hv
/-- The filters of a slice, in a world. -/
def FsAt (W : World) (B : Nat) (v : Value) (Fs : List FiltV) : Prop :=
  Rd W B 2 v Fs.length (fcells Fs) ∧ ∀ f ∈ Fs, Rd W B 10 f.v f.L.length (rcells f.L) ∧ f.L.length * 64 ≤ 140737488355328
theorem FsAt.below {W W' : World} {B : Nat} {v : Value} {Fs : List FiltV} (h : FsAt W B v Fs) (hb : Below B W W') : FsAt W' B v Fs := ⟨h.1.below hb, fun f hf => ⟨(h.2 f hf).1.below hb, (h.2 f hf).2⟩⟩
theorem FsAt.mono {W : World} {B B' : Nat} {v : Value} {Fs : List FiltV} (h : FsAt W B v Fs) (hb : B ≤ B') : FsAt W B' v Fs := ⟨h.1.mono hb, fun f hf => ⟨(h.2 f hf).1.mono hb, (h.2 f hf).2⟩⟩
theorem FsAt.next {W W' : World} {v : Value} {Fs : List FiltV} (h : FsAt W W.heap.size v Fs) (hb : Below W.heap.size W W') : FsAt W' W'.heap.size v Fs := (h.below hb).mono hb.size

def hasNm (nm : ByteArray) (f : FiltV) : Bool := f.nm.toList == nm.toList
/-- The first filter of a name. -/
def fnd (Fs : List FiltV) (nm : ByteArray) : Option FiltV := if 0 ≤ idxP (hasNm nm) Fs then Fs[(idxP (hasNm nm) Fs).toNat]? else none
theorem fnd_hit {Fs : List FiltV} {nm : ByteArray} {k : Nat} {f : FiltV} (h : idxP (hasNm nm) Fs = k) (hk : Fs[k]? = some f) : fnd Fs nm = some f := by
  unfold fnd
  rw [h, if_pos (by omega), Int.toNat_natCast, hk]
theorem fnd_miss {Fs : List FiltV} {nm : ByteArray} (h : idxP (hasNm nm) Fs = -1) : fnd Fs nm = none := by
  unfold fnd
  rw [h, if_neg (by omega)]
def fndNm (Fs : List FiltV) (nm : ByteArray) : ByteArray := match fnd Fs nm with | some f => f.nm | none => ByteArray.empty
def fndL (Fs : List FiltV) (nm : ByteArray) : List RuleV := match fnd Fs nm with | some f => f.L | none => []
def fndB (Fs : List FiltV) (nm : ByteArray) : Bool := (fnd Fs nm).isSome

def NewAt (base n : Nat) (A : Option Addr) : Prop := 0 < n → ∃ b off, A = some ⟨b, off, none⟩ ∧ base ≤ b
theorem NewAt.mono {base base' n : Nat} {A : Option Addr} (h : NewAt base n A) (hb : base' ≤ base) : NewAt base' n A := fun hn => by
  obtain ⟨b, off, hA, h1⟩ := h hn
  exact ⟨b, off, hA, by omega⟩
/-- What a call that names a filter gives. -/
def NamedPost (nm : ByteArray) (L : List RuleV) (b : Bool) (w : World) (e : Ending) (w' : World) : Prop :=
  ∃ A c, e = .returned (.tuple #[.agg #[.string nm, .slice A L.length c], .bool b]) ∧ Rd w' w'.heap.size 10 (.slice A L.length c) L.length (rcells L) ∧ Below w.heap.size w w' ∧ NewAt w.heap.size L.length A

theorem Rd.far {w : World} {B k n c base : Nat} {A : Option Addr} {xs : List Value} (h : Rd w B k (.slice A n c) n xs) (hA : NewAt base n A) {p : Addr} (hp : p.block < base) (u : Value) : Rd (w.setCell p u) B k (.slice A n c) n xs := by
  obtain ⟨A', c', hv, hc, hl, hq⟩ := h
  injection hv with h1 _ h3
  subst h1 h3
  refine ⟨A, c, rfl, hc, hl, fun hn => ?_⟩
  obtain ⟨b, off, hA', hB, hcell⟩ := hq hn
  obtain ⟨b', off', hA2, hb⟩ := hA hn
  rw [hA'] at hA2
  injection hA2 with hA2
  injection hA2 with hA2 hA3
  exact ⟨b, off, hA', hB, fun j v hv => (World.cell?_of_block (w := w) (Below.heap_setCell w p u b (by omega))).trans (hcell j v hv)⟩
theorem old_at (w : World) (o : Obj) {k : Nat} (h : k < w.heap.size) : (w.alloc o).drew.heap[k]? = w.heap[k]? := Below.heap_alloc w o k h
def ClonePost (L : List RuleV) (w : World) (e : Ending) (w' : World) : Prop :=
  ∃ A c, e = .returned (.slice A L.length c) ∧ Rd w' w'.heap.size 10 (.slice A L.length c) L.length (rcells L) ∧ Below w.heap.size w w' ∧ NewAt w.heap.size L.length A
set_option maxRecDepth 100000 in
set_option maxHeartbeats 1000000 in
theorem cloneRule_any (L : List RuleV) (v : Value) (w : World) (h : Rd w w.heap.size 10 v L.length (rcells L)) (hbig : L.length * 64 ≤ 140737488355328) :
    Calls Tryz.prog 33 #[v] w fun e w' => ClonePost L w e w' := by
  obtain ⟨i0, hi, hz0, hz1, hz2⟩ := info_parts Tryz.infoRule
  rcases Nat.eq_zero_or_pos L.length with h0 | h0
  · obtain rfl : L = [] := List.eq_nil_of_length_eq_zero h0
    obtain ⟨A, c, rfl, hc⟩ := h.form
    rcases A with _ | ad
    · exact (AnyE.slices_Clone_nil Tryz.cloneRule _ c w).mono fun e w' ⟨he, hw⟩ => ⟨none, 0, he, ⟨none, 0, rfl, Nat.le_refl _, rfl, fun h => absurd h (by simp)⟩, by subst hw; exact Below.refl _ _, fun h => absurd h (by simp)⟩
    · clear h
      go_enter Tryz.func33, Tryz.ntmps33
      have q : ∀ w, (binOp .eql 52 (.slice (some ad) 0 c) (.slice none 0 0)).run Tryz.prog w = .ok (.bool false) w := fun w => Lib.run_eql_slice_nil w _ _ (some ad) 0 c 0 0 Tryz.underlying52
      go_wp2
      go_ret
      exact ⟨_, _, rfl, ⟨_, 0, rfl, Nat.le_refl _, rfl, fun h => absurd h (by simp)⟩, below1 w _, fun h => absurd h (by simp)⟩
  · obtain ⟨b, off, c, rfl, hc, hbB, hcell⟩ := h.pos h0
    have := AnyE.slices_Clone Tryz.cloneRule i0 _ 10 64 hi hz0 hz1 hz2 rfl (by decide) Tryz.sizeOf71 b off L.length c (rcells L) w (flat_len RuleV.enc 10 rule_len L) (by unfold maxLen; omega) hbig hcell (rcells_one L)
    refine this.mono fun e w' ⟨v', he, hown, _, hb⟩ => ?_
    obtain ⟨A, c', rfl, hA⟩ := owns_form hown
    refine ⟨A, c', he, Rd.of_own hown, hb, fun hn => ?_⟩
    obtain ⟨g, rfl⟩ := hA hn
    exact ⟨g, 0, rfl, (hown.lt g rfl).1⟩

theorem results_f {fn : Func} {tmps : Array Value} {w : World} {g : Nat} {a b e : Value} {t1 t3 : Nat} (hf : fn.results = #[.cell t1 54, .tmp t3]) (h1 : tmps.getD t1 undef = .pointer (some ⟨g, 0, none⟩)) (h3 : tmps.getD t3 undef = e)
    (k1 : w.heap[g]? = some (.cells #[a, b] 54 (0, 0))) :
    (results fn tmps).run Tryz.prog w = .ok (.tuple #[.agg #[a, b], e]) w := by
  obtain ⟨c0, c1, _, _⟩ := two_cells k1
  have h1' : tmps[t1]?.getD undef = .pointer (some ⟨g, 0, none⟩) := by simpa using h1
  have h3' : tmps[t3]?.getD undef = e := by simpa using h3
  simp [results, hf, h1', h3', go_sem, c0, c1]

set_option maxRecDepth 100000 in
set_option maxHeartbeats 1000000 in
theorem fnamed_any (Fs : List FiltV) (v : Value) (nm : ByteArray) (w : World) (h : FsAt w w.heap.size v Fs) (hlen : Fs.length ≤ 9223372036854775807) :
    Calls Tryz.prog 15 #[v, .string nm] w fun e w' => NamedPost (fndNm Fs nm) (fndL Fs nm) (fndB Fs nm) w e w' := by
  have HF := Lib.hid h
  obtain ⟨A, c, rfl, hc⟩ := h.1.form
  clear h
  go_enter Tryz.func15, Tryz.ntmps15
  go_wp2
  go_loopw [7, 10] (fun _ i wr => ∃ k : Nat, i = .int .i64 k ∧ k ≤ Fs.length ∧ Hid (∀ (j : Nat) (f : FiltV), j < k → Fs[j]? = some f → hasNm nm f = false) ∧ wr.heap[w.heap.size]? = some (.cells #[.string ByteArray.empty, .slice none 0 0] 54 (0, 0)) ∧ Below w.heap.size w wr) (fun _ i _ => Fs.length - (intOf i).toNat)
  case atStart => exact ⟨0, rfl, by omega, fun j r hj => absurd hj (by omega), blk1 w _, below1 w _⟩
  case round =>
    obtain ⟨k, rfl, hk, hno, hblk, hnx⟩ := hrel
    by_cases hlt : k < Fs.length
    · have hI : (k : Int) < (Fs.length : Int) := by omega
      obtain ⟨f, hf⟩ : ∃ f, Fs[k]? = some f := ⟨_, List.getElem?_eq_getElem hlt⟩
      obtain ⟨b, off, c', hv, _, hbB, hcell⟩ := HF.out.1.posAt (by omega)
      injection hv with hv1 _ hv3
      subst hv1 hv3
      have c0 : wr.cell? ⟨b, off + k * 2, none⟩ = some (.string f.nm) := (hnx.cell (p := ⟨b, off + k * 2, none⟩) hbB).trans (hcell k 0 _ (fcell hf rfl))
      have c1 : wr.cell? ⟨b, off + k * 2 + 1, none⟩ = some f.v := (hnx.cell (p := ⟨b, off + k * 2 + 1, none⟩) hbB).trans (hcell k 1 _ (fcell hf rfl))
      have l0 := lt_of_block hblk
      have HB := Lib.hid hblk
      have HC := Lib.hid hcell
      clear hcell hblk
      have hrd := (HF.out.2 f (List.mem_of_getElem? hf)).1
      obtain ⟨Ar, cr, hfv, hcr⟩ := hrd.form
      rw [hfv] at c1
      have hsz := hnx.size
      have HR : Hid (∀ W, Below w.heap.size w W → Rd W W.heap.size 10 (.slice Ar f.L.length cr) f.L.length (rcells f.L)) := fun W hb => by rw [← hfv]; exact (hrd.below hb).mono hb.size
      have hbig := (HF.out.2 f (List.mem_of_getElem? hf)).2
      clear hrd hfv
      by_cases hm : f.nm.toList = nm.toList
      · have hm1 : (f.nm.toList == nm.toList) = true := by simp [hm]
        have hI : Hid (idxP (hasNm nm) Fs = k) := idxP_hit _ Fs k f hf hm1 hno.out
        have hne1 : w.heap.size ≠ wr.heap.size := by omega
        have hne2 : wr.heap.size ≠ w.heap.size := by omega
        go_wp2
        go_region_held3 (fun w' => w'.cell? ⟨wr.heap.size, 0, none⟩ = some (.string f.nm) ∧ w'.cell? ⟨wr.heap.size, 1, none⟩ = some (.slice Ar f.L.length cr)) (first | exact ⟨g0, g1⟩ | exact ⟨far2 hne2 g0, far2 hne2 g1⟩ | go_keep)
          (first | (go_at_call 33; refine (cloneRule_any f.L _ _ (HR.out _ (by repeat (first | exact Below.refl _ _ | assumption | refine below_drewL ?_ | refine Below.alloc ?_ (by first | omega | (simp; done) | (simp; omega)) _))) hbig).mono ?_; rintro e w1 ⟨A1, c1', rfl, hr1, hb1, hn1⟩; obtain ⟨g0, g1, _, _⟩ := two_cells (blk_below hb1 (new_at0 _ _)); have HK := Lib.hid (blk_below hb1 ((old_at _ _ l0).trans HB.out)); obtain ⟨k0, k1, k2, k3⟩ := two_cells HK.out; have HR1 := Lib.hid hr1; have HB1 := Lib.hid hb1; have HN1 := Lib.hid hn1; clear hr1 hb1 hn1))
        go_wp2
        refine bodyPost_ret (results_f (t1 := 4) (t3 := 5) (g := w.heap.size) Tryz.results15 rfl rfl (set_1 (set_0 HK.out))) rfl ?_
        have hlt1 : w.heap.size < (wr.alloc (.cells #[.string f.nm, .slice Ar f.L.length cr] 54)).drew.heap.size := by
          show _ < (wr.alloc _).heap.size
          simp; omega
        have hbel : Below w.heap.size w w1 := ((hnx.alloc hnx.size (.cells #[.string f.nm, .slice Ar f.L.length cr] 54)).drew).trans (HB1.out.mono (Nat.le_of_lt hlt1))
        unfold NamedPost fndNm fndL fndB
        rw [fnd_hit hI.out hf]
        exact ⟨A1, c1', rfl, ((HR1.out.far HN1.out hlt1 _).far HN1.out hlt1 _).mono (by simp [World.setCell]), (hbel.setCell (Nat.le_refl _) _).setCell (Nat.le_refl _) _, HN1.out.mono (Nat.le_of_lt hlt1)⟩
      · have hm1 : (f.nm.toList == nm.toList) = false := by simp [hm]
        go_wp2
        refine ⟨⟨k + 1, by go_num, by omega, fun j f' hj hf' => ?_, (Below.heap_alloc _ _ _ l0).trans HB.out, hnx.alloc hnx.size _⟩, by simp only [intOf]; omega⟩
        by_cases hjk : j = k
        · subst hjk
          rw [hf] at hf'
          injection hf' with hf'
          rw [← hf']; exact hm1
        · exact hno.out j f' (by omega) hf'
    · obtain ⟨k0, k1, k2, k3⟩ := two_cells hblk
      have HB := Lib.hid hblk
      clear hblk
      go_wp2
      have hE : k = Fs.length := by omega
      have hI : fnd Fs nm = none := fnd_miss (idxP_miss _ Fs (fun j f hj => hno.out j f (by have := (List.getElem?_eq_some_iff.1 hj).1; omega) hj))
      refine bodyPost_ret (results_f (t1 := 4) (t3 := 5) (g := w.heap.size) Tryz.results15 rfl rfl (set_1 (set_0 HB.out))) rfl ?_
      unfold NamedPost fndNm fndL fndB
      rw [hI]
      exact ⟨none, 0, rfl, ⟨none, 0, rfl, Nat.le_refl _, rfl, fun h => absurd h (by simp)⟩, (hnx.setCell (Nat.le_refl _) _).setCell (Nat.le_refl _) _, fun h => absurd h (by simp)⟩

end Go.Proofs.YthhcaoljejifeaaGreat

/-
  Walks over the layer of rewrites: filters by their names, the second text (written by wip/gen/genrw2.py).
-/
namespace Go.Proofs.YthhcaoljejifeaaGreat
open Go Go.RowKit Go.Sort

def allR : RuleV := ⟨true, -1, 0, 0, 0, 0, 0, 65535, 0, 65535, by omega, by omega, by omega, by omega, by omega, by omega, by omega⟩
/-- .. of a rewrite's name: none: all. -/
def namNm (Fs : List FiltV) (nm : ByteArray) : ByteArray := if nm.toList = [] then ByteArray.empty else fndNm Fs nm
def namL (Fs : List FiltV) (nm : ByteArray) : List RuleV := if nm.toList = [] then [allR] else fndL Fs nm
def namB (Fs : List FiltV) (nm : ByteArray) : Bool := if nm.toList = [] then true else fndB Fs nm

end Go.Proofs.YthhcaoljejifeaaGreat

/-
  Walks over the layer of rewrites: Check, the program's and the reference's (written by wip/gen/genrw3.py).
-/
namespace Go.Proofs.YthhcaoljejifeaaGreat
open Go Go.RowKit Go.Sort

structure RewV where
  dest : Bool
  nm : ByteArray
  too : Int
  hto : 0 ≤ too ∧ too < 4294967296
instance : Inhabited RewV := ⟨⟨false, ByteArray.empty, 0, by omega⟩⟩
def RewV.enc (x : RewV) : List Value := [.bool x.dest, .string x.nm, .int .u32 x.too]
theorem rew_len (x : RewV) : x.enc.length = 3 := rfl
def wcells (L : List RewV) : List Value := L.flatMap RewV.enc
theorem wcell {L : List RewV} {k i : Nat} {x : RewV} {v : Value} (hr : L[k]? = some x) (hv : x.enc[i]? = some v) : (wcells L)[k * 3 + i]? = some v := flat_get RewV.enc 3 rew_len L k i x v hr hv

/-- The refusal of one rewrite. -/
def errX (Fs : List FiltV) (x : RewV) : Int := if namB Fs x.nm = false then 120 else if filtE (namL Fs x.nm) = 0 then 0 else 121
def chkE (Fs : List FiltV) : List RewV → Int
  | [] => 0
  | x :: r => if errX Fs x = 0 then chkE Fs r else errX Fs x
def rwE (Fs : List FiltV) (l : List RewV) : Int := if 256 < l.length then 1 else chkE Fs l
end Go.Proofs.YthhcaoljejifeaaGreat

/-
  Joined texts: Cmp, Addr7, Addr8, Rw1, Rw2, Rw3, Rw4, Rw5, Rw6, Rw7, Rw8, Bdd1, Bdd2.
-/
import Derived.Test.YtdjikiakcfbklaaGreatMRewriteNames1
import Derived.Test.YtdjikiakcfbklaaGreatProg
import Derived.Test.YtdjikiakcfbklaaGreatMRewriteNames4
import Derived.Test.YtdjikiakcfbklaaGreatShelf3
import Derived.Great.Walk
/-
  Walks over package cmp at the types of this seat: Compare and Or.
-/
namespace Go.Proofs.YtdjikiakcfbklaaGreat
open Go Go.RowKit

/-- -1, 0, 1. -/
def cmpI (x y : Int) : Int := if x < y then -1 else if y < x then 1 else 0
theorem cmpI_lt {x y : Int} (h : x < y) : cmpI x y = -1 := if_pos h
theorem cmpI_gt {x y : Int} (h : y < x) : cmpI x y = 1 := by unfold cmpI; rw [if_neg (by omega), if_pos h]
theorem cmpI_eq (x : Int) : cmpI x x = 0 := by unfold cmpI; rw [if_neg (by omega), if_neg (by omega)]
/-- The first that is not 0. -/
def firstNZ : List Int → Int
  | [] => 0
  | x :: l => if x = 0 then firstNZ l else x
theorem firstNZ_take (l : List Int) (k : Nat) (x : Int) (hx : l[k]? = some x) (h : ∀ j, j < k → l[j]? = some 0) (hn : x ≠ 0) : firstNZ l = x := by
  induction l generalizing k with
  | nil => simp at hx
  | cons y l ih =>
    cases k with
    | zero => simp at hx; subst hx; unfold firstNZ; rw [if_neg hn]
    | succ k =>
      have h0 := h 0 (by omega)
      simp at h0
      subst h0
      unfold firstNZ; rw [if_pos rfl]
      exact ih k (by simpa using hx) (fun j hj => by simpa using h (j + 1) (by omega))
theorem firstNZ_zero (l : List Int) (h : ∀ j, j < l.length → l[j]? = some 0) : firstNZ l = 0 := by
  induction l with
  | nil => rfl
  | cons y l ih =>
    have h0 := h 0 (by simp)
    simp at h0
    subst h0
    unfold firstNZ; rw [if_pos rfl]
    exact ih (fun j hj => by simpa using h (j + 1) (by simp; omega))




set_option maxHeartbeats 400000 in
theorem cmpU32_any (x y : Int) (w : World) : Calls Tryz.prog 108 #[.int .u32 x, .int .u32 y] w fun e w' => e = .returned (.int .i64 (cmpI x y)) ∧ w = w' := by
  have hx : (x != x) = false := by simp
  have hy : (y != y) = false := by simp
  rcases Int.lt_trichotomy x y with h | h | h
  · have hE := Lib.hid (cmpI_lt h)
    go_enter Tryz.func108, Tryz.ntmps108
    go_wp2
    go_ret
    exact ⟨ret_int hE.out.symm, rfl⟩
  · subst h
    have hE := Lib.hid (cmpI_eq x)
    go_enter Tryz.func108, Tryz.ntmps108
    go_wp2
    go_ret
    exact ⟨ret_int hE.out.symm, rfl⟩
  · have hE := Lib.hid (cmpI_gt h)
    have h' : ¬ x < y := by omega
    go_enter Tryz.func108, Tryz.ntmps108
    go_wp2
    go_ret
    exact ⟨ret_int hE.out.symm, rfl⟩

set_option maxHeartbeats 400000 in
theorem cmpOr_any (l : List Int) (v : Value) (w : World) (h : Rd w w.heap.size 1 v l.length (l.map (Value.int .i64))) (hlen : l.length ≤ 4294967296) :
    Calls Tryz.prog 107 #[v] w fun e w' => e = .returned (.int .i64 (firstNZ l)) ∧ w = w' := by
  by_cases h0 : l.length = 0
  · obtain ⟨A, c, rfl, hc⟩ := h.form
    have e1 : l = [] := List.eq_nil_of_length_eq_zero h0
    subst e1
    go_enter Tryz.func107, Tryz.ntmps107
    go_wp2
    refine wp_loop_rounds 1 ?_
    rw [rounds_succ]
    go_wp2
    go_ret
    exact ⟨rfl, rfl⟩
  · obtain ⟨b, off, c, rfl, hc, hbB, hcell⟩ := h.pos (by omega)
    clear h
    go_enter Tryz.func107, Tryz.ntmps107
    go_wp2
    go_loop [8] (fun i => ∃ k : Nat, i = .int .i64 k ∧ k ≤ l.length ∧ ∀ j, j < k → l[j]? = some 0) (fun i => l.length - (intOf i).toNat)
    case atStart => exact ⟨0, rfl, by omega, fun j hj => absurd hj (by omega)⟩
    case round =>
      obtain ⟨k, rfl, hk, hz⟩ := hrel
      have HZ := Lib.hid hz
      clear hz
      by_cases hlt : k < l.length
      · obtain ⟨x, hx⟩ : ∃ x, l[k]? = some x := ⟨_, List.getElem?_eq_getElem hlt⟩
        have ca : w.cell? ⟨b, off + k, none⟩ = some (.int .i64 x) := hcell k _ (by simp [hx])
        have hI : (k : Int) < (l.length : Int) := by omega
        have HX := Lib.hid hx
        have HC := Lib.hid hcell
        clear hx hcell
        by_cases e : x = 0
        · have E := Lib.hid e
          have e' : (x != 0) = false := by simp [e]
          clear e
          go_wp2
          go_round
          case rel =>
            refine ⟨k + 1, by go_num, by omega, fun j hj => ?_⟩
            by_cases hjk : j = k
            · subst hjk; rw [HX.out, E.out]
            · exact HZ.out j (by omega)
          case measure => simp only [intOf]; omega
        · have E := Lib.hid e
          have e' : (x != 0) = true := by simp [e]
          clear e
          go_wp2
          go_ret
          exact ⟨ret_int (firstNZ_take l k x HX.out HZ.out E.out).symm, rfl⟩
      · go_wp2
        go_ret
        exact ⟨ret_int (firstNZ_zero l (fun j hj => HZ.out j (by omega))).symm, rfl⟩

end Go.Proofs.YtdjikiakcfbklaaGreat

/-
  Walks over the addresses' layer: Cmp, and the law's same.
-/
namespace Go.Proofs.YtdjikiakcfbklaaGreat
open Go Go.RowKit Go.Sort

/-- The order of prefixes. -/
def cmpP (a n b m : Int) : Int := firstNZ [cmpI a b, cmpI n m]

end Go.Proofs.YtdjikiakcfbklaaGreat

/-
  Walks over the addresses' layer: Common; the program's.
-/
namespace Go.Proofs.YtdjikiakcfbklaaGreat
open Go Go.RowKit Go.Sort

/-- What two addresses have in common: the leading zeros of the bits in which they differ. -/
def xorI (a b : Int) : Int := ((a.toNat ^^^ b.toNat : Nat) : Int)
theorem xor_range (a b : Int) (h0 : 0 ≤ a) (h1 : a < 4294967296) (h2 : 0 ≤ b) (h3 : b < 4294967296) : 0 ≤ xorI a b ∧ xorI a b < 4294967296 := by
  unfold xorI
  have := Nat.xor_lt_two_pow (x := a.toNat) (y := b.toNat) (n := 32) (by omega) (by omega)
  omega
theorem xor_val (a b : Int) (h0 : 0 ≤ a) (h1 : a < 4294967296) (h2 : 0 ≤ b) (h3 : b < 4294967296) : bits .xor .u32 a b = xorI a b := u32_xor a b h0 h1 h2 h3
/-- The bits of what two prefixes have in common. -/
def comN (a n b m : Int) : Int := if lz32 (xorI a b) < (if m < n then m else n) then lz32 (xorI a b) else (if m < n then m else n)
theorem com_range {a b : Int} (n m : Int) (hn0 : 0 ≤ n) (hn1 : n ≤ 32) (hm0 : 0 ≤ m) (hm1 : m ≤ 32) (hl : 0 ≤ lz32 (xorI a b) ∧ lz32 (xorI a b) ≤ 32) : 0 ≤ comN a n b m ∧ comN a n b m ≤ 32 := by
  unfold comN
  split <;> split <;> omega
def comE (a n b m : Int) : Int := if chk a n = 0 then chk b m else chk a n
def comA (a n b m : Int) : Int := if comE a n b m = 0 then subA a (comN a n b m) else 0
def comB (a n b m : Int) : Int := if comE a n b m = 0 then comN a n b m else 0
theorem com_yes {a n b m : Int} (h : comE a n b m = 0) : comA a n b m = subA a (comN a n b m) ∧ comB a n b m = comN a n b m := ⟨if_pos h, if_pos h⟩
theorem com_no {a n b m : Int} (h : ¬ comE a n b m = 0) : comA a n b m = 0 ∧ comB a n b m = 0 := ⟨if_neg h, if_neg h⟩
theorem comE_1 {a n : Int} (b m : Int) (h : ¬ chk a n = 0) : comE a n b m = chk a n := if_neg h
theorem comE_2 {a n : Int} (b m : Int) (h : chk a n = 0) : comE a n b m = chk b m := if_pos h
theorem results_p {fn : Func} {tmps : Array Value} {w : World} {g : Nat} {a b e : Value} {t1 t3 : Nat} (hf : fn.results = #[.cell t1 40, .tmp t3]) (h1 : tmps.getD t1 undef = .pointer (some ⟨g, 0, none⟩)) (h3 : tmps.getD t3 undef = e)
    (k1 : w.heap[g]? = some (.cells #[a, b] 40 (0, 0))) :
    (results fn tmps).run Tryz.prog w = .ok (.tuple #[.agg #[a, b], e]) w := by
  obtain ⟨c0, c1, _, _⟩ := two_cells k1
  have h1' : tmps[t1]?.getD undef = .pointer (some ⟨g, 0, none⟩) := by simpa using h1
  have h3' : tmps[t3]?.getD undef = e := by simpa using h3
  simp [results, hf, h1', h3', go_sem, c0, c1]
def ComRes (a n b m : Int) (w : World) (en : Ending) (w' : World) : Prop :=
  en = .returned (.tuple #[.agg #[.int .u32 (comA a n b m), .int .i64 (comB a n b m)], .int .i64 (comE a n b m)]) ∧ Below w.heap.size w w'

end Go.Proofs.YtdjikiakcfbklaaGreat

/-
  Walks over the layer of rewrites: filters by their names (written by wip/gen/genrw1.py).
-/
namespace Go.Proofs.YtdjikiakcfbklaaGreat
open Go Go.RowKit Go.Sort

/-- A filter as it lies in a slice: its name, the value of its rules, the rules. -/
structure FiltV where
  nm : ByteArray
  v : Value
  L : List RuleV
instance : Inhabited FiltV := ⟨⟨ByteArray.empty, .slice none 0 0, []⟩⟩
def FiltV.enc (f : FiltV) : List Value := [.string f.nm, f.v]
theorem filt_len (f : FiltV) : f.enc.length = 2 := rfl
def fcells (L : List FiltV) : List Value := L.flatMap FiltV.enc
theorem fcell {L : List FiltV} {k i : Nat} {f : FiltV} {v : Value} (hr : L[k]? = some f) (hv : f.enc[i]? = some v) : (fcells L)[k * 2 + i]? = some v := flat_get FiltV.enc 2 filt_len L k i f v hr hv
/-- The filters of a slice, in a world. -/
def FsAt (W : World) (B : Nat) (v : Value) (Fs : List FiltV) : Prop :=
  Rd W B 2 v Fs.length (fcells Fs) ∧ ∀ f ∈ Fs, Rd W B 10 f.v f.L.length (rcells f.L) ∧ f.L.length * 64 ≤ 140737488355328
theorem FsAt.below {W W' : World} {B : Nat} {v : Value} {Fs : List FiltV} (h : FsAt W B v Fs) (hb : Below B W W') : FsAt W' B v Fs := ⟨h.1.below hb, fun f hf => ⟨(h.2 f hf).1.below hb, (h.2 f hf).2⟩⟩
theorem FsAt.mono {W : World} {B B' : Nat} {v : Value} {Fs : List FiltV} (h : FsAt W B v Fs) (hb : B ≤ B') : FsAt W B' v Fs := ⟨h.1.mono hb, fun f hf => ⟨(h.2 f hf).1.mono hb, (h.2 f hf).2⟩⟩
theorem FsAt.next {W W' : World} {v : Value} {Fs : List FiltV} (h : FsAt W W.heap.size v Fs) (hb : Below W.heap.size W W') : FsAt W' W'.heap.size v Fs := (h.below hb).mono hb.size

def hasNm (nm : ByteArray) (f : FiltV) : Bool := f.nm.toList == nm.toList
/-- The first filter of a name. -/
def fnd (Fs : List FiltV) (nm : ByteArray) : Option FiltV := if 0 ≤ idxP (hasNm nm) Fs then Fs[(idxP (hasNm nm) Fs).toNat]? else none
theorem fnd_hit {Fs : List FiltV} {nm : ByteArray} {k : Nat} {f : FiltV} (h : idxP (hasNm nm) Fs = k) (hk : Fs[k]? = some f) : fnd Fs nm = some f := by
  unfold fnd
  rw [h, if_pos (by omega), Int.toNat_natCast, hk]
theorem fnd_miss {Fs : List FiltV} {nm : ByteArray} (h : idxP (hasNm nm) Fs = -1) : fnd Fs nm = none := by
  unfold fnd
  rw [h, if_neg (by omega)]
def fndNm (Fs : List FiltV) (nm : ByteArray) : ByteArray := match fnd Fs nm with | some f => f.nm | none => ByteArray.empty
def fndL (Fs : List FiltV) (nm : ByteArray) : List RuleV := match fnd Fs nm with | some f => f.L | none => []
def fndB (Fs : List FiltV) (nm : ByteArray) : Bool := (fnd Fs nm).isSome

def NewAt (base n : Nat) (A : Option Addr) : Prop := 0 < n → ∃ b off, A = some ⟨b, off, none⟩ ∧ base ≤ b
theorem NewAt.mono {base base' n : Nat} {A : Option Addr} (h : NewAt base n A) (hb : base' ≤ base) : NewAt base' n A := fun hn => by
  obtain ⟨b, off, hA, h1⟩ := h hn
  exact ⟨b, off, hA, by omega⟩
/-- What a call that names a filter gives. -/
def NamedPost (nm : ByteArray) (L : List RuleV) (b : Bool) (w : World) (e : Ending) (w' : World) : Prop :=
  ∃ A c, e = .returned (.tuple #[.agg #[.string nm, .slice A L.length c], .bool b]) ∧ Rd w' w'.heap.size 10 (.slice A L.length c) L.length (rcells L) ∧ Below w.heap.size w w' ∧ NewAt w.heap.size L.length A

theorem Rd.far {w : World} {B k n c base : Nat} {A : Option Addr} {xs : List Value} (h : Rd w B k (.slice A n c) n xs) (hA : NewAt base n A) {p : Addr} (hp : p.block < base) (u : Value) : Rd (w.setCell p u) B k (.slice A n c) n xs := by
  obtain ⟨A', c', hv, hc, hl, hq⟩ := h
  injection hv with h1 _ h3
  subst h1 h3
  refine ⟨A, c, rfl, hc, hl, fun hn => ?_⟩
  obtain ⟨b, off, hA', hB, hcell⟩ := hq hn
  obtain ⟨b', off', hA2, hb⟩ := hA hn
  rw [hA'] at hA2
  injection hA2 with hA2
  injection hA2 with hA2 hA3
  exact ⟨b, off, hA', hB, fun j v hv => (World.cell?_of_block (w := w) (Below.heap_setCell w p u b (by omega))).trans (hcell j v hv)⟩
theorem old_at (w : World) (o : Obj) {k : Nat} (h : k < w.heap.size) : (w.alloc o).drew.heap[k]? = w.heap[k]? := Below.heap_alloc w o k h
def ClonePost (L : List RuleV) (w : World) (e : Ending) (w' : World) : Prop :=
  ∃ A c, e = .returned (.slice A L.length c) ∧ Rd w' w'.heap.size 10 (.slice A L.length c) L.length (rcells L) ∧ Below w.heap.size w w' ∧ NewAt w.heap.size L.length A
set_option maxRecDepth 100000 in
set_option maxHeartbeats 1000000 in
theorem cloneRule_any (L : List RuleV) (v : Value) (w : World) (h : Rd w w.heap.size 10 v L.length (rcells L)) (hbig : L.length * 64 ≤ 140737488355328) :
    Calls Tryz.prog 111 #[v] w fun e w' => ClonePost L w e w' := by
  obtain ⟨i0, hi, hz0, hz1, hz2⟩ := info_parts Tryz.infoRule
  rcases Nat.eq_zero_or_pos L.length with h0 | h0
  · obtain rfl : L = [] := List.eq_nil_of_length_eq_zero h0
    obtain ⟨A, c, rfl, hc⟩ := h.form
    rcases A with _ | ad
    · exact (AnyE.slices_Clone_nil Tryz.cloneRule _ c w).mono fun e w' ⟨he, hw⟩ => ⟨none, 0, he, ⟨none, 0, rfl, Nat.le_refl _, rfl, fun h => absurd h (by simp)⟩, by subst hw; exact Below.refl _ _, fun h => absurd h (by simp)⟩
    · clear h
      go_enter Tryz.func111, Tryz.ntmps111
      have q : ∀ w, (binOp .eql 75 (.slice (some ad) 0 c) (.slice none 0 0)).run Tryz.prog w = .ok (.bool false) w := fun w => Lib.run_eql_slice_nil w _ _ (some ad) 0 c 0 0 Tryz.underlying75
      go_wp2
      go_ret
      exact ⟨_, _, rfl, ⟨_, 0, rfl, Nat.le_refl _, rfl, fun h => absurd h (by simp)⟩, below1 w _, fun h => absurd h (by simp)⟩
  · obtain ⟨b, off, c, rfl, hc, hbB, hcell⟩ := h.pos h0
    have := AnyE.slices_Clone Tryz.cloneRule i0 _ 10 64 hi hz0 hz1 hz2 rfl (by decide) Tryz.sizeOf74 b off L.length c (rcells L) w (flat_len RuleV.enc 10 rule_len L) (by unfold maxLen; omega) hbig hcell (rcells_one L)
    refine this.mono fun e w' ⟨v', he, hown, _, hb⟩ => ?_
    obtain ⟨A, c', rfl, hA⟩ := owns_form hown
    refine ⟨A, c', he, Rd.of_own hown, hb, fun hn => ?_⟩
    obtain ⟨g, rfl⟩ := hA hn
    exact ⟨g, 0, rfl, (hown.lt g rfl).1⟩

theorem results_f {fn : Func} {tmps : Array Value} {w : World} {g : Nat} {a b e : Value} {t1 t3 : Nat} (hf : fn.results = #[.cell t1 77, .tmp t3]) (h1 : tmps.getD t1 undef = .pointer (some ⟨g, 0, none⟩)) (h3 : tmps.getD t3 undef = e)
    (k1 : w.heap[g]? = some (.cells #[a, b] 77 (0, 0))) :
    (results fn tmps).run Tryz.prog w = .ok (.tuple #[.agg #[a, b], e]) w := by
  obtain ⟨c0, c1, _, _⟩ := two_cells k1
  have h1' : tmps[t1]?.getD undef = .pointer (some ⟨g, 0, none⟩) := by simpa using h1
  have h3' : tmps[t3]?.getD undef = e := by simpa using h3
  simp [results, hf, h1', h3', go_sem, c0, c1]

set_option maxRecDepth 100000 in
set_option maxHeartbeats 1000000 in
theorem fnamed_any (Fs : List FiltV) (v : Value) (nm : ByteArray) (w : World) (h : FsAt w w.heap.size v Fs) (hlen : Fs.length ≤ 9223372036854775807) :
    Calls Tryz.prog 77 #[v, .string nm] w fun e w' => NamedPost (fndNm Fs nm) (fndL Fs nm) (fndB Fs nm) w e w' := by
  have HF := Lib.hid h
  obtain ⟨A, c, rfl, hc⟩ := h.1.form
  clear h
  go_enter Tryz.func77, Tryz.ntmps77
  go_wp2
  go_loopw [7, 10] (fun _ i wr => ∃ k : Nat, i = .int .i64 k ∧ k ≤ Fs.length ∧ Hid (∀ (j : Nat) (f : FiltV), j < k → Fs[j]? = some f → hasNm nm f = false) ∧ wr.heap[w.heap.size]? = some (.cells #[.string ByteArray.empty, .slice none 0 0] 77 (0, 0)) ∧ Below w.heap.size w wr) (fun _ i _ => Fs.length - (intOf i).toNat)
  case atStart => exact ⟨0, rfl, by omega, fun j r hj => absurd hj (by omega), blk1 w _, below1 w _⟩
  case round =>
    obtain ⟨k, rfl, hk, hno, hblk, hnx⟩ := hrel
    by_cases hlt : k < Fs.length
    · have hI : (k : Int) < (Fs.length : Int) := by omega
      obtain ⟨f, hf⟩ : ∃ f, Fs[k]? = some f := ⟨_, List.getElem?_eq_getElem hlt⟩
      obtain ⟨b, off, c', hv, _, hbB, hcell⟩ := HF.out.1.posAt (by omega)
      injection hv with hv1 _ hv3
      subst hv1 hv3
      have c0 : wr.cell? ⟨b, off + k * 2, none⟩ = some (.string f.nm) := (hnx.cell (p := ⟨b, off + k * 2, none⟩) hbB).trans (hcell k 0 _ (fcell hf rfl))
      have c1 : wr.cell? ⟨b, off + k * 2 + 1, none⟩ = some f.v := (hnx.cell (p := ⟨b, off + k * 2 + 1, none⟩) hbB).trans (hcell k 1 _ (fcell hf rfl))
      have l0 := lt_of_block hblk
      have HB := Lib.hid hblk
      have HC := Lib.hid hcell
      clear hcell hblk
      have hrd := (HF.out.2 f (List.mem_of_getElem? hf)).1
      obtain ⟨Ar, cr, hfv, hcr⟩ := hrd.form
      rw [hfv] at c1
      have hsz := hnx.size
      have HR : Hid (∀ W, Below w.heap.size w W → Rd W W.heap.size 10 (.slice Ar f.L.length cr) f.L.length (rcells f.L)) := fun W hb => by rw [← hfv]; exact (hrd.below hb).mono hb.size
      have hbig := (HF.out.2 f (List.mem_of_getElem? hf)).2
      clear hrd hfv
      by_cases hm : f.nm.toList = nm.toList
      · have hm1 : (f.nm.toList == nm.toList) = true := by simp [hm]
        have hI : Hid (idxP (hasNm nm) Fs = k) := idxP_hit _ Fs k f hf hm1 hno.out
        have hne1 : w.heap.size ≠ wr.heap.size := by omega
        have hne2 : wr.heap.size ≠ w.heap.size := by omega
        go_wp2
        go_region_held3 (fun w' => w'.cell? ⟨wr.heap.size, 0, none⟩ = some (.string f.nm) ∧ w'.cell? ⟨wr.heap.size, 1, none⟩ = some (.slice Ar f.L.length cr)) (first | exact ⟨g0, g1⟩ | exact ⟨far2 hne2 g0, far2 hne2 g1⟩ | go_keep)
          (first | (go_at_call 111; refine (cloneRule_any f.L _ _ (HR.out _ (by repeat (first | exact Below.refl _ _ | assumption | refine below_drewL ?_ | refine Below.alloc ?_ (by first | omega | (simp; done) | (simp; omega)) _))) hbig).mono ?_; rintro e w1 ⟨A1, c1', rfl, hr1, hb1, hn1⟩; obtain ⟨g0, g1, _, _⟩ := two_cells (blk_below hb1 (new_at0 _ _)); have HK := Lib.hid (blk_below hb1 ((old_at _ _ l0).trans HB.out)); obtain ⟨k0, k1, k2, k3⟩ := two_cells HK.out; have HR1 := Lib.hid hr1; have HB1 := Lib.hid hb1; have HN1 := Lib.hid hn1; clear hr1 hb1 hn1))
        go_wp2
        refine bodyPost_ret (results_f (t1 := 4) (t3 := 5) (g := w.heap.size) Tryz.results77 rfl rfl (set_1 (set_0 HK.out))) rfl ?_
        have hlt1 : w.heap.size < (wr.alloc (.cells #[.string f.nm, .slice Ar f.L.length cr] 77)).drew.heap.size := by
          show _ < (wr.alloc _).heap.size
          simp; omega
        have hbel : Below w.heap.size w w1 := ((hnx.alloc hnx.size (.cells #[.string f.nm, .slice Ar f.L.length cr] 77)).drew).trans (HB1.out.mono (Nat.le_of_lt hlt1))
        unfold NamedPost fndNm fndL fndB
        rw [fnd_hit hI.out hf]
        exact ⟨A1, c1', rfl, ((HR1.out.far HN1.out hlt1 _).far HN1.out hlt1 _).mono (by simp [World.setCell]), (hbel.setCell (Nat.le_refl _) _).setCell (Nat.le_refl _) _, HN1.out.mono (Nat.le_of_lt hlt1)⟩
      · have hm1 : (f.nm.toList == nm.toList) = false := by simp [hm]
        go_wp2
        refine ⟨⟨k + 1, by go_num, by omega, fun j f' hj hf' => ?_, (Below.heap_alloc _ _ _ l0).trans HB.out, hnx.alloc hnx.size _⟩, by simp only [intOf]; omega⟩
        by_cases hjk : j = k
        · subst hjk
          rw [hf] at hf'
          injection hf' with hf'
          rw [← hf']; exact hm1
        · exact hno.out j f' (by omega) hf'
    · obtain ⟨k0, k1, k2, k3⟩ := two_cells hblk
      have HB := Lib.hid hblk
      clear hblk
      go_wp2
      have hE : k = Fs.length := by omega
      have hI : fnd Fs nm = none := fnd_miss (idxP_miss _ Fs (fun j f hj => hno.out j f (by have := (List.getElem?_eq_some_iff.1 hj).1; omega) hj))
      refine bodyPost_ret (results_f (t1 := 4) (t3 := 5) (g := w.heap.size) Tryz.results77 rfl rfl (set_1 (set_0 HB.out))) rfl ?_
      unfold NamedPost fndNm fndL fndB
      rw [hI]
      exact ⟨none, 0, rfl, ⟨none, 0, rfl, Nat.le_refl _, rfl, fun h => absurd h (by simp)⟩, (hnx.setCell (Nat.le_refl _) _).setCell (Nat.le_refl _) _, fun h => absurd h (by simp)⟩

end Go.Proofs.YtdjikiakcfbklaaGreat

/-
  Walks over the layer of rewrites: filters by their names, the second text (written by wip/gen/genrw2.py).
-/
namespace Go.Proofs.YtdjikiakcfbklaaGreat
open Go Go.RowKit Go.Sort

def allR : RuleV := ⟨true, -1, 0, 0, 0, 0, 0, 65535, 0, 65535, by omega, by omega, by omega, by omega, by omega, by omega, by omega⟩
/-- .. of a rewrite's name: none: all. -/
def namNm (Fs : List FiltV) (nm : ByteArray) : ByteArray := if nm.toList = [] then ByteArray.empty else fndNm Fs nm
def namL (Fs : List FiltV) (nm : ByteArray) : List RuleV := if nm.toList = [] then [allR] else fndL Fs nm
def namB (Fs : List FiltV) (nm : ByteArray) : Bool := if nm.toList = [] then true else fndB Fs nm

set_option maxRecDepth 100000 in
set_option maxHeartbeats 1000000 in
theorem rnamed_any (Fs : List FiltV) (v : Value) (nm : ByteArray) (w : World) (h : FsAt w w.heap.size v Fs) (hlen : Fs.length ≤ 9223372036854775807) :
    Calls Tryz.prog 38 #[v, .string nm] w fun e w' => NamedPost (namNm Fs nm) (namL Fs nm) (namB Fs nm) w e w' := by
  by_cases hm : nm.toList = []
  · have hm1 : (nm.toList == []) = true := by simp [hm]
    obtain ⟨A, c, rfl, hc⟩ := h.1.form
    clear h
    have HM := Lib.hid hm
    clear hm
    go_enter Tryz.func38, Tryz.ntmps38
    go_wp2
    obtain ⟨J0, J1, J2⟩ := blk3 w (.cells #[.string ByteArray.empty, .slice (some ⟨w.heap.size + 1 + 1, 0, none⟩) 1 1] 77) (.cells #[.int .u32 0, .int .u32 65535] 72) (.cells #[.bool true, .int .i64 (-1), .int .u32 0, .int .i64 0, .int .u32 0, .int .i64 0, .int .u32 0, .int .u32 65535, .int .u32 0, .int .u32 65535] 74)
    have e1 : namNm Fs nm = ByteArray.empty := if_pos HM.out
    have e2 : namL Fs nm = [allR] := if_pos HM.out
    have e3 : namB Fs nm = true := if_pos HM.out
    refine bodyPost_ret (results_f (t1 := 4) (t3 := 5) (g := w.heap.size) Tryz.results38 rfl rfl J0) rfl ?_
    unfold NamedPost
    rw [e1, e2, e3]
    exact ⟨some ⟨w.heap.size + 1 + 1, 0, none⟩, 1, rfl, Rd.of_blk (k := 10) (n := 1) (c := 1) J2 (by omega) rfl, below3 w _ _ _, fun _ => ⟨_, 0, rfl, by omega⟩⟩
  · have hm1 : (nm.toList == []) = false := by simp [hm]
    have h' := h.next (below1 w (.cells #[.string ByteArray.empty, .slice none 0 0] 77))
    have hcon := Lib.hid (fnamed_any Fs v nm _ h' hlen)
    obtain ⟨A, c, rfl, hc⟩ := h.1.form
    clear h h'
    have hE1 : Hid (namNm Fs nm = fndNm Fs nm) := if_neg hm
    have hE2 : Hid (namL Fs nm = fndL Fs nm) := if_neg hm
    have hE3 : Hid (namB Fs nm = fndB Fs nm) := if_neg hm
    clear hm
    generalize fndNm Fs nm = N at *
    generalize fndL Fs nm = L at *
    generalize fndB Fs nm = B at *
    go_enter Tryz.func38, Tryz.ntmps38
    go_wp2_with fail
    refine hcon.out.mono ?_
    rintro e w1 ⟨A1, c1, rfl, hr1, hb1, hn1⟩
    have HK := Lib.hid (blk_below hb1 (blk1 w _))
    obtain ⟨k0, k1, k2, k3⟩ := two_cells HK.out
    have HR1 := Lib.hid hr1
    have HB1 := Lib.hid hb1
    have HN1 := Lib.hid hn1
    clear hr1 hb1 hn1
    go_wp2
    refine bodyPost_ret (results_f (t1 := 4) (t3 := 5) (g := w.heap.size) Tryz.results38 rfl rfl (set_1 (set_0 HK.out))) rfl ?_
    have hlt1 : w.heap.size < (w.alloc (.cells #[.string ByteArray.empty, .slice none 0 0] 77)).heap.size := by simp
    have hbel : Below w.heap.size w w1 := (below1 w _).trans (HB1.out.mono (Nat.le_of_lt hlt1))
    unfold NamedPost
    rw [hE1.out, hE2.out, hE3.out]
    exact ⟨A1, c1, rfl, ((HR1.out.far HN1.out hlt1 _).far HN1.out hlt1 _).mono (by simp [World.setCell]), (hbel.setCell (Nat.le_refl _) _).setCell (Nat.le_refl _) _, HN1.out.mono (Nat.le_of_lt hlt1)⟩

end Go.Proofs.YtdjikiakcfbklaaGreat

/-
  Walks over the layer of rewrites: Check, the program's and the reference's (written by wip/gen/genrw3.py).
-/
namespace Go.Proofs.YtdjikiakcfbklaaGreat
open Go Go.RowKit Go.Sort

structure RewV where
  dest : Bool
  nm : ByteArray
  too : Int
  hto : 0 ≤ too ∧ too < 4294967296
instance : Inhabited RewV := ⟨⟨false, ByteArray.empty, 0, by omega⟩⟩
def RewV.enc (x : RewV) : List Value := [.bool x.dest, .string x.nm, .int .u32 x.too]
theorem rew_len (x : RewV) : x.enc.length = 3 := rfl
def wcells (L : List RewV) : List Value := L.flatMap RewV.enc
theorem wcell {L : List RewV} {k i : Nat} {x : RewV} {v : Value} (hr : L[k]? = some x) (hv : x.enc[i]? = some v) : (wcells L)[k * 3 + i]? = some v := flat_get RewV.enc 3 rew_len L k i x v hr hv

/-- The refusal of one rewrite. -/
def errX (Fs : List FiltV) (x : RewV) : Int := if namB Fs x.nm = false then 120 else if filtE (namL Fs x.nm) = 0 then 0 else 121
theorem errX_1 {Fs : List FiltV} {x : RewV} (h : namB Fs x.nm = false) : errX Fs x = 120 := if_pos h
theorem errX_2 {Fs : List FiltV} {x : RewV} (h : namB Fs x.nm = true) (h1 : ¬ filtE (namL Fs x.nm) = 0) : errX Fs x = 121 := by unfold errX; rw [if_neg (by simp [h]), if_neg h1]
theorem errX_3 {Fs : List FiltV} {x : RewV} (h : namB Fs x.nm = true) (h1 : filtE (namL Fs x.nm) = 0) : errX Fs x = 0 := by unfold errX; rw [if_neg (by simp [h]), if_pos h1]
theorem allR_e : filtE [allR] = 0 := by decide +kernel
theorem errX_0 (Fs : List FiltV) {x : RewV} (h : x.nm.toList = []) : errX Fs x = 0 := errX_3 (if_pos h) (by rw [show namL Fs x.nm = [allR] from if_pos h]; exact allR_e)
def chkE (Fs : List FiltV) : List RewV → Int
  | [] => 0
  | x :: r => if errX Fs x = 0 then chkE Fs r else errX Fs x
theorem chkE_all {Fs : List FiltV} : ∀ {l : List RewV}, (∀ (j : Nat) x, l[j]? = some x → errX Fs x = 0) → chkE Fs l = 0
  | [], _ => rfl
  | x :: r, h => by
    rw [chkE, if_pos (h 0 x rfl)]
    exact chkE_all (fun j y hj => h (j + 1) y (by simpa using hj))
theorem chkE_hit {Fs : List FiltV} : ∀ {l : List RewV} {k : Nat} {x : RewV}, l[k]? = some x → errX Fs x ≠ 0 → (∀ (j : Nat) y, j < k → l[j]? = some y → errX Fs y = 0) → chkE Fs l = errX Fs x
  | [], _, _, h, _, _ => by simp at h
  | y :: r, 0, x, h, hx, _ => by
    simp at h; subst h
    rw [chkE, if_neg hx]
  | y :: r, k + 1, x, h, hx, hno => by
    rw [chkE, if_pos (hno 0 y (by omega) rfl)]
    exact chkE_hit (by simpa using h) hx (fun j z hj hz => hno (j + 1) z (by omega) (by simpa using hz))
def rwE (Fs : List FiltV) (l : List RewV) : Int := if 256 < l.length then 1 else chkE Fs l
theorem rwE_1 {Fs : List FiltV} {l : List RewV} (h : 256 < l.length) : rwE Fs l = 1 := if_pos h
theorem rwE_2 {Fs : List FiltV} {l : List RewV} (h : ¬ 256 < l.length) : rwE Fs l = chkE Fs l := if_neg h
theorem chkE_zero {Fs : List FiltV} : ∀ {l : List RewV}, chkE Fs l = 0 → ∀ x ∈ l, errX Fs x = 0
  | [], _, x, hx => by simp at hx
  | y :: r, h, x, hx => by
    rw [chkE] at h
    by_cases hy : errX Fs y = 0
    · rw [if_pos hy] at h
      rcases List.mem_cons.1 hx with rfl | hx
      · exact hy
      · exact chkE_zero h x hx
    · rw [if_neg hy] at h; exact absurd h hy

set_option maxRecDepth 100000 in
set_option maxHeartbeats 2000000 in
theorem rwCheck_any (l : List RewV) (vl : Value) (Fs : List FiltV) (v : Value) (w : World) (hl : Rd w w.heap.size 3 vl l.length (wcells l)) (h : FsAt w w.heap.size v Fs) (hlen : Fs.length ≤ 9223372036854775807) :
    Calls Tryz.prog 7 #[vl, v] w fun e w' => e = .returned (.int .i64 (rwE Fs l)) ∧ Below w.heap.size w w' := by
  have HF := Lib.hid h
  have HL := Lib.hid hl
  obtain ⟨A, c, rfl, hc⟩ := h.1.form
  obtain ⟨A', cl, rfl, hcl⟩ := hl.form
  clear h hl
  by_cases h1 : 256 < l.length
  · have hI : (256 : Int) < (l.length : Int) := by omega
    have hE := Lib.hid (rwE_1 (Fs := Fs) h1)
    go_enter Tryz.func7, Tryz.ntmps7
    go_wp2
    go_ret
    exact ⟨ret_int hE.out.symm, Below.refl _ _⟩
  · have hI : ¬ (256 : Int) < (l.length : Int) := by omega
    have hE := Lib.hid (rwE_2 (Fs := Fs) h1)
    go_enter Tryz.func7, Tryz.ntmps7
    go_wp2
    go_loopw [14] (fun i wr => ∃ k : Nat, i = .int .i64 k ∧ k ≤ l.length ∧ Hid (∀ (j : Nat) (x : RewV), j < k → l[j]? = some x → errX Fs x = 0) ∧ Below w.heap.size w wr) (fun i _ => l.length - (intOf i).toNat)
    case atStart => exact ⟨0, rfl, by omega, fun j r hj => absurd hj (by omega), Below.refl _ _⟩
    case round =>
      obtain ⟨k, rfl, hk, hno, hnx⟩ := hrel
      by_cases hlt : k < l.length
      · have hI : (k : Int) < (l.length : Int) := by omega
        obtain ⟨x, hx⟩ : ∃ x, l[k]? = some x := ⟨_, List.getElem?_eq_getElem hlt⟩
        obtain ⟨b, off, c', hv, _, hbB, hcell⟩ := HL.out.posAt (by omega)
        injection hv with hv1 _ hv3
        subst hv1 hv3
        have c0 : wr.cell? ⟨b, off + k * 3, none⟩ = some (.bool x.dest) := (hnx.cell (p := ⟨b, off + k * 3, none⟩) hbB).trans (hcell k 0 _ (wcell hx rfl))
        have c1 : wr.cell? ⟨b, off + k * 3 + 1, none⟩ = some (.string x.nm) := (hnx.cell (p := ⟨b, off + k * 3 + 1, none⟩) hbB).trans (hcell k 1 _ (wcell hx rfl))
        have c2 : wr.cell? ⟨b, off + k * 3 + 2, none⟩ = some (.int .u32 x.too) := (hnx.cell (p := ⟨b, off + k * 3 + 2, none⟩) hbB).trans (hcell k 2 _ (wcell hx rfl))
        clear hcell
        have hW := hnx.alloc hnx.size (.cells #[.bool x.dest, .string x.nm, .int .u32 x.too] 33)
        have hcon := Lib.hid (rnamed_any Fs (.slice A Fs.length c) x.nm _ ((HF.out.below hW).mono hW.size) hlen)
        by_cases hB : namB Fs x.nm = true
        · by_cases hfe : filtE (namL Fs x.nm) = 0
          · have hX : Hid (errX Fs x = 0) := errX_3 hB hfe
            have HB := Lib.hid hB
            have HFE := Lib.hid hfe
            clear hB hfe
            go_wp2_with fail
            refine hcon.out.mono ?_
            rw [HB.out]
            rintro e w1 ⟨A1, c1', rfl, hr1, hb1, hn1⟩
            have hbw1 := hW.trans (hb1.mono hW.size)
            have hbw2 := hbw1.alloc hbw1.size (.cells #[.string (namNm Fs x.nm), .slice A1 (namL Fs x.nm).length c1'] 77)
            have hc2 := filtCheck_any (namNm Fs x.nm) (namL Fs x.nm) _ _ ((hr1.below (below1 w1 (.cells #[.string (namNm Fs x.nm), .slice A1 (namL Fs x.nm).length c1'] 77))).mono (by simp))
            rw [HFE.out] at hc2
            have HC2 := Lib.hid hc2
            clear hc2 hr1 hb1 hn1
            go_wp2_with fail
            refine HC2.out.mono ?_
            rintro e w2 ⟨rfl, hb2⟩
            have hbw3 := hbw2.trans (hb2.mono hbw2.size)
            go_wp2
            refine ⟨⟨k + 1, by go_num, by omega, fun j y hj hy => ?_, hbw3⟩, by simp only [intOf]; omega⟩
            by_cases hjk : j = k
            · subst hjk
              rw [hx] at hy
              injection hy with hy
              rw [← hy]; exact hX.out
            · exact hno.out j y (by omega) hy
          · have hX : Hid (errX Fs x = 121) := errX_2 hB hfe
            have hne : (filtE (namL Fs x.nm) != 0) = true := by simp [hfe]
            have HB := Lib.hid hB
            clear hB hfe
            have hR : Hid (chkE Fs l = 121) := by rw [← hX.out]; exact chkE_hit hx (by rw [hX.out]; decide) hno.out
            go_wp2_with fail
            refine hcon.out.mono ?_
            rw [HB.out]
            rintro e w1 ⟨A1, c1', rfl, hr1, hb1, hn1⟩
            have hbw1 := hW.trans (hb1.mono hW.size)
            have hbw2 := hbw1.alloc hbw1.size (.cells #[.string (namNm Fs x.nm), .slice A1 (namL Fs x.nm).length c1'] 77)
            have HC2 := Lib.hid (filtCheck_any (namNm Fs x.nm) (namL Fs x.nm) _ _ ((hr1.below (below1 w1 (.cells #[.string (namNm Fs x.nm), .slice A1 (namL Fs x.nm).length c1'] 77))).mono (by simp)))
            clear hr1 hb1 hn1
            go_wp2_with fail
            refine HC2.out.mono ?_
            rintro e w2 ⟨rfl, hb2⟩
            have hbw3 := hbw2.trans (hb2.mono hbw2.size)
            go_wp2
            go_ret
            exact ⟨ret_int (hE.out.trans hR.out).symm, hbw3⟩
        · have hB' : namB Fs x.nm = false := by simpa using hB
          have hX : Hid (errX Fs x = 120) := errX_1 hB'
          have HB := Lib.hid hB'
          clear hB hB'
          have hR : Hid (chkE Fs l = 120) := by rw [← hX.out]; exact chkE_hit hx (by rw [hX.out]; decide) hno.out
          go_wp2_with fail
          refine hcon.out.mono ?_
          rw [HB.out]
          rintro e w1 ⟨A1, c1', rfl, hr1, hb1, hn1⟩
          have hbw1 := hW.trans (hb1.mono hW.size)
          have hbw2 := hbw1.alloc hbw1.size (.cells #[.string (namNm Fs x.nm), .slice A1 (namL Fs x.nm).length c1'] 77)
          clear hr1 hb1 hn1
          go_wp2
          go_ret
          exact ⟨ret_int (hE.out.trans hR.out).symm, hbw2⟩
      · have hR : Hid (chkE Fs l = 0) := chkE_all (fun j x hx => hno.out j x (by have := (List.getElem?_eq_some_iff.1 hx).1; omega) hx)
        go_wp2
        go_ret
        exact ⟨ret_int (hE.out.trans hR.out).symm, hnx⟩

end Go.Proofs.YtdjikiakcfbklaaGreat

/-
  Walks over the layer of rewrites: the reference's Check and Permits (written by wip/gen/genrw4.py).
-/
namespace Go.Proofs.YtdjikiakcfbklaaGreat
open Go Go.RowKit Go.Sort

theorem nam_hit {Fs : List FiltV} {nm : ByteArray} {f : FiltV} (hm : ¬ nm.toList = []) (hf : fnd Fs nm = some f) : namB Fs nm = true ∧ namL Fs nm = f.L ∧ namNm Fs nm = f.nm := by
  unfold namB namL namNm fndB fndL fndNm
  rw [if_neg hm, if_neg hm, if_neg hm, hf]
  exact ⟨rfl, rfl, rfl⟩
theorem nam_miss {Fs : List FiltV} {nm : ByteArray} (hm : ¬ nm.toList = []) (hf : fnd Fs nm = none) : namB Fs nm = false ∧ namL Fs nm = [] := by
  unfold namB namL fndB fndL
  rw [if_neg hm, if_neg hm, hf]
  exact ⟨rfl, rfl⟩

/-- Does the filter of a name permit a header? -/
def namP (Fs : List FiltV) (nm : ByteArray) (h : HeaderV) : Bool := permN (namL Fs nm) h
theorem permN_nil (h : HeaderV) : permN [] h = false := permN_miss (by unfold decN; rfl)
theorem fits_allR (h : HeaderV) : fitsB allR h = true := by
  have h1 := h.hsrc
  have h2 := h.hdst
  have h3 := h.hsp
  have h4 := h.hdp
  have c : chk 0 0 = 0 := by decide +kernel
  have z : sz 0 = 4294967296 := by decide +kernel
  unfold fitsB
  simp only [allR, inB, inP, c, z]
  simp
  exact ⟨⟨⟨h1, h2⟩, by simp [h3.1, h3.2]⟩, by simp [h4.1, h4.2]⟩
theorem permN_allR (h : HeaderV) : permN [allR] h = true := permN_hit (k := 0) (r := allR) (idxP_hit _ [allR] 0 allR rfl (fits_allR h) (fun j _ hj => absurd hj (by omega))) rfl
theorem namP_none {Fs : List FiltV} {nm : ByteArray} (hm : nm.toList = []) (h : HeaderV) : namP Fs nm h = true := by
  unfold namP
  rw [show namL Fs nm = [allR] from if_pos hm]
  exact permN_allR h

end Go.Proofs.YtdjikiakcfbklaaGreat

/-
  Walks over the layer of rewrites: First (written by wip/gen/genrw5.py).
-/
namespace Go.Proofs.YtdjikiakcfbklaaGreat
open Go Go.RowKit Go.Sort

/-- What the closure of First leaves. -/
def ClosPost (p : Bool) (i a0 : Int) (ga : Nat) (w : World) (e : Ending) (w' : World) : Prop :=
  e = .returned (.bool (!p)) ∧ w'.heap[ga]? = some (.cells #[.int .i64 (bif p then i else a0)] 3 (0, 0)) ∧ w.grownBy w' (some ga)

theorem one_cell {w : World} {g : Nat} {u : Value} {t : TypeId} (h : w.heap[g]? = some (.cells #[u] t (0, 0))) : w.cell? ⟨g, 0, none⟩ = some u ∧ w.frozen? ⟨g, 0, none⟩ = false :=
  ⟨cell_of_row w g 0 _ t (0, 0) h, by simp [World.frozen?, h]⟩
theorem set_one {w : World} {g : Nat} {a u : Value} {t : TypeId} (h : w.heap[g]? = some (.cells #[a] t (0, 0))) : (w.setCell ⟨g, 0, none⟩ u).heap[g]? = some (.cells #[u] t (0, 0)) := set_at h

set_option maxRecDepth 100000 in
set_option maxHeartbeats 1000000 in
theorem firstClos_any (nm : ByteArray) (L : List RuleV) (v : Value) (h : HeaderV) (i a0 : Int) (gh ga : Nat) (w : World) (hr : Rd w w.heap.size 10 v L.length (rcells L)) (hE : filtE L = 0)
    (hh : w.heap[gh]? = some (.cells #[.int .u32 h.src, .int .u32 h.dst, .int .u8 h.proto, .int .u16 h.sp, .int .u16 h.dp] 28 (0, 0))) (ha : w.heap[ga]? = some (.cells #[.int .i64 a0] 3 (0, 0))) :
    Calls Tryz.prog 75 #[.int .i64 i, .agg #[.string nm, v], .pointer (some ⟨gh, 0, none⟩), .pointer (some ⟨ga, 0, none⟩)] w fun e w' => ClosPost (permN L h) i a0 ga w e w' := by
  have hW := below1 w (.cells #[.string nm, v] 77)
  have hcon := Lib.hid (permits_ok nm L v h _ ((hr.below hW).mono hW.size) hE)
  have lh := lt_of_block hh
  have la := lt_of_block ha
  have nh : gh ≠ w.heap.size := by omega
  have e0 := cell_of_row w gh 0 _ _ (0, 0) hh
  have e1 := cell_of_row w gh 1 _ _ (0, 0) hh
  have e2 := cell_of_row w gh 2 _ _ (0, 0) hh
  have e3 := cell_of_row w gh 3 _ _ (0, 0) hh
  have e4 := cell_of_row w gh 4 _ _ (0, 0) hh
  have HA := Lib.hid ha
  obtain ⟨A, c, rfl, hc⟩ := hr.form
  clear hr hh ha
  cases hp : permN L h with
  | true =>
    rw [hp] at hcon
    go_enter Tryz.func75, Tryz.ntmps75
    go_wp2_with fail
    refine hcon.out.mono ?_
    rintro e w1 ⟨rfl, hb⟩
    have HK := Lib.hid (blk_below hb ((Below.heap_alloc w _ ga la).trans HA.out))
    obtain ⟨k0, k1⟩ := one_cell HK.out
    have hb' := hW.trans (hb.mono hW.size)
    clear hb
    go_wp2
    go_ret
    exact ⟨rfl, set_one HK.out, only_setCell (only_of_below hb' _) (.inl rfl) _⟩
  | false =>
    rw [hp] at hcon
    go_enter Tryz.func75, Tryz.ntmps75
    go_wp2_with fail
    refine hcon.out.mono ?_
    rintro e w1 ⟨rfl, hb⟩
    have HK := Lib.hid (blk_below hb ((Below.heap_alloc w _ ga la).trans HA.out))
    have hb' := hW.trans (hb.mono hW.size)
    clear hb
    go_wp2
    go_ret
    exact ⟨rfl, HK.out, only_of_below hb' _⟩

/-- Does a rewrite apply? -/
def appB (Fs : List FiltV) (dest : Bool) (h : HeaderV) (x : RewV) : Bool := x.dest == dest && namP Fs x.nm h
def EachPost (r : Int) (B0 ga : Nat) (w : World) (e : Ending) (w' : World) : Prop :=
  e = .returned (.tuple #[]) ∧ w'.heap[ga]? = some (.cells #[.int .i64 r] 3 (0, 0)) ∧ Below B0 w w'
theorem errX_fine {Fs : List FiltV} {x : RewV} (h : errX Fs x = 0) : namB Fs x.nm = true ∧ filtE (namL Fs x.nm) = 0 := by
  unfold errX at h
  by_cases h1 : namB Fs x.nm = false
  · rw [if_pos h1] at h; omega
  · rw [if_neg h1] at h
    by_cases h2 : filtE (namL Fs x.nm) = 0
    · exact ⟨by simpa using h1, h2⟩
    · rw [if_neg h2] at h; omega

set_option maxRecDepth 100000 in
set_option maxHeartbeats 2000000 in
theorem each_any (l : List RewV) (vl : Value) (Fs : List FiltV) (v : Value) (dest : Bool) (h : HeaderV) (B0 gh ga : Nat) (w : World) (hl : Rd w B0 3 vl l.length (wcells l)) (hF : FsAt w B0 v Fs) (hlen : Fs.length ≤ 9223372036854775807) (hll : l.length ≤ 256)
    (hok : ∀ x ∈ l, errX Fs x = 0) (hB0 : B0 ≤ w.heap.size) (hBa : B0 ≤ ga) (hne : gh ≠ ga)
    (hh : w.heap[gh]? = some (.cells #[.int .u32 h.src, .int .u32 h.dst, .int .u8 h.proto, .int .u16 h.sp, .int .u16 h.dp] 28 (0, 0))) (ha : w.heap[ga]? = some (.cells #[.int .i64 (-1)] 3 (0, 0))) :
    Calls Tryz.prog 67 #[vl, v, .bool dest, .func (.func 75) #[] #[.pointer (some ⟨gh, 0, none⟩), .pointer (some ⟨ga, 0, none⟩)]] w fun e w' => EachPost (idxP (appB Fs dest h) l) B0 ga w e w' := by
  have HF := Lib.hid hF
  have HL := Lib.hid hl
  have HH := Lib.hid hh
  have HA := Lib.hid ha
  obtain ⟨A, c, rfl, hc⟩ := hF.1.form
  obtain ⟨A', cl, rfl, hcl⟩ := hl.form
  clear hF hl hh ha
  go_enter Tryz.func67, Tryz.ntmps67
  go_wp2
  go_loopw [14] (fun i wr => ∃ k : Nat, i = .int .i64 k ∧ k ≤ l.length ∧ Hid (∀ (j : Nat) (x : RewV), j < k → l[j]? = some x → appB Fs dest h x = false) ∧ Hid (wr.heap[gh]? = some (.cells #[.int .u32 h.src, .int .u32 h.dst, .int .u8 h.proto, .int .u16 h.sp, .int .u16 h.dp] 28 (0, 0))) ∧ Hid (wr.heap[ga]? = some (.cells #[.int .i64 (-1)] 3 (0, 0))) ∧ Below B0 w wr) (fun i _ => l.length - (intOf i).toNat)
  case atStart => exact ⟨0, rfl, by omega, fun j r hj => absurd hj (by omega), HH.out, HA.out, Below.refl _ _⟩
  case round =>
    obtain ⟨k, rfl, hk, hno, hgh, hga, hnx⟩ := hrel
    have hsz := hnx.size
    by_cases hlt : k < l.length
    · have hI : (k : Int) < (l.length : Int) := by omega
      obtain ⟨x, hx⟩ : ∃ x, l[k]? = some x := ⟨_, List.getElem?_eq_getElem hlt⟩
      obtain ⟨b, off, c', hv, _, hbB, hcell⟩ := HL.out.posAt (by omega)
      injection hv with hv1 _ hv3
      subst hv1 hv3
      have c0 : wr.cell? ⟨b, off + k * 3, none⟩ = some (.bool x.dest) := (hnx.cell (p := ⟨b, off + k * 3, none⟩) hbB).trans (hcell k 0 _ (wcell hx rfl))
      have c1 : wr.cell? ⟨b, off + k * 3 + 1, none⟩ = some (.string x.nm) := (hnx.cell (p := ⟨b, off + k * 3 + 1, none⟩) hbB).trans (hcell k 1 _ (wcell hx rfl))
      have c2 : wr.cell? ⟨b, off + k * 3 + 2, none⟩ = some (.int .u32 x.too) := (hnx.cell (p := ⟨b, off + k * 3 + 2, none⟩) hbB).trans (hcell k 2 _ (wcell hx rfl))
      clear hcell
      obtain ⟨D, hD⟩ : ∃ D, x.dest = D := ⟨_, rfl⟩
      rw [hD] at c0
      have hW := below1 wr (.cells #[.bool D, .string x.nm, .int .u32 x.too] 33)
      have hnW := hnx.alloc (by omega) (.cells #[.bool D, .string x.nm, .int .u32 x.too] 33)
      have hnext : appB Fs dest h x = false → Hid (∀ (j : Nat) (y : RewV), j < k + 1 → l[j]? = some y → appB Fs dest h y = false) := fun h0 j y hj hy => by
        by_cases hjk : j = k
        · subst hjk
          rw [hx] at hy
          injection hy with hy
          rw [← hy]; exact h0
        · exact hno.out j y (by omega) hy
      have HN := Lib.hid hnext
      clear hnext
      have hgh1 := Lib.hid (blk_below hW hgh.out)
      have hga1 := Lib.hid (blk_below hW hga.out)
      by_cases hd : D = dest
      · have hd' := hd.symm
        subst hd'
        clear hd
        obtain ⟨n1, n2⟩ := errX_fine (hok x (List.mem_of_getElem? hx))
        have hcon := Lib.hid (rnamed_any Fs (.slice A Fs.length c) x.nm _ ((HF.out.below hnW).mono (by simp; omega)) hlen)
        have HE := Lib.hid n2
        have hap : Hid (appB Fs dest h x = permN (namL Fs x.nm) h) := by unfold Hid appB namP; simp [hD]
        clear n1 n2 hD
        go_wp2_with fail
        refine hcon.out.mono ?_
        rintro e w1 ⟨A1, c1', rfl, hr1, hb1, hn1⟩
        have hb2 := hb1.alloc hb1.size (.cells #[.string (namNm Fs x.nm), .slice A1 (namL Fs x.nm).length c1'] 77)
        have hnw2 := hnW.trans (hb2.mono (by simp; omega))
        have hgh2 := Lib.hid (blk_below hb2 hgh1.out)
        have hga2 := Lib.hid (blk_below hb2 hga1.out)
        have hcl := Lib.hid (firstClos_any (namNm Fs x.nm) (namL Fs x.nm) _ h k (-1) gh ga _ ((hr1.below (below1 w1 (.cells #[.string (namNm Fs x.nm), .slice A1 (namL Fs x.nm).length c1'] 77))).mono (by simp)) HE.out hgh2.out hga2.out)
        clear hr1 hb1 hn1
        cases hp : permN (namL Fs x.nm) h with
        | true =>
          rw [hp] at hcl hap
          have hR : Hid (idxP (appB Fs dest h) l = k) := idxP_hit _ l k x hx hap.out hno.out
          clear hp
          go_wp2_with fail
          refine hcl.out.mono ?_
          rintro e w3 ⟨rfl, hga3, hg3⟩
          have hnw3 := hnw2.grown hg3 (by have := hnw2.size; omega) (fun k hk => by injection hk with hk; omega)
          have HG3 := Lib.hid hga3
          clear hga3 hg3
          go_wp2
          exact bodyPost_ret (results_none Tryz.results67 _ _ _) rfl ⟨rfl, by rw [hR.out]; exact HG3.out, hnw3⟩
        | false =>
          rw [hp] at hcl hap
          clear hp
          go_wp2_with fail
          refine hcl.out.mono ?_
          rintro e w3 ⟨rfl, hga3, hg3⟩
          have hnw3 := hnw2.grown hg3 (by have := hnw2.size; omega) (fun k hk => by injection hk with hk; omega)
          have hgh3 := (hg3.block gh (lt_of_block hgh2.out) (by simp [hne])).trans hgh2.out
          have HG3 := Lib.hid hga3
          have HH3 := Lib.hid hgh3
          clear hga3 hgh3 hg3
          go_wp2
          exact ⟨⟨k + 1, by go_num, by omega, HN.out hap.out, HH3.out, HG3.out, hnw3⟩, by simp only [intOf]; omega⟩
      · have hap : Hid (appB Fs dest h x = false) := by unfold Hid appB; simp [hD, hd]
        clear hD
        obtain rfl : D = !dest := by cases D <;> cases dest <;> simp_all
        clear hd
        go_wp2
        exact ⟨⟨k + 1, by go_num, by omega, HN.out hap.out, hgh1.out, hga1.out, hnW⟩, by simp only [intOf]; omega⟩
    · have hR : Hid (idxP (appB Fs dest h) l = -1) := idxP_miss _ l (fun j x hx => hno.out j x (by have := (List.getElem?_eq_some_iff.1 hx).1; omega) hx)
      go_wp2
      exact Great.bodyPost_end0 Tryz.results67 rfl ⟨rfl, by rw [hR.out]; exact hga.out, hnx⟩

end Go.Proofs.YtdjikiakcfbklaaGreat

/-
  Walks over the layer of rewrites: First, the program's and the reference's (written by wip/gen/genrw6.py).
-/
namespace Go.Proofs.YtdjikiakcfbklaaGreat
open Go Go.RowKit Go.Sort

/-- Which rewrite applies; 0 where they are refused. -/
def firN (Fs : List FiltV) (l : List RewV) (dest : Bool) (h : HeaderV) : Int := if rwE Fs l = 0 then idxP (appB Fs dest h) l else 0
theorem firN_ok {Fs : List FiltV} {l : List RewV} (dest : Bool) (h : HeaderV) (h1 : rwE Fs l = 0) : firN Fs l dest h = idxP (appB Fs dest h) l := if_pos h1
theorem firN_no {Fs : List FiltV} {l : List RewV} (dest : Bool) (h : HeaderV) (h1 : ¬ rwE Fs l = 0) : firN Fs l dest h = 0 := if_neg h1
theorem rwE_fine {Fs : List FiltV} {l : List RewV} (h : rwE Fs l = 0) : l.length ≤ 256 ∧ ∀ x ∈ l, errX Fs x = 0 := by
  by_cases h1 : 256 < l.length
  · rw [rwE_1 h1] at h; omega
  · rw [rwE_2 h1] at h
    exact ⟨by omega, chkE_zero h⟩
theorem filtE_fine {L : List RuleV} (h : filtE L = 0) : L.length ≤ 256 := by
  rcases Nat.lt_or_ge 256 L.length with h1 | h1
  · rw [filtE_1 h1] at h; omega
  · exact h1

set_option maxRecDepth 100000 in
set_option maxHeartbeats 2000000 in
theorem rwFirst_any (l : List RewV) (vl : Value) (Fs : List FiltV) (v : Value) (dest : Bool) (h : HeaderV) (w : World) (hl : Rd w w.heap.size 3 vl l.length (wcells l)) (hF : FsAt w w.heap.size v Fs) (hlen : Fs.length ≤ 9223372036854775807) :
    Calls Tryz.prog 37 #[vl, v, .bool dest, .agg #[.int .u32 h.src, .int .u32 h.dst, .int .u8 h.proto, .int .u16 h.sp, .int .u16 h.dp]] w fun e w' => e = .returned (.tuple #[.int .i64 (firN Fs l dest h), .int .i64 (rwE Fs l)]) ∧ Below w.heap.size w w' := by
  have hW := below1 w (.cells #[.int .u32 h.src, .int .u32 h.dst, .int .u8 h.proto, .int .u16 h.sp, .int .u16 h.dp] 28)
  have hcon := rwCheck_any l vl Fs v _ ((hl.below hW).mono hW.size) (hF.next hW) hlen
  have HF := Lib.hid hF
  have HL := Lib.hid hl
  obtain ⟨A, c, rfl, hc⟩ := hF.1.form
  obtain ⟨A', cl, rfl, hcl⟩ := hl.form
  clear hF hl
  by_cases h1 : rwE Fs l = 0
  · rw [h1] at hcon
    have hX := Lib.hid (firN_ok dest h h1)
    have hfine := Lib.hid (rwE_fine h1)
    have H1 := Lib.hid h1
    have HC := Lib.hid hcon
    clear h1 hcon
    go_enter Tryz.func37, Tryz.ntmps37
    go_wp2_with fail
    refine HC.out.mono ?_
    rintro e w1 ⟨rfl, hb⟩
    have hbw := hW.trans (hb.mono hW.size)
    have hlt : w.heap.size < w1.heap.size := by have := hb.size; simp at this; omega
    have J0 := blk_below hb (blk1 w (.cells #[.int .u32 h.src, .int .u32 h.dst, .int .u8 h.proto, .int .u16 h.sp, .int .u16 h.dp] 28))
    have hbw2 := hbw.alloc hbw.size (.cells #[.int .i64 (-1)] 3)
    have hea := Lib.hid (each_any l (.slice A' l.length cl) Fs (.slice A Fs.length c) dest h w.heap.size w.heap.size w1.heap.size _ (HL.out.below hbw2) (HF.out.below hbw2) hlen hfine.out.1 hfine.out.2 hbw2.size hbw.size (Nat.ne_of_lt hlt) ((Below.heap_alloc w1 _ _ hlt).trans J0) (blk1 w1 _))
    clear hb J0
    go_wp2_with fail
    refine hea.out.mono ?_
    rintro e w2 ⟨rfl, hga, hb2⟩
    obtain ⟨k0, k1⟩ := one_cell hga
    have hbw3 := hbw2.trans hb2
    clear hga hb2
    go_wp2
    go_ret2
    exact ⟨rt2 ⟨vi hX.out.symm, vi H1.out.symm⟩, hbw3⟩
  · have hne : (rwE Fs l != 0) = true := by simp [h1]
    have hX := Lib.hid (firN_no dest h h1)
    have HC := Lib.hid hcon
    clear h1 hcon
    go_enter Tryz.func37, Tryz.ntmps37
    go_wp2_with fail
    refine HC.out.mono ?_
    rintro e w1 ⟨rfl, hb⟩
    have hbw := hW.trans (hb.mono hW.size)
    go_wp2
    go_ret2
    exact ⟨rt2 ⟨vi hX.out.symm, rfl⟩, hbw⟩

end Go.Proofs.YtdjikiakcfbklaaGreat

/-
  Walks over the layer of rewrites: Apply, the program's and the reference's (written by wip/gen/genrw7.py).
-/
namespace Go.Proofs.YtdjikiakcfbklaaGreat
open Go Go.RowKit Go.Sort

def zeroH : HeaderV := ⟨0, 0, 0, 0, 0, by omega, by omega, by omega, by omega, by omega⟩
def setD (h : HeaderV) (x : RewV) : HeaderV := ⟨h.src, x.too, h.proto, h.sp, h.dp, h.hsrc, x.hto, h.hproto, h.hsp, h.hdp⟩
def setS (h : HeaderV) (x : RewV) : HeaderV := ⟨x.too, h.dst, h.proto, h.sp, h.dp, x.hto, h.hdst, h.hproto, h.hsp, h.hdp⟩
/-- What comes of a header. -/
def apH (Fs : List FiltV) (l : List RewV) (dest : Bool) (h : HeaderV) : HeaderV :=
  if rwE Fs l = 0 then (if 0 ≤ idxP (appB Fs dest h) l then (match l[(idxP (appB Fs dest h) l).toNat]? with | some x => if dest = true then setD h x else setS h x | none => h) else h) else zeroH
theorem apH_no {Fs : List FiltV} {l : List RewV} {dest : Bool} {h : HeaderV} (h1 : ¬ rwE Fs l = 0) : apH Fs l dest h = zeroH := if_neg h1
theorem apH_miss {Fs : List FiltV} {l : List RewV} {dest : Bool} {h : HeaderV} (h1 : rwE Fs l = 0) (h2 : idxP (appB Fs dest h) l = -1) : apH Fs l dest h = h := by
  unfold apH; rw [if_pos h1, h2, if_neg (by omega)]
theorem apH_d {Fs : List FiltV} {l : List RewV} {h : HeaderV} {k : Nat} {x : RewV} (h1 : rwE Fs l = 0) (h2 : idxP (appB Fs true h) l = k) (hx : l[k]? = some x) : apH Fs l true h = setD h x := by
  unfold apH; rw [if_pos h1, h2, if_pos (by omega), Int.toNat_natCast, hx]; rfl
theorem apH_s {Fs : List FiltV} {l : List RewV} {h : HeaderV} {k : Nat} {x : RewV} (h1 : rwE Fs l = 0) (h2 : idxP (appB Fs false h) l = k) (hx : l[k]? = some x) : apH Fs l false h = setS h x := by
  unfold apH; rw [if_pos h1, h2, if_pos (by omega), Int.toNat_natCast, hx]; rfl
def ApPost (h : HeaderV) (r : Int) (w : World) (e : Ending) (w' : World) : Prop :=
  e = .returned (.tuple #[.agg #[.int .u32 h.src, .int .u32 h.dst, .int .u8 h.proto, .int .u16 h.sp, .int .u16 h.dp], .int .i64 r]) ∧ Below w.heap.size w w'
theorem five_cells {w : World} {g : Nat} {a b c d e : Value} {t : TypeId} (h : w.heap[g]? = some (.cells #[a, b, c, d, e] t (0, 0))) :
    w.cell? ⟨g, 0, none⟩ = some a ∧ w.cell? ⟨g, 1, none⟩ = some b ∧ w.cell? ⟨g, 2, none⟩ = some c ∧ w.cell? ⟨g, 3, none⟩ = some d ∧ w.cell? ⟨g, 4, none⟩ = some e ∧
    w.frozen? ⟨g, 0, none⟩ = false ∧ w.frozen? ⟨g, 1, none⟩ = false ∧ w.frozen? ⟨g, 2, none⟩ = false ∧ w.frozen? ⟨g, 3, none⟩ = false ∧ w.frozen? ⟨g, 4, none⟩ = false :=
  ⟨cell_of_row w g 0 _ t (0, 0) h, cell_of_row w g 1 _ t (0, 0) h, cell_of_row w g 2 _ t (0, 0) h, cell_of_row w g 3 _ t (0, 0) h, cell_of_row w g 4 _ t (0, 0) h, by simp [World.frozen?, h], by simp [World.frozen?, h], by simp [World.frozen?, h], by simp [World.frozen?, h], by simp [World.frozen?, h]⟩
theorem set5 {w : World} {g : Nat} {a b c d e u0 u1 u2 u3 u4 : Value} {t : TypeId} (h : w.heap[g]? = some (.cells #[a, b, c, d, e] t (0, 0))) :
    (((((w.setCell ⟨g, 0, none⟩ u0).setCell ⟨g, 1, none⟩ u1).setCell ⟨g, 2, none⟩ u2).setCell ⟨g, 3, none⟩ u3).setCell ⟨g, 4, none⟩ u4).heap[g]? = some (.cells #[u0, u1, u2, u3, u4] t (0, 0)) :=
  set_at (i := 4) (set_at (i := 3) (set_at (i := 2) (set_at (i := 1) (set_at (i := 0) h))))
theorem below_set5 {B g : Nat} {a w : World} {u0 u1 u2 u3 u4 : Value} (h : Below B a w) (hg : B ≤ g) :
    Below B a (((((w.setCell ⟨g, 0, none⟩ u0).setCell ⟨g, 1, none⟩ u1).setCell ⟨g, 2, none⟩ u2).setCell ⟨g, 3, none⟩ u3).setCell ⟨g, 4, none⟩ u4) :=
  ((((h.setCell hg _).setCell hg _).setCell hg _).setCell hg _).setCell hg _
theorem results_h {fn : Func} {tmps : Array Value} {w : World} {g : Nat} {a b c d f e : Value} {t1 t3 : Nat} (hf : fn.results = #[.cell t1 28, .tmp t3]) (h1 : tmps.getD t1 undef = .pointer (some ⟨g, 0, none⟩)) (h3 : tmps.getD t3 undef = e)
    (k1 : w.heap[g]? = some (.cells #[a, b, c, d, f] 28 (0, 0))) :
    (results fn tmps).run Tryz.prog w = .ok (.tuple #[.agg #[a, b, c, d, f], e]) w := by
  obtain ⟨c0, c1, c2, c3, c4, _⟩ := five_cells k1
  have h1' : tmps[t1]?.getD undef = .pointer (some ⟨g, 0, none⟩) := by simpa using h1
  have h3' : tmps[t3]?.getD undef = e := by simpa using h3
  simp [results, hf, h1', h3', go_sem, c0, c1, c2, c3, c4]

set_option maxRecDepth 100000 in
set_option maxHeartbeats 2000000 in
theorem rwApply_any (l : List RewV) (vl : Value) (Fs : List FiltV) (v : Value) (dest : Bool) (h : HeaderV) (w : World) (hl : Rd w w.heap.size 3 vl l.length (wcells l)) (hF : FsAt w w.heap.size v Fs) (hlen : Fs.length ≤ 9223372036854775807) :
    Calls Tryz.prog 8 #[vl, v, .bool dest, .agg #[.int .u32 h.src, .int .u32 h.dst, .int .u8 h.proto, .int .u16 h.sp, .int .u16 h.dp]] w fun e w' => ApPost (apH Fs l dest h) (rwE Fs l) w e w' := by
  have hW := below2 w (.cells #[.int .u32 h.src, .int .u32 h.dst, .int .u8 h.proto, .int .u16 h.sp, .int .u16 h.dp] 28) (.cells #[.int .u32 0, .int .u32 0, .int .u8 0, .int .u16 0, .int .u16 0] 28)
  have hcon := rwFirst_any l vl Fs v dest h _ ((hl.below hW).mono hW.size) (hF.next hW) hlen
  have HL := Lib.hid hl
  obtain ⟨A, c, rfl, hc⟩ := hF.1.form
  obtain ⟨A', cl, rfl, hcl⟩ := hl.form
  clear hF hl
  by_cases h1 : rwE Fs l = 0
  · rw [h1] at hcon
    rcases idxP_cases (appB Fs dest h) l with ⟨hD, _⟩ | ⟨k, x, hD, hx, _, _⟩
    · have hX := Lib.hid (apH_miss h1 hD)
      rw [firN_ok dest h h1, hD] at hcon
      have H1 := Lib.hid h1
      have HC := Lib.hid hcon
      clear h1 hcon hD
      cases dest
      all_goals (
        go_enter Tryz.func8, Tryz.ntmps8
        go_wp2_with fail
        refine HC.out.mono ?_
        rintro e w1 ⟨rfl, hb⟩
        have hbw := hW.trans (hb.mono hW.size)
        have K0 := Lib.hid (blk_below hb (blk2 w (.cells #[.int .u32 h.src, .int .u32 h.dst, .int .u8 h.proto, .int .u16 h.sp, .int .u16 h.dp] 28) (.cells #[.int .u32 0, .int .u32 0, .int .u8 0, .int .u16 0, .int .u16 0] 28)).1)
        have K1 := Lib.hid (blk_below hb (blk2 w (.cells #[.int .u32 h.src, .int .u32 h.dst, .int .u8 h.proto, .int .u16 h.sp, .int .u16 h.dp] 28) (.cells #[.int .u32 0, .int .u32 0, .int .u8 0, .int .u16 0, .int .u16 0] 28)).2)
        obtain ⟨p0, p1, p2, p3, p4, q0, q1, q2, q3, q4⟩ := five_cells K0.out
        obtain ⟨r0, r1, r2, r3, r4, s0, s1, s2, s3, s4⟩ := five_cells K1.out
        clear hb
        go_wp2
        refine bodyPost_ret (results_h (t1 := 8) (t3 := 9) (g := w.heap.size + 1) Tryz.results8 rfl rfl (set5 K1.out)) rfl ?_
        unfold ApPost
        rw [H1.out, hX.out]
        exact ⟨rfl, below_set5 hbw (by omega)⟩)
    · rw [firN_ok dest h h1, hD] at hcon
      have HC := Lib.hid hcon
      have H1 := Lib.hid h1
      cases dest with
      | true =>
        have hX := Lib.hid (apH_d h1 hD hx)
        clear h1 hcon hD
        go_enter Tryz.func8, Tryz.ntmps8
        go_wp2_with fail
        refine HC.out.mono ?_
        rintro e w1 ⟨rfl, hb⟩
        have hbw := hW.trans (hb.mono hW.size)
        have K0 := Lib.hid (blk_below hb (blk2 w (.cells #[.int .u32 h.src, .int .u32 h.dst, .int .u8 h.proto, .int .u16 h.sp, .int .u16 h.dp] 28) (.cells #[.int .u32 0, .int .u32 0, .int .u8 0, .int .u16 0, .int .u16 0] 28)).1)
        have K1 := Lib.hid (blk_below hb (blk2 w (.cells #[.int .u32 h.src, .int .u32 h.dst, .int .u8 h.proto, .int .u16 h.sp, .int .u16 h.dp] 28) (.cells #[.int .u32 0, .int .u32 0, .int .u8 0, .int .u16 0, .int .u16 0] 28)).2)
        obtain ⟨p0, p1, p2, p3, p4, q0, q1, q2, q3, q4⟩ := five_cells K0.out
        obtain ⟨r0, r1, r2, r3, r4, s0, s1, s2, s3, s4⟩ := five_cells K1.out
        clear hb
        obtain ⟨b, off, c', hv, _, hbB, hcell⟩ := HL.out.posAt (by have := (List.getElem?_eq_some_iff.1 hx).1; omega)
        injection hv with hv1 _ hv3
        subst hv1 hv3
        have hkl : (k : Int) < (l.length : Int) := by have := (List.getElem?_eq_some_iff.1 hx).1; omega
        have c2 : w1.cell? ⟨b, off + k * 3 + 2, none⟩ = some (.int .u32 x.too) := (hbw.cell (p := ⟨b, off + k * 3 + 2, none⟩) hbB).trans (hcell k 2 _ (wcell hx rfl))
        clear hcell
        go_wp2
        refine bodyPost_ret (results_h (t1 := 8) (t3 := 9) (g := w.heap.size + 1) Tryz.results8 rfl rfl (set5 (set_far K1.out (by simp)))) rfl ?_
        unfold ApPost
        rw [H1.out, hX.out]
        exact ⟨rfl, below_set5 (hbw.setCell (Nat.le_refl _) _) (by omega)⟩
      | false =>
        have hX := Lib.hid (apH_s h1 hD hx)
        clear h1 hcon hD
        go_enter Tryz.func8, Tryz.ntmps8
        go_wp2_with fail
        refine HC.out.mono ?_
        rintro e w1 ⟨rfl, hb⟩
        have hbw := hW.trans (hb.mono hW.size)
        have K0 := Lib.hid (blk_below hb (blk2 w (.cells #[.int .u32 h.src, .int .u32 h.dst, .int .u8 h.proto, .int .u16 h.sp, .int .u16 h.dp] 28) (.cells #[.int .u32 0, .int .u32 0, .int .u8 0, .int .u16 0, .int .u16 0] 28)).1)
        have K1 := Lib.hid (blk_below hb (blk2 w (.cells #[.int .u32 h.src, .int .u32 h.dst, .int .u8 h.proto, .int .u16 h.sp, .int .u16 h.dp] 28) (.cells #[.int .u32 0, .int .u32 0, .int .u8 0, .int .u16 0, .int .u16 0] 28)).2)
        obtain ⟨p0, p1, p2, p3, p4, q0, q1, q2, q3, q4⟩ := five_cells K0.out
        obtain ⟨r0, r1, r2, r3, r4, s0, s1, s2, s3, s4⟩ := five_cells K1.out
        clear hb
        obtain ⟨b, off, c', hv, _, hbB, hcell⟩ := HL.out.posAt (by have := (List.getElem?_eq_some_iff.1 hx).1; omega)
        injection hv with hv1 _ hv3
        subst hv1 hv3
        have hkl : (k : Int) < (l.length : Int) := by have := (List.getElem?_eq_some_iff.1 hx).1; omega
        have c2 : w1.cell? ⟨b, off + k * 3 + 2, none⟩ = some (.int .u32 x.too) := (hbw.cell (p := ⟨b, off + k * 3 + 2, none⟩) hbB).trans (hcell k 2 _ (wcell hx rfl))
        clear hcell
        go_wp2
        refine bodyPost_ret (results_h (t1 := 8) (t3 := 9) (g := w.heap.size + 1) Tryz.results8 rfl rfl (set5 (set_far K1.out (by simp)))) rfl ?_
        unfold ApPost
        rw [H1.out, hX.out]
        exact ⟨rfl, below_set5 (hbw.setCell (Nat.le_refl _) _) (by omega)⟩
  · have hne : (rwE Fs l != 0) = true := by simp [h1]
    have hX := Lib.hid (apH_no (dest := dest) (h := h) h1)
    have HC := Lib.hid hcon
    clear h1 hcon
    go_enter Tryz.func8, Tryz.ntmps8
    go_wp2_with fail
    refine HC.out.mono ?_
    rintro e w1 ⟨rfl, hb⟩
    have hbw := hW.trans (hb.mono hW.size)
    have K1 := Lib.hid (blk_below hb (blk2 w (.cells #[.int .u32 h.src, .int .u32 h.dst, .int .u8 h.proto, .int .u16 h.sp, .int .u16 h.dp] 28) (.cells #[.int .u32 0, .int .u32 0, .int .u8 0, .int .u16 0, .int .u16 0] 28)).2)
    obtain ⟨r0, r1, r2, r3, r4, s0, s1, s2, s3, s4⟩ := five_cells K1.out
    clear hb
    go_wp2
    refine bodyPost_ret (results_h (t1 := 8) (t3 := 9) (g := w.heap.size + 1) Tryz.results8 rfl rfl (set5 K1.out)) rfl ?_
    unfold ApPost
    rw [hX.out]
    exact ⟨rfl, below_set5 hbw (by omega)⟩

end Go.Proofs.YtdjikiakcfbklaaGreat

/-
  The walk of rewrite.each, whatever is done at each rewrite (until the end).
-/
namespace Go.Proofs.YtdjikiakcfbklaaGreat
open Go Go.RowKit Go.ChangeMaps Go.MapKept Go.Maps Go.Lib Go.Sort

/-- What is done at a rewrite: a state by how many were met. -/
structure EachOk (fid : FuncId) (caps : Array Value) (l : List RewV) (vl : Value) (Fs : List FiltV) (v : Value) (dest : Bool) (St : Nat → World → Prop) : Prop where
  en : ∀ (args : Array Value) (w : World), (callFunc fid args).run Tryz.prog w = .ok (.enter fid args) w
  below : ∀ k W W', St k W → Below W.heap.size W W' → St k W'
  row : ∀ k W, St k W → Rd W W.heap.size 3 vl l.length (wcells l)
  fs : ∀ k W, St k W → FsAt W W.heap.size v Fs
  skip : ∀ (k : Nat) (x : RewV) W, l[k]? = some x → x.dest ≠ dest → St k W → St (k + 1) W
  step : ∀ (k : Nat) (x : RewV) (A : Option Addr) (c : Nat) (W0 W : World), l[k]? = some x → x.dest = dest → St k W0 → Below W0.heap.size W0 W → Rd W W.heap.size 10 (.slice A (namL Fs x.nm).length c) (namL Fs x.nm).length (rcells (namL Fs x.nm)) → NewAt W0.heap.size (namL Fs x.nm).length A →
    Calls Tryz.prog fid (#[.int .i64 k, .agg #[.string (namNm Fs x.nm), .slice A (namL Fs x.nm).length c]] ++ caps) W fun e W' => e = .returned (.bool true) ∧ St (k + 1) W'
set_option maxRecDepth 100000 in
set_option maxHeartbeats 4000000 in
theorem eachW_any {fid : FuncId} {caps : Array Value} {l : List RewV} {vl : Value} {Fs : List FiltV} {v : Value} {dest : Bool} {St : Nat → World → Prop} (E : EachOk fid caps l vl Fs v dest St) (w : World) (hS : St 0 w) (hlen : Fs.length ≤ 9223372036854775807) (hll : l.length ≤ 256) :
    Calls Tryz.prog 67 #[vl, v, .bool dest, .func (.func fid) #[] caps] w fun e w' => e = .returned (.tuple #[]) ∧ St l.length w' := by
  have HE := Lib.hid E
  have hen := E.en
  have HS := Lib.hid hS
  obtain ⟨A, c, hve, hc⟩ := (E.fs 0 w hS).1.form
  obtain ⟨A', cl, hle, hcl⟩ := (E.row 0 w hS).form
  clear E hS
  subst hve hle
  go_enter Tryz.func67, Tryz.ntmps67
  go_wp2
  go_loopw [14] (fun i wr => ∃ k : Nat, i = .int .i64 k ∧ k ≤ l.length ∧ Hid (St k wr)) (fun i _ => l.length - (intOf i).toNat)
  case atStart => exact ⟨0, rfl, by omega, HS⟩
  case round =>
    obtain ⟨k, rfl, hk, HK⟩ := hrel
    by_cases hlt : k < l.length
    · have hI : (k : Int) < (l.length : Int) := by omega
      obtain ⟨x, hx⟩ : ∃ x, l[k]? = some x := ⟨_, List.getElem?_eq_getElem hlt⟩
      obtain ⟨b, off, c', hv, _, _, hcell⟩ := (HE.out.row k wr HK.out).posAt (by omega)
      injection hv with hv1 hvl hv3
      subst hv1 hv3
      clear hvl
      have c0 : wr.cell? ⟨b, off + k * 3, none⟩ = some (.bool x.dest) := hcell k 0 _ (wcell hx rfl)
      have c1 : wr.cell? ⟨b, off + k * 3 + 1, none⟩ = some (.string x.nm) := hcell k 1 _ (wcell hx rfl)
      have c2 : wr.cell? ⟨b, off + k * 3 + 2, none⟩ = some (.int .u32 x.too) := hcell k 2 _ (wcell hx rfl)
      have HX := Lib.hid hx
      clear hcell hx
      obtain ⟨D, hD⟩ : ∃ D, x.dest = D := ⟨_, rfl⟩
      have HD := Lib.hid hD
      rw [hD] at c0
      clear hD
      have hW := below1 wr (.cells #[.bool D, .string x.nm, .int .u32 x.too] 33)
      have HK1 := Lib.hid (HE.out.below k wr _ HK.out hW)
      have HKS := Lib.hid (fun (h : D ≠ dest) => HE.out.skip k x _ HX.out (by rw [HD.out]; exact h) HK1.out)
      by_cases hd : D = dest
      · have hd' := hd.symm
        subst hd'
        clear hd HKS
        have hcon := Lib.hid (rnamed_any Fs (.slice A Fs.length c) x.nm _ (HE.out.fs k _ HK1.out) hlen)
        clear hW
        go_upto_region 3 with fail
        clear c0 c1 c2
        have q0 : (wr.alloc (.cells #[.bool dest, .string x.nm, .int .u32 x.too] 33)).cell? ⟨wr.heap.size, 0, none⟩ = some (.bool dest) := cell_of_row _ _ 0 _ _ (0, 0) (blk1 wr _)
        have q1 : (wr.alloc (.cells #[.bool dest, .string x.nm, .int .u32 x.too] 33)).cell? ⟨wr.heap.size, 1, none⟩ = some (.string x.nm) := cell_of_row _ _ 1 _ _ (0, 0) (blk1 wr _)
        generalize wr.alloc (.cells #[.bool dest, .string x.nm, .int .u32 x.too] 33) = w1 at *
        cases dest
        all_goals
          go_wp2_with fail
          refine hcon.out.mono ?_
          rintro e w2 ⟨A2, c2, rfl, hr2, hb2, hn2⟩
          have HR2 := Lib.hid hr2
          have HB2 := Lib.hid hb2
          have HN2 := Lib.hid hn2
          clear hr2 hb2 hn2 q0 q1 hcon
          have hb3 := below1 w2 (.cells #[.string (namNm Fs x.nm), .slice A2 (namL Fs x.nm).length c2] 77)
          have s0 : (w2.alloc (.cells #[.string (namNm Fs x.nm), .slice A2 (namL Fs x.nm).length c2] 77)).cell? ⟨w2.heap.size, 0, none⟩ = some (.string (namNm Fs x.nm)) := cell_of_row _ _ 0 _ _ (0, 0) (blk1 w2 _)
          have s1 : (w2.alloc (.cells #[.string (namNm Fs x.nm), .slice A2 (namL Fs x.nm).length c2] 77)).cell? ⟨w2.heap.size, 1, none⟩ = some (.slice A2 (namL Fs x.nm).length c2) := cell_of_row _ _ 1 _ _ (0, 0) (blk1 w2 _)
          have HSTEP := Lib.hid (HE.out.step k x A2 c2 w1 _ HX.out HD.out HK1.out (HB2.out.trans (hb3.mono HB2.out.size)) ((HR2.out.below hb3).mono hb3.size) HN2.out)
          clear hb3
          go_wp2_with fail
          refine HSTEP.out.mono ?_
          rintro e w4 ⟨rfl, hs4⟩
          have HS4 := Lib.hid hs4
          clear hs4 HSTEP s0 s1
          go_wp2
          exact ⟨⟨k + 1, by go_num, by omega, HS4⟩, by simp only [intOf]; omega⟩
      · have hne : (D != dest) = true := by simpa using hd
        have HK2 := Lib.hid (HKS.out hd)
        clear HKS hW
        cases D <;> cases dest
        · exact absurd rfl hd
        · go_wp2
          exact ⟨⟨k + 1, by go_num, by omega, HK2⟩, by simp only [intOf]; omega⟩
        · go_wp2
          exact ⟨⟨k + 1, by go_num, by omega, HK2⟩, by simp only [intOf]; omega⟩
        · exact absurd rfl hd
    · obtain rfl : k = l.length := by omega
      have hI : ¬ (l.length : Int) < (l.length : Int) := by omega
      have HFIN := HK
      go_wp2
      go_end0
      exact ⟨rfl, HFIN.out⟩
end Go.Proofs.YtdjikiakcfbklaaGreat

/-
  Diagrams, plain: nodes in a list, what they are true of, one node for one function. No program in sight.
-/
namespace Go.Proofs.YtdjikiakcfbklaaGreat

structure Nd where
  v : Nat
  lo : Nat
  hi : Nat
deriving DecidableEq
instance : Inhabited Nd := ⟨⟨256, 0, 0⟩⟩
def nd (N : List Nd) (i : Nat) : Nd := (N[i]?).getD ⟨256, 0, 0⟩
def evF (N : List Nd) (s : Nat → Bool) : Nat → Nat → Bool
  | 0, _ => false
  | f + 1, i => if i = 0 then false else if i = 1 then true else if s (nd N i).v then evF N s f (nd N i).hi else evF N s f (nd N i).lo
/-- Is a node true of values? -/
def ev (N : List Nd) (s : Nat → Bool) (i : Nat) : Bool := evF N s (i + 1) i
/-- Nodes in order: what stands beneath stands ahead, and of later variables; none twice. -/
structure WF (N : List Nd) : Prop where
  two : 2 ≤ N.length
  ends : ∀ i, i < 2 → nd N i = ⟨256, 0, 0⟩
  lo : ∀ i, 2 ≤ i → i < N.length → (nd N i).lo < i
  hi : ∀ i, 2 ≤ i → i < N.length → (nd N i).hi < i
  ne : ∀ i, 2 ≤ i → i < N.length → (nd N i).lo ≠ (nd N i).hi
  vlo : ∀ i, 2 ≤ i → i < N.length → (nd N i).v < (nd N (nd N i).lo).v
  vhi : ∀ i, 2 ≤ i → i < N.length → (nd N i).v < (nd N (nd N i).hi).v
  one : ∀ i j, 2 ≤ i → i < N.length → 2 ≤ j → j < N.length → nd N i = nd N j → i = j
theorem nd_lt {N : List Nd} {i : Nat} (h : i < N.length) : N[i]? = some (nd N i) := by
  unfold nd
  rw [List.getElem?_eq_getElem h]; rfl
theorem WF.v256 {N : List Nd} (h : WF N) : ∀ i, (nd N i).v ≤ 256 := by
  intro i
  induction i using Nat.strongRecOn with
  | _ i ih =>
    rcases Nat.lt_or_ge i N.length with hi | hi
    · rcases Nat.lt_or_ge i 2 with h2 | h2
      · rw [h.ends i h2]; exact Nat.le_refl _
      · have := h.vlo i h2 hi
        have := ih _ (h.lo i h2 hi)
        omega
    · unfold nd
      rw [List.getElem?_eq_none hi]; exact Nat.le_refl _
theorem WF.v_lt {N : List Nd} (h : WF N) {i : Nat} (h2 : 2 ≤ i) (hi : i < N.length) : (nd N i).v < 256 := by
  have := h.vlo i h2 hi
  have := h.v256 (nd N i).lo
  omega
theorem evF_fuel {N : List Nd} (h : WF N) (s : Nat → Bool) : ∀ (i f g : Nat), i < N.length → i < f → i < g → evF N s f i = evF N s g i := by
  intro i
  induction i using Nat.strongRecOn with
  | _ i ih =>
    intro f g hi hf hg
    cases f with
    | zero => omega
    | succ f =>
      cases g with
      | zero => omega
      | succ g =>
        unfold evF
        by_cases h0 : i = 0
        · rw [if_pos h0, if_pos h0]
        · by_cases h1 : i = 1
          · rw [if_neg h0, if_neg h0, if_pos h1, if_pos h1]
          · rw [if_neg h0, if_neg h0, if_neg h1, if_neg h1]
            have h2 : 2 ≤ i := by omega
            have a := h.lo i h2 hi
            have b := h.hi i h2 hi
            rw [ih _ a f g (by omega) (by omega) (by omega), ih _ b f g (by omega) (by omega) (by omega)]
theorem ev_zero (N : List Nd) (s : Nat → Bool) : ev N s 0 = false := rfl
theorem ev_one (N : List Nd) (s : Nat → Bool) : ev N s 1 = true := rfl
theorem ev_node {N : List Nd} (h : WF N) (s : Nat → Bool) {i : Nat} (h2 : 2 ≤ i) (hi : i < N.length) : ev N s i = if s (nd N i).v then ev N s (nd N i).hi else ev N s (nd N i).lo := by
  have a := h.lo i h2 hi
  have b := h.hi i h2 hi
  show evF N s (i + 1) i = _
  conv => lhs; unfold evF
  rw [if_neg (by omega), if_neg (by omega)]
  unfold ev
  rw [evF_fuel h s _ i ((nd N i).hi + 1) (by omega) b (by omega), evF_fuel h s _ i ((nd N i).lo + 1) (by omega) a (by omega)]
/-- A node hangs on no variable ahead of its own. -/
theorem ev_agree {N : List Nd} (h : WF N) : ∀ (i : Nat) (s t : Nat → Bool), i < N.length → (∀ v, (nd N i).v ≤ v → s v = t v) → ev N s i = ev N t i := by
  intro i
  induction i using Nat.strongRecOn with
  | _ i ih =>
    intro s t hi hst
    rcases Nat.lt_or_ge i 2 with h2 | h2
    · obtain rfl | rfl : i = 0 ∨ i = 1 := by omega
      · rfl
      · rfl
    · rw [ev_node h s h2 hi, ev_node h t h2 hi, hst _ (Nat.le_refl _)]
      have a := h.lo i h2 hi
      have b := h.hi i h2 hi
      rw [ih _ a s t (by omega) (fun v hv => hst v (by have := h.vlo i h2 hi; omega)), ih _ b s t (by omega) (fun v hv => hst v (by have := h.vhi i h2 hi; omega))]
/-- Values with another one at a variable. -/
def put (s : Nat → Bool) (v : Nat) (b : Bool) : Nat → Bool := fun u => if u = v then b else s u
theorem put_same (s : Nat → Bool) (v : Nat) (b : Bool) : put s v b v = b := by simp [put]
theorem put_other {s : Nat → Bool} {v u : Nat} {b : Bool} (h : u ≠ v) : put s v b u = s u := by simp [put, h]
theorem ev_put {N : List Nd} (h : WF N) {i v : Nat} (hi : i < N.length) (hv : v < (nd N i).v) (s : Nat → Bool) (b : Bool) : ev N (put s v b) i = ev N s i :=
  ev_agree h i _ _ hi fun u hu => put_other (by omega)
theorem ev_lo {N : List Nd} (h : WF N) {i : Nat} (h2 : 2 ≤ i) (hi : i < N.length) (s : Nat → Bool) : ev N (put s (nd N i).v false) i = ev N s (nd N i).lo := by
  rw [ev_node h _ h2 hi, put_same, if_neg (by simp)]
  exact ev_put h (by have := h.lo i h2 hi; omega) (h.vlo i h2 hi) s false
theorem ev_hi {N : List Nd} (h : WF N) {i : Nat} (h2 : 2 ≤ i) (hi : i < N.length) (s : Nat → Bool) : ev N (put s (nd N i).v true) i = ev N s (nd N i).hi := by
  rw [ev_node h _ h2 hi, put_same, if_pos rfl]
  exact ev_put h (by have := h.hi i h2 hi; omega) (h.vhi i h2 hi) s true
/-- ONE NODE FOR ONE FUNCTION. -/
theorem WF.canon {N : List Nd} (h : WF N) : ∀ (n i j : Nat), i ≤ n → j ≤ n → i < N.length → j < N.length → (∀ s, ev N s i = ev N s j) → i = j := by
  intro n
  induction n with
  | zero => intro i j hn hm _ _ _; omega
  | succ n ih =>
    intro i j hn hm hi hj he
    have low : ∀ i j, i ≤ n + 1 → i < N.length → j < N.length → (∀ s, ev N s i = ev N s j) → (nd N i).v < (nd N j).v → False := by
      intro i j hn hi hj he hv
      have h2 : 2 ≤ i := by
        rcases Nat.lt_or_ge i 2 with h2 | h2
        · have e := h.ends i h2
          have := h.v256 j
          rw [e] at hv
          have : (256 : Nat) < (nd N j).v := hv
          omega
        · exact h2
      have a := h.lo i h2 hi
      have b := h.hi i h2 hi
      have e1 : ∀ s, ev N s (nd N i).lo = ev N s (nd N i).hi := fun s => by
        rw [← ev_lo h h2 hi s, ← ev_hi h h2 hi s, he, he, ev_put h hj hv, ev_put h hj hv]
      exact h.ne i h2 hi (ih _ _ (by omega) (by omega) (by omega) (by omega) e1)
    rcases Nat.lt_trichotomy (nd N i).v (nd N j).v with hv | hv | hv
    · exact (low i j hn hi hj he hv).elim
    · rcases Nat.lt_or_ge i 2 with h2 | h2
      · rcases Nat.lt_or_ge j 2 with g2 | g2
        · have := he (fun _ => false)
          obtain rfl | rfl : i = 0 ∨ i = 1 := by omega
          · obtain rfl | rfl : j = 0 ∨ j = 1 := by omega
            · rfl
            · rw [ev_zero, ev_one] at this; simp at this
          · obtain rfl | rfl : j = 0 ∨ j = 1 := by omega
            · rw [ev_zero, ev_one] at this; simp at this
            · rfl
        · have e := h.ends i h2
          have := h.v_lt g2 hj
          rw [e] at hv
          have : (256 : Nat) = (nd N j).v := hv
          omega
      · rcases Nat.lt_or_ge j 2 with g2 | g2
        · have e := h.ends j g2
          have := h.v_lt h2 hi
          rw [e] at hv
          have : (nd N i).v = 256 := hv
          omega
        · have e1 : (nd N i).lo = (nd N j).lo := by
            have a := h.lo i h2 hi
            have b := h.lo j g2 hj
            refine ih _ _ (by omega) (by omega) (by omega) (by omega) fun s => ?_
            rw [← ev_lo h h2 hi s, ← ev_lo h g2 hj s, hv, he]
          have e2 : (nd N i).hi = (nd N j).hi := by
            have a := h.hi i h2 hi
            have b := h.hi j g2 hj
            refine ih _ _ (by omega) (by omega) (by omega) (by omega) fun s => ?_
            rw [← ev_hi h h2 hi s, ← ev_hi h g2 hj s, hv, he]
          refine h.one i j h2 hi g2 hj ?_
          cases hni : nd N i with
          | mk a b c =>
            cases hnj : nd N j with
            | mk a' b' c' =>
              rw [hni, hnj] at hv e1 e2
              simp at hv e1 e2
              rw [hv, e1, e2]
    · exact (low j i hm hj hi (fun s => (he s).symm) hv).elim
end Go.Proofs.YtdjikiakcfbklaaGreat

/-
  Diagrams, plain: a list that grows, one node more, if-then-else. No program in sight.
-/
namespace Go.Proofs.YtdjikiakcfbklaaGreat

theorem nd_append {N : List Nd} (E : List Nd) {i : Nat} (h : i < N.length) : nd (N ++ E) i = nd N i := by
  unfold nd
  rw [List.getElem?_append_left h]
theorem nd_last (N : List Nd) (x : Nd) : nd (N ++ [x]) N.length = x := by
  unfold nd
  rw [List.getElem?_append_right (Nat.le_refl _), Nat.sub_self]
  rfl
theorem ev_append {N : List Nd} (h : WF N) (E : List Nd) (h' : WF (N ++ E)) (s : Nat → Bool) : ∀ i, i < N.length → ev (N ++ E) s i = ev N s i := by
  intro i
  induction i using Nat.strongRecOn with
  | _ i ih =>
    intro hi
    rcases Nat.lt_or_ge i 2 with h2 | h2
    · obtain rfl | rfl : i = 0 ∨ i = 1 := by omega
      · rfl
      · rfl
    · have hi' : i < (N ++ E).length := by rw [List.length_append]; omega
      have a := h.lo i h2 hi
      have b := h.hi i h2 hi
      rw [ev_node h' s h2 hi', ev_node h s h2 hi, nd_append E hi, ih _ a (by omega), ih _ b (by omega)]
/-- One list is the other with more behind it. -/
def Ext (N N' : List Nd) : Prop := ∃ E, N' = N ++ E
theorem Ext.refl (N : List Nd) : Ext N N := ⟨[], (List.append_nil N).symm⟩
theorem Ext.trans {A B C : List Nd} (h : Ext A B) (g : Ext B C) : Ext A C := by
  obtain ⟨E, rfl⟩ := h
  obtain ⟨F, rfl⟩ := g
  exact ⟨E ++ F, by rw [List.append_assoc]⟩
theorem Ext.len {A B : List Nd} (h : Ext A B) : A.length ≤ B.length := by
  obtain ⟨E, rfl⟩ := h
  rw [List.length_append]; omega
theorem Ext.nd {A B : List Nd} (h : Ext A B) {i : Nat} (hi : i < A.length) : nd B i = nd A i := by
  obtain ⟨E, rfl⟩ := h
  exact nd_append E hi
theorem Ext.ev {A B : List Nd} (h : Ext A B) (wa : WF A) (wb : WF B) (s : Nat → Bool) {i : Nat} (hi : i < A.length) : ev B s i = ev A s i := by
  obtain ⟨E, rfl⟩ := h
  exact ev_append wa E wb s i hi
/-- A node behind the others. -/
theorem WF.snoc {N : List Nd} (h : WF N) {x : Nd} (hlo : x.lo < N.length) (hhi : x.hi < N.length) (hne : x.lo ≠ x.hi) (hvl : x.v < (nd N x.lo).v) (hvh : x.v < (nd N x.hi).v)
    (hnew : ∀ i, 2 ≤ i → i < N.length → nd N i ≠ x) : WF (N ++ [x]) := by
  have two := h.two
  have len : (N ++ [x]).length = N.length + 1 := by simp
  have old : ∀ i, i < N.length → nd (N ++ [x]) i = nd N i := fun i hi => nd_append [x] hi
  have new : nd (N ++ [x]) N.length = x := nd_last N x
  refine ⟨by omega, fun i hi => (old i (by omega)).trans (h.ends i hi), ?_, ?_, ?_, ?_, ?_, ?_⟩
  · intro i h2 hi
    rcases Nat.lt_or_ge i N.length with hl | hl
    · rw [old i hl]; exact h.lo i h2 hl
    · obtain rfl : i = N.length := by omega
      rw [new]; exact hlo
  · intro i h2 hi
    rcases Nat.lt_or_ge i N.length with hl | hl
    · rw [old i hl]; exact h.hi i h2 hl
    · obtain rfl : i = N.length := by omega
      rw [new]; exact hhi
  · intro i h2 hi
    rcases Nat.lt_or_ge i N.length with hl | hl
    · rw [old i hl]; exact h.ne i h2 hl
    · obtain rfl : i = N.length := by omega
      rw [new]; exact hne
  · intro i h2 hi
    rcases Nat.lt_or_ge i N.length with hl | hl
    · rw [old i hl, old _ (by have := h.lo i h2 hl; omega)]; exact h.vlo i h2 hl
    · obtain rfl : i = N.length := by omega
      rw [new, old _ hlo]; exact hvl
  · intro i h2 hi
    rcases Nat.lt_or_ge i N.length with hl | hl
    · rw [old i hl, old _ (by have := h.hi i h2 hl; omega)]; exact h.vhi i h2 hl
    · obtain rfl : i = N.length := by omega
      rw [new, old _ hhi]; exact hvh
  · intro i j h2 hi g2 hj he
    rcases Nat.lt_or_ge i N.length with hl | hl
    · rcases Nat.lt_or_ge j N.length with gl | gl
      · rw [old i hl, old j gl] at he
        exact h.one i j h2 hl g2 gl he
      · obtain rfl : j = N.length := by omega
        rw [old i hl, new] at he
        exact absurd he (hnew i h2 hl)
    · obtain rfl : i = N.length := by omega
      rcases Nat.lt_or_ge j N.length with gl | gl
      · rw [old j gl, new] at he
        exact absurd he.symm (hnew j g2 gl)
      · omega
/-- What mk comes to. -/
def MkTo (N : List Nd) (v lo hi r : Nat) (N' : List Nd) : Prop :=
  lo = hi ∧ r = lo ∧ N' = N ∨ lo ≠ hi ∧ 2 ≤ r ∧ r < N.length ∧ nd N r = ⟨v, lo, hi⟩ ∧ N' = N ∨ lo ≠ hi ∧ (∀ i, 2 ≤ i → i < N.length → nd N i ≠ ⟨v, lo, hi⟩) ∧ r = N.length ∧ N' = N ++ [⟨v, lo, hi⟩]
theorem MkTo.good {N N' : List Nd} {v lo hi r : Nat} (m : MkTo N v lo hi r N') (h : WF N) (hlo : lo < N.length) (hhi : hi < N.length) (hvl : v < (nd N lo).v) (hvh : v < (nd N hi).v) :
    Ext N N' ∧ WF N' ∧ r < N'.length ∧ (∀ s, ev N' s r = if s v then ev N s hi else ev N s lo) := by
  rcases m with ⟨rfl, rfl, rfl⟩ | ⟨hne, h2, hr, hn, rfl⟩ | ⟨hne, hnew, rfl, rfl⟩
  · exact ⟨Ext.refl _, h, hlo, fun s => by split <;> rfl⟩
  · exact ⟨Ext.refl _, h, hr, fun s => by rw [ev_node h s h2 hr, hn]⟩
  · have h' := h.snoc (x := ⟨v, lo, hi⟩) hlo hhi hne hvl hvh hnew
    have hl : N.length < (N ++ [(⟨v, lo, hi⟩ : Nd)]).length := by simp
    refine ⟨⟨_, rfl⟩, h', hl, fun s => ?_⟩
    rw [ev_node h' s h.two hl, nd_last, ev_append h _ h' s hi hhi, ev_append h _ h' s lo hlo]
theorem mk_exists (N : List Nd) (v lo hi : Nat) : ∃ r N', MkTo N v lo hi r N' := by
  by_cases h : lo = hi
  · exact ⟨lo, N, .inl ⟨h, rfl, rfl⟩⟩
  · by_cases g : ∃ i, 2 ≤ i ∧ i < N.length ∧ nd N i = ⟨v, lo, hi⟩
    · obtain ⟨i, a, b, c⟩ := g
      exact ⟨i, N, .inr (.inl ⟨h, a, b, c, rfl⟩)⟩
    · exact ⟨N.length, _, .inr (.inr ⟨h, fun i a b c => g ⟨i, a, b, c⟩, rfl, rfl⟩)⟩
/-- A node beneath another one. -/
inductive Rch (N : List Nd) : Nat → Nat → Prop
  | refl (i : Nat) : Rch N i i
  | lo {i j : Nat} : 2 ≤ i → i < N.length → Rch N (nd N i).lo j → Rch N i j
  | hi {i j : Nat} : 2 ≤ i → i < N.length → Rch N (nd N i).hi j → Rch N i j
theorem Rch.ext {N N' : List Nd} (e : Ext N N') {i j : Nat} (h : Rch N i j) : Rch N' i j := by
  induction h with
  | refl i => exact .refl i
  | lo a b _ ih => exact .lo a (Nat.lt_of_lt_of_le b e.len) (by rw [e.nd b]; exact ih)
  | hi a b _ ih => exact .hi a (Nat.lt_of_lt_of_le b e.len) (by rw [e.nd b]; exact ih)
theorem Rch.trans {N : List Nd} {i j k : Nat} (h : Rch N i j) (g : Rch N j k) : Rch N i k := by
  induction h with
  | refl i => exact g
  | lo a b _ ih => exact .lo a b (ih g)
  | hi a b _ ih => exact .hi a b (ih g)
theorem Rch.le {N : List Nd} (w : WF N) {i j : Nat} (h : Rch N i j) (hi : i < N.length) : j ≤ i := by
  induction h with
  | refl i => exact Nat.le_refl _
  | lo a b _ ih => have := w.lo _ a b; have := ih (by omega); omega
  | hi a b _ ih => have := w.hi _ a b; have := ih (by omega); omega
theorem Rch.low {N : List Nd} {i j : Nat} (h : Rch N i j) (h2 : i < 2) : j = i := by
  cases h with
  | refl => rfl
  | lo a _ _ => omega
  | hi a _ _ => omega
/-- A function that no variable ahead of m turns has a node of m or later. -/
theorem WF.level {N : List Nd} (h : WF N) {r m : Nat} (hr : r < N.length) (hm : m ≤ 256) (hag : ∀ s t : Nat → Bool, (∀ v, m ≤ v → s v = t v) → ev N s r = ev N t r) : m ≤ (nd N r).v := by
  rcases Nat.lt_or_ge r 2 with h2 | h2
  · rw [h.ends r h2]; exact hm
  · rcases Nat.lt_or_ge (nd N r).v m with hv | hv
    · exfalso
      have a := h.lo r h2 hr
      have b := h.hi r h2 hr
      refine h.ne r h2 hr (h.canon (r + r) _ _ (by omega) (by omega) (by omega) (by omega) fun s => ?_)
      rw [← ev_lo h h2 hr s, ← ev_hi h h2 hr s]
      exact hag _ _ fun v hv' => by rw [put_other (by omega), put_other (by omega)]
    · exact hv
/-- What becomes of a node when a variable that is not behind its own has a value. -/
def cutN (N : List Nd) (f v : Nat) (b : Bool) : Nat := if (nd N f).v ≠ v then f else if b then (nd N f).hi else (nd N f).lo
theorem cutN_lt {N : List Nd} (h : WF N) {f v : Nat} (b : Bool) (hf : f < N.length) (hv : v < 256) : cutN N f v b < N.length := by
  unfold cutN
  split
  · exact hf
  · rename_i he
    have he : (nd N f).v = v := Decidable.not_not.1 he
    have h2 : 2 ≤ f := by
      rcases Nat.lt_or_ge f 2 with h2 | h2
      · rw [h.ends f h2] at he
        have : (256 : Nat) = v := he
        omega
      · exact h2
    have := h.lo f h2 hf
    have := h.hi f h2 hf
    split <;> omega
theorem cutN_ev {N : List Nd} (h : WF N) {f v : Nat} (b : Bool) (hf : f < N.length) (hv : v < 256) (hle : v ≤ (nd N f).v) (s : Nat → Bool) : ev N s (cutN N f v b) = ev N (put s v b) f := by
  unfold cutN
  split
  · rename_i he
    rw [ev_put h hf (by omega)]
  · rename_i he
    have he : (nd N f).v = v := Decidable.not_not.1 he
    have h2 : 2 ≤ f := by
      rcases Nat.lt_or_ge f 2 with h2 | h2
      · rw [h.ends f h2] at he
        have : (256 : Nat) = v := he
        omega
      · exact h2
    subst he
    cases b
    · exact (ev_lo h h2 hf s).symm
    · exact (ev_hi h h2 hf s).symm
theorem cutN_level {N : List Nd} (h : WF N) {f v : Nat} (b : Bool) (hf : f < N.length) (hv : v < 256) (hle : v ≤ (nd N f).v) : v < (nd N (cutN N f v b)).v := by
  unfold cutN
  split
  · omega
  · rename_i he
    have he : (nd N f).v = v := Decidable.not_not.1 he
    have h2 : 2 ≤ f := by
      rcases Nat.lt_or_ge f 2 with h2 | h2
      · rw [h.ends f h2] at he
        have : (256 : Nat) = v := he
        omega
      · exact h2
    have := h.vlo f h2 hf
    have := h.vhi f h2 hf
    split <;> omega
theorem cutN_le {N : List Nd} (h : WF N) {f v : Nat} (b : Bool) (hf : f < N.length) (hv : v < 256) : cutN N f v b ≤ f ∧ ((nd N f).v = v → cutN N f v b < f) := by
  unfold cutN
  split
  · rename_i he
    exact ⟨Nat.le_refl _, fun e => absurd e he⟩
  · rename_i he
    have he : (nd N f).v = v := Decidable.not_not.1 he
    have h2 : 2 ≤ f := by
      rcases Nat.lt_or_ge f 2 with h2 | h2
      · rw [h.ends f h2] at he
        have : (256 : Nat) = v := he
        omega
      · exact h2
    have := h.lo f h2 hf
    have := h.hi f h2 hf
    split <;> exact ⟨by omega, fun _ => by omega⟩
theorem cutN_rch {N : List Nd} {f v : Nat} (b : Bool) (hf : f < N.length) (h2 : 2 ≤ f) : Rch N f (cutN N f v b) := by
  unfold cutN
  split
  · exact .refl f
  · split
    · exact .hi h2 hf (.refl _)
    · exact .lo h2 hf (.refl _)
/-- g where f, else h: the answer of ite: every new node stands beneath it. -/
structure IteTo (N : List Nd) (f g h r : Nat) (N' : List Nd) : Prop where
  ext : Ext N N'
  wf : WF N'
  lt : r < N'.length
  sem : ∀ s, ev N' s r = if ev N s f then ev N s g else ev N s h
  new : ∀ i, N.length ≤ i → i < N'.length → Rch N' r i
end Go.Proofs.YtdjikiakcfbklaaGreat

/-
  Walks over the layer of rewrites: filters by their names (written by wip/gen/genrw1.py).
-/
import Derived.Test.YtpljnogmfeenkaaLawFD
import Derived.Test.YtpljnogmfeenkaaShelf3
import Derived.Test.YtpljnogmfeenkaaAddr8
namespace Go.Proofs.Ytpljnogmfeenkaa
open Go Go.RowKit Go.Sort

/-- A filter as it lies in a slice: its name, the value of its rules, the rules. -/
structure FiltV where
  nm : ByteArray
  v : Value
  L : List RuleV
instance : Inhabited FiltV := ⟨⟨ByteArray.empty, .slice none 0 0, []⟩⟩
def FiltV.enc (f : FiltV) : List Value := [.string f.nm, f.v]
theorem filt_len (f : FiltV) : f.enc.length = 2 := rfl
def fcells (L : List FiltV) : List Value := L.flatMap FiltV.enc
theorem fcell {L : List FiltV} {k i : Nat} {f : FiltV} {v : Value} (hr : L[k]? = some f) (hv : f.enc[i]? = some v) : (fcells L)[k * 2 + i]? = some v := flat_get FiltV.enc 2 filt_len L k i f v hr hv
/-- The filters of a slice, in a world. -/
def FsAt (W : World) (B : Nat) (v : Value) (Fs : List FiltV) : Prop :=
  Rd W B 2 v Fs.length (fcells Fs) ∧ ∀ f ∈ Fs, Rd W B 10 f.v f.L.length (rcells f.L) ∧ f.L.length * 64 ≤ 140737488355328
theorem FsAt.below {W W' : World} {B : Nat} {v : Value} {Fs : List FiltV} (h : FsAt W B v Fs) (hb : Below B W W') : FsAt W' B v Fs := ⟨h.1.below hb, fun f hf => ⟨(h.2 f hf).1.below hb, (h.2 f hf).2⟩⟩
theorem FsAt.mono {W : World} {B B' : Nat} {v : Value} {Fs : List FiltV} (h : FsAt W B v Fs) (hb : B ≤ B') : FsAt W B' v Fs := ⟨h.1.mono hb, fun f hf => ⟨(h.2 f hf).1.mono hb, (h.2 f hf).2⟩⟩
theorem FsAt.next {W W' : World} {v : Value} {Fs : List FiltV} (h : FsAt W W.heap.size v Fs) (hb : Below W.heap.size W W') : FsAt W' W'.heap.size v Fs := (h.below hb).mono hb.size

def hasNm (nm : ByteArray) (f : FiltV) : Bool := f.nm.toList == nm.toList
/-- The first filter of a name. -/
def fnd (Fs : List FiltV) (nm : ByteArray) : Option FiltV := if 0 ≤ idxP (hasNm nm) Fs then Fs[(idxP (hasNm nm) Fs).toNat]? else none
theorem fnd_hit {Fs : List FiltV} {nm : ByteArray} {k : Nat} {f : FiltV} (h : idxP (hasNm nm) Fs = k) (hk : Fs[k]? = some f) : fnd Fs nm = some f := by
  unfold fnd
  rw [h, if_pos (by omega), Int.toNat_natCast, hk]
theorem fnd_miss {Fs : List FiltV} {nm : ByteArray} (h : idxP (hasNm nm) Fs = -1) : fnd Fs nm = none := by
  unfold fnd
  rw [h, if_neg (by omega)]
def fndNm (Fs : List FiltV) (nm : ByteArray) : ByteArray := match fnd Fs nm with | some f => f.nm | none => ByteArray.empty
def fndL (Fs : List FiltV) (nm : ByteArray) : List RuleV := match fnd Fs nm with | some f => f.L | none => []
def fndB (Fs : List FiltV) (nm : ByteArray) : Bool := (fnd Fs nm).isSome

def NewAt (base n : Nat) (A : Option Addr) : Prop := 0 < n → ∃ b off, A = some ⟨b, off, none⟩ ∧ base ≤ b
theorem NewAt.mono {base base' n : Nat} {A : Option Addr} (h : NewAt base n A) (hb : base' ≤ base) : NewAt base' n A := fun hn => by
  obtain ⟨b, off, hA, h1⟩ := h hn
  exact ⟨b, off, hA, by omega⟩
/-- What a call that names a filter gives. -/
def NamedPost (nm : ByteArray) (L : List RuleV) (b : Bool) (w : World) (e : Ending) (w' : World) : Prop :=
  ∃ A c, e = .returned (.tuple #[.agg #[.string nm, .slice A L.length c], .bool b]) ∧ Rd w' w'.heap.size 10 (.slice A L.length c) L.length (rcells L) ∧ Below w.heap.size w w' ∧ NewAt w.heap.size L.length A

theorem Rd.far {w : World} {B k n c base : Nat} {A : Option Addr} {xs : List Value} (h : Rd w B k (.slice A n c) n xs) (hA : NewAt base n A) {p : Addr} (hp : p.block < base) (u : Value) : Rd (w.setCell p u) B k (.slice A n c) n xs := by
  obtain ⟨A', c', hv, hc, hl, hq⟩ := h
  injection hv with h1 _ h3
  subst h1 h3
  refine ⟨A, c, rfl, hc, hl, fun hn => ?_⟩
  obtain ⟨b, off, hA', hB, hcell⟩ := hq hn
  obtain ⟨b', off', hA2, hb⟩ := hA hn
  rw [hA'] at hA2
  injection hA2 with hA2
  injection hA2 with hA2 hA3
  exact ⟨b, off, hA', hB, fun j v hv => (World.cell?_of_block (w := w) (Below.heap_setCell w p u b (by omega))).trans (hcell j v hv)⟩
theorem old_at (w : World) (o : Obj) {k : Nat} (h : k < w.heap.size) : (w.alloc o).drew.heap[k]? = w.heap[k]? := Below.heap_alloc w o k h
def ClonePost (L : List RuleV) (w : World) (e : Ending) (w' : World) : Prop :=
  ∃ A c, e = .returned (.slice A L.length c) ∧ Rd w' w'.heap.size 10 (.slice A L.length c) L.length (rcells L) ∧ Below w.heap.size w w' ∧ NewAt w.heap.size L.length A
set_option maxRecDepth 100000 in
set_option maxHeartbeats 1000000 in
theorem cloneRule_any (L : List RuleV) (v : Value) (w : World) (h : Rd w w.heap.size 10 v L.length (rcells L)) (hbig : L.length * 64 ≤ 140737488355328) :
    Calls Try.prog 166 #[v] w fun e w' => ClonePost L w e w' := by
  obtain ⟨i0, hi, hz0, hz1, hz2⟩ := info_parts Try.infoRule
  rcases Nat.eq_zero_or_pos L.length with h0 | h0
  · obtain rfl : L = [] := List.eq_nil_of_length_eq_zero h0
    obtain ⟨A, c, rfl, hc⟩ := h.form
    rcases A with _ | ad
    · exact (AnyE.slices_Clone_nil Try.cloneRule _ c w).mono fun e w' ⟨he, hw⟩ => ⟨none, 0, he, ⟨none, 0, rfl, Nat.le_refl _, rfl, fun h => absurd h (by simp)⟩, by subst hw; exact Below.refl _ _, fun h => absurd h (by simp)⟩
    · clear h
      go_enter Try.func166, Try.ntmps166
      have q : ∀ w, (binOp .eql 32 (.slice (some ad) 0 c) (.slice none 0 0)).run Try.prog w = .ok (.bool false) w := fun w => Lib.run_eql_slice_nil w _ _ (some ad) 0 c 0 0 Try.underlying32
      go_wp2
      go_ret
      exact ⟨_, _, rfl, ⟨_, 0, rfl, Nat.le_refl _, rfl, fun h => absurd h (by simp)⟩, below1 w _, fun h => absurd h (by simp)⟩
  · obtain ⟨b, off, c, rfl, hc, hbB, hcell⟩ := h.pos h0
    have := AnyE.slices_Clone Try.cloneRule i0 _ 10 64 hi hz0 hz1 hz2 rfl (by decide) Try.sizeOf39 b off L.length c (rcells L) w (flat_len RuleV.enc 10 rule_len L) (by unfold maxLen; omega) hbig hcell (rcells_one L)
    refine this.mono fun e w' ⟨v', he, hown, _, hb⟩ => ?_
    obtain ⟨A, c', rfl, hA⟩ := owns_form hown
    refine ⟨A, c', he, Rd.of_own hown, hb, fun hn => ?_⟩
    obtain ⟨g, rfl⟩ := hA hn
    exact ⟨g, 0, rfl, (hown.lt g rfl).1⟩

theorem results_f {fn : Func} {tmps : Array Value} {w : World} {g : Nat} {a b e : Value} {t1 t3 : Nat} (hf : fn.results = #[.cell t1 34, .tmp t3]) (h1 : tmps.getD t1 undef = .pointer (some ⟨g, 0, none⟩)) (h3 : tmps.getD t3 undef = e)
    (k1 : w.heap[g]? = some (.cells #[a, b] 34 (0, 0))) :
    (results fn tmps).run Try.prog w = .ok (.tuple #[.agg #[a, b], e]) w := by
  obtain ⟨c0, c1, _, _⟩ := two_cells k1
  have h1' : tmps[t1]?.getD undef = .pointer (some ⟨g, 0, none⟩) := by simpa using h1
  have h3' : tmps[t3]?.getD undef = e := by simpa using h3
  simp [results, hf, h1', h3', go_sem, c0, c1]

set_option maxRecDepth 100000 in
set_option maxHeartbeats 1000000 in
theorem fnamed_any (Fs : List FiltV) (v : Value) (nm : ByteArray) (w : World) (h : FsAt w w.heap.size v Fs) (hlen : Fs.length ≤ 9223372036854775807) :
    Calls Try.prog 151 #[v, .string nm] w fun e w' => NamedPost (fndNm Fs nm) (fndL Fs nm) (fndB Fs nm) w e w' := by
  have HF := Lib.hid h
  obtain ⟨A, c, rfl, hc⟩ := h.1.form
  clear h
  go_enter Try.func151, Try.ntmps151
  go_wp2
  go_loopw [7, 10] (fun _ i wr => ∃ k : Nat, i = .int .i64 k ∧ k ≤ Fs.length ∧ Hid (∀ (j : Nat) (f : FiltV), j < k → Fs[j]? = some f → hasNm nm f = false) ∧ wr.heap[w.heap.size]? = some (.cells #[.string ByteArray.empty, .slice none 0 0] 34 (0, 0)) ∧ Below w.heap.size w wr) (fun _ i _ => Fs.length - (intOf i).toNat)
  case atStart => exact ⟨0, rfl, by omega, fun j r hj => absurd hj (by omega), blk1 w _, below1 w _⟩
  case round =>
    obtain ⟨k, rfl, hk, hno, hblk, hnx⟩ := hrel
    by_cases hlt : k < Fs.length
    · have hI : (k : Int) < (Fs.length : Int) := by omega
      obtain ⟨f, hf⟩ : ∃ f, Fs[k]? = some f := ⟨_, List.getElem?_eq_getElem hlt⟩
      obtain ⟨b, off, c', hv, _, hbB, hcell⟩ := HF.out.1.posAt (by omega)
      injection hv with hv1 _ hv3
      subst hv1 hv3
      have c0 : wr.cell? ⟨b, off + k * 2, none⟩ = some (.string f.nm) := (hnx.cell (p := ⟨b, off + k * 2, none⟩) hbB).trans (hcell k 0 _ (fcell hf rfl))
      have c1 : wr.cell? ⟨b, off + k * 2 + 1, none⟩ = some f.v := (hnx.cell (p := ⟨b, off + k * 2 + 1, none⟩) hbB).trans (hcell k 1 _ (fcell hf rfl))
      have l0 := lt_of_block hblk
      have HB := Lib.hid hblk
      have HC := Lib.hid hcell
      clear hcell hblk
      have hrd := (HF.out.2 f (List.mem_of_getElem? hf)).1
      obtain ⟨Ar, cr, hfv, hcr⟩ := hrd.form
      rw [hfv] at c1
      have hsz := hnx.size
      have HR : Hid (∀ W, Below w.heap.size w W → Rd W W.heap.size 10 (.slice Ar f.L.length cr) f.L.length (rcells f.L)) := fun W hb => by rw [← hfv]; exact (hrd.below hb).mono hb.size
      have hbig := (HF.out.2 f (List.mem_of_getElem? hf)).2
      clear hrd hfv
      by_cases hm : f.nm.toList = nm.toList
      · have hm1 : (f.nm.toList == nm.toList) = true := by simp [hm]
        have hI : Hid (idxP (hasNm nm) Fs = k) := idxP_hit _ Fs k f hf hm1 hno.out
        have hne1 : w.heap.size ≠ wr.heap.size := by omega
        have hne2 : wr.heap.size ≠ w.heap.size := by omega
        go_wp2
        go_region_held3 (fun w' => w'.cell? ⟨wr.heap.size, 0, none⟩ = some (.string f.nm) ∧ w'.cell? ⟨wr.heap.size, 1, none⟩ = some (.slice Ar f.L.length cr)) (first | exact ⟨g0, g1⟩ | exact ⟨far2 hne2 g0, far2 hne2 g1⟩ | go_keep)
          (first | (go_at_call 166; refine (cloneRule_any f.L _ _ (HR.out _ (by repeat (first | exact Below.refl _ _ | assumption | refine below_drew ?_ | refine Below.alloc ?_ (by first | omega | (simp; done) | (simp; omega)) _))) hbig).mono ?_; rintro e w1 ⟨A1, c1', rfl, hr1, hb1, hn1⟩; obtain ⟨g0, g1, _, _⟩ := two_cells (blk_below hb1 (new_at0 _ _)); have HK := Lib.hid (blk_below hb1 ((old_at _ _ l0).trans HB.out)); obtain ⟨k0, k1, k2, k3⟩ := two_cells HK.out; have HR1 := Lib.hid hr1; have HB1 := Lib.hid hb1; have HN1 := Lib.hid hn1; clear hr1 hb1 hn1))
        go_wp2
        refine bodyPost_ret (results_f (t1 := 4) (t3 := 5) (g := w.heap.size) Try.results151 rfl rfl (set_1 (set_0 HK.out))) rfl ?_
        have hlt1 : w.heap.size < (wr.alloc (.cells #[.string f.nm, .slice Ar f.L.length cr] 34)).drew.heap.size := by
          show _ < (wr.alloc _).heap.size
          simp; omega
        have hbel : Below w.heap.size w w1 := ((hnx.alloc hnx.size (.cells #[.string f.nm, .slice Ar f.L.length cr] 34)).drew).trans (HB1.out.mono (Nat.le_of_lt hlt1))
        unfold NamedPost fndNm fndL fndB
        rw [fnd_hit hI.out hf]
        exact ⟨A1, c1', rfl, ((HR1.out.far HN1.out hlt1 _).far HN1.out hlt1 _).mono (by simp [World.setCell]), (hbel.setCell (Nat.le_refl _) _).setCell (Nat.le_refl _) _, HN1.out.mono (Nat.le_of_lt hlt1)⟩
      · have hm1 : (f.nm.toList == nm.toList) = false := by simp [hm]
        go_wp2
        refine ⟨⟨k + 1, by go_num, by omega, fun j f' hj hf' => ?_, (Below.heap_alloc _ _ _ l0).trans HB.out, hnx.alloc hnx.size _⟩, by simp only [intOf]; omega⟩
        by_cases hjk : j = k
        · subst hjk
          rw [hf] at hf'
          injection hf' with hf'
          rw [← hf']; exact hm1
        · exact hno.out j f' (by omega) hf'
    · obtain ⟨k0, k1, k2, k3⟩ := two_cells hblk
      have HB := Lib.hid hblk
      clear hblk
      go_wp2
      have hE : k = Fs.length := by omega
      have hI : fnd Fs nm = none := fnd_miss (idxP_miss _ Fs (fun j f hj => hno.out j f (by have := (List.getElem?_eq_some_iff.1 hj).1; omega) hj))
      refine bodyPost_ret (results_f (t1 := 4) (t3 := 5) (g := w.heap.size) Try.results151 rfl rfl (set_1 (set_0 HB.out))) rfl ?_
      unfold NamedPost fndNm fndL fndB
      rw [hI]
      exact ⟨none, 0, rfl, ⟨none, 0, rfl, Nat.le_refl _, rfl, fun h => absurd h (by simp)⟩, (hnx.setCell (Nat.le_refl _) _).setCell (Nat.le_refl _) _, fun h => absurd h (by simp)⟩

end Go.Proofs.Ytpljnogmfeenkaa

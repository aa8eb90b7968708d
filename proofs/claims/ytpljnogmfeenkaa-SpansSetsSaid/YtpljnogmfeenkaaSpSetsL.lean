/-
  Lemmas for the walk of the law SpansSets: what its memory holds.
-/
import Derived.Test.YtpljnogmfeenkaaSpAsks
import Derived.Test.YtpljnogmfeenkaaSp14
import Derived.Test.YtpljnogmfeenkaaSpMath5
import Derived.Deep.CutBlock
namespace Go.Proofs.Ytpljnogmfeenkaa
open Go Go.RowKit Go.Lib Go.Sort

def sp77 : SpanV := ⟨7, 7, by omega, by omega⟩
theorem made_row (W : World) (n : Nat) (hn : W.heap.size = n) (base : Nat) (hb : base ≤ n) : (W.alloc (.cells #[] 37)).ownsRow base 37 2 (.slice (some ⟨n, 0, none⟩) 0 0) 0 [] := by
  subst hn
  exact World.ownsRow_made W #[] 0 hb (Nat.zero_le _) (by simp)
theorem src_of {w W : World} {B n c : Nat} {ad : Addr} {L : List SpanV} (h : Rd w B 2 (.slice (some ad) n c) n (scells L)) (hl : n = L.length) (hb : Below B w W) : ∀ (k : Nat) (u : Value), (scells L)[k]? = some u → W.cell? (ad.add k) = some u := by
  intro k u hu
  have hk := (List.getElem?_eq_some_iff.1 hu).1
  rw [scells_len] at hk
  obtain ⟨b2, o2, c2, hv, _, _, hcell⟩ := (h.below hb).pos (by omega)
  injection hv with hv _ _
  injection hv with hv
  subst hv
  have e : (⟨b2, o2, none⟩ : Addr).add k = ⟨b2, o2 + k, none⟩ := by simp [Addr.add]
  rw [e]; exact hcell k u hu
/-- What the law keeps in memory: its copy of the one list (7 behind it), its copy of the other. -/
def SSst (L M : List SpanV) (gi ci : Nat) (vo : Value) (w W : World) : Prop :=
  W.ownsRow w.heap.size 37 2 (.slice (some ⟨gi, 0, none⟩) (L.length + 1) ci) (L.length + 1) (scells (L ++ [sp77])) ∧ W.ownsRow w.heap.size 37 2 vo M.length (scells M) ∧ Below w.heap.size w W
theorem SSst.next {L M : List SpanV} {gi ci : Nat} {vo : Value} {w W W' : World} (h : SSst L M gi ci vo w W) (hb : Below W.heap.size W W') : SSst L M gi ci vo w W' :=
  ⟨owns_kept_none h.1 (only_of_below hb none), owns_kept_none h.2.1 (only_of_below hb none), h.2.2.trans (hb.mono h.2.2.size)⟩
theorem own_cut {W : World} {base gi ci n : Nat} {L : List SpanV} {s : SpanV} (h : W.ownsRow base 37 2 (.slice (some ⟨gi, 0, none⟩) (n + 1) ci) (n + 1) (scells (L ++ [s]))) (hn : n = L.length) : Rd W W.heap.size 2 (.slice (some ⟨gi, 0, none⟩) n ci) L.length (scells L) := by
  subst hn
  obtain ⟨cur, hh, hnc, _, _, ht, _⟩ := owns_block h
  refine ⟨_, ci, rfl, by omega, scells_len L, fun _ => ⟨gi, 0, rfl, lt_of_block hh, fun j u hu => ?_⟩⟩
  have hj := (List.getElem?_eq_some_iff.1 hu).1
  rw [scells_len] at hj
  rw [Nat.zero_add, h.cellAt j (by omega), scells_append, List.getElem?_append_left (by rw [scells_len]; exact hj)]
  exact hu
theorem own_room {W : World} {base gi ci n : Nat} {xs : List Value} (h : W.ownsRow base 37 2 (.slice (some ⟨gi, 0, none⟩) (n + 1) ci) (n + 1) xs) : n + 1 ≤ ci := by
  obtain ⟨cur, hh, hnc, _⟩ := owns_block h
  exact hnc

/-- Slices of spans, told by their values. -/
def SetRows (w : World) (B : Nat) (V : List Value) (R : List (List SpanV)) : Prop := V.length = R.length ∧ ∀ (j : Nat) (v : Value) (r : List SpanV), V[j]? = some v → R[j]? = some r → Rd w B 2 v r.length (scells r)
theorem SetRows.up {w w' : World} {V : List Value} {R : List (List SpanV)} (h : SetRows w w.heap.size V R) (hb : Below w.heap.size w w') : SetRows w' w'.heap.size V R :=
  ⟨h.1, fun j v r h1 h2 => ((h.2 j v r h1 h2).below hb).mono hb.size⟩
theorem rd_up {w w' : World} {k n : Nat} {v : Value} {xs : List Value} (h : Rd w w.heap.size k v n xs) (hb : Below w.heap.size w w') : Rd w' w'.heap.size k v n xs := (h.below hb).mono hb.size
theorem SetRows.five {w : World} {v1 v2 v3 v4 v5 : Value} {r1 r2 r3 r4 r5 : List SpanV} (h1 : Rd w w.heap.size 2 v1 r1.length (scells r1)) (h2 : Rd w w.heap.size 2 v2 r2.length (scells r2)) (h3 : Rd w w.heap.size 2 v3 r3.length (scells r3)) (h4 : Rd w w.heap.size 2 v4 r4.length (scells r4)) (h5 : Rd w w.heap.size 2 v5 r5.length (scells r5)) :
    SetRows w w.heap.size [v1, v2, v3, v4, v5] [r1, r2, r3, r4, r5] := by
  refine ⟨rfl, fun j v r hv hr => ?_⟩
  match j, hv, hr with
  | 0, hv, hr => injection hv with hv; injection hr with hr; subst hv hr; exact h1
  | 1, hv, hr => injection hv with hv; injection hr with hr; subst hv hr; exact h2
  | 2, hv, hr => injection hv with hv; injection hr with hr; subst hv hr; exact h3
  | 3, hv, hr => injection hv with hv; injection hr with hr; subst hv hr; exact h4
  | 4, hv, hr => injection hv with hv; injection hr with hr; subst hv hr; exact h5
  | n + 5, hv, hr => simp at hv
/-- A row of the call's own that reads as lists of slices kept. -/
def KeptAt (w : World) (k : Value) (R : List (List SpanV)) : Prop := ∃ V, Rd w w.heap.size 1 k 5 V ∧ SetRows w w.heap.size V R
theorem KeptAt.up {w w' : World} {k : Value} {R : List (List SpanV)} (h : KeptAt w k R) (hb : Below w.heap.size w w') : KeptAt w' k R := by
  obtain ⟨V, h1, h2⟩ := h
  exact ⟨V, rd_up h1 hb, h2.up hb⟩
theorem rd_cell {w : World} {B n c g : Nat} {V : List Value} (h : Rd w B 1 (.slice (some ⟨g, 0, none⟩) n c) n V) {j : Nat} {v : Value} (hv : V[j]? = some v) : w.cell? ⟨g, j, none⟩ = some v := by
  obtain ⟨A, c', he, _, hlen, hp⟩ := h
  have hj := (List.getElem?_eq_some_iff.1 hv).1
  obtain ⟨b, off, hA, _, hcell⟩ := hp (by omega)
  injection he with he _ _
  rw [hA] at he
  injection he with he
  injection he with h1 h2
  have := hcell j v hv
  rw [← h1, ← h2, Nat.zero_add] at this
  exact this
/-- Rows of the call's own, each in its own stretch of memory. -/
def OwnRows (w : World) (m : Nat → Nat) (V : List Value) (R : List (List SpanV)) : Prop := ∀ (j : Nat) (v : Value) (r : List SpanV), V[j]? = some v → R[j]? = some r → w.ownsRow (m j) 37 2 v r.length (scells r) ∧ ∀ g, v.ownBlock = some g → g < m (j + 1)
theorem own_up {a w w' : World} {v : Value} {r : List SpanV} (h : w.ownsRow a.heap.size 37 2 v r.length (scells r)) (hb : Below w.heap.size w w') : w'.ownsRow a.heap.size 37 2 v r.length (scells r) ∧ ∀ g, v.ownBlock = some g → g < w.heap.size :=
  ⟨owns_kept_none h (only_of_below hb none), fun g hg => (h.lt g hg).2⟩
def mm (a b c d e f : Nat) : Nat → Nat
  | 0 => a | 1 => b | 2 => c | 3 => d | 4 => e | _ => f
theorem mm_mono {a b c d e f : Nat} (h1 : a ≤ b) (h2 : b ≤ c) (h3 : c ≤ d) (h4 : d ≤ e) (h5 : e ≤ f) : (∀ i, mm a b c d e f i ≤ mm a b c d e f (i + 1)) ∧ ∀ i, mm a b c d e f i ≤ f := by
  refine ⟨fun i => ?_, fun i => ?_⟩
  · match i with
    | 0 => exact h1
    | 1 => exact h2
    | 2 => exact h3
    | 3 => exact h4
    | 4 => exact h5
    | n + 5 => exact Nat.le_refl _
  · match i with
    | 0 => show a ≤ f; omega
    | 1 => show b ≤ f; omega
    | 2 => show c ≤ f; omega
    | 3 => show d ≤ f; omega
    | 4 => exact h5
    | n + 5 => exact Nat.le_refl _
theorem OwnRows.five {w : World} {a b c d e f : Nat} {v1 v2 v3 v4 v5 : Value} {r1 r2 r3 r4 r5 : List SpanV}
    (h1 : w.ownsRow a 37 2 v1 r1.length (scells r1) ∧ ∀ g, v1.ownBlock = some g → g < b) (h2 : w.ownsRow b 37 2 v2 r2.length (scells r2) ∧ ∀ g, v2.ownBlock = some g → g < c) (h3 : w.ownsRow c 37 2 v3 r3.length (scells r3) ∧ ∀ g, v3.ownBlock = some g → g < d)
    (h4 : w.ownsRow d 37 2 v4 r4.length (scells r4) ∧ ∀ g, v4.ownBlock = some g → g < e) (h5 : w.ownsRow e 37 2 v5 r5.length (scells r5) ∧ ∀ g, v5.ownBlock = some g → g < f) :
    OwnRows w (mm a b c d e f) [v1, v2, v3, v4, v5] [r1, r2, r3, r4, r5] := by
  intro j v r hv hr
  match j, hv, hr with
  | 0, hv, hr => injection hv with hv; injection hr with hr; subst hv hr; exact h1
  | 1, hv, hr => injection hv with hv; injection hr with hr; subst hv hr; exact h2
  | 2, hv, hr => injection hv with hv; injection hr with hr; subst hv hr; exact h3
  | 3, hv, hr => injection hv with hv; injection hr with hr; subst hv hr; exact h4
  | 4, hv, hr => injection hv with hv; injection hr with hr; subst hv hr; exact h5
  | n + 5, hv, hr => simp at hv
theorem Try.infoSl : (Try.prog.info? 79).map (fun i => (i.zero, i.size, i.bytes)) = some (some (.slice none 0 0), 1, 24) := by kernel_rfl
noncomputable def rsOf (L M : List SpanV) (most : Int) : List (List SpanV) := [formOf L, theSet (orP L M), theSet (andP L M), theSet (lessP' L M), theSet (notP most L)]
theorem rsOf_len {L M : List SpanV} {most : Int} (hm : 0 ≤ most ∧ most < 4294967296) (h1 : L.length ≤ 200) (h2 : M.length ≤ 200) : ∀ (j : Nat) (R : List SpanV), (rsOf L M most)[j]? = some R → R.length ≤ 50000 := by
  intro j R hR
  have a1 := formOf_len L
  have a2 := or_len L M
  have a3 : (theSet (andP L M)).length ≤ 200 * 200 := Nat.le_trans (and_len L M) (Nat.mul_le_mul h1 h2)
  have a4 : (theSet (lessP' L M)).length ≤ 200 * 201 := Nat.le_trans (less_len L M) (Nat.mul_le_mul h1 (by omega))
  have a5 := notS_len hm L
  match j, hR with
  | 0, hR => injection hR with hR; subst hR; omega
  | 1, hR => injection hR with hR; subst hR; omega
  | 2, hR => injection hR with hR; subst hR; omega
  | 3, hR => injection hR with hR; subst hR; omega
  | 4, hR => injection hR with hR; subst hR; omega
  | n + 5, hR => simp [rsOf] at hR

theorem own_seg {WG wr : World} {m m' lo hi n : Nat} {v : Value} {xs : List Value} (h : WG.ownsRow m 37 2 v n xs) (hlt : ∀ g, v.ownBlock = some g → g < m') (hm' : m' ≤ hi) (hs : Seg lo hi WG wr) (hlo : lo ≤ m) : wr.ownsRow m 37 2 v n xs := by
  obtain ⟨hl, h2⟩ := h
  rcases h2 with h2 | ⟨g, cap, cur, rfl, hg, hh, r⟩
  · exact ⟨hl, .inl h2⟩
  · have := hlt g rfl
    exact ⟨hl, .inr ⟨g, cap, cur, rfl, hg, (hs g (by omega) (by omega)).trans hh, r⟩⟩
theorem Seg.less {lo lo' hi hi' : Nat} {a w : World} (h : Seg lo hi a w) (h1 : lo ≤ lo') (h2 : hi' ≤ hi) : Seg lo' hi' a w := fun b b1 b2 => h b (by omega) (by omega)
theorem Seg.trans {lo hi : Nat} {a b c : World} (h : Seg lo hi a b) (k : Seg lo hi b c) : Seg lo hi a c := fun x x1 x2 => (k x x1 x2).trans (h x x1 x2)
/-- In the second round, ahead of the j-th answer: it and those behind it are as they were handed back. -/
def GotSt (WG : World) (VG : List Value) (gb : Nat) (mf : Nat → Nat) (j : Nat) (wx : World) : Prop :=
  (∃ cs : List Value, wx.heap[gb]? = some (.cells cs.toArray 79 (0, 0)) ∧ cs.length = 5 ∧ ∀ i, j ≤ i → cs[i]? = VG[i]?) ∧ Seg (mf j) gb WG wx ∧ Below (mf 0) WG wx ∧ gb < wx.heap.size
theorem GotSt.up {WG : World} {VG : List Value} {gb : Nat} {mf : Nat → Nat} {j : Nat} {wx w' : World} (h : GotSt WG VG gb mf j wx) (hm : mf 0 ≤ wx.heap.size) (hb : Below wx.heap.size wx w') : GotSt WG VG gb mf j w' := by
  obtain ⟨⟨cs, h1, h2, h3⟩, h4, h5, h6⟩ := h
  exact ⟨⟨cs, blk_below hb h1, h2, h3⟩, h4.below hb (by omega), h5.trans (hb.mono hm), by have := hb.size; omega⟩
def L3 (W1 : World) (mj mj1 gb : Nat) (cs : List Value) (v : Value) (n : Nat) (wx : World) : Prop :=
  (∃ xs, wx.ownsRow mj 37 2 v n xs) ∧ wx.heap[gb]? = some (.cells cs.toArray 79 (0, 0)) ∧ Seg mj1 gb W1 wx ∧ Below mj W1 wx
theorem L3.step {W1 wx : World} {mj mj1 gb g n c i : Nat} {cs : List Value} {u : Value} (h : L3 W1 mj mj1 gb cs (.slice (some ⟨g, 0, none⟩) n c) n wx) (h1 : mj ≤ g) (h2 : g < mj1) (h3 : mj1 ≤ gb) : L3 W1 mj mj1 gb cs (.slice (some ⟨g, 0, none⟩) n c) n (wx.setCell ⟨g, i, none⟩ u) := by
  obtain ⟨⟨xs, ho⟩, hg, hs, hb⟩ := h
  refine ⟨⟨_, (ho.stored i u).1⟩, set_far hg (by show gb ≠ g; omega), fun b b1 b2 => (Below.heap_setCell wx ⟨g, i, none⟩ u b (by show b ≠ g; omega)).trans (hs b b1 b2), hb.setCell (p := ⟨g, i, none⟩) h1 _⟩
def L4 (W1 : World) (mj mj1 gb j : Nat) (cs0 : List Value) (v : Value) (n : Nat) (wx : World) : Prop :=
  (∃ xs, wx.ownsRow mj 37 2 v n xs) ∧ Off v mj1 (gb + 1) ∧ (∃ cs : List Value, wx.heap[gb]? = some (.cells cs.toArray 79 (0, 0)) ∧ cs.length = 5 ∧ cs[j]? = some v ∧ ∀ i, j < i → cs[i]? = cs0[i]?) ∧ Seg mj1 gb W1 wx ∧ Below mj W1 wx ∧ gb < wx.heap.size
theorem L4.step {W1 wx w3 : World} {mj mj1 gb j n : Nat} {cs0 : List Value} {v v' : Value} {ys : List Value} (h : L4 W1 mj mj1 gb j cs0 v n wx) (hj : j < 5) (hm : mj ≤ gb) (hm2 : mj1 ≤ gb) (hmw : mj ≤ W1.heap.size)
    (ho : w3.ownsRow mj 37 2 v' (n + 1) ys) (hgr : wx.grownBy w3 v.ownBlock) (hmv : Moved v v' wx.heap.size) : L4 W1 mj mj1 gb j cs0 v' (n + 1) (w3.setCell ⟨gb, j, none⟩ v') := by
  obtain ⟨⟨xs, ho1⟩, hoff, ⟨cs, hg, hl, hcj, hci⟩, hs, hb, hlt⟩ := h
  have hoff' : Off v' mj1 (gb + 1) := hoff.moved hmv (by omega)
  have hg3 : w3.heap[gb]? = some (.cells cs.toArray 79 (0, 0)) := by
    rw [hgr.block gb hlt (fun hh => by rcases hoff gb hh.symm with h | h <;> omega)]
    exact hg
  have hne : ∀ g, v'.ownBlock = some g → g ≠ gb := fun g hg2 => by rcases hoff' g hg2 with h | h <;> omega
  have hs3 : Seg mj1 gb W1 w3 := hs.grown hgr (fun g hg2 => by rcases hoff g hg2 with h | h <;> omega) (by omega)
  have hb3 : Below mj W1 w3 := below_row hb ho1 hgr (by have := hb.size; omega) (Nat.le_refl _)
  have hlt3 : gb < w3.heap.size := by have := hgr.size; omega
  refine ⟨⟨ys, ho.kept (row := some gb) ⟨rfl, rfl, rfl, by simp [World.setCell], fun k _ hk => Below.heap_setCell w3 ⟨gb, j, none⟩ v' k (fun e => hk (by rw [e]))⟩ ?_⟩, hoff', ⟨cs.set j v', ?_, by simpa using hl, by simp [hl, hj], fun i hi => ?_⟩, fun b b1 b2 => (Below.heap_setCell w3 ⟨gb, j, none⟩ v' b (by show b ≠ gb; omega)).trans (hs3 b b1 b2), hb3.setCell (p := ⟨gb, j, none⟩) hm _, by simpa [World.setCell] using hlt3⟩
  · cases hv : v'.ownBlock with
    | none => exact .inl rfl
    | some g => exact .inr (fun hh => by injection hh with hh; exact hne g hv hh)
  · rw [set_at hg3]; simp
  · rw [List.getElem?_set_ne (by omega)]; exact hci i hi

theorem mf_le {mf : Nat → Nat} (h : ∀ i, mf i ≤ mf (i + 1)) : ∀ j, mf 0 ≤ mf j
  | 0 => Nat.le_refl _
  | j + 1 => Nat.le_trans (mf_le h j) (h j)

end Go.Proofs.Ytpljnogmfeenkaa

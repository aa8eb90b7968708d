/-
  Joined texts: Bm2, Bm3, Bm4, Bm5, Bm6, Wid, Dfs, Wb1, Wb2.
-/
import Derived.Test.YthhcaoljejifeaaGreatMLintRewrites1
import Derived.WalkLawsBesides
import Derived.Deep.CutBlock
import Derived.Carry
/-
  The walks of the arena's cut and ite.
-/
namespace Go.Proofs.YthhcaoljejifeaaGreat
open Go Go.RowKit Go.ChangeMaps Go.MapKept Go.Maps Go.Lib Go.Sort

theorem ArNv.at_node {w : World} {B : Nat} {A : Blks} {V Mo : Nat} {N : List Nd} {H G : List Nat} {nv : Value} (h : ArNv w B A V Mo N H G nv) : ∃ g cp, nv = .slice (some ⟨g, 0, none⟩) N.length cp ∧
    ∀ i, i < N.length → w.cell? ⟨g, i * 3, none⟩ = some (.int .i32 (nd N i).v) ∧ w.cell? ⟨g, i * 3 + 1, none⟩ = some (.int .i32 (nd N i).lo) ∧ w.cell? ⟨g, i * 3 + 2, none⟩ = some (.int .i32 (nd N i).hi) := by
  obtain ⟨A3, cp, rfl, hA3⟩ := owns_form h.row
  have := h.wf.two
  obtain ⟨g, rfl⟩ := hA3 (by omega)
  refine ⟨g, cp, rfl, fun i hi => ⟨?_, ?_, ?_⟩⟩
  · exact (h.row.cellAt (i * 3) (by omega)).trans (ncells_at (j := 0) hi rfl)
  · exact (h.row.cellAt (i * 3 + 1) (by omega)).trans (ncells_at (j := 1) hi rfl)
  · exact (h.row.cellAt (i * 3 + 2) (by omega)).trans (ncells_at (j := 2) hi rfl)
set_option maxRecDepth 100000 in
set_option maxHeartbeats 4000000 in
theorem ncut_any {w : World} {B : Nat} {A : Blks} {V Mo : Nat} {N : List Nd} {H G : List Nat} (f v : Nat) (b : Bool) (h : ArAt w B A V Mo N H G) (hf : f < N.length) :
    Calls Tryz.prog 68 #[A.val, .int .i32 f, .int .i32 v, .bool b] w fun e w' => e = .returned (.int .i32 (cutN N f v b)) ∧ Below w.heap.size w w' := by
  obtain ⟨nv, hA⟩ := h
  have hle := hA.le
  obtain ⟨g, cp, rfl, hat⟩ := hA.at_node
  obtain ⟨x0, x1, x2⟩ := hat f hf
  have c2 : w.cell? ⟨A.a, 2, none⟩ = some (.slice (some ⟨g, 0, none⟩) N.length cp) := hA.cellAt rfl
  have hI : (f : Int) < (N.length : Int) := by omega
  have hc : cutN N f v b = if (nd N f).v ≠ v then f else if b then (nd N f).hi else (nd N f).lo := rfl
  rw [hc]
  clear hA hat hc
  generalize nd N f = x at *
  unfold Blks.val
  by_cases hx : x.v = v
  · have h1 : ((x.v : Int) != (v : Int)) = false := by simp [hx]
    rw [if_neg (fun hn => hn hx)]
    clear hx
    cases b with
    | true =>
      rw [if_pos rfl]
      go_enter Tryz.func68, Tryz.ntmps68
      go_wp2
      go_ret
      exact ⟨rfl, below1 _ _⟩
    | false =>
      rw [if_neg (by simp)]
      go_enter Tryz.func68, Tryz.ntmps68
      go_wp2
      go_ret
      exact ⟨rfl, below1 _ _⟩
  · have h1 : ((x.v : Int) != (v : Int)) = true := by simp; omega
    rw [if_pos hx]
    clear hx
    go_enter Tryz.func68, Tryz.ntmps68
    go_wp2
    go_ret
    exact ⟨rfl, below1 _ _⟩
/-- What ite comes to. -/
def IteRes (w : World) (B : Nat) (A : Blks) (V Mo : Nat) (N : List Nd) (H G : List Nat) (f g h : Nat) (e : Ending) (w' : World) : Prop :=
  ∃ (r : Nat) (N' : List Nd), e = .returned (.int .i32 r) ∧ IteTo N f g h r N' ∧ ArAt w' B A V Mo N' H G ∧ Kept A w w'
/-- A box of a call's own, none of the arena's blocks. -/
def BoxAt (A : Blks) (w : World) (k : Nat) (u : Value) (t : TypeId) : Prop := w.heap[k]? = some (.cells #[u] t (0, 0)) ∧ Foreign A w k
theorem BoxAt.kept {A : Blks} {w w' : World} {k : Nat} {u : Value} {t : TypeId} (h : BoxAt A w k u t) (hk : Kept A w w') : BoxAt A w' k u t := ⟨(hk.same k h.2).1.trans h.1, (hk.same k h.2).2⟩
theorem BoxAt.cell {A : Blks} {w : World} {k : Nat} {u : Value} {t : TypeId} (h : BoxAt A w k u t) : w.cell? ⟨k, 0, none⟩ = some u := by
  rw [cell_of_row w _ 0 _ _ (0, 0) h.1]; rfl
theorem ArAt.a_lt {w : World} {B : Nat} {A : Blks} {V Mo : Nat} {N : List Nd} {H G : List Nat} (h : ArAt w B A V Mo N H G) : A.a < w.heap.size := by
  obtain ⟨nv, h⟩ := h
  exact lt_of_block h.cells
/-- The part that ite asks for twice. -/
def PartArgs (b : Bool) (ba bf bv bg bh : Nat) : Array Value := #[.bool b, .pointer (some ⟨ba, 0, none⟩), .pointer (some ⟨bf, 0, none⟩), .pointer (some ⟨bv, 0, none⟩), .pointer (some ⟨bg, 0, none⟩), .pointer (some ⟨bh, 0, none⟩)]
set_option maxRecDepth 100000 in
set_option maxHeartbeats 4000000 in
theorem part_any {n : Nat} (ih : ∀ (w : World) (B : Nat) (A : Blks) (V Mo : Nat) (N : List Nd) (H G : List Nat) (f g h : Nat), f + g + h ≤ n → ArAt w B A V Mo N H G → f < N.length → g < N.length → h < N.length → Cap N f g h →
      Calls Tryz.prog 52 #[A.val, .int .i32 f, .int .i32 g, .int .i32 h] w (IteRes w B A V Mo N H G f g h))
    {w : World} {B : Nat} {A : Blks} {V Mo : Nat} {N : List Nd} {H G : List Nat} (f g h v : Nat) (b : Bool) (ba bf bv bg bh : Nat) (hA : ArAt w B A V Mo N H G) (hf : f < N.length) (hg : g < N.length) (hh : h < N.length) (hv : v < 256)
    (hn : cutN N f v b + cutN N g v b + cutN N h v b ≤ n) (hc : Cap N (cutN N f v b) (cutN N g v b) (cutN N h v b))
    (ka : BoxAt A w ba A.val 96) (kf : BoxAt A w bf (.int .i32 f) 21) (kv : BoxAt A w bv (.int .i32 v) 21) (kg : BoxAt A w bg (.int .i32 g) 21) (kh : BoxAt A w bh (.int .i32 h) 21) :
    Calls Tryz.prog 67 (PartArgs b ba bf bv bg bh) w (IteRes w B A V Mo N H G (cutN N f v b) (cutN N g v b) (cutN N h v b)) := by
  obtain ⟨nv, hnv⟩ := id hA
  have hwf := hnv.wf
  have lf := cutN_lt hwf b hf hv
  have lg := cutN_lt hwf b hg hv
  have lh := cutN_lt hwf b hh hv
  have hcut : ∀ W, Below w.heap.size w W → ∀ x, x < N.length → Calls Tryz.prog 68 #[A.val, .int .i32 x, .int .i32 v, .bool b] W fun e w' => e = .returned (.int .i32 (cutN N x v b)) ∧ Below W.heap.size W w' := fun W hW x hx => ncut_any x v b (hA.below hW) hx
  have hite : ∀ W, Below w.heap.size w W → Calls Tryz.prog 52 #[A.val, .int .i32 (cutN N f v b), .int .i32 (cutN N g v b), .int .i32 (cutN N h v b)] W (IteRes W B A V Mo N H G (cutN N f v b) (cutN N g v b) (cutN N h v b)) := fun W hW => ih W B A V Mo N H G _ _ _ hn (hA.below hW) lf lg lh hc
  have HF := Lib.hid (fun W hW => hcut W hW f hf)
  have HG := Lib.hid (fun W hW => hcut W hW g hg)
  have HH := Lib.hid (fun W hW => hcut W hW h hh)
  have HI := Lib.hid hite
  have ha := hA.a_lt
  have c0 := ka.cell
  have c1 := kf.cell
  have c2 := kv.cell
  have c3 := kg.cell
  have c4 := kh.cell
  clear ih hcut hite hnv hwf hc hn hA ka kf kv kg kh
  unfold Blks.val at HF HG HH HI c0
  generalize cutN N f v b = f' at *
  generalize cutN N g v b = g' at *
  generalize cutN N h v b = h' at *
  have F0 := cell_regrown c0
  have F1 := cell_regrown c1
  have F2 := cell_regrown c2
  have F3 := cell_regrown c3
  have F4 := cell_regrown c4
  unfold PartArgs
  go_enter Tryz.func67, Tryz.ntmps67
  go_wp2
  refine wp_region_tail_below 16 (by kernel_rfl) (by kernel_rfl) ?_
  simp only [List.take_succ_cons, List.take_zero, List.drop_succ_cons, List.drop_zero]
  repeat (first | go_big_quiet_step ((go_at_call 68; first | (with_reducible exact Calls.regrown_of (HF.out _ (below_regrown w _ _))) | (with_reducible exact Calls.regrown_of (HG.out _ (below_regrown w _ _))) | (with_reducible exact Calls.regrown_of (HH.out _ (below_regrown w _ _))))) | quiet_step ((go_at_call 68; first | (with_reducible exact Calls.regrown_of (HF.out _ (below_regrown w _ _))) | (with_reducible exact Calls.regrown_of (HG.out _ (below_regrown w _ _))) | (with_reducible exact Calls.regrown_of (HH.out _ (below_regrown w _ _))))))
  refine wpQuiet_nil ?_
  intro W3 hw'
  obtain ⟨⟨nq, osq⟩, hw''⟩ := hw'
  subst hw''
  have hq := below_regrown w nq osq
  have HQ := Lib.hid hq
  clear hq F0 F1 F2 F3 F4 c0 c1 c2 c3 c4 HF HG HH
  generalize grow (redrawn w nq) osq = W3 at *
  go_wp2_with fail
  refine (HI.out W3 HQ.out).mono ?_
  rintro e w2 ⟨r, N', rfl, hto, hA2, hk⟩
  have HTO := Lib.hid hto
  have HA2 := Lib.hid hA2
  have HK := Lib.hid ((Kept.of_below (A := A) ha HQ.out).trans hk)
  clear hto hA2 hk
  go_wp2
  go_ret
  exact ⟨r, N', rfl, HTO.out, HA2.out, HK.out⟩
end Go.Proofs.YthhcaoljejifeaaGreat

/-
  The walk of the arena's ite.
-/
namespace Go.Proofs.YthhcaoljejifeaaGreat
open Go Go.RowKit Go.ChangeMaps Go.MapKept Go.Maps Go.Lib Go.Sort

/-- A block laid since is none of the arena's. -/
theorem ArAt.foreign_new {w W : World} {B : Nat} {A : Blks} {V Mo : Nat} {N : List Nd} {H G : List Nat} (h : ArAt w B A V Mo N H G) (hb : Below w.heap.size w W) {k : Nat} (h1 : w.heap.size ≤ k) (h2 : k < W.heap.size) : Foreign A W k := by
  obtain ⟨nv, hA⟩ := h
  obtain ⟨lb, hlb, _⟩ := hA.by_
  obtain ⟨li, hli, _⟩ := hA.ites
  refine ⟨h2, fun hm => ?_, fun u hu => ?_⟩
  · have hm' : k = A.a ∨ k = A.b ∨ k = A.i ∨ k = A.g ∨ k = A.h := by simpa [Blks.list] using hm
    have := lt_of_block hA.cells
    have := hlb.lt
    have := hli.lt
    have := hA.given.lt
    have := hA.held.lt
    omega
  · rw [(hA.below hb).cell2] at hu
    injection hu with hu
    subst hu
    intro hh
    have := (hA.row.lt _ hh).2
    omega
/-- An answer more among those that are kept. -/
theorem ArNv.memo {w w' : World} {B : Nat} {A : Blks} {V Mo : Nat} {N : List Nd} {H G : List Nat} {nv : Value} (h : ArNv w B A V Mo N H G nv) {l : List (Value × Value)} (hm : MapAt Tryz.prog 140 w' A.i l) (ho : MemoOk N l) (hg : w.grownBy w' (some A.i)) :
    ArNv w' B A V Mo N H G nv ∧ Kept A w w' := by
  obtain ⟨n1, n2, n3, n4, n5, n6, n7, n8, n9, n10⟩ := Blks.ne h.nodup
  obtain ⟨lb, hlb, hbo⟩ := h.by_
  have ha := lt_of_block h.cells
  have s : ∀ k, k < w.heap.size → k ≠ A.i → w'.heap[k]? = w.heap[k]? := fun k hk hki => hg.block k hk (fun e => hki (by injection e))
  refine ⟨⟨(s A.a ha n2).trans h.cells, owns_like h.row fun k hk => s k (h.row.lt k hk).2 fun e => h.off A.i (by simp [Blks.list]) (by rw [hk, e]), ⟨lb, hlb.same (s A.b hlb.lt n5), hbo⟩, ⟨l, hm, ho⟩,
    h.given.same (s A.g h.given.lt n8.symm), h.held.same (s A.h h.held.lt n9.symm), h.nodup, h.base, h.off, h.wf, h.le⟩, Kept.of_map (k := A.i) (by simp [Blks.list]) n2.symm ha hg⟩
theorem MemoOk.put {N : List Nd} {l : List (Value × Value)} (h : MemoOk N l) (hn : (l.map (·.1)).Nodup) {f g k r : Nat} (hf : f < N.length) (hg : g < N.length) (hk : k < N.length) (hr : r < N.length)
    (he : ∀ s, ev N s r = if ev N s f then ev N s g else ev N s k) : MemoOk N (putM l (triV f g k) (.int .i32 r)) := by
  intro f' g' k' u hu
  by_cases hx : triV f' g' k' = triV f g k
  · obtain ⟨rfl, rfl, rfl⟩ := triV_inj hx
    rw [getM_put_same _ _ _ hn] at hu
    injection hu with hu
    exact ⟨r, hu.symm, hf, hg, hk, hr, he⟩
  · rw [getM_put_other _ _ _ hx] at hu
    exact h f' g' k' u hu
theorem below4 (w : World) (O1 O2 O3 O4 : Obj) : Below w.heap.size w ((((w.alloc O1).alloc O2).alloc O3).alloc O4) := (below3 w O1 O2 O3).alloc (by simp; omega) _
/-- The ends that ite sees at once. -/
def IteEnd (f g h : Nat) : Prop := f = 1 ∨ g = h ∨ f = 0 ∨ g = 1 ∧ h = 0
set_option maxRecDepth 100000 in
set_option maxHeartbeats 4000000 in
theorem ite_end {w : World} {B : Nat} {A : Blks} {V Mo : Nat} {N : List Nd} {H G : List Nat} (f g h : Nat) (hA : ArAt w B A V Mo N H G) (hf : f < N.length) (hg : g < N.length) (hh : h < N.length) (he : IteEnd f g h) :
    Calls Tryz.prog 52 #[A.val, .int .i32 f, .int .i32 g, .int .i32 h] w (IteRes w B A V Mo N H G f g h) := by
  have hb := below4 w (.cells #[.pointer (some ⟨A.a, 0, none⟩)] 96) (.cells #[.int .i32 f] 21) (.cells #[.int .i32 g] 21) (.cells #[.int .i32 h] 21)
  have hwf : WF N := by obtain ⟨nv, h⟩ := hA; exact h.wf
  have hA2 := hA.below hb
  have hk := Kept.of_below (A := A) hA.a_lt hb
  have fin : ∀ r, IteTo N f g h r N → IteRes w B A V Mo N H G f g h (.returned (.int .i32 r)) ((((w.alloc (.cells #[.pointer (some ⟨A.a, 0, none⟩)] 96)).alloc (.cells #[.int .i32 f] 21)).alloc (.cells #[.int .i32 g] 21)).alloc (.cells #[.int .i32 h] 21)) :=
    fun r hr => ⟨r, N, rfl, hr, hA2, hk⟩
  have FIN := Lib.hid fin
  clear fin hA2 hk hb hA
  unfold Blks.val
  by_cases h1 : f = 1
  · subst h1
    have b1 : (((1 : Nat) : Int) == 1) = true := rfl
    have HT := Lib.hid (IteTo.of_one (h := h) hwf hg)
    clear he
    go_enter Tryz.func52, Tryz.ntmps52
    go_wp2
    go_ret
    exact FIN.out g HT.out
  · have b1 : ((f : Int) == 1) = false := by simp; omega
    by_cases h2 : g = h
    · subst h2
      have b2 : ((g : Int) == (g : Int)) = true := by simp
      have HT := Lib.hid (IteTo.of_same (f := f) hwf hg)
      clear he h1
      go_enter Tryz.func52, Tryz.ntmps52
      go_wp2
      go_ret
      exact FIN.out g HT.out
    · have b2 : ((g : Int) == (h : Int)) = false := by simp; omega
      by_cases h3 : f = 0
      · subst h3
        have b3 : (((0 : Nat) : Int) == 0) = true := rfl
        have HT := Lib.hid (IteTo.of_zero (g := g) hwf hh)
        clear he h1 h2
        go_enter Tryz.func52, Tryz.ntmps52
        go_wp2
        go_ret
        exact FIN.out h HT.out
      · have b3 : ((f : Int) == 0) = false := by simp; omega
        obtain ⟨rfl, rfl⟩ : g = 1 ∧ h = 0 := by
          rcases he with he | he | he | he
          · exact absurd he h1
          · exact absurd he h2
          · exact absurd he h3
          · exact he
        have HT := Lib.hid (IteTo.of_self hwf hf)
        clear he h1 h2 h3
        go_enter Tryz.func52, Tryz.ntmps52
        go_wp2
        go_ret
        exact FIN.out f HT.out
end Go.Proofs.YthhcaoljejifeaaGreat

/-
  The walk of the arena's ite: the step.
-/
namespace Go.Proofs.YthhcaoljejifeaaGreat
open Go Go.RowKit Go.ChangeMaps Go.MapKept Go.Maps Go.Lib Go.Sort

theorem blk5 (w : World) (O1 O2 O3 O4 O5 : Obj) : (((((w.alloc O1).alloc O2).alloc O3).alloc O4).alloc O5).heap[w.heap.size]? = some O1 ∧ (((((w.alloc O1).alloc O2).alloc O3).alloc O4).alloc O5).heap[w.heap.size + 1]? = some O2 ∧
    (((((w.alloc O1).alloc O2).alloc O3).alloc O4).alloc O5).heap[w.heap.size + 2]? = some O3 ∧ (((((w.alloc O1).alloc O2).alloc O3).alloc O4).alloc O5).heap[w.heap.size + 3]? = some O4 ∧ (((((w.alloc O1).alloc O2).alloc O3).alloc O4).alloc O5).heap[w.heap.size + 4]? = some O5 ∧
    (((((w.alloc O1).alloc O2).alloc O3).alloc O4).alloc O5).heap.size = w.heap.size + 5 := by
  have s1 : (w.alloc O1).heap.size = w.heap.size + 1 := by simp
  have s2 : ((w.alloc O1).alloc O2).heap.size = w.heap.size + 2 := by simp
  have s3 : (((w.alloc O1).alloc O2).alloc O3).heap.size = w.heap.size + 3 := by simp
  have s4 : ((((w.alloc O1).alloc O2).alloc O3).alloc O4).heap.size = w.heap.size + 4 := by simp
  have a1 := blk1 w O1
  have a2 := blk1 (w.alloc O1) O2
  have a3 := blk1 ((w.alloc O1).alloc O2) O3
  have a4 := blk1 (((w.alloc O1).alloc O2).alloc O3) O4
  have a5 := blk1 ((((w.alloc O1).alloc O2).alloc O3).alloc O4) O5
  rw [s1] at a2
  rw [s2] at a3
  rw [s3] at a4
  rw [s4] at a5
  have b5 := below1 ((((w.alloc O1).alloc O2).alloc O3).alloc O4) O5
  have b4 := below1 (((w.alloc O1).alloc O2).alloc O3) O4
  have b3 := below1 ((w.alloc O1).alloc O2) O3
  have b2 := below1 (w.alloc O1) O2
  exact ⟨blk_below b5 (blk_below b4 (blk_below b3 (blk_below b2 a1))), blk_below b5 (blk_below b4 (blk_below b3 a2)), blk_below b5 (blk_below b4 a3), blk_below b5 a4, a5, by simp⟩
/-- The arena at ite's frame. -/
structure IteFr (w : World) (A : Blks) (W : World) (f g h : Nat) : Prop where
  ba : BoxAt A W w.heap.size (.pointer (some ⟨A.a, 0, none⟩)) 96
  bf : BoxAt A W (w.heap.size + 1) (.int .i32 f) 21
  bg : BoxAt A W (w.heap.size + 2) (.int .i32 g) 21
  bh : BoxAt A W (w.heap.size + 3) (.int .i32 h) 21
  key : W.heap[w.heap.size + 4]? = some (.cells #[.int .i32 f, .int .i32 g, .int .i32 h] 140 (0, 0)) ∧ Foreign A W (w.heap.size + 4)
  kept : Kept A w W
theorem IteFr.step {w W W' : World} {A : Blks} {f g h : Nat} (i : IteFr w A W f g h) (hk : Kept A W W') : IteFr w A W' f g h :=
  ⟨i.ba.kept hk, i.bf.kept hk, i.bg.kept hk, i.bh.kept hk, ⟨(hk.same _ i.key.2).1.trans i.key.1, (hk.same _ i.key.2).2⟩, i.kept.trans hk⟩
theorem IteFr.k {w W : World} {A : Blks} {f g h : Nat} (i : IteFr w A W f g h) : W.cell? ⟨w.heap.size + 4, 0, none⟩ = some (.int .i32 f) ∧ W.cell? ⟨w.heap.size + 4, 1, none⟩ = some (.int .i32 g) ∧ W.cell? ⟨w.heap.size + 4, 2, none⟩ = some (.int .i32 h) :=
  ⟨by rw [cell_of_row W _ 0 _ _ (0, 0) i.key.1]; rfl, by rw [cell_of_row W _ 1 _ _ (0, 0) i.key.1]; rfl, by rw [cell_of_row W _ 2 _ _ (0, 0) i.key.1]; rfl⟩
theorem cutN_ext {N N' : List Nd} (e : Ext N N') {x : Nat} (hx : x < N.length) (v : Nat) (b : Bool) : cutN N' x v b = cutN N x v b := by
  unfold cutN
  rw [e.nd hx]
/-- What part comes to at ite's frame. -/
def PartRes (w : World) (B : Nat) (A : Blks) (V Mo : Nat) (N : List Nd) (H G : List Nat) (f g h bv f' g' h' v : Nat) (e : Ending) (w' : World) : Prop :=
  ∃ (r : Nat) (N' : List Nd), e = .returned (.int .i32 r) ∧ IteTo N f' g' h' r N' ∧ ArAt w' B A V Mo N' H G ∧ IteFr w A w' f g h ∧ BoxAt A w' bv (.int .i32 v) 21
set_option maxRecDepth 100000 in
set_option maxHeartbeats 8000000 in
theorem ite_walk {n : Nat} (ih : ∀ (w : World) (B : Nat) (A : Blks) (V Mo : Nat) (N : List Nd) (H G : List Nat) (f g h : Nat), f + g + h ≤ n → ArAt w B A V Mo N H G → f < N.length → g < N.length → h < N.length → Cap N f g h →
      Calls Tryz.prog 52 #[A.val, .int .i32 f, .int .i32 g, .int .i32 h] w (IteRes w B A V Mo N H G f g h))
    {w : World} {B : Nat} {A : Blks} {V Mo : Nat} {N : List Nd} {H G : List Nat} (f g h : Nat) (hn : f + g + h ≤ n + 1) (hA : ArAt w B A V Mo N H G) (hf : f < N.length) (hg : g < N.length) (hh : h < N.length) (hc : Cap N f g h) (hne : ¬ IteEnd f g h) :
    Calls Tryz.prog 52 #[A.val, .int .i32 f, .int .i32 g, .int .i32 h] w (IteRes w B A V Mo N H G f g h) := by
  have h1 : f ≠ 1 := fun e => hne (.inl e)
  have h2 : g ≠ h := fun e => hne (.inr (.inl e))
  have h3 : f ≠ 0 := fun e => hne (.inr (.inr (.inl e)))
  have h4 : ¬ (g = 1 ∧ h = 0) := fun e => hne (.inr (.inr (.inr e)))
  have hf2 : 2 ≤ f := by omega
  have b1 : ((f : Int) == 1) = false := by simp; omega
  have b2 : ((g : Int) == (h : Int)) = false := by simp; omega
  have b3 : ((f : Int) == 0) = false := by simp; omega
  have hwf : WF N := by obtain ⟨nv, h⟩ := hA; exact h.wf
  have hle : N.length ≤ 2147483647 := by obtain ⟨nv, h⟩ := hA; exact h.le
  obtain ⟨kl, hkey⟩ := key_tri (f := f) (g := g) (h := h) (by omega) (by omega) (by omega)
  obtain ⟨k0, k1, k2, k3, k4, ks⟩ := blk5 w (.cells #[.pointer (some ⟨A.a, 0, none⟩)] 96) (.cells #[.int .i32 f] 21) (.cells #[.int .i32 g] 21) (.cells #[.int .i32 h] 21) (.cells #[.int .i32 f, .int .i32 g, .int .i32 h] 140)
  have hb := (below4 w (.cells #[.pointer (some ⟨A.a, 0, none⟩)] 96) (.cells #[.int .i32 f] 21) (.cells #[.int .i32 g] 21) (.cells #[.int .i32 h] 21)).alloc (by simp; omega) (.cells #[.int .i32 f, .int .i32 g, .int .i32 h] 140)
  have fnew : ∀ k, w.heap.size ≤ k → k < w.heap.size + 5 → Foreign A _ k := fun k hk1 hk2 => hA.foreign_new hb hk1 (by rw [ks]; exact hk2)
  have hfr : IteFr w A _ f g h := ⟨⟨k0, fnew _ (by omega) (by omega)⟩, ⟨k1, fnew _ (by omega) (by omega)⟩, ⟨k2, fnew _ (by omega) (by omega)⟩, ⟨k3, fnew _ (by omega) (by omega)⟩, ⟨k4, fnew _ (by omega) (by omega)⟩, Kept.of_below (A := A) hA.a_lt hb⟩
  have hA5 := hA.below hb
  have HFR := Lib.hid hfr
  have HA5 := Lib.hid hA5
  have HC := Lib.hid hc
  have HNE := Lib.hid h4
  have hb10 : Hid (∀ x : Bool, x = ((g : Int) == 1) → x = true → ((h : Int) == 0) = false) := Lib.hid fun x hx hy => by
    subst hx
    have hy2 : (g : Int) = 1 := by simpa using hy
    have : g = 1 := by omega
    simp; omega
  clear k0 k1 k2 k3 k4 ks hb fnew hfr hA5 hc hne h1 h2 h3 h4 hA
  have hg01 : (((g : Int) == 1) = true ∧ ((h : Int) == 0) = false) ∨ ((g : Int) == 1) = false := by
    cases hx : ((g : Int) == 1) with
    | true => exact .inl ⟨rfl, hb10.out _ hx.symm rfl⟩
    | false => exact .inr rfl
  clear hb10
  unfold Blks.val
  go_enter Tryz.func52, Tryz.ntmps52
  go_upto_block 0 with fail
  go_cut [] (fun wx => wx = (((w.alloc (.cells #[.pointer (some ⟨A.a, 0, none⟩)] 96)).alloc (.cells #[.int .i32 f] 21)).alloc (.cells #[.int .i32 g] 21)).alloc (.cells #[.int .i32 h] 21))
  case first =>
    rcases hg01 with ⟨b4, b5⟩ | b4
    · go_wp2_with fail
      go_meet
      rfl
    · go_wp2_with fail
      go_meet
      rfl
  case rest =>
    subst hcut
    clear hg01
    go_upto_region 8 with fail
    generalize ((((w.alloc (.cells #[.pointer (some ⟨A.a, 0, none⟩)] 96)).alloc (.cells #[.int .i32 f] 21)).alloc (.cells #[.int .i32 g] 21)).alloc (.cells #[.int .i32 h] 21)).alloc (.cells #[.int .i32 f, .int .i32 g, .int .i32 h] 140) = W5 at *
    obtain ⟨nv, hA5⟩ := HA5.out
    obtain ⟨l, hl, hmo⟩ := hA5.ites
    have hlook : ∀ d os, (Instr.lookup 117 (.map (some A.i)) (.agg #[.int .i32 f, .int .i32 g, .int .i32 h]) true).run Tryz.prog (grow (redrawn W5 d) os) = .ok (.tuple #[(getM l (triV f g h)).getD (.int .i32 0), .bool (getM l (triV f g h)).isSome]) (grow (redrawn W5 d) os) := fun d os =>
      (hl.same ((below_regrown W5 d os).block _ hl.lt)).look tri_keyed Tryz.underlying117 (zero_i32 _) true hkey
    have c0 := HFR.out.ba.cell
    have c4 : W5.cell? ⟨A.a, 4, none⟩ = some (.map (some A.i)) := hA5.cellAt rfl
    obtain ⟨n0, n1, n2⟩ := HFR.out.k
    have C0 := cell_regrown c0
    have C4 := cell_regrown c4
    have N0 := cell_regrown n0
    have N1 := cell_regrown n1
    have N2 := cell_regrown n2
    have ha5 := HA5.out.a_lt
    cases hgm : getM l (triV f g h) with
    | some u =>
      obtain ⟨r, rfl, _, _, _, hr, hev⟩ := hmo f g h u hgm
      rw [hgm] at hlook
      have hlook : ∀ d os, (Instr.lookup 117 (.map (some A.i)) (.agg #[.int .i32 f, .int .i32 g, .int .i32 h]) true).run Tryz.prog (grow (redrawn W5 d) os) = .ok (.tuple #[.int .i32 r, .bool true]) (grow (redrawn W5 d) os) := hlook
      have HTO : Hid (IteTo N f g h r N) := Lib.hid ⟨Ext.refl N, hwf, hr, hev, fun i a b => by omega⟩
      clear hev hgm hmo hl hA5
      refine wp_region_quiet_below (by kernel_rfl) (by kernel_rfl) ?_
      repeat (first | go_big_quiet_step (fail) | quiet_step (fail))
      refine wpQuiet_nil ?_
      intro _ hw'
      obtain ⟨⟨nq, osq⟩, hw''⟩ := hw'
      subst hw''
      have hq := below_regrown W5 nq osq
      have HR := Lib.hid (HA5.out.below hq)
      have HK := Lib.hid (HFR.out.kept.trans (Kept.of_below (A := A) ha5 hq))
      clear hlook C0 C4 N0 N1 N2 c0 c4 n0 n1 n2 hq HA5
      generalize grow (redrawn W5 nq) osq = W6 at *
      go_wp2
      go_ret
      exact ⟨r, N, rfl, HTO.out, HR.out, HK.out⟩
    | none =>
      rw [hgm] at hlook
      have hlook : ∀ d os, (Instr.lookup 117 (.map (some A.i)) (.agg #[.int .i32 f, .int .i32 g, .int .i32 h]) true).run Tryz.prog (grow (redrawn W5 d) os) = .ok (.tuple #[.int .i32 0, .bool false]) (grow (redrawn W5 d) os) := hlook
      clear hgm hmo hl hA5
      refine wp_region_quiet_below (by kernel_rfl) (by kernel_rfl) ?_
      repeat (first | go_big_quiet_step (fail) | quiet_step (fail))
      refine wpQuiet_nil ?_
      intro _ hw'
      obtain ⟨⟨nq, osq⟩, hw''⟩ := hw'
      subst hw''
      have hq := below_regrown W5 nq osq
      have HR := Lib.hid (HA5.out.below hq)
      have HF := Lib.hid (HFR.out.step (Kept.of_below (A := A) ha5 hq))
      clear hlook C0 C4 N0 N1 N2 c0 c4 n0 n1 n2 hq HA5 HFR ha5
      generalize grow (redrawn W5 nq) osq = W6 at *
      obtain ⟨nv6, hA6⟩ := HR.out
      obtain ⟨gb, cp, rfl, hat⟩ := hA6.at_node
      obtain ⟨x0, _, _⟩ := hat f hf
      obtain ⟨y0, _, _⟩ := hat g hg
      obtain ⟨z0, _, _⟩ := hat h hh
      have c2 : W6.cell? ⟨A.a, 2, none⟩ = some (.slice (some ⟨gb, 0, none⟩) N.length cp) := hA6.cellAt rfl
      have c0 := HF.out.ba.cell
      have d1 := HF.out.bf.cell
      have d2 := HF.out.bg.cell
      have d3 := HF.out.bh.cell
      have e1 : (f : Int) < (N.length : Int) := by omega
      have e2 : (g : Int) < (N.length : Int) := by omega
      have e3 : (h : Int) < (N.length : Int) := by omega
      clear hA6 hat
      go_upto_region 11 with fail
      have F0 := cell_regrown c0
      have F1 := cell_regrown d1
      have F2 := cell_regrown d2
      have F3 := cell_regrown d3
      have F4 := cell_regrown c2
      have F5 := cell_regrown x0
      have F6 := cell_regrown y0
      have F7 := cell_regrown z0
      refine wp_region_mix [(0, false), (1, false), (2, false), (3, false), (4, false), (5, false), (6, false), (7, false), (8, false), (9, false), (10, false), (11, false), (12, false), (13, false), (14, false), (15, false), (16, false), (17, false), (18, false), (19, false), (20, false), (21, false), (22, false), (23, false), (24, false), (25, true), (26, true)] (by kernel_rfl) (by kernel_rfl) ?_
      have hv0 := below_drawn W6
      generalize { W6 with drawn := W6.drawn + 1 } = V0 at *
      refine mix_take [0, 1, 2, 3, 4, 5, 6, 7, 8, 9, 10, 11, 12, 13, 14, 15, 16, 17, 18, 19, 20, 21, 22, 23, 24] [_, _, _, _, _, _, _, _, _, _, _, _, _, _, _, _, _, _, _, _, _, _, _, _, _] rfl rfl ?_
      simp only [List.getElem_toArray, List.getElem_cons_zero, List.getElem_cons_succ]
      repeat (go_big_quiet_step (fail))
      refine wpQuiet_nil ?_
      refine mix_bar rfl (by rfl) ?_
      simp only [List.getElem_toArray, List.getElem_cons_zero, List.getElem_cons_succ]
      go_simp
      refine ⟨regrown_of_below (hv0.alloc hv0.size (.cells #[.int .i32 0] 21)), ?_⟩
      refine mix_bar rfl (by rfl) ?_
      simp only [List.getElem_toArray, List.getElem_cons_zero, List.getElem_cons_succ]
      go_simp
      have hmin : (if ((nd N h).v : Int) < (if (nd N g).v < (nd N f).v then ((nd N g).v : Int) else ((nd N f).v : Int)) then ((nd N h).v : Int) else (if (nd N g).v < (nd N f).v then ((nd N g).v : Int) else ((nd N f).v : Int))) = ((top3 N f g h : Nat) : Int) := by
        unfold top3 lvl
        split <;> split <;> omega
      rw [hmin]
      clear hmin
      refine ⟨regrown_of_below (hv0.alloc hv0.size (.cells #[.int .i32 (top3 N f g h : Nat)] 21)), ?_⟩
      refine mix_end ?_
      have hvb := hv0.alloc hv0.size (.cells #[.int .i32 (top3 N f g h : Nat)] 21)
      have kv := blk1 V0 (.cells #[.int .i32 (top3 N f g h : Nat)] 21)
      have fv := HR.out.foreign_new hvb (k := V0.heap.size) hv0.size (by simp)
      have HBV : Hid (BoxAt A _ V0.heap.size (.int .i32 (top3 N f g h : Nat)) 21) := Lib.hid ⟨kv, fv⟩
      have HR7 := Lib.hid (HR.out.below hvb)
      have HF7 := Lib.hid (HF.out.step (Kept.of_below (A := A) HR.out.a_lt hvb))
      clear F0 F1 F2 F3 F4 F5 F6 F7 c0 d1 d2 d3 c2 x0 y0 z0 hvb kv fv HR HF e1 e2 e3
      generalize V0.alloc (.cells #[.int .i32 (top3 N f g h : Nat)] 21) = W7 at *
      generalize V0.heap.size = bv at *
      clear hv0
      have hv256 := top3_lt hwf (g := g) (h := h) hf hf2
      have hct := cut3_lt hwf false hf hg hh hf2 rfl
      have hct1 := cut3_lt hwf true hf hg hh hf2 rfl
      have part : ∀ (b : Bool) (N1 : List Nd) (W8 : World), Ext N N1 → ArAt W8 B A V Mo N1 H G → IteFr w A W8 f g h → BoxAt A W8 bv (.int .i32 (top3 N f g h : Nat)) 21 → Cap N1 (cutN N f (top3 N f g h) b) (cutN N g (top3 N f g h) b) (cutN N h (top3 N f g h) b) →
          ∀ W, Below W8.heap.size W8 W → Calls Tryz.prog 67 #[.bool b, .pointer (some ⟨w.heap.size, 0, none⟩), .pointer (some ⟨w.heap.size + 1, 0, none⟩), .pointer (some ⟨bv, 0, none⟩), .pointer (some ⟨w.heap.size + 1 + 1, 0, none⟩), .pointer (some ⟨w.heap.size + 1 + 1 + 1, 0, none⟩)] W
            (PartRes w B A V Mo N1 H G f g h bv (cutN N f (top3 N f g h) b) (cutN N g (top3 N f g h) b) (cutN N h (top3 N f g h) b) (top3 N f g h)) := by
        intro b N1 W8 he hA8 hF8 hB8 hcap W hW
        have hl := he.len
        have hkW := Kept.of_below (A := A) hA8.a_lt hW
        have hF := hF8.step hkW
        have hB := hB8.kept hkW
        have hsum : cutN N1 f (top3 N f g h) b + cutN N1 g (top3 N f g h) b + cutN N1 h (top3 N f g h) b ≤ n := by
          rw [cutN_ext he hf, cutN_ext he hg, cutN_ext he hh]
          cases b <;> omega
        have hp := part_any ih f g h (top3 N f g h) b w.heap.size (w.heap.size + 1) bv (w.heap.size + 1 + 1) (w.heap.size + 1 + 1 + 1) (hA8.below hW) (by omega) (by omega) (by omega) hv256 hsum (by rw [cutN_ext he hf, cutN_ext he hg, cutN_ext he hh]; exact hcap) hF.ba hF.bf hB hF.bg hF.bh
        rw [cutN_ext he hf, cutN_ext he hg, cutN_ext he hh] at hp
        refine Calls.mono hp ?_
        rintro e w' ⟨r, N', rfl, hto, hA', hk'⟩
        exact ⟨r, N', rfl, hto, hA', hF.step hk', hB.kept hk'⟩
      have HP0 := Lib.hid (part false N W7 (Ext.refl N) HR7.out HF7.out HBV.out (HC.out.lo hwf hf hg hh hf2 rfl) W7 (Below.refl _ _))
      have HPART := Lib.hid part
      clear part hct hct1
      go_wp2_with fail
      refine HP0.out.mono ?_
      rintro e W8 ⟨lo, N1, rfl, hto0, hA8, hF8, hB8⟩
      have HTO0 := Lib.hid hto0
      have HP1 := Lib.hid (HPART.out true N1 W8 hto0.ext hA8 hF8 hB8 (HC.out.hi hwf hf hg hh hf2 rfl hto0))
      have hS0 : W8.cell? ⟨w.heap.size, 0, none⟩ = some (.pointer (some ⟨A.a, 0, none⟩)) ∧ W8.cell? ⟨bv, 0, none⟩ = some (.int .i32 (top3 N f g h : Nat)) := ⟨hF8.ba.cell, hB8.cell⟩
      obtain ⟨s0, s1⟩ := hS0
      have HBD := Lib.hid (show Below W8.heap.size W8 W8.drew from ⟨rfl, rfl, rfl, Nat.le_refl _, fun _ _ => rfl⟩)
      clear HP0 HPART hto0 hA8 hF8 hB8 HR7 HF7 HBV
      generalize htop : top3 N f g h = v at *
      have HTOP := Lib.hid htop
      clear htop
      go_upto_region 14 with fail
      go_region_held3 (fun w' => w'.cell? ⟨w.heap.size, 0, none⟩ = some (.pointer (some ⟨A.a, 0, none⟩)) ∧ w'.cell? ⟨bv, 0, none⟩ = some (.int .i32 v)) (first | exact hS | go_keep) ((first
        | (go_at_call 67; (with_reducible refine (HP1.out W8.drew HBD.out).mono ?_); rintro e W9 ⟨hi, N2, rfl, hto1, hA9, hF9, hB9⟩; have hS : W9.cell? ⟨w.heap.size, 0, none⟩ = some (.pointer (some ⟨A.a, 0, none⟩)) ∧ W9.cell? ⟨bv, 0, none⟩ = some (.int .i32 v) := ⟨hF9.ba.cell, hB9.cell⟩; have hlev := IteTo.levels hwf hf hg hh hf2 HTOP.out.symm HTO0.out hto1; have hmk := mk_any v lo hi hA9 hlev.1 hlev.2.1 (by omega) hlev.2.2.1 hlev.2.2.2 (HC.out.mk hwf hf hg hh hf2 HTOP.out.symm HTO0.out hto1); unfold Blks.val at hmk; have HMK := Lib.hid hmk; have HTO1 := Lib.hid hto1; have HF9 := Lib.hid hF9; have HB9 := Lib.hid hB9; clear hmk hlev hto1 hF9 hA9 hB9)
        | (go_at_call 69; (with_reducible refine HMK.out.mono ?_); rintro e W10 ⟨r, N3, rfl, hm, hA10, hk10⟩; have hS : W10.cell? ⟨w.heap.size, 0, none⟩ = some (.pointer (some ⟨A.a, 0, none⟩)) ∧ W10.cell? ⟨bv, 0, none⟩ = some (.int .i32 v) := ⟨(HF9.out.ba.kept hk10).cell, (HB9.out.kept hk10).cell⟩; have HF10 := Lib.hid (HF9.out.step hk10); have HM := Lib.hid hm; have HA10 := Lib.hid hA10; clear hm hA10 hk10)))
      have HTO := Lib.hid (IteTo.step hwf hf hg hh hf2 HTOP.out.symm HTO0.out HTO1.out HM.out)
      obtain ⟨nv10, hA10⟩ := HA10.out
      obtain ⟨l10, hl10, hmo10⟩ := hA10.ites
      have hnd10 : (l10.map (·.1)).Nodup := by obtain ⟨_, _, _, _, _, h4⟩ := hl10; exact h4
      have c0 := HF10.out.ba.cell
      have c4 : W10.cell? ⟨A.a, 4, none⟩ = some (.map (some A.i)) := hA10.cellAt rfl
      obtain ⟨n0, n1, n2⟩ := HF10.out.k
      have hl3 := HTO.out.ext.len
      have hput : MemoOk N3 (putM l10 (triV f g h) (.int .i32 r)) := hmo10.put hnd10 (by omega) (by omega) (by omega) HTO.out.lt fun s => by
        rw [HTO.out.sem, HTO.out.ext.ev hwf HTO.out.wf s hf, HTO.out.ext.ev hwf HTO.out.wf s hg, HTO.out.ext.ev hwf HTO.out.wf s hh]
      have HPUT := Lib.hid hput
      have HL10 := Lib.hid hl10
      have HAN := Lib.hid hA10
      clear hput hl10 hA10 hmo10 hnd10 HP1 HTO0 HTO1 HM HMK HF9 HB9 HA10 HBD s0 s1 hlook
      clear hS
      go_wp2
      go_still_tail 6, (by kernel_rfl)
      change wpList _ _ _ _ _ W10.drew
      refine wpList_mapAt rfl _ _ _ 117 21 rfl tri_keyed Tryz.underlying117 rfl (show MapAt _ _ W10.drew _ _ from HL10.out) (.agg #[.int .i32 f, .int .i32 g, .int .i32 h]) (.int .i32 r) kl rfl rfl hkey ?_
      intro w7 hm7 hg7
      have hg7' : W10.grownBy w7 (some A.i) := ⟨hg7.os, hg7.tape, hg7.output, hg7.size, hg7.block⟩
      obtain ⟨fin1, fin2⟩ := HAN.out.memo hm7 HPUT.out hg7'
      have FIN1 := Lib.hid fin1
      have FIN2 := Lib.hid (HF10.out.kept.trans fin2)
      clear fin1 fin2 hm7 hg7 hg7' c0 c4 n0 n1 n2
      go_wp2
      go_ret
      exact ⟨r, N3, rfl, HTO.out, ⟨nv10, FIN1.out⟩, FIN2.out⟩
/-- The arena's ite. -/
theorem ite_any : ∀ (n : Nat) (w : World) (B : Nat) (A : Blks) (V Mo : Nat) (N : List Nd) (H G : List Nat) (f g h : Nat), f + g + h ≤ n → ArAt w B A V Mo N H G → f < N.length → g < N.length → h < N.length → Cap N f g h →
      Calls Tryz.prog 52 #[A.val, .int .i32 f, .int .i32 g, .int .i32 h] w (IteRes w B A V Mo N H G f g h)
  | 0, w, B, A, V, Mo, N, H, G, f, g, h, hn, hA, hf, hg, hh, _ => ite_end f g h hA hf hg hh (.inr (.inl (by omega)))
  | n + 1, w, B, A, V, Mo, N, H, G, f, g, h, hn, hA, hf, hg, hh, hc => by
    by_cases he : IteEnd f g h
    · exact ite_end f g h hA hf hg hh he
    · exact ite_walk (ite_any n) f g h hn hA hf hg hh hc he
end Go.Proofs.YthhcaoljejifeaaGreat

/-
  The walks of the arena's give: what is handed out, and what is held from then on.
-/
namespace Go.Proofs.YthhcaoljejifeaaGreat
open Go Go.RowKit Go.ChangeMaps Go.MapKept Go.Maps Go.Lib Go.Sort

/-- The nodes that a walk from f comes to, behind F, those of H left out. -/
def dfs (N : List Nd) (H : List Nat) : Nat → Nat → List Nat → List Nat
  | 0, _, F => F
  | n + 1, f, F => if f < 2 ∨ f ∈ F ∨ f ∈ H then F else dfs N H n (nd N f).hi (dfs N H n (nd N f).lo (F ++ [f]))
theorem nodup_le : ∀ (n : Nat) (l : List Nat), l.Nodup → (∀ i ∈ l, i < n) → l.length ≤ n
  | 0, l, _, h => by
    cases l with
    | nil => simp
    | cons a r => exact absurd (h a (List.mem_cons_self ..)) (by omega)
  | n + 1, l, hn, h => by
    have ih := nodup_le n (l.erase n) (hn.erase n) fun i hi => by
      have h1 := (hn.mem_erase_iff).1 hi
      have h2 := h i h1.2
      have h3 := h1.1
      omega
    by_cases hm : n ∈ l
    · rw [List.length_erase_of_mem hm] at ih
      omega
    · rw [List.erase_of_not_mem hm] at ih
      omega
/-- New nodes: none twice, none out of the arena. -/
def FOk (N : List Nd) (F : List Nat) : Prop := F.Nodup ∧ ∀ i ∈ F, 2 ≤ i ∧ i < N.length
theorem FOk.len {N : List Nd} {F : List Nat} (h : FOk N F) : F.length ≤ N.length := nodup_le _ _ h.1 fun i hi => (h.2 i hi).2
theorem FOk.snoc {N : List Nd} {F : List Nat} (h : FOk N F) {f : Nat} (h2 : 2 ≤ f) (hf : f < N.length) (hF : f ∉ F) : FOk N (F ++ [f]) := by
  refine ⟨?_, fun i hi => ?_⟩
  · rw [List.nodup_append]
    refine ⟨h.1, by simp, fun a ha b hb => ?_⟩
    simp at hb
    subst hb
    intro e
    subst e
    exact hF ha
  · rcases List.mem_append.1 hi with hi | hi
    · exact h.2 i hi
    · simp at hi; subst hi; exact ⟨h2, hf⟩
theorem dfs_ok {N : List Nd} (w : WF N) (H : List Nat) : ∀ (n f : Nat) (F : List Nat), f < N.length → FOk N F → FOk N (dfs N H n f F)
  | 0, _, _, _, h => h
  | n + 1, f, F, hf, h => by
    unfold dfs
    by_cases hc : f < 2 ∨ f ∈ F ∨ f ∈ H
    · rw [if_pos hc]; exact h
    · rw [if_neg hc]
      have h2 : 2 ≤ f := by omega
      have hl := w.lo f h2 hf
      have hh := w.hi f h2 hf
      exact dfs_ok w H n _ _ (by omega) (dfs_ok w H n _ _ (by omega) (h.snoc h2 hf fun e => hc (.inr (.inl e))))
def seenL (F : List Nat) : List (Value × Value) := (.int .i32 0, .bool true) :: (.int .i32 1, .bool true) :: heldL F
theorem heldL_keys (H : List Nat) : (heldL H).map (·.1) = H.map fun (i : Nat) => Value.int .i32 (i : Int) := by
  unfold heldL
  rw [List.map_map]; rfl
theorem heldL_get (H : List Nat) (f : Nat) : getM (heldL H) (.int .i32 f) = if f ∈ H then some (.bool true) else none := by
  induction H with
  | nil => rfl
  | cons a r ih =>
    show getM ((Value.int .i32 (a : Int), Value.bool true) :: heldL r) _ = _
    unfold getM at ih ⊢
    by_cases h : a = f
    · subst h
      rw [List.find?_cons_of_pos (by simp), if_pos (List.mem_cons_self ..)]
      rfl
    · rw [List.find?_cons_of_neg (by simp; omega), ih]
      by_cases hm : f ∈ r
      · rw [if_pos hm, if_pos (List.mem_cons_of_mem _ hm)]
      · rw [if_neg hm, if_neg (fun h' => by rcases List.mem_cons.1 h' with e | e; exact h e.symm; exact hm e)]
theorem seenL_get (F : List Nat) (f : Nat) : getM (seenL F) (.int .i32 f) = if f < 2 ∨ f ∈ F then some (.bool true) else none := by
  unfold seenL getM
  by_cases h0 : f = 0
  · subst h0
    rw [List.find?_cons_of_pos (by simp), if_pos (.inl (by omega))]; rfl
  · rw [List.find?_cons_of_neg (by simp; omega)]
    by_cases h1 : f = 1
    · subst h1
      rw [List.find?_cons_of_pos (by simp), if_pos (.inl (by omega))]; rfl
    · rw [List.find?_cons_of_neg (by simp; omega)]
      have := heldL_get F f
      unfold getM at this
      rw [this]
      by_cases hm : f ∈ F
      · rw [if_pos hm, if_pos (.inr hm)]
      · rw [if_neg hm, if_neg (by rintro (h | h); omega; exact hm h)]
theorem seenL_put (F : List Nat) (f : Nat) (h2 : 2 ≤ f) (hf : f ∉ F) : putM (seenL F) (.int .i32 f) (.bool true) = seenL (F ++ [f]) := by
  have hk : (Value.int .i32 (f : Int)) ∉ (seenL F).map (·.1) := by
    unfold seenL
    simp only [List.map_cons, heldL_keys, List.mem_cons, List.mem_map, not_or, not_exists, not_and]
    refine ⟨by simp; omega, by simp; omega, fun x hx e => hf ?_⟩
    have : x = f := by simp at e; omega
    rw [← this]; exact hx
  unfold putM
  rw [if_neg hk]
  simp [seenL, heldL]
/-- The frame of give's walk: the boxes, what was seen, what is new. -/
structure GSt (w : World) (A : Blks) (bs ba bf bw bm : Nat) (F : List Nat) (W : World) : Prop where
  s : W.heap[bs]? = some (.cells #[.map (some bm)] 119 (0, 0))
  a : W.heap[ba]? = some (.cells #[.pointer (some ⟨A.a, 0, none⟩)] 96 (0, 0))
  k : W.heap[bw]? = some (.cells #[.func (.func 66) #[] #[.pointer (some ⟨bs, 0, none⟩), .pointer (some ⟨ba, 0, none⟩), .pointer (some ⟨bf, 0, none⟩), .pointer (some ⟨bw, 0, none⟩)]] 139 (0, 0))
  f : ∃ fv, W.heap[bf]? = some (.cells #[fv] 138 (0, 0)) ∧ W.ownsRow w.heap.size 21 1 fv F.length (F.map fun (i : Nat) => Value.int .i32 (i : Int)) ∧ fv.ownBlock ≠ some bs ∧ fv.ownBlock ≠ some ba ∧ fv.ownBlock ≠ some bw ∧ fv.ownBlock ≠ some bf ∧ fv.ownBlock ≠ some bm
  m : MapAt Tryz.prog 21 W bm (seenL F)
  ne : bs ≠ ba ∧ bs ≠ bf ∧ bs ≠ bw ∧ bs ≠ bm ∧ ba ≠ bf ∧ ba ≠ bw ∧ ba ≠ bm ∧ bf ≠ bw ∧ bf ≠ bm ∧ bw ≠ bm
  ge : w.heap.size ≤ bs ∧ w.heap.size ≤ ba ∧ w.heap.size ≤ bf ∧ w.heap.size ≤ bw ∧ w.heap.size ≤ bm
  b : Below w.heap.size w W
theorem GSt.below {w W W' : World} {A : Blks} {bs ba bf bw bm : Nat} {F : List Nat} (g : GSt w A bs ba bf bw bm F W) (hb : Below W.heap.size W W') : GSt w A bs ba bf bw bm F W' := by
  obtain ⟨fv, h1, h2, h3⟩ := g.f
  exact ⟨blk_below hb g.s, blk_below hb g.a, blk_below hb g.k, ⟨fv, blk_below hb h1, owns_kept_none h2 (only_of_below hb none), h3⟩, g.m.same (hb.block _ g.m.lt), g.ne, g.ge, g.b.trans (hb.mono g.b.size)⟩
theorem cell0 {w : World} {k : Nat} {u : Value} {t : TypeId} (h : w.heap[k]? = some (.cells #[u] t (0, 0))) : w.cell? ⟨k, 0, none⟩ = some u := by
  rw [cell_of_row w _ 0 _ _ (0, 0) h]; rfl
/-- One node more in give's walk. -/
theorem GSt.put {w W w1 w2 : World} {A : Blks} {bs ba bf bw bm : Nat} {F : List Nat} {f : Nat} {fv v2 : Value} (g : GSt w A bs ba bf bw bm F W) (hfv : W.heap[bf]? = some (.cells #[fv] 138 (0, 0)))
    (hown : W.ownsRow w.heap.size 21 1 fv F.length (F.map fun (i : Nat) => Value.int .i32 (i : Int))) (ho : fv.ownBlock ≠ some bs ∧ fv.ownBlock ≠ some ba ∧ fv.ownBlock ≠ some bw ∧ fv.ownBlock ≠ some bf ∧ fv.ownBlock ≠ some bm)
    (hm : MapAt Tryz.prog 21 w1 bm (putM (seenL F) (.int .i32 f) (.bool true))) (hg1 : W.grownBy w1 (some bm)) (h2 : 2 ≤ f) (hf : f ∉ F)
    (hown2 : w2.ownsRow w.heap.size 21 1 v2 (F.length + 1) ((F.map fun (i : Nat) => Value.int .i32 (i : Int)) ++ [.int .i32 f])) (hg2 : w1.grownBy w2 fv.ownBlock) (hmv : Moved fv v2 w1.heap.size) :
    GSt w A bs ba bf bw bm (F ++ [f]) (w2.setCell ⟨bf, 0, none⟩ v2) ∧ w2.heap[bf]? = some (.cells #[fv] 138 (0, 0)) := by
  obtain ⟨o1, o2, o3, o4, o5⟩ := ho
  obtain ⟨n1, n2, n3, n4, n5, n6, n7, n8, n9, n10⟩ := g.ne
  obtain ⟨e1, e2, e3, e4, e5⟩ := g.ge
  have ls := lt_of_block g.s
  have la := lt_of_block g.a
  have lk := lt_of_block g.k
  have lf := lt_of_block hfv
  have lm := g.m.lt
  have z1 := hg1.size
  have z2 := hg2.size
  have s1 : ∀ k, k < W.heap.size → k ≠ bm → fv.ownBlock ≠ some k → w2.heap[k]? = W.heap[k]? := fun k hk hkm hko => (hg2.block k (by omega) (fun e => hko e.symm)).trans (hg1.block k hk (fun e => hkm (by injection e)))
  have s2 : ∀ k, k < W.heap.size → k ≠ bm → k ≠ bf → fv.ownBlock ≠ some k → (w2.setCell ⟨bf, 0, none⟩ v2).heap[k]? = W.heap[k]? := fun k hk hkm hkf hko => (Below.heap_setCell w2 ⟨bf, 0, none⟩ v2 k hkf).trans (s1 k hk hkm hko)
  have off : ∀ k, k < W.heap.size → fv.ownBlock ≠ some k → v2.ownBlock ≠ some k := fun k hk hko e => by
    rcases hmv with h | h
    · rw [h] at e; exact hko e
    · have := h k e; omega
  have c2 := (s1 bf lf n9 o4).trans hfv
  have hsz : (w2.setCell ⟨bf, 0, none⟩ v2).heap.size = w2.heap.size := by simp [World.setCell]
  refine ⟨⟨(s2 bs ls n4 n2 o1).trans g.s, (s2 ba la n7 n5 o2).trans g.a, (s2 bw lk n10.symm.symm (fun e => n8 e.symm) o3).trans g.k, ⟨v2, set_at c2, ?_, off bs ls o1, off ba la o2, off bw lk o3, off bf lf o4, off bm lm o5⟩, ?_, g.ne, g.ge, ⟨?_, ?_, ?_, ?_, ?_⟩⟩, c2⟩
  · rw [List.length_append, List.map_append]
    exact owns_like hown2 fun k hk => Below.heap_setCell w2 ⟨bf, 0, none⟩ v2 k (fun e => off bf lf o4 (by rw [hk, e]))
  · rw [← seenL_put F f h2 hf]
    exact hm.same ((Below.heap_setCell w2 ⟨bf, 0, none⟩ v2 bm (fun e => n9 e.symm)).trans (hg2.block bm (by omega) (fun e => o5 e.symm)))
  · exact (hg2.os.trans hg1.os).trans g.b.os
  · exact (hg2.tape.trans hg1.tape).trans g.b.tape
  · exact (hg2.output.trans hg1.output).trans g.b.output
  · have := g.b.size; omega
  · intro k hk
    have := g.b.size
    refine (s2 k (by omega) (by omega) (by omega) (fun e => ?_)).trans (g.b.block k hk)
    have := (hown.lt k e).1
    omega
theorem Tryz.infoI32 : (Tryz.prog.info? 21).map (fun i => (i.zero, i.size, i.bytes)) = some (some (.int .i32 0), 1, 4) := by kernel_rfl
theorem one_i32 (x : Int) : ∀ u ∈ [Value.int .i32 x], u.oneCell' = true := by
  intro u hu
  simp at hu
  subst hu
  rfl
set_option maxRecDepth 100000 in
set_option maxHeartbeats 8000000 in
theorem giveWalk_any {w : World} {B : Nat} {A : Blks} {V Mo : Nat} {N : List Nd} {H G : List Nat} (hA : ArAt w B A V Mo N H G) {bs ba bf bw bm : Nat} : ∀ (n f : Nat) (F : List Nat) (W : World), f < n → f < N.length → FOk N F → GSt w A bs ba bf bw bm F W →
    Calls Tryz.prog 66 #[.int .i32 f, .pointer (some ⟨bs, 0, none⟩), .pointer (some ⟨ba, 0, none⟩), .pointer (some ⟨bf, 0, none⟩), .pointer (some ⟨bw, 0, none⟩)] W
      fun e W' => e = .returned (.tuple #[]) ∧ GSt w A bs ba bf bw bm (dfs N H n f F) W' := by
  intro n
  induction n with
  | zero => intro f F W hf; omega
  | succ n ih =>
    intro f F W hfn hf hlen hg
    have HAW := Lib.hid hA
    have hle : N.length ≤ 2147483647 := by obtain ⟨_, h⟩ := hA; exact h.le
    have hkf := key_i32 (a := (f : Int)) (by omega)
    have hAW := hA.below (show Below w.heap.size w W from hg.b)
    have hl1 := hg.m.look i32_keyed Tryz.underlying119 (zero_bool W) false hkf
    rw [seenL_get] at hl1
    obtain ⟨nv, hN⟩ := hAW
    have hl2 := hN.held.look i32_keyed Tryz.underlying119 (zero_bool W) false hkf
    rw [heldL_get] at hl2
    have c1 := cell0 hg.s
    have c2 := cell0 hg.a
    have c4 := cell0 hg.k
    obtain ⟨fv, hfv, hown, ho1, ho2, ho3, ho4, ho5⟩ := hg.f
    have c3 := cell0 hfv
    have a6 : W.cell? ⟨A.a, 6, none⟩ = some (.map (some A.h)) := hN.cellAt rfl
    have HG := Lib.hid hg
    have HN := Lib.hid hN
    have HFV := Lib.hid (And.intro hfv (And.intro hown (And.intro ho1 (And.intro ho2 (And.intro ho3 (And.intro ho4 ho5))))))
    have L1 : (Instr.lookup 119 (.map (some bm)) (.int .i32 f) false).run Tryz.prog W = .ok ((if f < 2 ∨ f ∈ F then some (Value.bool true) else none).getD (.bool false)) W := hl1
    have L2 : (Instr.lookup 119 (.map (some A.h)) (.int .i32 f) false).run Tryz.prog W = .ok ((if f ∈ H then some (Value.bool true) else none).getD (.bool false)) W := hl2
    clear hl1 hl2 hg hN hfv hown ho1 ho2 ho3 ho4 ho5 hA
    by_cases hs : f < 2 ∨ f ∈ F
    · rw [if_pos hs] at L1
      have L1 : (Instr.lookup 119 (.map (some bm)) (.int .i32 f) false).run Tryz.prog W = .ok (.bool true) W := L1
      clear L2
      have HS := Lib.hid hs
      clear hs
      go_enter Tryz.func66, Tryz.ntmps66
      go_wp2
      (try simp only [Exit.inBlock, Exit.then])
      refine bodyPost_ret (results_none rfl _ _ _) rfl ?_
      refine ⟨rfl, ?_⟩
      have : dfs N H (n + 1) f F = F := by
        show (if f < 2 ∨ f ∈ F ∨ f ∈ H then F else _) = F
        rw [if_pos (by rcases HS.out with h | h; exact .inl h; exact .inr (.inl h))]
      rw [this]
      exact HG.out
    · rw [if_neg hs] at L1
      have L1 : (Instr.lookup 119 (.map (some bm)) (.int .i32 f) false).run Tryz.prog W = .ok (.bool false) W := L1
      by_cases hh : f ∈ H
      · rw [if_pos hh] at L2
        have L2 : (Instr.lookup 119 (.map (some A.h)) (.int .i32 f) false).run Tryz.prog W = .ok (.bool true) W := L2
        have HS := Lib.hid hh
        clear hs hh
        go_enter Tryz.func66, Tryz.ntmps66
        go_wp2
        (try simp only [Exit.inBlock, Exit.then])
        refine bodyPost_ret (results_none rfl _ _ _) rfl ?_
        refine ⟨rfl, ?_⟩
        have : dfs N H (n + 1) f F = F := by
          show (if f < 2 ∨ f ∈ F ∨ f ∈ H then F else _) = F
          rw [if_pos (.inr (.inr HS.out))]
        rw [this]
        exact HG.out
      · rw [if_neg hh] at L2
        have L2 : (Instr.lookup 119 (.map (some A.h)) (.int .i32 f) false).run Tryz.prog W = .ok (.bool false) W := L2
        have HS := Lib.hid hs
        have HH := Lib.hid hh
        clear hs hh
        go_enter Tryz.func66, Tryz.ntmps66
        have hf2 : 2 ≤ f := by have := HS.out; omega
        have hfF : f ∉ F := fun h => HS.out (.inr h)
        obtain ⟨Af, cf, rfl, _⟩ := owns_form HFV.out.2.1
        obtain ⟨i0, hif, hz0, hz1, hz2⟩ := info_parts Tryz.infoI32
        have hls := lt_of_block HG.out.s
        have hla := lt_of_block HG.out.a
        have hlf := lt_of_block HFV.out.1
        have HX := Lib.hid (And.intro hf2 hfF)
        clear hf2 hfF
        go_upto_region 2 with (refine wpList_mapAt rfl _ _ _ 119 4 rfl i32_keyed Tryz.underlying119 rfl (show MapAt _ _ W _ _ from HG.out.m) (.int .i32 f) (.bool true) _ rfl rfl hkf ?_; intro w1 hm1 hg1; have HM1 := Lib.hid hm1; have HG1 := Lib.hid hg1; clear hm1 hg1)
        have hz1' := HG1.out.size
        have c3' : w1.cell? ⟨bf, 0, none⟩ = some (.slice Af F.length cf) := by
          rw [cell_of_row w1 _ 0 _ _ (0, 0) ((HG1.out.block bf hlf (fun e => HG.out.ne.2.2.2.2.2.2.2.2.1 (by injection e))).trans HFV.out.1)]; rfl
        have hown1 : w1.ownsRow w.heap.size 21 1 (.slice Af F.length cf) F.length (F.map fun (i : Nat) => Value.int .i32 (i : Int)) := owns_like HFV.out.2.1 fun k hk => HG1.out.block k ((HFV.out.2.1.lt k hk).2) (fun e => HFV.out.2.2.2.2.2.2 (by rw [hk]; exact e))
        have HO1 := Lib.hid hown1
        have hbs := HG.out.b.size
        have hl5 := hlen.len
        have hl4 : F.length ≤ 1099511627776 := by omega
        clear hown1 L1 L2 c1 c2 c4 c3 a6
        go_upto_region 3 with (at_builtin; refine wpList_push2 (v := .slice Af F.length cf) rfl _ _ 138 rfl 21 i0 _ 1 4 Tryz.underlying138 hif hz0 hz1 hz2 rfl (by decide) (by decide) [.int .i32 f] rfl rfl rfl HO1.out rfl (one_i32 _) hl4 (by omega) ?_; intro v2 w2 hown2 hg2 hmv2; obtain ⟨hput, hc2⟩ := HG.out.put HFV.out.1 HFV.out.2.1 HFV.out.2.2 HM1.out HG1.out HX.out.1 HX.out.2 hown2 hg2 hmv2; obtain ⟨A2, cc2, hv2, _⟩ := owns_form hown2; subst hv2; have HPUT := Lib.hid hput; have hcell2 : w2.cell? ⟨bf, 0, none⟩ = some (.slice Af F.length cf) := cell0 hc2; have hfr2 := frozen_of_row w2 _ 0 _ _ hc2; clear hown2 hg2 hmv2 hput hc2)
        clear hcell2 hfr2
        generalize w2.setCell ⟨bf, 0, none⟩ (.slice A2 (F.length + 1) cc2) = W3 at *
        have hwf : WF N := by obtain ⟨_, h⟩ := HAW.out; exact h.wf
        have hclo := hwf.lo f HX.out.1 hf
        have hchi := hwf.hi f HX.out.1 hf
        have hok1 := hlen.snoc HX.out.1 hf HX.out.2
        have hok2 := dfs_ok hwf H n (nd N f).lo (F ++ [f]) (by omega) hok1
        have IHL := Lib.hid (fun (W4 : World) (hb : Below W3.heap.size W3 W4) => ih (nd N f).lo (F ++ [f]) W4 (by omega) (by omega) hok1 (HPUT.out.below hb))
        have IHH := Lib.hid (fun (W5 : World) (hg5 : GSt w A bs ba bf bw bm (dfs N H n (nd N f).lo (F ++ [f])) W5) (W6 : World) (hb : Below W5.heap.size W5 W6) => ih (nd N f).hi (dfs N H n (nd N f).lo (F ++ [f])) W6 (by omega) (by omega) hok2 (hg5.below hb))
        have HEQ : Hid (dfs N H (n + 1) f F = dfs N H n (nd N f).hi (dfs N H n (nd N f).lo (F ++ [f]))) := Lib.hid (by
          show (if f < 2 ∨ f ∈ F ∨ f ∈ H then F else _) = _
          rw [if_neg (by
            rintro (h | h | h)
            · exact HS.out (.inl h)
            · exact HS.out (.inr h)
            · exact HH.out h)])
        have hI : (f : Int) < (N.length : Int) := by omega
        have HWF := Lib.hid hwf
        have c1 := cell0 HPUT.out.a
        have c2 := cell0 HPUT.out.k
        obtain ⟨nv3, hA3⟩ := HAW.out.below HPUT.out.b
        obtain ⟨ng, cp, rfl, hat⟩ := hA3.at_node
        obtain ⟨_, x1, _⟩ := hat f hf
        have c3 : W3.cell? ⟨A.a, 2, none⟩ = some (.slice (some ⟨ng, 0, none⟩) N.length cp) := hA3.cellAt rfl
        clear hwf hclo hchi hok1 hok2 ih hlen hA3 hat hfn hl4 hl5 hbs hz1' c3' HO1 HM1 HG1 hls hla hlf HX HS HH HG HN HFV hkf
        have C1 := cell_regrown c1
        have C2 := cell_regrown c2
        have C3 := cell_regrown c3
        have X1 := cell_regrown x1
        refine wp_region_tail_below 9 (by kernel_rfl) (by kernel_rfl) ?_
        simp only [List.take_succ_cons, List.take_zero, List.drop_succ_cons, List.drop_zero]
        repeat (first | go_big_quiet_step (fail) | quiet_step (fail))
        refine wpQuiet_nil ?_
        intro W4 hw'
        obtain ⟨⟨nq, osq⟩, hw''⟩ := hw'
        subst hw''
        have HQ := Lib.hid (below_regrown W3 nq osq)
        clear C1 C2 C3 X1 c1 c2 c3 x1
        generalize grow (redrawn W3 nq) osq = W4 at *
        go_wp2_with fail
        refine (IHL.out W4 HQ.out).mono ?_
        rintro e W5 ⟨rfl, hg5⟩
        have HG5 := Lib.hid hg5
        clear hg5
        have c1 := cell0 HG5.out.a
        have c2 := cell0 HG5.out.k
        obtain ⟨nv5, hA5⟩ := HAW.out.below HG5.out.b
        obtain ⟨ng5, cp5, rfl, hat5⟩ := hA5.at_node
        obtain ⟨_, _, x1⟩ := hat5 f hf
        have c3 : W5.cell? ⟨A.a, 2, none⟩ = some (.slice (some ⟨ng5, 0, none⟩) N.length cp5) := hA5.cellAt rfl
        clear hA5 hat5
        go_upto_region 4 with fail
        have C1 := cell_regrown c1
        have C2 := cell_regrown c2
        have C3 := cell_regrown c3
        have X1 := cell_regrown x1
        refine wp_region_tail_below 9 (by kernel_rfl) (by kernel_rfl) ?_
        simp only [List.take_succ_cons, List.take_zero, List.drop_succ_cons, List.drop_zero]
        repeat (first | go_big_quiet_step (fail) | quiet_step (fail))
        refine wpQuiet_nil ?_
        intro W6 hw'
        obtain ⟨⟨nq2, osq2⟩, hw''⟩ := hw'
        subst hw''
        have HQ2 := Lib.hid (below_regrown W5 nq2 osq2)
        clear C1 C2 C3 X1 c1 c2 c3 x1
        generalize grow (redrawn W5 nq2) osq2 = W6 at *
        go_wp2_with fail
        refine (IHH.out W5 HG5.out W6 HQ2.out).mono ?_
        rintro e W7 ⟨rfl, hg7⟩
        have HG7 := Lib.hid hg7
        clear hg7
        go_wp2
        go_end0
        refine ⟨rfl, ?_⟩
        rw [HEQ.out]
        exact HG7.out
end Go.Proofs.YthhcaoljejifeaaGreat

/-
  The arena's give.
-/
namespace Go.Proofs.YthhcaoljejifeaaGreat
open Go Go.RowKit Go.ChangeMaps Go.MapKept Go.Maps Go.Lib Go.Sort

/-- A pair of a map's literal AT THE OPERATION. -/
theorem wpList_mapIns {P : Program} {k : TypeId} {w : World} {b : Nat} {l : List (Value × Value)} {ops : Array Oper} {rest : List Oper} {o : Oper} {a : Act} {Q : Exit → Act → World → Prop} (hg : o.guard = none) (m x v : Operand) (t e : TypeId)
    (hop : o.op = Op.insert t m x v) (K : Keyed P k) (ht : P.underlying t = some (.map k e)) (hm : a.eval m = .map (some b)) (h : MapAt P k w b l) (key val : Value) (kl : Lit) (hx : a.eval x = key) (hv : a.eval v = val) (hkey : keyOf P k key = some kl)
    (hK : ∀ w', MapAt P k w' b (putM l key val) → w.grownBy w' (some b) → wpList P ops Q rest (a.put o.dst undef) w') : wpList P ops Q (o :: rest) a w := by
  refine wpList_plain hg fun K' hK' => ?_
  obtain ⟨w', hrun, r1, r2⟩ := h.store K ht hkey val
  unfold Oper.wp
  simp [execOp, hop, hm, hx, hv, hrun, Result.andThen]
  exact hK' _ _ (hK w' r1 r2)
theorem run_store_fn {P : Program} (a : Addr) (m : Mode) (r : Fn) (ts cs : Array Value) (w : World) : (store a (.func r ts cs) m).run P w = stored P w a (.func r ts cs) m := run_store P w a _ m rfl
theorem heldL_put (H : List Nat) (g : Nat) (hg : g ∉ H) : putM (heldL H) (.int .i32 g) (.bool true) = heldL (H ++ [g]) := by
  unfold putM
  rw [if_neg (by
    rw [heldL_keys]
    intro h
    obtain ⟨x, hx, e⟩ := List.mem_map.1 h
    have : x = g := by simp at e; omega
    exact hg (this ▸ hx))]
  simp [heldL]
def addL (G : List Nat) (g : Nat) : List Nat := if g ∈ G then G else G ++ [g]
theorem givenL_put (G : List Nat) (g : Nat) : putM (givenL G) (.int .i64 g) (.bool true) = givenL (addL G g) := by
  have hk : (Value.int .i64 (g : Int)) ∈ (givenL G).map (·.1) ↔ g ∈ G := by
    unfold givenL
    rw [List.map_map]
    constructor
    · intro h
      obtain ⟨x, hx, e⟩ := List.mem_map.1 h
      have : x = g := by simp at e; omega
      exact this ▸ hx
    · intro h
      exact List.mem_map.2 ⟨g, h, rfl⟩
  unfold putM addL
  by_cases h : g ∈ G
  · rw [if_pos (hk.2 h), if_pos h]
    conv => rhs; rw [← List.map_id (givenL G)]
    refine List.map_congr_left fun p hp => ?_
    split
    · rename_i e
      unfold givenL at hp
      obtain ⟨x, _, rfl⟩ := List.mem_map.1 hp
      have : (Value.int .i64 (x : Int)) = .int .i64 (g : Int) := e
      show (Value.int .i64 (g : Int), Value.bool true) = (Value.int .i64 (x : Int), Value.bool true)
      rw [this]
    · rfl
  · rw [if_neg (fun hh => h (hk.1 hh)), if_neg h]
    simp [givenL]
/-- The held turned, and nothing else. -/
theorem ArNv.hold {w w' : World} {B : Nat} {A : Blks} {V Mo : Nat} {N : List Nd} {H H' G : List Nat} {nv : Value} (h : ArNv w B A V Mo N H G nv) (hm : MapAt Tryz.prog 21 w' A.h (heldL H')) (hg : w.grownBy w' (some A.h)) :
    ArNv w' B A V Mo N H' G nv ∧ Kept A w w' := by
  obtain ⟨n1, n2, n3, n4, n5, n6, n7, n8, n9, n10⟩ := Blks.ne h.nodup
  obtain ⟨lb, hlb, hbo⟩ := h.by_
  obtain ⟨li, hli, hio⟩ := h.ites
  have ha := lt_of_block h.cells
  have s : ∀ k, k < w.heap.size → k ≠ A.h → w'.heap[k]? = w.heap[k]? := fun k hk hki => hg.block k hk (fun e => hki (by injection e))
  refine ⟨⟨(s A.a ha n4).trans h.cells, owns_like h.row fun k hk => s k (h.row.lt k hk).2 fun e => h.off A.h (by simp [Blks.list]) (by rw [hk, e]), ⟨lb, hlb.same (s A.b hlb.lt n7), hbo⟩, ⟨li, hli.same (s A.i hli.lt n9), hio⟩,
    h.given.same (s A.g h.given.lt n10), hm, h.nodup, h.base, h.off, h.wf, h.le⟩, Kept.of_map (k := A.h) (by simp [Blks.list]) n4.symm ha hg⟩
/-- The given turned, and nothing else. -/
theorem ArNv.gift {w w' : World} {B : Nat} {A : Blks} {V Mo : Nat} {N : List Nd} {H G G' : List Nat} {nv : Value} (h : ArNv w B A V Mo N H G nv) (hm : MapAt Tryz.prog 3 w' A.g (givenL G')) (hg : w.grownBy w' (some A.g)) :
    ArNv w' B A V Mo N H G' nv ∧ Kept A w w' := by
  obtain ⟨n1, n2, n3, n4, n5, n6, n7, n8, n9, n10⟩ := Blks.ne h.nodup
  obtain ⟨lb, hlb, hbo⟩ := h.by_
  obtain ⟨li, hli, hio⟩ := h.ites
  have ha := lt_of_block h.cells
  have s : ∀ k, k < w.heap.size → k ≠ A.g → w'.heap[k]? = w.heap[k]? := fun k hk hki => hg.block k hk (fun e => hki (by injection e))
  refine ⟨⟨(s A.a ha n3).trans h.cells, owns_like h.row fun k hk => s k (h.row.lt k hk).2 fun e => h.off A.g (by simp [Blks.list]) (by rw [hk, e]), ⟨lb, hlb.same (s A.b hlb.lt n6), hbo⟩, ⟨li, hli.same (s A.i hli.lt n8), hio⟩,
    hm, h.held.same (s A.h h.held.lt n10.symm), h.nodup, h.base, h.off, h.wf, h.le⟩, Kept.of_map (k := A.g) (by simp [Blks.list]) n3.symm ha hg⟩
theorem dfs_off {N : List Nd} (H : List Nat) : ∀ (n f : Nat) (F : List Nat), (∀ i ∈ F, i ∉ H) → ∀ i ∈ dfs N H n f F, i ∉ H
  | 0, _, _, h => h
  | n + 1, f, F, h => by
    unfold dfs
    by_cases hc : f < 2 ∨ f ∈ F ∨ f ∈ H
    · rw [if_pos hc]; exact h
    · rw [if_neg hc]
      refine dfs_off H n _ _ (dfs_off H n _ _ fun i hi => ?_)
      rcases List.mem_append.1 hi with hi | hi
      · exact h i hi
      · simp at hi
        subst hi
        exact fun e => hc (.inr (.inr e))
/-- Where give's walk begins. -/
theorem GSt.start {w w1 w2 : World} {A : Blks} (hg1 : (((w.alloc (.cells #[.pointer (some ⟨A.a, 0, none⟩)] 96)).alloc (.cells #[.slice none 0 0] 138)).alloc (.map #[] 0)).grownBy w1 (some (w.heap.size + 1 + 1)))
    (hm2 : MapAt Tryz.prog 21 w2 (w.heap.size + 1 + 1) (putM (putM [] (.int .i32 0) (.bool true)) (.int .i32 1) (.bool true))) (hg2 : w1.grownBy w2 (some (w.heap.size + 1 + 1))) :
    ((w2.alloc (.cells #[.map (some (w.heap.size + 1 + 1))] 119)).alloc (.cells #[.nilFunc] 139)).heap[w2.heap.size + 1]? = some (.cells #[.nilFunc] 139 (0, 0)) ∧
      GSt w A w2.heap.size w.heap.size (w.heap.size + 1) (w2.heap.size + 1) (w.heap.size + 1 + 1) [] (((w2.alloc (.cells #[.map (some (w.heap.size + 1 + 1))] 119)).alloc (.cells #[.nilFunc] 139)).setCell ⟨w2.heap.size + 1, 0, none⟩
        (.func (.func 66) #[] #[.pointer (some ⟨w2.heap.size, 0, none⟩), .pointer (some ⟨w.heap.size, 0, none⟩), .pointer (some ⟨w.heap.size + 1, 0, none⟩), .pointer (some ⟨w2.heap.size + 1, 0, none⟩)])) := by
  have hput : putM (putM [] (.int .i32 0) (.bool true)) (.int .i32 1) (.bool true) = seenL [] := by
    unfold putM
    simp [seenL, heldL]
  rw [hput] at hm2
  have ha := blk1 w (.cells #[.pointer (some ⟨A.a, 0, none⟩)] 96)
  have hf := blk1 (w.alloc (.cells #[.pointer (some ⟨A.a, 0, none⟩)] 96)) (.cells #[.slice none 0 0] 138)
  have s1 : (w.alloc (.cells #[.pointer (some ⟨A.a, 0, none⟩)] 96)).heap.size = w.heap.size + 1 := by simp
  have s2 : ((w.alloc (.cells #[.pointer (some ⟨A.a, 0, none⟩)] 96)).alloc (.cells #[.slice none 0 0] 138)).heap.size = w.heap.size + 1 + 1 := by simp
  have s3 : (((w.alloc (.cells #[.pointer (some ⟨A.a, 0, none⟩)] 96)).alloc (.cells #[.slice none 0 0] 138)).alloc (.map #[] 0)).heap.size = w.heap.size + 1 + 1 + 1 := by simp
  rw [s1] at hf
  have z1 := hg1.size
  have z2 := hg2.size
  rw [s3] at z1
  have b1 := below1 (w.alloc (.cells #[.pointer (some ⟨A.a, 0, none⟩)] 96)) (.cells #[.slice none 0 0] 138)
  have b2 := below1 ((w.alloc (.cells #[.pointer (some ⟨A.a, 0, none⟩)] 96)).alloc (.cells #[.slice none 0 0] 138)) (.map #[] 0)
  have ha2 := blk_below b2 (blk_below b1 ha)
  have hf2 := blk_below b2 hf
  have e12 : ∀ k, k < w.heap.size + 1 + 1 → w2.heap[k]? = (((w.alloc (.cells #[.pointer (some ⟨A.a, 0, none⟩)] 96)).alloc (.cells #[.slice none 0 0] 138)).alloc (.map #[] 0)).heap[k]? := fun k hk =>
    (hg2.block k (by omega) (fun e => by injection e; omega)).trans (hg1.block k (by rw [s3]; omega) (fun e => by injection e; omega))
  have hb0 := (below2 w (.cells #[.pointer (some ⟨A.a, 0, none⟩)] 96) (.cells #[.slice none 0 0] 138)).alloc (by rw [s2]; omega) (.map #[] 0)
  generalize (((w.alloc (.cells #[.pointer (some ⟨A.a, 0, none⟩)] 96)).alloc (.cells #[.slice none 0 0] 138)).alloc (.map #[] 0)) = W0 at *
  have hs2 := blk1 w2 (.cells #[.map (some (w.heap.size + 1 + 1))] 119)
  have hw2 := blk1 (w2.alloc (.cells #[.map (some (w.heap.size + 1 + 1))] 119)) (.cells #[.nilFunc] 139)
  have s5 : (w2.alloc (.cells #[.map (some (w.heap.size + 1 + 1))] 119)).heap.size = w2.heap.size + 1 := by simp
  rw [s5] at hw2
  have b4 := below2 w2 (.cells #[.map (some (w.heap.size + 1 + 1))] 119) (.cells #[.nilFunc] 139)
  have hs3 := blk_below (below1 (w2.alloc (.cells #[.map (some (w.heap.size + 1 + 1))] 119)) (.cells #[.nilFunc] 139)) hs2
  have ha4 := blk_below b4 ((e12 w.heap.size (by omega)).trans ha2)
  have hf4 := blk_below b4 ((e12 (w.heap.size + 1) (by omega)).trans hf2)
  have hm4 := hm2.same (b4.block _ hm2.lt)
  have hb4 : Below w.heap.size w ((w2.alloc (.cells #[.map (some (w.heap.size + 1 + 1))] 119)).alloc (.cells #[.nilFunc] 139)) :=
    ⟨b4.os.trans (hg2.os.trans (hg1.os.trans hb0.os)), b4.tape.trans (hg2.tape.trans (hg1.tape.trans hb0.tape)), b4.output.trans (hg2.output.trans (hg1.output.trans hb0.output)), by have := b4.size; omega,
      fun k hk => (b4.block k (by omega)).trans ((e12 k (by omega)).trans (hb0.block k hk))⟩
  generalize (w2.alloc (.cells #[.map (some (w.heap.size + 1 + 1))] 119)).alloc (.cells #[.nilFunc] 139) = W4 at *
  have st : ∀ k, k ≠ w2.heap.size + 1 → (W4.setCell ⟨w2.heap.size + 1, 0, none⟩ (.func (.func 66) #[] #[.pointer (some ⟨w2.heap.size, 0, none⟩), .pointer (some ⟨w.heap.size, 0, none⟩), .pointer (some ⟨w.heap.size + 1, 0, none⟩), .pointer (some ⟨w2.heap.size + 1, 0, none⟩)])).heap[k]? = W4.heap[k]? := fun k hk => Below.heap_setCell W4 ⟨w2.heap.size + 1, 0, none⟩ _ k hk
  have hsz : (W4.setCell ⟨w2.heap.size + 1, 0, none⟩ (.func (.func 66) #[] #[.pointer (some ⟨w2.heap.size, 0, none⟩), .pointer (some ⟨w.heap.size, 0, none⟩), .pointer (some ⟨w.heap.size + 1, 0, none⟩), .pointer (some ⟨w2.heap.size + 1, 0, none⟩)])).heap.size = W4.heap.size := by simp [World.setCell]
  have z4 := b4.size
  have lm := hm2.lt
  have hns : w2.heap.size ≠ w.heap.size + 1 + 1 := by omega
  refine ⟨hw2, (st _ (by omega)).trans hs3, (st _ (by omega)).trans ha4, set_at hw2, ⟨.slice none 0 0, (st _ (by omega)).trans hf4, World.ownsRow_nil _ _ _ _, by simp [Value.ownBlock], by simp [Value.ownBlock], by simp [Value.ownBlock], by simp [Value.ownBlock], by simp [Value.ownBlock]⟩, hm4.same (st _ (by omega)), by omega, by omega, ⟨hb4.os, hb4.tape, hb4.output, by have := hb4.size; omega, fun k hk => (st k (by omega)).trans (hb4.block k hk)⟩⟩
def newL (N : List Nd) (H : List Nat) (f : Nat) : List Nat := dfs N H (f + 1) f []
theorem newL_ok {N : List Nd} (w : WF N) (H : List Nat) {f : Nat} (hf : f < N.length) : FOk N (newL N H f) := dfs_ok w H _ _ _ hf ⟨List.nodup_nil, by simp⟩
theorem newL_off (N : List Nd) (H : List Nat) (f : Nat) : ∀ i ∈ newL N H f, i ∉ H := dfs_off H _ _ _ (by simp)
/-- What give comes to. -/
def GiveRes (w : World) (B : Nat) (A : Blks) (V Mo : Nat) (N : List Nd) (H G : List Nat) (f : Nat) (e : Ending) (w' : World) : Prop :=
  (Mo < H.length + (newL N H f).length ∧ e = .returned (.tuple #[.int .i64 0, .int .i64 3]) ∧ ArAt w' B A V Mo N H G ∧ Kept A w w') ∨
  (H.length + (newL N H f).length ≤ Mo ∧ e = .returned (.tuple #[.int .i64 f, .int .i64 0]) ∧ ArAt w' B A V Mo N (H ++ newL N H f) (addL G f) ∧ Kept A w w')
set_option maxRecDepth 100000 in
set_option maxHeartbeats 8000000 in
theorem give_any {w : World} {B : Nat} {A : Blks} {V Mo : Nat} {N : List Nd} {H G : List Nat} (f : Nat) (hA : ArAt w B A V Mo N H G) (hf : f < N.length) (hH : FOk N H) :
    Calls Tryz.prog 51 #[A.val, .int .i32 f] w (GiveRes w B A V Mo N H G f) := by
  have hk0 := key_i32 (a := 0) (by omega)
  have hk1 := key_i32 (a := 1) (by omega)
  have hmm := @run_makeMap Tryz.prog
  have HA := Lib.hid hA
  have HH := Lib.hid hH
  clear hA hH
  unfold Blks.val
  go_enter Tryz.func51, Tryz.ntmps51
  have hM : MapAt Tryz.prog 21 (((w.alloc (.cells #[.pointer (some ⟨A.a, 0, none⟩)] 96)).alloc (.cells #[.slice none 0 0] 138)).alloc (.map #[] 0)) (w.heap.size + 1 + 1) [] := by
    have := MapAt.made Tryz.prog 21 ((w.alloc (.cells #[.pointer (some ⟨A.a, 0, none⟩)] 96)).alloc (.cells #[.slice none 0 0] 138))
    simpa using this
  go_upto_region 4 with (first
    | (refine wpList_mapIns rfl _ _ _ 119 4 rfl i32_keyed Tryz.underlying119 rfl hM (.int .i32 0) (.bool true) _ rfl rfl hk0 ?_; intro w1 hm1 hg1)
    | (refine wpList_mapIns rfl _ _ _ 119 4 rfl i32_keyed Tryz.underlying119 rfl hm1 (.int .i32 1) (.bool true) _ rfl rfl hk1 ?_; intro w2 hm2 hg2))
  obtain ⟨hbw, hst⟩ := GSt.start hg1 hm2 hg2
  have hcw := cell0 hbw
  have hfw := frozen_of_row _ _ 0 _ _ hbw
  have HST := Lib.hid hst
  clear hst hbw hm1 hg1 hm2 hg2 hM hk0 hk1 hmm
  have hrs := @run_store_fn Tryz.prog
  generalize (w2.alloc (.cells #[.map (some (w.heap.size + 1 + 1))] 119)).alloc (.cells #[.nilFunc] 139) = W4 at *
  generalize w2.heap.size + 1 = bw at *
  generalize w2.heap.size = bs at *
  go_upto_region 5 with fail
  generalize W4.setCell ⟨bw, 0, none⟩ (.func (.func 66) #[] #[.pointer (some ⟨bs, 0, none⟩), .pointer (some ⟨w.heap.size, 0, none⟩), .pointer (some ⟨w.heap.size + 1, 0, none⟩), .pointer (some ⟨bw, 0, none⟩)]) = W5 at *
  have c5 := cell0 HST.out.k
  clear hcw hfw hrs
  go_wp2_with (refine (giveWalk_any HA.out (f + 1) f [] W5 (by omega) hf ⟨List.nodup_nil, by simp⟩ HST.out).mono ?_; rintro e W6 ⟨rfl, hg6⟩; change GSt w A bs w.heap.size (w.heap.size + 1) bw (w.heap.size + 1 + 1) (newL N H f) W6 at hg6; have HG6 := Lib.hid hg6; clear hg6 HST c5)
  have hle : N.length ≤ 2147483647 := by obtain ⟨_, h⟩ := HA.out; exact h.le
  have hwf : WF N := by obtain ⟨_, h⟩ := HA.out; exact h.wf
  have hFk := newL_ok hwf H hf
  have hHl : H.length ≤ 2147483647 := by have := HH.out.len; omega
  have hFl : (newL N H f).length ≤ 2147483647 := by have := hFk.len; omega
  have HFK := Lib.hid hFk
  have HOFF := Lib.hid (newL_off N H f)
  have hfb : (f : Int) ≤ 2147483646 := by omega
  clear hFk hwf hle
  generalize hF : newL N H f = F at *
  have HFE := Lib.hid hF
  clear hF
  obtain ⟨fv, hfv, hown, _⟩ := HG6.out.f
  obtain ⟨Af, cf, rfl, hAf⟩ := owns_form hown
  obtain ⟨nv6, hA6⟩ := HA.out.below HG6.out.b
  have c0 := cell0 HG6.out.a
  have c1 := cell0 hfv
  have a1 : W6.cell? ⟨A.a, 1, none⟩ = some (.int .i64 Mo) := hA6.cellAt rfl
  have a6 : W6.cell? ⟨A.a, 6, none⟩ = some (.map (some A.h)) := hA6.cellAt rfl
  have hlen : ∀ d os, (Builtin.len_ #[119] 3 #[.map (some A.h)]).run Tryz.prog (grow (redrawn W6 d) os) = .ok (.int .i64 H.length) (grow (redrawn W6 d) os) := fun d os => by
    have := (hA6.held.same ((below_regrown W6 d os).block _ hA6.held.lt)).len Tryz.underlying119 3
    rw [show (heldL H).length = H.length from by simp [heldL]] at this
    exact this
  have HA6 := Lib.hid hA6
  have HFV := Lib.hid hfv
  have HOW := Lib.hid hown
  clear hA6 hfv hown
  have C0 := cell_regrown c0
  have C1 := cell_regrown c1
  have A1 := cell_regrown a1
  have A6 := cell_regrown a6
  refine wp_region_quiet_below (by kernel_rfl) (by kernel_rfl) ?_
  repeat (first | go_big_quiet_step (fail) | quiet_step (fail))
  refine wpQuiet_nil ?_
  intro _ hw'
  obtain ⟨⟨nq, osq⟩, hw''⟩ := hw'
  subst hw''
  have hq := below_regrown W6 nq osq
  have HG7 := Lib.hid (HG6.out.below hq)
  have HA7 := Lib.hid (HA6.out.below hq)
  have HFV7 := Lib.hid (blk_below hq HFV.out)
  have HOW7 := Lib.hid (owns_kept_none HOW.out (only_of_below hq none))
  clear C0 C1 A1 A6 c0 c1 a1 a6 hlen HG6 HA6 HFV HOW hq
  generalize grow (redrawn W6 nq) osq = W7 at *
  have HK7 := Lib.hid (Kept.of_below (A := A) HA.out.a_lt HG7.out.b)
  have HB7 : Hid (BoxAt A W7 w.heap.size (.pointer (some ⟨A.a, 0, none⟩)) 96) := Lib.hid ⟨HG7.out.a, HA.out.foreign_new HG7.out.b (Nat.le_refl _) (lt_of_block HG7.out.a)⟩
  have c1 := cell0 HFV7.out
  by_cases hM : Mo < H.length + F.length
  · have hI : (Mo : Int) < (H.length : Int) + (F.length : Int) := by omega
    have HM := Lib.hid hM
    clear hM
    go_wp2
    go_ret2
    exact .inl ⟨by rw [HFE.out]; exact HM.out, rfl, ⟨_, HA7.out⟩, HK7.out⟩
  · have hI : ¬ (Mo : Int) < (H.length : Int) + (F.length : Int) := by omega
    have HM := Lib.hid hM
    clear hM
    have HFO : Hid (∀ g, Af = some ⟨g, 0, none⟩ → Foreign A W7 g) := Lib.hid fun g hg => HA.out.foreign_new HG7.out.b (HOW7.out.lt g (by rw [hg]; rfl)).1 (HOW7.out.lt g (by rw [hg]; rfl)).2
    have HAf := Lib.hid hAf
    clear hAf
    go_wp2
    go_loopw [32] (fun i wr => ∃ k : Nat, i = .int .i64 k ∧ k ≤ F.length ∧ Hid (ArNv wr B A V Mo N (H ++ F.take k) G nv6) ∧ Hid (Kept A W7 wr)) (fun i _ => F.length - (intOf i).toNat)
    case atStart => exact ⟨0, rfl, by omega, Lib.hid (by rw [List.take_zero, List.append_nil]; exact HA7.out), Lib.hid (Kept.refl _ _)⟩
    case round =>
      obtain ⟨k, rfl, hk, HAR, HKR⟩ := hrel
      have c0 := (HB7.out.kept HKR.out).cell
      by_cases hlt : k < F.length
      · have hI2 : (k : Int) < (F.length : Int) := by omega
        obtain ⟨g, rfl⟩ := HAf.out (by omega)
        obtain ⟨x, hx⟩ : ∃ x, F[k]? = some x := ⟨_, List.getElem?_eq_getElem hlt⟩
        have hxN := (HFK.out.2 x (List.mem_of_getElem? hx))
        have hxo := HOFF.out x (List.mem_of_getElem? hx)
        have hcx : wr.cell? ⟨g, k, none⟩ = some (.int .i32 x) := by
          rw [World.cell?_of_block (w := W7) ((HKR.out.same g (HFO.out g rfl)).1)]
          exact (HOW7.out.cellAt k (by omega)).trans (by rw [List.getElem?_map, hx]; rfl)
        have a6 : wr.cell? ⟨A.a, 6, none⟩ = some (.map (some A.h)) := HAR.out.cellAt rfl
        have hkx := key_i32 (a := (x : Int)) (by have := HAR.out.le; omega)
        have htk : F.take (k + 1) = F.take k ++ [x] := by rw [List.take_add_one, hx]; rfl
        have hxt : x ∉ F.take k := fun h => by
          obtain ⟨j, hj⟩ := List.getElem?_of_mem h
          rw [List.getElem?_take] at hj
          split at hj
          · rename_i hjk
            have := HFK.out.1
            obtain ⟨l1, e1⟩ := List.getElem?_eq_some_iff.1 hj
            obtain ⟨l2, e2⟩ := List.getElem?_eq_some_iff.1 hx
            have := (List.getElem_inj this).1 (e1.trans e2.symm)
            omega
          · cases hj
        have HPUT : Hid (putM (heldL (H ++ F.take k)) (.int .i32 x) (.bool true) = heldL (H ++ F.take (k + 1))) := Lib.hid (by
          rw [heldL_put _ _ (fun h => by rcases List.mem_append.1 h with h | h; exact hxo h; exact hxt h), htk, List.append_assoc])
        clear hx hxN hxo htk hxt
        go_wp2_with (refine wpList_mapAt rfl _ _ _ 119 4 rfl i32_keyed Tryz.underlying119 rfl (show MapAt _ _ wr _ _ from HAR.out.held) (.int .i32 x) (.bool true) _ rfl rfl hkx ?_; intro w8 hm8 hg8; rw [HPUT.out] at hm8; obtain ⟨p1, p2⟩ := HAR.out.hold hm8 hg8; have P1 := Lib.hid p1; have P2 := Lib.hid p2; clear p1 p2 hm8 hg8)
        exact ⟨⟨k + 1, by go_num, by omega, P1, Lib.hid (HKR.out.trans P2.out)⟩, by simp only [intOf]; omega⟩
      · obtain rfl : k = F.length := by omega
        have hI2 : ¬ (F.length : Int) < (F.length : Int) := by omega
        have har := HAR.out
        rw [List.take_length] at har
        have HARF := Lib.hid har
        have a5 : wr.cell? ⟨A.a, 5, none⟩ = some (.map (some A.g)) := har.cellAt rfl
        have hkg := key_i64 (a := (f : Int)) (by omega)
        clear har HAR
        go_wp2_with (refine wpList_mapAt rfl _ _ _ 118 4 rfl i64_keyed Tryz.underlying118 rfl (show MapAt _ _ wr _ _ from HARF.out.given) (.int .i64 f) (.bool true) _ rfl rfl hkg ?_; intro w8 hm8 hg8; rw [givenL_put] at hm8; obtain ⟨p1, p2⟩ := HARF.out.gift hm8 hg8; have P1 := Lib.hid p1; have P2 := Lib.hid p2; clear p1 p2 hm8 hg8)
        go_ret2
        exact .inr ⟨by rw [HFE.out]; have := HM.out; omega, rfl, by rw [HFE.out]; exact ⟨_, P1.out⟩, HK7.out.trans (HKR.out.trans P2.out)⟩
end Go.Proofs.YthhcaoljejifeaaGreat

/-
  Diagrams, plain: how many nodes a function's diagram has at most, told by what is left of the function behind each variable. No program in sight.
-/
namespace Go.Proofs.YthhcaoljejifeaaGreat

abbrev Fun := (Nat → Bool) → Bool
def mixS (v : Nat) (s t : Nat → Bool) : Nat → Bool := fun u => if u < v then s u else t u
theorem mixS_low {v u : Nat} (s t : Nat → Bool) (h : u < v) : mixS v s t u = s u := by simp [mixS, h]
theorem mixS_high {v u : Nat} (s t : Nat → Bool) (h : v ≤ u) : mixS v s t u = t u := by simp [mixS]; omega
/-- What is left of a function behind the variables ahead of v. -/
def cof (F : Fun) (v : Nat) (s : Nat → Bool) : Fun := fun t => F (mixS v s t)
def CutLe (F : Fun) (v k : Nat) : Prop := ∃ L : List Fun, L.length ≤ k ∧ ∀ s, cof F v s ∈ L
def Free (F : Fun) (v : Nat) : Prop := ∀ s b, F (put s v b) = F s
def sumTo (c : Nat → Nat) : Nat → Nat
  | 0 => 0
  | n + 1 => sumTo c n + c n
def Wid (F : Fun) (k : Nat) : Prop := ∃ c : Nat → Nat, (∀ v, v < 256 → Free F v ∨ CutLe F v (c v)) ∧ sumTo c 256 ≤ k
theorem CutLe.mono {F : Fun} {v k m : Nat} (h : CutLe F v k) (hk : k ≤ m) : CutLe F v m := by
  obtain ⟨L, a, b⟩ := h
  exact ⟨L, by omega, b⟩
theorem Wid.mono {F : Fun} {k m : Nat} (h : Wid F k) (hk : k ≤ m) : Wid F m := by
  obtain ⟨c, a, b⟩ := h
  exact ⟨c, a, by omega⟩
theorem sumTo_const (k : Nat) : ∀ n, sumTo (fun _ => k) n = n * k
  | 0 => by simp [sumTo]
  | n + 1 => by
    show sumTo (fun _ => k) n + k = _
    rw [sumTo_const k n, Nat.add_mul, Nat.one_mul]
theorem sumTo_cut (k m : Nat) : ∀ n, sumTo (fun v => if v < m then k else 0) n = min n m * k
  | 0 => by simp [sumTo]
  | n + 1 => by
    show sumTo _ n + (if n < m then k else 0) = _
    rw [sumTo_cut k m n]
    by_cases h : n < m
    · rw [if_pos h, Nat.min_eq_left (by omega), Nat.min_eq_left (by omega), Nat.add_mul, Nat.one_mul]
    · rw [if_neg h, Nat.min_eq_right (by omega), Nat.min_eq_right (by omega), Nat.add_zero]
/-- One of each. -/
theorem inj_len {α : Type} : ∀ (l : List Nat) (L : List α) (f : Nat → α), l.Nodup → (∀ i ∈ l, f i ∈ L) → (∀ i ∈ l, ∀ j ∈ l, f i = f j → i = j) → l.length ≤ L.length
  | [], _, _, _, _, _ => Nat.zero_le _
  | a :: r, L, f, hn, hm, hi => by
    obtain ⟨L1, L2, rfl⟩ := List.append_of_mem (hm a (List.mem_cons_self ..))
    rw [List.nodup_cons] at hn
    have ih := inj_len r (L1 ++ L2) f hn.2 (fun i h => by
      have h1 := hm i (List.mem_cons_of_mem _ h)
      have h2 : f i ≠ f a := fun e => hn.1 (hi i (List.mem_cons_of_mem _ h) a (List.mem_cons_self ..) e ▸ h)
      rcases List.mem_append.1 h1 with h1 | h1
      · exact List.mem_append_left _ h1
      · rcases List.mem_cons.1 h1 with h1 | h1
        · exact absurd h1 h2
        · exact List.mem_append_right _ h1) fun i h j h' => hi i (List.mem_cons_of_mem _ h) j (List.mem_cons_of_mem _ h')
    simp only [List.length_append, List.length_cons] at ih ⊢
    omega
theorem len_parts (p : Nat → Bool) : ∀ l : List Nat, l.length = (l.filter p).length + (l.filter fun i => !p i).length
  | [] => rfl
  | a :: r => by
    have := len_parts p r
    cases h : p a <;> simp [h] <;> omega
theorem by_label (lab c : Nat → Nat) : ∀ (n : Nat) (l : List Nat), (∀ i ∈ l, lab i < n) → (∀ v, v < n → (l.filter fun i => lab i = v).length ≤ c v) → l.length ≤ sumTo c n
  | 0, l, h, _ => by
    cases l with
    | nil => simp
    | cons a r => exact absurd (h a (List.mem_cons_self ..)) (by omega)
  | n + 1, l, h, hc => by
    have e := len_parts (fun i => decide (lab i < n)) l
    have ih := by_label lab c n (l.filter fun i => decide (lab i < n)) (fun i hi => by simpa using (List.mem_filter.1 hi).2) (fun v hv => by
      exact Nat.le_trans (List.filter_sublist.filter _).length_le (hc v (by omega)))
    have h2 : (l.filter fun i => !decide (lab i < n)).length ≤ c n := by
      refine Nat.le_trans (Nat.le_of_eq ?_) (hc n (by omega))
      congr 1
      refine List.filter_congr fun i hi => ?_
      have := h i hi
      by_cases hv : lab i < n
      · have : ¬ lab i = n := by omega
        simp [hv, this]
      · have : lab i = n := by omega
        simp [this]
    show l.length ≤ sumTo c n + c n
    omega
theorem Rch.lab {N : List Nd} (w : WF N) {i j : Nat} (h : Rch N i j) : (nd N i).v ≤ (nd N j).v := by
  induction h with
  | refl i => exact Nat.le_refl _
  | lo a b _ ih => have := w.vlo _ a b; omega
  | hi a b _ ih => have := w.vhi _ a b; omega
/-- A node beneath another one is what is left of it. -/
theorem Rch.path {N : List Nd} (w : WF N) {r i : Nat} (h : Rch N r i) (hr : r < N.length) : ∃ s, ∀ t, ev N (mixS (nd N i).v s t) r = ev N t i := by
  induction h with
  | refl i => exact ⟨fun _ => false, fun t => ev_agree w i _ _ hr fun v hv => mixS_high _ _ hv⟩
  | @lo r i a b h ih =>
    have h1 := w.lo _ a b
    have h2 := w.vlo _ a b
    have h3 := Rch.lab w h
    obtain ⟨s, hs⟩ := ih (by omega)
    refine ⟨put s (nd N r).v false, fun t => ?_⟩
    rw [ev_node w _ a b, mixS_low _ _ (by omega), put_same, if_neg (by simp), ← hs t]
    refine ev_agree w _ _ _ (by omega) fun v hv => ?_
    unfold mixS
    split
    · exact put_other (by omega)
    · rfl
  | @hi r i a b h ih =>
    have h1 := w.hi _ a b
    have h2 := w.vhi _ a b
    have h3 := Rch.lab w h
    obtain ⟨s, hs⟩ := ih (by omega)
    refine ⟨put s (nd N r).v true, fun t => ?_⟩
    rw [ev_node w _ a b, mixS_low _ _ (by omega), put_same, if_pos rfl, ← hs t]
    refine ev_agree w _ _ _ (by omega) fun v hv => ?_
    unfold mixS
    split
    · exact put_other (by omega)
    · rfl
theorem Rch.lt {N : List Nd} (w : WF N) {r i : Nat} (h : Rch N r i) (hr : r < N.length) : i < N.length := by
  have := h.le w hr
  omega
/-- A node hangs on its own variable. -/
theorem not_free {N : List Nd} (w : WF N) {r i : Nat} (hr : r < N.length) (h : Rch N r i) (h2 : 2 ≤ i) : ¬ Free (fun s => ev N s r) (nd N i).v := by
  intro hf
  have hi := h.lt w hr
  obtain ⟨s, hs⟩ := h.path w hr
  have a := w.lo i h2 hi
  have b := w.hi i h2 hi
  refine w.ne i h2 hi (w.canon (i + i) _ _ (by omega) (by omega) (by omega) (by omega) fun t => ?_)
  rw [← ev_lo w h2 hi t, ← ev_hi w h2 hi t, ← hs, ← hs]
  have e : ∀ b', mixS (nd N i).v s (put t (nd N i).v b') = put (mixS (nd N i).v s t) (nd N i).v b' := fun b' => funext fun u => by
    unfold mixS put
    by_cases h1 : u < (nd N i).v
    · have h3 : ¬ u = (nd N i).v := by omega
      simp [h1, h3]
    · simp [h1]
  rw [e, e]
  exact (hf (mixS (nd N i).v s t) false).trans (hf (mixS (nd N i).v s t) true).symm
/-- THE BOUND. -/
theorem wid_nodes {N : List Nd} (w : WF N) {r k : Nat} (hr : r < N.length) (hw : Wid (fun s => ev N s r) k) {l : List Nat} (hn : l.Nodup) (hl : ∀ i ∈ l, 2 ≤ i ∧ Rch N r i) : l.length ≤ k := by
  obtain ⟨c, hc, hk⟩ := hw
  refine Nat.le_trans (by_label (fun i => (nd N i).v) c 256 l (fun i hi => ?_) fun v hv => ?_) hk
  · obtain ⟨h2, h⟩ := hl i hi
    exact w.v_lt h2 (h.lt w hr)
  · have hm : ∀ i ∈ (l.filter fun i => decide ((nd N i).v = v)), i ∈ l ∧ (nd N i).v = v := fun i hi => by
      have := List.mem_filter.1 hi
      exact ⟨this.1, by simpa using this.2⟩
    rcases hc v hv with hf | ⟨L, hL, hc⟩
    · refine Nat.le_trans (Nat.le_of_eq ?_) (Nat.zero_le _)
      rw [List.length_eq_zero_iff, List.eq_nil_iff_forall_not_mem]
      intro i hi
      obtain ⟨h1, rfl⟩ := hm i hi
      exact not_free w hr (hl i h1).2 (hl i h1).1 hf
    · refine Nat.le_trans (inj_len _ L (fun i s => ev N s i) (hn.filter _) (fun i hi => ?_) fun i hi j hj e => ?_) hL
      · obtain ⟨h1, rfl⟩ := hm i hi
        obtain ⟨s, hs⟩ := (hl i h1).2.path w hr
        have := hc s
        rw [show cof (fun s => ev N s r) (nd N i).v s = fun t => ev N t i from funext hs] at this
        exact this
      · have h1 := hl i (hm i hi).1
        have h2 := hl j (hm j hj).1
        have := h1.2.lt w hr
        have := h2.2.lt w hr
        exact w.canon (i + j) i j (by omega) (by omega) (by omega) (by omega) fun s => congrFun e s
/-- What ite may leave. -/
theorem IteTo.len {N N' : List Nd} {f g h r k : Nat} (two : 2 ≤ N.length) (t : IteTo N f g h r N') (hw : Wid (fun s => if ev N s f then ev N s g else ev N s h) k) : N'.length ≤ N.length + k := by
  have hw' : Wid (fun s => ev N' s r) k := by
    rw [show (fun s => ev N' s r) = fun s => if ev N s f then ev N s g else ev N s h from funext t.sem]
    exact hw
  have hn : ((List.range (N'.length - N.length)).map (· + N.length)).Nodup := by
    refine List.Pairwise.map _ (fun a b h => ?_) List.nodup_range
    omega
  have := wid_nodes t.wf t.lt hw' hn (fun i hi => by
    simp only [List.mem_map, List.mem_range] at hi
    obtain ⟨a, ha, rfl⟩ := hi
    exact ⟨by omega, t.new _ (by omega) (by omega)⟩)
  simp at this
  omega
theorem Free.op {F G H : Fun} {v : Nat} (o : Bool → Bool → Bool → Bool) (a : Free F v) (b : Free G v) (c : Free H v) : Free (fun s => o (F s) (G s) (H s)) v := fun s x => by
  show o (F (put s v x)) (G (put s v x)) (H (put s v x)) = _
  rw [a, b, c]
theorem fm_len {α β : Type} (f : α → List β) (k : Nat) (h : ∀ x, (f x).length = k) : ∀ l : List α, (l.flatMap f).length = l.length * k
  | [] => by simp
  | a :: r => by rw [List.flatMap_cons, List.length_append, h, fm_len f k h r, List.length_cons, Nat.add_mul, Nat.one_mul, Nat.add_comm]
theorem CutLe.op {F G H : Fun} {v x y z : Nat} (o : Bool → Bool → Bool → Bool) (a : CutLe F v x) (b : CutLe G v y) (c : CutLe H v z) : CutLe (fun s => o (F s) (G s) (H s)) v (x * (y * z)) := by
  obtain ⟨A, a1, a2⟩ := a
  obtain ⟨B, b1, b2⟩ := b
  obtain ⟨C, c1, c2⟩ := c
  refine ⟨A.flatMap fun f => B.flatMap fun g => C.map fun h => fun s => o (f s) (g s) (h s), ?_, fun s => ?_⟩
  · rw [fm_len _ (B.length * C.length) fun f => fm_len _ C.length (fun g => List.length_map ..) B]
    exact Nat.mul_le_mul a1 (Nat.mul_le_mul b1 c1)
  · exact List.mem_flatMap.2 ⟨_, a2 s, List.mem_flatMap.2 ⟨_, b2 s, List.mem_map.2 ⟨_, c2 s, rfl⟩⟩⟩
theorem Free.op2 {F G : Fun} {v : Nat} (o : Bool → Bool → Bool) (a : Free F v) (b : Free G v) : Free (fun s => o (F s) (G s)) v := fun s x => by
  show o (F (put s v x)) (G (put s v x)) = _
  rw [a, b]
theorem CutLe.op2 {F G : Fun} {v x y : Nat} (o : Bool → Bool → Bool) (a : CutLe F v x) (b : CutLe G v y) : CutLe (fun s => o (F s) (G s)) v (x * y) := by
  obtain ⟨A, a1, a2⟩ := a
  obtain ⟨B, b1, b2⟩ := b
  refine ⟨A.flatMap fun f => B.map fun g => fun s => o (f s) (g s), ?_, fun s => ?_⟩
  · rw [fm_len _ B.length fun f => List.length_map ..]
    exact Nat.mul_le_mul a1 b1
  · exact List.mem_flatMap.2 ⟨_, a2 s, List.mem_map.2 ⟨_, b2 s, rfl⟩⟩
theorem Free.op1 {F : Fun} {v : Nat} (o : Bool → Bool) (a : Free F v) : Free (fun s => o (F s)) v := fun s x => by
  show o (F (put s v x)) = _
  rw [a]
theorem CutLe.op1 {F : Fun} {v x : Nat} (o : Bool → Bool) (a : CutLe F v x) : CutLe (fun s => o (F s)) v x := by
  obtain ⟨A, a1, a2⟩ := a
  exact ⟨A.map fun f => fun s => o (f s), by rw [List.length_map]; exact a1, fun s => List.mem_map.2 ⟨_, a2 s, rfl⟩⟩
theorem Free.const (b : Bool) (v : Nat) : Free (fun _ => b) v := fun _ _ => rfl
theorem CutLe.const (b : Bool) (v : Nat) : CutLe (fun _ => b) v 1 := ⟨[fun _ => b], Nat.le_refl _, fun _ => List.mem_singleton.2 rfl⟩
/-- F hangs on variables from a to b alone. -/
def Hangs (F : Fun) (a b : Nat) : Prop := ∀ s t : Nat → Bool, (∀ u, a ≤ u → u < b → s u = t u) → F s = F t
theorem Hangs.free {F : Fun} {a b v : Nat} (h : Hangs F a b) (hv : v < a ∨ b ≤ v) : Free F v := fun s x => h _ _ fun u h1 h2 => put_other (by omega)
theorem Hangs.mono {F : Fun} {a b a' b' : Nat} (h : Hangs F a b) (ha : a' ≤ a) (hb : b ≤ b') : Hangs F a' b' := fun s t e => h s t fun u h1 h2 => e u (by omega) (by omega)
theorem Hangs.ahead {F : Fun} {a b v : Nat} (h : Hangs F a b) (hv : v ≤ a) : CutLe F v 1 :=
  ⟨[F], Nat.le_refl _, fun s => List.mem_singleton.2 (funext fun t => h _ _ fun u h1 h2 => mixS_high _ _ (by omega))⟩
theorem Hangs.behind {F : Fun} {a b v : Nat} (h : Hangs F a b) (hv : b ≤ v) : CutLe F v 2 := by
  refine ⟨[fun _ => false, fun _ => true], by simp, fun s => ?_⟩
  have e : cof F v s = fun _ => F s := funext fun t => h _ _ fun u h1 h2 => mixS_low _ _ (by omega)
  rw [e]
  cases F s <;> simp
theorem Hangs.op {F G H : Fun} {a b : Nat} (o : Bool → Bool → Bool → Bool) (f : Hangs F a b) (g : Hangs G a b) (h : Hangs H a b) : Hangs (fun s => o (F s) (G s) (H s)) a b := fun s t e => by
  show o (F s) (G s) (H s) = _
  rw [f s t e, g s t e, h s t e]
theorem Hangs.op2 {F G : Fun} {a b : Nat} (o : Bool → Bool → Bool) (f : Hangs F a b) (g : Hangs G a b) : Hangs (fun s => o (F s) (G s)) a b := fun s t e => by
  show o (F s) (G s) = _
  rw [f s t e, g s t e]
theorem Hangs.op1 {F : Fun} {a b : Nat} (o : Bool → Bool) (f : Hangs F a b) : Hangs (fun s => o (F s)) a b := fun s t e => by
  show o (F s) = _
  rw [f s t e]
theorem Hangs.const (x : Bool) (a b : Nat) : Hangs (fun _ => x) a b := fun _ _ _ => rfl
theorem Hangs.var (v : Nat) : Hangs (fun s => s v) v (v + 1) := fun s t e => e v (Nat.le_refl _) (by omega)
theorem Wid.of_hangs {F : Fun} {a b k : Nat} (h : Hangs F a b) (hb : b ≤ 256) (hc : ∀ v, a ≤ v → v < b → CutLe F v k) : Wid F (b * k) := by
  refine ⟨fun v => if v < b then k else 0, fun v hv => ?_, by rw [sumTo_cut, Nat.min_eq_right hb]; exact Nat.le_refl _⟩
  by_cases h1 : v < b
  · by_cases h2 : a ≤ v
    · refine .inr ?_
      simp only [h1, if_true]
      exact hc v h2 h1
    · exact .inl (h.free (.inl (by omega)))
  · exact .inl (h.free (.inr (by omega)))
/-- Only the variables of the nodes beneath count. -/
theorem ev_sup {N : List Nd} (w : WF N) : ∀ (i : Nat) (s t : Nat → Bool), i < N.length → (∀ j, 2 ≤ j → Rch N i j → s (nd N j).v = t (nd N j).v) → ev N s i = ev N t i := by
  intro i
  induction i using Nat.strongRecOn with
  | _ i ih =>
    intro s t hi hst
    rcases Nat.lt_or_ge i 2 with h2 | h2
    · obtain rfl | rfl : i = 0 ∨ i = 1 := by omega
      · rfl
      · rfl
    · rw [ev_node w s h2 hi, ev_node w t h2 hi, hst i h2 (.refl i)]
      have a := w.lo i h2 hi
      have b := w.hi i h2 hi
      rw [ih _ a s t (by omega) (fun j hj h => hst j hj (.lo h2 hi h)), ih _ b s t (by omega) (fun j hj h => hst j hj (.hi h2 hi h))]
theorem free_of {N : List Nd} (w : WF N) {i v : Nat} (hi : i < N.length) (h : ∀ j, 2 ≤ j → Rch N i j → (nd N j).v ≠ v) : Free (fun s => ev N s i) v := fun _ _ =>
  ev_sup w i _ _ hi fun j hj hr => put_other (h j hj hr)
end Go.Proofs.YthhcaoljejifeaaGreat

/-
  What give's walk comes to: just the nodes beneath that are not held; how many these are.
-/
namespace Go.Proofs.YthhcaoljejifeaaGreat

theorem dfs_sub {N : List Nd} (H : List Nat) : ∀ (n f : Nat) (F : List Nat), ∀ i ∈ F, i ∈ dfs N H n f F
  | 0, _, _, _, h => h
  | n + 1, f, F, i, h => by
    unfold dfs
    by_cases hc : f < 2 ∨ f ∈ F ∨ f ∈ H
    · rw [if_pos hc]; exact h
    · rw [if_neg hc]
      exact dfs_sub H n _ _ i (dfs_sub H n _ _ i (List.mem_append_left _ h))
theorem dfs_rch {N : List Nd} (w : WF N) (H : List Nat) : ∀ (n f : Nat) (F : List Nat), f < N.length → ∀ i ∈ dfs N H n f F, i ∈ F ∨ 2 ≤ i ∧ Rch N f i
  | 0, _, _, _, _, h => .inl h
  | n + 1, f, F, hf, i, h => by
    unfold dfs at h
    by_cases hc : f < 2 ∨ f ∈ F ∨ f ∈ H
    · rw [if_pos hc] at h; exact .inl h
    · rw [if_neg hc] at h
      have h2 : 2 ≤ f := by omega
      have a := w.lo f h2 hf
      have b := w.hi f h2 hf
      rcases dfs_rch w H n _ _ (by omega) i h with h | ⟨h3, h⟩
      · rcases dfs_rch w H n _ _ (by omega) i h with h | ⟨h3, h⟩
        · rcases List.mem_append.1 h with h | h
          · exact .inl h
          · obtain rfl := List.mem_singleton.1 h
            exact .inr ⟨h2, .refl i⟩
        · exact .inr ⟨h3, .lo h2 hf h⟩
      · exact .inr ⟨h3, .hi h2 hf h⟩
/-- All that stands beneath one of the list is an end, or in the list. -/
def Cl (N : List Nd) (H : List Nat) : Prop := ∀ i ∈ H, ((nd N i).lo < 2 ∨ (nd N i).lo ∈ H) ∧ ((nd N i).hi < 2 ∨ (nd N i).hi ∈ H)
theorem dfs_cl {N : List Nd} (w : WF N) (H : List Nat) : ∀ (n f : Nat) (F : List Nat), f < n → f < N.length →
    (f < 2 ∨ f ∈ dfs N H n f F ∨ f ∈ H) ∧ ∀ i ∈ dfs N H n f F, i ∈ F ∨ ((nd N i).lo < 2 ∨ (nd N i).lo ∈ dfs N H n f F ∨ (nd N i).lo ∈ H) ∧ ((nd N i).hi < 2 ∨ (nd N i).hi ∈ dfs N H n f F ∨ (nd N i).hi ∈ H)
  | 0, _, _, h, _ => by omega
  | n + 1, f, F, hn, hf => by
    have hu : dfs N H (n + 1) f F = if f < 2 ∨ f ∈ F ∨ f ∈ H then F else dfs N H n (nd N f).hi (dfs N H n (nd N f).lo (F ++ [f])) := rfl
    by_cases hc : f < 2 ∨ f ∈ F ∨ f ∈ H
    · rw [hu, if_pos hc]
      exact ⟨hc, fun i h => .inl h⟩
    · rw [hu, if_neg hc]
      have h2 : 2 ≤ f := by omega
      have a := w.lo f h2 hf
      have b := w.hi f h2 hf
      obtain ⟨p1, p2⟩ := dfs_cl w H n (nd N f).lo (F ++ [f]) (by omega) (by omega)
      obtain ⟨q1, q2⟩ := dfs_cl w H n (nd N f).hi (dfs N H n (nd N f).lo (F ++ [f])) (by omega) (by omega)
      have sub := dfs_sub (N := N) H n (nd N f).hi (dfs N H n (nd N f).lo (F ++ [f]))
      have sub1 := dfs_sub (N := N) H n (nd N f).lo (F ++ [f])
      have up : ∀ c, (c < 2 ∨ c ∈ dfs N H n (nd N f).lo (F ++ [f]) ∨ c ∈ H) → (c < 2 ∨ c ∈ dfs N H n (nd N f).hi (dfs N H n (nd N f).lo (F ++ [f])) ∨ c ∈ H) := fun c h => by
        rcases h with h | h | h
        · exact .inl h
        · exact .inr (.inl (sub c h))
        · exact .inr (.inr h)
      refine ⟨.inr (.inl (sub f (sub1 f (by simp)))), fun i h => ?_⟩
      rcases q2 i h with h | h
      · rcases p2 i h with h | h
        · rcases List.mem_append.1 h with h | h
          · exact .inl h
          · obtain rfl := List.mem_singleton.1 h
            exact .inr ⟨up _ p1, q1⟩
        · exact .inr ⟨up _ h.1, up _ h.2⟩
      · exact .inr h
theorem newL_cl {N : List Nd} (w : WF N) {H : List Nat} (hH : Cl N H) {f : Nat} (hf : f < N.length) : Cl N (H ++ newL N H f) ∧ (2 ≤ f → f ∈ H ++ newL N H f) := by
  obtain ⟨p, q⟩ := dfs_cl w H (f + 1) f [] (by omega) hf
  have tr : ∀ c, (c < 2 ∨ c ∈ newL N H f ∨ c ∈ H) → (c < 2 ∨ c ∈ H ++ newL N H f) := fun c h => by
    rcases h with h | h | h
    · exact .inl h
    · exact .inr (List.mem_append_right _ h)
    · exact .inr (List.mem_append_left _ h)
  refine ⟨fun i hi => ?_, fun h2 => ?_⟩
  · rcases List.mem_append.1 hi with h | h
    · obtain ⟨a, b⟩ := hH i h
      exact ⟨tr _ (by rcases a with a | a; exact .inl a; exact .inr (.inr a)), tr _ (by rcases b with a | a; exact .inl a; exact .inr (.inr a))⟩
    · rcases q i h with h | h
      · cases h
      · exact ⟨tr _ h.1, tr _ h.2⟩
  · rcases tr f p with h | h
    · omega
    · exact h
theorem Cl.rch {N : List Nd} {H : List Nat} (hH : Cl N H) {f i : Nat} (h : Rch N f i) : f ∈ H → 2 ≤ i → i ∈ H := by
  induction h with
  | refl i => intro a _; exact a
  | @lo f i a b h ih =>
    intro hf h2
    rcases (hH f hf).1 with hc | hc
    · have := h.low hc; omega
    · exact ih hc h2
  | @hi f i a b h ih =>
    intro hf h2
    rcases (hH f hf).2 with hc | hc
    · have := h.low hc; omega
    · exact ih hc h2
theorem Cl.ext {N N' : List Nd} (e : Ext N N') {H : List Nat} (hH : Cl N H) (hl : ∀ i ∈ H, i < N.length) : Cl N' H := fun i hi => by
  rw [e.nd (hl i hi)]
  exact hH i hi
/-- below's list: all inner nodes beneath. -/
theorem mem_all {N : List Nd} (w : WF N) {f : Nat} (hf : f < N.length) (i : Nat) : i ∈ dfs N [] (f + 1) f [] ↔ 2 ≤ i ∧ Rch N f i := by
  constructor
  · intro h
    rcases dfs_rch w [] _ _ _ hf i h with h | h
    · cases h
    · exact h
  · rintro ⟨h2, h⟩
    have hc : Cl N (dfs N [] (f + 1) f []) := fun i hi => by
      rcases (dfs_cl w [] (f + 1) f [] (by omega) hf).2 i hi with h | ⟨a, b⟩
      · cases h
      · refine ⟨?_, ?_⟩
        · rcases a with a | a | a
          · exact .inl a
          · exact .inr a
          · cases a
        · rcases b with a | a | a
          · exact .inl a
          · exact .inr a
          · cases a
    have h0 : f ∈ dfs N [] (f + 1) f [] := by
      rcases (dfs_cl w [] (f + 1) f [] (by omega) hf).1 with a | a | a
      · have := h.low a; omega
      · exact a
      · cases a
    exact hc.rch h h0 h2
theorem newL_wid {N : List Nd} (w : WF N) (H : List Nat) {r k : Nat} (hr : r < N.length) (hw : Wid (fun s => ev N s r) k) : (newL N H r).length ≤ k :=
  wid_nodes w hr hw (newL_ok w H hr).1 fun i hi => by
    rcases dfs_rch w H _ _ _ hr i hi with h | h
    · cases h
    · exact h
theorem newL_old {N : List Nd} {H : List Nat} {r : Nat} (h : r < 2 ∨ r ∈ H) : newL N H r = [] := by
  show (if r < 2 ∨ r ∈ ([] : List Nat) ∨ r ∈ H then [] else _) = []
  rw [if_pos (by rcases h with h | h; exact .inl h; exact .inr (.inr h))]
theorem dfs_stop {N : List Nd} {H : List Nat} {n f : Nat} {F : List Nat} (h : f < 2 ∨ f ∈ H) : dfs N H n f F = F := by
  cases n with
  | zero => rfl
  | succ n =>
    show (if f < 2 ∨ f ∈ F ∨ f ∈ H then F else _) = F
    rw [if_pos (by rcases h with h | h; exact .inl h; exact .inr (.inr h))]
theorem newL_step {N : List Nd} {H : List Nat} {r : Nat} (hl : (nd N r).lo < 2 ∨ (nd N r).lo ∈ H) (hh : (nd N r).hi < 2 ∨ (nd N r).hi ∈ H) : (newL N H r).length ≤ 1 := by
  show (if r < 2 ∨ r ∈ ([] : List Nat) ∨ r ∈ H then [] else dfs N H r (nd N r).hi (dfs N H r (nd N r).lo ([] ++ [r]))).length ≤ 1
  split
  · simp
  · rw [dfs_stop hl, dfs_stop hh]
    simp
/-- How the nodes, and the held, may grow by an answer that is F. -/
def Grow (N : List Nd) (H : List Nat) (F : Fun) (k m : Nat) : Prop :=
  ∀ r N', Ext N N' → WF N' → r < N'.length → (∀ s, ev N' s r = F s) → (∀ i, N.length ≤ i → i < N'.length → Rch N' r i) → N'.length ≤ N.length + k ∧ (newL N' H r).length ≤ m
theorem new_len {N N' : List Nd} {r k : Nat} (two : 2 ≤ N.length) (w : WF N') (hr : r < N'.length) (hw : Wid (fun s => ev N' s r) k) (hn : ∀ i, N.length ≤ i → i < N'.length → Rch N' r i) : N'.length ≤ N.length + k := by
  have hd : ((List.range (N'.length - N.length)).map (· + N.length)).Nodup := by
    refine List.Pairwise.map _ (fun a b h => ?_) List.nodup_range
    omega
  have := wid_nodes w hr hw hd (fun i hi => by
    simp only [List.mem_map, List.mem_range] at hi
    obtain ⟨a, ha, rfl⟩ := hi
    exact ⟨by omega, hn _ (by omega) (by omega)⟩)
  simp at this
  omega
theorem Grow.wid {N : List Nd} {H : List Nat} {F : Fun} {k : Nat} (two : 2 ≤ N.length) (hw : Wid F k) : Grow N H F k k := fun r N' e w hr hs hn => by
  have hw' : Wid (fun s => ev N' s r) k := by
    rw [show (fun s => ev N' s r) = F from funext hs]
    exact hw
  exact ⟨new_len two w hr hw' hn, newL_wid w H hr hw'⟩
theorem Grow.mono {N : List Nd} {H : List Nat} {F : Fun} {k m k' m' : Nat} (h : Grow N H F k m) (hk : k ≤ k') (hm : m ≤ m') : Grow N H F k' m' := fun r N' e w hr hs hn => by
  have := h r N' e w hr hs hn
  omega
/-- A function that has a node. -/
theorem Grow.old {N : List Nd} {H : List Nat} {g : Nat} (w : WF N) (hg : g < N.length) (hh : g < 2 ∨ g ∈ H) : Grow N H (fun s => ev N s g) 0 0 := fun r N' e w' hr hs hn => by
  have hl := e.len
  have : r = g := w'.canon (r + g) r g (by omega) (by omega) hr (by omega) fun s => (hs s).trans (e.ev w w' s hg).symm
  subst this
  rw [newL_old hh]
  refine ⟨?_, Nat.le_refl _⟩
  rcases Nat.lt_or_ge N.length N'.length with h | h
  · have := (hn N.length (Nat.le_refl _) h).le w' hr
    omega
  · omega
/-- One variable ahead of two functions that have nodes. -/
theorem Grow.step {N : List Nd} {H : List Nat} {v g h : Nat} (w : WF N) (hv : v < 256) (hg : g < N.length) (hh : h < N.length) (gv : v < (nd N g).v) (hv' : v < (nd N h).v) (gh : g < 2 ∨ g ∈ H) (hhh : h < 2 ∨ h ∈ H) : Grow N H (fun s => if s v then ev N s g else ev N s h) 1 1 := fun r N' e w' hr hs hn => by
  have hs : ∀ s, ev N' s r = if s v then ev N s g else ev N s h := hs
  have hl := e.len
  by_cases hgh : g = h
  · subst hgh
    have := Grow.old (H := H) w hg gh r N' e w' hr (fun s => by rw [hs]; cases s v <;> rfl) hn
    omega
  · have low : ∀ i, i < N.length → ∀ j, Rch N' i j → j < N.length := fun i hi j hj => by
      have := hj.le w' (by omega)
      omega
    have h2 : 2 ≤ r := by
      rcases Nat.lt_or_ge r 2 with h2 | h2
      · exfalso
        refine hgh (w'.canon (g + h) g h (by omega) (by omega) (by omega) (by omega) fun s => ?_)
        have e1 := hs (put s v true)
        have e2 := hs (put s v false)
        rw [put_same, if_pos rfl] at e1
        rw [put_same, if_neg (by simp)] at e2
        rw [e.ev w w' s hg, e.ev w w' s hh, ← ev_put w hg gv s true, ← ev_put w hh hv' s false, ← e1, ← e2]
        obtain rfl | rfl : r = 0 ∨ r = 1 := by omega
        · rfl
        · rfl
      · exact h2
    have hlab : (nd N' r).v = v := by
      have hle : v ≤ (nd N' r).v := w'.level hr (by omega) fun s t hst => by
        rw [hs, hs, hst v (Nat.le_refl _), ev_agree w g s t hg fun u hu => hst u (by omega), ev_agree w h s t hh fun u hu => hst u (by omega)]
      rcases Nat.lt_or_ge v (nd N' r).v with hlt | hge
      · exfalso
        refine hgh (w'.canon (g + h) g h (by omega) (by omega) (by omega) (by omega) fun s => ?_)
        have e1 := hs (put s v true)
        have e2 := hs (put s v false)
        rw [put_same, if_pos rfl] at e1
        rw [put_same, if_neg (by simp)] at e2
        rw [e.ev w w' s hg, e.ev w w' s hh, ← ev_put w hg gv s true, ← ev_put w hh hv' s false, ← e1, ← e2, ev_put w' hr hlt, ev_put w' hr hlt]
      · omega
    have a := w'.lo r h2 hr
    have b := w'.hi r h2 hr
    have hlo : (nd N' r).lo = h := w'.canon ((nd N' r).lo + h) _ _ (by omega) (by omega) (by omega) (by omega) fun s => by
      rw [← ev_lo w' h2 hr s, hlab, hs, put_same, if_neg (by simp), ev_put w hh hv', e.ev w w' s hh]
    have hhi : (nd N' r).hi = g := w'.canon ((nd N' r).hi + g) _ _ (by omega) (by omega) (by omega) (by omega) fun s => by
      rw [← ev_hi w' h2 hr s, hlab, hs, put_same, if_pos rfl, ev_put w hg gv, e.ev w w' s hg]
    refine ⟨?_, newL_step (by rw [hlo]; exact hhh) (by rw [hhi]; exact gh)⟩
    have one : ∀ i, N.length ≤ i → i < N'.length → i = r := fun i h1 h3 => by
      have hr' := hn i h1 h3
      cases hr' with
      | refl => rfl
      | lo _ _ h' => rw [hlo] at h'; have := low _ hh _ h'; omega
      | hi _ _ h' => rw [hhi] at h'; have := low _ hg _ h'; omega
    rcases Nat.lt_or_ge (N.length + 1) N'.length with h4 | h4
    · have := one N.length (Nat.le_refl _) (by omega)
      have := one (N.length + 1) (by omega) h4
      omega
    · exact h4
theorem Grow.cap {N : List Nd} {H : List Nat} {f g h k m : Nat} (hg : Grow N H (fun s => if ev N s f then ev N s g else ev N s h) k m) (hk : N.length + k ≤ 2147483647) : Cap N f g h := fun r N' t => by
  have := hg r N' t.ext t.wf t.lt t.sem t.new
  omega
end Go.Proofs.YthhcaoljejifeaaGreat

/-
  How many nodes a function's diagram has at most: only what hangs on its own variable is counted. No program in sight.
-/
namespace Go.Proofs.YthhcaoljejifeaaGreat

/-- At each variable v the functions that are left behind the variables ahead, and hang on v, are c v at most. -/
def WidB (F : Fun) (k : Nat) : Prop := ∃ c : Nat → Nat, (∀ v, v < 256 → ∃ L : List Fun, L.length ≤ c v ∧ ∀ s, Free (cof F v s) v ∨ cof F v s ∈ L) ∧ sumTo c 256 ≤ k
theorem WidB.mono {F : Fun} {k m : Nat} (h : WidB F k) (hk : k ≤ m) : WidB F m := by
  obtain ⟨c, a, b⟩ := h
  exact ⟨c, a, by omega⟩
theorem wid_nodesB {N : List Nd} (w : WF N) {r k : Nat} (hr : r < N.length) (hw : WidB (fun s => ev N s r) k) {l : List Nat} (hn : l.Nodup) (hl : ∀ i ∈ l, 2 ≤ i ∧ Rch N r i) : l.length ≤ k := by
  obtain ⟨c, hc, hk⟩ := hw
  refine Nat.le_trans (by_label (fun i => (nd N i).v) c 256 l (fun i hi => ?_) fun v hv => ?_) hk
  · obtain ⟨h2, h⟩ := hl i hi
    exact w.v_lt h2 (h.lt w hr)
  · have hm : ∀ i ∈ (l.filter fun i => decide ((nd N i).v = v)), i ∈ l ∧ (nd N i).v = v := fun i hi => by
      have := List.mem_filter.1 hi
      exact ⟨this.1, by simpa using this.2⟩
    obtain ⟨L, hL, hc⟩ := hc v hv
    refine Nat.le_trans (inj_len _ L (fun i s => ev N s i) (hn.filter _) (fun i hi => ?_) fun i hi j hj e => ?_) hL
    · obtain ⟨h1, rfl⟩ := hm i hi
      obtain ⟨s, hs⟩ := (hl i h1).2.path w hr
      have e : cof (fun s => ev N s r) (nd N i).v s = fun t => ev N t i := funext hs
      rcases hc s with h | h
      · rw [e] at h
        exact absurd h (not_free w ((hl i h1).2.lt w hr) (.refl i) (hl i h1).1)
      · rw [e] at h; exact h
    · have h1 := hl i (hm i hi).1
      have h2 := hl j (hm j hj).1
      have := h1.2.lt w hr
      have := h2.2.lt w hr
      exact w.canon (i + j) i j (by omega) (by omega) (by omega) (by omega) fun s => congrFun e s
theorem newL_widB {N : List Nd} (w : WF N) (H : List Nat) {r k : Nat} (hr : r < N.length) (hw : WidB (fun s => ev N s r) k) : (newL N H r).length ≤ k :=
  wid_nodesB w hr hw (newL_ok w H hr).1 fun i hi => by
    rcases dfs_rch w H _ _ _ hr i hi with h | h
    · cases h
    · exact h
theorem Grow.widB {N : List Nd} {H : List Nat} {F : Fun} {k : Nat} (two : 2 ≤ N.length) (hw : WidB F k) : Grow N H F k k := fun r N' e w hr hs hn => by
  have hw' : WidB (fun s => ev N' s r) k := by rw [show (fun s => ev N' s r) = F from funext hs]; exact hw
  refine ⟨?_, newL_widB w H hr hw'⟩
  have hnd : ((List.range (N'.length - N.length)).map (· + N.length)).Nodup := by
    refine List.Pairwise.map _ (fun a b h => ?_) List.nodup_range
    omega
  have := wid_nodesB w hr hw' hnd (fun i hi => by
    simp only [List.mem_map, List.mem_range] at hi
    obtain ⟨a, ha, rfl⟩ := hi
    exact ⟨by omega, hn _ (by omega) (by omega)⟩)
  simp at this
  omega
/-- The even variables of a stretch. -/
theorem sumTo_even (k a b : Nat) : ∀ n, sumTo (fun v => if v % 2 = 0 ∧ a ≤ v / 2 ∧ v / 2 < b then k else 0) n ≤ (min ((n + 1) / 2) b - a) * k
  | 0 => by simp [sumTo]
  | n + 1 => by
    show sumTo _ n + (if n % 2 = 0 ∧ a ≤ n / 2 ∧ n / 2 < b then k else 0) ≤ _
    have ih := sumTo_even k a b n
    by_cases h : n % 2 = 0 ∧ a ≤ n / 2 ∧ n / 2 < b
    · rw [if_pos h]
      have e : min ((n + 1 + 1) / 2) b - a = (min ((n + 1) / 2) b - a) + 1 := by omega
      rw [e, Nat.add_mul, Nat.one_mul]
      omega
    · rw [if_neg h, Nat.add_zero]
      exact Nat.le_trans ih (Nat.mul_le_mul_right _ (by omega))
theorem sumTo_add (c d : Nat → Nat) : ∀ n, sumTo (fun v => c v + d v) n = sumTo c n + sumTo d n
  | 0 => rfl
  | n + 1 => by
    show sumTo _ n + (c n + d n) = (sumTo c n + c n) + (sumTo d n + d n)
    rw [sumTo_add c d n]; omega
end Go.Proofs.YthhcaoljejifeaaGreat

/-
  Functions of which of a list's boxes hold a header: how many nodes their diagrams have at most. No program in sight.
-/
namespace Go.Proofs.YthhcaoljejifeaaGreat

/-- A field's first m bits, as a number. -/
def valF (a : Nat) (s : Nat → Bool) : Nat → Nat
  | 0 => 0
  | m + 1 => 2 * valF a s m + (if s (2 * (a + m)) then 1 else 0)
/-- d bits behind the first m. -/
def tailF (a : Nat) (s : Nat → Bool) (m : Nat) : Nat → Nat
  | 0 => 0
  | d + 1 => 2 * tailF a s m d + (if s (2 * (a + m + d)) then 1 else 0)
theorem valF_split (a : Nat) (s : Nat → Bool) (m : Nat) : ∀ d, valF a s (m + d) = valF a s m * 2 ^ d + tailF a s m d
  | 0 => by simp [tailF]
  | d + 1 => by
    show 2 * valF a s (m + d) + (if s (2 * (a + (m + d))) then 1 else 0) = _ * 2 ^ (d + 1) + (2 * tailF a s m d + (if s (2 * (a + m + d)) then 1 else 0))
    rw [valF_split a s m d, ← Nat.add_assoc a m d, Nat.pow_succ, ← Nat.mul_assoc]
    omega
theorem tailF_lt (a : Nat) (s : Nat → Bool) (m : Nat) : ∀ d, tailF a s m d < 2 ^ d
  | 0 => by simp [tailF]
  | d + 1 => by
    have := tailF_lt a s m d
    show 2 * tailF a s m d + (if s (2 * (a + m + d)) then 1 else 0) < 2 ^ (d + 1)
    rw [Nat.pow_succ]
    split <;> omega
theorem valF_lt (a : Nat) (s : Nat → Bool) (n : Nat) : valF a s n < 2 ^ n := by
  have h := valF_split a s 0 n
  rw [Nat.zero_add] at h
  have := tailF_lt a s 0 n
  rw [h]
  show 0 * 2 ^ n + _ < _
  omega
theorem valF_agree {a : Nat} {s t : Nat → Bool} : ∀ {m : Nat}, (∀ j, j < m → s (2 * (a + j)) = t (2 * (a + j))) → valF a s m = valF a t m
  | 0, _ => rfl
  | m + 1, h => by
    show 2 * valF a s m + _ = 2 * valF a t m + _
    rw [valF_agree (m := m) fun j hj => h j (by omega), h m (by omega)]
theorem tailF_agree {a : Nat} {s t : Nat → Bool} {m : Nat} : ∀ {d : Nat}, (∀ j, m ≤ j → j < m + d → s (2 * (a + j)) = t (2 * (a + j))) → tailF a s m d = tailF a t m d
  | 0, _ => rfl
  | d + 1, h => by
    show 2 * tailF a s m d + _ = 2 * tailF a t m d + _
    rw [tailF_agree (d := d) fun j h1 h2 => h j h1 (by omega)]
    have := h (m + d) (by omega) (by omega)
    rw [← Nat.add_assoc] at this
    rw [this]
/-- A field: where it lies, its bits, how many marks an index has at most, what an index lets, the marks, how lists of indices part. -/
structure Fd where
  a : Nat
  n : Nat
  e : Nat
  P : Nat → Nat → Bool
  E : Nat → List Nat
  L : (Nat → Nat) → Nat → Nat
def Mono (w : Nat → Nat) : Prop := ∀ i j, i ≤ j → w i ≤ w j
structure FdOk (f : Fd) : Prop where
  el : ∀ i, (f.E i).length ≤ f.e
  flat : ∀ i d y x x', y ∉ (f.E i).map (· / 2 ^ d) → x / 2 ^ d = y → x' / 2 ^ d = y → f.P i x = f.P i x'
  split : ∀ T : List Nat, ∃ A : List (List Nat), (∀ x, T.filter (fun i => f.P i x) ∈ A ∨ T.filter (fun i => f.P i x) = []) ∧ ∀ w : Nat → Nat, Mono w → (A.map fun U => w U.length).sum ≤ f.L w T.length
  mono : ∀ w, Mono w → Mono (f.L w)
def stepA (f : Fd) (T : List Nat) (s : Nat → Bool) : List Nat := T.filter fun i => f.P i (valF f.a s f.n)
/-- The indices that let the fields' bits. -/
def aliveL : List Fd → List Nat → (Nat → Bool) → List Nat
  | [], T, _ => T
  | f :: r, T, s => aliveL r (stepA f T s) s
theorem alive_nil (s : Nat → Bool) : ∀ fs, aliveL fs [] s = []
  | [] => rfl
  | _ :: r => alive_nil s r
theorem alive_app (s : Nat → Bool) (r : List Fd) : ∀ (p : List Fd) (T : List Nat), aliveL (p ++ r) T s = aliveL r (aliveL p T s) s
  | [], _ => rfl
  | f :: p, T => alive_app s r p (stepA f T s)
theorem alive_agree {s t : Nat → Bool} : ∀ {fs : List Fd} {T : List Nat}, (∀ f ∈ fs, ∀ j, j < f.n → s (2 * (f.a + j)) = t (2 * (f.a + j))) → aliveL fs T s = aliveL fs T t
  | [], _, _ => rfl
  | f :: r, T, h => by
    show aliveL r (stepA f T s) s = aliveL r (stepA f T t) t
    rw [show stepA f T s = stepA f T t from by unfold stepA; rw [valF_agree (h f (List.mem_cons_self ..))]]
    exact alive_agree fun g hg => h g (List.mem_cons_of_mem _ hg)
def bigL : List Fd → (Nat → Nat) → Nat → Nat
  | [], w => w
  | f :: r, w => f.L (bigL r w)
theorem bigL_mono {w : Nat → Nat} (hw : Mono w) : ∀ {fs : List Fd}, (∀ f ∈ fs, FdOk f) → Mono (bigL fs w)
  | [], _ => hw
  | f :: _, h => (h f (List.mem_cons_self ..)).mono _ (bigL_mono hw fun g hg => h g (List.mem_cons_of_mem _ hg))
theorem sum_le {α : Type} {f g : α → Nat} : ∀ {l : List α}, (∀ x ∈ l, f x ≤ g x) → (l.map f).sum ≤ (l.map g).sum
  | [], _ => Nat.le_refl _
  | a :: r, h => by
    have := sum_le (l := r) fun x hx => h x (List.mem_cons_of_mem _ hx)
    have := h a (List.mem_cons_self ..)
    simp only [List.map_cons, List.sum_cons]
    omega
theorem sum_flat {α β : Type} (f : α → List β) (g : β → Nat) : ∀ l : List α, ((l.flatMap f).map g).sum = (l.map fun x => ((f x).map g).sum).sum
  | [] => rfl
  | a :: r => by simp [List.flatMap_cons, sum_flat f g r]
theorem len_flat {α β : Type} (f : α → List β) : ∀ l : List α, (l.flatMap f).length = (l.map fun x => (f x).length).sum
  | [] => rfl
  | a :: r => by simp [List.flatMap_cons, len_flat f r]
/-- All that can be alive behind the fields. -/
theorem cover : ∀ {fs : List Fd}, (∀ f ∈ fs, FdOk f) → ∀ T : List Nat, ∃ A : List (List Nat), (∀ s, aliveL fs T s ∈ A ∨ aliveL fs T s = []) ∧ ∀ w : Nat → Nat, Mono w → (A.map fun U => w U.length).sum ≤ bigL fs w T.length
  | [], _, T => ⟨[T], fun s => .inl (List.mem_singleton.2 rfl), fun w _ => by simp [bigL]⟩
  | f :: r, h, T => by
    obtain ⟨A, hA, hw⟩ := (h f (List.mem_cons_self ..)).split T
    have hr : ∀ g ∈ r, FdOk g := fun g hg => h g (List.mem_cons_of_mem _ hg)
    have hc := fun U => cover hr U
    refine ⟨A.flatMap fun U => (hc U).choose, fun s => ?_, fun w mw => ?_⟩
    · rcases hA (valF f.a s f.n) with h1 | h1
      · rcases (hc (stepA f T s)).choose_spec.1 s with h2 | h2
        · exact .inl (List.mem_flatMap.2 ⟨_, h1, h2⟩)
        · exact .inr h2
      · refine .inr ?_
        show aliveL r (stepA f T s) s = []
        rw [show stepA f T s = [] from h1, alive_nil]
    · rw [sum_flat]
      exact Nat.le_trans (sum_le fun U _ => (hc U).choose_spec.2 w mw) (hw _ (bigL_mono mw hr))
def idN : Nat → Nat := fun c => c
theorem mono_id : Mono idN := fun _ _ h => h
/-- How many are counted at a variable, all in all. -/
def cV (k : Nat) : List Fd → List Fd → Nat → Nat
  | _, [], _ => 0
  | pre, f :: post, v => (if v % 2 = 0 ∧ f.a ≤ v / 2 ∧ v / 2 < f.a + f.n then f.e * bigL pre idN k else 0) + cV k (pre ++ [f]) post v
def tot (k : Nat) : List Fd → List Fd → Nat
  | _, [] => 0
  | pre, f :: post => f.n * (f.e * bigL pre idN k) + tot k (pre ++ [f]) post
theorem cV_sum (k : Nat) : ∀ (fs pre : List Fd), sumTo (cV k pre fs) 256 ≤ tot k pre fs
  | [], _ => by
    have : ∀ n, sumTo (fun _ => 0) n = 0 := fun n => by rw [sumTo_const]; simp
    exact Nat.le_of_eq (this 256)
  | f :: post, pre => by
    have h1 := sumTo_even (f.e * bigL pre idN k) f.a (f.a + f.n) 256
    have h2 := cV_sum k post (pre ++ [f])
    have h3 : (min ((256 + 1) / 2) (f.a + f.n) - f.a) * (f.e * bigL pre idN k) ≤ f.n * (f.e * bigL pre idN k) := Nat.mul_le_mul_right _ (by omega)
    show sumTo (fun v => (if v % 2 = 0 ∧ f.a ≤ v / 2 ∧ v / 2 < f.a + f.n then f.e * bigL pre idN k else 0) + cV k (pre ++ [f]) post v) 256 ≤ f.n * (f.e * bigL pre idN k) + tot k (pre ++ [f]) post
    rw [sumTo_add]
    omega
theorem cV_ge (k : Nat) {f : Fd} {v : Nat} (h1 : v % 2 = 0) (h2 : f.a ≤ v / 2) (h3 : v / 2 < f.a + f.n) (p2 : List Fd) : ∀ (p1 pre : List Fd), f.e * bigL (pre ++ p1) idN k ≤ cV k pre (p1 ++ f :: p2) v
  | [], pre => by
    show _ ≤ (if v % 2 = 0 ∧ f.a ≤ v / 2 ∧ v / 2 < f.a + f.n then f.e * bigL pre idN k else 0) + _
    rw [if_pos ⟨h1, h2, h3⟩, List.append_nil]
    omega
  | g :: p1, pre => by
    have ih := cV_ge k h1 h2 h3 p2 p1 (pre ++ [g])
    rw [List.append_assoc] at ih
    exact Nat.le_trans ih (Nat.le_add_left _ _)
/-- What is left in a field. -/
def leftG (Φ : List Nat → Bool) (f : Fd) (post : List Fd) (m : Nat) (U : List Nat) (y : Nat) : Fun := fun t => Φ (aliveL post (U.filter fun i => f.P i (y * 2 ^ (f.n - m) + tailF f.a t m (f.n - m))) t)
theorem leftG_free {Φ : List Nat → Bool} {f : Fd} (ok : FdOk f) {post : List Fd} (hp : ∀ g ∈ post, f.a + f.n ≤ g.a) {m : Nat} (hm : m < f.n) {U : List Nat} {y : Nat} (hy : y ∉ (U.flatMap f.E).map (· / 2 ^ (f.n - m))) : Free (leftG Φ f post m U y) (2 * (f.a + m)) := fun t b => by
  unfold leftG
  have e : (U.filter fun i => f.P i (y * 2 ^ (f.n - m) + tailF f.a (put t (2 * (f.a + m)) b) m (f.n - m))) = U.filter fun i => f.P i (y * 2 ^ (f.n - m) + tailF f.a t m (f.n - m)) := by
    refine List.filter_congr fun i hi => ?_
    have hd : ∀ z, z < 2 ^ (f.n - m) → (y * 2 ^ (f.n - m) + z) / 2 ^ (f.n - m) = y := fun z hz => by
      rw [Nat.mul_comm, Nat.mul_add_div (Nat.two_pow_pos _), Nat.div_eq_of_lt hz, Nat.add_zero]
    exact ok.flat i (f.n - m) y _ _ (fun h => hy (by
      obtain ⟨e, he, h⟩ := List.mem_map.1 h
      exact List.mem_map.2 ⟨e, List.mem_flatMap.2 ⟨i, hi, he⟩, h⟩)) (hd _ (tailF_lt ..)) (hd _ (tailF_lt ..))
  rw [e]
  congr 1
  exact alive_agree fun g hg j _ => put_other (by have := hp g hg; omega)
theorem cof_level (Φ : List Nat → Bool) (pre : List Fd) (f : Fd) (post : List Fd) (h1 : ∀ g ∈ pre, g.a + g.n ≤ f.a) (h2 : ∀ g ∈ post, f.a + f.n ≤ g.a) (T : List Nat) {m : Nat} (hm : m < f.n) (s : Nat → Bool) :
    cof (fun s => Φ (aliveL (pre ++ f :: post) T s)) (2 * (f.a + m)) s = leftG Φ f post m (aliveL pre T s) (valF f.a s m) := funext fun t => by
  show Φ (aliveL (pre ++ f :: post) T (mixS (2 * (f.a + m)) s t)) = _
  unfold leftG
  rw [alive_app]
  congr 1
  show aliveL post (stepA f (aliveL pre T (mixS (2 * (f.a + m)) s t)) (mixS (2 * (f.a + m)) s t)) (mixS (2 * (f.a + m)) s t) = _
  rw [alive_agree (s := mixS (2 * (f.a + m)) s t) (t := s) (fs := pre) fun g hg j hj => mixS_low _ _ (by have := h1 g hg; omega)]
  rw [alive_agree (s := mixS (2 * (f.a + m)) s t) (t := t) (fs := post) fun g hg j hj => mixS_high _ _ (by have := h2 g hg; omega)]
  congr 1
  unfold stepA
  have e : valF f.a (mixS (2 * (f.a + m)) s t) f.n = valF f.a s m * 2 ^ (f.n - m) + tailF f.a t m (f.n - m) := by
    have h := valF_split f.a (mixS (2 * (f.a + m)) s t) m (f.n - m)
    rw [show m + (f.n - m) = f.n by omega] at h
    rw [h, valF_agree (s := mixS (2 * (f.a + m)) s t) (t := s) fun j hj => mixS_low _ _ (by omega), tailF_agree (s := mixS (2 * (f.a + m)) s t) (t := t) fun j h1 _ => mixS_high _ _ (by omega)]
  rw [e]
/-- THE BOUND. -/
theorem widB_box {fs : List Fd} (hord : fs.Pairwise fun f g => f.a + f.n ≤ g.a) (hok : ∀ f ∈ fs, FdOk f) (T : List Nat) (Φ : List Nat → Bool) : WidB (fun s => Φ (aliveL fs T s)) (tot T.length [] fs) := by
  refine ⟨cV T.length [] fs, fun v _ => ?_, cV_sum ..⟩
  by_cases h : ∃ f ∈ fs, v % 2 = 0 ∧ f.a ≤ v / 2 ∧ v / 2 < f.a + f.n
  · obtain ⟨f, hf, h0, h1, h2⟩ := h
    obtain ⟨p1, p2, rfl⟩ := List.append_of_mem hf
    obtain ⟨_, q2, q3⟩ := List.pairwise_append.1 hord
    have o1 : ∀ g ∈ p1, g.a + g.n ≤ f.a := fun g hg => q3 g hg f (List.mem_cons_self ..)
    have o2 : ∀ g ∈ p2, f.a + f.n ≤ g.a := (List.pairwise_cons.1 q2).1
    have ok := hok f hf
    obtain ⟨A, hA, hw⟩ := cover (fs := p1) (fun g hg => hok g (List.mem_append_left _ hg)) T
    obtain ⟨m, hm⟩ : ∃ m, v = 2 * (f.a + m) := ⟨v / 2 - f.a, by omega⟩
    have hmn : m < f.n := by omega
    refine ⟨A.flatMap fun U => (U.flatMap f.E).map fun e => leftG Φ f p2 m U (e / 2 ^ (f.n - m)), ?_, fun s => ?_⟩
    · refine Nat.le_trans ?_ (cV_ge T.length h0 h1 h2 p2 p1 [])
      rw [len_flat]
      have hU : ∀ U ∈ A, ((U.flatMap f.E).map fun e => leftG Φ f p2 m U (e / 2 ^ (f.n - m))).length ≤ f.e * idN U.length := fun U _ => by
        rw [List.length_map, len_flat]
        have := sum_le (f := fun i => (f.E i).length) (g := fun _ => f.e) (l := U) fun i _ => ok.el i
        have h3 : ∀ l : List Nat, (l.map fun _ => f.e).sum = f.e * l.length := fun l => by
          induction l with
          | nil => simp
          | cons a r ih => simp [ih, Nat.mul_add]; omega
        rw [h3] at this
        exact this
      refine Nat.le_trans (sum_le hU) ?_
      have h4 : ∀ l : List (List Nat), (l.map fun U => f.e * idN U.length).sum = f.e * (l.map fun U => idN U.length).sum := fun l => by
        induction l with
        | nil => simp
        | cons a r ih => simp [ih, Nat.mul_add]
      rw [h4]
      exact Nat.mul_le_mul_left _ (hw idN mono_id)
    · rw [hm, cof_level Φ p1 f p2 o1 o2 T hmn s]
      by_cases hy : valF f.a s m ∈ ((aliveL p1 T s).flatMap f.E).map (· / 2 ^ (f.n - m))
      · refine .inr ?_
        rcases hA s with h3 | h3
        · refine List.mem_flatMap.2 ⟨_, h3, ?_⟩
          obtain ⟨e, he, hv⟩ := List.mem_map.1 hy
          exact List.mem_map.2 ⟨e, he, by rw [hv]⟩
        · rw [h3] at hy
          simp at hy
      · exact .inl (leftG_free ok o2 hmn hy)
  · refine ⟨[], Nat.zero_le _, fun s => .inl fun t b => ?_⟩
    show Φ (aliveL fs T (mixS v s (put t v b))) = Φ (aliveL fs T (mixS v s t))
    congr 1
    refine alive_agree fun f hf j hj => ?_
    by_cases hv : 2 * (f.a + j) = v
    · exact absurd ⟨f, hf, by omega, by omega, by omega⟩ h
    · unfold mixS
      split
      · rfl
      · exact put_other hv
end Go.Proofs.YthhcaoljejifeaaGreat

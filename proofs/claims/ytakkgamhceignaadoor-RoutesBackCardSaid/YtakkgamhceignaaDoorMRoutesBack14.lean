/-
  Joined texts: Rt7, LawRtBack, OpenS2.
-/
import Derived.Test.YtakkgamhceignaaDoorMRoutesBack11
import Derived.Test.YtakkgamhceignaaDoorMRoutesBack13
import Derived.Deep.DeepCutAuto
import Derived.SizedLaws
/-
  The walk of routes.ParseAdvert (written by wip/gen/genrt7.py).
-/
namespace Go.Proofs.YtakkgamhceignaaDoor
open Go Go.RowKit Go.Lib Go.Sort

theorem aset0 {w : World} {g : Nat} {v0 v1 v2 v3 v4 v5 v6 v7 v8 v9 v10 v11 v12 u : Value} {t : TypeId} (h : w.heap[g]? = some (.cells #[v0, v1, v2, v3, v4, v5, v6, v7, v8, v9, v10, v11, v12] t (0, 0))) : (w.setCell ⟨g, 0, none⟩ u).heap[g]? = some (.cells #[u, v1, v2, v3, v4, v5, v6, v7, v8, v9, v10, v11, v12] t (0, 0)) := set_at h
theorem aset1 {w : World} {g : Nat} {v0 v1 v2 v3 v4 v5 v6 v7 v8 v9 v10 v11 v12 u : Value} {t : TypeId} (h : w.heap[g]? = some (.cells #[v0, v1, v2, v3, v4, v5, v6, v7, v8, v9, v10, v11, v12] t (0, 0))) : (w.setCell ⟨g, 1, none⟩ u).heap[g]? = some (.cells #[v0, u, v2, v3, v4, v5, v6, v7, v8, v9, v10, v11, v12] t (0, 0)) := set_at h
theorem aset2 {w : World} {g : Nat} {v0 v1 v2 v3 v4 v5 v6 v7 v8 v9 v10 v11 v12 u : Value} {t : TypeId} (h : w.heap[g]? = some (.cells #[v0, v1, v2, v3, v4, v5, v6, v7, v8, v9, v10, v11, v12] t (0, 0))) : (w.setCell ⟨g, 2, none⟩ u).heap[g]? = some (.cells #[v0, v1, u, v3, v4, v5, v6, v7, v8, v9, v10, v11, v12] t (0, 0)) := set_at h
theorem aset3 {w : World} {g : Nat} {v0 v1 v2 v3 v4 v5 v6 v7 v8 v9 v10 v11 v12 u : Value} {t : TypeId} (h : w.heap[g]? = some (.cells #[v0, v1, v2, v3, v4, v5, v6, v7, v8, v9, v10, v11, v12] t (0, 0))) : (w.setCell ⟨g, 3, none⟩ u).heap[g]? = some (.cells #[v0, v1, v2, u, v4, v5, v6, v7, v8, v9, v10, v11, v12] t (0, 0)) := set_at h
theorem aset4 {w : World} {g : Nat} {v0 v1 v2 v3 v4 v5 v6 v7 v8 v9 v10 v11 v12 u : Value} {t : TypeId} (h : w.heap[g]? = some (.cells #[v0, v1, v2, v3, v4, v5, v6, v7, v8, v9, v10, v11, v12] t (0, 0))) : (w.setCell ⟨g, 4, none⟩ u).heap[g]? = some (.cells #[v0, v1, v2, v3, u, v5, v6, v7, v8, v9, v10, v11, v12] t (0, 0)) := set_at h
theorem aset5 {w : World} {g : Nat} {v0 v1 v2 v3 v4 v5 v6 v7 v8 v9 v10 v11 v12 u : Value} {t : TypeId} (h : w.heap[g]? = some (.cells #[v0, v1, v2, v3, v4, v5, v6, v7, v8, v9, v10, v11, v12] t (0, 0))) : (w.setCell ⟨g, 5, none⟩ u).heap[g]? = some (.cells #[v0, v1, v2, v3, v4, u, v6, v7, v8, v9, v10, v11, v12] t (0, 0)) := set_at h
theorem aset6 {w : World} {g : Nat} {v0 v1 v2 v3 v4 v5 v6 v7 v8 v9 v10 v11 v12 u : Value} {t : TypeId} (h : w.heap[g]? = some (.cells #[v0, v1, v2, v3, v4, v5, v6, v7, v8, v9, v10, v11, v12] t (0, 0))) : (w.setCell ⟨g, 6, none⟩ u).heap[g]? = some (.cells #[v0, v1, v2, v3, v4, v5, u, v7, v8, v9, v10, v11, v12] t (0, 0)) := set_at h
theorem aset7 {w : World} {g : Nat} {v0 v1 v2 v3 v4 v5 v6 v7 v8 v9 v10 v11 v12 u : Value} {t : TypeId} (h : w.heap[g]? = some (.cells #[v0, v1, v2, v3, v4, v5, v6, v7, v8, v9, v10, v11, v12] t (0, 0))) : (w.setCell ⟨g, 7, none⟩ u).heap[g]? = some (.cells #[v0, v1, v2, v3, v4, v5, v6, u, v8, v9, v10, v11, v12] t (0, 0)) := set_at h
theorem aset8 {w : World} {g : Nat} {v0 v1 v2 v3 v4 v5 v6 v7 v8 v9 v10 v11 v12 u : Value} {t : TypeId} (h : w.heap[g]? = some (.cells #[v0, v1, v2, v3, v4, v5, v6, v7, v8, v9, v10, v11, v12] t (0, 0))) : (w.setCell ⟨g, 8, none⟩ u).heap[g]? = some (.cells #[v0, v1, v2, v3, v4, v5, v6, v7, u, v9, v10, v11, v12] t (0, 0)) := set_at h
theorem aset9 {w : World} {g : Nat} {v0 v1 v2 v3 v4 v5 v6 v7 v8 v9 v10 v11 v12 u : Value} {t : TypeId} (h : w.heap[g]? = some (.cells #[v0, v1, v2, v3, v4, v5, v6, v7, v8, v9, v10, v11, v12] t (0, 0))) : (w.setCell ⟨g, 9, none⟩ u).heap[g]? = some (.cells #[v0, v1, v2, v3, v4, v5, v6, v7, v8, u, v10, v11, v12] t (0, 0)) := set_at h
theorem aset10 {w : World} {g : Nat} {v0 v1 v2 v3 v4 v5 v6 v7 v8 v9 v10 v11 v12 u : Value} {t : TypeId} (h : w.heap[g]? = some (.cells #[v0, v1, v2, v3, v4, v5, v6, v7, v8, v9, v10, v11, v12] t (0, 0))) : (w.setCell ⟨g, 10, none⟩ u).heap[g]? = some (.cells #[v0, v1, v2, v3, v4, v5, v6, v7, v8, v9, u, v11, v12] t (0, 0)) := set_at h
theorem aset11 {w : World} {g : Nat} {v0 v1 v2 v3 v4 v5 v6 v7 v8 v9 v10 v11 v12 u : Value} {t : TypeId} (h : w.heap[g]? = some (.cells #[v0, v1, v2, v3, v4, v5, v6, v7, v8, v9, v10, v11, v12] t (0, 0))) : (w.setCell ⟨g, 11, none⟩ u).heap[g]? = some (.cells #[v0, v1, v2, v3, v4, v5, v6, v7, v8, v9, v10, u, v12] t (0, 0)) := set_at h
theorem aset12 {w : World} {g : Nat} {v0 v1 v2 v3 v4 v5 v6 v7 v8 v9 v10 v11 v12 u : Value} {t : TypeId} (h : w.heap[g]? = some (.cells #[v0, v1, v2, v3, v4, v5, v6, v7, v8, v9, v10, v11, v12] t (0, 0))) : (w.setCell ⟨g, 12, none⟩ u).heap[g]? = some (.cells #[v0, v1, v2, v3, v4, v5, v6, v7, v8, v9, v10, v11, u] t (0, 0)) := set_at h
theorem st13 {W V : World} {g : Nat} {u0 u1 u2 u3 u4 u5 u6 u7 u8 u9 u10 u11 u12 : Value} (h : Below W.heap.size W V) (hg : W.heap.size ≤ g) : Below W.heap.size W (((((((((((((V.setCell ⟨g, 0, none⟩ u0).setCell ⟨g, 1, none⟩ u1).setCell ⟨g, 2, none⟩ u2).setCell ⟨g, 3, none⟩ u3).setCell ⟨g, 4, none⟩ u4).setCell ⟨g, 5, none⟩ u5).setCell ⟨g, 6, none⟩ u6).setCell ⟨g, 7, none⟩ u7).setCell ⟨g, 8, none⟩ u8).setCell ⟨g, 9, none⟩ u9).setCell ⟨g, 10, none⟩ u10).setCell ⟨g, 11, none⟩ u11).setCell ⟨g, 12, none⟩ u12) := (((((((((((((h.setCell (p := ⟨g, 0, none⟩) hg u0).setCell (p := ⟨g, 1, none⟩) hg u1).setCell (p := ⟨g, 2, none⟩) hg u2).setCell (p := ⟨g, 3, none⟩) hg u3).setCell (p := ⟨g, 4, none⟩) hg u4).setCell (p := ⟨g, 5, none⟩) hg u5).setCell (p := ⟨g, 6, none⟩) hg u6).setCell (p := ⟨g, 7, none⟩) hg u7).setCell (p := ⟨g, 8, none⟩) hg u8).setCell (p := ⟨g, 9, none⟩) hg u9).setCell (p := ⟨g, 10, none⟩) hg u10).setCell (p := ⟨g, 11, none⟩) hg u11).setCell (p := ⟨g, 12, none⟩) hg u12)
theorem st13b {V : World} {g : Nat} {u0 u1 u2 u3 u4 u5 u6 u7 u8 u9 u10 u11 u12 v0 v1 v2 v3 v4 v5 v6 v7 v8 v9 v10 v11 v12 : Value} {t : TypeId} (h : V.heap[g]? = some (.cells #[v0, v1, v2, v3, v4, v5, v6, v7, v8, v9, v10, v11, v12] t (0, 0))) : (((((((((((((V.setCell ⟨g, 0, none⟩ u0).setCell ⟨g, 1, none⟩ u1).setCell ⟨g, 2, none⟩ u2).setCell ⟨g, 3, none⟩ u3).setCell ⟨g, 4, none⟩ u4).setCell ⟨g, 5, none⟩ u5).setCell ⟨g, 6, none⟩ u6).setCell ⟨g, 7, none⟩ u7).setCell ⟨g, 8, none⟩ u8).setCell ⟨g, 9, none⟩ u9).setCell ⟨g, 10, none⟩ u10).setCell ⟨g, 11, none⟩ u11).setCell ⟨g, 12, none⟩ u12).heap[g]? = some (.cells #[u0, u1, u2, u3, u4, u5, u6, u7, u8, u9, u10, u11, u12] t (0, 0)) := (aset12 (aset11 (aset10 (aset9 (aset8 (aset7 (aset6 (aset5 (aset4 (aset3 (aset2 (aset1 (aset0 h)))))))))))))
theorem fin13 {W V : World} {g : Nat} {u0 u1 u2 u3 u4 u5 u6 u7 u8 u9 u10 u11 u12 v0 v1 v2 v3 v4 v5 v6 v7 v8 v9 v10 v11 v12 : Value} {t : TypeId} (h : Below W.heap.size W V) (hq : V.heap[g]? = some (.cells #[v0, v1, v2, v3, v4, v5, v6, v7, v8, v9, v10, v11, v12] t (0, 0))) (hg : W.heap.size ≤ g) : ∃ g', Value.pointer (some ⟨g, 0, none⟩) = .pointer (some ⟨g', 0, none⟩) ∧ W.heap.size ≤ g' ∧ (((((((((((((V.setCell ⟨g, 0, none⟩ u0).setCell ⟨g, 1, none⟩ u1).setCell ⟨g, 2, none⟩ u2).setCell ⟨g, 3, none⟩ u3).setCell ⟨g, 4, none⟩ u4).setCell ⟨g, 5, none⟩ u5).setCell ⟨g, 6, none⟩ u6).setCell ⟨g, 7, none⟩ u7).setCell ⟨g, 8, none⟩ u8).setCell ⟨g, 9, none⟩ u9).setCell ⟨g, 10, none⟩ u10).setCell ⟨g, 11, none⟩ u11).setCell ⟨g, 12, none⟩ u12).heap[g']? = some (.cells #[u0, u1, u2, u3, u4, u5, u6, u7, u8, u9, u10, u11, u12] t (0, 0)) ∧ Below W.heap.size W (((((((((((((V.setCell ⟨g, 0, none⟩ u0).setCell ⟨g, 1, none⟩ u1).setCell ⟨g, 2, none⟩ u2).setCell ⟨g, 3, none⟩ u3).setCell ⟨g, 4, none⟩ u4).setCell ⟨g, 5, none⟩ u5).setCell ⟨g, 6, none⟩ u6).setCell ⟨g, 7, none⟩ u7).setCell ⟨g, 8, none⟩ u8).setCell ⟨g, 9, none⟩ u9).setCell ⟨g, 10, none⟩ u10).setCell ⟨g, 11, none⟩ u11).setCell ⟨g, 12, none⟩ u12) := ⟨_, rfl, hg, st13b hq, st13 h hg⟩
theorem av_blk {w : World} {g : Nat} {r : AvV} {vp vo vl : Value} (h : w.heap[g]? = some (avObj r vp vo vl)) : w.cell? ⟨g, 0, none⟩ = some (Value.int .u32 r.a) ∧ w.cell? ⟨g, 1, none⟩ = some (Value.int .i64 r.m) ∧ w.cell? ⟨g, 2, none⟩ = some (Value.int .u32 r.ho) ∧ w.cell? ⟨g, 3, none⟩ = some (Value.int .i64 r.pf) ∧ w.cell? ⟨g, 4, none⟩ = some (Value.int .i64 r.me) ∧ w.cell? ⟨g, 5, none⟩ = some (vp) ∧ w.cell? ⟨g, 6, none⟩ = some (vo) ∧ w.cell? ⟨g, 7, none⟩ = some (Value.int .u32 r.pe) ∧ w.cell? ⟨g, 8, none⟩ = some (Value.int .u32 r.id) ∧ w.cell? ⟨g, 9, none⟩ = some (Value.bool r.ex) ∧ w.cell? ⟨g, 10, none⟩ = some (Value.int .u32 r.og) ∧ w.cell? ⟨g, 11, none⟩ = some (vl) ∧ w.cell? ⟨g, 12, none⟩ = some (Value.int .i64 r.ss) := blk13 (t := 43) h
theorem results_a {fn : Func} {tmps : Array Value} {w : World} {g : Nat} {r : AvV} {vp vo vl e : Value} {t1 t3 : Nat} (hf : fn.results = #[.cell t1 43, .tmp t3]) (h1 : tmps.getD t1 undef = .pointer (some ⟨g, 0, none⟩)) (h3 : tmps.getD t3 undef = e)
    (k1 : w.heap[g]? = some (avObj r vp vo vl)) :
    (results fn tmps).run Tryd.prog w = .ok (.tuple #[.agg #[.int .u32 r.a, .int .i64 r.m, .int .u32 r.ho, .int .i64 r.pf, .int .i64 r.me, vp, vo, .int .u32 r.pe, .int .u32 r.id, .bool r.ex, .int .u32 r.og, vl, .int .i64 r.ss], e]) w := by
  obtain ⟨c0, c1, c2, c3, c4, c5, c6, c7, c8, c9, c10, c11, c12⟩ := av_blk k1
  have h1' : tmps[t1]?.getD undef = .pointer (some ⟨g, 0, none⟩) := by simpa using h1
  have h3' : tmps[t3]?.getD undef = e := by simpa using h3
  simp [results, hf, h1', h3', go_sem, c0, c1, c2, c3, c4, c5, c6, c7, c8, c9, c10, c11, c12]
/-- A slice that does not lie in a block. -/
def FarV (g : Nat) (v : Value) : Prop := ∀ b off n c, v = .slice (some ⟨b, off, none⟩) n c → b ≠ g
theorem Rd.setFar {w : World} {B k n g i : Nat} {v u : Value} {xs : List Value} (h : Rd w B k v n xs) (hf : FarV g v) : Rd (w.setCell ⟨g, i, none⟩ u) B k v n xs := by
  obtain ⟨A, c, hv, hc, hl, hq⟩ := h
  refine ⟨A, c, hv, hc, hl, fun hn => ?_⟩
  obtain ⟨b, off, hA, hB, hcell⟩ := hq hn
  refine ⟨b, off, hA, hB, fun j v' hv' => ?_⟩
  have hbg : b ≠ g := hf b off n c (by rw [hv, hA])
  exact (World.cell?_of_block (w := w) (Below.heap_setCell w _ u b hbg)).trans (hcell j v' hv')
theorem far_own {w : World} {base g n size : Nat} {e : TypeId} {v : Value} {xs : List Value} (h : w.ownsRow base e size v n xs) (hg : g < base) : FarV g v := by
  rintro b off m c rfl
  obtain ⟨A, c', hv, hA⟩ := owns_form h
  rcases h.2 with ⟨h1, _⟩ | ⟨g', cap, cur, h1, hb, _⟩
  · simp at h1
  · simp only [Value.slice.injEq, Option.some.injEq, Addr.mk.injEq] at h1
    omega
/-- Words that cannot be an advert's. -/
theorem avO_idx {l : List UInt8} {L : List ByteArray} (hL : L.map (·.data.toList) = pieces 32 l) (h : ¬ (19 ≤ L.length ∧ 17 ≤ Lib.idxOfS L ⟨commW.toArray⟩ ∧ Lib.idxOfS L ⟨commW.toArray⟩ ≤ Lib.idxOfS L ⟨clusW.toArray⟩)) : avO l = none := avO_no fun r hr ht => by
  obtain ⟨h1, h2, h3⟩ := idx_prog (L := L) hr (by rw [hL, ← ht, av_words hr])
  exact h ⟨by omega, by rw [h1]; omega, by rw [h1, h2]; omega⟩
theorem idxFrom_spec (x : ByteArray) : ∀ (zs : List ByteArray) (i : Nat), Lib.idxFromS zs x i = -1 ∨ ∃ k : Nat, Lib.idxFromS zs x i = ((i + k : Nat) : Int) ∧ zs[k]? = some x
  | [], i => Or.inl rfl
  | z :: zs, i => by
    rw [Lib.idxFromS]
    split
    · rename_i h; exact Or.inr ⟨0, by simp, by rw [h]; rfl⟩
    · rcases idxFrom_spec x zs (i + 1) with h | ⟨k, h1, h2⟩
      · exact Or.inl h
      · exact Or.inr ⟨k + 1, by rw [h1]; congr 1; omega, by simpa using h2⟩
theorem idx_spec (L : List ByteArray) (x : ByteArray) : Lib.idxOfS L x = -1 ∨ ∃ k : Nat, Lib.idxOfS L x = (k : Int) ∧ L[k]? = some x := by
  rcases idxFrom_spec x L 0 with h | ⟨k, h1, h2⟩
  · exact Or.inl h
  · exact Or.inr ⟨k, by unfold Lib.idxOfS; rw [h1]; simp, h2⟩
theorem comm_clus : (⟨commW.toArray⟩ : ByteArray) ≠ ⟨clusW.toArray⟩ := by
  intro h
  have := congrArg (fun b : ByteArray => b.data.toList) h
  revert this; decide
theorem index_list (L : List ByteArray) (x : ByteArray) (V : World) (gL : Nat) (hlen : L.length ≤ 9223372036854775807) (h : V.heap[gL]? = some (.cells (L.map Value.string).toArray 9 (0, 0))) :
    Calls Tryd.prog 31 #[.slice (some ⟨gL, 0, none⟩) L.length L.length, .string x] V fun e V' => e = .returned (.int .i64 (Lib.idxOfS L x)) ∧ Below V.heap.size V V' := by
  have := Tryd.slices_Index_string gL 0 L.length L.length L x V (Nat.le_refl _) hlen (fun j hj => by
    have hx : L[j]? = some (L.getD j ByteArray.empty) := by rw [List.getD_eq_getElem?_getD, List.getElem?_eq_getElem hj]; rfl
    rw [Nat.zero_add]; exact cells_str h hx)
  rw [List.take_length] at this
  exact this.mono fun e V' hh => ⟨hh.1, by rw [hh.2]; exact Below.refl _ _⟩
/-- What ParseAdvert answers: the advert, its lists in memory. -/
def AvRes (l : List UInt8) (w : World) (e : Ending) (w' : World) : Prop :=
  ∃ vp vo vl, e = .returned (.tuple #[.agg #[.int .u32 (avV l).a, .int .i64 (avV l).m, .int .u32 (avV l).ho, .int .i64 (avV l).pf, .int .i64 (avV l).me, vp, vo, .int .u32 (avV l).pe, .int .u32 (avV l).id, .bool (avV l).ex, .int .u32 (avV l).og, vl, .int .i64 (avV l).ss], .int .i64 (avE l)]) ∧ Rd w' w'.heap.size 1 vp (avV l).pa.length ((avV l).pa.map (Value.int .u32)) ∧ Rd w' w'.heap.size 1 vo (avV l).co.length ((avV l).co.map (Value.int .u32)) ∧ Rd w' w'.heap.size 1 vl (avV l).cl.length ((avV l).cl.map (Value.int .u32)) ∧ Below w.heap.size w w'
theorem rdNilU (w : World) (B : Nat) : Rd w B 1 (.slice none 0 0) ([] : List Int).length (([] : List Int).map (Value.int .u32)) := ⟨none, 0, rfl, Nat.le_refl _, rfl, fun h => absurd h (by simp)⟩
/-- No advert: the zero one. -/
theorem avRes_no {l : List UInt8} {w w' : World} {e : Ending} (h : avO l = none) (he : e = .returned (.tuple #[.agg #[.int .u32 av0.a, .int .i64 av0.m, .int .u32 av0.ho, .int .i64 av0.pf, .int .i64 av0.me, .slice none 0 0, .slice none 0 0, .int .u32 av0.pe, .int .u32 av0.id, .bool av0.ex, .int .u32 av0.og, .slice none 0 0, .int .i64 av0.ss], .int .i64 4])) (hb : Below w.heap.size w w') : AvRes l w e w' := by
  obtain ⟨h1, h2⟩ := av_none h
  unfold AvRes
  rw [h1, h2]
  exact ⟨_, _, _, he, rdNilU _ _, rdNilU _ _, rdNilU _ _, hb⟩
set_option maxRecDepth 100000 in
set_option maxHeartbeats 8000000 in
theorem avParse_short (s : ByteArray) (L : List ByteArray) (w : World) (hE : Env w) (hlim : s.size < 4294967281) (hP : L.map (·.data.toList) = pieces 32 s.data.toList) (hS : Lib.splitB ⟨#[32]⟩ 0 (Lib.countB s ⟨#[32]⟩) s = L) (hN : Lib.countB s ⟨#[32]⟩ + 1 = L.length) (hlen : L.length ≤ 9223372036854775807)
    (h : ¬ (19 ≤ L.length ∧ 17 ≤ Lib.idxOfS L ⟨commW.toArray⟩ ∧ Lib.idxOfS L ⟨commW.toArray⟩ ≤ Lib.idxOfS L ⟨clusW.toArray⟩)) :
    Calls Tryd.prog 13 #[.string s] w fun e w' => AvRes s.data.toList w e w' := by
  have hno := Lib.hid (avO_idx hP h)
  have hkz := heap_alloc_new w (avObj av0 (.slice none 0 0) (.slice none 0 0) (.slice none 0 0))
  have hb0 := below1 w (avObj av0 (.slice none 0 0) (.slice none 0 0) (.slice none 0 0))
  have hE0 := hE.below hb0
  obtain ⟨m, hm⟩ := hE0.len
  have hSp := Tryd.strings_Split s ⟨#[32]⟩ m (w.alloc (avObj av0 (.slice none 0 0) (.slice none 0 0) (.slice none 0 0))) (by omega) hm (by decide)
  rw [hS, hN] at hSp
  have HSp := Lib.hid hSp
  have hII := fun x V gL => index_list L x V gL hlen
  clear hSp hS hN hm hP
  have hcase : (L.length < 19) ∨ (¬ L.length < 19 ∧ Lib.idxOfS L ⟨commW.toArray⟩ < 17) ∨ (¬ L.length < 19 ∧ ¬ Lib.idxOfS L ⟨commW.toArray⟩ < 17 ∧ Lib.idxOfS L ⟨clusW.toArray⟩ < Lib.idxOfS L ⟨commW.toArray⟩) := by omega
  have hi := hII ⟨commW.toArray⟩
  have hj := hII ⟨clusW.toArray⟩
  generalize Lib.idxOfS L ⟨commW.toArray⟩ = i at *
  generalize Lib.idxOfS L ⟨clusW.toArray⟩ = j at *
  have HI := Lib.hid hi
  have HJ := Lib.hid hj
  clear hi hj hII h
  obtain ⟨n, hn⟩ : ∃ n, L.length = n := ⟨_, rfl⟩
  rw [hn] at HSp HI HJ hcase
  have hn63 : n ≤ 9223372036854775807 := by omega
  clear hlen hn
  have hcase2 : ((n : Int) < 19) ∨ (¬ (n : Int) < 19 ∧ i < 17) ∨ (¬ (n : Int) < 19 ∧ ¬ i < 17 ∧ j < i) := by omega
  clear hcase
  go_enter Tryd.func13, Tryd.ntmps13
  go_wp2_with fail
  refine HSp.out.mono ?_
  rintro e w1 ⟨rfl, rfl⟩
  have hk1 := (Below.heap_alloc (w.alloc (avObj av0 (.slice none 0 0) (.slice none 0 0) (.slice none 0 0))) (.cells (L.map Value.string).toArray 9) _ (lt_of_block hkz)).trans hkz
  have hkL := heap_alloc_new (w.alloc (avObj av0 (.slice none 0 0) (.slice none 0 0) (.slice none 0 0))) (.cells (L.map Value.string).toArray 9)
  have hb1 := hb0.alloc hb0.size (.cells (L.map Value.string).toArray 9)
  clear HSp hE0 hkz hb0
  generalize (w.alloc (avObj av0 (.slice none 0 0) (.slice none 0 0) (.slice none 0 0))).heap.size = gL at *
  generalize (w.alloc (avObj av0 (.slice none 0 0) (.slice none 0 0) (.slice none 0 0))).alloc (.cells (L.map Value.string).toArray 9) = W at *
  have K1 := HI.out W gL hkL
  go_wp2_with fail
  refine K1.mono ?_
  rintro e w2 ⟨rfl, hb⟩
  have hk2 := blk_below hb hk1
  have hkL2 := blk_below hb hkL
  have hb2 := below_call hb1 hb
  clear K1 hk1 hkL hb1 hb
  have K2 := HJ.out w2 gL hkL2
  go_wp2_with fail
  refine K2.mono ?_
  rintro e w3 ⟨rfl, hb⟩
  have hk3 := blk_below hb hk2
  have hb3 := below_call hb2 hb
  clear K2 hk2 hkL2 hb2 hb HI HJ
  obtain ⟨d0, d1, d2, d3, d4, d5, d6, d7, d8, d9, d10, d11, d12⟩ := av_blk hk3
  have z0 := frozen_row hk3 0
  have z1 := frozen_row hk3 1
  have z2 := frozen_row hk3 2
  have z3 := frozen_row hk3 3
  have z4 := frozen_row hk3 4
  have z5 := frozen_row hk3 5
  have z6 := frozen_row hk3 6
  have z7 := frozen_row hk3 7
  have z8 := frozen_row hk3 8
  have z9 := frozen_row hk3 9
  have z10 := frozen_row hk3 10
  have z11 := frozen_row hk3 11
  have z12 := frozen_row hk3 12
  have HK := Lib.hid hk3
  clear hk3
  rcases hcase2 with q0 | ⟨q0, q1⟩ | ⟨q0, q1, q2⟩
  all_goals (
    go_wp2
    exact bodyPost_ret (results_a (t1 := 2) (t3 := 3) (g := w.heap.size) (r := av0) (vp := .slice none 0 0) (vo := .slice none 0 0) (vl := .slice none 0 0) Tryd.results13 rfl rfl (aset12 (aset11 (aset10 (aset9 (aset8 (aset7 (aset6 (aset5 (aset4 (aset3 (aset2 (aset1 (aset0 HK.out)))))))))))))) rfl (avRes_no hno.out rfl (((((((((((((hb3.setCell (Nat.le_refl _) _).setCell (Nat.le_refl _) _).setCell (Nat.le_refl _) _).setCell (Nat.le_refl _) _).setCell (Nat.le_refl _) _).setCell (Nat.le_refl _) _).setCell (Nat.le_refl _) _).setCell (Nat.le_refl _) _).setCell (Nat.le_refl _) _).setCell (Nat.le_refl _) _).setCell (Nat.le_refl _) _).setCell (Nat.le_refl _) _).setCell (Nat.le_refl _) _)))

theorem rd13 {w : World} {B k n g : Nat} {v u0 u1 u2 u3 u4 u5 u6 u7 u8 u9 u10 u11 u12 : Value} {xs : List Value} (h : Rd w B k v n xs) (hf : FarV g v) : Rd (((((((((((((w.setCell ⟨g, 0, none⟩ u0).setCell ⟨g, 1, none⟩ u1).setCell ⟨g, 2, none⟩ u2).setCell ⟨g, 3, none⟩ u3).setCell ⟨g, 4, none⟩ u4).setCell ⟨g, 5, none⟩ u5).setCell ⟨g, 6, none⟩ u6).setCell ⟨g, 7, none⟩ u7).setCell ⟨g, 8, none⟩ u8).setCell ⟨g, 9, none⟩ u9).setCell ⟨g, 10, none⟩ u10).setCell ⟨g, 11, none⟩ u11).setCell ⟨g, 12, none⟩ u12) B k v n xs := (((((((((((((h.setFar (i := 0) (u := u0) hf).setFar (i := 1) (u := u1) hf).setFar (i := 2) (u := u2) hf).setFar (i := 3) (u := u3) hf).setFar (i := 4) (u := u4) hf).setFar (i := 5) (u := u5) hf).setFar (i := 6) (u := u6) hf).setFar (i := 7) (u := u7) hf).setFar (i := 8) (u := u8) hf).setFar (i := 9) (u := u9) hf).setFar (i := 10) (u := u10) hf).setFar (i := 11) (u := u11) hf).setFar (i := 12) (u := u12) hf)
theorem size13 {w : World} {g : Nat} {u0 u1 u2 u3 u4 u5 u6 u7 u8 u9 u10 u11 u12 : Value} : (((((((((((((w.setCell ⟨g, 0, none⟩ u0).setCell ⟨g, 1, none⟩ u1).setCell ⟨g, 2, none⟩ u2).setCell ⟨g, 3, none⟩ u3).setCell ⟨g, 4, none⟩ u4).setCell ⟨g, 5, none⟩ u5).setCell ⟨g, 6, none⟩ u6).setCell ⟨g, 7, none⟩ u7).setCell ⟨g, 8, none⟩ u8).setCell ⟨g, 9, none⟩ u9).setCell ⟨g, 10, none⟩ u10).setCell ⟨g, 11, none⟩ u11).setCell ⟨g, 12, none⟩ u12).heap.size = w.heap.size := by simp [World.setCell]
theorem words_tail {L : List ByteArray} {r : AvV} (hw : L.map (·.data.toList) = r.words) (k : Nat) : (L.drop (17 + k)).map (·.data.toList) = r.tail.drop k := by
  rw [List.map_drop, hw, ← List.drop_drop]
  congr 1
/-- The words of the three lists. -/
theorem lists_fit {L : List ByteArray} {r : AvV} {ni nj : Nat} (hr : r.ok = true) (hw : L.map (·.data.toList) = r.words) (hi : Lib.idxOfS L ⟨commW.toArray⟩ = (ni : Int)) (hj : Lib.idxOfS L ⟨clusW.toArray⟩ = (nj : Int)) :
    ((L.drop 17).take (ni - 17)).map (·.data.toList) = r.pa.map decT ∧ ((L.drop (ni + 1)).take (nj - (ni + 1))).map (·.data.toList) = r.co.map decT ∧ (L.drop (nj + 1)).map (·.data.toList) = r.cl.map addrT := by
  obtain ⟨h1, h2, h3⟩ := idx_prog (L := L) hr hw
  obtain rfl : ni = 17 + r.pa.length := by omega
  obtain rfl : nj = 17 + r.pa.length + 1 + r.co.length := by omega
  refine ⟨?_, ?_, ?_⟩
  · rw [List.map_take, show 17 + r.pa.length - 17 = r.pa.length by omega, ← tail_pa]
    congr 1
    exact words_tail hw 0
  · rw [List.map_take, show 17 + r.pa.length + 1 + r.co.length - (17 + r.pa.length + 1) = r.co.length by omega, ← tail_co]
    congr 1
    exact words_tail hw (r.pa.length + 1)
  · rw [← tail_cl, show 17 + r.pa.length + 1 + r.co.length + 1 = 17 + (r.pa.length + 1 + r.co.length + 1) by omega]
    exact words_tail hw _
/-- A session's word that is no number. -/
theorem avO_sess {l : List UInt8} {w0 w1 w2 w3 w4 w5 w6 w7 w8 w9 w10 w11 w12 w13 w14 w15 w16 : List UInt8} {rest : List (List UInt8)} (hp : pieces 32 l = w0 :: w1 :: w2 :: w3 :: w4 :: w5 :: w6 :: w7 :: w8 :: w9 :: w10 :: w11 :: w12 :: w13 :: w14 :: w15 :: w16 :: rest) (h1 : num31 w15 = -1) (h2 : w15 ≠ oneW) : avO l = none := avO_no fun r hr ht => by
  have hw := av_words hr
  rw [ht, hp] at hw
  unfold AvV.words AvV.head at hw
  simp only [List.cons_append, List.nil_append] at hw
  injection hw with _ hw
  injection hw with _ hw
  injection hw with _ hw
  injection hw with _ hw
  injection hw with _ hw
  injection hw with _ hw
  injection hw with _ hw
  injection hw with _ hw
  injection hw with _ hw
  injection hw with _ hw
  injection hw with _ hw
  injection hw with _ hw
  injection hw with _ hw
  injection hw with _ hw
  injection hw with _ hw
  injection hw with e15 hw
  have k4 := (av_ok hr).2.2.2
  have h3 := sess31_rel w15 r.ss k4 e15
  rw [h1] at h3
  rw [← h3] at e15
  exact h2 e15
theorem Tryd.infoAddr : (Tryd.prog.info? 35).map (fun i => (i.zero, i.size, i.bytes)) = some (some (.int .u32 0), 1, 4) := by kernel_rfl
/-- A part of a list of strings that lies in a block. -/
theorem rd_sub {V : World} {gL : Nat} {L : List ByteArray} (h : V.heap[gL]? = some (.cells (L.map Value.string).toArray 9 (0, 0))) {o n c : Nat} {A : Option Addr} (hA : 0 < n → A = some ⟨gL, o, none⟩) (ho : o + n ≤ L.length) (hc : n ≤ c) : Rd V V.heap.size 1 (.slice A n c) ((L.drop o).take n).length (((L.drop o).take n).map Value.string) := by
  have hl : ((L.drop o).take n).length = n := by simp; omega
  refine ⟨A, c, by rw [hl], by omega, by simp, fun hn => ?_⟩
  rw [hl] at hn
  refine ⟨gL, o, hA hn, lt_of_block h, fun j u hu => ?_⟩
  rw [List.getElem?_map] at hu
  cases hx : ((L.drop o).take n)[j]? with
  | none => rw [hx] at hu; cases hu
  | some y =>
    rw [hx] at hu
    injection hu with hu
    rw [← hu]
    refine cells_str h ?_
    have hj := (List.getElem?_eq_some_iff.1 hx).1
    rw [List.getElem?_take, if_pos (by rw [hl] at hj; exact hj), List.getElem?_drop] at hx
    exact hx
set_option maxRecDepth 100000 in
set_option maxHeartbeats 16000000 in
theorem avParse_main (s : ByteArray) (x0 x1 x2 x3 x4 x5 x6 x7 x8 x9 x10 x11 x12 x13 x14 x15 x16 : ByteArray) (R : List ByteArray) (w : World) (hE : Env w) (hlim : s.size < 4294967281) (hP : pieces 32 s.data.toList = x0.data.toList :: x1.data.toList :: x2.data.toList :: x3.data.toList :: x4.data.toList :: x5.data.toList :: x6.data.toList :: x7.data.toList :: x8.data.toList :: x9.data.toList :: x10.data.toList :: x11.data.toList :: x12.data.toList :: x13.data.toList :: x14.data.toList :: x15.data.toList :: x16.data.toList :: R.map (·.data.toList)) (hS : Lib.splitB ⟨#[32]⟩ 0 (Lib.countB s ⟨#[32]⟩) s = x0 :: x1 :: x2 :: x3 :: x4 :: x5 :: x6 :: x7 :: x8 :: x9 :: x10 :: x11 :: x12 :: x13 :: x14 :: x15 :: x16 :: R) (N : Nat) (hN : Lib.countB s ⟨#[32]⟩ + 1 = N) (hNR : N = R.length + 17) (hl : ∀ x ∈ x0 :: x1 :: x2 :: x3 :: x4 :: x5 :: x6 :: x7 :: x8 :: x9 :: x10 :: x11 :: x12 :: x13 :: x14 :: x15 :: x16 :: R, x.size < 4294967281) (hrn : N ≤ 5000) (ni nj : Nat) (hi : Lib.idxOfS (x0 :: x1 :: x2 :: x3 :: x4 :: x5 :: x6 :: x7 :: x8 :: x9 :: x10 :: x11 :: x12 :: x13 :: x14 :: x15 :: x16 :: R) ⟨commW.toArray⟩ = (ni : Int)) (hj : Lib.idxOfS (x0 :: x1 :: x2 :: x3 :: x4 :: x5 :: x6 :: x7 :: x8 :: x9 :: x10 :: x11 :: x12 :: x13 :: x14 :: x15 :: x16 :: R) ⟨clusW.toArray⟩ = (nj : Int)) (h17 : 17 ≤ ni) (hij : ni < nj) (hjN : nj < N) :
    Calls Tryd.prog 13 #[.string s] w fun e w' => AvRes s.data.toList w e w' := by
  have hkz := heap_alloc_new w (avObj av0 (.slice none 0 0) (.slice none 0 0) (.slice none 0 0))
  have hb0 := below1 w (avObj av0 (.slice none 0 0) (.slice none 0 0) (.slice none 0 0))
  have hE0 := hE.below hb0
  obtain ⟨m, hm⟩ := hE0.len
  have hSp := Tryd.strings_Split s ⟨#[32]⟩ m (w.alloc (avObj av0 (.slice none 0 0) (.slice none 0 0) (.slice none 0 0))) (by omega) hm (by decide)
  rw [hS, hN] at hSp
  have HSp := Lib.hid hSp
  have hLN : (x0 :: x1 :: x2 :: x3 :: x4 :: x5 :: x6 :: x7 :: x8 :: x9 :: x10 :: x11 :: x12 :: x13 :: x14 :: x15 :: x16 :: R).length = N := by rw [hNR]; rfl
  have hI0 := fun V gL => index_list (x0 :: x1 :: x2 :: x3 :: x4 :: x5 :: x6 :: x7 :: x8 :: x9 :: x10 :: x11 :: x12 :: x13 :: x14 :: x15 :: x16 :: R) ⟨commW.toArray⟩ V gL (by omega)
  have hJ0 := fun V gL => index_list (x0 :: x1 :: x2 :: x3 :: x4 :: x5 :: x6 :: x7 :: x8 :: x9 :: x10 :: x11 :: x12 :: x13 :: x14 :: x15 :: x16 :: R) ⟨clusW.toArray⟩ V gL (by omega)
  rw [hi, hLN] at hI0
  rw [hj, hLN] at hJ0
  have HI := Lib.hid hI0
  have HJ := Lib.hid hJ0
  have HIX := Lib.hid hi
  have HJX := Lib.hid hj
  have HLN := Lib.hid hLN
  clear hSp hS hN hm hI0 hJ0 hi hj hLN
  have HP := Lib.hid hP
  have HL := Lib.hid hl
  clear hP
  have hn63 : N ≤ 9223372036854775807 := by omega
  have l0 := hl x0 (by simp)
  have l2 := hl x2 (by simp)
  have l4 := hl x4 (by simp)
  have l6 := hl x6 (by simp)
  have l8 := hl x8 (by simp)
  have l10 := hl x10 (by simp)
  have l13 := hl x13 (by simp)
  have l15 := hl x15 (by simp)
  clear hl
  have HNR := Lib.hid hNR
  have hc1 : ¬ (N : Int) < 19 := by omega
  have hc2 : ¬ (ni : Int) < 17 := by omega
  have hc3 : ¬ (nj : Int) < (ni : Int) := by omega
  have hba : 0 < N := by omega
  have hia : (0 : Int) < (N : Int) := by omega
  have hbc : 2 < N := by omega
  have hic : (2 : Int) < (N : Int) := by omega
  have hbe : 4 < N := by omega
  have hie : (4 : Int) < (N : Int) := by omega
  have hbg : 6 < N := by omega
  have hig : (6 : Int) < (N : Int) := by omega
  have hbi : 8 < N := by omega
  have hii : (8 : Int) < (N : Int) := by omega
  have hbk : 10 < N := by omega
  have hik : (10 : Int) < (N : Int) := by omega
  have hbl : 11 < N := by omega
  have hil : (11 : Int) < (N : Int) := by omega
  have hbn : 13 < N := by omega
  have hin : (13 : Int) < (N : Int) := by omega
  have hbp : 15 < N := by omega
  have hip : (15 : Int) < (N : Int) := by omega
  clear hNR
  go_enter Tryd.func13, Tryd.ntmps13
  go_wp2_with fail
  refine HSp.out.mono ?_
  rintro e w1 ⟨rfl, rfl⟩
  have hk1 := (Below.heap_alloc (w.alloc (avObj av0 (.slice none 0 0) (.slice none 0 0) (.slice none 0 0))) (.cells ((x0 :: x1 :: x2 :: x3 :: x4 :: x5 :: x6 :: x7 :: x8 :: x9 :: x10 :: x11 :: x12 :: x13 :: x14 :: x15 :: x16 :: R).map Value.string).toArray 9) _ (lt_of_block hkz)).trans hkz
  have hkL := heap_alloc_new (w.alloc (avObj av0 (.slice none 0 0) (.slice none 0 0) (.slice none 0 0))) (.cells ((x0 :: x1 :: x2 :: x3 :: x4 :: x5 :: x6 :: x7 :: x8 :: x9 :: x10 :: x11 :: x12 :: x13 :: x14 :: x15 :: x16 :: R).map Value.string).toArray 9)
  have hb1 := hb0.alloc hb0.size (.cells ((x0 :: x1 :: x2 :: x3 :: x4 :: x5 :: x6 :: x7 :: x8 :: x9 :: x10 :: x11 :: x12 :: x13 :: x14 :: x15 :: x16 :: R).map Value.string).toArray 9)
  have hgw : w.heap.size < (w.alloc (avObj av0 (.slice none 0 0) (.slice none 0 0) (.slice none 0 0))).heap.size := by simp
  clear HSp hE0 hkz hb0
  generalize (w.alloc (avObj av0 (.slice none 0 0) (.slice none 0 0) (.slice none 0 0))).heap.size = gL at *
  generalize (w.alloc (avObj av0 (.slice none 0 0) (.slice none 0 0) (.slice none 0 0))).alloc (.cells ((x0 :: x1 :: x2 :: x3 :: x4 :: x5 :: x6 :: x7 :: x8 :: x9 :: x10 :: x11 :: x12 :: x13 :: x14 :: x15 :: x16 :: R).map Value.string).toArray 9) = W at *
  have K1 := HI.out W gL hkL
  go_wp2_with fail
  refine K1.mono ?_
  rintro e w2 ⟨rfl, hb⟩
  have hk2 := blk_below hb hk1
  have hkL2 := blk_below hb hkL
  have hb2 := below_call hb1 hb
  clear K1 hk1 hkL hb1 hb
  have K2 := HJ.out w2 gL hkL2
  go_wp2_with fail
  refine K2.mono ?_
  rintro e W3 ⟨rfl, hb⟩
  have hk3 := blk_below hb hk2
  have hkL3 := blk_below hb hkL2
  have hb3 := below_call hb2 hb
  have hE3 := hE.below hb3
  clear K2 hk2 hkL2 hb2 hb HI HJ
  go_upto_region 6 with fail
  have s4 := cells_str (k := 4) hkL3 rfl
  have s6 := cells_str (k := 6) hkL3 rfl
  have s11 := cells_str (k := 11) hkL3 rfl
  have s15 := cells_str (k := 15) hkL3 rfl
  have HK3 := Lib.hid hk3
  have HKL3 := Lib.hid hkL3
  clear hk3 hkL3
  have hex : (x11.toList == [101, 120, 116, 101, 114, 110, 97, 108]) = decide (x11.data.toList = extW) := by
    rw [list_of, Bool.eq_iff_iff]
    simp only [beq_iff_eq, decide_eq_true_eq]
    exact Iff.rfl
  have KN := Lib.hid (show ∀ x : ByteArray, x.size < 4294967281 → ∀ V : World, Below W3.heap.size W3 V → Calls Tryd.prog 32 #[.string x] V fun e V' => e = .returned (.int .i64 (num31 x.data.toList)) ∧ Below V.heap.size V V' from fun x hx V h => numR_any x hx V (hE3.below h))
  have hgw3 : w.heap.size < W3.heap.size := lt_of_block HK3.out
  go_cut [7] (fun sr wx => ∃ g : Nat, sr = .pointer (some ⟨g, 0, none⟩) ∧ W3.heap.size ≤ g ∧ wx.heap[g]? = some (.cells #[.int .u32 0, .int .i64 0, .int .u32 0, .int .i64 (num31 x4.data.toList), .int .i64 (num31 x6.data.toList), .slice none 0 0, .slice none 0 0, .int .u32 0, .int .u32 0, .bool (decide (x11.data.toList = extW)), .int .u32 0, .slice none 0 0, .int .i64 (num31 x15.data.toList)] 43 (0, 0)) ∧ Below W3.heap.size W3 wx)
  case first =>
    clear HK3 HKL3 HP HL hb3 hE3 HNR HIX HJX HLN
    have F4 := cell_regrown s4
    have F6 := cell_regrown s6
    have F11 := cell_regrown s11
    have F15 := cell_regrown s15
    refine wp_region_tree (plains (.fork 3 (.fork 7 (.fork 15 (plains (.bar 17 (.bar 18 .done)) [16]) 17 (.bar 15 (plains (.bar 18 .done) [16]))) 17 (.bar 7 (.bar 15 (plains (.bar 18 .done) [16])))) 17 (.bar 3 (.bar 7 (.bar 15 (plains (.bar 18 .done) [16]))))) [0, 1, 2, 4, 5, 6, 8, 9, 10, 11, 12, 13, 14]) (by kernel_rfl) (by kernel_rfl) ?_
    have hv0 := below_drawn W3
    generalize { W3 with drawn := W3.drawn + 1 } = V0 at *
    refine tree_take [0, 1, 2, 4, 5, 6, 8, 9, 10, 11, 12, 13, 14] [_, _, _, _, _, _, _, _, _, _, _, _, _] rfl rfl ?_
    simp only [List.getElem_toArray, List.getElem_cons_zero, List.getElem_cons_succ]
    repeat (go_big_quiet_step (fail))
    refine wpQuiet_nil ?_
    refine tree_fork ?_ ?_
    · refine step_same rfl (by rfl) ?_
      simp only [List.getElem_toArray, List.getElem_cons_zero, List.getElem_cons_succ]
      go_simp
      refine (KN.out x4 (by with_reducible assumption) V0 hv0).mono ?_
      rintro e V1 ⟨rfl, hb1⟩
      have hv1 := below_call hv0 hb1
      refine ⟨regrown_of_below hv1, ?_⟩
      refine tree_fork ?_ ?_
      · refine step_same rfl (by rfl) ?_
        simp only [List.getElem_toArray, List.getElem_cons_zero, List.getElem_cons_succ]
        go_simp
        refine (KN.out x6 (by with_reducible assumption) V1 hv1).mono ?_
        rintro e V2 ⟨rfl, hb2⟩
        have hv2 := below_call hv1 hb2
        refine ⟨regrown_of_below hv2, ?_⟩
        refine tree_fork ?_ ?_
        · refine step_same rfl (by rfl) ?_
          simp only [List.getElem_toArray, List.getElem_cons_zero, List.getElem_cons_succ]
          go_simp
          refine (KN.out x15 (by with_reducible assumption) V2 hv2).mono ?_
          rintro e V3 ⟨rfl, hb3⟩
          have hv3 := below_call hv2 hb3
          refine ⟨regrown_of_below hv3, ?_⟩
          refine tree_take [16] [_] rfl rfl ?_
          simp only [List.getElem_toArray, List.getElem_cons_zero, List.getElem_cons_succ]
          repeat (go_big_quiet_step (fail))
          refine wpQuiet_nil ?_
          refine tree_bar ?_
          refine step_same rfl (by rfl) ?_
          simp only [List.getElem_toArray, List.getElem_cons_zero, List.getElem_cons_succ]
          go_simp
          have hA4 := heap_alloc_new V3 (.cells #[.int .u32 0, .int .i64 0, .int .u32 0, .int .i64 0, .int .i64 0, .slice none 0 0, .slice none 0 0, .int .u32 0, .int .u32 0, .bool false, .int .u32 0, .slice none 0 0, .int .i64 0] 43)
          have hb4 := below1 V3 (.cells #[.int .u32 0, .int .i64 0, .int .u32 0, .int .i64 0, .int .i64 0, .slice none 0 0, .slice none 0 0, .int .u32 0, .int .u32 0, .bool false, .int .u32 0, .slice none 0 0, .int .i64 0] 43)
          have hv4 := below_call hv3 hb4
          have hg4 : W3.heap.size ≤ V3.heap.size := hv3.size
          refine ⟨regrown_of_below hv4, ?_⟩
          generalize V3.alloc (.cells #[.int .u32 0, .int .i64 0, .int .u32 0, .int .i64 0, .int .i64 0, .slice none 0 0, .slice none 0 0, .int .u32 0, .int .u32 0, .bool false, .int .u32 0, .slice none 0 0, .int .i64 0] 43) = V4 at *
          generalize V3.heap.size = gA at *
          obtain ⟨n0, n1, n2, n3, n4, n5, n6, n7, n8, n9, n10, n11, n12⟩ := blk13 hA4
          have m0 := frozen_row hA4 0
          have m1 := frozen_row hA4 1
          have m2 := frozen_row hA4 2
          have m3 := frozen_row hA4 3
          have m4 := frozen_row hA4 4
          have m5 := frozen_row hA4 5
          have m6 := frozen_row hA4 6
          have m7 := frozen_row hA4 7
          have m8 := frozen_row hA4 8
          have m9 := frozen_row hA4 9
          have m10 := frozen_row hA4 10
          have m11 := frozen_row hA4 11
          have m12 := frozen_row hA4 12
          refine tree_bar ?_
          refine step_same rfl (by rfl) ?_
          simp only [List.getElem_toArray, List.getElem_cons_zero, List.getElem_cons_succ]
          go_simp
          refine ⟨regrown_of_below (st13 hv4 hg4), ?_⟩
          refine tree_end ?_
          go_wp2_with fail
          go_meet
          exact fin13 hv4 hA4 hg4
        · refine step_same rfl (by rfl) ?_
          simp only [List.getElem_toArray, List.getElem_cons_zero, List.getElem_cons_succ]
          go_simp
          have hA5 := heap_alloc_new V2 (.cells #[.int .u32 0, .int .i64 0, .int .u32 0, .int .i64 0, .int .i64 0, .slice none 0 0, .slice none 0 0, .int .u32 0, .int .u32 0, .bool false, .int .u32 0, .slice none 0 0, .int .i64 0] 43)
          have hb5 := below1 V2 (.cells #[.int .u32 0, .int .i64 0, .int .u32 0, .int .i64 0, .int .i64 0, .slice none 0 0, .slice none 0 0, .int .u32 0, .int .u32 0, .bool false, .int .u32 0, .slice none 0 0, .int .i64 0] 43)
          have hv5 := below_call hv2 hb5
          have hg5 : W3.heap.size ≤ V2.heap.size := hv2.size
          refine ⟨regrown_of_below hv5, ?_⟩
          generalize V2.alloc (.cells #[.int .u32 0, .int .i64 0, .int .u32 0, .int .i64 0, .int .i64 0, .slice none 0 0, .slice none 0 0, .int .u32 0, .int .u32 0, .bool false, .int .u32 0, .slice none 0 0, .int .i64 0] 43) = V5 at *
          generalize V2.heap.size = gA at *
          refine tree_bar ?_
          refine step_same rfl (by rfl) ?_
          simp only [List.getElem_toArray, List.getElem_cons_zero, List.getElem_cons_succ]
          go_simp
          refine (KN.out x15 (by with_reducible assumption) V5 hv5).mono ?_
          rintro e V6 ⟨rfl, hb6⟩
          have hv6 := below_call hv5 hb6
          have hA6 := blk_below hb6 hA5
          refine ⟨regrown_of_below hv6, ?_⟩
          refine tree_take [16] [_] rfl rfl ?_
          simp only [List.getElem_toArray, List.getElem_cons_zero, List.getElem_cons_succ]
          repeat (go_big_quiet_step (fail))
          refine wpQuiet_nil ?_
          obtain ⟨n0, n1, n2, n3, n4, n5, n6, n7, n8, n9, n10, n11, n12⟩ := blk13 hA6
          have m0 := frozen_row hA6 0
          have m1 := frozen_row hA6 1
          have m2 := frozen_row hA6 2
          have m3 := frozen_row hA6 3
          have m4 := frozen_row hA6 4
          have m5 := frozen_row hA6 5
          have m6 := frozen_row hA6 6
          have m7 := frozen_row hA6 7
          have m8 := frozen_row hA6 8
          have m9 := frozen_row hA6 9
          have m10 := frozen_row hA6 10
          have m11 := frozen_row hA6 11
          have m12 := frozen_row hA6 12
          refine tree_bar ?_
          refine step_same rfl (by rfl) ?_
          simp only [List.getElem_toArray, List.getElem_cons_zero, List.getElem_cons_succ]
          go_simp
          refine ⟨regrown_of_below (st13 hv6 hg5), ?_⟩
          refine tree_end ?_
          go_wp2_with fail
          go_meet
          exact fin13 hv6 hA6 hg5
      · refine step_same rfl (by rfl) ?_
        simp only [List.getElem_toArray, List.getElem_cons_zero, List.getElem_cons_succ]
        go_simp
        have hA7 := heap_alloc_new V1 (.cells #[.int .u32 0, .int .i64 0, .int .u32 0, .int .i64 0, .int .i64 0, .slice none 0 0, .slice none 0 0, .int .u32 0, .int .u32 0, .bool false, .int .u32 0, .slice none 0 0, .int .i64 0] 43)
        have hb7 := below1 V1 (.cells #[.int .u32 0, .int .i64 0, .int .u32 0, .int .i64 0, .int .i64 0, .slice none 0 0, .slice none 0 0, .int .u32 0, .int .u32 0, .bool false, .int .u32 0, .slice none 0 0, .int .i64 0] 43)
        have hv7 := below_call hv1 hb7
        have hg7 : W3.heap.size ≤ V1.heap.size := hv1.size
        refine ⟨regrown_of_below hv7, ?_⟩
        generalize V1.alloc (.cells #[.int .u32 0, .int .i64 0, .int .u32 0, .int .i64 0, .int .i64 0, .slice none 0 0, .slice none 0 0, .int .u32 0, .int .u32 0, .bool false, .int .u32 0, .slice none 0 0, .int .i64 0] 43) = V7 at *
        generalize V1.heap.size = gA at *
        refine tree_bar ?_
        refine step_same rfl (by rfl) ?_
        simp only [List.getElem_toArray, List.getElem_cons_zero, List.getElem_cons_succ]
        go_simp
        refine (KN.out x6 (by with_reducible assumption) V7 hv7).mono ?_
        rintro e V8 ⟨rfl, hb8⟩
        have hv8 := below_call hv7 hb8
        have hA8 := blk_below hb8 hA7
        refine ⟨regrown_of_below hv8, ?_⟩
        refine tree_bar ?_
        refine step_same rfl (by rfl) ?_
        simp only [List.getElem_toArray, List.getElem_cons_zero, List.getElem_cons_succ]
        go_simp
        refine (KN.out x15 (by with_reducible assumption) V8 hv8).mono ?_
        rintro e V9 ⟨rfl, hb9⟩
        have hv9 := below_call hv8 hb9
        have hA9 := blk_below hb9 hA8
        refine ⟨regrown_of_below hv9, ?_⟩
        refine tree_take [16] [_] rfl rfl ?_
        simp only [List.getElem_toArray, List.getElem_cons_zero, List.getElem_cons_succ]
        repeat (go_big_quiet_step (fail))
        refine wpQuiet_nil ?_
        obtain ⟨n0, n1, n2, n3, n4, n5, n6, n7, n8, n9, n10, n11, n12⟩ := blk13 hA9
        have m0 := frozen_row hA9 0
        have m1 := frozen_row hA9 1
        have m2 := frozen_row hA9 2
        have m3 := frozen_row hA9 3
        have m4 := frozen_row hA9 4
        have m5 := frozen_row hA9 5
        have m6 := frozen_row hA9 6
        have m7 := frozen_row hA9 7
        have m8 := frozen_row hA9 8
        have m9 := frozen_row hA9 9
        have m10 := frozen_row hA9 10
        have m11 := frozen_row hA9 11
        have m12 := frozen_row hA9 12
        refine tree_bar ?_
        refine step_same rfl (by rfl) ?_
        simp only [List.getElem_toArray, List.getElem_cons_zero, List.getElem_cons_succ]
        go_simp
        refine ⟨regrown_of_below (st13 hv9 hg7), ?_⟩
        refine tree_end ?_
        go_wp2_with fail
        go_meet
        exact fin13 hv9 hA9 hg7
    · refine step_same rfl (by rfl) ?_
      simp only [List.getElem_toArray, List.getElem_cons_zero, List.getElem_cons_succ]
      go_simp
      have hA10 := heap_alloc_new V0 (.cells #[.int .u32 0, .int .i64 0, .int .u32 0, .int .i64 0, .int .i64 0, .slice none 0 0, .slice none 0 0, .int .u32 0, .int .u32 0, .bool false, .int .u32 0, .slice none 0 0, .int .i64 0] 43)
      have hb10 := below1 V0 (.cells #[.int .u32 0, .int .i64 0, .int .u32 0, .int .i64 0, .int .i64 0, .slice none 0 0, .slice none 0 0, .int .u32 0, .int .u32 0, .bool false, .int .u32 0, .slice none 0 0, .int .i64 0] 43)
      have hv10 := below_call hv0 hb10
      have hg10 : W3.heap.size ≤ V0.heap.size := hv0.size
      refine ⟨regrown_of_below hv10, ?_⟩
      generalize V0.alloc (.cells #[.int .u32 0, .int .i64 0, .int .u32 0, .int .i64 0, .int .i64 0, .slice none 0 0, .slice none 0 0, .int .u32 0, .int .u32 0, .bool false, .int .u32 0, .slice none 0 0, .int .i64 0] 43) = V10 at *
      generalize V0.heap.size = gA at *
      refine tree_bar ?_
      refine step_same rfl (by rfl) ?_
      simp only [List.getElem_toArray, List.getElem_cons_zero, List.getElem_cons_succ]
      go_simp
      refine (KN.out x4 (by with_reducible assumption) V10 hv10).mono ?_
      rintro e V11 ⟨rfl, hb11⟩
      have hv11 := below_call hv10 hb11
      have hA11 := blk_below hb11 hA10
      refine ⟨regrown_of_below hv11, ?_⟩
      refine tree_bar ?_
      refine step_same rfl (by rfl) ?_
      simp only [List.getElem_toArray, List.getElem_cons_zero, List.getElem_cons_succ]
      go_simp
      refine (KN.out x6 (by with_reducible assumption) V11 hv11).mono ?_
      rintro e V12 ⟨rfl, hb12⟩
      have hv12 := below_call hv11 hb12
      have hA12 := blk_below hb12 hA11
      refine ⟨regrown_of_below hv12, ?_⟩
      refine tree_bar ?_
      refine step_same rfl (by rfl) ?_
      simp only [List.getElem_toArray, List.getElem_cons_zero, List.getElem_cons_succ]
      go_simp
      refine (KN.out x15 (by with_reducible assumption) V12 hv12).mono ?_
      rintro e V13 ⟨rfl, hb13⟩
      have hv13 := below_call hv12 hb13
      have hA13 := blk_below hb13 hA12
      refine ⟨regrown_of_below hv13, ?_⟩
      refine tree_take [16] [_] rfl rfl ?_
      simp only [List.getElem_toArray, List.getElem_cons_zero, List.getElem_cons_succ]
      repeat (go_big_quiet_step (fail))
      refine wpQuiet_nil ?_
      obtain ⟨n0, n1, n2, n3, n4, n5, n6, n7, n8, n9, n10, n11, n12⟩ := blk13 hA13
      have m0 := frozen_row hA13 0
      have m1 := frozen_row hA13 1
      have m2 := frozen_row hA13 2
      have m3 := frozen_row hA13 3
      have m4 := frozen_row hA13 4
      have m5 := frozen_row hA13 5
      have m6 := frozen_row hA13 6
      have m7 := frozen_row hA13 7
      have m8 := frozen_row hA13 8
      have m9 := frozen_row hA13 9
      have m10 := frozen_row hA13 10
      have m11 := frozen_row hA13 11
      have m12 := frozen_row hA13 12
      refine tree_bar ?_
      refine step_same rfl (by rfl) ?_
      simp only [List.getElem_toArray, List.getElem_cons_zero, List.getElem_cons_succ]
      go_simp
      refine ⟨regrown_of_below (st13 hv13 hg10), ?_⟩
      refine tree_end ?_
      go_wp2_with fail
      go_meet
      exact fin13 hv13 hA13 hg10

  case rest =>
    obtain ⟨g, hs7, hgW, hkr, hbx⟩ := hcut
    subst hs7
    clear s4 s6 s11 s15 KN hex hc1 hc2 hc3
    have HKr := Lib.hid hkr
    clear hkr
    have f0 := cell_kept hbx (cells_str (k := 0) HKL3.out rfl)
    have hEx := hE3.below hbx
    go_wp2_with fail
    refine (parsePrefix_any x0 wc hEx l0).mono ?_
    rintro e V0 ⟨rfl, hb⟩
    have hkV := blk_below hb HKr.out
    obtain ⟨d0, d1, d2, d3, d4, d5, d6, d7, d8, d9, d10, d11, d12⟩ := blk13 hkV
    have z0 := frozen_row hkV 0
    have z1 := frozen_row hkV 1
    have z2 := frozen_row hkV 2
    have z3 := frozen_row hkV 3
    have z4 := frozen_row hkV 4
    have z5 := frozen_row hkV 5
    have z6 := frozen_row hkV 6
    have z7 := frozen_row hkV 7
    have z8 := frozen_row hkV 8
    have z9 := frozen_row hkV 9
    have z10 := frozen_row hkV 10
    have z11 := frozen_row hkV 11
    have z12 := frozen_row hkV 12
    have HV0 := Lib.hid hkV
    have hbV0 := below_call hbx hb
    clear hkV hb f0 hEx HKr
    have hbN0 := ((hbV0.setCell (p := ⟨g, 0, none⟩) hgW (.int .u32 (ppA x0.data.toList))).setCell (p := ⟨g, 1, none⟩) hgW (.int .i64 (ppN x0.data.toList)))
    have hkN := (aset1 (u := .int .i64 (ppN x0.data.toList)) (aset0 (u := .int .u32 (ppA x0.data.toList)) HV0.out))
    have HN0 := Lib.hid hkN
    clear hkN
    have hEN0 := hE3.below hbN0
    have f1' := cell_kept hbN0 (cells_str (k := 2) HKL3.out rfl)
    go_wp2_with fail
    clear d0 d1 d2 d3 d4 d5 d6 d7 d8 d9 d10 d11 d12 z0 z1 z2 z3 z4 z5 z6 z7 z8 z9 z10 z11 z12
    generalize ((V0.setCell ⟨g, 0, none⟩ (.int .u32 (ppA x0.data.toList))).setCell ⟨g, 1, none⟩ (.int .i64 (ppN x0.data.toList))) = Y0 at *
    refine (addrParse_any x2 Y0 hEN0 l2).mono ?_
    rintro e V1 ⟨rfl, hb⟩
    have hkV := blk_below hb HN0.out
    obtain ⟨d0, d1, d2, d3, d4, d5, d6, d7, d8, d9, d10, d11, d12⟩ := blk13 hkV
    have z0 := frozen_row hkV 0
    have z1 := frozen_row hkV 1
    have z2 := frozen_row hkV 2
    have z3 := frozen_row hkV 3
    have z4 := frozen_row hkV 4
    have z5 := frozen_row hkV 5
    have z6 := frozen_row hkV 6
    have z7 := frozen_row hkV 7
    have z8 := frozen_row hkV 8
    have z9 := frozen_row hkV 9
    have z10 := frozen_row hkV 10
    have z11 := frozen_row hkV 11
    have z12 := frozen_row hkV 12
    have HV1 := Lib.hid hkV
    have hbV1 := below_call hbN0 hb
    clear hkV hb f1' hEN0 HN0
    have hbN1 := (hbV1.setCell (p := ⟨g, 2, none⟩) hgW (.int .u32 (adV (parseB x2.data.toList))))
    have hkN := (aset2 (u := .int .u32 (adV (parseB x2.data.toList))) HV1.out)
    have HN1 := Lib.hid hkN
    clear hkN
    have hEN1 := hE3.below hbN1
    have f2' := cell_kept hbN1 (cells_str (k := 8) HKL3.out rfl)
    clear hbV0
    go_wp2_with fail
    clear d0 d1 d2 d3 d4 d5 d6 d7 d8 d9 d10 d11 d12 z0 z1 z2 z3 z4 z5 z6 z7 z8 z9 z10 z11 z12
    generalize (V1.setCell ⟨g, 2, none⟩ (.int .u32 (adV (parseB x2.data.toList)))) = Y1 at *
    refine (addrParse_any x8 Y1 hEN1 l8).mono ?_
    rintro e V2 ⟨rfl, hb⟩
    have hkV := blk_below hb HN1.out
    obtain ⟨d0, d1, d2, d3, d4, d5, d6, d7, d8, d9, d10, d11, d12⟩ := blk13 hkV
    have z0 := frozen_row hkV 0
    have z1 := frozen_row hkV 1
    have z2 := frozen_row hkV 2
    have z3 := frozen_row hkV 3
    have z4 := frozen_row hkV 4
    have z5 := frozen_row hkV 5
    have z6 := frozen_row hkV 6
    have z7 := frozen_row hkV 7
    have z8 := frozen_row hkV 8
    have z9 := frozen_row hkV 9
    have z10 := frozen_row hkV 10
    have z11 := frozen_row hkV 11
    have z12 := frozen_row hkV 12
    have HV2 := Lib.hid hkV
    have hbV2 := below_call hbN1 hb
    clear hkV hb f2' hEN1 HN1
    have hbN2 := (hbV2.setCell (p := ⟨g, 7, none⟩) hgW (.int .u32 (adV (parseB x8.data.toList))))
    have hkN := (aset7 (u := .int .u32 (adV (parseB x8.data.toList))) HV2.out)
    have HN2 := Lib.hid hkN
    clear hkN
    have hEN2 := hE3.below hbN2
    have f3' := cell_kept hbN2 (cells_str (k := 10) HKL3.out rfl)
    clear hbN1 hbV1
    go_wp2_with fail
    clear d0 d1 d2 d3 d4 d5 d6 d7 d8 d9 d10 d11 d12 z0 z1 z2 z3 z4 z5 z6 z7 z8 z9 z10 z11 z12
    generalize (V2.setCell ⟨g, 7, none⟩ (.int .u32 (adV (parseB x8.data.toList)))) = Y2 at *
    refine (addrParse_any x10 Y2 hEN2 l10).mono ?_
    rintro e V3 ⟨rfl, hb⟩
    have hkV := blk_below hb HN2.out
    obtain ⟨d0, d1, d2, d3, d4, d5, d6, d7, d8, d9, d10, d11, d12⟩ := blk13 hkV
    have z0 := frozen_row hkV 0
    have z1 := frozen_row hkV 1
    have z2 := frozen_row hkV 2
    have z3 := frozen_row hkV 3
    have z4 := frozen_row hkV 4
    have z5 := frozen_row hkV 5
    have z6 := frozen_row hkV 6
    have z7 := frozen_row hkV 7
    have z8 := frozen_row hkV 8
    have z9 := frozen_row hkV 9
    have z10 := frozen_row hkV 10
    have z11 := frozen_row hkV 11
    have z12 := frozen_row hkV 12
    have HV3 := Lib.hid hkV
    have hbV3 := below_call hbN2 hb
    clear hkV hb f3' hEN2 HN2
    have hbN3 := (hbV3.setCell (p := ⟨g, 8, none⟩) hgW (.int .u32 (adV (parseB x10.data.toList))))
    have hkN := (aset8 (u := .int .u32 (adV (parseB x10.data.toList))) HV3.out)
    have HN3 := Lib.hid hkN
    clear hkN
    have hEN3 := hE3.below hbN3
    have f4' := cell_kept hbN3 (cells_str (k := 13) HKL3.out rfl)
    clear hbN2 hbV2
    go_wp2_with fail
    clear d0 d1 d2 d3 d4 d5 d6 d7 d8 d9 d10 d11 d12 z0 z1 z2 z3 z4 z5 z6 z7 z8 z9 z10 z11 z12
    generalize (V3.setCell ⟨g, 8, none⟩ (.int .u32 (adV (parseB x10.data.toList)))) = Y3 at *
    refine (addrParse_any x13 Y3 hEN3 l13).mono ?_
    rintro e V4 ⟨rfl, hb⟩
    have hkV := blk_below hb HN3.out
    obtain ⟨d0, d1, d2, d3, d4, d5, d6, d7, d8, d9, d10, d11, d12⟩ := blk13 hkV
    have z0 := frozen_row hkV 0
    have z1 := frozen_row hkV 1
    have z2 := frozen_row hkV 2
    have z3 := frozen_row hkV 3
    have z4 := frozen_row hkV 4
    have z5 := frozen_row hkV 5
    have z6 := frozen_row hkV 6
    have z7 := frozen_row hkV 7
    have z8 := frozen_row hkV 8
    have z9 := frozen_row hkV 9
    have z10 := frozen_row hkV 10
    have z11 := frozen_row hkV 11
    have z12 := frozen_row hkV 12
    have HV4 := Lib.hid hkV
    have hbV4 := below_call hbN3 hb
    clear hkV hb f4' hEN3 HN3
    have hbN4 := (hbV4.setCell (p := ⟨g, 10, none⟩) hgW (.int .u32 (adV (parseB x13.data.toList))))
    have hkN := (aset10 (u := .int .u32 (adV (parseB x13.data.toList))) HV4.out)
    have HN4 := Lib.hid hkN
    clear hkN
    have hEN4 := hE3.below hbN4
    clear hbN3 hbV3
    go_upto_region 12 with fail
    clear d0 d1 d2 d3 d4 d5 d6 d7 d8 d9 d10 d11 d12 z0 z1 z2 z3 z4 z5 z6 z7 z8 z9 z10 z11 z12
    generalize (V4.setCell ⟨g, 10, none⟩ (.int .u32 (adV (parseB x13.data.toList)))) = W4 at *

    clear hba hbc hbe hbg hbi hbk hbl hbn hbp hia hic hie hig hii hik hil hin hip l0 l2 l4 l6 l8 l10 l13 l15 hbV4
    have hkL4 := blk_below hbN4 HKL3.out
    have HKL4 := Lib.hid hkL4
    clear hkL4
    have KM := Lib.hid (fun (o n c : Nat) (ho : o + n ≤ N) (hc : n ≤ c) (V : World) (hV : Below W4.heap.size W4 V) => numbers_any (((x0 :: x1 :: x2 :: x3 :: x4 :: x5 :: x6 :: x7 :: x8 :: x9 :: x10 :: x11 :: x12 :: x13 :: x14 :: x15 :: x16 :: R).drop o).take n) (.slice (some ⟨gL, o, none⟩) n c) V (hEN4.below hV) (rd_sub (blk_below hV HKL4.out) (fun _ => rfl) (by rw [HLN.out]; exact ho) hc) (fun x hx => HL.out x (List.mem_of_mem_drop (List.mem_of_mem_take hx))) (by have := HLN.out; rw [List.length_take, List.length_drop]; omega))
    have hb17 : (17 : Int) ≤ (ni : Int) := by omega
    have hbNi : (ni : Int) ≤ (N : Int) := by omega
    have hbn1 : (ni : Int) + 1 ≤ (nj : Int) := by omega
    have hbNj : (nj : Int) ≤ (N : Int) := by omega
    have hni0 : (0 : Int) ≤ (ni : Int) := by omega
    have hN17 : ¬ N = 17 := by omega
    have hNi1 : ¬ N = ni + 1 := by omega
    have hlt1 : 17 ≤ N := by omega
    have hlt2 : ni + 1 ≤ N := by omega
    have hlt3 : ni + 1 ≤ nj := by omega
    have hw1 : wrap64 ((ni : Int) + 1) = (ni : Int) + 1 := by unfold wrap64; omega
    go_cut [] (fun wx => Hid (∃ (vp vo : Value) (pa co : List Int), wx.heap[g]? = some (.cells #[.int .u32 (ppA x0.data.toList), .int .i64 (ppN x0.data.toList), .int .u32 (adV (parseB x2.data.toList)), .int .i64 (num31 x4.data.toList), .int .i64 (num31 x6.data.toList), vp, vo, .int .u32 (adV (parseB x8.data.toList)), .int .u32 (adV (parseB x10.data.toList)), .bool (decide (x11.data.toList = extW)), .int .u32 (adV (parseB x13.data.toList)), .slice none 0 0, .int .i64 (num31 x15.data.toList)] 43 (0, 0)) ∧ Rd wx wx.heap.size 1 vp pa.length (pa.map (Value.int .u32)) ∧ Rd wx wx.heap.size 1 vo co.length (co.map (Value.int .u32)) ∧ FarV g vp ∧ FarV g vo ∧ FarV w.heap.size vp ∧ FarV w.heap.size vo ∧ u32s pa ∧ u32s co ∧ ListRel NumRel ((((x0 :: x1 :: x2 :: x3 :: x4 :: x5 :: x6 :: x7 :: x8 :: x9 :: x10 :: x11 :: x12 :: x13 :: x14 :: x15 :: x16 :: R).drop 17).take (ni - 17)).map (·.data.toList)) pa ∧ ListRel NumRel ((((x0 :: x1 :: x2 :: x3 :: x4 :: x5 :: x6 :: x7 :: x8 :: x9 :: x10 :: x11 :: x12 :: x13 :: x14 :: x15 :: x16 :: R).drop (ni + 1)).take (nj - (ni + 1))).map (·.data.toList)) co ∧ Below W3.heap.size W3 wx))
    case first =>
      refine wp_region_treeB (W0 := W3) (plains (.bar 3 (plains (.bar 9 (.bar 11 (plains (.bar 13 .done) [12]))) [10])) [0, 1, 2, 4, 5, 6, 7, 8]) hbN4 (by kernel_rfl) (by kernel_rfl) ?_
      have hd0 := below_drawn W4
      have hv0 := below_call hbN4 hd0
      have hkg0 := blk_below hd0 HN4.out
      generalize { W4 with drawn := W4.drawn + 1 } = V0 at *
      refine tree_take [0, 1, 2, 4, 5, 6, 7, 8] [_, _, _, _, _, _, _, _] rfl rfl ?_
      simp only [List.getElem_toArray, List.getElem_cons_zero, List.getElem_cons_succ]
      repeat (go_big_quiet_step (fail))
      refine wpQuiet_nil ?_
      refine tree_bar ?_
      refine step_same rfl (by rfl) ?_
      simp only [List.getElem_toArray, List.getElem_cons_zero, List.getElem_cons_succ]
      go_simp
      refine (KM.out 17 (ni - 17) (N - 17) (by omega) (by omega) V0 hd0).mono ?_
      rintro e V1 ⟨v1, pa, rfl, own1, u1, r1, hb1⟩
      have hd1 := below_call hd0 hb1
      have hv1 := below_call hv0 hb1
      have hkg1 := blk_below hb1 hkg0
      obtain ⟨A1, c1, rfl, _⟩ := owns_form own1
      have far1 := far_own own1 (lt_of_block hkg0)
      have fas1 := far_own (g := w.heap.size) own1 (Nat.lt_of_lt_of_le hgw3 hv0.size)
      have rd1 := Rd.of_own own1
      refine ⟨regrown_of_below hv1, ?_⟩
      clear own1
      refine tree_take [10] [_] rfl rfl ?_
      simp only [List.getElem_toArray, List.getElem_cons_zero, List.getElem_cons_succ]
      repeat (go_big_quiet_step (fail))
      refine wpQuiet_nil ?_
      refine tree_bar ?_
      refine step_same rfl (by rfl) ?_
      simp only [List.getElem_toArray, List.getElem_cons_zero, List.getElem_cons_succ]
      go_simp
      refine (KM.out (ni + 1) (nj - (ni + 1)) (N - (ni + 1)) (by omega) (by omega) V1 hd1).mono ?_
      rintro e V2 ⟨v2, co, rfl, own2, u2, r2, hb2⟩
      have hv2 := below_call hv1 hb2
      have hkg2 := blk_below hb2 hkg1
      obtain ⟨A2, c2, rfl, _⟩ := owns_form own2
      have far2 := far_own own2 (lt_of_block hkg1)
      have fas2 := far_own (g := w.heap.size) own2 (Nat.lt_of_lt_of_le hgw3 hv1.size)
      have rd2 := Rd.of_own own2
      have rd12 := (rd1.below hb2).mono hb2.size
      refine ⟨regrown_of_below hv2, ?_⟩
      clear own2 rd1 hkg0 hkg1
      refine tree_bar ?_
      obtain ⟨d0, d1, d2, d3, d4, d5, d6, d7, d8, d9, d10, d11, d12⟩ := blk13 hkg2
      have z0 := frozen_row hkg2 0
      have z1 := frozen_row hkg2 1
      have z2 := frozen_row hkg2 2
      have z3 := frozen_row hkg2 3
      have z4 := frozen_row hkg2 4
      have z5 := frozen_row hkg2 5
      have z6 := frozen_row hkg2 6
      have z7 := frozen_row hkg2 7
      have z8 := frozen_row hkg2 8
      have z9 := frozen_row hkg2 9
      have z10 := frozen_row hkg2 10
      have z11 := frozen_row hkg2 11
      have z12 := frozen_row hkg2 12
      have HK2 := Lib.hid hkg2
      clear hkg2
      refine step_same rfl (by rfl) ?_
      simp only [List.getElem_toArray, List.getElem_cons_zero, List.getElem_cons_succ]
      go_simp
      have hv3 := hv2.setCell (p := ⟨g, 5, none⟩) hgW (.slice A1 pa.length c1)
      refine ⟨regrown_of_below hv3, ?_⟩
      have hkg3 := aset5 (u := .slice A1 pa.length c1) HK2.out
      have rd13 := rd12.setFar (i := 5) (u := .slice A1 pa.length c1) far1
      have rd23 := rd2.setFar (i := 5) (u := .slice A1 pa.length c1) far2
      clear d0 d1 d2 d3 d4 d5 d6 d7 d8 d9 d10 d11 d12 z0 z1 z2 z3 z4 z5 z6 z7 z8 z9 z10 z11 z12 rd12 rd2
      have hs2 : (V2.setCell ⟨g, 5, none⟩ (.slice A1 pa.length c1)).heap.size = V2.heap.size := by simp [World.setCell]
      rw [← hs2] at rd13 rd23
      clear hs2
      generalize V2.setCell ⟨g, 5, none⟩ (.slice A1 pa.length c1) = V3 at *
      refine tree_take [12] [_] rfl rfl ?_
      simp only [List.getElem_toArray, List.getElem_cons_zero, List.getElem_cons_succ]
      repeat (go_big_quiet_step (fail))
      refine wpQuiet_nil ?_
      refine tree_bar ?_
      obtain ⟨d0, d1, d2, d3, d4, d5, d6, d7, d8, d9, d10, d11, d12⟩ := blk13 hkg3
      have z0 := frozen_row hkg3 0
      have z1 := frozen_row hkg3 1
      have z2 := frozen_row hkg3 2
      have z3 := frozen_row hkg3 3
      have z4 := frozen_row hkg3 4
      have z5 := frozen_row hkg3 5
      have z6 := frozen_row hkg3 6
      have z7 := frozen_row hkg3 7
      have z8 := frozen_row hkg3 8
      have z9 := frozen_row hkg3 9
      have z10 := frozen_row hkg3 10
      have z11 := frozen_row hkg3 11
      have z12 := frozen_row hkg3 12
      have HK3 := Lib.hid hkg3
      clear hkg3
      refine step_same rfl (by rfl) ?_
      simp only [List.getElem_toArray, List.getElem_cons_zero, List.getElem_cons_succ]
      go_simp
      have hv4 := hv3.setCell (p := ⟨g, 6, none⟩) hgW (.slice A2 co.length c2)
      refine ⟨regrown_of_below hv4, ?_⟩
      have hkg4 := aset6 (u := .slice A2 co.length c2) HK3.out
      have rd14 := rd13.setFar (i := 6) (u := .slice A2 co.length c2) far1
      have rd24 := rd23.setFar (i := 6) (u := .slice A2 co.length c2) far2
      have hs3 : (V3.setCell ⟨g, 6, none⟩ (.slice A2 co.length c2)).heap.size = V3.heap.size := by simp [World.setCell]
      rw [← hs3] at rd14 rd24
      clear d0 d1 d2 d3 d4 d5 d6 d7 d8 d9 d10 d11 d12 z0 z1 z2 z3 z4 z5 z6 z7 z8 z9 z10 z11 z12
      refine tree_end ?_
      go_wp2_with fail
      go_meet
      exact ⟨_, _, pa, co, hkg4, rd14, rd24, far1, far2, fas1, fas2, u1, u2, r1, r2, hv4⟩
    case rest =>
      obtain ⟨vp, vo, pa, co, hkd, rdp, rdo, farp, faro, fasp, faso, up, uo, rp, ro', hbd⟩ := hcut.out
      clear hcut hw1 hN17 hNi1 hlt1 hlt2 hlt3 hb17 hbn1 hni0 hbNi KM HN4 hbN4 hEN4 HKL4
      rename World => wd
      have HKD := Lib.hid hkd
      have RDP := Lib.hid rdp
      have RDO := Lib.hid rdo
      have HBD := Lib.hid hbd
      have RP := Lib.hid rp
      have RO := Lib.hid ro'
      have UP := Lib.hid up
      have UO := Lib.hid uo
      have FP := Lib.hid farp
      have FO := Lib.hid faro
      have FSP := Lib.hid fasp
      have FSO := Lib.hid faso
      have hgd : Hid (g < wd.heap.size) := lt_of_block hkd
      clear hkd rdp rdo hbd rp ro' up uo farp faro fasp faso
      have hnj0 : (0 : Int) ≤ (nj : Int) := by omega
      have hj1 : nj + 1 ≤ N := by omega
      have hj1i : (nj : Int) + 1 ≤ (N : Int) := by omega
      have hw3 : wrap64 ((nj : Int) + 1) = (nj : Int) + 1 := by unfold wrap64; omega
      have hcz : N = nj + 1 ∨ ¬ N = nj + 1 := by omega
      go_upto_region 13 with fail
      go_cut [105, 106, 107] (fun s5 s6 s7 wx => ∃ A : Option Addr, s5 = .slice A (N - (nj + 1)) (N - (nj + 1)) ∧ s6 = .int .i64 ((N - (nj + 1) : Nat) : Int) ∧ s7 = .int .i64 0 ∧ Hid ((0 < N - (nj + 1) → A = some ⟨gL, nj + 1, none⟩) ∧ wx = wd))
      case first =>
        clear hrn h17 hij hlim hnj0
        rcases hcz with rfl | hz
        · clear hj1 hj1i
          go_wp2_with fail
          go_meet
          exact ⟨_, by simp; rfl, by simp, rfl, fun h => absurd h (by omega), rfl⟩
        · go_wp2_with fail
          go_meet
          exact ⟨_, rfl, rfl, rfl, fun _ => rfl, rfl⟩
      case rest =>
       clear hcz
       obtain ⟨A3, hs5, hs6, hs7, hA3⟩ := hcut
       subst hs5 hs6 hs7
       obtain ⟨hA4, rfl⟩ := hA3.out
       clear hA3
       rename World => wd
       generalize hn3 : N - (nj + 1) = n3 at *
       have HN3 := Lib.hid hn3
       have hn3b : n3 ≤ 5000 := by omega
       clear hn3 hw3 hj1 hj1i
       go_wp2
       obtain ⟨i0, hi0', hz0, hz1, hz2⟩ := info_parts Tryd.infoAddr
       go_loopw [9, 10, 11, 107] (fun _ _ _ i wr => ∃ (k : Nat) (vl : Value) (cl : List Int), i = .int .i64 k ∧ k ≤ n3 ∧ cl.length = k ∧ Hid (wr.heap[g]? = some (.cells #[.int .u32 (ppA x0.data.toList), .int .i64 (ppN x0.data.toList), .int .u32 (adV (parseB x2.data.toList)), .int .i64 (num31 x4.data.toList), .int .i64 (num31 x6.data.toList), vp, vo, .int .u32 (adV (parseB x8.data.toList)), .int .u32 (adV (parseB x10.data.toList)), .bool (decide (x11.data.toList = extW)), .int .u32 (adV (parseB x13.data.toList)), vl, .int .i64 (num31 x15.data.toList)] 43 (0, 0)) ∧ wr.ownsRow wd.heap.size 35 1 vl cl.length (cl.map (Value.int .u32)) ∧ Rd wr wd.heap.size 1 vp pa.length (pa.map (Value.int .u32)) ∧ Rd wr wd.heap.size 1 vo co.length (co.map (Value.int .u32)) ∧ u32s cl ∧ ListRel AddrRel ((((x0 :: x1 :: x2 :: x3 :: x4 :: x5 :: x6 :: x7 :: x8 :: x9 :: x10 :: x11 :: x12 :: x13 :: x14 :: x15 :: x16 :: R).drop (nj + 1)).take k).map (·.data.toList)) cl ∧ Below W3.heap.size W3 wr ∧ wd.heap.size ≤ wr.heap.size)) (fun _ _ _ i _ => n3 - (intOf i).toNat)
       case atStart => exact ⟨0, .slice none 0 0, [], rfl, by omega, rfl, HKD.out, World.ownsRow_nil _ _ _ _, RDP.out, RDO.out, u32s_nil, listRel_nil _, HBD.out, Nat.le_refl _⟩
       case round =>
        obtain ⟨k, vl, cl, rfl, hk, hlk, hst⟩ := hrel
        obtain rfl : cl.length = k := hlk
        obtain ⟨hG, hO, hrp, hro, hu, hlr, hB3, hsz⟩ := hst.out
        have HG := Lib.hid hG
        have HO := Lib.hid hO
        have HRP := Lib.hid hrp
        have HRO := Lib.hid hro
        have HU := Lib.hid hu
        have HLR := Lib.hid hlr
        have HB3 := Lib.hid hB3
        have HSZ := Lib.hid hsz
        clear hst hG hO hrp hro hu hlr hB3 hsz
        by_cases hlt : cl.length < n3
        · have hI : (cl.length : Int) < (n3 : Int) := by omega
          obtain rfl := hA4 (by omega)
          obtain ⟨x, hx⟩ : ∃ x, ((x0 :: x1 :: x2 :: x3 :: x4 :: x5 :: x6 :: x7 :: x8 :: x9 :: x10 :: x11 :: x12 :: x13 :: x14 :: x15 :: x16 :: R).drop (nj + 1))[cl.length]? = some x := ⟨_, List.getElem?_eq_getElem (by have := HLN.out; have := HN3.out; rw [List.length_drop]; omega)⟩
          have f0 : wr.cell? ⟨gL, nj + 1 + cl.length, none⟩ = some (.string x) := cell_kept HB3.out (cells_str (k := nj + 1 + cl.length) HKL3.out (by rw [List.getElem?_drop] at hx; exact hx))
          have hxs := HL.out x (List.mem_of_mem_drop (List.mem_of_getElem? hx))
          have HX := Lib.hid hx
          have hC := Lib.hid (addrParse_any x wr (hE3.below HB3.out) hxs)
          clear hx hxs
          go_wp2_with fail
          refine hC.out.mono ?_
          rintro e V ⟨rfl, hb⟩
          have HGV := Lib.hid (blk_below hb HG.out)
          have HBV := Lib.hid (below_call HB3.out hb)
          have hOV := owns_kept_none HO.out (only_of_below hb none)
          have hbd := hb.mono HSZ.out
          have HRPV := Lib.hid (HRP.out.below hbd)
          have HROV := Lib.hid (HRO.out.below hbd)
          have hszV : wd.heap.size ≤ V.heap.size := Nat.le_trans HSZ.out hb.size
          have hgv := HGV.out
          obtain ⟨d0, d1, d2, d3, d4, d5, d6, d7, d8, d9, d10, d11, d12⟩ := blk13 hgv
          have hadd := adV_lt x.data.toList
          clear hb hbd hgv f0 hC
          go_wp2_with (at_builtin; refine wpList_push rfl _ _ 41 rfl 35 i0 _ 1 4 Tryd.underlying41 hi0' hz0 hz1 hz2 rfl (by decide) (by decide) [.int .u32 (adV (parseB x.data.toList))] rfl rfl (by simp) hOV rfl (one_u32 _) (by omega) hszV (Below.refl wd.heap.size V) (Nat.le_refl _) ?_; intro v2 w2 hown2 hb2; obtain ⟨A5, c5, rfl, _⟩ := owns_form hown2; clear d0 d1 d2 d3 d4 d5 d6 d7 d8 d9 d10 d11 d12; have hgv2 := (hb2.block g hgd.out).trans HGV.out; obtain ⟨d0, d1, d2, d3, d4, d5, d6, d7, d8, d9, d10, d11, d12⟩ := blk13 hgv2; have z0 := frozen_row hgv2 0; have z1 := frozen_row hgv2 1; have z2 := frozen_row hgv2 2; have z3 := frozen_row hgv2 3; have z4 := frozen_row hgv2 4; have z5 := frozen_row hgv2 5; have z6 := frozen_row hgv2 6; have z7 := frozen_row hgv2 7; have z8 := frozen_row hgv2 8; have z9 := frozen_row hgv2 9; have z10 := frozen_row hgv2 10; have z11 := frozen_row hgv2 11; have z12 := frozen_row hgv2 12)
          have hB2 := HBV.out.trans (hb2.mono (Nat.le_trans (HBD.out.size) (Nat.le_refl _)))
          have hN2 := Lib.hid (show (w2.setCell ⟨g, 11, none⟩ (.slice A5 (cl.length + 1) c5)).heap[g]? = _ from aset11 (u := (.slice A5 (cl.length + 1) c5)) hgv2)
          have hO2 : (w2.setCell ⟨g, 11, none⟩ (.slice A5 (cl.length + 1) c5)).ownsRow wd.heap.size 35 1 (.slice A5 (cl.length + 1) c5) (cl ++ [adV (parseB x.data.toList)]).length ((cl ++ [adV (parseB x.data.toList)]).map (Value.int .u32)) := by
            rw [List.length_append, List.map_append]
            exact owns_kept_lt hown2 (only_setCell (p := ⟨g, 11, none⟩) (World.grownBy.refl w2 (some g)) (.inl rfl) (.slice A5 (cl.length + 1) c5)) hgd.out
          have HO2 := Lib.hid hO2
          have HRP2 := Lib.hid ((HRPV.out.below hb2).setFar (i := 11) (u := (.slice A5 (cl.length + 1) c5)) FP.out)
          have HRO2 := Lib.hid ((HROV.out.below hb2).setFar (i := 11) (u := (.slice A5 (cl.length + 1) c5)) FO.out)
          have HB4 := Lib.hid (hB2.setCell (p := ⟨g, 11, none⟩) hgW (.slice A5 (cl.length + 1) c5))
          have HS4 : Hid (wd.heap.size ≤ (w2.setCell ⟨g, 11, none⟩ (.slice A5 (cl.length + 1) c5)).heap.size) := by
            have := hb2.size
            have h2 : (w2.setCell ⟨g, 11, none⟩ (.slice A5 (cl.length + 1) c5)).heap.size = w2.heap.size := by simp [World.setCell]
            exact Lib.hid (by omega)
          have HU2 := Lib.hid (u32s_snoc HU.out hadd.1 hadd.2)
          have hlr2 : Hid (ListRel AddrRel ((((x0 :: x1 :: x2 :: x3 :: x4 :: x5 :: x6 :: x7 :: x8 :: x9 :: x10 :: x11 :: x12 :: x13 :: x14 :: x15 :: x16 :: R).drop (nj + 1)).take (cl.length + 1)).map (·.data.toList)) (cl ++ [adV (parseB x.data.toList)])) := by
            rw [List.take_add_one, HX.out, List.map_append]
            exact listRel_snoc HLR.out (addrRel_adV _)
          exact ⟨⟨cl.length + 1, (.slice A5 (cl.length + 1) c5), cl ++ [adV (parseB x.data.toList)], by go_num, by omega, by simp, hN2.out, HO2.out, HRP2.out, HRO2.out, HU2.out, hlr2.out, HB4.out, HS4.out⟩, by simp only [intOf]; omega⟩
        · have hI : ¬ (cl.length : Int) < (n3 : Int) := by omega
          have hkn : cl.length = n3 := by omega
          have hrng4 := num31_lt x4.data.toList
          have hrng6 := num31_lt x6.data.toList
          have hrng15 := num31_lt x15.data.toList
          obtain ⟨C, hC⟩ : ∃ C, C = candA x0.data.toList x2.data.toList x8.data.toList x10.data.toList x11.data.toList x13.data.toList (num31 x4.data.toList) (num31 x6.data.toList) (num31 x15.data.toList) pa co cl (by omega) (by omega) (by omega) UP.out UO.out HU.out := ⟨_, rfl⟩
          have hkC : wr.heap[g]? = some (avObj C vp vo vl) := by rw [hC]; exact HG.out
          have hlr := HLR.out
          rw [List.take_of_length_le (by have := HLN.out; have := HN3.out; rw [List.length_drop]; omega)] at hlr
          have hfit : ∀ r : AvV, r.ok = true → r.words = pieces 32 s.data.toList → C = r := by
            intro r hr hw
            have hw2 : ((x0 :: x1 :: x2 :: x3 :: x4 :: x5 :: x6 :: x7 :: x8 :: x9 :: x10 :: x11 :: x12 :: x13 :: x14 :: x15 :: x16 :: R).map (·.data.toList)) = r.words := by rw [hw, HP.out]; rfl
            obtain ⟨e1, e2, e3⟩ := lists_fit hr hw2 HIX.out HJX.out
            have q1 := RP.out
            have q2 := RO.out
            rw [e1] at q1
            rw [e2] at q2
            rw [e3] at hlr
            rw [hC]
            refine candA_fits (num31_rel _) (num31_rel _) (sess31_rel _) (rest := R.map (·.data.toList)) (fun r' hr' ht' => ?_) hr (by rw [hw, HP.out])
            have ht : R.map (·.data.toList) = r.tail := by
              have := words_tail hw2 0
              simpa using this
            have e := scan_tail r'
            rw [← ht', ht, scan_tail r] at e
            injection e with _ z1 z2 z3
            rw [z1] at q1
            rw [z2] at q2
            rw [z3] at hlr
            exact ⟨listRel_dec q1 r'.hpa, listRel_dec q2 r'.hco, listRel_addr hlr r'.hcl⟩
          have hO := avO_cand hfit
          have hlen : C.pa.length + C.co.length + C.cl.length ≤ 10000 := by
            have q1 := RP.out.1
            have q2 := RO.out.1
            have q3 := hlr.1
            rw [List.length_map] at q1 q2 q3
            rw [List.length_take] at q1 q2
            have hx := HLN.out
            rw [hC]
            show pa.length + co.length + cl.length ≤ 10000
            omega
          have hss : C.ss = num31 x15.data.toList := by rw [hC]; rfl
          have rdl := Rd.of_own HO.out
          have hEr := hE3.below HB3.out
          have hCp : C.pa = pa := by rw [hC]; rfl
          have hCo : C.co = co := by rw [hC]; rfl
          have hCl : C.cl = cl := by rw [hC]; rfl
          have FSL := Lib.hid (far_own (g := w.heap.size) HO.out (Nat.lt_of_lt_of_le hgw3 HBD.out.size))
          have hT := fun V (hV : Below wr.heap.size wr V) => avText_any C vp vo vl V (hEr.below hV) (by rw [hCp]; exact ((HRP.out.mono HSZ.out).below hV).mono hV.size) (by rw [hCo]; exact ((HRO.out.mono HSZ.out).below hV).mono hV.size) (by rw [hCl]; exact (rdl.below hV).mono hV.size) hlen
          have HT := Lib.hid hT
          have HOO := Lib.hid hO
          have HSS := Lib.hid hss
          have HKC := Lib.hid hkC
          have HRL := Lib.hid rdl
          have HCP := Lib.hid hCp
          have HCO := Lib.hid hCo
          have HCL := Lib.hid hCl
          have hk0 := blk_below HB3.out HK3.out
          have HK0 := Lib.hid hk0
          have hbw0 := Lib.hid (hb3.trans (HB3.out.mono hb3.size))
          clear hC hT hO hss hkC rdl hCp hCo hCl hlen hfit hlr hk0 hrng4 hrng6 hrng15 hkn
          have f15 : wr.cell? ⟨gL, 15, none⟩ = some (.string x15) := cell_kept HB3.out (cells_str (k := 15) HKL3.out rfl)
          have h15 : 15 < N := by omega
          have h15i : (15 : Int) < (N : Int) := by omega
          obtain ⟨d0, d1, d2, d3, d4, d5, d6, d7, d8, d9, d10, d11, d12⟩ := av_blk HKC.out
          by_cases hs1 : C.ss = -1 ∧ x15.data.toList ≠ oneW
          · have hno := Lib.hid (avO_sess HP.out (HSS.out.symm.trans hs1.1) hs1.2)
            have e1 : (C.ss == -1) = true := by rw [hs1.1]; rfl
            have e2 : (x15.toList != [45, 49]) = true := by rw [list_of]; exact bne_iff_ne.2 hs1.2
            have e3 : (x15.toList == [45, 49]) = false := by simpa using e2
            have HKZ := HK0
            have hbw := hbw0.out
            obtain ⟨c0, c1, c2, c3, c4, c5, c6, c7, c8, c9, c10, c11, c12⟩ := av_blk HK0.out
            have z0 := frozen_row HK0.out 0
            have z1 := frozen_row HK0.out 1
            have z2 := frozen_row HK0.out 2
            have z3 := frozen_row HK0.out 3
            have z4 := frozen_row HK0.out 4
            have z5 := frozen_row HK0.out 5
            have z6 := frozen_row HK0.out 6
            have z7 := frozen_row HK0.out 7
            have z8 := frozen_row HK0.out 8
            have z9 := frozen_row HK0.out 9
            have z10 := frozen_row HK0.out 10
            have z11 := frozen_row HK0.out 11
            have z12 := frozen_row HK0.out 12
            clear hs1
            go_wp2_with fail
            exact bodyPost_ret (results_a (t1 := 2) (t3 := 3) (g := w.heap.size) (r := av0) (vp := .slice none 0 0) (vo := .slice none 0 0) (vl := .slice none 0 0) Tryd.results13 rfl rfl (aset12 (aset11 (aset10 (aset9 (aset8 (aset7 (aset6 (aset5 (aset4 (aset3 (aset2 (aset1 (aset0 HKZ.out)))))))))))))) rfl (avRes_no hno.out rfl (((((((((((((hbw.setCell (Nat.le_refl _) _).setCell (Nat.le_refl _) _).setCell (Nat.le_refl _) _).setCell (Nat.le_refl _) _).setCell (Nat.le_refl _) _).setCell (Nat.le_refl _) _).setCell (Nat.le_refl _) _).setCell (Nat.le_refl _) _).setCell (Nat.le_refl _) _).setCell (Nat.le_refl _) _).setCell (Nat.le_refl _) _).setCell (Nat.le_refl _) _).setCell (Nat.le_refl _) _))
          · have hcs : ((C.ss == -1) = false) ∨ ((C.ss == -1) = true ∧ (x15.toList != [45, 49]) = false ∧ (x15.toList == [45, 49]) = true) := by
              by_cases h1 : C.ss = -1
              · right
                have h2 : x15.data.toList = [45, 49] := Classical.byContradiction fun h => hs1 ⟨h1, h⟩
                refine ⟨by rw [h1]; rfl, ?_, ?_⟩
                · rw [list_of, h2]; rfl
                · rw [list_of, h2]; rfl
              · left; simpa using h1
            clear hs1
            have hT0 := HT.out wr (Below.refl _ _)
            obtain ⟨tt, htt⟩ : ∃ x, (⟨C.told.toArray⟩ : ByteArray) = x := ⟨_, rfl⟩
            rw [htt] at hT0
            have HT0 := Lib.hid hT0
            have HTT := Lib.hid htt
            clear hT0 htt
            go_upto_region 19 with fail
            go_cut [131] (fun sb wx => sb = .bool false ∧ wx = wr)
            case first =>
              rcases hcs with e1 | ⟨e1, e2, e3⟩
              all_goals (
                go_wp2_with fail
                go_meet
                exact ⟨rfl, rfl⟩)
            case rest =>
              obtain ⟨hsb, rfl⟩ := hcut
              subst hsb
              rename World => wr
              clear hcs
              go_wp2_with fail
              refine HT0.out.mono ?_
              rintro e wh ⟨rfl, hbh⟩
              have HKZ := Lib.hid (blk_below hbh HK0.out)
              have hbw := hbw0.out.trans (hbh.mono hbw0.out.size)
              have HKC2 := Lib.hid (blk_below hbh HKC.out)
              have RP5 := Lib.hid (((HRP.out.mono HSZ.out).below hbh).mono hbh.size)
              have RO5 := Lib.hid (((HRO.out.mono HSZ.out).below hbh).mono hbh.size)
              have RL5 := Lib.hid ((HRL.out.below hbh).mono hbh.size)
              clear d0 d1 d2 d3 d4 d5 d6 d7 d8 d9 d10 d11 d12 f15 hbh
              obtain ⟨c0, c1, c2, c3, c4, c5, c6, c7, c8, c9, c10, c11, c12⟩ := av_blk HKZ.out
              have z0 := frozen_row HKZ.out 0
              have z1 := frozen_row HKZ.out 1
              have z2 := frozen_row HKZ.out 2
              have z3 := frozen_row HKZ.out 3
              have z4 := frozen_row HKZ.out 4
              have z5 := frozen_row HKZ.out 5
              have z6 := frozen_row HKZ.out 6
              have z7 := frozen_row HKZ.out 7
              have z8 := frozen_row HKZ.out 8
              have z9 := frozen_row HKZ.out 9
              have z10 := frozen_row HKZ.out 10
              have z11 := frozen_row HKZ.out 11
              have z12 := frozen_row HKZ.out 12
              cases hok : C.ok with
              | true =>
                have ht1 := av_told_yes hok
                have hs2 : (C.toldE != 0) = false := by rw [ht1.2]; rfl
                by_cases ht : C.text = s.data.toList
                · have hz := Lib.hid (av_some (HOO.out.trans (if_pos ⟨hok, ht⟩)))
                  have hs1 : (tt.toList != s.toList) = false := by rw [← HTT.out, ht1.1, ht, str_mk]; simp
                  have hs3 : (tt.toList == s.toList) = true := by simpa using hs1
                  obtain ⟨d0, d1, d2, d3, d4, d5, d6, d7, d8, d9, d10, d11, d12⟩ := av_blk HKC2.out
                  obtain ⟨Ap, cp, hvp, _⟩ := RP5.out.form
                  obtain ⟨Ao, cpo, hvo, _⟩ := RO5.out.form
                  obtain ⟨Al, cpl, hvl, _⟩ := RL5.out.form
                  subst hvp hvo hvl
                  clear hok ht ht1
                  go_wp2_with fail
                  refine bodyPost_ret (results_a (t1 := 2) (t3 := 3) (g := w.heap.size) (r := C) Tryd.results13 rfl rfl (aset12 (aset11 (aset10 (aset9 (aset8 (aset7 (aset6 (aset5 (aset4 (aset3 (aset2 (aset1 (aset0 HKZ.out)))))))))))))) rfl ?_
                  unfold AvRes
                  rw [hz.out.1, hz.out.2, HCP.out, HCO.out, HCL.out]
                  exact ⟨_, _, _, rfl, (rd13 RP5.out FSP.out).mono (Nat.le_of_eq size13.symm), (rd13 RO5.out FSO.out).mono (Nat.le_of_eq size13.symm), (rd13 RL5.out FSL.out).mono (Nat.le_of_eq size13.symm), (((((((((((((hbw.setCell (Nat.le_refl _) _).setCell (Nat.le_refl _) _).setCell (Nat.le_refl _) _).setCell (Nat.le_refl _) _).setCell (Nat.le_refl _) _).setCell (Nat.le_refl _) _).setCell (Nat.le_refl _) _).setCell (Nat.le_refl _) _).setCell (Nat.le_refl _) _).setCell (Nat.le_refl _) _).setCell (Nat.le_refl _) _).setCell (Nat.le_refl _) _).setCell (Nat.le_refl _) _)⟩
                · have hno := Lib.hid (HOO.out.trans (if_neg fun h => ht h.2))
                  have hs1 : (tt.toList != s.toList) = true := by
                    rw [← HTT.out, ht1.1, list_of, list_of]
                    simpa using ht
                  have hs3 : (tt.toList == s.toList) = false := by simpa using hs1
                  clear hok ht ht1
                  go_wp2_with fail
                  exact bodyPost_ret (results_a (t1 := 2) (t3 := 3) (g := w.heap.size) (r := av0) (vp := .slice none 0 0) (vo := .slice none 0 0) (vl := .slice none 0 0) Tryd.results13 rfl rfl (aset12 (aset11 (aset10 (aset9 (aset8 (aset7 (aset6 (aset5 (aset4 (aset3 (aset2 (aset1 (aset0 HKZ.out)))))))))))))) rfl (avRes_no hno.out rfl (((((((((((((hbw.setCell (Nat.le_refl _) _).setCell (Nat.le_refl _) _).setCell (Nat.le_refl _) _).setCell (Nat.le_refl _) _).setCell (Nat.le_refl _) _).setCell (Nat.le_refl _) _).setCell (Nat.le_refl _) _).setCell (Nat.le_refl _) _).setCell (Nat.le_refl _) _).setCell (Nat.le_refl _) _).setCell (Nat.le_refl _) _).setCell (Nat.le_refl _) _).setCell (Nat.le_refl _) _))
              | false =>
                have ht1 := av_told_no hok
                have hno := Lib.hid (HOO.out.trans (if_neg fun h => by rw [hok] at h; exact absurd h.1 (by decide)))
                have hs2 : (C.toldE != 0) = true := by rw [ht1.2]; rfl
                clear hok ht1
                go_wp2_with fail
                exact bodyPost_ret (results_a (t1 := 2) (t3 := 3) (g := w.heap.size) (r := av0) (vp := .slice none 0 0) (vo := .slice none 0 0) (vl := .slice none 0 0) Tryd.results13 rfl rfl (aset12 (aset11 (aset10 (aset9 (aset8 (aset7 (aset6 (aset5 (aset4 (aset3 (aset2 (aset1 (aset0 HKZ.out)))))))))))))) rfl (avRes_no hno.out rfl (((((((((((((hbw.setCell (Nat.le_refl _) _).setCell (Nat.le_refl _) _).setCell (Nat.le_refl _) _).setCell (Nat.le_refl _) _).setCell (Nat.le_refl _) _).setCell (Nat.le_refl _) _).setCell (Nat.le_refl _) _).setCell (Nat.le_refl _) _).setCell (Nat.le_refl _) _).setCell (Nat.le_refl _) _).setCell (Nat.le_refl _) _).setCell (Nat.le_refl _) _).setCell (Nat.le_refl _) _))
theorem seventeen {L : List ByteArray} (h : 17 ≤ L.length) : ∃ x0 x1 x2 x3 x4 x5 x6 x7 x8 x9 x10 x11 x12 x13 x14 x15 x16 R, L = x0 :: x1 :: x2 :: x3 :: x4 :: x5 :: x6 :: x7 :: x8 :: x9 :: x10 :: x11 :: x12 :: x13 :: x14 :: x15 :: x16 :: R := by
  obtain ⟨x0, x1, x2, x3, x4, R, rfl⟩ := five_list (L := L) (by omega)
  obtain ⟨x5, x6, x7, x8, x9, R, rfl⟩ := five_list (L := R) (by simp at h; omega)
  obtain ⟨x10, x11, x12, x13, x14, R, rfl⟩ := five_list (L := R) (by simp at h; omega)
  rcases R with _ | ⟨x15, _ | ⟨x16, R⟩⟩
  · simp at h
  · simp at h
  · exact ⟨_, _, _, _, _, _, _, _, _, _, _, _, _, _, _, _, _, _, rfl⟩
theorem avParse_any (s : ByteArray) (w : World) (hE : Env w) (hlim : s.size < 4294967281) (hpc : (pieces 32 s.data.toList).length ≤ 5000) :
    Calls Tryd.prog 13 #[.string s] w fun e w' => AvRes s.data.toList w e w' := by
  have hP := splitB_pieces 32 s
  have hN := countB_pieces 32 s
  have hl : (Lib.splitB ⟨#[32]⟩ 0 (Lib.countB s ⟨#[32]⟩) s).length = (pieces 32 s.data.toList).length := by rw [← hP, List.length_map]
  have hss : s.data.toList.length = s.size := Array.length_toList
  have hcnt := pieces_cnt 32 s.data.toList
  have hsz : ∀ x ∈ Lib.splitB ⟨#[32]⟩ 0 (Lib.countB s ⟨#[32]⟩) s, x.size < 4294967281 := fun x hx => by
    have h1 : x.data.toList ∈ pieces 32 s.data.toList := by rw [← hP]; exact List.mem_map_of_mem hx
    have h2 := pieces_len 32 _ _ h1
    have e2 : x.data.toList.length = x.size := Array.length_toList
    omega
  generalize hL : Lib.splitB ⟨#[32]⟩ 0 (Lib.countB s ⟨#[32]⟩) s = L at *
  by_cases h : 19 ≤ L.length ∧ 17 ≤ Lib.idxOfS L ⟨commW.toArray⟩ ∧ Lib.idxOfS L ⟨commW.toArray⟩ ≤ Lib.idxOfS L ⟨clusW.toArray⟩
  · obtain ⟨h1, h2, h3⟩ := h
    rcases idx_spec L ⟨commW.toArray⟩ with hi | ⟨ni, hi, gi⟩
    · omega
    rcases idx_spec L ⟨clusW.toArray⟩ with hj | ⟨nj, hj, gj⟩
    · omega
    have hne : ni ≠ nj := by
      rintro rfl
      rw [gi] at gj
      injection gj with gj
      exact comm_clus gj
    have hjl := (List.getElem?_eq_some_iff.1 gj).1
    obtain ⟨x0, x1, x2, x3, x4, x5, x6, x7, x8, x9, x10, x11, x12, x13, x14, x15, x16, R, rfl⟩ := seventeen (L := L) (by omega)
    have hlen : (pieces 32 s.data.toList).length = R.length + 17 := by rw [← hl]; rfl
    exact avParse_main s x0 x1 x2 x3 x4 x5 x6 x7 x8 x9 x10 x11 x12 x13 x14 x15 x16 R w hE (by omega) hP.symm hL _ (by rw [hN]) hlen hsz (by omega) ni nj hi hj (by omega) (by omega) (by rw [← hl]; exact hjl)
  · exact avParse_short s L w hE (by omega) hP hL (by rw [hN, hl]) (by omega) h
end Go.Proofs.YtakkgamhceignaaDoor

/-
  The walk of the law RoutesBack (written by wip/gen/genrtback.py).
-/
namespace Go.Proofs.YtakkgamhceignaaDoor
open Go Go.RowKit Go.Sort

theorem rtText_two (r : RtV) : ∃ (t : ByteArray) (e : Int), (r.ok = true ∧ t = ⟨r.text.toArray⟩ ∧ e = 0 ∨ r.ok = false ∧ e = 1) ∧ ∀ w, Env w → Calls Tryd.prog 10 #[.agg #[.int .u32 r.a, .int .i64 r.m, .int .u8 r.fr, .int .i64 r.di, .int .i64 r.me, .int .i64 r.ta, .string ⟨r.nm.toArray⟩, .int .u32 r.ho, .bool r.dc]] w fun en w' => en = .returned (.tuple #[.string t, .int .i64 e]) ∧ Below w.heap.size w w' := by
  refine ⟨⟨r.told.toArray⟩, r.toldE, ?_, fun w hE => rtText_any r w hE (fun _ => name_any _)⟩
  cases h : r.ok with
  | true => obtain ⟨h1, h2⟩ := rt_told_yes h; rw [h1, h2]; exact Or.inl ⟨rfl, rfl, rfl⟩
  | false => obtain ⟨h1, h2⟩ := rt_told_no h; rw [h2]; exact Or.inr ⟨rfl, rfl⟩
theorem rtParse_back {r : RtV} (h : r.ok = true) (w : World) (hE : Env w) : Calls Tryd.prog 11 #[.string ⟨r.text.toArray⟩] w fun e w' => e = .returned (.tuple #[.agg #[.int .u32 r.a, .int .i64 r.m, .int .u8 r.fr, .int .i64 r.di, .int .i64 r.me, .int .i64 r.ta, .string ⟨r.nm.toArray⟩, .int .u32 r.ho, .bool r.dc], .int .i64 0]) ∧ Below w.heap.size w w' := by
  have hl := rt_text_len h
  have k := rtParse_any ⟨r.text.toArray⟩ w hE (by show r.text.length < _; omega)
  have e := ro_some (l := (⟨r.text.toArray⟩ : ByteArray).data.toList) (r := r) (roO_text h)
  rw [e.1, e.2] at k
  exact k
theorem avText_two (a : AvV) (hlen : a.pa.length + a.co.length + a.cl.length ≤ 10000) : ∃ (t : ByteArray) (e : Int), (a.ok = true ∧ t = ⟨a.text.toArray⟩ ∧ e = 0 ∨ a.ok = false ∧ e = 1) ∧ ∀ w vp vo vl, Env w → Rd w w.heap.size 1 vp a.pa.length (a.pa.map (Value.int .u32)) → Rd w w.heap.size 1 vo a.co.length (a.co.map (Value.int .u32)) → Rd w w.heap.size 1 vl a.cl.length (a.cl.map (Value.int .u32)) → Calls Tryd.prog 12 #[.agg #[.int .u32 a.a, .int .i64 a.m, .int .u32 a.ho, .int .i64 a.pf, .int .i64 a.me, vp, vo, .int .u32 a.pe, .int .u32 a.id, .bool a.ex, .int .u32 a.og, vl, .int .i64 a.ss]] w fun en w' => en = .returned (.tuple #[.string t, .int .i64 e]) ∧ Below w.heap.size w w' := by
  refine ⟨⟨a.told.toArray⟩, a.toldE, ?_, fun w vp vo vl hE hp ho hl => avText_any a vp vo vl w hE hp ho hl hlen⟩
  cases h : a.ok with
  | true => obtain ⟨h1, h2⟩ := av_told_yes h; rw [h1, h2]; exact Or.inl ⟨rfl, rfl, rfl⟩
  | false => obtain ⟨h1, h2⟩ := av_told_no h; rw [h2]; exact Or.inr ⟨rfl, rfl⟩
theorem avParse_back {a : AvV} (h : a.ok = true) (hlen : a.pa.length + a.co.length + a.cl.length ≤ 300) (w : World) (hE : Env w) : Calls Tryd.prog 13 #[.string ⟨a.text.toArray⟩] w fun e w' => ∃ vp vo vl, e = .returned (.tuple #[.agg #[.int .u32 a.a, .int .i64 a.m, .int .u32 a.ho, .int .i64 a.pf, .int .i64 a.me, vp, vo, .int .u32 a.pe, .int .u32 a.id, .bool a.ex, .int .u32 a.og, vl, .int .i64 a.ss], .int .i64 0]) ∧ Rd w' w'.heap.size 1 vp a.pa.length (a.pa.map (Value.int .u32)) ∧ Rd w' w'.heap.size 1 vo a.co.length (a.co.map (Value.int .u32)) ∧ Rd w' w'.heap.size 1 vl a.cl.length (a.cl.map (Value.int .u32)) ∧ Below w.heap.size w w' := by
  have hl := av_text_len (by omega) h
  have hw := av_words h
  have hn : a.words.length = 17 + (a.pa.length + (a.co.length + (a.cl.length + 1) + 1)) := by simp [AvV.words, AvV.tail, AvV.head]; omega
  have k := avParse_any ⟨a.text.toArray⟩ w hE (by show a.text.length < _; omega) (by show (pieces 32 a.text).length ≤ 5000; rw [hw, hn]; omega)
  have e := av_some (l := (⟨a.text.toArray⟩ : ByteArray).data.toList) (r := a) (avO_text h)
  unfold AvRes at k
  rw [e.1, e.2] at k
  exact k
theorem rtParse_two (s : ByteArray) (hs : s.size ≤ 3000) : ∃ (x : RtV) (e : Int), (e = 0 ∧ (∀ w, Env w → Calls Tryd.prog 10 #[.agg #[.int .u32 x.a, .int .i64 x.m, .int .u8 x.fr, .int .i64 x.di, .int .i64 x.me, .int .i64 x.ta, .string ⟨x.nm.toArray⟩, .int .u32 x.ho, .bool x.dc]] w fun en w' => en = .returned (.tuple #[.string s, .int .i64 0]) ∧ Below w.heap.size w w') ∨ e = 4) ∧ ∀ w, Env w → Calls Tryd.prog 11 #[.string s] w fun en w' => en = .returned (.tuple #[.agg #[.int .u32 x.a, .int .i64 x.m, .int .u8 x.fr, .int .i64 x.di, .int .i64 x.me, .int .i64 x.ta, .string ⟨x.nm.toArray⟩, .int .u32 x.ho, .bool x.dc], .int .i64 e]) ∧ Below w.heap.size w w' := by
  refine ⟨roV s.data.toList, roE s.data.toList, ?_, fun w hE => rtParse_any s w hE (by omega)⟩
  cases hO : roO s.data.toList with
  | none => exact Or.inr (ro_none hO).2
  | some x =>
    obtain ⟨h1, h2⟩ := ro_some hO
    obtain ⟨k1, k2⟩ := roO_some hO
    rw [h1]
    refine Or.inl ⟨h2, fun w hE => ?_⟩
    have h := rtText_any x w hE (fun _ => name_any _)
    rw [(rt_told_yes k1).1, (rt_told_yes k1).2, k2, str_mk] at h
    exact h
theorem avParse_two (s : ByteArray) (hs : s.size ≤ 3000) : ∃ (y : AvV) (e : Int), (e = 0 ∧ (∀ w vp vo vl, Env w → Rd w w.heap.size 1 vp y.pa.length (y.pa.map (Value.int .u32)) → Rd w w.heap.size 1 vo y.co.length (y.co.map (Value.int .u32)) → Rd w w.heap.size 1 vl y.cl.length (y.cl.map (Value.int .u32)) → Calls Tryd.prog 12 #[.agg #[.int .u32 y.a, .int .i64 y.m, .int .u32 y.ho, .int .i64 y.pf, .int .i64 y.me, vp, vo, .int .u32 y.pe, .int .u32 y.id, .bool y.ex, .int .u32 y.og, vl, .int .i64 y.ss]] w fun en w' => en = .returned (.tuple #[.string s, .int .i64 0]) ∧ Below w.heap.size w w') ∨ e = 4) ∧ ∀ w, Env w → Calls Tryd.prog 13 #[.string s] w fun e' w' => ∃ vp vo vl, e' = .returned (.tuple #[.agg #[.int .u32 y.a, .int .i64 y.m, .int .u32 y.ho, .int .i64 y.pf, .int .i64 y.me, vp, vo, .int .u32 y.pe, .int .u32 y.id, .bool y.ex, .int .u32 y.og, vl, .int .i64 y.ss], .int .i64 e]) ∧ Rd w' w'.heap.size 1 vp y.pa.length (y.pa.map (Value.int .u32)) ∧ Rd w' w'.heap.size 1 vo y.co.length (y.co.map (Value.int .u32)) ∧ Rd w' w'.heap.size 1 vl y.cl.length (y.cl.map (Value.int .u32)) ∧ Below w.heap.size w w' := by
  have hcnt := pieces_cnt 32 s.data.toList
  have hss : s.data.toList.length = s.size := Array.length_toList
  have hpc : (pieces 32 s.data.toList).length ≤ 5000 := by omega
  refine ⟨avV s.data.toList, avE s.data.toList, ?_, fun w hE => avParse_any s w hE (by omega) hpc⟩
  cases hO : avO s.data.toList with
  | none => exact Or.inr (av_none hO).2
  | some y =>
    obtain ⟨h1, h2⟩ := av_some hO
    obtain ⟨k1, k2⟩ := avO_some hO
    rw [h1]
    refine Or.inl ⟨h2, fun w vp vo vl hE hp ho hl => ?_⟩
    have hw := av_words k1
    have hn : y.words.length = 17 + (y.pa.length + (y.co.length + (y.cl.length + 1) + 1)) := by simp [AvV.words, AvV.tail, AvV.head]; omega
    rw [k2] at hw
    rw [← hw] at hn
    have h := avText_any y vp vo vl w hE hp ho hl (by omega)
    rw [(av_told_yes k1).1, (av_told_yes k1).2, k2, str_mk] at h
    exact h
set_option maxRecDepth 100000 in
theorem neq_of_eql {t : TypeId} {xs ys : Array Value} {b : Bool} (h : ∀ W, (binOp .eql t (.agg xs) (.agg ys)).run Tryd.prog W = .ok (.bool b) W) (W : World) : (binOp .neq t (.agg xs) (.agg ys)).run Tryd.prog W = .ok (.bool (!b)) W := by
  have k := h W
  rw [run_eql_struct] at k
  rw [run_neq_struct]
  generalize (10000 : Nat) = dd at *
  cases hr : (Op.equalIn dd t (.agg xs) (.agg ys)).run Tryd.prog W with
  | ok c W' => rw [hr] at k; simp only [Result.andThen] at k ⊢; injection k with k1 k2; injection k1 with k1; rw [k1, k2]
  | _ => rw [hr] at k; cases k
theorem neqRt (r : RtV) (W : World) : (binOp .neq 39 (.agg #[.int .u32 r.a, .int .i64 r.m, .int .u8 r.fr, .int .i64 r.di, .int .i64 r.me, .int .i64 r.ta, .string ⟨r.nm.toArray⟩, .int .u32 r.ho, .bool r.dc]) (.agg #[.int .u32 r.a, .int .i64 r.m, .int .u8 r.fr, .int .i64 r.di, .int .i64 r.me, .int .i64 r.ta, .string ⟨r.nm.toArray⟩, .int .u32 r.ho, .bool r.dc])).run Tryd.prog W = .ok (.bool false) W := by
  obtain ⟨b, h1, h2⟩ := eqlRoute r r
  rw [h2.2 rfl] at h1
  exact neq_of_eql h1 W
/-- What is kept from section to section. -/
structure RBk (r q : RtV) (a : AvV) (vp vo vl : Value) (w W : World) : Prop where
  r : W.heap[w.heap.size]? = some (rtObj r)
  q : W.heap[w.heap.size + 1]? = some (rtObj q)
  a : W.heap[w.heap.size + 1 + 1]? = some (avObj a vp vo vl)
  n : Below w.heap.size w W
theorem RBk.below {r q : RtV} {a : AvV} {vp vo vl : Value} {w W W' : World} (H : RBk r q a vp vo vl w W) (hb : Below W.heap.size W W') : RBk r q a vp vo vl w W' :=
  ⟨blk_below hb H.r, blk_below hb H.q, blk_below hb H.a, below_call H.n hb⟩
theorem RBk.alloc {r q : RtV} {a : AvV} {vp vo vl : Value} {w W : World} (H : RBk r q a vp vo vl w W) (o : Obj) : RBk r q a vp vo vl w (W.alloc o) := H.below (below1 W o)
set_option maxRecDepth 100000 in
set_option maxHeartbeats 8000000 in
theorem lawRtBack_any (r q : RtV) (a : AvV) (vp vo vl : Value) (s : ByteArray) (w : World) (hE : Env w) (hp : Rd w w.heap.size 1 vp a.pa.length (a.pa.map (Value.int .u32))) (ho : Rd w w.heap.size 1 vo a.co.length (a.co.map (Value.int .u32))) (hl : Rd w w.heap.size 1 vl a.cl.length (a.cl.map (Value.int .u32))) (hsz : a.pa.length + a.co.length + a.cl.length ≤ 1000000000000000000) :
    Calls Tryd.prog 4 #[.agg #[.int .u32 r.a, .int .i64 r.m, .int .u8 r.fr, .int .i64 r.di, .int .i64 r.me, .int .i64 r.ta, .string ⟨r.nm.toArray⟩, .int .u32 r.ho, .bool r.dc], .agg #[.int .u32 q.a, .int .i64 q.m, .int .u8 q.fr, .int .i64 q.di, .int .i64 q.me, .int .i64 q.ta, .string ⟨q.nm.toArray⟩, .int .u32 q.ho, .bool q.dc], .agg #[.int .u32 a.a, .int .i64 a.m, .int .u32 a.ho, .int .i64 a.pf, .int .i64 a.me, vp, vo, .int .u32 a.pe, .int .u32 a.id, .bool a.ex, .int .u32 a.og, vl, .int .i64 a.ss], .string s] w fun e w' => e = .returned (.bool true) ∧ Below w.heap.size w w' := by
  obtain ⟨A1, C1, rfl, hc1⟩ := hp.form
  obtain ⟨A2, C2, rfl, hc2⟩ := ho.form
  obtain ⟨A3, C3, rfl, hc3⟩ := hl.form
  have haw := Lib.hid lawAwake08_any
  have H0 : RBk r q a (.slice A1 a.pa.length C1) (.slice A2 a.co.length C2) (.slice A3 a.cl.length C3) w (((w.alloc (rtObj r)).alloc (rtObj q)).alloc (avObj a (.slice A1 a.pa.length C1) (.slice A2 a.co.length C2) (.slice A3 a.cl.length C3))) := ⟨(blk3 w (rtObj r) (rtObj q) (avObj a (.slice A1 a.pa.length C1) (.slice A2 a.co.length C2) (.slice A3 a.cl.length C3))).1, (blk3 w (rtObj r) (rtObj q) (avObj a (.slice A1 a.pa.length C1) (.slice A2 a.co.length C2) (.slice A3 a.cl.length C3))).2.1, (blk3 w (rtObj r) (rtObj q) (avObj a (.slice A1 a.pa.length C1) (.slice A2 a.co.length C2) (.slice A3 a.cl.length C3))).2.2, below3 w _ _ _⟩
  have hW : ((w.alloc (.cells #[.int .u32 r.a, .int .i64 r.m, .int .u8 r.fr, .int .i64 r.di, .int .i64 r.me, .int .i64 r.ta, .string ⟨r.nm.toArray⟩, .int .u32 r.ho, .bool r.dc] 39)).alloc (.cells #[.int .u32 q.a, .int .i64 q.m, .int .u8 q.fr, .int .i64 q.di, .int .i64 q.me, .int .i64 q.ta, .string ⟨q.nm.toArray⟩, .int .u32 q.ho, .bool q.dc] 39)).alloc (.cells #[.int .u32 a.a, .int .i64 a.m, .int .u32 a.ho, .int .i64 a.pf, .int .i64 a.me, (.slice A1 a.pa.length C1), (.slice A2 a.co.length C2), .int .u32 a.pe, .int .u32 a.id, .bool a.ex, .int .u32 a.og, (.slice A3 a.cl.length C3), .int .i64 a.ss] 43) = ((w.alloc (rtObj r)).alloc (rtObj q)).alloc (avObj a (.slice A1 a.pa.length C1) (.slice A2 a.co.length C2) (.slice A3 a.cl.length C3)) := rfl
  by_cases hs : 3000 < s.size
  · have hI : (s.size : Int) > 3000 := by omega
    have hh := Lib.hid (And.intro hp (And.intro ho hl))
    clear hp ho hl hsz hc1 hc2 hc3 hs
    go_enter Tryd.func4, Tryd.ntmps4
    go_wp2_with fail
    try rw [hW]
    refine (haw.out _ (hE.below H0.n)).mono ?_
    rintro e w1 ⟨rfl, hb⟩
    have H1 := H0.below hb
    clear hb H0 hW
    go_wp2_with fail
    refine (haw.out _ (hE.below H1.n)).mono ?_
    rintro e w2 ⟨rfl, hb⟩
    have H2 := H1.below hb
    go_wp2
    go_ret
    exact ⟨rfl, H2.n⟩
  · have hI : ¬ (s.size : Int) > 3000 := by omega
    by_cases hg : 300 < a.pa.length + a.co.length + a.cl.length
    · have hJ : (a.pa.length : Int) + (a.co.length : Int) + (a.cl.length : Int) > 300 := by omega
      have hh := Lib.hid (And.intro hp (And.intro ho hl))
      have z1 : -9223372036854775808 ≤ (a.pa.length : Int) + (a.co.length : Int) ∧ (a.pa.length : Int) + (a.co.length : Int) ≤ 9223372036854775807 := by omega
      have z2 : -9223372036854775808 ≤ (a.pa.length : Int) + (a.co.length : Int) + (a.cl.length : Int) ∧ (a.pa.length : Int) + (a.co.length : Int) + (a.cl.length : Int) ≤ 9223372036854775807 := by omega
      clear hp ho hl hsz hc1 hc2 hc3 hs hg
      go_enter Tryd.func4, Tryd.ntmps4
      go_wp2_with fail
      try rw [hW]
      refine (haw.out _ (hE.below H0.n)).mono ?_
      rintro e w1 ⟨rfl, hb⟩
      have H1 := H0.below hb
      clear hb H0 hW
      have Ha := H1.a
      obtain ⟨d0, d1, d2, d3, d4, d5, d6, d7, d8, d9, d10, d11, d12⟩ := blk13 (t := 43) Ha
      clear Ha
      go_wp2_with fail
      refine (haw.out _ (hE.below H1.n)).mono ?_
      rintro e w2 ⟨rfl, hb⟩
      have H2 := H1.below hb
      go_wp2
      go_ret
      exact ⟨rfl, H2.n⟩
    · have hJ : ¬ (a.pa.length : Int) + (a.co.length : Int) + (a.cl.length : Int) > 300 := by omega
      have z1 : -9223372036854775808 ≤ (a.pa.length : Int) + (a.co.length : Int) ∧ (a.pa.length : Int) + (a.co.length : Int) ≤ 9223372036854775807 := by omega
      have z2 : -9223372036854775808 ≤ (a.pa.length : Int) + (a.co.length : Int) + (a.cl.length : Int) ∧ (a.pa.length : Int) + (a.co.length : Int) + (a.cl.length : Int) ≤ 9223372036854775807 := by omega
      have hsum : Hid (a.pa.length + a.co.length + a.cl.length ≤ 300) := Lib.hid (by omega)
      have hsl : Hid (s.size ≤ 3000) := Lib.hid (by omega)
      have hPO := Lib.hid (And.intro hp (And.intro ho hl))
      clear hp ho hl hsz hc1 hc2 hc3 hs hg
      go_enter Tryd.func4, Tryd.ntmps4
      go_wp2_with fail
      try rw [hW]
      refine (haw.out _ (hE.below H0.n)).mono ?_
      rintro e w1 ⟨rfl, hb⟩
      have H1 := H0.below hb
      clear hb H0 hW
      have Ha := H1.a
      obtain ⟨d0, d1, d2, d3, d4, d5, d6, d7, d8, d9, d10, d11, d12⟩ := blk13 (t := 43) Ha
      clear Ha
      obtain ⟨tt, et, hT, hTc⟩ := rtText_two r
      obtain ⟨uu, eu, hU, hUc⟩ := rtText_two q
      have HTc := Lib.hid hTc
      have HUc := Lib.hid hUc
      clear hTc hUc
      have Hr := H1.r
      obtain ⟨c0, c1, c2, c3, c4, c5, c6, c7, c8⟩ := blk9 (t := 39) Hr
      clear Hr
      go_wp2_with fail
      refine (HTc.out _ (hE.below H1.n)).mono ?_
      rintro e w2 ⟨rfl, hb⟩
      have H2 := H1.below hb
      clear hb H1 HTc c0 c1 c2 c3 c4 c5 c6 c7 c8 d0 d1 d2 d3 d4 d5 d6 d7 d8 d9 d10 d11 d12 hI hJ z1 z2
      go_upto_if 52 with fail
      go_cut [] (fun wx => Hid (RBk r q a (.slice A1 a.pa.length C1) (.slice A2 a.co.length C2) (.slice A3 a.cl.length C3) w wx))
      case first =>
        rcases hT with ⟨hok, rfl, rfl⟩ | ⟨hok, rfl⟩
        · have hP := Lib.hid (fun W hW => rtParse_back hok W hW)
          have hne := Lib.hid (neqRt r)
          generalize (⟨r.text.toArray⟩ : ByteArray) = tt at *
          go_wp2_with fail
          refine (hP.out _ (hE.below H2.n)).mono ?_
          rintro e w3 ⟨rfl, hb⟩
          have H3 := (H2.below hb).alloc (rtObj r)
          have kx := heap_alloc_new w3 (rtObj r)
          obtain ⟨x0, x1, x2, x3, x4, x5, x6, x7, x8⟩ := blk9 (t := 39) kx
          have Hr := H3.r
          obtain ⟨c0, c1, c2, c3, c4, c5, c6, c7, c8⟩ := blk9 (t := 39) Hr
          clear Hr kx hb H2
          have hne' := hne.out
          have hw3 : w3.alloc (.cells #[.int .u32 r.a, .int .i64 r.m, .int .u8 r.fr, .int .i64 r.di, .int .i64 r.me, .int .i64 r.ta, .string ⟨r.nm.toArray⟩, .int .u32 r.ho, .bool r.dc] 39) = w3.alloc (rtObj r) := rfl
          go_wp2_with fail
          go_meet
          exact Lib.hid H3
        · go_wp2_with fail
          go_meet
          exact Lib.hid H2
      case rest =>
        have H3 := hcut.out
        clear hcut H2
        rename World => w3
        have Hr := H3.q
        obtain ⟨c0, c1, c2, c3, c4, c5, c6, c7, c8⟩ := blk9 (t := 39) Hr
        clear Hr
        go_wp2_with fail
        refine (HUc.out _ (hE.below H3.n)).mono ?_
        rintro e w4 ⟨rfl, hb⟩
        have H4 := H3.below hb
        clear hb H3 HUc c0 c1 c2 c3 c4 c5 c6 c7 c8
        go_upto_region 9 with fail
        go_cut [84] (fun s84 wx => s84 = .bool false ∧ Hid (RBk r q a (.slice A1 a.pa.length C1) (.slice A2 a.co.length C2) (.slice A3 a.cl.length C3) w wx))
        case first =>
          have Hr := H4.r
          obtain ⟨c0, c1, c2, c3, c4, c5, c6, c7, c8⟩ := blk9 (t := 39) Hr
          clear Hr
          have Hr := H4.q
          obtain ⟨d0, d1, d2, d3, d4, d5, d6, d7, d8⟩ := blk9 (t := 39) Hr
          clear Hr
          rcases hT with ⟨hok, rfl, rfl⟩ | ⟨hok, rfl⟩
          · rcases hU with ⟨hqk, rfl, rfl⟩ | ⟨hqk, rfl⟩
            · obtain ⟨b, hb1, hb2⟩ := eqlRoute r q
              have hbt : (r.text == q.text) = b := by
                cases b with
                | true => rw [hb2.1 rfl]; simp
                | false =>
                  rw [beq_eq_false_iff_ne]
                  intro h
                  exact Bool.noConfusion (hb2.2 (rt_inj hok hqk h))
              clear hok hqk hb2
              cases b
              · go_wp2_with fail
                go_meet
                exact ⟨rfl, Lib.hid H4⟩
              · go_wp2_with fail
                go_meet
                exact ⟨rfl, Lib.hid H4⟩
            · go_wp2_with fail
              go_meet
              exact ⟨rfl, Lib.hid H4⟩
          · go_wp2_with fail
            go_meet
            exact ⟨rfl, Lib.hid H4⟩
        case rest =>
          obtain ⟨rfl, hcut⟩ := hcut
          have H5 := hcut.out
          clear hcut H4 hT hU
          rename World => w5
          have Ha := H5.a
          obtain ⟨d0, d1, d2, d3, d4, d5, d6, d7, d8, d9, d10, d11, d12⟩ := blk13 (t := 43) Ha
          clear Ha
          obtain ⟨vv, ev, hV, hVc⟩ := avText_two a (by have := hsum.out; omega)
          have HVc := Lib.hid hVc
          clear hVc
          go_wp2_with fail
          refine (HVc.out _ _ _ _ (hE.below H5.n) ((hPO.out.1.below H5.n).mono H5.n.size) ((hPO.out.2.1.below H5.n).mono H5.n.size) ((hPO.out.2.2.below H5.n).mono H5.n.size)).mono ?_
          rintro e w6 ⟨rfl, hb⟩
          have H6 := H5.below hb
          clear hb H5 HVc d0 d1 d2 d3 d4 d5 d6 d7 d8 d9 d10 d11 d12
          go_upto_if 91 with fail
          go_cut [] (fun wx => Hid (RBk r q a (.slice A1 a.pa.length C1) (.slice A2 a.co.length C2) (.slice A3 a.cl.length C3) w wx))
          case first =>
            rcases hV with ⟨hok, rfl, rfl⟩ | ⟨hok, rfl⟩
            · have hP := Lib.hid (fun W hW => avParse_back hok hsum.out W hW)
              generalize (⟨a.text.toArray⟩ : ByteArray) = tv at *
              go_wp2_with fail
              refine (hP.out _ (hE.below H6.n)).mono ?_
              rintro e w7 ⟨up, uo, ul, rfl, gp, go, gl, hb⟩
              obtain ⟨B1, D1, rfl, _⟩ := gp.form
              obtain ⟨B2, D2, rfl, _⟩ := go.form
              obtain ⟨B3, D3, rfl, _⟩ := gl.form
              have H7 := (H6.below hb).alloc (avObj a (.slice B1 a.pa.length D1) (.slice B2 a.co.length D2) (.slice B3 a.cl.length D3))
              have hbx := below1 w7 (avObj a (.slice B1 a.pa.length D1) (.slice B2 a.co.length D2) (.slice B3 a.cl.length D3))
              have kx := heap_alloc_new w7 (avObj a (.slice B1 a.pa.length D1) (.slice B2 a.co.length D2) (.slice B3 a.cl.length D3))
              obtain ⟨x0, x1, x2, x3, x4, x5, x6, x7, x8, x9, x10, x11, x12⟩ := blk13 (t := 43) kx
              have Ha := H7.a
              obtain ⟨d0, d1, d2, d3, d4, d5, d6, d7, d8, d9, d10, d11, d12⟩ := blk13 (t := 43) Ha
              have HC := Lib.hid (cmpAdvert_same a (.slice A1 a.pa.length C1) (.slice A2 a.co.length C2) (.slice A3 a.cl.length C3) _ _ _ _ ((hPO.out.1.below H7.n).mono H7.n.size) ((hPO.out.2.1.below H7.n).mono H7.n.size) ((hPO.out.2.2.below H7.n).mono H7.n.size) ((gp.below hbx).mono hbx.size) ((go.below hbx).mono hbx.size) ((gl.below hbx).mono hbx.size) (by have := hsum.out; omega))
              clear Ha kx hb H6 gp go gl hbx hP
              have hw7 : w7.alloc (.cells #[.int .u32 a.a, .int .i64 a.m, .int .u32 a.ho, .int .i64 a.pf, .int .i64 a.me, (.slice B1 a.pa.length D1), (.slice B2 a.co.length D2), .int .u32 a.pe, .int .u32 a.id, .bool a.ex, .int .u32 a.og, (.slice B3 a.cl.length D3), .int .i64 a.ss] 43) = w7.alloc (avObj a (.slice B1 a.pa.length D1) (.slice B2 a.co.length D2) (.slice B3 a.cl.length D3)) := rfl
              go_wp2_with fail
              refine HC.out.mono ?_
              rintro e w8 ⟨rfl, hb⟩
              have H8 := H7.below hb
              clear hb H7 HC d0 d1 d2 d3 d4 d5 d6 d7 d8 d9 d10 d11 d12 x0 x1 x2 x3 x4 x5 x6 x7 x8 x9 x10 x11 x12
              go_wp2_with fail
              go_meet
              exact Lib.hid H8
            · go_wp2_with fail
              go_meet
              exact Lib.hid H6
          case rest =>
            have H7 := hcut.out
            clear hcut H6 hV
            rename World => w7
            obtain ⟨x, ex, hX, hXc⟩ := rtParse_two s hsl.out
            obtain ⟨y, ey, hY, hYc⟩ := avParse_two s hsl.out
            have hb7 := H7.n
            have HXc := Lib.hid hXc
            have HYc := Lib.hid hYc
            have h1 : (s.toList == s.toList) = true := by simp
            have h2 : (s.toList != s.toList) = false := by simp
            clear hXc hYc H7
            go_wp2_with fail
            refine (HXc.out _ (hE.below hb7)).mono ?_
            rintro e w8 ⟨rfl, hb⟩
            have hb8 := below_call hb7 hb
            have k8 := heap_alloc_new w8 (rtObj x)
            have hb9 := hb8.alloc hb8.size (rtObj x)
            have hw8 : w8.alloc (.cells #[.int .u32 x.a, .int .i64 x.m, .int .u8 x.fr, .int .i64 x.di, .int .i64 x.me, .int .i64 x.ta, .string ⟨x.nm.toArray⟩, .int .u32 x.ho, .bool x.dc] 39) = w8.alloc (rtObj x) := rfl
            clear hb hb7 HXc hb8
            go_wp2_with fail
            try rw [hw8]
            refine (HYc.out _ (hE.below hb9)).mono ?_
            rintro e w9 ⟨up, uo, ul, rfl, gp, go, gl, hb⟩
            obtain ⟨B1, D1, rfl, _⟩ := gp.form
            obtain ⟨B2, D2, rfl, _⟩ := go.form
            obtain ⟨B3, D3, rfl, _⟩ := gl.form
            have k9 := blk_below hb k8
            have hba := below_call hb9 hb
            have hbx := below1 w9 (avObj y (.slice B1 y.pa.length D1) (.slice B2 y.co.length D2) (.slice B3 y.cl.length D3))
            have ka := heap_alloc_new w9 (avObj y (.slice B1 y.pa.length D1) (.slice B2 y.co.length D2) (.slice B3 y.cl.length D3))
            have kb := blk_below hbx k9
            have hbb := below_call hba hbx
            have HR := Lib.hid (And.intro ((gp.below hbx).mono hbx.size) (And.intro ((go.below hbx).mono hbx.size) ((gl.below hbx).mono hbx.size)))
            have KA := Lib.hid ka
            obtain ⟨c0, c1, c2, c3, c4, c5, c6, c7, c8⟩ := blk9 (t := 39) kb
            obtain ⟨d0, d1, d2, d3, d4, d5, d6, d7, d8, d9, d10, d11, d12⟩ := blk13 (t := 43) ka
            clear hb k8 hb9 k9 ka kb hbx hba gp go gl HYc hw8
            go_upto_if 116 with fail
            have hwa : w9.alloc (.cells #[.int .u32 y.a, .int .i64 y.m, .int .u32 y.ho, .int .i64 y.pf, .int .i64 y.me, (.slice B1 y.pa.length D1), (.slice B2 y.co.length D2), .int .u32 y.pe, .int .u32 y.id, .bool y.ex, .int .u32 y.og, (.slice B3 y.cl.length D3), .int .i64 y.ss] 43) = w9.alloc (avObj y (.slice B1 y.pa.length D1) (.slice B2 y.co.length D2) (.slice B3 y.cl.length D3)) := rfl
            try rw [hwa]
            clear hwa
            generalize w9.alloc (avObj y (.slice B1 y.pa.length D1) (.slice B2 y.co.length D2) (.slice B3 y.cl.length D3)) = wa at *
            go_cut [] (fun wx => Hid (Below wa.heap.size wa wx))
            case first =>
              rcases hX with ⟨rfl, hX⟩ | rfl
              · have HX := Lib.hid hX
                clear hX
                go_wp2_with fail
                refine (HX.out _ (hE.below hbb)).mono ?_
                rintro e wb ⟨rfl, hb⟩
                go_wp2_with fail
                go_meet
                exact Lib.hid hb
              · go_wp2_with fail
                go_meet
                exact Lib.hid (Below.refl _ _)
            case rest =>
              have hbc := hcut.out
              rename World => wc
              clear c0 c1 c2 c3 c4 c5 c6 c7 c8 d0 d1 d2 d3 d4 d5 d6 d7 d8 d9 d10 d11 d12
              have hbd := below_call hbb hbc
              have kc := blk_below hbc KA.out
              obtain ⟨d0, d1, d2, d3, d4, d5, d6, d7, d8, d9, d10, d11, d12⟩ := blk13 (t := 43) kc
              clear hX kc
              rcases hY with ⟨rfl, hY⟩ | rfl
              · have HY := Lib.hid (hY wc _ _ _ (hE.below hbd) ((HR.out.1.below hbc).mono hbc.size) ((HR.out.2.1.below hbc).mono hbc.size) ((HR.out.2.2.below hbc).mono hbc.size))
                clear hY hbc hbb
                go_wp2_with fail
                refine HY.out.mono ?_
                rintro e we ⟨rfl, hb⟩
                have hbe := below_call hbd hb
                go_wp2
                go_ret
                exact ⟨rfl, hbe⟩
              · go_wp2
                go_ret
                exact ⟨rfl, hbd⟩
end Go.Proofs.YtakkgamhceignaaDoor

/-
  Arguments opened to cells with their weights: no program in sight.
-/
namespace Go.Proofs.YtakkgamhceignaaDoor
open Go Go.RowKit Go.ChangeShapes Go.WideShapes Go.Deep

section
variable {H : Type} {enc : TypeId × Value → H} {P : Program} {w : World} {base : Nat} {spare : Nat → Bool} {held : Bool}
/-- All of a datum's weights are within the reach. -/
def InReach (P : Program) (t : TypeId) (d : DataW H) : Prop := ∀ m ∈ d.weights P t, m ≤ reachBytes
theorem mem_weightsAll {e : TypeId} {d : DataW H} : ∀ {ds : List (DataW H)}, d ∈ ds → ∀ n ∈ d.weights P e, n ∈ DataW.weightsAll P e ds
  | [], h, _, _ => by simp at h
  | x :: ds, h, n, hn => by
    rw [DataW.weightsAll, List.mem_append]
    rcases List.mem_cons.1 h with rfl | h
    · exact .inl hn
    · exact .inr (mem_weightsAll h n hn)
theorem sub_at2 {t : TypeId} {fs : Array Field} {n : Nat} {cs : List Value} {x : DataW H × List MemPlace} (ht : P.underlying t = some (.struct fs)) (h : DataW.trod enc P w base spare held n t cs = some x) (hw : InReach P t x.1) :
    cs.length = P.cellsOf t ∧ ∃ m, ∀ (j : Nat) (f : Field) (off : Nat) (ty : TypeId) (k : Nat), fs[j]? = some f → f.offset = off → f.type = ty → P.cellsOf ty = k → ∃ y, DataW.trod enc P w base spare held m ty ((cs.drop off).take k) = some y ∧ InReach P ty y.1 := by
  obtain ⟨xs, m, _, hx, hl, hlen, hf⟩ := DataW.trod_struct ht h
  refine ⟨hl, m, fun j f off ty k hj ho hty hk => ?_⟩
  have h1 := hf j f hj
  have hjl : j < xs.length := by rw [hlen]; exact (Array.getElem?_eq_some_iff.1 hj).1
  subst ho hty hk
  refine ⟨_, h1.trans (List.getElem?_eq_getElem hjl), fun q hq => hw q ?_⟩
  rw [hx]
  simp only [DataW.weights, ht]
  exact DataW.weights_mem_each (j := j) (t := f.type) (by simpa using congrArg (Option.map (·.type)) hj) (by simp [hjl]) q hq
theorem open_rd2 {α : Type} {encV : α → List Value} {Q : α → Prop} {k : Nat} (hk : ∀ x, (encV x).length = k) (hk0 : 0 < k) {t e : TypeId} {n : Nat} {cs : List Value} {x : DataW H × List MemPlace} (ht : P.underlying t = some (.slice e)) (hC : P.cellsOf e = k)
    (hel : ∀ n cs y, DataW.trod enc P w base spare held n e cs = some y → InReach P e y.1 → ∃ r, cs = encV r ∧ Q r) (h : DataW.trod enc P w base spare held n t cs = some x) (hw : InReach P t x.1) :
    ∃ (v : Value) (L : List α), cs = [v] ∧ Rd w w.heap.size k v L.length (L.flatMap encV) ∧ L.length ≤ maxLen ∧ (∀ r ∈ L, Q r) ∧ L.length * P.bytesOf e ≤ reachBytes := by
  rcases open_slice ht h with ⟨h0, _⟩ | ⟨a, len, cap, m, n', D, Pl, hcs, _, hl, hm, hmm, hx, hi⟩
  · exact ⟨_, [], h0, ⟨none, 0, rfl, by simp, by simp, fun h => absurd h (by simp)⟩, by simp, by simp, by simp⟩
  · have hlm : len ≤ m := by rw [hmm]; split <;> omega
    have hw1 : ∀ i, i < len → InReach P e (D i) := fun i hi' q hq => by
      refine hw q ?_
      rw [hx]
      simp only [DataW.weights, ht]
      refine List.mem_cons_of_mem _ (List.mem_append_left _ (mem_weightsAll (d := D i) ?_ q hq))
      exact List.mem_map.2 ⟨i, List.mem_range.2 hi', rfl⟩
    have hw2 : len * P.bytesOf e ≤ reachBytes := by
      have := hw ((((List.range len).map D).length + ((List.range (m - len)).map fun j => D (len + j)).length) * P.bytesOf e) (by rw [hx]; simp only [DataW.weights, ht]; exact List.mem_cons_self ..)
      refine Nat.le_trans (Nat.mul_le_mul_right _ ?_) this
      simp
    obtain ⟨L, hL, hq⟩ := list_told (Q := fun i r => w.cells? base (a.add (i * k)) k = some (encV r) ∧ Q r) len (fun i hi' => by
      obtain ⟨cs', hc, ht'⟩ := hi i (by omega)
      obtain ⟨r, hr, hQ⟩ := hel _ _ _ ht' (hw1 i hi')
      rw [hC] at hc
      exact ⟨r, by rw [hc, hr], hQ⟩)
    refine ⟨_, L, hcs, ⟨some a, cap, by rw [hL], by omega, flat_len encV k hk L, fun hpos => ?_⟩, by omega, fun r hr => ?_, by rw [hL]; exact hw2⟩
    · obtain ⟨b, off, sp⟩ := a
      have hz : ∃ u, w.cell? ⟨b, off, sp⟩ = some u := by
        obtain ⟨r, hr⟩ : ∃ r, L[0]? = some r := ⟨_, List.getElem?_eq_getElem hpos⟩
        obtain ⟨_, _, hat⟩ := World.cells?_some (hq 0 r hr).1
        have h1 := hat 0 hk0
        have h2 : (encV r)[0]? = some ((encV r)[0]'(by rw [hk]; exact hk0)) := List.getElem?_eq_getElem _
        rw [h2] at h1
        refine ⟨_, Eq.trans ?_ h1⟩
        simp [Addr.add]
      obtain ⟨u0, hu0⟩ := hz
      obtain rfl := Go.Proofs.cell_spot hu0
      refine ⟨b, off, rfl, ?_, fun j u hu => ?_⟩
      · rcases Nat.lt_or_ge b w.heap.size with h | h
        · exact h
        · have hn : w.heap[b]? = none := by simp [h]
          simp [World.cell?, hn] at hu0
      · obtain ⟨i, jj, r, hj, hjj, hr, hu'⟩ := flat_inv encV k hk L j u hu
        obtain ⟨_, _, hat⟩ := World.cells?_some (hq i r hr).1
        have h1 := hat jj hjj
        rw [hu'] at h1
        have e : (Addr.add ⟨b, off, none⟩ (i * k)).add jj = ⟨b, off + j, none⟩ := by
          rw [hj]; simp only [Addr.add]
          split <;> split <;> simp_all <;> omega
        rw [← e]; exact h1
    · obtain ⟨i, hi', he⟩ := List.getElem_of_mem hr
      exact (hq i r (by rw [← he]; exact List.getElem?_eq_getElem hi')).2
end

end Go.Proofs.YtakkgamhceignaaDoor

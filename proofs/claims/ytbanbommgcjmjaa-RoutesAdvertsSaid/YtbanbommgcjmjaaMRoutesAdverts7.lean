/-
  Joined texts: Ra4, AvOrd, Kit4, RowS.
-/
import Derived.Test.YtbanbommgcjmjaaMRoutesAdverts6
import Derived.Laws.AppendOwnNone
import Derived.Test.YtbanbommgcjmjaaMRoutesAdverts2
import Derived.Test.YtbanbommgcjmjaaMRoutesAdverts5
import Derived.ArgAppend
import Derived.Laws.CopyOwn
/-
  The document's TwinAdvert, at lists as long as memory has (written by wip/gen/genra4.py).
-/
namespace Go.Proofs.Ytbanbommgcjmjaa
open Go Go.RowKit Go.Lib Go.Sort

theorem Try.infoAddrB : (Try.prog.info? 24).map (fun i => (i.zero, i.size, i.bytes)) = some (some (.int .u32 0), 1, 4) := by kernel_rfl
def av0W : AvV := ⟨0, 0, 0, 0, 0, 0, 0, 0, false, 0, [], [], [], by omega, by omega, by omega, by omega, by omega, by omega, by omega, by omega, by omega, u32s_nil, u32s_nil, u32s_nil⟩
def avObjW (r : AvV) (vp vo vl : Value) : Obj := .cells #[.int .u32 r.a, .int .i64 r.m, .int .u32 r.ho, .int .i64 r.pf, .int .i64 r.me, vp, vo, .int .u32 r.pe, .int .u32 r.id, .bool r.ex, .int .u32 r.og, vl, .int .i64 r.ss] 36
theorem aset0W {w : World} {g : Nat} {v0 v1 v2 v3 v4 v5 v6 v7 v8 v9 v10 v11 v12 u : Value} {t : TypeId} (h : w.heap[g]? = some (.cells #[v0, v1, v2, v3, v4, v5, v6, v7, v8, v9, v10, v11, v12] t (0, 0))) : (w.setCell ⟨g, 0, none⟩ u).heap[g]? = some (.cells #[u, v1, v2, v3, v4, v5, v6, v7, v8, v9, v10, v11, v12] t (0, 0)) := set_at h
theorem aset1W {w : World} {g : Nat} {v0 v1 v2 v3 v4 v5 v6 v7 v8 v9 v10 v11 v12 u : Value} {t : TypeId} (h : w.heap[g]? = some (.cells #[v0, v1, v2, v3, v4, v5, v6, v7, v8, v9, v10, v11, v12] t (0, 0))) : (w.setCell ⟨g, 1, none⟩ u).heap[g]? = some (.cells #[v0, u, v2, v3, v4, v5, v6, v7, v8, v9, v10, v11, v12] t (0, 0)) := set_at h
theorem aset2W {w : World} {g : Nat} {v0 v1 v2 v3 v4 v5 v6 v7 v8 v9 v10 v11 v12 u : Value} {t : TypeId} (h : w.heap[g]? = some (.cells #[v0, v1, v2, v3, v4, v5, v6, v7, v8, v9, v10, v11, v12] t (0, 0))) : (w.setCell ⟨g, 2, none⟩ u).heap[g]? = some (.cells #[v0, v1, u, v3, v4, v5, v6, v7, v8, v9, v10, v11, v12] t (0, 0)) := set_at h
theorem aset3W {w : World} {g : Nat} {v0 v1 v2 v3 v4 v5 v6 v7 v8 v9 v10 v11 v12 u : Value} {t : TypeId} (h : w.heap[g]? = some (.cells #[v0, v1, v2, v3, v4, v5, v6, v7, v8, v9, v10, v11, v12] t (0, 0))) : (w.setCell ⟨g, 3, none⟩ u).heap[g]? = some (.cells #[v0, v1, v2, u, v4, v5, v6, v7, v8, v9, v10, v11, v12] t (0, 0)) := set_at h
theorem aset4W {w : World} {g : Nat} {v0 v1 v2 v3 v4 v5 v6 v7 v8 v9 v10 v11 v12 u : Value} {t : TypeId} (h : w.heap[g]? = some (.cells #[v0, v1, v2, v3, v4, v5, v6, v7, v8, v9, v10, v11, v12] t (0, 0))) : (w.setCell ⟨g, 4, none⟩ u).heap[g]? = some (.cells #[v0, v1, v2, v3, u, v5, v6, v7, v8, v9, v10, v11, v12] t (0, 0)) := set_at h
theorem aset5W {w : World} {g : Nat} {v0 v1 v2 v3 v4 v5 v6 v7 v8 v9 v10 v11 v12 u : Value} {t : TypeId} (h : w.heap[g]? = some (.cells #[v0, v1, v2, v3, v4, v5, v6, v7, v8, v9, v10, v11, v12] t (0, 0))) : (w.setCell ⟨g, 5, none⟩ u).heap[g]? = some (.cells #[v0, v1, v2, v3, v4, u, v6, v7, v8, v9, v10, v11, v12] t (0, 0)) := set_at h
theorem aset6W {w : World} {g : Nat} {v0 v1 v2 v3 v4 v5 v6 v7 v8 v9 v10 v11 v12 u : Value} {t : TypeId} (h : w.heap[g]? = some (.cells #[v0, v1, v2, v3, v4, v5, v6, v7, v8, v9, v10, v11, v12] t (0, 0))) : (w.setCell ⟨g, 6, none⟩ u).heap[g]? = some (.cells #[v0, v1, v2, v3, v4, v5, u, v7, v8, v9, v10, v11, v12] t (0, 0)) := set_at h
theorem aset7W {w : World} {g : Nat} {v0 v1 v2 v3 v4 v5 v6 v7 v8 v9 v10 v11 v12 u : Value} {t : TypeId} (h : w.heap[g]? = some (.cells #[v0, v1, v2, v3, v4, v5, v6, v7, v8, v9, v10, v11, v12] t (0, 0))) : (w.setCell ⟨g, 7, none⟩ u).heap[g]? = some (.cells #[v0, v1, v2, v3, v4, v5, v6, u, v8, v9, v10, v11, v12] t (0, 0)) := set_at h
theorem aset8W {w : World} {g : Nat} {v0 v1 v2 v3 v4 v5 v6 v7 v8 v9 v10 v11 v12 u : Value} {t : TypeId} (h : w.heap[g]? = some (.cells #[v0, v1, v2, v3, v4, v5, v6, v7, v8, v9, v10, v11, v12] t (0, 0))) : (w.setCell ⟨g, 8, none⟩ u).heap[g]? = some (.cells #[v0, v1, v2, v3, v4, v5, v6, v7, u, v9, v10, v11, v12] t (0, 0)) := set_at h
theorem aset9W {w : World} {g : Nat} {v0 v1 v2 v3 v4 v5 v6 v7 v8 v9 v10 v11 v12 u : Value} {t : TypeId} (h : w.heap[g]? = some (.cells #[v0, v1, v2, v3, v4, v5, v6, v7, v8, v9, v10, v11, v12] t (0, 0))) : (w.setCell ⟨g, 9, none⟩ u).heap[g]? = some (.cells #[v0, v1, v2, v3, v4, v5, v6, v7, v8, u, v10, v11, v12] t (0, 0)) := set_at h
theorem aset10W {w : World} {g : Nat} {v0 v1 v2 v3 v4 v5 v6 v7 v8 v9 v10 v11 v12 u : Value} {t : TypeId} (h : w.heap[g]? = some (.cells #[v0, v1, v2, v3, v4, v5, v6, v7, v8, v9, v10, v11, v12] t (0, 0))) : (w.setCell ⟨g, 10, none⟩ u).heap[g]? = some (.cells #[v0, v1, v2, v3, v4, v5, v6, v7, v8, v9, u, v11, v12] t (0, 0)) := set_at h
theorem aset11W {w : World} {g : Nat} {v0 v1 v2 v3 v4 v5 v6 v7 v8 v9 v10 v11 v12 u : Value} {t : TypeId} (h : w.heap[g]? = some (.cells #[v0, v1, v2, v3, v4, v5, v6, v7, v8, v9, v10, v11, v12] t (0, 0))) : (w.setCell ⟨g, 11, none⟩ u).heap[g]? = some (.cells #[v0, v1, v2, v3, v4, v5, v6, v7, v8, v9, v10, u, v12] t (0, 0)) := set_at h
theorem aset12W {w : World} {g : Nat} {v0 v1 v2 v3 v4 v5 v6 v7 v8 v9 v10 v11 v12 u : Value} {t : TypeId} (h : w.heap[g]? = some (.cells #[v0, v1, v2, v3, v4, v5, v6, v7, v8, v9, v10, v11, v12] t (0, 0))) : (w.setCell ⟨g, 12, none⟩ u).heap[g]? = some (.cells #[v0, v1, v2, v3, v4, v5, v6, v7, v8, v9, v10, v11, u] t (0, 0)) := set_at h
theorem av_blkW {w : World} {g : Nat} {r : AvV} {vp vo vl : Value} (h : w.heap[g]? = some (avObjW r vp vo vl)) : w.cell? ⟨g, 0, none⟩ = some (Value.int .u32 r.a) ∧ w.cell? ⟨g, 1, none⟩ = some (Value.int .i64 r.m) ∧ w.cell? ⟨g, 2, none⟩ = some (Value.int .u32 r.ho) ∧ w.cell? ⟨g, 3, none⟩ = some (Value.int .i64 r.pf) ∧ w.cell? ⟨g, 4, none⟩ = some (Value.int .i64 r.me) ∧ w.cell? ⟨g, 5, none⟩ = some (vp) ∧ w.cell? ⟨g, 6, none⟩ = some (vo) ∧ w.cell? ⟨g, 7, none⟩ = some (Value.int .u32 r.pe) ∧ w.cell? ⟨g, 8, none⟩ = some (Value.int .u32 r.id) ∧ w.cell? ⟨g, 9, none⟩ = some (Value.bool r.ex) ∧ w.cell? ⟨g, 10, none⟩ = some (Value.int .u32 r.og) ∧ w.cell? ⟨g, 11, none⟩ = some (vl) ∧ w.cell? ⟨g, 12, none⟩ = some (Value.int .i64 r.ss) := cblk13 (t := 36) h
/-- A slice that does not lie in a block. -/
def FarVW (g : Nat) (v : Value) : Prop := ∀ b off n c, v = .slice (some ⟨b, off, none⟩) n c → b ≠ g
theorem Rd.setFarW {w : World} {B k n g i : Nat} {v u : Value} {xs : List Value} (h : Rd w B k v n xs) (hf : FarVW g v) : Rd (w.setCell ⟨g, i, none⟩ u) B k v n xs := by
  obtain ⟨A, c, hv, hc, hl, hq⟩ := h
  refine ⟨A, c, hv, hc, hl, fun hn => ?_⟩
  obtain ⟨b, off, hA, hB, hcell⟩ := hq hn
  refine ⟨b, off, hA, hB, fun j v' hv' => ?_⟩
  have hbg : b ≠ g := hf b off n c (by rw [hv, hA])
  exact (World.cell?_of_block (w := w) (Below.heap_setCell w _ u b hbg)).trans (hcell j v' hv')
theorem far_ownW {w : World} {base g n size : Nat} {e : TypeId} {v : Value} {xs : List Value} (h : w.ownsRow base e size v n xs) (hg : g < base) : FarVW g v := by
  rintro b off m c rfl
  obtain ⟨A, c', hv, hA⟩ := owns_form h
  rcases h.2 with ⟨h1, _⟩ | ⟨g', cap, cur, h1, hb, _⟩
  · simp at h1
  · simp only [Value.slice.injEq, Option.some.injEq, Addr.mk.injEq] at h1
    omega
theorem rd13W {w : World} {B k n g : Nat} {v u0 u1 u2 u3 u4 u5 u6 u7 u8 u9 u10 u11 u12 : Value} {xs : List Value} (h : Rd w B k v n xs) (hf : FarVW g v) : Rd (((((((((((((w.setCell ⟨g, 0, none⟩ u0).setCell ⟨g, 1, none⟩ u1).setCell ⟨g, 2, none⟩ u2).setCell ⟨g, 3, none⟩ u3).setCell ⟨g, 4, none⟩ u4).setCell ⟨g, 5, none⟩ u5).setCell ⟨g, 6, none⟩ u6).setCell ⟨g, 7, none⟩ u7).setCell ⟨g, 8, none⟩ u8).setCell ⟨g, 9, none⟩ u9).setCell ⟨g, 10, none⟩ u10).setCell ⟨g, 11, none⟩ u11).setCell ⟨g, 12, none⟩ u12) B k v n xs := (((((((((((((h.setFarW (i := 0) (u := u0) hf).setFarW (i := 1) (u := u1) hf).setFarW (i := 2) (u := u2) hf).setFarW (i := 3) (u := u3) hf).setFarW (i := 4) (u := u4) hf).setFarW (i := 5) (u := u5) hf).setFarW (i := 6) (u := u6) hf).setFarW (i := 7) (u := u7) hf).setFarW (i := 8) (u := u8) hf).setFarW (i := 9) (u := u9) hf).setFarW (i := 10) (u := u10) hf).setFarW (i := 11) (u := u11) hf).setFarW (i := 12) (u := u12) hf)
theorem size13W {w : World} {g : Nat} {u0 u1 u2 u3 u4 u5 u6 u7 u8 u9 u10 u11 u12 : Value} : (((((((((((((w.setCell ⟨g, 0, none⟩ u0).setCell ⟨g, 1, none⟩ u1).setCell ⟨g, 2, none⟩ u2).setCell ⟨g, 3, none⟩ u3).setCell ⟨g, 4, none⟩ u4).setCell ⟨g, 5, none⟩ u5).setCell ⟨g, 6, none⟩ u6).setCell ⟨g, 7, none⟩ u7).setCell ⟨g, 8, none⟩ u8).setCell ⟨g, 9, none⟩ u9).setCell ⟨g, 10, none⟩ u10).setCell ⟨g, 11, none⟩ u11).setCell ⟨g, 12, none⟩ u12).heap.size = w.heap.size := by simp [World.setCell]
theorem cell_keptW {V V' : World} {a : Addr} {v : Value} (h : Below V.heap.size V V') (c : V.cell? a = some v) : V'.cell? a = some v := (h.cell (block_lt_of_cell c)).trans c
theorem frozen_rowW {w : World} {g : Nat} {cs : Array Value} {t : TypeId} (h : w.heap[g]? = some (.cells cs t (0, 0))) (k : Nat) : w.frozen? ⟨g, k, none⟩ = false := by
  unfold World.frozen?
  simp [h]
theorem made_atRW (W : World) (e : TypeId) (size : Nat) : (W.alloc (.cells #[] e)).ownsRow W.heap.size e size (.slice (some ⟨W.heap.size, 0, none⟩) 0 0) 0 [] :=
  World.ownsRow_made W #[] 0 (Nat.le_refl _) (Nat.zero_le _) (by simp)
theorem u32_oneW {l : List Int} : ∀ u ∈ l.map (Value.int .u32), u.oneCell' = true := by
  intro u hu
  obtain ⟨x, _, rfl⟩ := List.mem_map.1 hu
  rfl
/-- append of a list to a new empty one. -/
theorem wpList_twinW {P : Program} {ops : Array Oper} {rest : List Oper} {o : Oper} {a : Act} {Q : Exit → Act → World → Prop} (hgd : o.guard = none) (s x : Operand) (t : TypeId)
    (ho : o.op = .call { callee := .builtin .append, args := #[s, x], argTypes := #[t, t] })
    (e : TypeId) (i : TypeInfo) (z : Value) (ht : P.underlying t = some (.slice e)) (hi : P.info? e = some i) (hz : i.zero = some z)
    (hsize : i.size = 1) (hby : i.bytes = 4) (hzs : z.cells.size = 1)
    {w0 : World} {g0 : Nat} (hs : a.eval s = .slice (some ⟨g0, 0, none⟩) 0 0) (hg0 : g0 = w0.heap.size) (l : List Int) {A : Option Addr} {c : Nat} (hx : a.eval x = .slice A l.length c) (hnil : A = none → c = 0)
    (hrd : Rd w0 w0.heap.size 1 (.slice A l.length c) l.length (l.map (Value.int .u32))) (hlen : l.length * 4 ≤ 140737488355328)
    (h : ∀ v' w', w'.ownsRow w0.heap.size e 1 v' l.length (l.map (Value.int .u32)) → Below w0.heap.size w0 w' → wpList P ops Q rest (a.put o.dst v') w') : wpList P ops Q (o :: rest) a (w0.alloc (.cells #[] e)) := by
  subst hg0
  have hb1 := below1 w0 (.cells #[] e)
  cases A with
  | none =>
    obtain rfl := hnil rfl
    have hl0 : l = [] := by
      cases l with
      | nil => rfl
      | cons y r => obtain ⟨b, off, c', hv, _⟩ := hrd.pos (by simp); cases hv
    subst hl0
    exact wpList_append_own_none hgd s x t ho w0.heap.size e i 1 ht hi _ 0 [] hs (made_atRW w0 e 1) hx (h _ _ (made_atRW w0 e 1) hb1)
  | some ad =>
    refine wpList_append_own _ hgd s x t ho w0.heap.size e i z 1 4 ht hi hz hsize hby hzs (by decide) _ 0 [] hs (made_atRW w0 e 1) ad l.length c (l.map (Value.int .u32)) hx (by simp) ?_ u32_oneW (by unfold maxLen; omega) (by omega) (by simp) ?_
    · intro j u hu
      have hj : j < l.length := by
        have := (List.getElem?_eq_some_iff.1 hu).1
        simpa using this
      obtain ⟨b, off, c', hv, _, hb, hcell⟩ := hrd.pos (by omega)
      injection hv with hv1 _ hv3
      injection hv1 with hv1
      subst hv1
      exact cell_keptW hb1 (by
        have hc := hcell j u hu
        by_cases hj0 : j = 0
        · subst hj0; simpa [Addr.add] using hc
        · simpa [Addr.add, hj0] using hc)
    · intro v' w' h2 h3 _
      rw [Nat.zero_add, List.nil_append] at h2
      exact h v' w' h2 (hb1.grown h3 (by simp) (fun k hk => by simp [Value.ownBlock] at hk; omega))
theorem results_1aW {fn : Func} {tmps : Array Value} {w : World} {g : Nat} {r : AvV} {vp vo vl : Value} {t1 : Nat} (hf : fn.results = #[.cell t1 36]) (h1 : tmps.getD t1 undef = .pointer (some ⟨g, 0, none⟩))
    (k1 : w.heap[g]? = some (avObjW r vp vo vl)) :
    (results fn tmps).run Try.prog w = .ok (.agg #[.int .u32 r.a, .int .i64 r.m, .int .u32 r.ho, .int .i64 r.pf, .int .i64 r.me, vp, vo, .int .u32 r.pe, .int .u32 r.id, .bool r.ex, .int .u32 r.og, vl, .int .i64 r.ss]) w := by
  obtain ⟨c0, c1, c2, c3, c4, c5, c6, c7, c8, c9, c10, c11, c12⟩ := av_blkW k1
  have h1' : tmps[t1]?.getD undef = .pointer (some ⟨g, 0, none⟩) := by simpa using h1
  simp [results, hf, h1', go_sem, c0, c1, c2, c3, c4, c5, c6, c7, c8, c9, c10, c11, c12]
/-- A list of numbers that lies outside two blocks. -/
def TwLW (W : World) (l : List Int) (v : Value) (g h : Nat) : Prop := Rd W W.heap.size 1 v l.length (l.map (Value.int .u32)) ∧ FarVW g v ∧ FarVW h v ∧ ∀ k, k < g → FarVW k v
theorem TwLW.below {W W' : World} {l : List Int} {v : Value} {g h : Nat} (H : TwLW W l v g h) (hb : Below W.heap.size W W') : TwLW W' l v g h := ⟨(H.1.below hb).mono hb.size, H.2⟩
theorem size1cW {W : World} {p : Addr} {u : Value} : (W.setCell p u).heap.size = W.heap.size := by simp [World.setCell]
theorem TwLW.setA {W : World} {l : List Int} {v : Value} {g h : Nat} (H : TwLW W l v g h) (i : Nat) (u : Value) : TwLW (W.setCell ⟨g, i, none⟩ u) l v g h := ⟨by rw [size1cW]; exact H.1.setFarW H.2.1, H.2⟩
theorem TwLW.of_own {W V : World} {l : List Int} {v : Value} {e : TypeId} {g h : Nat} (hown : V.ownsRow W.heap.size e 1 v l.length (l.map (Value.int .u32))) (hg : g < W.heap.size) (hh : h < W.heap.size) : TwLW V l v g h := ⟨Rd.of_own hown, far_ownW hown hg, far_ownW hown hh, fun _ hk => far_ownW hown (Nat.lt_trans hk hg)⟩
theorem TwLW.rd13 {W : World} {l : List Int} {v : Value} {g h : Nat} (H : TwLW W l v g h) {u0 u1 u2 u3 u4 u5 u6 u7 u8 u9 u10 u11 u12 : Value} : Rd (((((((((((((W.setCell ⟨h, 0, none⟩ u0).setCell ⟨h, 1, none⟩ u1).setCell ⟨h, 2, none⟩ u2).setCell ⟨h, 3, none⟩ u3).setCell ⟨h, 4, none⟩ u4).setCell ⟨h, 5, none⟩ u5).setCell ⟨h, 6, none⟩ u6).setCell ⟨h, 7, none⟩ u7).setCell ⟨h, 8, none⟩ u8).setCell ⟨h, 9, none⟩ u9).setCell ⟨h, 10, none⟩ u10).setCell ⟨h, 11, none⟩ u11).setCell ⟨h, 12, none⟩ u12) (((((((((((((W.setCell ⟨h, 0, none⟩ u0).setCell ⟨h, 1, none⟩ u1).setCell ⟨h, 2, none⟩ u2).setCell ⟨h, 3, none⟩ u3).setCell ⟨h, 4, none⟩ u4).setCell ⟨h, 5, none⟩ u5).setCell ⟨h, 6, none⟩ u6).setCell ⟨h, 7, none⟩ u7).setCell ⟨h, 8, none⟩ u8).setCell ⟨h, 9, none⟩ u9).setCell ⟨h, 10, none⟩ u10).setCell ⟨h, 11, none⟩ u11).setCell ⟨h, 12, none⟩ u12).heap.size 1 v l.length (l.map (Value.int .u32)) := by
  rw [size13W]; exact Go.Proofs.Ytbanbommgcjmjaa.rd13W H.1 H.2.2.1
theorem blk_setW {W : World} {g h i : Nat} {u : Value} {o : Obj} (hk : W.heap[h]? = some o) (hne : h ≠ g) : (W.setCell ⟨g, i, none⟩ u).heap[h]? = some o := (Below.heap_setCell W ⟨g, i, none⟩ u h hne).trans hk
set_option maxRecDepth 100000 in
set_option maxHeartbeats 8000000 in
theorem refTwin_anyW (r : AvV) (A1 A2 A3 : Option Addr) (C1 C2 C3 : Nat) (w : World) (hp : Rd w w.heap.size 1 (.slice A1 r.pa.length C1) r.pa.length (r.pa.map (Value.int .u32))) (ho : Rd w w.heap.size 1 (.slice A2 r.co.length C2) r.co.length (r.co.map (Value.int .u32))) (hl : Rd w w.heap.size 1 (.slice A3 r.cl.length C3) r.cl.length (r.cl.map (Value.int .u32))) (n1 : A1 = none → C1 = 0) (n2 : A2 = none → C2 = 0) (n3 : A3 = none → C3 = 0) (hlen : r.pa.length * 4 ≤ 140737488355328 ∧ r.co.length * 4 ≤ 140737488355328 ∧ r.cl.length * 4 ≤ 140737488355328) :
    Calls Try.prog 11 #[.agg #[.int .u32 r.a, .int .i64 r.m, .int .u32 r.ho, .int .i64 r.pf, .int .i64 r.me, (.slice A1 r.pa.length C1), (.slice A2 r.co.length C2), .int .u32 r.pe, .int .u32 r.id, .bool r.ex, .int .u32 r.og, (.slice A3 r.cl.length C3), .int .i64 r.ss]] w fun e w' => ∃ up uo ul, e = .returned (.agg #[.int .u32 r.a, .int .i64 r.m, .int .u32 r.ho, .int .i64 r.pf, .int .i64 r.me, up, uo, .int .u32 r.pe, .int .u32 r.id, .bool r.ex, .int .u32 r.og, ul, .int .i64 r.ss]) ∧ Rd w' w'.heap.size 1 up r.pa.length (r.pa.map (Value.int .u32)) ∧ Rd w' w'.heap.size 1 uo r.co.length (r.co.map (Value.int .u32)) ∧ Rd w' w'.heap.size 1 ul r.cl.length (r.cl.map (Value.int .u32)) ∧ Below w.heap.size w w' ∧ ∀ k, k < w.heap.size → FarVW k up ∧ FarVW k uo ∧ FarVW k ul := by
  obtain ⟨i0, hi, hz0, hz1, hz2⟩ := info_parts Try.infoU32b
  obtain ⟨j0, hj, hy0, hy1, hy2⟩ := info_parts Try.infoAddrB
  obtain ⟨ka, kr⟩ := blk2 w (avObjW r (.slice A1 r.pa.length C1) (.slice A2 r.co.length C2) (.slice A3 r.cl.length C3)) (.cells #[.int .u32 0, .int .i64 0, .int .u32 0, .int .i64 0, .int .i64 0, .slice none 0 0, .slice none 0 0, .int .u32 0, .int .u32 0, .bool false, .int .u32 0, .slice none 0 0, .int .i64 0] 36)
  have hb0 := below2 w (avObjW r (.slice A1 r.pa.length C1) (.slice A2 r.co.length C2) (.slice A3 r.cl.length C3)) (.cells #[.int .u32 0, .int .i64 0, .int .u32 0, .int .i64 0, .int .i64 0, .slice none 0 0, .slice none 0 0, .int .u32 0, .int .u32 0, .bool false, .int .u32 0, .slice none 0 0, .int .i64 0] 36)
  have hW : w.alloc (.cells #[.int .u32 r.a, .int .i64 r.m, .int .u32 r.ho, .int .i64 r.pf, .int .i64 r.me, (.slice A1 r.pa.length C1), (.slice A2 r.co.length C2), .int .u32 r.pe, .int .u32 r.id, .bool r.ex, .int .u32 r.og, (.slice A3 r.cl.length C3), .int .i64 r.ss] 36) = w.alloc (avObjW r (.slice A1 r.pa.length C1) (.slice A2 r.co.length C2) (.slice A3 r.cl.length C3)) := rfl
  have HP := Lib.hid (And.intro hp (And.intro ho hl))
  have lp : r.pa.length * 4 ≤ 140737488355328 := by omega
  have lo : r.co.length * 4 ≤ 140737488355328 := by omega
  have ll : r.cl.length * 4 ≤ 140737488355328 := by omega
  clear hp ho hl
  go_enter Try.func11, Try.ntmps11
  go_upto_region 1 with fail
  try rw [hW]
  generalize (w.alloc (avObjW r (.slice A1 r.pa.length C1) (.slice A2 r.co.length C2) (.slice A3 r.cl.length C3))).alloc (.cells #[.int .u32 0, .int .i64 0, .int .u32 0, .int .i64 0, .int .i64 0, .slice none 0 0, .slice none 0 0, .int .u32 0, .int .u32 0, .bool false, .int .u32 0, .slice none 0 0, .int .i64 0] 36) = W0 at *
  replace kr : W0.heap[w.heap.size + 1]? = some (avObjW av0W (.slice none 0 0) (.slice none 0 0) (.slice none 0 0)) := kr
  clear hW
  have gs : w.heap.size < w.heap.size + 1 := Nat.lt_succ_self _
  obtain ⟨c0, c1, c2, c3, c4, c5, c6, c7, c8, c9, c10, c11, c12⟩ := av_blkW ka
  have f0 := cell_keptW (below1 W0 (.cells #[] 23)) c5
  have ga : w.heap.size < W0.heap.size := lt_of_block ka
  have gr : w.heap.size + 1 < W0.heap.size := lt_of_block kr
  clear c0 c1 c2 c3 c4 c5 c6 c7 c8 c9 c10 c11 c12
  go_upto_region 2 with (at_builtin; refine wpList_twinW rfl _ _ 33 rfl 23 i0 _ Try.underlying33 hi hz0 hz1 hz2 rfl (w0 := W0) (g0 := W0.heap.size) rfl rfl r.pa rfl n1 ((HP.out.1.below hb0).mono hb0.size) (by omega) ?_; intro u0 v0 hown hb; obtain ⟨B0, D0, hu0, _⟩ := owns_form hown; subst hu0; have q0 := TwLW.of_own (l := r.pa) hown ga gr; have ka' := blk_below hb ka; have kr' := blk_below hb kr; have hb' := below_call hb0 hb; clear f0 ga gr hown hb ka kr; obtain ⟨c0, c1, c2, c3, c4, c5, c6, c7, c8, c9, c10, c11, c12⟩ := av_blkW ka'; have z := frozen_rowW ka' 5)
  have ka1 : (v0.setCell ⟨w.heap.size, 5, none⟩ (.slice B0 r.pa.length D0)).heap[w.heap.size]? = some (avObjW r (.slice B0 r.pa.length D0) (.slice A2 r.co.length C2) (.slice A3 r.cl.length C3)) := aset5W ka'
  have kr1 := blk_setW (g := w.heap.size) (i := 5) (u := (.slice B0 r.pa.length D0)) kr' (Nat.ne_of_gt gs)
  have hb1 := hb'.setCell (p := ⟨w.heap.size, 5, none⟩) (Nat.le_refl _) (.slice B0 r.pa.length D0)
  replace q0 := q0.setA 5 (.slice B0 r.pa.length D0)
  clear ka' kr' hb' z c0 c1 c2 c3 c4 c5 c6 c7 c8 c9 c10 c11 c12
  generalize v0.setCell ⟨w.heap.size, 5, none⟩ (.slice B0 r.pa.length D0) = W1 at *
  obtain ⟨c0, c1, c2, c3, c4, c5, c6, c7, c8, c9, c10, c11, c12⟩ := av_blkW ka1
  have f1 := cell_keptW (below1 W1 (.cells #[] 23)) c6
  have ga : w.heap.size < W1.heap.size := lt_of_block ka1
  have gr : w.heap.size + 1 < W1.heap.size := lt_of_block kr1
  clear c0 c1 c2 c3 c4 c5 c6 c7 c8 c9 c10 c11 c12
  go_upto_region 3 with (at_builtin; refine wpList_twinW rfl _ _ 33 rfl 23 i0 _ Try.underlying33 hi hz0 hz1 hz2 rfl (w0 := W1) (g0 := W1.heap.size) rfl rfl r.co rfl n2 ((HP.out.2.1.below hb1).mono hb1.size) (by omega) ?_; intro u1 v1 hown hb; obtain ⟨B1, D1, hu1, _⟩ := owns_form hown; subst hu1; have q1 := TwLW.of_own (l := r.co) hown ga gr; replace q0 := q0.below hb; have ka' := blk_below hb ka1; have kr' := blk_below hb kr1; have hb' := below_call hb1 hb; clear f1 ga gr hown hb ka1 kr1; obtain ⟨c0, c1, c2, c3, c4, c5, c6, c7, c8, c9, c10, c11, c12⟩ := av_blkW ka'; have z := frozen_rowW ka' 6)
  have ka2 : (v1.setCell ⟨w.heap.size, 6, none⟩ (.slice B1 r.co.length D1)).heap[w.heap.size]? = some (avObjW r (.slice B0 r.pa.length D0) (.slice B1 r.co.length D1) (.slice A3 r.cl.length C3)) := aset6W ka'
  have kr2 := blk_setW (g := w.heap.size) (i := 6) (u := (.slice B1 r.co.length D1)) kr' (Nat.ne_of_gt gs)
  have hb2 := hb'.setCell (p := ⟨w.heap.size, 6, none⟩) (Nat.le_refl _) (.slice B1 r.co.length D1)
  replace q0 := q0.setA 6 (.slice B1 r.co.length D1)
  replace q1 := q1.setA 6 (.slice B1 r.co.length D1)
  clear ka' kr' hb' z c0 c1 c2 c3 c4 c5 c6 c7 c8 c9 c10 c11 c12
  generalize v1.setCell ⟨w.heap.size, 6, none⟩ (.slice B1 r.co.length D1) = W2 at *
  obtain ⟨c0, c1, c2, c3, c4, c5, c6, c7, c8, c9, c10, c11, c12⟩ := av_blkW ka2
  have f2 := cell_keptW (below1 W2 (.cells #[] 24)) c11
  have ga : w.heap.size < W2.heap.size := lt_of_block ka2
  have gr : w.heap.size + 1 < W2.heap.size := lt_of_block kr2
  clear c0 c1 c2 c3 c4 c5 c6 c7 c8 c9 c10 c11 c12
  go_upto_region 4 with (at_builtin; refine wpList_twinW rfl _ _ 34 rfl 24 j0 _ Try.underlying34 hj hy0 hy1 hy2 rfl (w0 := W2) (g0 := W2.heap.size) rfl rfl r.cl rfl n3 ((HP.out.2.2.below hb2).mono hb2.size) (by omega) ?_; intro u2 v2 hown hb; obtain ⟨B2, D2, hu2, _⟩ := owns_form hown; subst hu2; have q2 := TwLW.of_own (l := r.cl) hown ga gr; replace q0 := q0.below hb; replace q1 := q1.below hb; have ka' := blk_below hb ka2; have kr' := blk_below hb kr2; have hb' := below_call hb2 hb; clear f2 ga gr hown hb ka2 kr2; obtain ⟨c0, c1, c2, c3, c4, c5, c6, c7, c8, c9, c10, c11, c12⟩ := av_blkW ka'; have z := frozen_rowW ka' 11)
  have ka3 : (v2.setCell ⟨w.heap.size, 11, none⟩ (.slice B2 r.cl.length D2)).heap[w.heap.size]? = some (avObjW r (.slice B0 r.pa.length D0) (.slice B1 r.co.length D1) (.slice B2 r.cl.length D2)) := aset11W ka'
  have kr3 := blk_setW (g := w.heap.size) (i := 11) (u := (.slice B2 r.cl.length D2)) kr' (Nat.ne_of_gt gs)
  have hb3 := hb'.setCell (p := ⟨w.heap.size, 11, none⟩) (Nat.le_refl _) (.slice B2 r.cl.length D2)
  replace q0 := q0.setA 11 (.slice B2 r.cl.length D2)
  replace q1 := q1.setA 11 (.slice B2 r.cl.length D2)
  replace q2 := q2.setA 11 (.slice B2 r.cl.length D2)
  clear ka' kr' hb' z c0 c1 c2 c3 c4 c5 c6 c7 c8 c9 c10 c11 c12
  generalize v2.setCell ⟨w.heap.size, 11, none⟩ (.slice B2 r.cl.length D2) = W3 at *
  obtain ⟨c0, c1, c2, c3, c4, c5, c6, c7, c8, c9, c10, c11, c12⟩ := av_blkW ka3
  obtain ⟨d0, d1, d2, d3, d4, d5, d6, d7, d8, d9, d10, d11, d12⟩ := av_blkW kr3
  have z0 := frozen_rowW kr3 0
  have z1 := frozen_rowW kr3 1
  have z2 := frozen_rowW kr3 2
  have z3 := frozen_rowW kr3 3
  have z4 := frozen_rowW kr3 4
  have z5 := frozen_rowW kr3 5
  have z6 := frozen_rowW kr3 6
  have z7 := frozen_rowW kr3 7
  have z8 := frozen_rowW kr3 8
  have z9 := frozen_rowW kr3 9
  have z10 := frozen_rowW kr3 10
  have z11 := frozen_rowW kr3 11
  have z12 := frozen_rowW kr3 12
  go_wp2_with fail
  exact bodyPost_ret (results_1aW (t1 := 2) (g := w.heap.size + 1) (r := r) (vp := (.slice B0 r.pa.length D0)) (vo := (.slice B1 r.co.length D1)) (vl := (.slice B2 r.cl.length D2)) Try.results11 rfl (aset12W (aset11W (aset10W (aset9W (aset8W (aset7W (aset6W (aset5W (aset4W (aset3W (aset2W (aset1W (aset0W kr3)))))))))))))) rfl ⟨_, _, _, rfl, q0.rd13, q1.rd13, q2.rd13, (((((((((((((hb3.setCell (Nat.le_succ _) _).setCell (Nat.le_succ _) _).setCell (Nat.le_succ _) _).setCell (Nat.le_succ _) _).setCell (Nat.le_succ _) _).setCell (Nat.le_succ _) _).setCell (Nat.le_succ _) _).setCell (Nat.le_succ _) _).setCell (Nat.le_succ _) _).setCell (Nat.le_succ _) _).setCell (Nat.le_succ _) _).setCell (Nat.le_succ _) _).setCell (Nat.le_succ _) _), fun k hk => ⟨q0.2.2.2 k hk, q1.2.2.2 k hk, q2.2.2.2 k hk⟩⟩
end Go.Proofs.Ytbanbommgcjmjaa

/-
  The order of adverts: plain laws.
-/
namespace Go.Proofs.Ytbanbommgcjmjaa
open Go Go.RowKit Go.Lib Go.Sort

/-- A comparison's answer. -/
def Sg (x : Int) : Prop := x = -1 ∨ x = 0 ∨ x = 1
theorem ord3_L : Ord3 cmpNs := by
  constructor
  · intro l
    induction l with
    | nil => intro m; cases m <;> rfl
    | cons x l ih =>
      intro m
      cases m with
      | nil => rfl
      | cons y m =>
        have h := ord3_I.anti x y
        rw [cmpNs, cmpNs]
        by_cases e : cmpI x y = 0
        · rw [if_pos e, if_pos (by omega)]; exact ih m
        · rw [if_neg e, if_neg (by omega)]; exact h
  · intro l
    induction l with
    | nil =>
      intro m n h1 h2
      cases n with
      | nil => exact Int.le_refl _
      | cons z n => show (-1 : Int) ≤ 0; omega
    | cons x l ih =>
      intro m n h1 h2
      cases m with
      | nil => exact absurd h1 (by show ¬ (1 : Int) ≤ 0; omega)
      | cons y m =>
        cases n with
        | nil => exact absurd h2 (by show ¬ (1 : Int) ≤ 0; omega)
        | cons z n =>
          rw [cmpNs] at h1 h2 ⊢
          by_cases e1 : cmpI x y = 0
          · rw [if_pos e1] at h1
            obtain rfl := cmpI_zero.1 e1
            by_cases e2 : cmpI x z = 0
            · rw [if_pos e2] at h2 ⊢
              exact ih m n h1 h2
            · rw [if_neg e2] at h2 ⊢
              exact h2
          · rw [if_neg e1] at h1
            by_cases e2 : cmpI y z = 0
            · obtain rfl := cmpI_zero.1 e2
              rw [if_neg e1]; exact h1
            · rw [if_neg e2] at h2
              have := ord3_I.lt (show cmpI x y < 0 by omega) h2
              rw [if_neg (by omega)]
              omega
theorem ord3_A : Ord3 cmpA := by
  have h0 := ord3_zero (α := AvV)
  have hp : Ord3 (fun (r s : AvV) => firstNZ [cmpI r.a s.a, cmpI r.m s.m]) := (ord3_I.on AvV.a).cons ((ord3_I.on AvV.m).cons h0)
  exact hp.cons ((ord3_I.on AvV.ss).cons ((ord3_I.on AvV.pf).cons ((ord3_I.on AvV.me).cons ((ord3_I.on AvV.ho).cons ((ord3_I.on AvV.pe).cons ((ord3_I.on AvV.id).cons ((ord3_B.on AvV.ex).cons ((ord3_I.on AvV.og).cons ((ord3_L.on AvV.pa).cons ((ord3_L.on AvV.co).cons ((ord3_L.on AvV.cl).cons h0)))))))))))
end Go.Proofs.Ytbanbommgcjmjaa

/-
  Small general lemmas, the fourth text: an append tells whether its row lies where it lay; no program in sight.
-/
namespace Go.Proofs.Ytbanbommgcjmjaa
open Go Go.RowKit

/-- The row lies where it lay, or in a block of its own laid since. -/
def Moved (v v' : Value) (k : Nat) : Prop := v'.ownBlock = v.ownBlock ∨ ∀ g, v'.ownBlock = some g → k ≤ g
theorem grown_setRow (w : World) (g : Nat) (cs : Array Value) : w.grownBy (w.setRow g cs) (some g) :=
  ⟨rfl, rfl, rfl, by simp, fun k _ hk => setRow_other w g k _ (fun e => hk (by simp [e]))⟩
/-- The blocks from lo on below hi are as they were. -/
def Seg (lo hi : Nat) (a w : World) : Prop := ∀ b, lo ≤ b → b < hi → w.heap[b]? = a.heap[b]?
/-- The row lies below lo or from hi on. -/
def Off (v : Value) (lo hi : Nat) : Prop := ∀ g, v.ownBlock = some g → g < lo ∨ hi ≤ g
theorem Seg.refl (lo hi : Nat) (a : World) : Seg lo hi a a := fun _ _ _ => rfl
theorem Seg.grown {v : Value} {lo hi : Nat} {a w w' : World} (h : Seg lo hi a w) (hg : w.grownBy w' v.ownBlock) (ho : Off v lo hi) (hs : hi ≤ w.heap.size) : Seg lo hi a w' := by
  intro b h1 h2
  refine (hg.block b (by omega) (fun hb => ?_)).trans (h b h1 h2)
  rcases ho b hb.symm with h3 | h3 <;> omega
theorem Seg.below {lo hi : Nat} {a w w' : World} (h : Seg lo hi a w) (hb : Below w.heap.size w w') (hs : hi ≤ w.heap.size) : Seg lo hi a w' :=
  fun b h1 h2 => (hb.block b (by omega)).trans (h b h1 h2)
theorem Seg.alloc {lo hi : Nat} {a w : World} (h : Seg lo hi a w) (hs : hi ≤ w.heap.size) (o : Obj) : Seg lo hi a (w.alloc o) := h.below (below1 w o) hs

end Go.Proofs.Ytbanbommgcjmjaa

/-
  Stores, copies and clearings of rows whose elements have several cells; no program.
-/
namespace Go.Proofs.Ytbanbommgcjmjaa
open Go Go.RowKit Go.Lib Go.Sort

/-- copy, at elements of k cells. -/
theorem run_copy_rowK {P : Program} (w : World) (dT sT ty elem : TypeId) (k g o dLen dCap : Nat) (a : Addr) (sLen sCap : Nat) (cur : Array Value) (t : TypeId) (cs : List Value)
    (hu : P.underlying dT = some (.slice elem)) (hs : (P.info? elem).map (·.size) = some k)
    (hg : w.heap[g]? = some (.cells cur t (0, 0))) (hn : cs.length = Nat.min sLen dLen * k)
    (hsrc : ∀ j v, cs[j]? = some v → w.cell? (a.add j) = some v) (hfit : o + cs.length ≤ cur.size) (h1 : ∀ v ∈ cs, v.oneCell' = true) :
    (Builtin.copy_ #[dT, sT] ty #[.slice (some ⟨g, o, none⟩) dLen dCap, .slice (some a) sLen sCap]).run P w =
      .ok (goInt (Nat.min sLen dLen)) (w.setRow g (cur.toList.take o ++ cs ++ cur.toList.drop (o + cs.length)).toArray) := by
  have hl := run_loadCells_list (P := P) w a cs hsrc
  have hst := run_storeCells_at P g o t cs 0 cur w hg (by simpa using hfit) h1
  cases hq : P.info? elem with
  | none => simp [hq] at hs
  | some i =>
    have hi : i.size = k := by simpa [hq] using hs
    simp [Builtin.copy_, run_underlying hu, Builtin.lenOf, Builtin.firstCells, sizeOf, typeInfo, hq, hi, ← hn, hl, hst]
/-- Nothing to copy. -/
theorem run_copy_zero {P : Program} (w : World) (dT sT ty elem : TypeId) (k : Nat) (d a : Option Addr) (dLen dCap sLen sCap : Nat) (hu : P.underlying dT = some (.slice elem)) (hs : (P.info? elem).map (·.size) = some k) (hn : Nat.min sLen dLen = 0) :
    (Builtin.copy_ #[dT, sT] ty #[.slice d dLen dCap, .slice a sLen sCap]).run P w = .ok (goInt 0) w := by
  cases hq : P.info? elem with
  | none => simp [hq] at hs
  | some i =>
    have hl : ∀ (x : Addr), (loadCells x 0).run P w = .ok #[] w := fun x => by simpa using run_loadCells_list (P := P) w x [] (by simp)
    cases d <;> cases a <;> simp [Builtin.copy_, run_underlying hu, Builtin.lenOf, Builtin.firstCells, sizeOf, typeInfo, hq, hn, storeCells, hl]
/-- A slice is cleared, at elements of several cells. -/
theorem run_clear_row {P : Program} (w : World) (t e ty : TypeId) (z : Value) (ht : P.underlying t = some (.slice e)) (hv : ∀ w, (zeroValue e).run P w = .ok z w) (h1 : ∀ v ∈ z.cells.toList, v.oneCell' = true) (g o n c : Nat) (hn : 0 < n)
    (cur : Array Value) (tt : TypeId) (hg : w.heap[g]? = some (.cells cur tt (0, 0))) (hfit : o + (Builtin.zeroCells z.cells n).toList.length ≤ cur.size) :
    (Builtin.clear_ #[t] ty #[.slice (some ⟨g, o, none⟩) n c]).run P w = .ok (.tuple #[]) (w.setRow g (cur.toList.take o ++ (Builtin.zeroCells z.cells n).toList ++ cur.toList.drop (o + (Builtin.zeroCells z.cells n).toList.length)).toArray) := by
  have hst := run_storeCells_at P g o tt (Builtin.zeroCells z.cells n).toList 0 cur w hg (by simpa using hfit) (fun v hv' => ?_)
  · obtain ⟨m, rfl⟩ : ∃ m, n = m + 1 := ⟨n - 1, by omega⟩
    simp only [Nat.add_zero] at hst
    simp [Builtin.clear_, run_underlying ht, hv, hst]
  · simp only [Builtin.zeroCells, Array.toList_map, List.mem_map] at hv'
    obtain ⟨i, hi, rfl⟩ := hv'
    have hi' : i < n * z.cells.size := by simpa using hi
    have hz : 0 < z.cells.size := by
      rcases Nat.eq_zero_or_pos z.cells.size with e | e
      · rw [e] at hi'; omega
      · exact e
    have hm : i % z.cells.size < z.cells.size := Nat.mod_lt _ hz
    rw [getElem!_pos z.cells _ hm]
    exact h1 _ (by simp)
end Go.Proofs.Ytbanbommgcjmjaa

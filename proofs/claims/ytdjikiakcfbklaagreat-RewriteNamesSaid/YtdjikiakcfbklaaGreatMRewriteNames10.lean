/-
  Joined texts: Bm11, Bm13, Bm14, SortI, Bm15, Rc1, Rd0, Rf1, Fr2, Fr3, Fr4.
-/
import Derived.Test.YtdjikiakcfbklaaGreatMRewriteNames9
import Derived.Deep.RegionHeldLaw
import Derived.Test.YtdjikiakcfbklaaGreatMRewriteNames7
import Derived.Test.YtdjikiakcfbklaaGreatShelf
import Derived.Test.YtdjikiakcfbklaaGreatMRewriteNames6
import Derived.Sort.Walk13a
import Derived.Lib.SlicesCompact
import Derived.Lib.RowBridge
/-
  The arena's Size.
-/
namespace Go.Proofs.YtdjikiakcfbklaaGreat
open Go Go.RowKit Go.ChangeMaps Go.MapKept Go.Maps Go.Lib Go.Sort

/-- The arena where only blocks of others turned. -/
theorem ArNv.calm {w w' : World} {B : Nat} {A : Blks} {V Mo : Nat} {N : List Nd} {H G : List Nat} {nv : Value} (h : ArNv w B A V Mo N H G nv) (hs : w.heap.size ≤ w'.heap.size) (hb : ∀ k, k < w.heap.size → ¬ Foreign A w k → w'.heap[k]? = w.heap[k]?) :
    ArNv w' B A V Mo N H G nv ∧ (∀ k, Foreign A w k → Foreign A w' k) ∧ ∀ k, w.heap.size ≤ k → k < w'.heap.size → Foreign A w' k := by
  obtain ⟨lb, hlb, hbo⟩ := h.by_
  obtain ⟨li, hli, hio⟩ := h.ites
  have own : ∀ k ∈ A.list, k < w.heap.size → w'.heap[k]? = w.heap[k]? := fun k hk hlt => hb k hlt (fun f => f.2.1 hk)
  have hin : ∀ k ∈ A.list, k < w.heap.size := by
    intro k hm
    have hm' : k = A.a ∨ k = A.b ∨ k = A.i ∨ k = A.g ∨ k = A.h := by simpa [Blks.list] using hm
    have := lt_of_block h.cells
    have := hlb.lt
    have := hli.lt
    have := h.given.lt
    have := h.held.lt
    omega
  have hc := (own A.a (by simp [Blks.list]) (lt_of_block h.cells)).trans h.cells
  have c2 : w'.cell? ⟨A.a, 2, none⟩ = some nv := by rw [cell_of_row w' _ 2 _ _ (0, 0) hc]; rfl
  refine ⟨⟨hc, owns_like h.row fun k hk => hb k (h.row.lt k hk).2 fun f => f.2.2 nv h.cell2 hk, ⟨lb, hlb.same (own A.b (by simp [Blks.list]) hlb.lt), hbo⟩, ⟨li, hli.same (own A.i (by simp [Blks.list]) hli.lt), hio⟩,
    h.given.same (own A.g (by simp [Blks.list]) h.given.lt), h.held.same (own A.h (by simp [Blks.list]) h.held.lt), h.nodup, h.base, h.off, h.wf, h.le⟩, fun k hk => ⟨Nat.lt_of_lt_of_le hk.1 hs, hk.2.1, fun u hu => ?_⟩, fun k hk1 hk2 => ⟨hk2, fun hm => by have := hin k hm; omega, fun u hu hh => ?_⟩⟩
  · rw [c2] at hu
    injection hu with hu
    subst hu
    exact hk.2.2 _ h.cell2
  · rw [c2] at hu
    injection hu with hu
    subst hu
    have := (h.row.lt k hh).2
    omega
/-- The count of what was met. -/
structure SizeSt (w0 : World) (B : Nat) (A : Blks) (V Mo : Nat) (N : List Nd) (H G : List Nat) (n0 : Nat) (F : List Nat) (W : World) : Prop where
  ar : ArAt W B A V Mo N H G
  n : W.heap[n0]? = some (.cells #[.int .i64 F.length] 3 (0, 0))
  fn : Foreign A W n0
  b : Below w0.heap.size w0 W
  ok : FOk N F
def SizeFr (w0 : World) (A : Blks) (n0 : Nat) (W : World) (k : Nat) : Prop := Foreign A W k ∧ k ≠ n0 ∧ w0.heap.size ≤ k
theorem SizeSt.calm {w0 : World} {B : Nat} {A : Blks} {V Mo : Nat} {N : List Nd} {H G : List Nat} {n0 : Nat} {F : List Nat} {W W' : World} (s : SizeSt w0 B A V Mo N H G n0 F W) (h : Calm (SizeFr w0 A n0) W W') :
    SizeSt w0 B A V Mo N H G n0 F W' ∧ (∀ k, SizeFr w0 A n0 W k → SizeFr w0 A n0 W' k) ∧ ∀ k, W.heap.size ≤ k → k < W'.heap.size → SizeFr w0 A n0 W' k := by
  obtain ⟨nv, hA⟩ := s.ar
  obtain ⟨a1, a2, a3⟩ := hA.calm h.size fun k hk hf => h.block k hk fun hh => hf hh.1
  have hb := s.b.size
  have ln := lt_of_block s.n
  refine ⟨⟨⟨nv, a1⟩, (h.block n0 ln (fun hh => hh.2.1 rfl)).trans s.n, a2 _ s.fn, ⟨h.os.trans s.b.os, h.tape.trans s.b.tape, h.output.trans s.b.output, Nat.le_trans hb h.size, fun k hk => (h.block k (by omega) (fun hh => by have := hh.2.2; omega)).trans (s.b.block k hk)⟩, s.ok⟩,
    fun k hk => ⟨a2 k hk.1, hk.2⟩, fun k h1 h2 => ⟨a3 k h1 h2, by omega, by omega⟩⟩
set_option maxHeartbeats 400000 in
theorem sizeEn (args : Array Value) (w : World) : (callFunc 117 args).run Tryz.prog w = .ok (.enter 117 args) w := by
  go_simp
set_option maxRecDepth 100000 in
set_option maxHeartbeats 400000 in
theorem sizeDo {w0 : World} {B : Nat} {A : Blks} {V Mo : Nat} {N : List Nd} {H G : List Nat} {n0 : Nat} (h0 : w0.heap.size ≤ n0) : DoOk 117 #[.pointer (some ⟨n0, 0, none⟩)] B A V Mo N H G (SizeSt w0 B A V Mo N H G n0) (SizeFr w0 A n0) where
  en := sizeEn
  ar := fun F W s => s.ar
  calm := fun F W W' s h => ⟨(s.calm h).1, (s.calm h).2.1⟩
  fresh := fun F W W' k s h h1 h2 => (s.calm h).2.2 k h1 h2
  step := by
    intro F f W h2 hf hF s
    have hle : N.length ≤ 2147483647 := by obtain ⟨_, h⟩ := s.ar; exact h.le
    have hl := s.ok.len
    have hlb : (F.length : Int) ≤ 2147483647 := by omega
    have c0 := cell0 s.n
    have fz := frozen_of_row W _ 0 _ _ s.n
    have HS := Lib.hid s
    have HX := Lib.hid (And.intro h2 (And.intro hf hF))
    clear s hl hle
    show Calls Tryz.prog 117 #[.int .i32 f, .pointer (some ⟨n0, 0, none⟩)] W _
    go_enter Tryz.func117, Tryz.ntmps117
    go_wp2
    go_end0
    have st : ∀ k, k ≠ n0 → (W.setCell ⟨n0, 0, none⟩ (.int .i64 ((F.length : Int) + 1))).heap[k]? = W.heap[k]? := fun k hk => Below.heap_setCell W ⟨n0, 0, none⟩ _ k hk
    have hsz : (W.setCell ⟨n0, 0, none⟩ (.int .i64 ((F.length : Int) + 1))).heap.size = W.heap.size := by simp [World.setCell]
    obtain ⟨nv, hA⟩ := HS.out.ar
    obtain ⟨a1, a2, a3⟩ := hA.calm (w' := W.setCell ⟨n0, 0, none⟩ (.int .i64 ((F.length : Int) + 1))) (by omega) fun k hk hf => st k fun e => hf (e ▸ HS.out.fn)
    refine ⟨rfl, ⟨⟨nv, a1⟩, ?_, a2 _ HS.out.fn, ⟨HS.out.b.os, HS.out.b.tape, HS.out.b.output, by have := HS.out.b.size; omega, fun k hk => (st k (by omega)).trans (HS.out.b.block k hk)⟩, HS.out.ok.snoc HX.out.1 HX.out.2.1 HX.out.2.2⟩, by omega, fun k hk => ⟨st k hk.2.1, a2 k hk.1, hk.2⟩⟩
    rw [List.length_append]
    exact set_at HS.out.n
set_option maxRecDepth 100000 in
set_option maxHeartbeats 400000 in
theorem Size_any {w : World} {B : Nat} {A : Blks} {V Mo : Nat} {N : List Nd} {H G : List Nat} (f : Nat) (hA : ArAt w B A V Mo N H G) (hf : f ∈ G ∧ f < N.length) :
    Calls Tryz.prog 86 #[A.val, .int .i64 f] w fun e w' => e = .returned (.tuple #[.int .i64 (bel N (f + 1) f []).length, .int .i64 0]) ∧ Below w.heap.size w w' := by
  generalize hF : bel N (f + 1) f [] = F
  have hle : N.length ≤ 2147483647 := by obtain ⟨_, h⟩ := hA; exact h.le
  have hb1 := below1 w (.cells ([f].map fun (n : Nat) => Value.int .i64 (n : Int)).toArray 3)
  have hA1 := hA.below hb1
  have hck := check_any hA1 [f] w.heap.size 1 (new_cells w [f] 3) (by
    intro x hx
    simp at hx
    subst hx
    exact ⟨hf.1, by omega⟩) (by simp)
  have HA1 := Lib.hid hA1
  have HB1 := Lib.hid hb1
  have hck : Calls Tryz.prog 83 #[A.val, .slice (some ⟨w.heap.size, 0, none⟩) 1 1] (w.alloc (.cells #[.int .i64 f] 3)) fun e w' => e = .returned (.int .i64 0) ∧ Below (w.alloc (.cells #[.int .i64 f] 3)).heap.size (w.alloc (.cells #[.int .i64 f] 3)) w' := hck
  have HCK := Lib.hid hck
  have HA := Lib.hid hA
  have f1 := hf.2
  have f2 : (f : Int) ≤ 2147483646 := by omega
  have HF := Lib.hid hF
  clear hA hA1 hb1 hck hf hF
  unfold Blks.val at *
  go_enter Tryz.func86, Tryz.ntmps86
  go_upto_region 5 with ((with_reducible refine HCK.out.mono ?_); rintro e W2 ⟨rfl, hb2⟩; have HB2 := Lib.hid (HB1.out.trans (hb2.mono HB1.out.size)); clear hb2)
  have hb3 := HB2.out.alloc HB2.out.size (.cells #[.int .i64 0] 3)
  have kn := blk1 W2 (.cells #[.int .i64 0] 3)
  have hA3 := HA.out.below hb3
  have hst : SizeSt w B A V Mo N H G W2.heap.size [] (W2.alloc (.cells #[.int .i64 0] 3)) := ⟨hA3, kn, HA.out.foreign_new hb3 HB2.out.size (lt_of_block kn), hb3, ⟨List.nodup_nil, by simp⟩⟩
  have hbl := below_any (sizeDo HB2.out.size) f f1 hst
  rw [HF.out] at hbl
  unfold Blks.val at hbl
  have HBL := Lib.hid hbl
  clear hbl hst kn hb3 hA3 HA HA1 HB1 HCK
  generalize W2.alloc (.cells #[.int .i64 0] 3) = W3 at *
  go_upto_region 6 with ((with_reducible refine HBL.out.mono ?_); rintro e W4 ⟨rfl, hs4⟩; have HS4 := Lib.hid hs4; clear hs4)
  have cn := cell0 HS4.out.n
  have HB4 := Lib.hid HS4.out.b
  clear HS4 HF
  go_wp2
  go_ret2
  exact ⟨rfl, HB4.out⟩
end Go.Proofs.YtdjikiakcfbklaaGreat

/-
  The arena's Support: what is done at a node.
-/
namespace Go.Proofs.YtdjikiakcfbklaaGreat
open Go Go.RowKit Go.ChangeMaps Go.MapKept Go.Maps Go.Lib Go.Sort

def supL (N : List Nd) (F : List Nat) : List Value := F.map fun (i : Nat) => Value.int .i64 ((nd N i).v : Int)
/-- The variables of what was met. -/
structure SupSt (w0 : World) (B : Nat) (A : Blks) (V Mo : Nat) (N : List Nd) (H G : List Nat) (ob ab : Nat) (F : List Nat) (W : World) : Prop where
  ar : ArAt W B A V Mo N H G
  o : ∃ fv, W.heap[ob]? = some (.cells #[fv] 93 (0, 0)) ∧ W.ownsRow w0.heap.size 3 1 fv F.length (supL N F) ∧ fv.ownBlock ≠ some ob ∧ fv.ownBlock ≠ some ab ∧ ∀ g, fv.ownBlock = some g → Foreign A W g
  a : W.heap[ab]? = some (.cells #[.pointer (some ⟨A.a, 0, none⟩)] 81 (0, 0))
  fo : Foreign A W ob ∧ Foreign A W ab ∧ ob ≠ ab ∧ w0.heap.size ≤ ob ∧ w0.heap.size ≤ ab
  b : Below w0.heap.size w0 W
  ok : FOk N F
def SupFr (w0 : World) (A : Blks) (ob ab : Nat) (W : World) (k : Nat) : Prop := Foreign A W k ∧ k ≠ ob ∧ k ≠ ab ∧ w0.heap.size ≤ k ∧ ∀ fv, W.cell? ⟨ob, 0, none⟩ = some fv → fv.ownBlock ≠ some k
theorem SupSt.calm {w0 : World} {B : Nat} {A : Blks} {V Mo : Nat} {N : List Nd} {H G : List Nat} {ob ab : Nat} {F : List Nat} {W W' : World} (s : SupSt w0 B A V Mo N H G ob ab F W) (h : Calm (SupFr w0 A ob ab) W W') :
    SupSt w0 B A V Mo N H G ob ab F W' ∧ (∀ k, SupFr w0 A ob ab W k → SupFr w0 A ob ab W' k) ∧ ∀ k, W.heap.size ≤ k → k < W'.heap.size → SupFr w0 A ob ab W' k := by
  obtain ⟨nv, hA⟩ := s.ar
  obtain ⟨a1, a2, a3⟩ := hA.calm h.size fun k hk hf => h.block k hk fun hh => hf hh.1
  obtain ⟨fv, o1, o2, o3, o4, o5⟩ := s.o
  obtain ⟨f1, f2, f3, f4, f5⟩ := s.fo
  have hb := s.b.size
  have lo := lt_of_block o1
  have la := lt_of_block s.a
  have hc := cell0 o1
  have k1 := (h.block ob lo (fun hh => hh.2.1 rfl)).trans o1
  have hc' := cell0 k1
  have k2 : ∀ g, fv.ownBlock = some g → W'.heap[g]? = W.heap[g]? := fun g hg => h.block g (o2.lt g hg).2 fun hh => hh.2.2.2.2 fv hc hg
  refine ⟨⟨⟨nv, a1⟩, ⟨fv, k1, owns_like o2 k2, o3, o4, fun g hg => a2 g (o5 g hg)⟩, (h.block ab la (fun hh => hh.2.2.1 rfl)).trans s.a, ⟨a2 _ f1, a2 _ f2, f3, f4, f5⟩, ⟨h.os.trans s.b.os, h.tape.trans s.b.tape, h.output.trans s.b.output, Nat.le_trans hb h.size, fun k hk => (h.block k (by omega) (fun hh => by have := hh.2.2.2.1; omega)).trans (s.b.block k hk)⟩, s.ok⟩,
    fun k hk => ⟨a2 k hk.1, hk.2.1, hk.2.2.1, hk.2.2.2.1, fun u hu => ?_⟩, fun k h1 h2 => ⟨a3 k h1 h2, by omega, by omega, by omega, fun u hu hh => ?_⟩⟩
  · rw [hc'] at hu
    injection hu with hu
    subst hu
    exact hk.2.2.2.2 _ hc
  · rw [hc'] at hu
    injection hu with hu
    subst hu
    have := (o2.lt k hh).2
    omega
theorem Tryz.infoInt : (Tryz.prog.info? 3).map (fun i => (i.zero, i.size, i.bytes)) = some (some (.int .i64 0), 1, 8) := by kernel_rfl
theorem one_i64 (x : Int) : ∀ u ∈ [Value.int .i64 x], u.oneCell' = true := by
  intro u hu
  simp at hu
  subst hu
  rfl
/-- The state behind one node more. -/
theorem SupSt.pushed {w0 : World} {B : Nat} {A : Blks} {V Mo : Nat} {N : List Nd} {H G : List Nat} {ob ab : Nat} {F : List Nat} {W w5 : World} (s : SupSt w0 B A V Mo N H G ob ab F W) {f : Nat} (h2 : 2 ≤ f) (hf : f < N.length) (hF : f ∉ F) {fv v5 : Value}
    (o1 : W.heap[ob]? = some (.cells #[fv] 93 (0, 0))) (o2 : W.ownsRow w0.heap.size 3 1 fv F.length (supL N F)) (o3 : fv.ownBlock ≠ some ob) (o4 : fv.ownBlock ≠ some ab) (o5 : ∀ g, fv.ownBlock = some g → Foreign A W g)
    (hown : w5.ownsRow w0.heap.size 3 1 v5 (F.length + 1) (supL N F ++ [.int .i64 (nd N f).v])) (hg : W.grownBy w5 fv.ownBlock) (hm : Moved fv v5 W.heap.size) :
    (w5.heap[ob]? = some (.cells #[fv] 93 (0, 0))) ∧ SupSt w0 B A V Mo N H G ob ab (F ++ [f]) (w5.setCell ⟨ob, 0, none⟩ v5) ∧ W.heap.size ≤ (w5.setCell ⟨ob, 0, none⟩ v5).heap.size ∧
      ∀ k, SupFr w0 A ob ab W k → (w5.setCell ⟨ob, 0, none⟩ v5).heap[k]? = W.heap[k]? ∧ SupFr w0 A ob ab (w5.setCell ⟨ob, 0, none⟩ v5) k := by
  obtain ⟨nv, hA⟩ := s.ar
  obtain ⟨f1, f2, f3, f4, f5⟩ := s.fo
  have lo := lt_of_block o1
  have la := lt_of_block s.a
  have hb := s.b.size
  have hs5 := hg.size
  have hsz : (w5.setCell ⟨ob, 0, none⟩ v5).heap.size = w5.heap.size := by simp [World.setCell]
  have t5 : ∀ k, k < W.heap.size → fv.ownBlock ≠ some k → w5.heap[k]? = W.heap[k]? := fun k hk hn => hg.block k hk (fun e => hn e.symm)
  have t6 : ∀ k, k < W.heap.size → k ≠ ob → fv.ownBlock ≠ some k → (w5.setCell ⟨ob, 0, none⟩ v5).heap[k]? = W.heap[k]? := fun k hk hn hn2 => (Below.heap_setCell w5 ⟨ob, 0, none⟩ v5 k hn).trans (t5 k hk hn2)
  have off : ∀ k, k < W.heap.size → fv.ownBlock ≠ some k → v5.ownBlock ≠ some k := fun k hk hn e => by
    rcases hm with h | h
    · rw [h] at e; exact hn e
    · have := h k e; omega
  have c5 := (t5 ob lo o3).trans o1
  obtain ⟨a1, a2, a3⟩ := hA.calm (w' := w5.setCell ⟨ob, 0, none⟩ v5) (by omega) fun k hk hf => t6 k hk (fun e => hf (e ▸ f1)) (fun e => hf (o5 k e))
  have k6 : (w5.setCell ⟨ob, 0, none⟩ v5).heap[ob]? = some (.cells #[v5] 93 (0, 0)) := set_at c5
  refine ⟨c5, ⟨⟨nv, a1⟩, ⟨v5, k6, ?_, off ob lo o3, off ab la o4, fun g hg5 => ?_⟩, (t6 ab la (fun e => f3 e.symm) o4).trans s.a, ⟨a2 _ f1, a2 _ f2, f3, f4, f5⟩, ⟨hg.os.trans s.b.os, hg.tape.trans s.b.tape, hg.output.trans s.b.output, by omega, fun k hk => (t6 k (by omega) (by omega) (fun e => by have := (o2.lt k e).1; omega)).trans (s.b.block k hk)⟩, s.ok.snoc h2 hf hF⟩, by omega, fun k hk => ?_⟩
  · rw [List.length_append, supL, List.map_append]
    exact owns_like hown fun k hk => Below.heap_setCell w5 ⟨ob, 0, none⟩ v5 k (fun e => off ob lo o3 (by rw [hk, e]))
  · rcases hm with h | h
    · exact a2 g (o5 g (by rw [← h]; exact hg5))
    · exact a3 g (h g hg5) (by have := (hown.lt g hg5).2; omega)
  · obtain ⟨p1, p2, p3, p4, p5⟩ := hk
    have hkW := p1.1
    have hko := p5 fv (cell0 o1)
    refine ⟨t6 k hkW p2 hko, a2 k p1, p2, p3, p4, fun u hu => ?_⟩
    rw [cell0 k6] at hu
    injection hu with hu
    subst hu
    exact off k hkW hko
/-- An append of one, the row nil or laid, as one step of a region that draws its order. -/
theorem step_append_any {P : Program} {ops : Array Oper} {o : Oper} {a : Act} {K : Act → World → Prop} {Q : Exit → Act → World → Prop} {E : Prop}
    (hg : o.guard = none) (s x : Operand) (t : TypeId) (hop : o.op = Op.call { callee := Callee.builtin Builtin.append, args := #[s, x], argTypes := #[t, t] })
    {w0 : World} (e : TypeId) (i : TypeInfo) (z : Value) (size bytes : Nat) (ht : P.underlying t = some (.slice e)) (hi : P.info? e = some i) (hz : i.zero = some z)
    (hsize : i.size = size) (hby : i.bytes = bytes) (hzs : z.cells.size = size) (hsz : 0 < size) (hb64 : bytes ≤ 64)
    {base n : Nat} {v : Value} {xs : List Value} (hown : w0.ownsRow base e size v n xs) (es : List Value) (hes : es.length = size) (h1 : ∀ u ∈ es, u.oneCell' = true) (hn : n ≤ 1099511627776) (hbase : base ≤ w0.heap.size)
    (hs : a.eval s = v) (hx : a.eval x = .slice (some ⟨w0.heap.size, 0, none⟩) 1 1)
    (hK : ∀ v' w', w'.ownsRow base e size v' (n + 1) (xs ++ es) → w0.grownBy w' v.ownBlock → Moved v v' w0.heap.size → K (a.put o.dst v') w') :
    if Region.wanted o (yielded ops a.tmps) = true then Oper.wp P o a (w0.alloc (.cells es.toArray e)) K Q else E := by
  rcases hown.2 with ⟨rfl, rfl⟩ | ⟨g, cap, cur, rfl, _⟩
  · have hw : Region.wanted o (yielded ops a.tmps) = true := by simp [Region.wanted, hg]
    rw [if_pos hw]
    obtain rfl : xs = [] := List.eq_nil_of_length_eq_zero (by have := hown.1; omega)
    have hgA : w0.grownBy (w0.alloc (.cells es.toArray e)) none := World.grownBy_alloc w0 _ none
    obtain ⟨v', w', hrun, r1, r2, _⟩ := run_append_own (P := P) (w0.alloc (.cells es.toArray e)) (w0.alloc (.cells es.toArray e)).heap.size t o.type e i z size bytes ht hi hz hsize hby hzs hsz (.slice none 0 0) 0 [] (World.ownsRow_nil _ _ e size) ⟨w0.heap.size, 0, none⟩ 1 1 es (by omega) (cells_new w0 es e) h1 (by unfold maxLen; omega) (by omega) (Nat.le_refl _)
    unfold Oper.wp
    simp [execOp, hop, resolve, invoke, builtin, hs, hx, hrun, Result.andThen]
    refine hK v' w' (owns_base r1 (by simp; omega)) (grown_none (hgA.trans r2) _) (.inr fun g hg' => ?_)
    have := (r1.lt g hg').1
    simp at this; omega
  · exact step_append_moved hg s x t hop e i z size bytes ht hi hz hsize hby hzs hsz hb64 hown es hes h1 hn hbase hs hx hK
set_option maxRecDepth 100000 in
set_option maxHeartbeats 1000000 in
theorem supStep {w0 : World} {B : Nat} {A : Blks} {V Mo : Nat} {N : List Nd} {H G : List Nat} {ob ab : Nat} (F : List Nat) (f : Nat) (W : World) (h2 : 2 ≤ f) (hf : f < N.length) (hF : f ∉ F) (s : SupSt w0 B A V Mo N H G ob ab F W) :
    Calls Tryz.prog 118 #[.int .i32 f, .pointer (some ⟨ob, 0, none⟩), .pointer (some ⟨ab, 0, none⟩)] W fun e W' => e = .returned (.tuple #[]) ∧ SupSt w0 B A V Mo N H G ob ab (F ++ [f]) W' ∧ W.heap.size ≤ W'.heap.size ∧
      ∀ k, SupFr w0 A ob ab W k → W'.heap[k]? = W.heap[k]? ∧ SupFr w0 A ob ab W' k := by
  have hwd : Below W.heap.size W W.drew := ⟨rfl, rfl, rfl, Nat.le_refl _, fun _ _ => rfl⟩
  obtain ⟨sd, fd, _⟩ := s.calm (.of_below hwd)
  obtain ⟨nv, hA⟩ := s.ar
  have hle := hA.le
  have hl := s.ok.len
  obtain ⟨g, cp, rfl, hat⟩ := hA.at_node
  obtain ⟨x0, _, _⟩ := hat f hf
  have c2 : W.cell? ⟨A.a, 2, none⟩ = some (.slice (some ⟨g, 0, none⟩) N.length cp) := hA.cellAt rfl
  have hv := hA.wf.v256 f
  have hv2 : ((nd N f).v : Int) ≤ 256 := by omega
  have hwr : IntKind.i64.wrap ((nd N f).v : Int) = ((nd N f).v : Int) := IntWalk.i64_in _ (by omega)
  have ca := cell0 s.a
  obtain ⟨fv, o1, o2, o3, o4, o5⟩ := s.o
  obtain ⟨Af, cf, rfl, _⟩ := owns_form o2
  have co := cell0 o1
  obtain ⟨i0, hif, hz0, hz1, hz2⟩ := info_parts Tryz.infoInt
  have lob := lt_of_block o1
  have lab := lt_of_block s.a
  have lA := lt_of_block hA.cells
  have lg : g < W.heap.size := (hA.row.lt g rfl).2
  have co' : ∀ o, (W.alloc o).cell? ⟨ob, 0, none⟩ = some (.slice Af F.length cf) := fun o => ((below1 W o).cell (p := ⟨ob, 0, none⟩) lob).trans co
  have ca' : ∀ o, (W.alloc o).cell? ⟨ab, 0, none⟩ = some (.pointer (some ⟨A.a, 0, none⟩)) := fun o => ((below1 W o).cell (p := ⟨ab, 0, none⟩) lab).trans ca
  have c2' : ∀ o, (W.alloc o).cell? ⟨A.a, 2, none⟩ = some (.slice (some ⟨g, 0, none⟩) N.length cp) := fun o => ((below1 W o).cell (p := ⟨A.a, 2, none⟩) lA).trans c2
  have x0' : ∀ o, (W.alloc o).cell? ⟨g, f * 3, none⟩ = some (.int .i32 (nd N f).v) := fun o => ((below1 W o).cell (p := ⟨g, f * 3, none⟩) lg).trans x0
  have hI : (f : Int) < (N.length : Int) := by omega
  have hl4 : F.length ≤ 1099511627776 := by omega
  have hb := s.b.size
  have HP := Lib.hid (fun (v5 : Value) (w5 : World) => sd.pushed (w5 := w5) (v5 := v5) h2 hf hF o1 (owns_kept_none o2 (only_of_below hwd none)) o3 o4 (fun g hg => ((Kept.of_below (lt_of_block hA.cells) hwd).same _ (o5 g hg)).2))
  have HOW := Lib.hid (owns_kept_none o2 (only_of_below hwd none))
  have hbs : w0.heap.size ≤ W.drew.heap.size := hb
  clear s sd fd hA hat o1 o2 o3 o4 o5 hle hl hwd
  go_enter Tryz.func118, Tryz.ntmps118
  go_region_law ((
    refine step_append_any rfl (.tmp 4) (.tmp 14) 93 rfl 3 i0 _ 1 8 Tryz.underlying93 hif hz0 hz1 hz2 rfl (by decide) (by decide) (w0 := W.drew) HOW.out [.int .i64 (nd N f).v] rfl (one_i64 _) hl4 hbs rfl rfl ?_
    intro v5 w5 hown5 hgr5 hmv5
    obtain ⟨p1, p2, p3, p4⟩ := HP.out v5 w5 hown5 hgr5 hmv5
    obtain ⟨Ax, cx, hv5, _⟩ := owns_form hown5
    subst hv5
    have hc5 := cell0 p1
    have hf5 := frozen_of_row w5 _ 0 _ _ p1
    have P2 := Lib.hid p2
    have P3 := Lib.hid p3
    have P4 := Lib.hid p4
    clear hown5 hgr5 hmv5 p1 p2 p3 p4))
  all_goals (try go_wp2)
  all_goals go_end0
  all_goals exact ⟨rfl, P2.out, P3.out, P4.out⟩
theorem supEn (args : Array Value) (w : World) : (callFunc 118 args).run Tryz.prog w = .ok (.enter 118 args) w := by
  go_simp
theorem supDo {w0 : World} {B : Nat} {A : Blks} {V Mo : Nat} {N : List Nd} {H G : List Nat} {ob ab : Nat} : DoOk 118 #[.pointer (some ⟨ob, 0, none⟩), .pointer (some ⟨ab, 0, none⟩)] B A V Mo N H G (SupSt w0 B A V Mo N H G ob ab) (SupFr w0 A ob ab) where
  en := supEn
  ar := fun _ _ s => s.ar
  calm := fun _ _ _ s h => ⟨(s.calm h).1, (s.calm h).2.1⟩
  fresh := fun _ _ _ k s h h1 h2 => (s.calm h).2.2 k h1 h2
  step := fun F f W h2 hf hF s => supStep F f W h2 hf hF s
end Go.Proofs.YtdjikiakcfbklaaGreat

/-
  The arena's refusals, and its Support.
-/
namespace Go.Proofs.YtdjikiakcfbklaaGreat
open Go Go.RowKit Go.ChangeMaps Go.MapKept Go.Maps Go.Lib Go.Sort

theorem givenL_no (G : List Nat) (x : Int) (h : ∀ g ∈ G, x ≠ (g : Int)) : getM (givenL G) (.int .i64 x) = none := by
  refine getM_none fun p hp e => ?_
  unfold givenL at hp
  obtain ⟨g, hg, rfl⟩ := List.mem_map.1 hp
  simp at e
  exact h g hg e.symm
set_option maxRecDepth 100000 in
set_option maxHeartbeats 4000000 in
/-- A number that was not given is refused. -/
theorem check_no {w : World} {B : Nat} {A : Blks} {V Mo : Nat} {N : List Nd} {H G : List Nat} (hA : ArAt w B A V Mo N H G) (x : Int) (g c : Nat) (hv : w.cell? ⟨g, 0, none⟩ = some (.int .i64 x)) (hx : -9223372036854775808 ≤ x ∧ x ≤ 9223372036854775807)
    (hG : ∀ g ∈ G, x ≠ (g : Int)) :
    Calls Tryz.prog 83 #[A.val, .slice (some ⟨g, 0, none⟩) 1 c] w fun e w' => e = .returned (.int .i64 1) ∧ Below w.heap.size w w' := by
  obtain ⟨nv, hN⟩ := hA
  have a5 : w.cell? ⟨A.a, 5, none⟩ = some (.map (some A.g)) := hN.cellAt rfl
  have hlook : (Instr.lookup 128 (.map (some A.g)) (.int .i64 x) false).run Tryz.prog w = .ok (.bool false) w := by
    have h1 := hN.given.look i64_keyed Tryz.underlying128 (zero_bool w) false (key_i64 hx)
    rw [givenL_no G x hG] at h1
    exact h1
  clear hN hG hx
  unfold Blks.val
  go_enter Tryz.func83, Tryz.ntmps83
  go_wp2
  go_loop [11] (fun i => i = .int .i64 0) (fun _ => 0)
  case atStart => rfl
  case round =>
    obtain rfl := hrel
    go_wp2
    go_ret
    exact ⟨rfl, Below.refl _ _⟩
set_option maxRecDepth 100000 in
set_option maxHeartbeats 400000 in
theorem Size_no {w : World} {B : Nat} {A : Blks} {V Mo : Nat} {N : List Nd} {H G : List Nat} (x : Int) (hA : ArAt w B A V Mo N H G) (hx : -9223372036854775808 ≤ x ∧ x ≤ 9223372036854775807) (hG : ∀ g ∈ G, x ≠ (g : Int)) :
    Calls Tryz.prog 86 #[A.val, .int .i64 x] w fun e w' => e = .returned (.tuple #[.int .i64 0, .int .i64 1]) ∧ Below w.heap.size w w' := by
  have hb1 := below1 w (.cells #[.int .i64 x] 3)
  have hck := check_no (hA.below hb1) x w.heap.size 1 (by rw [cell_of_row _ _ 0 _ _ (0, 0) (blk1 w (.cells #[.int .i64 x] 3))]; rfl) hx hG
  have HB1 := Lib.hid hb1
  have HCK := Lib.hid hck
  clear hA hb1 hck hx hG
  unfold Blks.val at *
  go_enter Tryz.func86, Tryz.ntmps86
  go_wp2_with ((with_reducible refine HCK.out.mono ?_); rintro e W2 ⟨rfl, hb2⟩; have HB2 := Lib.hid (HB1.out.trans (hb2.mono HB1.out.size)); clear hb2)
  go_ret2
  exact ⟨rfl, HB2.out⟩
set_option maxRecDepth 100000 in
set_option maxHeartbeats 400000 in
theorem Support_no {w : World} {B : Nat} {A : Blks} {V Mo : Nat} {N : List Nd} {H G : List Nat} (x : Int) (hA : ArAt w B A V Mo N H G) (hx : -9223372036854775808 ≤ x ∧ x ≤ 9223372036854775807) (hG : ∀ g ∈ G, x ≠ (g : Int)) :
    Calls Tryz.prog 87 #[A.val, .int .i64 x] w fun e w' => e = .returned (.tuple #[.slice none 0 0, .int .i64 1]) ∧ Below w.heap.size w w' := by
  have hb0 := below1 w (.cells #[.pointer (some ⟨A.a, 0, none⟩)] 81)
  have hA0 := hA.below hb0
  have hk0 := cell0 (blk1 w (.cells #[.pointer (some ⟨A.a, 0, none⟩)] 81))
  have hs0 : (w.alloc (.cells #[.pointer (some ⟨A.a, 0, none⟩)] 81)).heap.size = w.heap.size + 1 := by simp
  have hb1 := hb0.alloc hb0.size (.cells #[.int .i64 x] 3)
  have hck := check_no (hA.below hb1) x (w.heap.size + 1) 1 (by
    have := blk1 (w.alloc (.cells #[.pointer (some ⟨A.a, 0, none⟩)] 81)) (.cells #[.int .i64 x] 3)
    rw [hs0] at this
    exact cell0 this) hx hG
  have HB1 := Lib.hid hb1
  have HCK := Lib.hid hck
  clear hA hb1 hck hx hG hA0 hb0 hs0
  unfold Blks.val at *
  go_enter Tryz.func87, Tryz.ntmps87
  go_wp2_with ((with_reducible refine HCK.out.mono ?_); rintro e W2 ⟨rfl, hb2⟩; have HB2 := Lib.hid (HB1.out.trans (hb2.mono HB1.out.size)); clear hb2)
  go_ret2
  exact ⟨rfl, HB2.out⟩
end Go.Proofs.YtdjikiakcfbklaaGreat

/-
  slices.Sort and slices.Compact at a row of the call's own, whole numbers.
-/
namespace Go.Proofs.YtdjikiakcfbklaaGreat
open Go Go.RowKit Go.Sort

def icells (L : List Int) : List Value := L.map (Value.int .i64)
theorem icells_len (L : List Int) : (icells L).length = L.length := by simp [icells]
theorem icell {L : List Int} {k : Nat} {x : Int} (h : L[k]? = some x) : (icells L)[k]? = some (.int .i64 x) := by simp [icells, h]
theorem put_take {n k : Nat} {d' : Array Int} {cur : Array Value} {c : Nat} (hd : d'.size = n) (hk : k ≤ n) (hnc : n ≤ c) (hcs : cur.size = c * 1) : (putCells (Value.int .i64) 0 d' cur).toList.take (k * 1) = icells (d'.toList.take k) := by
  apply List.ext_getElem?
  intro j
  by_cases hj : j < k * 1
  · rw [List.getElem?_take_of_lt hj, Array.getElem?_toList]
    have hjc : j < cur.size := by rw [hcs]; omega
    have hjd : j < d'.size := by omega
    simp only [putCells, Array.getElem?_mapIdx, Array.getElem?_eq_getElem hjc, Option.map_some, icells, List.getElem?_map]
    rw [if_pos (by omega), Nat.sub_zero, getElem!_pos d' j hjd, List.getElem?_take_of_lt (by omega), Array.getElem?_toList, Array.getElem?_eq_getElem hjd]
    rfl
  · have hsz : (putCells (Value.int .i64) 0 d' cur).size = cur.size := by simp [putCells]
    rw [List.getElem?_eq_none (by simp [hsz, hcs]; omega), List.getElem?_eq_none (by rw [icells_len]; simp [hd]; omega)]
/-- The row behind such a call is the call's own still; nothing else has turned. -/
theorem owns_put {w w' : World} {base g n c k : Nat} {L : List Int} {d' : Array Int} (hown : w.ownsRow base 3 1 (.slice (some ⟨g, 0, none⟩) n c) n (icells L)) (hd : d'.size = n) (hk : k ≤ n) (hat : At (Value.int .i64) w g 0 d' w') :
    w'.ownsRow base 3 1 (.slice (some ⟨g, 0, none⟩) k c) k (icells (d'.toList.take k)) ∧ w.grownBy w' (some g) := by
  obtain ⟨cur, hg, hnc, hcm, hcs, ht, hbg⟩ := owns_block hown
  obtain ⟨m, os, rfl⟩ := hat
  have hlt := lt_of_block hg
  have hg2 : (grow (putRow (Value.int .i64) (Sort.ahead w m) g 0 d') os).heap[g]? = some (.cells (putCells (Value.int .i64) 0 d' cur) 3 (0, 0)) := by
    simp only [grow, putRow, mapBlock]
    rw [Array.getElem?_append_left (by simp [Sort.ahead]; omega), Array.getElem?_modify, if_pos rfl]
    show Option.map _ w.heap[g]? = _
    rw [hg]
    rfl
  have hsz : (putCells (Value.int .i64) 0 d' cur).size = cur.size := by simp [putCells]
  refine ⟨owns_of_block hg2 (by omega) hcm (by rw [hsz, hcs]) (put_take hd hk hnc hcs) (by rw [icells_len]; simp [hd]; omega) hbg, ⟨rfl, rfl, rfl, ?_, fun i hi hne => ?_⟩⟩
  · simp [grow, putRow, mapBlock, Sort.ahead]
  · simp only [grow, putRow, mapBlock]
    rw [Array.getElem?_append_left (by simp [Sort.ahead]; omega), Array.getElem?_modify, if_neg (fun e => hne (by rw [e]))]
    rfl
theorem holds_row {w : World} {base g c : Nat} {L : List Int} (hown : w.ownsRow base 3 1 (.slice (some ⟨g, 0, none⟩) L.length c) L.length (icells L)) : Holds (Value.int .i64) w g 0 L.toArray := fun j hj => by
  have hj' : j < L.length := by simpa using hj
  refine ⟨?_, hown.frozenAt j |> fun h => by simpa using h⟩
  have := hown.cellAt j (by omega)
  rw [Nat.zero_add, this, icell (List.getElem?_eq_getElem hj')]
  simp [hj']
theorem mem_upTo (d : Array Int) : ∀ m, m ≤ d.size → ∀ x, x ∈ Lib.compactUpTo d m ↔ ∃ j, j < m ∧ d[j]! = x
  | 0, _, x => by simp [Lib.compactUpTo]
  | m + 1, hm, x => by
    rw [Lib.compactUpTo_succ, List.mem_append, mem_upTo d m (by omega)]
    constructor
    · rintro (⟨j, h1, h2⟩ | h)
      · exact ⟨j, by omega, h2⟩
      · split at h
        · exact ⟨m, by omega, (List.mem_singleton.1 h).symm⟩
        · cases h
    · rintro ⟨j, h1, h2⟩
      by_cases hj : j < m
      · exact .inl ⟨j, hj, h2⟩
      · obtain rfl : j = m := by omega
        by_cases hk : Lib.keeps d j = true
        · right; rw [if_pos hk, h2]; simp
        · left
          have : ¬ (j = 0 ∨ d[j]! ≠ d[j - 1]!) := by simpa [Lib.keeps] using hk
          have h0 : j ≠ 0 := fun h => this (.inl h)
          have he : d[j]! = d[j - 1]! := Decidable.not_not.1 fun h => this (.inr h)
          exact ⟨j - 1, by omega, by rw [← he, h2]⟩
theorem mem_compact (zs : List Int) (x : Int) : x ∈ Lib.compact zs ↔ x ∈ zs := by
  unfold Lib.compact
  rw [mem_upTo _ _ (by simp)]
  constructor
  · rintro ⟨j, h1, rfl⟩
    simp [h1]
  · intro h
    obtain ⟨j, hj, rfl⟩ := List.getElem_of_mem h
    exact ⟨j, hj, by simp [hj]⟩
theorem sortI_row (L : List Int) (v : Value) (base : Nat) (w : World) (hown : w.ownsRow base 3 1 v L.length (icells L)) (hlen : L.length < 4611686018427387904) :
    Calls Tryz.prog 119 #[v] w fun e w' => e = .returned (.tuple #[]) ∧ ∃ L' : List Int, (∀ x, x ∈ L' ↔ x ∈ L) ∧ L'.length = L.length ∧ w'.ownsRow base 3 1 v L'.length (icells L') ∧ w.grownBy w' v.ownBlock := by
  obtain ⟨A, c, rfl, hA⟩ := owns_form hown
  rcases Nat.eq_zero_or_pos L.length with h0 | h0
  · obtain rfl : L = [] := List.eq_nil_of_length_eq_zero h0
    refine (Tryz.slices_Sort_int_none A c w).mono ?_
    rintro e w' ⟨rfl, rfl⟩
    exact ⟨rfl, [], fun x => Iff.rfl, rfl, hown, World.grownBy.refl _ _⟩
  · obtain ⟨g, rfl⟩ := hA h0
    have hlt := (hown.lt g rfl).2
    refine (Tryz.slices_Sort_int g 0 c L w (holds_row hown) hlt hlen).mono ?_
    rintro e w' ⟨rfl, hat⟩
    have hsz : (L.mergeSort fun x y => decide (x ≤ y)).length = L.length := List.length_mergeSort _
    obtain ⟨h1, h2⟩ := owns_put hown (by simp) (Nat.le_refl _) hat
    refine ⟨rfl, L.mergeSort fun x y => decide (x ≤ y), fun x => List.mem_mergeSort, hsz, ?_, h2⟩
    rw [hsz]
    have e : (L.mergeSort fun x y => decide (x ≤ y)).toArray.toList.take L.length = L.mergeSort fun x y => decide (x ≤ y) := by
      rw [List.take_of_length_le (by simp)]
    rw [e] at h1
    exact h1
theorem compactI_row (L : List Int) (v : Value) (base : Nat) (w : World) (hown : w.ownsRow base 3 1 v L.length (icells L)) (hlen : L.length < 4611686018427387904) :
    Calls Tryz.prog 120 #[v] w fun e w' => ∃ v', e = .returned v' ∧ ∃ L' : List Int, (∀ x, x ∈ L' ↔ x ∈ L) ∧ L'.length ≤ L.length ∧ w'.ownsRow base 3 1 v' L'.length (icells L') ∧ w.grownBy w' v.ownBlock := by
  obtain ⟨A, c, rfl, hA⟩ := owns_form hown
  rcases Nat.eq_zero_or_pos L.length with h0 | h0
  · obtain rfl : L = [] := List.eq_nil_of_length_eq_zero h0
    refine (Tryz.slices_Compact_int_empty A c w).mono ?_
    rintro e w' ⟨rfl, rfl⟩
    exact ⟨_, rfl, [], fun x => Iff.rfl, Nat.le_refl _, hown, World.grownBy.refl _ _⟩
  · obtain ⟨g, rfl⟩ := hA h0
    obtain ⟨cur, hg, hnc, hcm, hcs, ht, hbg⟩ := owns_block hown
    refine (Tryz.slices_Compact_int g 0 c L w (holds_row hown) (by omega) hnc).mono ?_
    rintro e w' ⟨rfl, q, hq⟩
    have hle := Lib.compact_length_le L
    have hat : At (Value.int .i64) w g 0 (Lib.compact L ++ List.replicate (L.length - (Lib.compact L).length) 0).toArray w' := ⟨q, #[], by rw [grow_empty]; exact hq⟩
    obtain ⟨h1, h2⟩ := owns_put hown (by simp; omega) hle hat
    refine ⟨_, rfl, Lib.compact L, mem_compact L, hle, ?_, h2⟩
    have e : (Lib.compact L ++ List.replicate (L.length - (Lib.compact L).length) 0).toArray.toList.take (Lib.compact L).length = Lib.compact L := by
      simp
    rw [e] at h1
    exact h1
end Go.Proofs.YtdjikiakcfbklaaGreat

/-
  The arena's Support.
-/
namespace Go.Proofs.YtdjikiakcfbklaaGreat
open Go Go.RowKit Go.ChangeMaps Go.MapKept Go.Maps Go.Lib Go.Sort

theorem below_grown {w0 w w' : World} {v : Value} {B : Nat} (hb : Below B w0 w) (hB : B ≤ w.heap.size) (hg : w.grownBy w' v.ownBlock) (hv : ∀ g, v.ownBlock = some g → B ≤ g) : Below B w0 w' :=
  ⟨hg.os.trans hb.os, hg.tape.trans hb.tape, hg.output.trans hb.output, Nat.le_trans hb.size hg.size, fun k hk => (hg.block k (by omega) (fun e => by have := hv k e.symm; omega)).trans (hb.block k hk)⟩
set_option maxRecDepth 100000 in
set_option maxHeartbeats 1000000 in
theorem Support_any {w : World} {B : Nat} {A : Blks} {V Mo : Nat} {N : List Nd} {H G : List Nat} (f : Nat) (hA : ArAt w B A V Mo N H G) (hf : f ∈ G ∧ f < N.length) :
    Calls Tryz.prog 87 #[A.val, .int .i64 f] w fun e w' => ∃ (v : Value) (L : List Int), e = .returned (.tuple #[v, .int .i64 0]) ∧ w'.ownsRow w.heap.size 3 1 v L.length (icells L) ∧
      (∀ x, x ∈ L ↔ ∃ i, 2 ≤ i ∧ Rch N f i ∧ x = ((nd N i).v : Int)) ∧ L.length ≤ 2147483647 ∧ Below w.heap.size w w' := by
  have hle : N.length ≤ 2147483647 := by obtain ⟨_, h⟩ := hA; exact h.le
  have hwf : WF N := by obtain ⟨_, h⟩ := hA; exact h.wf
  have HMEM : Hid (∀ x : Int, x ∈ (bel N (f + 1) f []).map (fun (i : Nat) => ((nd N i).v : Int)) ↔ ∃ i, 2 ≤ i ∧ Rch N f i ∧ x = ((nd N i).v : Int)) := Lib.hid fun x => by
    rw [List.mem_map]
    constructor
    · rintro ⟨i, hi, rfl⟩
      have := (mem_all hwf hf.2 i).1 hi
      exact ⟨i, this.1, this.2, rfl⟩
    · rintro ⟨i, h2, hr, rfl⟩
      exact ⟨i, (mem_all hwf hf.2 i).2 ⟨h2, hr⟩, rfl⟩
  generalize hF : bel N (f + 1) f [] = F at *
  have hb0 := below1 w (.cells #[.pointer (some ⟨A.a, 0, none⟩)] 81)
  have hs0 : (w.alloc (.cells #[.pointer (some ⟨A.a, 0, none⟩)] 81)).heap.size = w.heap.size + 1 := by simp
  have hk0 := blk1 w (.cells #[.pointer (some ⟨A.a, 0, none⟩)] 81)
  have hc0 := cell0 hk0
  have hb1 := hb0.alloc hb0.size (.cells ([f].map fun (n : Nat) => Value.int .i64 (n : Int)).toArray 3)
  have hb01 := below1 (w.alloc (.cells #[.pointer (some ⟨A.a, 0, none⟩)] 81)) (.cells ([f].map fun (n : Nat) => Value.int .i64 (n : Int)).toArray 3)
  have hck := check_any (hA.below hb1) [f] (w.heap.size + 1) 1 (by
    have := new_cells (w.alloc (.cells #[.pointer (some ⟨A.a, 0, none⟩)] 81)) [f] 3
    rw [hs0] at this
    exact this) (by
    intro x hx
    simp at hx
    subst hx
    exact ⟨hf.1, by omega⟩) (by simp)
  have hck : Calls Tryz.prog 83 #[A.val, .slice (some ⟨w.heap.size + 1, 0, none⟩) 1 1] ((w.alloc (.cells #[.pointer (some ⟨A.a, 0, none⟩)] 81)).alloc (.cells #[.int .i64 f] 3)) fun e w' => e = .returned (.int .i64 0) ∧ Below ((w.alloc (.cells #[.pointer (some ⟨A.a, 0, none⟩)] 81)).alloc (.cells #[.int .i64 f] 3)).heap.size ((w.alloc (.cells #[.pointer (some ⟨A.a, 0, none⟩)] 81)).alloc (.cells #[.int .i64 f] 3)) w' := hck
  have HB1 := Lib.hid hb1
  have HK1 := Lib.hid (blk_below hb01 hk0)
  have HCK := Lib.hid hck
  have HA := Lib.hid hA
  have f1 := hf.2
  have f2 : (f : Int) ≤ 2147483646 := by omega
  have HF := Lib.hid hF
  clear hA hb0 hs0 hk0 hb1 hb01 hck hf hF hwf
  unfold Blks.val at *
  go_enter Tryz.func87, Tryz.ntmps87
  go_upto_region 4 with ((with_reducible refine HCK.out.mono ?_); rintro e W2 ⟨rfl, hb2⟩; have HB2 := Lib.hid (HB1.out.trans (hb2.mono HB1.out.size)); have HK2 := Lib.hid (blk_below hb2 HK1.out); clear hb2)
  go_upto_region 5 with fail
  have hb3 := HB2.out.alloc HB2.out.size (.cells #[.slice none 0 0] 93)
  have kn := blk1 W2 (.cells #[.slice none 0 0] 93)
  have ka := blk_below (below1 W2 (.cells #[.slice none 0 0] 93)) HK2.out
  have hA3 := HA.out.below hb3
  have la := lt_of_block HK2.out
  have hst : SupSt w B A V Mo N H G W2.heap.size w.heap.size [] (W2.alloc (.cells #[.slice none 0 0] 93)) :=
    ⟨hA3, ⟨.slice none 0 0, kn, World.ownsRow_nil _ _ _ _, by simp [Value.ownBlock], by simp [Value.ownBlock], fun g hg => by simp [Value.ownBlock] at hg⟩, ka, ⟨HA.out.foreign_new hb3 HB2.out.size (lt_of_block kn), HA.out.foreign_new hb3 (Nat.le_refl _) (lt_of_block ka), by omega, HB2.out.size, Nat.le_refl _⟩, hb3, ⟨List.nodup_nil, by simp⟩⟩
  have hbl := below_any supDo f f1 hst
  rw [HF.out] at hbl
  unfold Blks.val at hbl
  have HBL := Lib.hid hbl
  have ca := cell0 ka
  clear hbl hst kn ka hb3 hA3 HA HB1 HCK HK1 la
  generalize W2.alloc (.cells #[.slice none 0 0] 93) = W3 at *
  go_upto_region 6 with ((with_reducible refine HBL.out.mono ?_); rintro e W4 ⟨rfl, hs4⟩; have HS4 := Lib.hid hs4; clear hs4)
  obtain ⟨fv, o1, o2, o3, o4, o5⟩ := HS4.out.o
  have hlF := HS4.out.ok.len
  have hsl : supL N F = icells (F.map fun (i : Nat) => ((nd N i).v : Int)) := by simp [supL, icells]
  rw [hsl] at o2
  have hlen : (F.map fun (i : Nat) => ((nd N i).v : Int)).length = F.length := by simp
  rw [← hlen] at o2
  have hfl : (F.map fun (i : Nat) => ((nd N i).v : Int)).length ≤ 2147483647 := by omega
  clear hlen
  generalize (F.map fun (i : Nat) => ((nd N i).v : Int)) = L at *
  have c1 := cell0 o1
  have HSRT := Lib.hid (sortI_row L fv w.heap.size W4 o2 (by omega))
  have HBX := Lib.hid (And.intro o1 (And.intro o3 HS4.out.b))
  have HLT := Lib.hid (fun g (hg : fv.ownBlock = some g) => (o2.lt g hg).1)
  obtain ⟨Af, cf, rfl, _⟩ := owns_form o2
  clear o1 o2 o3 o4 o5 hsl HS4 HBL HK2 hlF ca
  go_upto_region 7 with ((with_reducible refine HSRT.out.mono ?_); rintro e W5 ⟨rfl, L5, hm5, hl5, ho5, hg5⟩; have HX5 := Lib.hid (And.intro hm5 (And.intro hl5 (And.intro ho5 hg5))); clear hm5 hl5 ho5 hg5)
  have c5 : W5.cell? ⟨W2.heap.size, 0, none⟩ = some (.slice Af L.length cf) := cell0 ((HX5.out.2.2.2.block _ (lt_of_block HBX.out.1) (fun e => HBX.out.2.1 e.symm)).trans HBX.out.1)
  have HCMP := Lib.hid (compactI_row L5 (.slice Af L.length cf) w.heap.size W5 HX5.out.2.2.1 (by have := HX5.out.2.1; omega))
  clear c1
  go_wp2_with ((with_reducible refine HCMP.out.mono ?_); rintro e W6 ⟨v6, rfl, L6, hm6, hl6, ho6, hg6⟩; have HX6 := Lib.hid (And.intro hm6 (And.intro hl6 (And.intro ho6 hg6))); clear hm6 hl6 ho6 hg6)
  go_ret2
  have hb5 := below_grown HBX.out.2.2 HBX.out.2.2.size HX5.out.2.2.2 HLT.out
  have hb6 := below_grown hb5 hb5.size HX6.out.2.2.2 HLT.out
  exact ⟨v6, L6, rfl, HX6.out.2.2.1, fun x => (HX6.out.1 x).trans ((HX5.out.1 x).trans (HMEM.out x)), by have := HX6.out.2.1; have := HX5.out.2.1; omega, hb6⟩
end Go.Proofs.YtdjikiakcfbklaaGreat

/-
  What a space checks: nodes, and sets.
-/
namespace Go.Proofs.YtdjikiakcfbklaaGreat
open Go Go.RowKit Go.ChangeMaps Go.MapKept Go.Maps Go.Lib Go.Sort

/-- A list of numbers in memory, in a block that is none of the space's. -/
structure RowI (A : Blks) (km : Nat) (w : World) (v : Value) (l : List Int) : Prop where
  form : ∃ (P : Option Addr) (c : Nat), v = .slice P l.length c ∧ ∀ (i : Nat) x, l[i]? = some x → ∃ g, P = some ⟨g, 0, none⟩ ∧ w.cell? ⟨g, i, none⟩ = some (.int .i64 x) ∧ Foreign A w g ∧ g ≠ km
  range : ∀ x ∈ l, -9223372036854775808 ≤ x ∧ x ≤ 9223372036854775807
theorem RowI.kept {A : Blks} {km : Nat} {w w' : World} {v : Value} {l : List Int} (h : RowI A km w v l) (k : KeptS A km w w') : RowI A km w' v l := by
  obtain ⟨P, c, hv, hc⟩ := h.form
  refine ⟨⟨P, c, hv, fun i x hx => ?_⟩, h.range⟩
  obtain ⟨g, h1, h2, h3, h4⟩ := hc i x hx
  exact ⟨g, h1, (World.cell?_of_block (k.same g h3 h4).1).trans h2, (k.same g h3 h4).2, h4⟩
theorem RowI.nil (A : Blks) (km : Nat) (w : World) : RowI A km w (.slice none 0 0) [] := ⟨⟨none, 0, rfl, fun i x h => by simp at h⟩, by simp⟩
def NodeOk (σ : Sg) (x : Int) : Prop := ∃ g ∈ σ.G, x = (g : Int)
def SetOk (σ : Sg) (x : Int) : Prop := ∃ g ∈ σ.G, x = (g : Int) ∧ IsSet σ.N g
def AllNum (σ : Sg) (sets nodes : List Int) : Prop := (∀ x ∈ nodes, NodeOk σ x) ∧ ∀ x ∈ sets, SetOk σ x
def Sg.know (σ : Sg) (K : List (Value × Value)) : Sg := ⟨σ.N, σ.H, σ.G, K⟩
/-- What is known turned, and nothing else. -/
theorem SpOk.knows {w w' : World} {B S km : Nat} {A : Blks} {Mo : Nat} {σ : Sg} (h : SpOk w B S km A Mo σ) {x : Int} {v : Value} (hm : MapAt Tryz.prog 3 w' km (putM σ.K (.int .i64 x) v)) (hg : w.grownBy w' (some km))
    (hv : ∃ g ∈ σ.G, x = (g : Int) ∧ (v = .int .i64 1 ∨ v = .int .i64 2 ∧ IsSet σ.N g)) : SpOk w' B S km A Mo (σ.know (putM σ.K (.int .i64 x) v)) ∧ KeptS A km w w' := by
  obtain ⟨nv, hA⟩ := h.sp.ar
  obtain ⟨a1, a2, a3⟩ := hA.calm hg.size fun k hk hf => hg.block k hk (fun e => hf (by injection e with e; rw [e]; exact h.sp.fk))
  have hS := lt_of_block h.sp.cells
  refine ⟨⟨⟨⟨nv, a1⟩, (hg.block S hS (fun e => h.sp.ne (by injection e))).trans h.sp.cells, a2 _ h.sp.fs, hm, a2 _ h.sp.fk, h.sp.ne⟩, ⟨h.ok.wf, h.ok.hok, h.ok.cl, h.ok.g, h.ok.g0, h.ok.g1, fun p hp => ?_, h.ok.mo, h.ok.le⟩⟩, ⟨hg.os, hg.tape, hg.output, hg.size, fun k hk hn => ⟨hg.block k hk.1 (fun e => hn (by injection e)), a2 k hk⟩⟩⟩
  have hp : p ∈ putM σ.K (.int .i64 x) v := hp
  unfold putM at hp
  obtain ⟨g, g1, g2, g3⟩ := hv
  split at hp
  · obtain ⟨q, hq, rfl⟩ := List.mem_map.1 hp
    split
    · exact ⟨g, g1, by rw [g2], g3⟩
    · exact h.ok.k q hq
  · rcases List.mem_append.1 hp with hp | hp
    · exact h.ok.k p hp
    · obtain rfl := List.mem_singleton.1 hp
      exact ⟨g, g1, by rw [g2], g3⟩
theorem isSet_iff {N : List Nd} (w : WF N) {g : Nat} (hg : g < N.length) : IsSet N g ↔ ∀ i, 2 ≤ i → Rch N g i → (nd N i).v % 2 = 0 := by
  constructor
  · intro h i h2 hr
    rcases Nat.mod_two_eq_zero_or_one (nd N i).v with e | e
    · exact e
    · exact absurd (h _ e) (not_free w hg hr h2)
  · intro h v hv
    refine free_of w hg fun j hj hr e => ?_
    have := h j hj hr
    omega
theorem SpOk.look {w : World} {B S km : Nat} {A : Blks} {Mo : Nat} {σ : Sg} (h : SpOk w B S km A Mo σ) (x : Int) (hx : -9223372036854775808 ≤ x ∧ x ≤ 9223372036854775807) :
    ∃ v : Int, (Instr.lookup 84 (.map (some km)) (.int .i64 x) false).run Tryz.prog w = .ok (.int .i64 v) w ∧ (v = 0 ∨ v = 1 ∧ NodeOk σ x ∨ v = 2 ∧ SetOk σ x) := by
  have h1 := h.sp.known.look i64_keyed Tryz.underlying84 (show (zeroValue 3).run Tryz.prog w = .ok (.int .i64 0) w by kernel_rfl) false (key_i64 hx)
  cases hg : getM σ.K (.int .i64 x) with
  | none =>
    rw [hg] at h1
    exact ⟨0, h1, .inl rfl⟩
  | some u =>
    rw [hg] at h1
    obtain ⟨g, g1, g2, g3⟩ := h.ok.k _ (getM_mem hg)
    have hxg : x = (g : Int) := by
      have g2 : Value.int .i64 x = .int .i64 (g : Int) := g2
      injection g2
    rcases g3 with g3 | ⟨g3, g4⟩
    · have g3 : u = .int .i64 1 := g3
      subst g3
      exact ⟨1, h1, .inr (.inl ⟨rfl, g, g1, hxg⟩)⟩
    · have g3 : u = .int .i64 2 := g3
      subst g3
      exact ⟨2, h1, .inr (.inr ⟨rfl, g, g1, hxg, g4⟩)⟩
theorem AllNum.snoc {P : Int → Prop} {l : List Int} {k : Nat} {x : Int} (h : ∀ y ∈ l.take k, P y) (hx : l[k]? = some x) (hp : P x) : ∀ y ∈ l.take (k + 1), P y := by
  intro y hy
  rw [List.take_add_one, hx] at hy
  rcases List.mem_append.1 hy with hy | hy
  · exact h y hy
  · simp at hy
    rw [hy]
    exact hp
/-- What checked comes to. -/
def ChRes (w : World) (B S km : Nat) (A : Blks) (Mo : Nat) (σ : Sg) (sets nodes : List Int) (e : Ending) (w' : World) : Prop :=
  ∃ K, SpOk w' B S km A Mo (σ.know K) ∧ KeptS A km w w' ∧ (e = .returned (.int .i64 0) ∧ AllNum σ sets nodes ∨ e = .returned (.int .i64 1) ∧ ¬ AllNum σ sets nodes)
set_option maxRecDepth 100000 in
set_option maxHeartbeats 4000000 in
theorem checked_any {w : World} {B S km : Nat} {A : Blks} {Mo : Nat} {σ : Sg} (h : SpOk w B S km A Mo σ) (sv nv : Value) (sets nodes : List Int) (hs : RowI A km w sv sets) (hn : RowI A km w nv nodes) (ls : sets.length ≤ 1000) (ln : nodes.length ≤ 1000) :
    Calls Tryz.prog 47 #[.pointer (some ⟨S, 0, none⟩), sv, nv] w (ChRes w B S km A Mo σ sets nodes) := by
  have HS := Lib.hid h
  have HSV := Lib.hid hs
  have HNV := Lib.hid hn
  obtain ⟨Ps, cs, rfl, _⟩ := hs.form
  obtain ⟨Pn, cn, rfl, _⟩ := hn.form
  clear h hs hn
  go_enter Tryz.func47, Tryz.ntmps47
  go_wp2
  go_loopw [21] (fun i wr => ∃ k : Nat, i = .int .i64 k ∧ k ≤ nodes.length ∧ ∃ K, Hid (SpOk wr B S km A Mo (σ.know K)) ∧ Hid (KeptS A km w wr) ∧ Hid (∀ y ∈ nodes.take k, NodeOk σ y)) (fun i _ => nodes.length - (intOf i).toNat)
  case atStart => exact ⟨0, rfl, by omega, σ.K, HS, Lib.hid (KeptS.refl _ _ _), Lib.hid (by simp)⟩
  case round =>
    obtain ⟨k, rfl, hk, K, HSR, HKR, HOK⟩ := hrel
    have c0 := HSR.out.sp.c0
    have c1 := HSR.out.sp.c1
    by_cases hlt : k < nodes.length
    · have hI : (k : Int) < (nodes.length : Int) := by omega
      obtain ⟨x, hx⟩ : ∃ x, nodes[k]? = some x := ⟨_, List.getElem?_eq_getElem hlt⟩
      obtain ⟨P', c', hv', hcell⟩ := (HNV.out.kept HKR.out).form
      injection hv' with hP hlq hcq
      subst hP hcq
      clear hlq
      obtain ⟨g, rfl, hcx, _, _⟩ := hcell k x hx
      have hxr := HNV.out.range x (List.mem_of_getElem? hx)
      obtain ⟨v, hlook, hvs⟩ := HSR.out.look x hxr
      have HX := Lib.hid hx
      have HR := Lib.hid hxr
      clear hx hxr hcell
      by_cases hv1 : v ≥ 1
      · have HN := Lib.hid (show NodeOk σ x from by
          rcases hvs with h | ⟨_, h⟩ | ⟨_, h⟩
          · omega
          · exact h
          · obtain ⟨g, g1, g2, _⟩ := h; exact ⟨g, g1, g2⟩)
        clear hvs
        go_wp2
        exact ⟨⟨k + 1, by go_num, by omega, K, HSR, HKR, Lib.hid (AllNum.snoc HOK.out HX.out HN.out)⟩, by simp only [intOf]; omega⟩
      · clear hvs
        by_cases hno : NodeOk σ x
        · obtain ⟨f, hf, rfl⟩ := hno
          have hSz := Size_any f HSR.out.sp.ar ⟨hf, (HSR.out.ok.g f hf).1⟩
          unfold Blks.val at hSz
          have HSZ := Lib.hid hSz
          have HF := Lib.hid hf
          clear hSz hf
          go_upto_region 10 with ((with_reducible refine HSZ.out.mono ?_); rintro e W2 ⟨rfl, hb2⟩; have HS2 := Lib.hid (HSR.out.below hb2); have HK2 := Lib.hid (HKR.out.trans (HSR.out.kept hb2)); clear hb2)
          have c0 := HS2.out.sp.c0
          have c1 := HS2.out.sp.c1
          have hkx := key_i64 HR.out
          go_wp2_with (refine wpList_mapAt rfl _ _ _ 84 3 rfl i64_keyed Tryz.underlying84 rfl (show MapAt _ _ W2 _ _ from HS2.out.sp.known) (.int .i64 f) (.int .i64 1) _ rfl rfl hkx ?_; intro w3 hm3 hg3; obtain ⟨p1, p2⟩ := HS2.out.knows hm3 hg3 ⟨f, HF.out, rfl, .inl rfl⟩; have P1 := Lib.hid p1; have P2 := Lib.hid (HK2.out.trans p2); clear p1 p2 hm3 hg3)
          exact ⟨⟨k + 1, by go_num, by omega, _, P1, P2, Lib.hid (AllNum.snoc HOK.out HX.out ⟨f, HF.out, rfl⟩)⟩, by simp only [intOf]; omega⟩
        · have hSz := Size_no x HSR.out.sp.ar HR.out (fun g hg e => hno ⟨g, hg, e⟩)
          unfold Blks.val at hSz
          have HSZ := Lib.hid hSz
          have HNO := Lib.hid hno
          clear hSz hno
          go_wp2_with ((with_reducible refine HSZ.out.mono ?_); rintro e W2 ⟨rfl, hb2⟩; have HS2 := Lib.hid (HSR.out.below hb2); have HK2 := Lib.hid (HKR.out.trans (HSR.out.kept hb2)); clear hb2)
          go_ret
          exact ⟨K, HS2.out, HK2.out, .inr ⟨rfl, fun h => HNO.out (h.1 x (List.mem_of_getElem? HX.out))⟩⟩
    · obtain rfl : k = nodes.length := by omega
      have hI : ¬ (nodes.length : Int) < (nodes.length : Int) := by omega
      have HN := Lib.hid (show ∀ y ∈ nodes, NodeOk σ y by have := HOK.out; rw [List.take_length] at this; exact this)
      clear HOK
      go_wp2
      go_loopw [51] (fun i w2 => ∃ k : Nat, i = .int .i64 k ∧ k ≤ sets.length ∧ ∃ K, Hid (SpOk w2 B S km A Mo (σ.know K)) ∧ Hid (KeptS A km w w2) ∧ Hid (∀ y ∈ sets.take k, SetOk σ y)) (fun i _ => sets.length - (intOf i).toNat)
      case atStart => exact ⟨0, rfl, by omega, K, HSR, HKR, Lib.hid (by simp)⟩
      case round =>
        obtain ⟨k, rfl, hk, K, HSR, HKR, HOK⟩ := hrel
        have c0 := HSR.out.sp.c0
        have c1 := HSR.out.sp.c1
        by_cases hlt : k < sets.length
        · have hI : (k : Int) < (sets.length : Int) := by omega
          obtain ⟨x, hx⟩ : ∃ x, sets[k]? = some x := ⟨_, List.getElem?_eq_getElem hlt⟩
          obtain ⟨P', c', hv', hcell⟩ := (HSV.out.kept HKR.out).form
          injection hv' with hP hlq hcq
          subst hP hcq
          clear hlq
          obtain ⟨g, rfl, hcx, _, _⟩ := hcell k x hx
          have hxr := HSV.out.range x (List.mem_of_getElem? hx)
          obtain ⟨v, hlook, hvs⟩ := HSR.out.look x hxr
          have HX := Lib.hid hx
          have HR := Lib.hid hxr
          clear hx hxr hcell
          by_cases hv2 : v = 2
          · subst hv2
            have HS2 := Lib.hid (show SetOk σ x from by
              rcases hvs with h | ⟨h, _⟩ | ⟨_, h⟩
              · omega
              · omega
              · exact h)
            clear hvs
            go_wp2
            exact ⟨⟨k + 1, by go_num, by omega, K, HSR, HKR, Lib.hid (AllNum.snoc HOK.out HX.out HS2.out)⟩, by simp only [intOf]; omega⟩
          · clear hvs
            by_cases hno : NodeOk σ x
            · obtain ⟨f, hf, rfl⟩ := hno
              have hfl := (HSR.out.ok.g f hf).1
              have hSz := Support_any f HSR.out.sp.ar ⟨hf, hfl⟩
              unfold Blks.val at hSz
              have HSZ := Lib.hid hSz
              have HF := Lib.hid hf
              have HISET := Lib.hid (isSet_iff HSR.out.ok.wf hfl)
              clear hSz hf hfl
              go_upto_region 19 with ((with_reducible refine HSZ.out.mono ?_); rintro e W2 ⟨v2, L, rfl, ho2, hm2, hl2, hb2⟩; have HS2 := Lib.hid (HSR.out.below hb2); have HK2 := Lib.hid (HKR.out.trans (HSR.out.kept hb2)); have HO2 := Lib.hid (And.intro ho2 hm2); obtain ⟨A2, c2, hv2e, _⟩ := owns_form ho2; subst hv2e; clear hb2 ho2 hm2)
              have c0 := HS2.out.sp.c0
              have c1 := HS2.out.sp.c1
              go_wp2
              go_loop [75] (fun i => ∃ j : Nat, i = .int .i64 j ∧ j ≤ L.length ∧ Hid (∀ y ∈ L.take j, y % 2 = 0)) (fun i => L.length - (intOf i).toNat)
              case atStart => exact ⟨0, rfl, by omega, Lib.hid (by simp)⟩
              case round =>
                obtain ⟨j, rfl, hj, HEV⟩ := hrel
                by_cases hjl : j < L.length
                · have hI2 : (j : Int) < (L.length : Int) := by omega
                  obtain ⟨y, hy⟩ : ∃ y, L[j]? = some y := ⟨_, List.getElem?_eq_getElem hjl⟩
                  obtain ⟨i0, i2, ir, rfl⟩ := (HO2.out.2 y).1 (List.mem_of_getElem? hy)
                  obtain ⟨A3, c3, hv3, hA3⟩ := owns_form HO2.out.1
                  injection hv3 with hP3 hlq hcq
                  subst hP3 hcq
                  clear hlq
                  obtain ⟨g2, rfl⟩ := hA3 (by omega)
                  have hcy : W2.cell? ⟨g2, j, none⟩ = some (.int .i64 (((nd (σ.know K).N i0).v : Nat) : Int)) := (HO2.out.1.cellAt j (by omega)).trans (icell hy)
                  have HY := Lib.hid hy
                  have HI := Lib.hid (And.intro i2 ir)
                  clear hy i2 ir hA3
                  generalize hnv : (nd (σ.know K).N i0).v = n at *
                  by_cases ho : n % 2 = 1
                  · have ht : (n : Int).tmod 2 = 1 := by rw [Int.tmod_eq_emod_of_nonneg (by omega)]; omega
                    have HO := Lib.hid (And.intro ho hnv)
                    clear ho hnv
                    go_wp2
                    go_ret
                    refine ⟨K, HS2.out, HK2.out, .inr ⟨rfl, fun h => ?_⟩⟩
                    obtain ⟨g', g1, g3, g4⟩ := h.2 _ (List.mem_of_getElem? HX.out)
                    have : g' = f := by omega
                    subst this
                    have := HISET.out.1 g4 i0 HI.out.1 HI.out.2
                    have := HO.out
                    omega
                  · have ht : (n : Int).tmod 2 = 0 := by rw [Int.tmod_eq_emod_of_nonneg (by omega)]; omega
                    have HE := Lib.hid (show (n : Int) % 2 = 0 by omega)
                    clear ho hnv
                    go_wp2
                    exact ⟨⟨j + 1, by go_num, by omega, Lib.hid (AllNum.snoc (P := fun y => y % 2 = 0) HEV.out HY.out HE.out)⟩, by simp only [intOf]; omega⟩
                · obtain rfl : j = L.length := by omega
                  have hI2 : ¬ (L.length : Int) < (L.length : Int) := by omega
                  have hkx := key_i64 HR.out
                  have HST := Lib.hid (show IsSet σ.N f from HISET.out.2 fun i i2 ir => by
                    have h1 := (HO2.out.2 ((nd (σ.know K).N i).v : Int)).2 ⟨i, i2, ir, rfl⟩
                    have h2 := HEV.out
                    rw [List.take_length] at h2
                    have := h2 _ h1
                    omega)
                  clear HEV
                  go_wp2_with (refine wpList_mapAt rfl _ _ _ 84 3 rfl i64_keyed Tryz.underlying84 rfl (show MapAt _ _ W2 _ _ from HS2.out.sp.known) (.int .i64 f) (.int .i64 2) _ rfl rfl hkx ?_; intro w3 hm3 hg3; obtain ⟨p1, p2⟩ := HS2.out.knows hm3 hg3 ⟨f, HF.out, rfl, .inr ⟨rfl, HST.out⟩⟩; have P1 := Lib.hid p1; have P2 := Lib.hid (HK2.out.trans p2); clear p1 p2 hm3 hg3)
                  exact ⟨⟨k + 1, by go_num, by omega, _, P1, P2, Lib.hid (AllNum.snoc HOK.out HX.out ⟨f, HF.out, rfl, HST.out⟩)⟩, by simp only [intOf]; omega⟩
            · have hSz := Support_no x HSR.out.sp.ar HR.out (fun g hg e => hno ⟨g, hg, e⟩)
              unfold Blks.val at hSz
              have HSZ := Lib.hid hSz
              have HNO := Lib.hid hno
              clear hSz hno
              go_wp2_with ((with_reducible refine HSZ.out.mono ?_); rintro e W2 ⟨rfl, hb2⟩; have HS2 := Lib.hid (HSR.out.below hb2); have HK2 := Lib.hid (HKR.out.trans (HSR.out.kept hb2)); clear hb2)
              go_ret
              exact ⟨K, HS2.out, HK2.out, .inr ⟨rfl, fun h => HNO.out (by obtain ⟨g, g1, g2, _⟩ := h.2 x (List.mem_of_getElem? HX.out); exact ⟨g, g1, g2⟩)⟩⟩
        · obtain rfl : k = sets.length := by omega
          have hI : ¬ (sets.length : Int) < (sets.length : Int) := by omega
          have HN2 := Lib.hid (show ∀ y ∈ sets, SetOk σ y by have := HOK.out; rw [List.take_length] at this; exact this)
          clear HOK
          go_wp2
          go_ret
          exact ⟨K, HSR.out, HKR.out, .inl ⟨rfl, HN.out, HN2.out⟩⟩
end Go.Proofs.YtdjikiakcfbklaaGreat

/-
  What a space asks its arena of two sets.
-/
namespace Go.Proofs.YtdjikiakcfbklaaGreat
open Go Go.RowKit Go.ChangeMaps Go.MapKept Go.Maps Go.Lib Go.Sort

/-- A function of headers: it hangs on no variable of the bits behind. -/
def SetF (F : Fun) : Prop := ∀ v, v % 2 = 1 → Free F v
theorem Den.setOk {σ : Sg} {g : Nat} {F : Fun} (h : Den σ g F) (s : SetF F) : SetOk σ (g : Int) := ⟨g, h.1, rfl, by
  unfold IsSet
  rw [show (fun s => ev σ.N s g) = F from funext h.2]
  exact s⟩
theorem Den.nodeOk {σ : Sg} {g : Nat} {F : Fun} (h : Den σ g F) : NodeOk σ (g : Int) := ⟨g, h.1, rfl⟩
theorem SetOk.den {σ : Sg} {x : Int} (h : SetOk σ x) : ∃ (g : Nat) (F : Fun), x = g ∧ Den σ g F ∧ SetF F := by
  obtain ⟨g, h1, h2, h3⟩ := h
  exact ⟨g, fun s => ev σ.N s g, h2, ⟨h1, fun _ => rfl⟩, h3⟩
theorem NodeOk.den {σ : Sg} {x : Int} (h : NodeOk σ x) : ∃ (g : Nat) (F : Fun), x = g ∧ Den σ g F := by
  obtain ⟨g, h1, h2⟩ := h
  exact ⟨g, fun s => ev σ.N s g, h2, h1, fun _ => rfl⟩
theorem Den.known {σ : Sg} {g : Nat} {F : Fun} (h : Den σ g F) (K : List (Value × Value)) : Den (σ.know K) g F := h
theorem Den.lt64 {Mo : Nat} {σ : Sg} {g : Nat} {F : Fun} (h : Den σ g F) (o : SgOk Mo σ) : g < 2147483647 ∧ (g : Int) ≤ 2147483646 := by
  have := (o.g g h.1).1
  have := o.le
  omega
theorem To.know (σ : Sg) (K : List (Value × Value)) : To 0 0 σ (σ.know K) := ⟨Ext.refl _, Nat.le_refl _, Nat.le_refl _, fun _ h => h, fun _ h => h⟩
theorem ChRes.form {w w' : World} {B S km : Nat} {A : Blks} {Mo : Nat} {σ : Sg} {sets nodes : List Int} {e : Ending} (h : ChRes w B S km A Mo σ sets nodes e w') : ∃ c : Int, e = .returned (.int .i64 c) := by
  obtain ⟨_, _, _, ⟨rfl, _⟩ | ⟨rfl, _⟩⟩ := h
  · exact ⟨_, rfl⟩
  · exact ⟨_, rfl⟩
theorem ChRes.yes {w w' : World} {B S km : Nat} {A : Blks} {Mo : Nat} {σ : Sg} {sets nodes : List Int} {e : Ending} (h : ChRes w B S km A Mo σ sets nodes e w') (ok : AllNum σ sets nodes) : e = .returned (.int .i64 0) ∧ ∃ K, SpOk w' B S km A Mo (σ.know K) ∧ KeptS A km w w' := by
  obtain ⟨K, h1, h2, ⟨h3, _⟩ | ⟨_, h3⟩⟩ := h
  · exact ⟨h3, K, h1, h2⟩
  · exact absurd ok h3
theorem ChRes.no {w w' : World} {B S km : Nat} {A : Blks} {Mo : Nat} {σ : Sg} {sets nodes : List Int} {e : Ending} (h : ChRes w B S km A Mo σ sets nodes e w') (ok : ¬ AllNum σ sets nodes) : e = .returned (.int .i64 1) ∧ ∃ K, SpOk w' B S km A Mo (σ.know K) ∧ KeptS A km w w' := by
  obtain ⟨K, h1, h2, ⟨_, h3⟩ | ⟨h3, _⟩⟩ := h
  · exact absurd h3 ok
  · exact ⟨h3, K, h1, h2⟩
/-- Numbers laid in a fresh block. -/
theorem RowI.fresh {w : World} {B S km : Nat} {A : Blks} {Mo : Nat} {σ : Sg} (h : SpOk w B S km A Mo σ) (l : List Int) (hl : ∀ x ∈ l, -9223372036854775808 ≤ x ∧ x ≤ 9223372036854775807) (c : Nat) :
    RowI A km (w.alloc (.cells (l.map (Value.int .i64)).toArray 3)) (.slice (some ⟨w.heap.size, 0, none⟩) l.length c) l := by
  refine ⟨⟨_, c, rfl, fun i x hx => ⟨w.heap.size, rfl, ?_, h.sp.ar.foreign_new (below1 w _) (Nat.le_refl _) (by simp), ?_⟩⟩, hl⟩
  · have hb := blk1 w (.cells (l.map (Value.int .i64)).toArray 3)
    rw [cell_of_row _ _ i _ _ (0, 0) hb]
    simp [hx]
  · have := h.sp.fk.1
    omega
/-- checked, of numbers in a fresh block. -/
theorem SpOk.check {w : World} {B S km : Nat} {A : Blks} {Mo : Nat} {σ : Sg} (h : SpOk w B S km A Mo σ) (l : List Int) (hl : ∀ x ∈ l, -9223372036854775808 ≤ x ∧ x ≤ 9223372036854775807) (hn : l.length ≤ 1000) :
    Calls Tryz.prog 47 #[.pointer (some ⟨S, 0, none⟩), .slice (some ⟨w.heap.size, 0, none⟩) l.length l.length, .slice none 0 0] (w.alloc (.cells (l.map (Value.int .i64)).toArray 3)) (fun e w' => ChRes w B S km A Mo σ l [] e w') := by
  have hb := below1 w (.cells (l.map (Value.int .i64)).toArray 3)
  refine (checked_any (h.below hb) _ _ l [] (RowI.fresh h l hl _) (RowI.nil _ _ _) hn (by simp)).mono ?_
  rintro e w' ⟨K, h1, h2, h3⟩
  exact ⟨K, h1, (h.kept hb).trans h2, h3⟩
section
variable {w : World} {B S km : Nat} {A : Blks} {Mo : Nat} {σ : Sg}
set_option maxRecDepth 100000
set_option maxHeartbeats 1000000
theorem two_yes (h : SpOk w B S km A Mo σ) {fid : FuncId} {ts cs : Array Value} {Post : World → Ending → World → Prop} (hf : ∀ (r : Ending) (W W' : World), Post W r W' → ∃ q c : Int, r = .returned (.tuple #[.int .i64 q, .int .i64 c]))
    (en : ∀ (args : Array Value) (w : World), (callFunc fid args).run Tryz.prog w = .ok (.enter fid args) w) (x y : Int) (hx : -9223372036854775808 ≤ x ∧ x ≤ 9223372036854775807) (hy : -9223372036854775808 ≤ y ∧ y ≤ 9223372036854775807) (ok : AllNum σ [x, y] [])
    (hcall : ∀ (K : List (Value × Value)) (W : World), SpOk W B S km A Mo (σ.know K) → KeptS A km w W → Calls Tryz.prog fid (ts ++ (#[.int .i64 x, .int .i64 y] ++ cs)) W (Post W)) :
    Calls Tryz.prog 42 #[.pointer (some ⟨S, 0, none⟩), .int .i64 x, .int .i64 y, .func (.func fid) ts cs] w fun e w' => ∃ (K : List (Value × Value)) (W : World), SpOk W B S km A Mo (σ.know K) ∧ KeptS A km w W ∧ Post W e w' := by
  have hck := h.check [x, y] (by simp; exact ⟨hx, hy⟩) (by simp)
  have hck : Calls Tryz.prog 47 #[.pointer (some ⟨S, 0, none⟩), .slice (some ⟨w.heap.size, 0, none⟩) 2 2, .slice none 0 0] (w.alloc (.cells #[.int .i64 x, .int .i64 y] 3)) (fun e w' => ChRes w B S km A Mo σ [x, y] [] e w') := hck
  have HCK := Lib.hid hck
  have HCALL := Lib.hid hcall
  have HF := Lib.hid hf
  clear hck hcall hf h hx hy
  go_enter Tryz.func42, Tryz.ntmps42
  go_wp2_with ((with_reducible refine HCK.out.mono ?_); rintro e W2 hr; obtain ⟨he, K, hs2, hk2⟩ := hr.yes ok; subst he; have HS2 := Lib.hid hs2; have HK2 := Lib.hid hk2; clear hr hs2 hk2)
  refine (HCALL.out K W2 HS2.out HK2.out).mono ?_
  rintro e W3 hp
  have HP := Lib.hid hp
  obtain ⟨q, c, rfl⟩ := HF.out _ _ _ hp
  clear hp
  go_wp2
  go_ret2
  exact ⟨K, W2, HS2.out, HK2.out, HP.out⟩
theorem two_no (h : SpOk w B S km A Mo σ) {fv : Value} (x y : Int) (hx : -9223372036854775808 ≤ x ∧ x ≤ 9223372036854775807) (hy : -9223372036854775808 ≤ y ∧ y ≤ 9223372036854775807) (ok : ¬ AllNum σ [x, y] []) :
    Calls Tryz.prog 42 #[.pointer (some ⟨S, 0, none⟩), .int .i64 x, .int .i64 y, fv] w fun e w' => e = .returned (.tuple #[.int .i64 0, .int .i64 1]) ∧ ∃ K, SpOk w' B S km A Mo (σ.know K) ∧ KeptS A km w w' := by
  have hck := h.check [x, y] (by simp; exact ⟨hx, hy⟩) (by simp)
  have hck : Calls Tryz.prog 47 #[.pointer (some ⟨S, 0, none⟩), .slice (some ⟨w.heap.size, 0, none⟩) 2 2, .slice none 0 0] (w.alloc (.cells #[.int .i64 x, .int .i64 y] 3)) (fun e w' => ChRes w B S km A Mo σ [x, y] [] e w') := hck
  have HCK := Lib.hid hck
  clear hck h hx hy
  go_enter Tryz.func42, Tryz.ntmps42
  go_wp2_with ((with_reducible refine HCK.out.mono ?_); rintro e W2 hr; obtain ⟨he, hs2⟩ := hr.no ok; subst he; have HS2 := Lib.hid hs2; clear hr hs2)
  go_ret2
  exact ⟨rfl, HS2.out⟩
/-- What a call on a space comes to that refuses its numbers. -/
def SpNo (w : World) (B S km : Nat) (A : Blks) (Mo : Nat) (σ : Sg) (e : Ending) (w' : World) : Prop := e = .returned (.tuple #[.int .i64 0, .int .i64 1]) ∧ ∃ K, SpOk w' B S km A Mo (σ.know K) ∧ KeptS A km w w'
theorem SpRes.known {w W w' : World} {F : Fun} {k m : Nat} {e : Ending} {K : List (Value × Value)} (h : SpRes W B S km A Mo (σ.know K) F k m e w') (hk : KeptS A km w W) : SpRes w B S km A Mo σ F k m e w' := by
  have := h.after (To.know σ K) hk
  simpa using this
theorem allOk2 {f g : Nat} {F G : Fun} (hf : Den σ f F) (hg : Den σ g G) (sf : SetF F) (sg : SetF G) : AllNum σ [(f : Int), (g : Int)] [] := ⟨by simp, by
  intro x hx
  simp at hx
  rcases hx with rfl | rfl
  · exact hf.setOk sf
  · exact hg.setOk sg⟩
theorem relAnd_yes (h : SpOk w B S km A Mo σ) {f g : Nat} {F G : Fun} (hf : Den σ f F) (hg : Den σ g G) (sf : SetF F) (sg : SetF G) {a b : Nat} (hgr : Grow σ.N σ.H (fun s => F s && G s) a b) (hl : σ.N.length + a ≤ 2147483647) :
    Calls Tryz.prog 15 #[.pointer (some ⟨S, 0, none⟩), .int .i64 f, .int .i64 g] w (SpRes w B S km A Mo σ (fun s => F s && G s) a b) := by
  have hfl := hf.lt64 h.ok
  have hgl := hg.lt64 h.ok
  have c0 := h.sp.c0
  have htwo := Lib.hid (two_yes (fid := 43) (ts := #[.pointer (some ⟨A.a, 0, none⟩)]) (cs := #[]) (Post := fun W e w' => ∃ K, SpRes W B S km A Mo (σ.know K) (fun s => F s && G s) a b e w') h (fun r W W' ⟨K, hr⟩ => hr.form) (fun _ _ => by go_simp) f g (by omega) (by omega) (allOk2 hf hg sf sg)
    (fun K W hs _ => (hs.and (hf.known K) (hg.known K) hgr hl).mono fun e w' hr => ⟨K, hr⟩))
  clear h hf hg sf sg hgr hl
  go_enter Tryz.func15, Tryz.ntmps15
  go_wp2_with ((with_reducible refine htwo.out.mono ?_); rintro e W2 ⟨K, W, hs, hk, K2, hr⟩; have HR := Lib.hid (hr.known hk); obtain ⟨q, c, rfl⟩ := hr.form; clear hs hk hr)
  go_ret2
  exact HR.out
end
end Go.Proofs.YtdjikiakcfbklaaGreat

/-
  What a space makes of sets and relations (written by wip/gen/genrf1.py).
-/
namespace Go.Proofs.YtdjikiakcfbklaaGreat
open Go Go.RowKit Go.ChangeMaps Go.MapKept Go.Maps Go.Lib Go.Sort

section
variable {w : World} {B S km : Nat} {A : Blks} {Mo : Nat} {σ : Sg}
set_option maxRecDepth 100000
set_option maxHeartbeats 1000000
def I64 (x : Int) : Prop := -9223372036854775808 ≤ x ∧ x ≤ 9223372036854775807
theorem SpOk.check1 (h : SpOk w B S km A Mo σ) (x : Int) (hx : I64 x) :
    Calls Tryz.prog 47 #[.pointer (some ⟨S, 0, none⟩), .slice (some ⟨w.heap.size, 0, none⟩) 1 1, .slice none 0 0] (w.alloc (.cells #[.int .i64 x] 3)) (fun e w' => ChRes w B S km A Mo σ [x] [] e w') := h.check [x] (by simp; exact hx) (by simp)
/-- checked, of relations. -/
theorem SpOk.checkN (h : SpOk w B S km A Mo σ) (l : List Int) (hl : ∀ x ∈ l, I64 x) (hn : l.length ≤ 1000) :
    Calls Tryz.prog 47 #[.pointer (some ⟨S, 0, none⟩), .slice none 0 0, .slice (some ⟨w.heap.size, 0, none⟩) l.length l.length] (w.alloc (.cells (l.map (Value.int .i64)).toArray 3)) (fun e w' => ChRes w B S km A Mo σ [] l e w') := by
  have hb := below1 w (.cells (l.map (Value.int .i64)).toArray 3)
  refine (checked_any (h.below hb) _ _ [] l (RowI.nil _ _ _) (RowI.fresh h l hl _) (by simp) hn).mono ?_
  rintro e w' ⟨K, h1, h2, h3⟩
  exact ⟨K, h1, (h.kept hb).trans h2, h3⟩
theorem SpOk.checkN1 (h : SpOk w B S km A Mo σ) (x : Int) (hx : I64 x) :
    Calls Tryz.prog 47 #[.pointer (some ⟨S, 0, none⟩), .slice none 0 0, .slice (some ⟨w.heap.size, 0, none⟩) 1 1] (w.alloc (.cells #[.int .i64 x] 3)) (fun e w' => ChRes w B S km A Mo σ [] [x] e w') := h.checkN [x] (by simp; exact hx) (by simp)
theorem SpOk.checkN2 (h : SpOk w B S km A Mo σ) (x y : Int) (hx : I64 x) (hy : I64 y) :
    Calls Tryz.prog 47 #[.pointer (some ⟨S, 0, none⟩), .slice none 0 0, .slice (some ⟨w.heap.size, 0, none⟩) 2 2] (w.alloc (.cells #[.int .i64 x, .int .i64 y] 3)) (fun e w' => ChRes w B S km A Mo σ [] [x, y] e w') := h.checkN [x, y] (by simp; exact ⟨hx, hy⟩) (by simp)
/-- checked, of a set and a relation. -/
theorem SpOk.checkB (h : SpOk w B S km A Mo σ) (x y : Int) (hx : I64 x) (hy : I64 y) :
    Calls Tryz.prog 47 #[.pointer (some ⟨S, 0, none⟩), .slice (some ⟨w.heap.size, 0, none⟩) 1 1, .slice (some ⟨w.heap.size + 1, 0, none⟩) 1 1] ((w.alloc (.cells #[.int .i64 x] 3)).alloc (.cells #[.int .i64 y] 3)) (fun e w' => ChRes w B S km A Mo σ [x] [y] e w') := by
  have hb := below1 w (.cells #[.int .i64 x] 3)
  have h1 := h.below hb
  have hb2 := below1 (w.alloc (.cells #[.int .i64 x] 3)) (.cells #[.int .i64 y] 3)
  have hs : (w.alloc (.cells #[.int .i64 x] 3)).heap.size = w.heap.size + 1 := by simp
  have r1 : RowI A km (w.alloc (.cells #[.int .i64 x] 3)) (.slice (some ⟨w.heap.size, 0, none⟩) 1 1) [x] := RowI.fresh h [x] (by simp; exact hx) 1
  have r2 : RowI A km ((w.alloc (.cells #[.int .i64 x] 3)).alloc (.cells #[.int .i64 y] 3)) (.slice (some ⟨(w.alloc (.cells #[.int .i64 x] 3)).heap.size, 0, none⟩) 1 1) [y] := RowI.fresh h1 [y] (by simp; exact hy) 1
  rw [hs] at r2
  refine (checked_any (h1.below hb2) _ _ [x] [y] (r1.kept (h1.kept hb2)) r2 (by simp) (by simp)).mono ?_
  rintro e w' ⟨K, h3, h4, h5⟩
  exact ⟨K, h3, (h.kept hb).trans ((h1.kept hb2).trans h4), h5⟩
theorem allOk1 {f : Nat} {F : Fun} (hf : Den σ f F) (sf : SetF F) : AllNum σ [(f : Int)] [] := ⟨by simp, by
  intro x hx
  simp at hx
  subst hx
  exact hf.setOk sf⟩
theorem allOkB {r a : Nat} {R F : Fun} (hr : Den σ r R) (ha : Den σ a F) (sa : SetF F) : AllNum σ [(a : Int)] [(r : Int)] := ⟨by
  intro x hx
  simp at hx
  subst hx
  exact hr.nodeOk, by
  intro x hx
  simp at hx
  subst hx
  exact ha.setOk sa⟩
theorem allOkN1 {r : Nat} {R : Fun} (hr : Den σ r R) : AllNum σ [] [(r : Int)] := ⟨by
  intro x hx
  simp at hx
  subst hx
  exact hr.nodeOk, by simp⟩
theorem allOkN2 {r q : Nat} {R Q : Fun} (hr : Den σ r R) (hq : Den σ q Q) : AllNum σ [] [(r : Int), (q : Int)] := ⟨by
  intro x hx
  simp at hx
  rcases hx with rfl | rfl
  · exact hr.nodeOk
  · exact hq.nodeOk, by simp⟩
theorem relAnd_no (h : SpOk w B S km A Mo σ) (x y : Int) (hx : I64 x) (hy : I64 y) (ok : ¬ AllNum σ [x, y] []) :
    Calls Tryz.prog 15 #[.pointer (some ⟨S, 0, none⟩), .int .i64 x, .int .i64 y] w (SpNo w B S km A Mo σ) := by
  have c0 := h.sp.c0
  have HCK := Lib.hid (fun fv => two_no (fv := fv) h x y hx hy ok)
  clear h
  go_enter Tryz.func15, Tryz.ntmps15
  go_wp2_with ((with_reducible refine (HCK.out _).mono ?_); rintro e W2 ⟨rfl, hs2⟩; have HS2 := Lib.hid hs2; clear hs2)
  go_ret2
  exact ⟨rfl, HS2.out⟩
theorem relOr_no (h : SpOk w B S km A Mo σ) (x y : Int) (hx : I64 x) (hy : I64 y) (ok : ¬ AllNum σ [x, y] []) :
    Calls Tryz.prog 16 #[.pointer (some ⟨S, 0, none⟩), .int .i64 x, .int .i64 y] w (SpNo w B S km A Mo σ) := by
  have c0 := h.sp.c0
  have HCK := Lib.hid (fun fv => two_no (fv := fv) h x y hx hy ok)
  clear h
  go_enter Tryz.func16, Tryz.ntmps16
  go_wp2_with ((with_reducible refine (HCK.out _).mono ?_); rintro e W2 ⟨rfl, hs2⟩; have HS2 := Lib.hid hs2; clear hs2)
  go_ret2
  exact ⟨rfl, HS2.out⟩
theorem relLess_no (h : SpOk w B S km A Mo σ) (x y : Int) (hx : I64 x) (hy : I64 y) (ok : ¬ AllNum σ [x, y] []) :
    Calls Tryz.prog 17 #[.pointer (some ⟨S, 0, none⟩), .int .i64 x, .int .i64 y] w (SpNo w B S km A Mo σ) := by
  have hb := below1 w (.cells #[.pointer (some ⟨S, 0, none⟩)] 41)
  have kb := cell0 (blk1 w (.cells #[.pointer (some ⟨S, 0, none⟩)] 41))
  have HK := Lib.hid (h.kept hb)
  have HCK := Lib.hid (fun fv => two_no (fv := fv) (h.below hb) x y hx hy ok)
  clear h hb
  go_enter Tryz.func17, Tryz.ntmps17
  go_wp2_with ((with_reducible refine (HCK.out _).mono ?_); rintro e W2 ⟨rfl, K, hs2, hk2⟩; have HS2 := Lib.hid hs2; have HK2 := Lib.hid hk2; clear hs2 hk2)
  go_ret2
  exact ⟨rfl, K, HS2.out, HK.out.trans HK2.out⟩
theorem relOr_yes (h : SpOk w B S km A Mo σ) {f g : Nat} {F G : Fun} (hf : Den σ f F) (hg : Den σ g G) (sf : SetF F) (sg : SetF G) {a b : Nat} (hgr : Grow σ.N σ.H (fun s => F s || G s) a b) (hl : σ.N.length + a ≤ 2147483647) :
    Calls Tryz.prog 16 #[.pointer (some ⟨S, 0, none⟩), .int .i64 f, .int .i64 g] w (SpRes w B S km A Mo σ (fun s => F s || G s) a b) := by
  have hfl := hf.lt64 h.ok
  have hgl := hg.lt64 h.ok
  have c0 := h.sp.c0
  have htwo := Lib.hid (two_yes (fid := 44) (ts := #[.pointer (some ⟨A.a, 0, none⟩)]) (cs := #[]) (Post := fun W e w' => ∃ K, SpRes W B S km A Mo (σ.know K) (fun s => F s || G s) a b e w') h (fun r W W' ⟨K, hr⟩ => hr.form) (fun _ _ => by go_simp) f g (by omega) (by omega) (allOk2 hf hg sf sg)
    (fun K W hs _ => (hs.or (hf.known K) (hg.known K) hgr hl).mono fun e w' hr => ⟨K, hr⟩))
  clear h hf hg sf sg hgr hl
  go_enter Tryz.func16, Tryz.ntmps16
  go_wp2_with ((with_reducible refine htwo.out.mono ?_); rintro e W2 ⟨K, W, hs, hk, K2, hr⟩; have HR := Lib.hid (hr.known hk); obtain ⟨q, c, rfl⟩ := hr.form; clear hs hk hr)
  go_ret2
  exact HR.out
theorem less1 (h : SpOk w B S km A Mo σ) {f g : Nat} {F G : Fun} (hf : Den σ f F) (hg : Den σ g G) {bx : Nat} (hb : w.cell? ⟨bx, 0, none⟩ = some (.pointer (some ⟨S, 0, none⟩))) {a b : Nat} (hgr : Grow σ.N σ.H (fun s => F s && !G s) a b) (hl : σ.N.length + a ≤ 2147483647) :
    Calls Tryz.prog 45 #[.int .i64 f, .int .i64 g, .pointer (some ⟨bx, 0, none⟩)] w (SpRes w B S km A Mo σ (fun s => F s && !G s) a b) := by
  have c0 := h.sp.c0
  have e : (fun s => F s && !G s) = fun s => if G s then false else F s := funext fun s => by cases F s <;> cases G s <;> rfl
  rw [e] at hgr ⊢
  have hite := Lib.hid (show Calls Tryz.prog 46 #[.pointer (some ⟨A.a, 0, none⟩), .int .i64 g, .int .i64 0, .int .i64 f] w (SpRes w B S km A Mo σ (fun s => if G s then false else F s) a b) from h.ite hg (Den.zero h.ok) hf hgr hl)
  clear h hf hg hgr hl e
  go_enter Tryz.func45, Tryz.ntmps45
  go_wp2_with ((with_reducible refine hite.out.mono ?_); rintro e W2 hr; have HR := Lib.hid hr; obtain ⟨q, c, rfl⟩ := hr.form; clear hr)
  go_ret2
  exact HR.out
theorem relLess_yes (h : SpOk w B S km A Mo σ) {f g : Nat} {F G : Fun} (hf : Den σ f F) (hg : Den σ g G) (sf : SetF F) (sg : SetF G) {a b : Nat} (hgr : Grow σ.N σ.H (fun s => F s && !G s) a b) (hl : σ.N.length + a ≤ 2147483647) :
    Calls Tryz.prog 17 #[.pointer (some ⟨S, 0, none⟩), .int .i64 f, .int .i64 g] w (SpRes w B S km A Mo σ (fun s => F s && !G s) a b) := by
  have hfl := hf.lt64 h.ok
  have hgl := hg.lt64 h.ok
  have hb := below1 w (.cells #[.pointer (some ⟨S, 0, none⟩)] 41)
  have kb := blk1 w (.cells #[.pointer (some ⟨S, 0, none⟩)] 41)
  have cb := cell0 kb
  have hkb := h.kept hb
  have hfo := h.sp.ar.foreign_new hb (Nat.le_refl _) (lt_of_block kb)
  have hfk := h.sp.fk.1
  have htwo := Lib.hid (two_yes (fid := 45) (ts := #[]) (cs := #[.pointer (some ⟨w.heap.size, 0, none⟩)]) (Post := fun W e w' => ∃ K, SpRes W B S km A Mo (σ.know K) (fun s => F s && !G s) a b e w') (h.below hb) (fun r W W' ⟨K, hr⟩ => hr.form) (fun _ _ => by go_simp) f g (by omega) (by omega) (allOk2 hf hg sf sg)
    (fun K W hs hk => (less1 hs (hf.known K) (hg.known K) (cell0 ((hk.same _ hfo (by omega)).1.trans kb)) hgr hl).mono fun e w' hr => ⟨K, hr⟩))
  have HK := Lib.hid hkb
  clear h hf hg sf sg hgr hl hb kb hkb hfo hfk
  go_enter Tryz.func17, Tryz.ntmps17
  go_wp2_with ((with_reducible refine htwo.out.mono ?_); rintro e W2 ⟨K, W, hs, hk, K2, hr⟩; have HR := Lib.hid (hr.known (HK.out.trans hk)); obtain ⟨q, c, rfl⟩ := hr.form; clear hs hk hr)
  go_ret2
  exact HR.out
theorem relNot_yes (h : SpOk w B S km A Mo σ) {f : Nat} {F : Fun} (hf : Den σ f F) (sf : SetF F) {a b : Nat} (hgr : Grow σ.N σ.H (fun s => !F s) a b) (hl : σ.N.length + a ≤ 2147483647) :
    Calls Tryz.prog 18 #[.pointer (some ⟨S, 0, none⟩), .int .i64 f] w (SpRes w B S km A Mo σ (fun s => !F s) a b) := by
  have hfl := hf.lt64 h.ok
  have HCK := Lib.hid (h.check1 f (by unfold I64; omega))
  have HOP := Lib.hid (fun (K : List (Value × Value)) (W : World) (hs : SpOk W B S km A Mo (σ.know K)) => hs.not (hf.known K) hgr hl)
  have OK := Lib.hid (allOk1 hf sf)
  clear h hf sf hgr hl
  go_enter Tryz.func18, Tryz.ntmps18
  go_upto_region 2 with ((with_reducible refine HCK.out.mono ?_); rintro e W2 hr; obtain ⟨he, K, hs2, hk2⟩ := hr.yes OK.out; subst he; have HS2 := Lib.hid hs2; have HK2 := Lib.hid hk2; clear hr hs2 hk2)
  have c0 := HS2.out.sp.c0
  have HO := Lib.hid (HOP.out K W2 HS2.out)
  clear HOP
  go_wp2_with ((with_reducible refine HO.out.mono ?_); rintro e W3 hr; have HR := Lib.hid (hr.known HK2.out); obtain ⟨q, c, rfl⟩ := hr.form; clear hr)
  go_ret2
  exact HR.out
theorem relNot_no (h : SpOk w B S km A Mo σ) (x : Int) (hx : I64 x) (ok : ¬ AllNum σ [x] []) :
    Calls Tryz.prog 18 #[.pointer (some ⟨S, 0, none⟩), .int .i64 x] w (SpNo w B S km A Mo σ) := by
  have HCK := Lib.hid (h.check1 x hx)
  clear h
  go_enter Tryz.func18, Tryz.ntmps18
  go_wp2_with ((with_reducible refine HCK.out.mono ?_); rintro e W2 hr; obtain ⟨he, hs2⟩ := hr.no ok; subst he; have HS2 := Lib.hid hs2; clear hr hs2)
  go_ret2
  exact ⟨rfl, HS2.out⟩
theorem relWhere_yes (h : SpOk w B S km A Mo σ) {r q : Nat} {R F : Fun} (hr : Den σ r R) (ha : Den σ q F) (sa : SetF F) {a b : Nat} (hgr : Grow σ.N σ.H (fun s => R s && F s) a b) (hl : σ.N.length + a ≤ 2147483647) :
    Calls Tryz.prog 22 #[.pointer (some ⟨S, 0, none⟩), .int .i64 r, .int .i64 q] w (SpRes w B S km A Mo σ (fun s => R s && F s) a b) := by
  have hfl := hr.lt64 h.ok
  have hgl := ha.lt64 h.ok
  have HCK := Lib.hid (h.checkB q r (by unfold I64; omega) (by unfold I64; omega))
  have HOP := Lib.hid (fun (K : List (Value × Value)) (W : World) (hs : SpOk W B S km A Mo (σ.know K)) => hs.and (hr.known K) (ha.known K) hgr hl)
  have OK := Lib.hid (allOkB hr ha sa)
  clear h hr ha sa hgr hl
  go_enter Tryz.func22, Tryz.ntmps22
  go_upto_region 2 with ((with_reducible refine HCK.out.mono ?_); rintro e W2 hr; obtain ⟨he, K, hs2, hk2⟩ := hr.yes OK.out; subst he; have HS2 := Lib.hid hs2; have HK2 := Lib.hid hk2; clear hr hs2 hk2)
  have c0 := HS2.out.sp.c0
  have HO := Lib.hid (HOP.out K W2 HS2.out)
  clear HOP
  go_wp2_with ((with_reducible refine HO.out.mono ?_); rintro e W3 hr; have HR := Lib.hid (hr.known HK2.out); obtain ⟨q, c, rfl⟩ := hr.form; clear hr)
  go_ret2
  exact HR.out
theorem relWhere_no (h : SpOk w B S km A Mo σ) (x y : Int) (hx : I64 x) (hy : I64 y) (ok : ¬ AllNum σ [y] [x]) :
    Calls Tryz.prog 22 #[.pointer (some ⟨S, 0, none⟩), .int .i64 x, .int .i64 y] w (SpNo w B S km A Mo σ) := by
  have HCK := Lib.hid (h.checkB y x hy hx)
  clear h
  go_enter Tryz.func22, Tryz.ntmps22
  go_wp2_with ((with_reducible refine HCK.out.mono ?_); rintro e W2 hr; obtain ⟨he, hs2⟩ := hr.no ok; subst he; have HS2 := Lib.hid hs2; clear hr hs2)
  go_ret2
  exact ⟨rfl, HS2.out⟩
theorem relEither_yes (h : SpOk w B S km A Mo σ) {r q : Nat} {R F : Fun} (hr : Den σ r R) (ha : Den σ q F) {a b : Nat} (hgr : Grow σ.N σ.H (fun s => R s || F s) a b) (hl : σ.N.length + a ≤ 2147483647) :
    Calls Tryz.prog 23 #[.pointer (some ⟨S, 0, none⟩), .int .i64 r, .int .i64 q] w (SpRes w B S km A Mo σ (fun s => R s || F s) a b) := by
  have hfl := hr.lt64 h.ok
  have hgl := ha.lt64 h.ok
  have HCK := Lib.hid (h.checkN2 r q (by unfold I64; omega) (by unfold I64; omega))
  have HOP := Lib.hid (fun (K : List (Value × Value)) (W : World) (hs : SpOk W B S km A Mo (σ.know K)) => hs.or (hr.known K) (ha.known K) hgr hl)
  have OK := Lib.hid (allOkN2 hr ha)
  clear h hr ha hgr hl
  go_enter Tryz.func23, Tryz.ntmps23
  go_upto_region 2 with ((with_reducible refine HCK.out.mono ?_); rintro e W2 hr; obtain ⟨he, K, hs2, hk2⟩ := hr.yes OK.out; subst he; have HS2 := Lib.hid hs2; have HK2 := Lib.hid hk2; clear hr hs2 hk2)
  have c0 := HS2.out.sp.c0
  have HO := Lib.hid (HOP.out K W2 HS2.out)
  clear HOP
  go_wp2_with ((with_reducible refine HO.out.mono ?_); rintro e W3 hr; have HR := Lib.hid (hr.known HK2.out); obtain ⟨q, c, rfl⟩ := hr.form; clear hr)
  go_ret2
  exact HR.out
theorem relEither_no (h : SpOk w B S km A Mo σ) (x y : Int) (hx : I64 x) (hy : I64 y) (ok : ¬ AllNum σ [] [x, y]) :
    Calls Tryz.prog 23 #[.pointer (some ⟨S, 0, none⟩), .int .i64 x, .int .i64 y] w (SpNo w B S km A Mo σ) := by
  have HCK := Lib.hid (h.checkN2 x y hx hy)
  clear h
  go_enter Tryz.func23, Tryz.ntmps23
  go_wp2_with ((with_reducible refine HCK.out.mono ?_); rintro e W2 hr; obtain ⟨he, hs2⟩ := hr.no ok; subst he; have HS2 := Lib.hid hs2; clear hr hs2)
  go_ret2
  exact ⟨rfl, HS2.out⟩
end
end Go.Proofs.YtdjikiakcfbklaaGreat

/-
  A rule's set (written by wip/gen/genfr2.py).
-/
namespace Go.Proofs.YtdjikiakcfbklaaGreat
open Go Go.RowKit Go.ChangeMaps Go.MapKept Go.Maps Go.Lib Go.Sort

/-- The first k of a rule's asks. -/
def ruleK (r : RuleV) : Nat → Fun
  | 0 => fun _ => true
  | k + 1 => fun s => ruleK r k s && askF r k s
def asksN (r : RuleV) : Nat := if 0 ≤ r.proto then 5 else 4
def ruleF (r : RuleV) : Fun := ruleK r (asksN r)
theorem SetF.lit {F : Fun} {x : Nat} (hx : x % 2 = 0) (b : Bool) (h : SetF F) : SetF (litF x b F) := fun v hv s c => by
  unfold litF
  rw [put_other (by omega), h v hv]
theorem SetF.step {F : Fun} {x : Nat} (hx : x % 2 = 0) (up b : Bool) (h : SetF F) : SetF (stepF x up b F) := fun v hv s c => by
  unfold stepF
  rw [put_other (by omega), h v hv]
theorem SetF.const (b : Bool) : SetF (fun _ => b) := fun v _ => Free.const b v
theorem SetF.op2 {F G : Fun} (o : Bool → Bool → Bool) (a : SetF F) (b : SetF G) : SetF (fun s => o (F s) (G s)) := fun v hv => (a v hv).op2 o (b v hv)
theorem SetF.op1 {F : Fun} (o : Bool → Bool) (a : SetF F) : SetF (fun s => o (F s)) := fun v hv => (a v hv).op1 o
theorem bitsF_set (a n v : Nat) : ∀ m, SetF (bitsF a 0 n v m)
  | 0 => SetF.const true
  | m + 1 => SetF.lit (by omega) _ (bitsF_set a n v m)
theorem reachF_set (a n v : Nat) (up : Bool) : ∀ m, SetF (reachF a n v up m)
  | 0 => SetF.const true
  | m + 1 => SetF.step (by omega) _ _ (reachF_set a n v up m)
theorem spanF_set (a n lo hi : Nat) : SetF (spanF a n lo hi) := (reachF_set a n lo true n).op2 (fun x y => x && y) (reachF_set a n hi false n)
theorem askF_set (r : RuleV) : ∀ k, SetF (askF r k)
  | 0 => bitsF_set _ _ _ _
  | 1 => bitsF_set _ _ _ _
  | 2 => spanF_set _ _ _ _
  | 3 => spanF_set _ _ _ _
  | _ + 4 => spanF_set _ _ _ _
theorem ruleK_set (r : RuleV) : ∀ k, SetF (ruleK r k)
  | 0 => SetF.const true
  | k + 1 => (ruleK_set r k).op2 (fun x y => x && y) (askF_set r k)
theorem Tryz.infoFn0 : (Tryz.prog.info? 45).map (fun i => (i.zero, i.size, i.bytes)) = some (some .nilFunc, 1, 8) := by kernel_rfl
def askV (sb rb : Nat) : Nat → Value
  | 0 => .func (.func 147) #[] #[.pointer (some ⟨sb, 0, none⟩), .pointer (some ⟨rb, 0, none⟩)]
  | 1 => .func (.func 148) #[] #[.pointer (some ⟨sb, 0, none⟩), .pointer (some ⟨rb, 0, none⟩)]
  | 2 => .func (.func 149) #[] #[.pointer (some ⟨sb, 0, none⟩), .pointer (some ⟨rb, 0, none⟩)]
  | 3 => .func (.func 150) #[] #[.pointer (some ⟨sb, 0, none⟩), .pointer (some ⟨rb, 0, none⟩)]
  | _ => .func (.func 151) #[] #[.pointer (some ⟨sb, 0, none⟩), .pointer (some ⟨rb, 0, none⟩)]
section
variable {w : World} {B S km : Nat} {A : Blks} {Mo : Nat} {σ : Sg}
set_option maxRecDepth 100000
set_option maxHeartbeats 4000000
/-- An ask, whichever it is. -/
theorem ask_yes (r : RuleV) (ok : RuleOk r) (sb rb k : Nat) (hk : k < asksN r) : ∃ fid, askV sb rb k = .func (.func fid) #[] #[.pointer (some ⟨sb, 0, none⟩), .pointer (some ⟨rb, 0, none⟩)] ∧ (∀ (args : Array Value) (w : World), (callFunc fid args).run Tryz.prog w = .ok (.enter fid args) w) ∧
    ∀ (w : World) (τ : Sg), SpOk w B S km A Mo τ → AskBox w S sb rb r → τ.N.length + 1216 ≤ 2147483647 → Calls Tryz.prog fid #[.pointer (some ⟨sb, 0, none⟩), .pointer (some ⟨rb, 0, none⟩)] w (SpRes w B S km A Mo τ (askF r k) 1216 1216) := by
  have h5 : asksN r ≤ 5 := by unfold asksN; split <;> omega
  obtain rfl | rfl | rfl | rfl | rfl : k = 0 ∨ k = 1 ∨ k = 2 ∨ k = 3 ∨ k = 4 := by omega
  · exact ⟨_, rfl, fun _ _ => by go_simp, fun w τ h hb hl => ask0_yes h r ok sb rb hb hl⟩
  · exact ⟨_, rfl, fun _ _ => by go_simp, fun w τ h hb hl => ask1_yes h r ok sb rb hb hl⟩
  · exact ⟨_, rfl, fun _ _ => by go_simp, fun w τ h hb hl => ask2_yes h r ok sb rb hb hl⟩
  · exact ⟨_, rfl, fun _ _ => by go_simp, fun w τ h hb hl => ask3_yes h r ok sb rb hb hl⟩
  · have hp : 0 ≤ r.proto := by unfold asksN at hk; split at hk <;> omega
    exact ⟨_, rfl, fun _ _ => by go_simp, fun w τ h hb hl => ask4_yes h r ok hp sb rb hb hl⟩
theorem rule_yes (h : SpOk w B S km A Mo σ) (r : RuleV) (ok : RuleOk r) (K : Nat) (hK : ∀ k, k ≤ 5 → Wid (ruleK r k) K) (hl : σ.N.length + 5 * (1216 + K) ≤ 2147483647) :
    Calls Tryz.prog 131 #[.pointer (some ⟨S, 0, none⟩), .agg #[.bool r.permit, .int .i64 r.proto, .int .u32 r.sa, .int .i64 r.sn, .int .u32 r.da, .int .i64 r.dn, .int .u32 r.sl, .int .u32 r.sh, .int .u32 r.dl, .int .u32 r.dh]] w
      (SpRes w B S km A Mo σ (ruleF r) (5 * (1216 + K)) (5 * (1216 + K))) := by
  obtain ⟨i0, hif, hz0, hz1, hz2⟩ := info_parts Tryz.infoFn0
  have hW : (w.alloc (.cells #[.pointer (some ⟨S, 0, none⟩)] 41)).alloc (.cells #[.bool r.permit, .int .i64 r.proto, .int .u32 r.sa, .int .i64 r.sn, .int .u32 r.da, .int .i64 r.dn, .int .u32 r.sl, .int .u32 r.sh, .int .u32 r.dl, .int .u32 r.dh] 74) = (w.alloc (.cells #[.pointer (some ⟨S, 0, none⟩)] 41)).alloc (.cells #[.bool r.permit, .int .i64 r.proto, .int .u32 r.sa, .int .i64 r.sn, .int .u32 r.da, .int .i64 r.dn, .int .u32 r.sl, .int .u32 r.sh, .int .u32 r.dl, .int .u32 r.dh] 74) := rfl
  have hbw := below2 w (.cells #[.pointer (some ⟨S, 0, none⟩)] 41) (.cells #[.bool r.permit, .int .i64 r.proto, .int .u32 r.sa, .int .i64 r.sn, .int .u32 r.da, .int .i64 r.dn, .int .u32 r.sl, .int .u32 r.sh, .int .u32 r.dl, .int .u32 r.dh] 74)
  have hs1 : (w.alloc (.cells #[.pointer (some ⟨S, 0, none⟩)] 41)).heap.size = w.heap.size + 1 := by simp
  have hks := blk_below (below1 (w.alloc (.cells #[.pointer (some ⟨S, 0, none⟩)] 41)) (.cells #[.bool r.permit, .int .i64 r.proto, .int .u32 r.sa, .int .i64 r.sn, .int .u32 r.da, .int .i64 r.dn, .int .u32 r.sl, .int .u32 r.sh, .int .u32 r.dl, .int .u32 r.dh] 74)) (blk1 w (.cells #[.pointer (some ⟨S, 0, none⟩)] 41))
  have hkr := blk1 (w.alloc (.cells #[.pointer (some ⟨S, 0, none⟩)] 41)) (.cells #[.bool r.permit, .int .i64 r.proto, .int .u32 r.sa, .int .i64 r.sn, .int .u32 r.da, .int .i64 r.dn, .int .u32 r.sl, .int .u32 r.sh, .int .u32 r.dl, .int .u32 r.dh] 74)
  rw [hs1] at hkr
  have HSZ : Hid (((w.alloc (.cells #[.pointer (some ⟨S, 0, none⟩)] 41)).alloc (.cells #[.bool r.permit, .int .i64 r.proto, .int .u32 r.sa, .int .i64 r.sn, .int .u32 r.da, .int .i64 r.dn, .int .u32 r.sl, .int .u32 r.sh, .int .u32 r.dl, .int .u32 r.dh] 74)).heap.size = w.heap.size + 1 + 1) := Lib.hid (by simp)
  have HAB := Lib.hid (show AskBox _ S w.heap.size (w.heap.size + 1) r from ⟨hks, hkr⟩)
  have HF1 := Lib.hid (h.sp.ar.foreign_new hbw (Nat.le_refl _) (lt_of_block hks))
  have HF2 := Lib.hid (h.sp.ar.foreign_new hbw (show w.heap.size ≤ w.heap.size + 1 by omega) (lt_of_block hkr))
  have HNE : Hid (w.heap.size ≠ km ∧ w.heap.size + 1 ≠ km) := Lib.hid (by have := h.sp.fk.1; omega)
  have HS := Lib.hid (h.below hbw)
  have HK := Lib.hid (h.kept hbw)
  have HWK := Lib.hid hK
  have HOK := Lib.hid ok
  have c1 : ((w.alloc (.cells #[.pointer (some ⟨S, 0, none⟩)] 41)).alloc (.cells #[.bool r.permit, .int .i64 r.proto, .int .u32 r.sa, .int .i64 r.sn, .int .u32 r.da, .int .i64 r.dn, .int .u32 r.sl, .int .u32 r.sh, .int .u32 r.dl, .int .u32 r.dh] 74)).cell? ⟨w.heap.size + 1, 1, none⟩ = some (.int .i64 r.proto) := cell_of_row _ _ 1 _ _ (0, 0) hkr
  clear h hbw hks hkr hs1 hK ok hW
  go_enter Tryz.func131, Tryz.ntmps131
  go_upto_region 1 with fail
  generalize (w.alloc (.cells #[.pointer (some ⟨S, 0, none⟩)] 41)).alloc (.cells #[.bool r.permit, .int .i64 r.proto, .int .u32 r.sa, .int .i64 r.sn, .int .u32 r.da, .int .i64 r.dn, .int .u32 r.sl, .int .u32 r.sh, .int .u32 r.dl, .int .u32 r.dh] 74) = w0 at *
  have HROW := Lib.hid (show (w0.alloc (.cells #[askV w.heap.size (w.heap.size + 1) 0, askV w.heap.size (w.heap.size + 1) 1, askV w.heap.size (w.heap.size + 1) 2, askV w.heap.size (w.heap.size + 1) 3] 45)).ownsRow w0.heap.size 45 1 (.slice (some ⟨w0.heap.size, 0, none⟩) 4 4) 4 [askV w.heap.size (w.heap.size + 1) 0, askV w.heap.size (w.heap.size + 1) 1, askV w.heap.size (w.heap.size + 1) 2, askV w.heap.size (w.heap.size + 1) 3] from
    World.ownsRow_lit w0 #[askV w.heap.size (w.heap.size + 1) 0, askV w.heap.size (w.heap.size + 1) 1, askV w.heap.size (w.heap.size + 1) 2, askV w.heap.size (w.heap.size + 1) 3] 4 (Nat.le_refl _) (by unfold maxLen; omega) rfl)
  have HB1 := Lib.hid (below1 w0 (.cells #[askV w.heap.size (w.heap.size + 1) 0, askV w.heap.size (w.heap.size + 1) 1, askV w.heap.size (w.heap.size + 1) 2, askV w.heap.size (w.heap.size + 1) 3] 45))
  have hWV : w0.alloc (.cells #[.func (.func 147) #[] #[.pointer (some ⟨w.heap.size, 0, none⟩), .pointer (some ⟨w.heap.size + 1, 0, none⟩)], .func (.func 148) #[] #[.pointer (some ⟨w.heap.size, 0, none⟩), .pointer (some ⟨w.heap.size + 1, 0, none⟩)], .func (.func 149) #[] #[.pointer (some ⟨w.heap.size, 0, none⟩), .pointer (some ⟨w.heap.size + 1, 0, none⟩)], .func (.func 150) #[] #[.pointer (some ⟨w.heap.size, 0, none⟩), .pointer (some ⟨w.heap.size + 1, 0, none⟩)]] 45) = w0.alloc (.cells #[askV w.heap.size (w.heap.size + 1) 0, askV w.heap.size (w.heap.size + 1) 1, askV w.heap.size (w.heap.size + 1) 2, askV w.heap.size (w.heap.size + 1) 3] 45) := rfl
  go_upto_region 2 with fail
  clear hWV
  generalize w0.alloc (.cells #[askV w.heap.size (w.heap.size + 1) 0, askV w.heap.size (w.heap.size + 1) 1, askV w.heap.size (w.heap.size + 1) 2, askV w.heap.size (w.heap.size + 1) 3] 45) = w1 at *
  have d1 : w1.cell? ⟨w.heap.size + 1, 1, none⟩ = some (.int .i64 r.proto) := cell_of_row _ _ 1 _ _ (0, 0) (blk_below HB1.out HAB.out.r)
  clear c1
  by_cases hp : 0 ≤ r.proto
  · have hpi : r.proto ≥ 0 := hp
    have hne : asksN r = 5 := if_pos hp
    have HN := Lib.hid hne
    have hbs := HB1.out.size
    clear hp hne
    go_upto_region 4 with (at_builtin; refine wpList_push2 (v := .slice (some ⟨w0.heap.size, 0, none⟩) 4 4) rfl _ _ 196 rfl 45 i0 _ 1 8 Tryz.underlying196 hif hz0 hz1 hz2 rfl (by decide) (by decide) [askV w.heap.size (w.heap.size + 1) 4] rfl rfl rfl HROW.out rfl (by intro u hu; simp at hu; subst hu; rfl) (by omega) hbs ?_; intro v2 w2 hown2 hg2 hmv2; obtain ⟨A2, c2, hv2, hA2⟩ := owns_form hown2; subst hv2; have HO2 := Lib.hid hown2; have HA2 := Lib.hid hA2; have HB2 := Lib.hid (below_grown HB1.out hbs hg2 (fun g hg => by have : some w0.heap.size = some g := hg; injection this; omega)); clear hown2 hg2 hmv2 hA2)
    clear HROW hbs
    have HS2 := Lib.hid (HS.out.below HB2.out)
    have HK2 := Lib.hid (HK.out.trans (HS.out.kept HB2.out))
    have HAB2 := Lib.hid (show AskBox w2 S w.heap.size (w.heap.size + 1) r from ⟨blk_below HB2.out HAB.out.s, blk_below HB2.out HAB.out.r⟩)
    have HG2 := Lib.hid (And.intro (((HS.out.kept HB2.out).same _ HF1.out HNE.out.1).2) (((HS.out.kept HB2.out).same _ HF2.out HNE.out.2).2))
    have HBOX : Hid (∀ W, KeptS A km w2 W → AskBox W S w.heap.size (w.heap.size + 1) r) := Lib.hid fun W hW => ⟨(hW.same _ HG2.out.1 HNE.out.1).1.trans HAB2.out.s, (hW.same _ HG2.out.2 HNE.out.2).1.trans HAB2.out.r⟩
    have HCELL : Hid (∀ k, k < 5 → ∃ g, A2 = some ⟨g, 0, none⟩ ∧ ∀ W, KeptS A km w2 W → W.cell? ⟨g, k, none⟩ = some (askV w.heap.size (w.heap.size + 1) k)) := Lib.hid fun k hk => by
      obtain ⟨g, hg⟩ := HA2.out (by omega)
      have hlg := HO2.out.lt g (by rw [hg]; rfl)
      have hgf := HS.out.sp.ar.foreign_new HB2.out hlg.1 hlg.2
      have hgk : g ≠ km := by have := HS.out.sp.fk.1; omega
      refine ⟨g, hg, fun W hW => (World.cell?_of_block (hW.same _ hgf hgk).1).trans ?_⟩
      have ho := HO2.out
      rw [hg] at ho
      refine (ho.cellAt k (by omega)).trans ?_
      obtain rfl | rfl | rfl | rfl | rfl : k = 0 ∨ k = 1 ∨ k = 2 ∨ k = 3 ∨ k = 4 := by omega
      all_goals rfl
    clear HO2 HB2 HA2 HAB HF1 HF2 HSZ HAB2 HG2 HNE HS HK
    go_wp2
    go_loopw [7, 26] (fun f i wr => ∃ k : Nat, i = .int .i64 k ∧ k ≤ 5 ∧ ∃ (q : Nat) (τ : Sg), f = .int .i64 q ∧ Hid (SpOk wr B S km A Mo τ) ∧ Hid (To (k * (1216 + K)) (k * (1216 + K)) σ τ) ∧ Hid (Den τ q (ruleK r k)) ∧ Hid (KeptS A km w2 wr)) (fun _ i _ => 5 - (intOf i).toNat)
    case atStart => exact ⟨0, rfl, by omega, 1, σ, rfl, HS2, Lib.hid (by rw [Nat.zero_mul]; exact To.refl σ), Lib.hid (Den.one HS2.out.ok), Lib.hid (KeptS.refl _ _ _)⟩
    case round =>
      obtain ⟨k, rfl, hk, q, τ, rfl, HSR, HTR, HDR, HKR⟩ := hrel
      by_cases hlt : k < 5
      · have hI : (k : Int) < 5 := by omega
        obtain ⟨g, hge, hcell⟩ := HCELL.out k hlt
        have hcl := hcell wr HKR.out
        obtain ⟨fid, hfv, hen, hcall⟩ := ask_yes (B := B) (S := S) (km := km) (A := A) (Mo := Mo) r HOK.out w.heap.size (w.heap.size + 1) k (by rw [HN.out]; exact hlt)
        rw [hfv] at hcl
        have hm1 : (k + 1) * (1216 + K) ≤ 5 * (1216 + K) := Nat.mul_le_mul_right _ (by omega)
        have hm2 : (k + 1) * (1216 + K) = k * (1216 + K) + (1216 + K) := by rw [Nat.add_mul, Nat.one_mul]
        have hnl := HTR.out.nl
        have HCL := Lib.hid (hcall wr τ HSR.out (HBOX.out wr HKR.out) (by omega))
        have HM := Lib.hid (And.intro hm1 hm2)
        clear hcell hfv hcall hm1 hm2 hnl
        subst hge
        go_upto_region 9 with ((with_reducible refine HCL.out.mono ?_); rintro e w5 hr5; obtain ⟨q5, c5, he5⟩ := hr5.form; have HR5 := Lib.hid hr5; subst he5; clear hr5)
        rcases HR5.out.two with ⟨rfl, rfl, hlt5, τ5, hs5, ht5⟩ | ⟨r5, τ5, rfl, rfl, hs5, ht5, hd5⟩
        · have HFIN := Lib.hid (SpRes.full (F := ruleF r) (HK2.out.trans (HKR.out.trans HR5.out.1)) rfl (by have := HTR.out.hl; have := HM.out; omega) hs5 ((HTR.out.trans ht5).mono (show k * (1216 + K) + 1216 ≤ 5 * (1216 + K) by have := HM.out; omega) (show k * (1216 + K) + 1216 ≤ 5 * (1216 + K) by have := HM.out; omega)))
          clear hlt5 hs5 ht5
          go_wp2
          go_ret2
          exact HFIN.out
        · have HS5 := Lib.hid hs5
          have HT5 := Lib.hid (HTR.out.trans ht5)
          have HK5 := Lib.hid (HKR.out.trans HR5.out.1)
          have hnl := HT5.out.nl
          have hm := HM.out
          have hw := HWK.out (k + 1) (by omega)
          have HAN := Lib.hid (show Calls Tryz.prog 15 #[.pointer (some ⟨S, 0, none⟩), .int .i64 q, .int .i64 r5] w5 (SpRes w5 B S km A Mo τ5 (ruleK r (k + 1)) K K) from relAnd_yes hs5 (HDR.out.to ht5 HSR.out.ok hs5.ok) hd5 (ruleK_set r k) (askF_set r k) (a := K) (b := K) (Grow.wid hs5.ok.wf.two hw) (by omega))
          have s0 := cell0 (HBOX.out w5 HK5.out).s
          clear hs5 ht5 hd5 HR5 HCL hnl hm hw hcl hen
          go_upto_region 12 with ((with_reducible refine HAN.out.mono ?_); rintro e w7 hr7; obtain ⟨q7, c7, he7⟩ := hr7.form; have HR7 := Lib.hid hr7; subst he7; clear hr7)
          rcases HR7.out.two with ⟨rfl, rfl, hlt7, τ7, hs7, ht7⟩ | ⟨r7, τ7, rfl, rfl, hs7, ht7, hd7⟩
          · have HFIN := Lib.hid (SpRes.full (F := ruleF r) (HK2.out.trans (HK5.out.trans HR7.out.1)) rfl (by have := HT5.out.hl; have := HM.out; omega) hs7 ((HT5.out.trans ht7).mono (show k * (1216 + K) + 1216 + K ≤ 5 * (1216 + K) by have := HM.out; omega) (show k * (1216 + K) + 1216 + K ≤ 5 * (1216 + K) by have := HM.out; omega)))
            clear hlt7 hs7 ht7
            go_wp2
            go_ret2
            exact HFIN.out
          · have HS7 := Lib.hid hs7
            have HT7 := Lib.hid ((HT5.out.trans ht7).mono (show k * (1216 + K) + 1216 + K ≤ (k + 1) * (1216 + K) by have := HM.out; omega) (show k * (1216 + K) + 1216 + K ≤ (k + 1) * (1216 + K) by have := HM.out; omega))
            have HD7 := Lib.hid hd7
            have HK7 := Lib.hid (HK5.out.trans HR7.out.1)
            clear hs7 ht7 hd7 HR7 HAN
            go_wp2
            exact ⟨⟨k + 1, by go_num, by omega, r7, τ7, rfl, HS7, HT7, HD7, HK7⟩, by simp only [intOf]; omega⟩
      · obtain rfl : k = 5 := by omega
        have hI : ¬ ((5 : Nat) : Int) < 5 := by omega
        have hfd := HDR.out
        have hrf : ruleF r = ruleK r 5 := by unfold ruleF; rw [HN.out]
        rw [← hrf] at hfd
        have HFIN : Hid (SpRes w B S km A Mo σ (ruleF r) (5 * (1216 + K)) (5 * (1216 + K)) (.returned (.tuple #[.int .i64 q, .int .i64 0])) wr) := Lib.hid ⟨HK2.out.trans HKR.out, .inr ⟨q, τ, rfl, HSR.out, HTR.out.mono (Nat.mul_le_mul_right _ (by omega)) (Nat.mul_le_mul_right _ (by omega)), hfd⟩⟩
        clear hfd hrf
        go_wp2
        go_ret2
        exact HFIN.out
  · have hpi : ¬ r.proto ≥ 0 := hp
    have hne : asksN r = 4 := if_neg hp
    have HN := Lib.hid hne
    clear hp hne
    go_upto_region 4 with fail
    obtain ⟨A2, hA2e⟩ : ∃ A2 : Option Addr, A2 = some ⟨w0.heap.size, 0, none⟩ := ⟨_, rfl⟩
    obtain ⟨c2, hc2e⟩ : ∃ c2 : Nat, c2 = 4 := ⟨_, rfl⟩
    have HO2 := HROW
    have HA2 : Hid (0 < 4 → ∃ g, some (⟨w0.heap.size, 0, none⟩ : Addr) = some ⟨g, 0, none⟩) := Lib.hid fun _ => ⟨_, rfl⟩
    have HB2 := HB1
    clear HROW HB1 d1 hA2e hc2e
    clear A2 c2
    rename World => w2
    have HS2 := Lib.hid (HS.out.below HB2.out)
    have HK2 := Lib.hid (HK.out.trans (HS.out.kept HB2.out))
    have HAB2 := Lib.hid (show AskBox w2 S w.heap.size (w.heap.size + 1) r from ⟨blk_below HB2.out HAB.out.s, blk_below HB2.out HAB.out.r⟩)
    have HG2 := Lib.hid (And.intro (((HS.out.kept HB2.out).same _ HF1.out HNE.out.1).2) (((HS.out.kept HB2.out).same _ HF2.out HNE.out.2).2))
    have HBOX : Hid (∀ W, KeptS A km w2 W → AskBox W S w.heap.size (w.heap.size + 1) r) := Lib.hid fun W hW => ⟨(hW.same _ HG2.out.1 HNE.out.1).1.trans HAB2.out.s, (hW.same _ HG2.out.2 HNE.out.2).1.trans HAB2.out.r⟩
    have HCELL : Hid (∀ k, k < 4 → ∃ g, (some (⟨w0.heap.size, 0, none⟩ : Addr)) = some ⟨g, 0, none⟩ ∧ ∀ W, KeptS A km w2 W → W.cell? ⟨g, k, none⟩ = some (askV w.heap.size (w.heap.size + 1) k)) := Lib.hid fun k hk => by
      obtain ⟨g, hg⟩ := HA2.out (by omega)
      have hlg := HO2.out.lt g (by rw [hg]; rfl)
      have hgf := HS.out.sp.ar.foreign_new HB2.out hlg.1 hlg.2
      have hgk : g ≠ km := by have := HS.out.sp.fk.1; omega
      refine ⟨g, hg, fun W hW => (World.cell?_of_block (hW.same _ hgf hgk).1).trans ?_⟩
      have ho := HO2.out
      rw [hg] at ho
      refine (ho.cellAt k (by omega)).trans ?_
      obtain rfl | rfl | rfl | rfl : k = 0 ∨ k = 1 ∨ k = 2 ∨ k = 3 := by omega
      all_goals rfl
    clear HO2 HB2 HA2 HAB HF1 HF2 HSZ HAB2 HG2 HNE HS HK
    go_wp2
    go_loopw [7, 26] (fun f i wr => ∃ k : Nat, i = .int .i64 k ∧ k ≤ 4 ∧ ∃ (q : Nat) (τ : Sg), f = .int .i64 q ∧ Hid (SpOk wr B S km A Mo τ) ∧ Hid (To (k * (1216 + K)) (k * (1216 + K)) σ τ) ∧ Hid (Den τ q (ruleK r k)) ∧ Hid (KeptS A km w2 wr)) (fun _ i _ => 4 - (intOf i).toNat)
    case atStart => exact ⟨0, rfl, by omega, 1, σ, rfl, HS2, Lib.hid (by rw [Nat.zero_mul]; exact To.refl σ), Lib.hid (Den.one HS2.out.ok), Lib.hid (KeptS.refl _ _ _)⟩
    case round =>
      obtain ⟨k, rfl, hk, q, τ, rfl, HSR, HTR, HDR, HKR⟩ := hrel
      by_cases hlt : k < 4
      · have hI : (k : Int) < 4 := by omega
        obtain ⟨g, hge, hcell⟩ := HCELL.out k hlt
        have hcl := hcell wr HKR.out
        obtain ⟨fid, hfv, hen, hcall⟩ := ask_yes (B := B) (S := S) (km := km) (A := A) (Mo := Mo) r HOK.out w.heap.size (w.heap.size + 1) k (by rw [HN.out]; exact hlt)
        rw [hfv] at hcl
        have hm1 : (k + 1) * (1216 + K) ≤ 5 * (1216 + K) := Nat.mul_le_mul_right _ (by omega)
        have hm2 : (k + 1) * (1216 + K) = k * (1216 + K) + (1216 + K) := by rw [Nat.add_mul, Nat.one_mul]
        have hnl := HTR.out.nl
        have HCL := Lib.hid (hcall wr τ HSR.out (HBOX.out wr HKR.out) (by omega))
        have HM := Lib.hid (And.intro hm1 hm2)
        clear hcell hfv hcall hm1 hm2 hnl
        obtain rfl : g = w0.heap.size := by injection hge with hge; injection hge with h1; exact h1.symm
        go_upto_region 9 with ((with_reducible refine HCL.out.mono ?_); rintro e w5 hr5; obtain ⟨q5, c5, he5⟩ := hr5.form; have HR5 := Lib.hid hr5; subst he5; clear hr5)
        rcases HR5.out.two with ⟨rfl, rfl, hlt5, τ5, hs5, ht5⟩ | ⟨r5, τ5, rfl, rfl, hs5, ht5, hd5⟩
        · have HFIN := Lib.hid (SpRes.full (F := ruleF r) (HK2.out.trans (HKR.out.trans HR5.out.1)) rfl (by have := HTR.out.hl; have := HM.out; omega) hs5 ((HTR.out.trans ht5).mono (show k * (1216 + K) + 1216 ≤ 5 * (1216 + K) by have := HM.out; omega) (show k * (1216 + K) + 1216 ≤ 5 * (1216 + K) by have := HM.out; omega)))
          clear hlt5 hs5 ht5
          go_wp2
          go_ret2
          exact HFIN.out
        · have HS5 := Lib.hid hs5
          have HT5 := Lib.hid (HTR.out.trans ht5)
          have HK5 := Lib.hid (HKR.out.trans HR5.out.1)
          have hnl := HT5.out.nl
          have hm := HM.out
          have hw := HWK.out (k + 1) (by omega)
          have HAN := Lib.hid (show Calls Tryz.prog 15 #[.pointer (some ⟨S, 0, none⟩), .int .i64 q, .int .i64 r5] w5 (SpRes w5 B S km A Mo τ5 (ruleK r (k + 1)) K K) from relAnd_yes hs5 (HDR.out.to ht5 HSR.out.ok hs5.ok) hd5 (ruleK_set r k) (askF_set r k) (a := K) (b := K) (Grow.wid hs5.ok.wf.two hw) (by omega))
          have s0 := cell0 (HBOX.out w5 HK5.out).s
          clear hs5 ht5 hd5 HR5 HCL hnl hm hw hcl hen
          go_upto_region 12 with ((with_reducible refine HAN.out.mono ?_); rintro e w7 hr7; obtain ⟨q7, c7, he7⟩ := hr7.form; have HR7 := Lib.hid hr7; subst he7; clear hr7)
          rcases HR7.out.two with ⟨rfl, rfl, hlt7, τ7, hs7, ht7⟩ | ⟨r7, τ7, rfl, rfl, hs7, ht7, hd7⟩
          · have HFIN := Lib.hid (SpRes.full (F := ruleF r) (HK2.out.trans (HK5.out.trans HR7.out.1)) rfl (by have := HT5.out.hl; have := HM.out; omega) hs7 ((HT5.out.trans ht7).mono (show k * (1216 + K) + 1216 + K ≤ 5 * (1216 + K) by have := HM.out; omega) (show k * (1216 + K) + 1216 + K ≤ 5 * (1216 + K) by have := HM.out; omega)))
            clear hlt7 hs7 ht7
            go_wp2
            go_ret2
            exact HFIN.out
          · have HS7 := Lib.hid hs7
            have HT7 := Lib.hid ((HT5.out.trans ht7).mono (show k * (1216 + K) + 1216 + K ≤ (k + 1) * (1216 + K) by have := HM.out; omega) (show k * (1216 + K) + 1216 + K ≤ (k + 1) * (1216 + K) by have := HM.out; omega))
            have HD7 := Lib.hid hd7
            have HK7 := Lib.hid (HK5.out.trans HR7.out.1)
            clear hs7 ht7 hd7 HR7 HAN
            go_wp2
            exact ⟨⟨k + 1, by go_num, by omega, r7, τ7, rfl, HS7, HT7, HD7, HK7⟩, by simp only [intOf]; omega⟩
      · obtain rfl : k = 4 := by omega
        have hI : ¬ ((4 : Nat) : Int) < 4 := by omega
        have hfd := HDR.out
        have hrf : ruleF r = ruleK r 4 := by unfold ruleF; rw [HN.out]
        rw [← hrf] at hfd
        have HFIN : Hid (SpRes w B S km A Mo σ (ruleF r) (5 * (1216 + K)) (5 * (1216 + K)) (.returned (.tuple #[.int .i64 q, .int .i64 0])) wr) := Lib.hid ⟨HK2.out.trans HKR.out, .inr ⟨q, τ, rfl, HSR.out, HTR.out.mono (Nat.mul_le_mul_right _ (by omega)) (Nat.mul_le_mul_right _ (by omega)), hfd⟩⟩
        clear hfd hrf
        go_wp2
        go_ret2
        exact HFIN.out
end
end Go.Proofs.YtdjikiakcfbklaaGreat

/-
  Rules that are the same but for what they say of headers that fit.
-/
namespace Go.Proofs.YtdjikiakcfbklaaGreat
open Go Go.RowKit Go.ChangeMaps Go.MapKept Go.Maps Go.Lib Go.Sort

theorem eqPrefD (a m b n : Int) (d : Nat) (w : World) : (Op.equalIn (d + 1 + 1) 40 (.agg #[.int .u32 a, .int .i64 m]) (.agg #[.int .u32 b, .int .i64 n])).run Tryz.prog w = .ok (decide (a = b) && decide (m = n)) w := by
  have hS : Tryz.prog.underlying 40 = some (.struct (Tryz.prog.fieldsOf 40)) := by kernel_rfl
  have hp : Tryz.prog.stoodInHeld 40 = false := by kernel_rfl
  have a1 := Tryz.underlying25
  have a2 := Tryz.isAgg25
  have a3 := Tryz.sizeOf25
  have b1 := Tryz.underlying3
  have b2 := Tryz.isAgg3
  have b3 := Tryz.sizeOf3
  by_cases h1 : a = b
  · by_cases h2 : m = n
    · subst h1 h2
      rw [run_equalIn_agg w (d + 1) 40 _ _ hS hp]
      simp only [Program.fieldsOf, Tryz.underlying40]
      go_simp
    · subst h1
      rw [run_equalIn_agg w (d + 1) 40 _ _ hS hp]
      simp only [Program.fieldsOf, Tryz.underlying40]
      go_simp
  · rw [run_equalIn_agg w (d + 1) 40 _ _ hS hp]
    simp only [Program.fieldsOf, Tryz.underlying40]
    go_simp
theorem eqSpanD (a m b n : Int) (d : Nat) (w : World) : (Op.equalIn (d + 1 + 1) 72 (.agg #[.int .u32 a, .int .u32 m]) (.agg #[.int .u32 b, .int .u32 n])).run Tryz.prog w = .ok (decide (a = b) && decide (m = n)) w := by
  have hS : Tryz.prog.underlying 72 = some (.struct (Tryz.prog.fieldsOf 72)) := by kernel_rfl
  have hp : Tryz.prog.stoodInHeld 72 = false := by kernel_rfl
  have a1 := Tryz.underlying24
  have a2 := Tryz.isAgg24
  have a3 := Tryz.sizeOf24
  by_cases h1 : a = b
  · by_cases h2 : m = n
    · subst h1 h2
      rw [run_equalIn_agg w (d + 1) 72 _ _ hS hp]
      simp only [Program.fieldsOf, Tryz.underlying72]
      go_simp
    · subst h1
      rw [run_equalIn_agg w (d + 1) 72 _ _ hS hp]
      simp only [Program.fieldsOf, Tryz.underlying72]
      go_simp
  · rw [run_equalIn_agg w (d + 1) 72 _ _ hS hp]
    simp only [Program.fieldsOf, Tryz.underlying72]
    go_simp
/-- The same rule. -/
def sameR (x y : RuleV) : Bool := (x.permit == y.permit) && decide (x.proto = y.proto) && (decide (x.sa = y.sa) && decide (x.sn = y.sn)) && (decide (x.da = y.da) && decide (x.dn = y.dn)) && (decide (x.sl = y.sl) && decide (x.sh = y.sh)) && (decide (x.dl = y.dl) && decide (x.dh = y.dh))
theorem eqRuleD (x y : RuleV) (w : World) : (binOp .eql 74 (.agg #[.bool x.permit, .int .i64 x.proto, .int .u32 x.sa, .int .i64 x.sn, .int .u32 x.da, .int .i64 x.dn, .int .u32 x.sl, .int .u32 x.sh, .int .u32 x.dl, .int .u32 x.dh]) (.agg #[.bool y.permit, .int .i64 y.proto, .int .u32 y.sa, .int .i64 y.sn, .int .u32 y.da, .int .i64 y.dn, .int .u32 y.sl, .int .u32 y.sh, .int .u32 y.dl, .int .u32 y.dh])).run Tryz.prog w = .ok (.bool (sameR x y)) w := by
  have hS : Tryz.prog.underlying 74 = some (.struct (Tryz.prog.fieldsOf 74)) := by kernel_rfl
  have hp : Tryz.prog.stoodInHeld 74 = false := by kernel_rfl
  have b1 := Tryz.underlying3
  have b2 := Tryz.isAgg3
  have b3 := Tryz.sizeOf3
  have c1 := Tryz.underlying4
  have c2 := Tryz.isAgg4
  have c3 := Tryz.sizeOf4
  have d2 := Tryz.isAgg40
  have d3 := Tryz.sizeOf40
  have e2 := Tryz.isAgg72
  have e3 := Tryz.sizeOf72
  rw [run_eql_struct, show (10000 : Nat) = 9997 + 1 + 1 + 1 from rfl, run_equalIn_agg w (9997 + 1 + 1) 74 _ _ hS hp]
  generalize 9997 = d
  have E1 := fun w => eqPrefD x.sa x.sn y.sa y.sn d w
  have E2 := fun w => eqPrefD x.da x.dn y.da y.dn d w
  have E3 := fun w => eqSpanD x.sl x.sh y.sl y.sh d w
  have E4 := fun w => eqSpanD x.dl x.dh y.dl y.dh d w
  simp only [Program.fieldsOf, Tryz.underlying74]
  unfold sameR
  generalize (decide (x.sa = y.sa) && decide (x.sn = y.sn)) = P1 at *
  generalize (decide (x.da = y.da) && decide (x.dn = y.dn)) = P2 at *
  generalize (decide (x.sl = y.sl) && decide (x.sh = y.sh)) = P3 at *
  generalize (decide (x.dl = y.dl) && decide (x.dh = y.dh)) = P4 at *
  generalize x.permit = q1 at *
  generalize y.permit = q2 at *
  by_cases hq : q1 = q2
  · subst hq
    by_cases hp2 : x.proto = y.proto
    · rw [hp2]
      have e1 : (y.proto == y.proto) = true := by simp
      cases P1
      · cases q1 <;> go_simp
      · cases P2
        · cases q1 <;> go_simp
        · cases P3
          · cases q1 <;> go_simp
          · cases P4 <;> cases q1 <;> go_simp
    · have e1 : (x.proto == y.proto) = false := by simpa using hp2
      cases q1 <;> go_simp
  · cases q1 <;> cases q2
    · exact absurd rfl hq
    · go_simp
    · go_simp
    · exact absurd rfl hq
theorem rulesEq_any (x y : RuleV) (bx : Nat) (w : World) (hb : w.heap[bx]? = some (.cells #[.bool y.permit, .int .i64 y.proto, .int .u32 y.sa, .int .i64 y.sn, .int .u32 y.da, .int .i64 y.dn, .int .u32 y.sl, .int .u32 y.sh, .int .u32 y.dl, .int .u32 y.dh] 74 (0, 0))) :
    Calls Tryz.prog 130 #[.agg #[.bool x.permit, .int .i64 x.proto, .int .u32 x.sa, .int .i64 x.sn, .int .u32 x.da, .int .i64 x.dn, .int .u32 x.sl, .int .u32 x.sh, .int .u32 x.dl, .int .u32 x.dh], .pointer (some ⟨bx, 0, none⟩)] w fun e w' => e = .returned (.bool (sameR x y)) ∧ Below w.heap.size w w' := by
  have hbw := below1 w (.cells #[.bool x.permit, .int .i64 x.proto, .int .u32 x.sa, .int .i64 x.sn, .int .u32 x.da, .int .i64 x.dn, .int .u32 x.sl, .int .u32 x.sh, .int .u32 x.dl, .int .u32 x.dh] 74)
  have hk := blk1 w (.cells #[.bool x.permit, .int .i64 x.proto, .int .u32 x.sa, .int .i64 x.sn, .int .u32 x.da, .int .i64 x.dn, .int .u32 x.sl, .int .u32 x.sh, .int .u32 x.dl, .int .u32 x.dh] 74)
  have hy := blk_below hbw hb
  have HEQ := eqRuleD x y
  have HB := Lib.hid hbw
  go_enter Tryz.func130, Tryz.ntmps130
  go_upto_region 1 with fail
  clear hbw
  generalize w.alloc (.cells #[.bool x.permit, .int .i64 x.proto, .int .u32 x.sa, .int .i64 x.sn, .int .u32 x.da, .int .i64 x.dn, .int .u32 x.sl, .int .u32 x.sh, .int .u32 x.dl, .int .u32 x.dh] 74) = w1 at *
  have x0 : w1.cell? ⟨w.heap.size, 0, none⟩ = some (.bool x.permit) := cell_of_row _ _ 0 _ _ (0, 0) hk
  have x1 : w1.cell? ⟨w.heap.size, 1, none⟩ = some (.int .i64 x.proto) := cell_of_row _ _ 1 _ _ (0, 0) hk
  have x2 : w1.cell? ⟨w.heap.size, 2, none⟩ = some (.int .u32 x.sa) := cell_of_row _ _ 2 _ _ (0, 0) hk
  have x3 : w1.cell? ⟨w.heap.size, 3, none⟩ = some (.int .i64 x.sn) := cell_of_row _ _ 3 _ _ (0, 0) hk
  have x4 : w1.cell? ⟨w.heap.size, 4, none⟩ = some (.int .u32 x.da) := cell_of_row _ _ 4 _ _ (0, 0) hk
  have x5 : w1.cell? ⟨w.heap.size, 5, none⟩ = some (.int .i64 x.dn) := cell_of_row _ _ 5 _ _ (0, 0) hk
  have x6 : w1.cell? ⟨w.heap.size, 6, none⟩ = some (.int .u32 x.sl) := cell_of_row _ _ 6 _ _ (0, 0) hk
  have x7 : w1.cell? ⟨w.heap.size, 7, none⟩ = some (.int .u32 x.sh) := cell_of_row _ _ 7 _ _ (0, 0) hk
  have x8 : w1.cell? ⟨w.heap.size, 8, none⟩ = some (.int .u32 x.dl) := cell_of_row _ _ 8 _ _ (0, 0) hk
  have x9 : w1.cell? ⟨w.heap.size, 9, none⟩ = some (.int .u32 x.dh) := cell_of_row _ _ 9 _ _ (0, 0) hk
  have y0 : w1.cell? ⟨bx, 0, none⟩ = some (.bool y.permit) := cell_of_row _ _ 0 _ _ (0, 0) hy
  have y1 : w1.cell? ⟨bx, 1, none⟩ = some (.int .i64 y.proto) := cell_of_row _ _ 1 _ _ (0, 0) hy
  have y2 : w1.cell? ⟨bx, 2, none⟩ = some (.int .u32 y.sa) := cell_of_row _ _ 2 _ _ (0, 0) hy
  have y3 : w1.cell? ⟨bx, 3, none⟩ = some (.int .i64 y.sn) := cell_of_row _ _ 3 _ _ (0, 0) hy
  have y4 : w1.cell? ⟨bx, 4, none⟩ = some (.int .u32 y.da) := cell_of_row _ _ 4 _ _ (0, 0) hy
  have y5 : w1.cell? ⟨bx, 5, none⟩ = some (.int .i64 y.dn) := cell_of_row _ _ 5 _ _ (0, 0) hy
  have y6 : w1.cell? ⟨bx, 6, none⟩ = some (.int .u32 y.sl) := cell_of_row _ _ 6 _ _ (0, 0) hy
  have y7 : w1.cell? ⟨bx, 7, none⟩ = some (.int .u32 y.sh) := cell_of_row _ _ 7 _ _ (0, 0) hy
  have y8 : w1.cell? ⟨bx, 8, none⟩ = some (.int .u32 y.dl) := cell_of_row _ _ 8 _ _ (0, 0) hy
  have y9 : w1.cell? ⟨bx, 9, none⟩ = some (.int .u32 y.dh) := cell_of_row _ _ 9 _ _ (0, 0) hy
  clear hk hy hb
  go_wp2
  go_ret
  exact ⟨rfl, HB.out⟩
end Go.Proofs.YtdjikiakcfbklaaGreat

/-
  A filter's rules, one behind the other: what is left, what each decides; the rows that the walk keeps.
-/
namespace Go.Proofs.YtdjikiakcfbklaaGreat
open Go Go.RowKit Go.ChangeMaps Go.MapKept Go.Maps Go.Lib Go.Sort

def ruleAt (L : List RuleV) (k : Nat) : Fun := fun s => (L[k]?.map fun r => ruleF r s).getD false
/-- What the first k rules leave; what rule k decides. -/
def leftF (L : List RuleV) (k : Nat) : Fun := fun s => !(L.take k).any fun r => ruleF r s
def decF (L : List RuleV) (k : Nat) : Fun := fun s => leftF L k s && ruleAt L k s
theorem ruleAt_eq {L : List RuleV} {k : Nat} {r : RuleV} (h : L[k]? = some r) : ruleAt L k = ruleF r := funext fun s => by unfold ruleAt; rw [h]; rfl
theorem leftF_succ {L : List RuleV} {k : Nat} {r : RuleV} (h : L[k]? = some r) : leftF L (k + 1) = fun s => leftF L k s && !ruleF r s := funext fun s => by
  unfold leftF
  rw [List.take_add_one, h]
  simp [List.any_append]
theorem decF_eq {L : List RuleV} {k : Nat} {r : RuleV} (h : L[k]? = some r) : decF L k = fun s => leftF L k s && ruleF r s := funext fun s => by
  unfold decF
  rw [ruleAt_eq h]
theorem leftF_set (L : List RuleV) : ∀ k, SetF (leftF L k) := by
  intro k
  induction k with
  | zero => exact SetF.const true
  | succ k ih =>
    cases h : L[k]? with
    | none =>
      have e : leftF L (k + 1) = leftF L k := by unfold leftF; rw [List.take_add_one, h]; simp
      rw [e]; exact ih
    | some r =>
      rw [leftF_succ h]
      exact ih.op2 (fun x y => x && !y) (ruleK_set r _)
theorem decF_set {L : List RuleV} {k : Nat} {r : RuleV} (h : L[k]? = some r) : SetF (decF L k) := by
  rw [decF_eq h]
  exact (leftF_set L k).op2 (fun x y => x && y) (ruleK_set r _)
/-- A rule that denies, the same otherwise. -/
def anyR (r : RuleV) : RuleV := ⟨false, r.proto, r.sa, r.sn, r.da, r.dn, r.sl, r.sh, r.dl, r.dh, r.hpr, r.hsa, r.hda, r.hsl, r.hsh, r.hdl, r.hdh⟩
theorem askF_any (r : RuleV) : ∀ k, askF (anyR r) k = askF r k
  | 0 => rfl
  | 1 => rfl
  | 2 => rfl
  | 3 => rfl
  | _ + 4 => rfl
theorem ruleK_any (r : RuleV) : ∀ k, ruleK (anyR r) k = ruleK r k
  | 0 => rfl
  | k + 1 => by
    show (fun s => ruleK (anyR r) k s && askF (anyR r) k s) = fun s => ruleK r k s && askF r k s
    rw [ruleK_any r k, askF_any]
theorem ruleF_any (r : RuleV) : ruleF (anyR r) = ruleF r := ruleK_any r _
theorem sameR_eq {x y : RuleV} (h : sameR x y = true) : x = y := by
  unfold sameR at h
  simp only [Bool.and_eq_true, decide_eq_true_eq, beq_iff_eq] at h
  obtain ⟨⟨⟨⟨⟨h1, h2⟩, h3, h4⟩, h5, h6⟩, h7, h8⟩, h9, h10⟩ := h
  cases x; cases y
  simp only at h1 h2 h3 h4 h5 h6 h7 h8 h9 h10
  subst h1 h2 h3 h4 h5 h6 h7 h8 h9 h10
  rfl
/-- Nodes in a row. -/
def ncl (ns : List Nat) : List Value := ns.map fun (n : Nat) => Value.int .i64 (n : Int)
/-- The row's block is none of the space's. -/
def OwnF (A : Blks) (km S : Nat) (w : World) (v : Value) : Prop := ∀ g, v.ownBlock = some g → Foreign A w g ∧ g ≠ km ∧ g ≠ S
/-- A list that came in, in a block that is none of the space's. -/
def RdF (A : Blks) (km : Nat) (w : World) (k : Nat) (v : Value) (n : Nat) (xs : List Value) : Prop :=
  ∃ (P : Option Addr) (c : Nat), v = .slice P n c ∧ n ≤ c ∧ xs.length = n * k ∧ (0 < n → ∃ b off, P = some ⟨b, off, none⟩ ∧ Foreign A w b ∧ b ≠ km ∧ ∀ j u, xs[j]? = some u → w.cell? ⟨b, off + j, none⟩ = some u)
theorem RdF.rd {A : Blks} {km : Nat} {w : World} {k : Nat} {v : Value} {n : Nat} {xs : List Value} (h : RdF A km w k v n xs) : Rd w w.heap.size k v n xs := by
  obtain ⟨P, c, h1, h2, h3, h4⟩ := h
  exact ⟨P, c, h1, h2, h3, fun hn => by obtain ⟨b, off, e, f, _, g⟩ := h4 hn; exact ⟨b, off, e, f.1, g⟩⟩
theorem RdF.kept {A : Blks} {km : Nat} {w w' : World} {k : Nat} {v : Value} {n : Nat} {xs : List Value} (h : RdF A km w k v n xs) (hk : KeptS A km w w') : RdF A km w' k v n xs := by
  obtain ⟨P, c, h1, h2, h3, h4⟩ := h
  refine ⟨P, c, h1, h2, h3, fun hn => ?_⟩
  obtain ⟨b, off, e, f, f2, g⟩ := h4 hn
  exact ⟨b, off, e, (hk.same b f f2).2, f2, fun j u hu => (World.cell?_of_block (hk.same b f f2).1).trans (g j u hu)⟩
section
variable {w0 wr : World} {B S km : Nat} {A : Blks} {Mo : Nat} {τ : Sg}
/-- The space where blocks of others turned. -/
theorem SpOk.others {w w' : World} (h : SpOk w B S km A Mo τ) {r : Option Nat} (hg : w.grownBy w' r) (hr : ∀ g, r = some g → Foreign A w g ∧ g ≠ km ∧ g ≠ S) :
    SpOk w' B S km A Mo τ ∧ (∀ k, Foreign A w k → Foreign A w' k) ∧ ∀ k, w.heap.size ≤ k → k < w'.heap.size → Foreign A w' k ∧ k ≠ km ∧ k ≠ S := by
  obtain ⟨nv, hA⟩ := h.sp.ar
  obtain ⟨a1, a2, a3⟩ := hA.calm hg.size fun k hk hn => hg.block k hk (fun e => hn (hr k e.symm).1)
  have hkm := h.sp.fk.1
  have hS := lt_of_block h.sp.cells
  exact ⟨⟨⟨⟨nv, a1⟩, (hg.block S hS (fun e => (hr S e.symm).2.2 rfl)).trans h.sp.cells, a2 _ h.sp.fs, h.sp.known.same (hg.block km hkm (fun e => (hr km e.symm).2.1 rfl)), a2 _ h.sp.fk, h.sp.ne⟩, h.ok⟩, a2, fun k h1 h2 => ⟨a3 k h1 h2, by omega, by omega⟩⟩
theorem KeptS.others {w w' w0 : World} (h : KeptS A km w0 w) {r : Option Nat} (hg : w.grownBy w' r) (hs : ∀ g, r = some g → w0.heap.size ≤ g) (hf : ∀ k, Foreign A w k → Foreign A w' k) : KeptS A km w0 w' :=
  ⟨hg.os.trans h.os, hg.tape.trans h.tape, hg.output.trans h.output, Nat.le_trans h.size hg.size, fun k hk hn => ⟨(hg.block k (Nat.lt_of_lt_of_le hk.1 h.size) (fun e => by have := hs k e.symm; have := hk.1; omega)).trans (h.same k hk hn).1, hf k (h.same k hk hn).2⟩⟩
/-- What the walk of the rules keeps: the space, the row of what is decided, the row of the rules that were seen. -/
structure RuSt (w0 wr : World) (B S km : Nat) (A : Blks) (Mo : Nat) (τ : Sg) (ov : Value) (ns : List Nat) (sv : Value) (D : List RuleV) : Prop where
  sp : SpOk wr B S km A Mo τ
  kept : KeptS A km w0 wr
  out : wr.ownsRow w0.heap.size 3 1 ov ns.length (ncl ns)
  outf : OwnF A km S wr ov
  seen : wr.ownsRow w0.heap.size 74 10 sv D.length (rcells D)
  seenf : OwnF A km S wr sv
  dis : ∀ g, ov.ownBlock = some g → sv.ownBlock ≠ some g
theorem RuSt.space {ov sv : Value} {ns : List Nat} {D : List RuleV} {w' : World} {τ' : Sg} (h : RuSt w0 wr B S km A Mo τ ov ns sv D) (k : KeptS A km wr w') (s : SpOk w' B S km A Mo τ') : RuSt w0 w' B S km A Mo τ' ov ns sv D :=
  ⟨s, h.kept.trans k, owns_like h.out fun g hg => (k.same g (h.outf g hg).1 (h.outf g hg).2.1).1, fun g hg => ⟨(k.same g (h.outf g hg).1 (h.outf g hg).2.1).2, (h.outf g hg).2⟩,
    owns_like h.seen fun g hg => (k.same g (h.seenf g hg).1 (h.seenf g hg).2.1).1, fun g hg => ⟨(k.same g (h.seenf g hg).1 (h.seenf g hg).2.1).2, (h.seenf g hg).2⟩, h.dis⟩
theorem RuSt.below {ov sv : Value} {ns : List Nat} {D : List RuleV} {w' : World} (h : RuSt w0 wr B S km A Mo τ ov ns sv D) (hb : Below wr.heap.size wr w') : RuSt w0 w' B S km A Mo τ ov ns sv D := h.space (h.sp.kept hb) (h.sp.below hb)
theorem RuSt.start (h : SpOk w0 B S km A Mo τ) : RuSt w0 w0 B S km A Mo τ (.slice none 0 0) [] (.slice none 0 0) [] :=
  ⟨h, KeptS.refl _ _ _, World.ownsRow_nil _ _ _ _, fun g hg => by simp [Value.ownBlock] at hg, World.ownsRow_nil _ _ _ _, fun g hg => by simp [Value.ownBlock] at hg, fun g hg => by simp [Value.ownBlock] at hg⟩
theorem OwnF.pushed {w w' : World} {v v' : Value} (h : OwnF A km S w v) (hf : ∀ k, Foreign A w k → Foreign A w' k) (hn : ∀ k, w.heap.size ≤ k → k < w'.heap.size → Foreign A w' k ∧ k ≠ km ∧ k ≠ S) (hm : Moved v v' w.heap.size) (hl : ∀ g, v'.ownBlock = some g → g < w'.heap.size) : OwnF A km S w' v' := fun g hg => by
  rcases hm with hm | hm
  · have := h g (by rw [← hm]; exact hg)
    exact ⟨hf g this.1, this.2⟩
  · exact hn g (hm g hg) (hl g hg)
theorem RuSt.pushOut {ov sv ov' : Value} {ns : List Nat} {D : List RuleV} {w' : World} {n : Nat} (h : RuSt w0 wr B S km A Mo τ ov ns sv D) (ho : w'.ownsRow w0.heap.size 3 1 ov' (ns.length + 1) (ncl ns ++ [.int .i64 (n : Int)])) (hg : wr.grownBy w' ov.ownBlock) (hm : Moved ov ov' wr.heap.size) :
    RuSt w0 w' B S km A Mo τ ov' (ns ++ [n]) sv D := by
  obtain ⟨s1, s2, s3⟩ := h.sp.others hg h.outf
  have hk := h.kept.others hg (fun g hg => (h.out.lt g hg).1) s2
  have hsame : ∀ g, sv.ownBlock = some g → w'.heap[g]? = wr.heap[g]? := fun g hgs => hg.block g (h.seen.lt g hgs).2 (fun e => h.dis g e.symm hgs)
  refine ⟨s1, hk, ?_, h.outf.pushed s2 s3 hm (fun g hg => (ho.lt g hg).2), owns_like h.seen hsame, fun g hgs => ⟨s2 g (h.seenf g hgs).1, (h.seenf g hgs).2⟩, fun g hgo hgs => ?_⟩
  · rw [List.length_append]
    have e : ncl (ns ++ [n]) = ncl ns ++ [.int .i64 (n : Int)] := by simp [ncl]
    rw [e]
    exact ho
  · rcases hm with hm | hm
    · exact h.dis g (by rw [← hm]; exact hgo) hgs
    · have := hm g hgo
      have := (h.seen.lt g hgs).2
      omega
theorem RuSt.pushSeen {ov sv sv' : Value} {ns : List Nat} {D : List RuleV} {w' : World} {r : RuleV} (h : RuSt w0 wr B S km A Mo τ ov ns sv D) (ho : w'.ownsRow w0.heap.size 74 10 sv' (D.length + 1) (rcells D ++ r.enc)) (hg : wr.grownBy w' sv.ownBlock) (hm : Moved sv sv' wr.heap.size) :
    RuSt w0 w' B S km A Mo τ ov ns sv' (D ++ [r]) := by
  obtain ⟨s1, s2, s3⟩ := h.sp.others hg h.seenf
  have hk := h.kept.others hg (fun g hg => (h.seen.lt g hg).1) s2
  have hsame : ∀ g, ov.ownBlock = some g → w'.heap[g]? = wr.heap[g]? := fun g hgo => hg.block g (h.out.lt g hgo).2 (fun e => h.dis g hgo e.symm)
  refine ⟨s1, hk, owns_like h.out hsame, fun g hgo => ⟨s2 g (h.outf g hgo).1, (h.outf g hgo).2⟩, ?_, h.seenf.pushed s2 s3 hm (fun g hg => (ho.lt g hg).2), fun g hgo hgs => ?_⟩
  · rw [List.length_append]
    have e : rcells (D ++ [r]) = rcells D ++ r.enc := by simp [rcells]
    rw [e]
    exact ho
  · rcases hm with hm | hm
    · exact h.dis g hgo (by rw [← hm]; exact hgs)
    · have := hm g hgs
      have := (h.out.lt g hgo).2
      omega
end
end Go.Proofs.YtdjikiakcfbklaaGreat

/-
  Joined texts: Bm1, TailQ, Mix0, Bm2, Bm3, Bm4.
-/
import Derived.Test.YtcchiagclhkieaaMRelNames1
import Derived.StillTailTactics
import Derived.Deep.RegionHeldLaw
import Derived.Deep.RegionLaw
import Derived.Deep.DeepCutAuto
import Derived.StillTail
import Derived.Deep.QuietTactic
import Derived.BigQuiet
import Derived.Lib.QuietBelow
import Derived.OrdersHeld
import Derived.Deep.RegionHeld3
import Derived.WalkLawsBesides
import Derived.Deep.CutBlock
/-
  The walks of the arena's mk and cut.
-/
namespace Go.Proofs.Ytcchiagclhkieaa
open Go Go.RowKit Go.ChangeMaps Go.MapKept Go.Maps Go.Lib Go.Sort

theorem Try.infoNode : (Try.prog.info? 92).map (fun i => (i.zero, i.size, i.bytes)) = some (some (.agg #[.int .i32 0, .int .i32 0, .int .i32 0]), 3, 12) := by kernel_rfl
/-- An append of one element to a row of the call's own: it tells whether the row has moved. -/
theorem run_append_moved {P : Program} {w0 : World} (t ty e : TypeId) (i : TypeInfo) (z : Value) (size bytes : Nat) (ht : P.underlying t = some (.slice e)) (hi : P.info? e = some i) (hz : i.zero = some z)
    (hsize : i.size = size) (hby : i.bytes = bytes) (hzs : z.cells.size = size) (hsz : 0 < size) (hb64 : bytes ≤ 64)
    {base n g cap : Nat} {xs : List Value} (hown : w0.ownsRow base e size (.slice (some ⟨g, 0, none⟩) n cap) n xs) (es : List Value) (hes : es.length = size) (h1 : ∀ u ∈ es, u.oneCell' = true) (hn : n ≤ 1099511627776) (hbase : base ≤ w0.heap.size) :
    ∃ v' w', (Builtin.append_ #[t, t] ty #[.slice (some ⟨g, 0, none⟩) n cap, .slice (some ⟨w0.heap.size, 0, none⟩) 1 1]).run P (w0.alloc (.cells es.toArray e)) = .ok v' w' ∧ w'.ownsRow base e size v' (n + 1) (xs ++ es) ∧
      w0.grownBy w' (some g) ∧ Moved (.slice (some ⟨g, 0, none⟩) n cap) v' w0.heap.size := by
  have hb2 : (n + 1) * bytes ≤ 140737488355328 :=
    calc (n + 1) * bytes ≤ (1099511627776 + 1) * 64 := Nat.mul_le_mul (by omega) hb64
      _ ≤ 140737488355328 := by decide
  have hownA := hown.alloc (.cells es.toArray e)
  have hgA : w0.grownBy (w0.alloc (.cells es.toArray e)) none := World.grownBy_alloc w0 _ none
  have hnew := cells_new w0 es e
  by_cases hroom : n + 1 ≤ cap
  · obtain ⟨w', hr, h2, h3⟩ := run_append_fits (P := P) _ base t ty e i size ht hi hsize g n cap xs hownA ⟨w0.heap.size, 0, none⟩ 1 1 es (by omega) hnew h1 hroom
    exact ⟨_, w', hr, h2, (grown_none hgA _).trans h3, .inl rfl⟩
  · obtain ⟨v', w', hr, h2, h3⟩ := run_append_arg_grows (P := P) (w0.alloc (.cells es.toArray e)) t ty e i z size bytes ht hi hz hsize hby hzs hsz ⟨g, 0, none⟩ n cap xs hown.1
      (fun j u hu => hownA.cells rfl j u hu) ⟨w0.heap.size, 0, none⟩ 1 1 es (by omega) hnew (by omega) (by unfold maxLen; omega) hb2
    refine ⟨v', w', hr, owns_base h2 (by simp; omega), grown_none (hgA.trans h3) _, .inr fun g' hg' => ?_⟩
    have := (h2.lt g' hg').1
    simp at this; omega
/-- .. as one step of a region that draws its order. -/
theorem step_append_moved {P : Program} {ops : Array Oper} {o : Oper} {a : Act} {K : Act → World → Prop} {Q : Exit → Act → World → Prop} {E : Prop}
    (hg : o.guard = none) (s x : Operand) (t : TypeId) (hop : o.op = Op.call { callee := Callee.builtin Builtin.append, args := #[s, x], argTypes := #[t, t] })
    {w0 : World} (e : TypeId) (i : TypeInfo) (z : Value) (size bytes : Nat) (ht : P.underlying t = some (.slice e)) (hi : P.info? e = some i) (hz : i.zero = some z)
    (hsize : i.size = size) (hby : i.bytes = bytes) (hzs : z.cells.size = size) (hsz : 0 < size) (hb64 : bytes ≤ 64)
    {base n g cap : Nat} {xs : List Value} (hown : w0.ownsRow base e size (.slice (some ⟨g, 0, none⟩) n cap) n xs) (es : List Value) (hes : es.length = size) (h1 : ∀ u ∈ es, u.oneCell' = true) (hn : n ≤ 1099511627776) (hbase : base ≤ w0.heap.size)
    (hs : a.eval s = .slice (some ⟨g, 0, none⟩) n cap) (hx : a.eval x = .slice (some ⟨w0.heap.size, 0, none⟩) 1 1)
    (hK : ∀ v' w', w'.ownsRow base e size v' (n + 1) (xs ++ es) → w0.grownBy w' (some g) → Moved (.slice (some ⟨g, 0, none⟩) n cap) v' w0.heap.size → K (a.put o.dst v') w') :
    if Region.wanted o (yielded ops a.tmps) = true then Oper.wp P o a (w0.alloc (.cells es.toArray e)) K Q else E := by
  have hw : Region.wanted o (yielded ops a.tmps) = true := by simp [Region.wanted, hg]
  rw [if_pos hw]
  obtain ⟨v', w', hrun, r1, r2, r3⟩ := run_append_moved (P := P) t o.type e i z size bytes ht hi hz hsize hby hzs hsz hb64 hown es hes h1 hn hbase
  unfold Oper.wp
  simp [execOp, hop, resolve, invoke, builtin, hs, hx, hrun, Result.andThen]
  exact hK v' w' r1 r2 r3
/-- A row stays where its block stays. -/
theorem owns_like {w w' : World} {base : Nat} {e : TypeId} {size n : Nat} {v : Value} {xs : List Value} (h : w.ownsRow base e size v n xs) (hs : ∀ g, v.ownBlock = some g → w'.heap[g]? = w.heap[g]?) : w'.ownsRow base e size v n xs := by
  refine ⟨h.1, h.2.imp id ?_⟩
  rintro ⟨g, cap, cur, rfl, hbg, hg, r⟩
  exact ⟨g, cap, cur, rfl, hbg, (hs g rfl).trans hg, r⟩
/-- The arena behind an append to its nodes. -/
theorem ArNv.pushed {w w5 : World} {B : Nat} {A : Blks} {V Mo : Nat} {N : List Nd} {H G : List Nat} {g cp : Nat} {v5 : Value} (h : ArNv w B A V Mo N H G (.slice (some ⟨g, 0, none⟩) N.length cp)) {x : Nd}
    (hown : w5.ownsRow B 92 3 v5 (N.length + 1) (ncells N ++ ncell x)) (hg : w.grownBy w5 (some g)) (hm : Moved (.slice (some ⟨g, 0, none⟩) N.length cp) v5 w.heap.size) :
    (w5.setCell ⟨A.a, 2, none⟩ v5).heap[A.a]? = some (.cells (arCells V Mo v5 A) 99 (0, 0)) ∧ (w5.setCell ⟨A.a, 2, none⟩ v5).ownsRow B 92 3 v5 (N.length + 1) (ncells N ++ ncell x) ∧
      (∀ k, k < w.heap.size → k ≠ g → k ≠ A.a → (w5.setCell ⟨A.a, 2, none⟩ v5).heap[k]? = w.heap[k]?) ∧ (∀ k, k < w.heap.size → k ≠ g → v5.ownBlock ≠ some k) ∧ Kept A w (w5.setCell ⟨A.a, 2, none⟩ v5) ∧ w5.frozen? ⟨A.a, 2, none⟩ = false ∧ w5.cell? ⟨A.a, 2, none⟩ = some (.slice (some ⟨g, 0, none⟩) N.length cp) ∧ w.heap.size ≤ w5.heap.size := by
  have hga : g ≠ A.a := fun e => h.off A.a (by simp [Blks.list]) (by rw [e]; rfl)
  have hA := lt_of_block h.cells
  have hk5 : ∀ k, k < w.heap.size → k ≠ g → w5.heap[k]? = w.heap[k]? := fun k hk hkg => hg.block k hk (fun e => hkg (by injection e))
  have hoff : ∀ k, k < w.heap.size → k ≠ g → v5.ownBlock ≠ some k := fun k hk hkg e => by
    rcases hm with hm | hm
    · rw [hm] at e
      have : some g = some k := e
      injection this with this
      exact hkg this.symm
    · have := hm k e; omega
  have c5 := (hk5 A.a hA hga.symm).trans h.cells
  have c6 : (w5.setCell ⟨A.a, 2, none⟩ v5).heap[A.a]? = some (.cells (arCells V Mo v5 A) 99 (0, 0)) := set_at c5
  have rest : ∀ k, k < w.heap.size → k ≠ g → k ≠ A.a → (w5.setCell ⟨A.a, 2, none⟩ v5).heap[k]? = w.heap[k]? := fun k hk hkg hka => (Below.heap_setCell w5 ⟨A.a, 2, none⟩ v5 k hka).trans (hk5 k hk hkg)
  have hs5 := hg.size
  refine ⟨c6, owns_like hown (fun k hk => Below.heap_setCell w5 ⟨A.a, 2, none⟩ v5 k (fun e => hoff A.a hA hga.symm (by rw [hk, e]))), rest, hoff, ⟨hg.os, hg.tape, hg.output, by simpa [World.setCell] using hs5, fun k hk => ?_⟩, frozen_of_row w5 _ 2 _ _ c5, by rw [cell_of_row w5 _ 2 _ _ (0, 0) c5]; rfl, hs5⟩
  obtain ⟨hk1, hk2, hk3⟩ := hk
  have hkg : k ≠ g := fun e => hk3 _ h.cell2 (by rw [e]; rfl)
  have hka : k ≠ A.a := fun e => hk2 (by rw [e]; simp [Blks.list])
  refine ⟨rest k hk1 hkg hka, by have : w5.heap.size = (w5.setCell ⟨A.a, 2, none⟩ v5).heap.size := by simp [World.setCell]
                                 omega, hk2, fun u hu => ?_⟩
  rw [cell_of_row _ _ 2 _ _ (0, 0) c6] at hu
  have hu : some v5 = some u := hu
  injection hu with hu
  subst hu
  exact hoff k hk1 hkg
theorem MemoOk.ext {N N' : List Nd} {l : List (Value × Value)} (h : MemoOk N l) (e : Ext N N') (w : WF N) (w' : WF N') : MemoOk N' l := by
  intro f g k u hu
  obtain ⟨r, h0, h1, h2, h3, h4, h5⟩ := h f g k u hu
  have := e.len
  refine ⟨r, h0, by omega, by omega, by omega, by omega, fun s => ?_⟩
  rw [e.ev w w' s h4, e.ev w w' s h1, e.ev w w' s h2, e.ev w w' s h3]
  exact h5 s
theorem ByOk.snoc {N : List Nd} (h2 : 2 ≤ N.length) {l : List (Value × Value)} (h : ByOk N l) (hn : (l.map (·.1)).Nodup) {x : Nd} (hnew : ∀ i, 2 ≤ i → i < N.length → nd N i ≠ x) : ByOk (N ++ [x]) (putM l (ndV x) (.int .i32 N.length)) := by
  refine ⟨fun i h2 hi => ?_, fun n u hu => ?_⟩
  · rcases Nat.lt_or_ge i N.length with hl | hl
    · rw [nd_append [x] hl, getM_put_other _ _ _ (fun e => hnew i h2 hl (ndV_inj e))]
      exact h.1 i h2 hl
    · obtain rfl : i = N.length := by simp at hi; omega
      rw [nd_last, getM_put_same _ _ _ hn]
  · by_cases hx : n = x
    · subst hx
      exact ⟨N.length, h2, by simp, nd_last _ _⟩
    · rw [getM_put_other _ _ _ (fun e => hx (ndV_inj e))] at hu
      obtain ⟨i, a, b, c⟩ := h.2 n u hu
      exact ⟨i, a, by simp; omega, (nd_append [x] b).trans c⟩
theorem Kept.of_map {A : Blks} {w w' : World} {k : Nat} (hm : k ∈ A.list) (hka : k ≠ A.a) (ha : A.a < w.heap.size) (hg : w.grownBy w' (some k)) : Kept A w w' :=
  ⟨hg.os, hg.tape, hg.output, hg.size, fun j hj => ⟨hg.block j hj.1 (fun e => hj.2.1 (by injection e with e; rw [e]; exact hm)), Nat.lt_of_lt_of_le hj.1 hg.size, hj.2.1, fun nv hnv => hj.2.2 nv (by
    rw [← hnv]
    unfold World.cell?
    rw [hg.block A.a ha (fun e => hka (by injection e with e; exact e.symm))])⟩⟩
theorem Blks.ne {A : Blks} (h : A.list.Nodup) : A.a ≠ A.b ∧ A.a ≠ A.i ∧ A.a ≠ A.g ∧ A.a ≠ A.h ∧ A.b ≠ A.i ∧ A.b ≠ A.g ∧ A.b ≠ A.h ∧ A.i ≠ A.g ∧ A.i ≠ A.h ∧ A.g ≠ A.h := by
  unfold Blks.list at h
  simp only [List.nodup_cons, List.mem_cons, List.not_mem_nil, or_false, not_or] at h
  obtain ⟨⟨a, b, c, d⟩, ⟨e, f, g⟩, ⟨i, j⟩, k, _⟩ := h
  exact ⟨a, b, c, d, e, f, g, i, j, k⟩
/-- The arena with a node more. -/
theorem ArNv.grown {w w6 w7 : World} {B : Nat} {A : Blks} {V Mo : Nat} {N : List Nd} {H G : List Nat} {g cp : Nat} {v5 : Value} (h : ArNv w B A V Mo N H G (.slice (some ⟨g, 0, none⟩) N.length cp)) {x : Nd} {l : List (Value × Value)}
    (p1 : w6.heap[A.a]? = some (.cells (arCells V Mo v5 A) 99 (0, 0))) (p2 : w6.ownsRow B 92 3 v5 (N.length + 1) (ncells N ++ ncell x))
    (p3 : ∀ k, k < w.heap.size → k ≠ g → k ≠ A.a → w6.heap[k]? = w.heap[k]?) (p4 : ∀ k, k < w.heap.size → k ≠ g → v5.ownBlock ≠ some k) (hsz : w.heap.size ≤ w6.heap.size)
    (hby : ByOk N l) (hn : (l.map (·.1)).Nodup) (hmap : MapAt Try.prog 92 w7 A.b (putM l (ndV x) (.int .i32 N.length))) (hg : w6.grownBy w7 (some A.b)) (wf : WF (N ++ [x])) (hle : N.length ≤ 2147483646)
    (hnew : ∀ i, 2 ≤ i → i < N.length → nd N i ≠ x) : ArNv w7 B A V Mo (N ++ [x]) H G v5 := by
  obtain ⟨n1, n2, n3, n4, n5, n6, n7, _⟩ := Blks.ne h.nodup
  obtain ⟨lb, hlb, _⟩ := h.by_
  obtain ⟨li, hli, hmo⟩ := h.ites
  have gk : ∀ k ∈ A.list, k ≠ g := fun k hk e => h.off k hk (by rw [e]; rfl)
  have s7 : ∀ k, k < w6.heap.size → k ≠ A.b → w7.heap[k]? = w6.heap[k]? := fun k hk hkb => hg.block k hk (fun e => hkb (by injection e))
  have keep : ∀ k ∈ A.list, k < w.heap.size → k ≠ A.a → k ≠ A.b → w7.heap[k]? = w.heap[k]? := fun k hk hks hka hkb => (s7 k (by omega) hkb).trans (p3 k hks (gk k hk) hka)
  have ha := lt_of_block h.cells
  refine ⟨(s7 A.a (by omega) n1).trans p1, ?_, ⟨_, hmap, ByOk.snoc h.wf.two hby hn hnew⟩, ⟨li, hli.same (keep A.i (by simp [Blks.list]) hli.lt n2.symm n5.symm), hmo.ext ⟨_, rfl⟩ h.wf wf⟩,
    h.given.same (keep A.g (by simp [Blks.list]) h.given.lt n3.symm n6.symm), h.held.same (keep A.h (by simp [Blks.list]) h.held.lt n4.symm n7.symm), h.nodup, h.base, ?_, wf, by simp; omega⟩
  · rw [ncells_snoc, List.length_append]
    refine owns_like p2 fun k hk => s7 k (p2.lt k hk).2 fun e => ?_
    exact p4 A.b hlb.lt (gk A.b (by simp [Blks.list])) (by rw [hk, e])
  · intro k hk e
    have hks : k < w.heap.size := by
      have hk' : k = A.a ∨ k = A.b ∨ k = A.i ∨ k = A.g ∨ k = A.h := by simpa [Blks.list] using hk
      have := hlb.lt
      have := hli.lt
      have := h.given.lt
      have := h.held.lt
      omega
    exact p4 k hks (gk k hk) e
def MkRes (w : World) (B : Nat) (A : Blks) (V Mo : Nat) (N : List Nd) (H G : List Nat) (v lo hi : Nat) (e : Ending) (w' : World) : Prop :=
  ∃ (r : Nat) (N' : List Nd), e = .returned (.int .i32 r) ∧ MkTo N v lo hi r N' ∧ ArAt w' B A V Mo N' H G ∧ Kept A w w'
theorem ArNv.cellAt {w : World} {B : Nat} {A : Blks} {V Mo : Nat} {N : List Nd} {H G : List Nat} {nv : Value} (h : ArNv w B A V Mo N H G nv) {j : Nat} {u : Value} (hu : (arCells V Mo nv A)[j]? = some u) : w.cell? ⟨A.a, j, none⟩ = some u := by
  rw [cell_of_row w _ j _ _ (0, 0) h.cells]; exact hu
set_option maxRecDepth 100000 in
set_option maxHeartbeats 4000000 in
theorem mk_any {w : World} {B : Nat} {A : Blks} {V Mo : Nat} {N : List Nd} {H G : List Nat} (v lo hi : Nat) (h : ArAt w B A V Mo N H G) (hlo : lo < N.length) (hhi : hi < N.length) (hv : v ≤ 256)
    (hvl : v < (nd N lo).v) (hvh : v < (nd N hi).v) (hcap : ∀ r N', MkTo N v lo hi r N' → N'.length ≤ 2147483647) :
    Calls Try.prog 51 #[A.val, .int .i32 v, .int .i32 lo, .int .i32 hi] w (MkRes w B A V Mo N H G v lo hi) := by
  obtain ⟨nv, hA⟩ := h
  have hle := hA.le
  by_cases heq : lo = hi
  · have h1 : ((lo : Int) == (hi : Int)) = true := by simp [heq]
    have HA := Lib.hid hA
    have HQ := Lib.hid heq
    clear hA heq hcap
    unfold Blks.val
    go_enter Try.func51, Try.ntmps51
    go_wp2
    go_ret
    exact ⟨lo, N, rfl, .inl ⟨HQ.out, rfl, rfl⟩, ⟨nv, HA.out⟩, Kept.refl _ _⟩
  · have h1 : ((lo : Int) == (hi : Int)) = false := by simp; omega
    have hv1 := hA.wf.v256 lo
    have hA1 := hA.below (below1 w (.cells #[.int .i32 v, .int .i32 lo, .int .i32 hi] 92))
    have kb := blk1 w (.cells #[.int .i32 v, .int .i32 lo, .int .i32 hi] 92)
    have hk0 := Kept.of_below (A := A) (lt_of_block hA.cells) (below1 w (.cells #[.int .i32 v, .int .i32 lo, .int .i32 hi] 92))
    have hfor : Foreign A (w.alloc (.cells #[.int .i32 v, .int .i32 lo, .int .i32 hi] 92)) w.heap.size := ⟨by simp, fun hm => by
      have hm' : w.heap.size = A.a ∨ w.heap.size = A.b ∨ w.heap.size = A.i ∨ w.heap.size = A.g ∨ w.heap.size = A.h := by simpa [Blks.list] using hm
      obtain ⟨lb, hlb, _⟩ := hA.by_
      obtain ⟨li, hli, _⟩ := hA.ites
      have := lt_of_block hA.cells
      have := hlb.lt
      have := hli.lt
      have := hA.given.lt
      have := hA.held.lt
      omega, fun u hu => by
      rw [hA1.cell2] at hu
      injection hu with hu
      subst hu
      intro hh
      have := (hA.row.lt _ hh).2
      omega⟩
    obtain ⟨kl, hkey⟩ := key_node (n := ⟨v, lo, hi⟩) (by show v ≤ _; omega) (by show lo ≤ _; omega) (by show hi ≤ _; omega)
    have HA1 := Lib.hid hA1
    have HK0 := Lib.hid hk0
    have HFO := Lib.hid hfor
    have HQ := Lib.hid heq
    have HC := Lib.hid hcap
    have HKB := Lib.hid kb
    clear hA1 hk0 hfor heq hcap kb hA
    unfold Blks.val
    go_enter Try.func51, Try.ntmps51
    go_wp2
    generalize w.alloc (.cells #[.int .i32 v, .int .i32 lo, .int .i32 hi] 92) = W1 at *
    obtain ⟨l, hl, hby⟩ := HA1.out.by_
    have hlook : ∀ d os, (Instr.lookup 94 (.map (some A.b)) (.agg #[.int .i32 v, .int .i32 lo, .int .i32 hi]) true).run Try.prog (grow (redrawn W1 d) os) = .ok (.tuple #[(getM l (ndV ⟨v, lo, hi⟩)).getD (.int .i32 0), .bool (getM l (ndV ⟨v, lo, hi⟩)).isSome]) (grow (redrawn W1 d) os) := fun d os =>
      (hl.same ((below_regrown W1 d os).block _ hl.lt)).look node_keyed Try.underlying94 (zero_i32 _) true hkey
    have c3 : W1.cell? ⟨A.a, 3, none⟩ = some (.map (some A.b)) := HA1.out.cellAt rfl
    obtain ⟨n0, n1, n2⟩ : W1.cell? ⟨w.heap.size, 0, none⟩ = some (.int .i32 v) ∧ W1.cell? ⟨w.heap.size, 1, none⟩ = some (.int .i32 lo) ∧ W1.cell? ⟨w.heap.size, 2, none⟩ = some (.int .i32 hi) :=
      ⟨by rw [cell_of_row W1 _ 0 _ _ (0, 0) HKB.out]; rfl, by rw [cell_of_row W1 _ 1 _ _ (0, 0) HKB.out]; rfl, by rw [cell_of_row W1 _ 2 _ _ (0, 0) HKB.out]; rfl⟩
    have C3 := cell_regrown c3
    have N0 := cell_regrown n0
    have N1 := cell_regrown n1
    have N2 := cell_regrown n2
    cases hgm : getM l (ndV ⟨v, lo, hi⟩) with
    | some u =>
      obtain ⟨i, hi2, hiN, hin⟩ := hby.2 _ _ hgm
      have hu := hby.1 i hi2 hiN
      rw [hin, hgm] at hu
      injection hu with hu
      subst hu
      rw [hgm] at hlook
      have hlook : ∀ d os, (Instr.lookup 94 (.map (some A.b)) (.agg #[.int .i32 v, .int .i32 lo, .int .i32 hi]) true).run Try.prog (grow (redrawn W1 d) os) = .ok (.tuple #[.int .i32 i, .bool true]) (grow (redrawn W1 d) os) := hlook
      have HIN := Lib.hid hin
      clear hby hgm hl hin
      refine wp_region_quiet_below (by kernel_rfl) (by kernel_rfl) ?_
      repeat (first | go_big_quiet_step (fail) | quiet_step (fail))
      refine wpQuiet_nil ?_
      intro _ hw'
      obtain ⟨⟨nq, osq⟩, hw''⟩ := hw'
      subst hw''
      have hq := below_regrown W1 nq osq
      have HR := Lib.hid (HA1.out.below hq)
      have HK := Lib.hid (HK0.out.trans (Kept.of_below (A := A) (lt_of_block HA1.out.cells) hq))
      clear hlook C3 N0 N1 N2 c3 n0 n1 n2 hq
      generalize grow (redrawn W1 nq) osq = W2 at *
      go_wp2
      go_ret
      exact ⟨i, N, rfl, .inr (.inl ⟨HQ.out, hi2, hiN, HIN.out, rfl⟩), ⟨nv, HR.out⟩, HK.out⟩
    | none =>
      rw [hgm] at hlook
      have hlook : ∀ d os, (Instr.lookup 94 (.map (some A.b)) (.agg #[.int .i32 v, .int .i32 lo, .int .i32 hi]) true).run Try.prog (grow (redrawn W1 d) os) = .ok (.tuple #[.int .i32 0, .bool false]) (grow (redrawn W1 d) os) := hlook
      have HGM := Lib.hid hgm
      have HBY := Lib.hid hby
      clear hby hgm hl
      refine wp_region_quiet_below (by kernel_rfl) (by kernel_rfl) ?_
      repeat (first | go_big_quiet_step (fail) | quiet_step (fail))
      refine wpQuiet_nil ?_
      intro _ hw'
      obtain ⟨⟨nq, osq⟩, hw''⟩ := hw'
      subst hw''
      have hq := below_regrown W1 nq osq
      have hA2 := HA1.out.below hq
      have hKB2 := blk_below hq HKB.out
      have hK2 := HK0.out.trans (Kept.of_below (A := A) (lt_of_block HA1.out.cells) hq)
      have hfo2 := (Kept.of_below (A := A) (lt_of_block HA1.out.cells) hq).same _ HFO.out
      clear hlook C3 N0 N1 N2 c3 n0 n1 n2 hq HA1 HKB HK0 HFO
      generalize grow (redrawn W1 nq) osq = W2 at *
      have hN2 := hA2.wf.two
      obtain ⟨A3, cp, rfl, hA3⟩ := owns_form hA2.row
      obtain ⟨g, rfl⟩ := hA3 (by omega)
      have c2 : W2.cell? ⟨A.a, 2, none⟩ = some (.slice (some ⟨g, 0, none⟩) N.length cp) := hA2.cellAt rfl
      obtain ⟨n0, n1, n2⟩ : W2.cell? ⟨w.heap.size, 0, none⟩ = some (.int .i32 v) ∧ W2.cell? ⟨w.heap.size, 1, none⟩ = some (.int .i32 lo) ∧ W2.cell? ⟨w.heap.size, 2, none⟩ = some (.int .i32 hi) :=
        ⟨by rw [cell_of_row W2 _ 0 _ _ (0, 0) hKB2]; rfl, by rw [cell_of_row W2 _ 1 _ _ (0, 0) hKB2]; rfl, by rw [cell_of_row W2 _ 2 _ _ (0, 0) hKB2]; rfl⟩
      have HR := Lib.hid hA2
      have HKB := Lib.hid hKB2
      have HK := Lib.hid hK2
      have HFO := Lib.hid hfo2.2
      have hlen : N.length ≤ 2147483646 := by
        have hnew : ∀ i, 2 ≤ i → i < N.length → nd N i ≠ ⟨v, lo, hi⟩ := fun i h2 hi hh => by
          have h1 := HBY.out.1 i h2 hi
          rw [hh, HGM.out] at h1
          cases h1
        have := HC.out N.length (N ++ [⟨v, lo, hi⟩]) (.inr (.inr ⟨HQ.out, hnew, rfl, rfl⟩))
        simp at this
        omega
      clear hA2 hKB2 hK2 hfo2 hA3
      go_upto_region 7 with fail
      have hg0 := (HR.out.row.lt g rfl).2
      have hgA : g ≠ A.a := fun e => HR.out.off A.a (by simp [Blks.list]) (by rw [e]; rfl)
      have hgn : g ≠ w.heap.size := fun e => HFO.out.2.2 _ c2 (by rw [e]; rfl)
      have hAn : A.a ≠ w.heap.size := fun e => HFO.out.2.1 (by rw [← e]; simp [Blks.list])
      have hAs := lt_of_block HR.out.cells
      have hns := HFO.out.1
      obtain ⟨i0, hif, hz0, hz1, hz2⟩ := info_parts Try.infoNode
      have hBs : B ≤ W2.heap.size := by have := HR.out.base A.a (by simp [Blks.list]); omega
      have hRd : ArNv W2.drew B A V Mo N H G (.slice (some ⟨g, 0, none⟩) N.length cp) := HR.out.below ⟨rfl, rfl, rfl, Nat.le_refl _, fun _ _ => rfl⟩
      have HRd := Lib.hid hRd
      clear hRd
      go_region_law ((
        refine step_append_moved rfl (.tmp 41) (.tmp 43) 93 rfl 92 i0 _ 3 12 Try.underlying93 hif hz0 hz1 hz2 rfl (by decide) (by decide) (w0 := W2.drew) HRd.out.row (ncell ⟨v, lo, hi⟩) rfl (ncell_one _) (by omega) hBs rfl rfl ?_
        intro v5 w5 hown5 hgr5 hmv5
        obtain ⟨p1, p2, p3, p4, p5, hf5, hc5, p7⟩ := HRd.out.pushed hown5 hgr5 hmv5
        obtain ⟨Ax, cx, hv5, _⟩ := owns_form hown5
        subst hv5
        have P1 := Lib.hid p1
        have P2 := Lib.hid p2
        have P3 := Lib.hid p3
        have P4 := Lib.hid p4
        have P5 := Lib.hid p5
        clear hown5 hgr5 hmv5 p1 p2 p3 p4 p5))
      all_goals
        generalize w5.setCell ⟨A.a, 2, none⟩ (.slice Ax (N.length + 1) cx) = W6 at *
        obtain ⟨l2, hl2, hby2⟩ := HRd.out.by_
        have hnd2 : (l2.map (·.1)).Nodup := by obtain ⟨_, _, _, _, _, h4⟩ := hl2; exact h4
        have hnew : ∀ i, 2 ≤ i → i < N.length → nd N i ≠ ⟨v, lo, hi⟩ := fun i h2 hi hh => by
          have h1 := HBY.out.1 i h2 hi
          rw [hh, HGM.out] at h1
          cases h1
        have hbg : A.b ≠ g := fun e => HRd.out.off A.b (by simp [Blks.list]) (by rw [e]; rfl)
        have hba : A.b ≠ A.a := (Blks.ne HRd.out.nodup).1.symm
        have hl6 : MapAt Try.prog 92 W6 A.b l2 := hl2.same (P3.out A.b hl2.lt hbg hba)
        have c3 : W6.cell? ⟨A.a, 3, none⟩ = some (.map (some A.b)) := by rw [cell_of_row W6 _ 3 _ _ (0, 0) P1.out]; rfl
        have kb6 := (P3.out w.heap.size (show w.heap.size < W2.heap.size from hns) hgn.symm hAn.symm).trans HKB.out
        obtain ⟨m0, m1, m2⟩ : W6.cell? ⟨w.heap.size, 0, none⟩ = some (.int .i32 v) ∧ W6.cell? ⟨w.heap.size, 1, none⟩ = some (.int .i32 lo) ∧ W6.cell? ⟨w.heap.size, 2, none⟩ = some (.int .i32 hi) :=
          ⟨by rw [cell_of_row W6 _ 0 _ _ (0, 0) kb6]; rfl, by rw [cell_of_row W6 _ 1 _ _ (0, 0) kb6]; rfl, by rw [cell_of_row W6 _ 2 _ _ (0, 0) kb6]; rfl⟩
        have HL6 := Lib.hid hl6
        have HBY2 := Lib.hid hby2
        have HND2 := Lib.hid hnd2
        have HNEW := Lib.hid hnew
        clear hl2 hby2 hnd2 hnew hl6 kb6 hc5 hf5 hlook n0 n1 n2 c2
        go_wp2
        go_still_tail 6, (by kernel_rfl)
        change wpList _ _ _ _ _ W6.drew
        refine wpList_mapAt rfl _ _ _ 94 21 rfl node_keyed Try.underlying94 rfl (show MapAt _ _ W6.drew _ _ from HL6.out) (.agg #[.int .i32 v, .int .i32 lo, .int .i32 hi]) (.int .i32 N.length) kl rfl rfl hkey ?_
        intro w7 hm7 hg7
        have hg7' : W6.grownBy w7 (some A.b) := ⟨hg7.os, hg7.tape, hg7.output, hg7.size, hg7.block⟩
        have hwf := HRd.out.wf.snoc (x := ⟨v, lo, hi⟩) hlo hhi HQ.out hvl hvh HNEW.out
        have hfin := HRd.out.grown P1.out P2.out P3.out P4.out P5.out.size HBY2.out HND2.out hm7 hg7' hwf hlen HNEW.out
        have hkd : Kept A W2 W2.drew := Kept.of_below hAs ⟨rfl, rfl, rfl, Nat.le_refl _, fun _ _ => rfl⟩
        have ha6 : A.a < W6.heap.size := lt_of_block P1.out
        have hkept := HK.out.trans (hkd.trans (P5.out.trans (Kept.of_map (k := A.b) (by simp [Blks.list]) hba ha6 hg7')))
        have HFIN := Lib.hid hfin
        have HKEPT := Lib.hid hkept
        clear hfin hkept hkd hm7 hg7 hg7' hwf
        go_wp2
        go_ret
        exact ⟨N.length, N ++ [⟨v, lo, hi⟩], rfl, .inr (.inr ⟨HQ.out, HNEW.out, rfl, rfl⟩), ⟨_, HFIN.out⟩, HKEPT.out⟩
end Go.Proofs.Ytcchiagclhkieaa

/-
  A region that draws its order, with a head whose operations are quiet in a class of worlds and a tail in one forced order: no program in sight.
-/
namespace Go.Proofs.Ytcchiagclhkieaa
open Go Go.Sort

section
variable {P : Program} {ops : Array Oper} {md : Region.Mode} {C : World → Prop}
/-- The head, in whatever order, up to L. -/
def headQ (P : Program) (md : Region.Mode) (ops : Array Oper) (C : World → Prop) (n : Nat) (L : Array Bool → Act → Prop) : Nat → Array Bool → Act → Prop
  | 0, listed, a => L listed a
  | f + 1, listed, a => Region.ready md ops listed ≠ [] ∧ ∀ i, i ∈ Region.ready md ops listed → i < n ∧ qOp P ops C i (headQ P md ops C n L f (listed.setIfInBounds i true)) a
theorem any_of_headQ {n g : Nat} {L : Array Bool → Act → Prop} {K : Exit → Act → World → Prop} (hL : ∀ listed a w, C w → L listed a → wpAny P md ops K g listed a w) :
    ∀ (f : Nat) (listed : Array Bool) (a : Act) (w : World), C w → headQ P md ops C n L f listed a → wpAny P md ops K (f + g) listed a w
  | 0, listed, a, w, hw, h => by rw [Nat.zero_add]; exact hL _ _ _ hw h
  | f + 1, listed, a, w, hw, h => by
    have e : f + 1 + g = (f + g) + 1 := by omega
    rw [e]
    refine ⟨fun hn => absurd hn h.1, fun i hi => wpOp_of_qOp hw (fun a' w' hw' h' => any_of_headQ hL f _ a' w' hw' h') (h.2 i hi).2⟩
/-- An operation of the head that is ready may be taken first. -/
theorem headQ_first {n i : Nat} {oi : Oper} {v : Value} {L : Array Bool → Act → Prop} (hi : ops[i]? = some oi) (hsel : ∀ (j : Nat) (o : Oper) cs b, ops[j]? = some o → o.op ≠ .select cs b)
    (hs : Region.sinkB md ops n = true) (hc : Region.chainB md ops n = true) (hn : n < ops.size) (hin : i < n) (hend : ∀ listed a, L listed a → ∀ j ∈ Region.ready md ops listed, n ≤ j)
    (f : Nat) : ∀ (listed : Array Bool) (a : Act), HeadInv md ops n listed →
      (∀ j oj, ops[j]? = some oj → j ≠ i → listed.getD j true = false → (∀ e ∈ oj.after, Region.binds md e = true → e.on ≠ i) → oi.apart ops oj = true) →
      i ∈ Region.ready md ops listed → YieldsIn P ops C oi v a → headQ P md ops C n L f (listed.setIfInBounds i true) (a.put oi.dst v) → headQ P md ops C n L (f + 1) listed a := by
  induction f with
  | zero =>
    intro listed a inv _ hr hy H
    have hlow : ∀ j ∈ Region.ready md ops listed, j < n := fun j hj => (Nat.lt_or_ge j n).elim id fun h => absurd hj (tail_waits hs hc hn inv _ i rfl hin (mem_ready.1 hr).1 j h)
    refine ⟨fun h => (by rw [h] at hr; cases hr), fun j hj => ⟨hlow j hj, ?_⟩⟩
    by_cases hji : j = i
    · subst hji
      exact hy.qOp hi H
    · have h1 := hend _ _ H j (ready_mono hj hji)
      have h2 := hlow j hj
      omega
  | succ f ih =>
    intro listed a inv hfree hr hy H
    have hun := (mem_ready.1 hr).1
    have hlow : ∀ j ∈ Region.ready md ops listed, j < n := fun j hj => (Nat.lt_or_ge j n).elim id fun h => absurd hj (tail_waits hs hc hn inv _ i rfl hin hun j h)
    refine ⟨fun h => (by rw [h] at hr; cases hr), fun j hj => ⟨hlow j hj, ?_⟩⟩
    by_cases hji : j = i
    · subst hji
      exact hy.qOp hi H
    · obtain ⟨hjun, oj, hoj, hall⟩ := mem_ready.1 hj
      have hnot : ∀ e ∈ oj.after, Region.binds md e = true → e.on ≠ i := by
        intro e he hb heq
        have h1 := hall e he hb
        rw [heq, getD_both hun] at h1
        cases h1
      have hput := qOp_put hoj (hfree j oj hoj hji hjun hnot) (fun cs b => hsel i oi cs b hi) (fun cs b => hsel j oj cs b hoj) hy (H.2 j (ready_mono hj hji)).2
      refine qOp_mono (fun a' h3 => ih (listed.setIfInBounds j true) a' (inv.set hj (hlow j hj)) ?_ (ready_mono hr (Ne.symm hji)) h3.1 ?_) hput
      · intro k ok hk hki hku hno
        refine hfree k ok hk hki ?_ hno
        by_cases hjk : j = k
        · subst hjk; exact hjun
        · rw [getD_set_ne true hjk] at hku; exact hku
      · rw [Array.setIfInBounds_comm _ _ hji]
        exact h3.2
theorem headQ_lex {n g : Nat} {Lq : Act → Prop} (hsel : Region.noSelect ops = true) (hs : Region.sinkB md ops n = true) (hc : Region.chainB md ops n = true) (hn : n < ops.size) :
    ∀ (l : List Oper) (k : Nat) (listed : Array Bool) (a : Act), (∀ j, j < l.length → l[j]? = ops[k + j]?) → k + l.length = n → HeadInv md ops n listed →
    Region.lexHead md ops g l.length k listed = true → wpQuiet P ops C Lq l a →
    headQ P md ops C n (fun listed' a' => Region.seqB md ops g n listed' = true ∧ Lq a') l.length listed a := by
  intro l
  induction l with
  | nil =>
    intro k listed a _ hk _ hB h
    obtain rfl : k = n := by simpa using hk
    exact ⟨by simpa [Region.lexHead] using hB, h⟩
  | cons o l ih =>
    intro k listed a hl hk inv hB h
    have h0 : ops[k]? = some o := by simpa using (hl 0 (by simp)).symm
    simp only [List.length_cons, Region.lexHead, Bool.and_eq_true] at hB
    obtain ⟨⟨hr, hf⟩, hB'⟩ := hB
    have hkn : k < n := by simp only [List.length_cons] at hk; omega
    have hr' : k ∈ Region.ready md ops listed := by simpa using hr
    obtain ⟨v, hy, hK⟩ := yieldsIn_of_qOp (C := C) (P := P) (K := wpQuiet P ops C Lq l) h0 (by unfold qOp; simp only [h0]; exact h)
    refine headQ_first h0 (Region.noSelect_spec hsel) hs hc hn hkn (fun listed' a' hL => seqB_ready hL.1) l.length listed a inv (Region.free_spec h0 hf) hr' hy (ih (k + 1) _ _ (fun j hj => ?_) (by simp only [List.length_cons] at hk; omega) (inv.set hr' hkn) hB' hK)
    have h1 := hl (j + 1) (by simp; omega)
    simpa [Nat.add_assoc, Nat.add_comm 1 j] using h1
/-- A head that is quiet in the class, then the tail in its order, in any world of the class. -/
theorem wp_region_quiet_tail {id : Nat} {Q : Exit → Act → World → Prop} {a : Act} {w : World} {l : List Oper} (n : Nat) (hm : P.follows .mixedOrders = true) (hB : Region.lexTailB .any l.toArray n = true) (hC : C { w with drawn := w.drawn + 1 })
    (h : wpQuiet P l.toArray C (fun a' => ∀ w', C w' → wpList P l.toArray Q (l.drop n) a' w') (l.take n) a) : (Code.region id l.toArray true).wp P Q a w := by
  simp only [Region.lexTailB, Bool.and_eq_true, decide_eq_true_eq] at hB
  obtain ⟨⟨⟨⟨hsel, hn⟩, hs⟩, hc⟩, hlex⟩ := hB
  have hn' : n < l.length := by simpa using hn
  have htl : (l.take n).length = n := by simp; omega
  have hdl : (l.drop n).length = l.toArray.size - n := by simp
  have inv0 : HeadInv .any l.toArray n (Array.replicate l.toArray.size false) :=
    ⟨by simp, fun j oj _ hl => (by rw [getD_replicate_false] at hl; cases hl), fun t _ ht => getD_in (by simpa using ht) (getD_replicate_false _ _)⟩
  have H := headQ_lex (C := C) (P := P) (md := .any) (g := l.toArray.size - n) hsel hs hc hn (l.take n) 0 (Array.replicate l.toArray.size false) a (fun j hj => by
    have hj' : j < n := by rw [htl] at hj; exact hj
    simp [hj']) (by simpa using htl) inv0 (by rw [htl]; exact hlex) h
  refine wp_region_any hm ?_
  have H2 := any_of_headQ (K := Q) (g := l.toArray.size - n) (fun listed a' w' hw' hL => by
    have h2 := wpAny_of_seq (P := P) (Q' := Q) (l.drop n) n listed a' w' (fun j => by simp) (by rw [hdl]; exact hL.1) (hL.2 w' hw')
    rw [hdl] at h2
    exact h2) (l.take n).length (Array.replicate l.toArray.size false) a { w with drawn := w.drawn + 1 } hC H
  have e : (l.take n).length + (l.toArray.size - n) = l.toArray.size := by rw [htl]; simp; omega
  rw [e] at H2
  exact H2
/-- The same at the class of the worlds that are drawn and grown. -/
theorem wp_region_tail_below {id : Nat} {Q : Exit → Act → World → Prop} {a : Act} {w : World} {l : List Oper} (n : Nat) (hm : P.follows .mixedOrders = true) (hB : Region.lexTailB .any l.toArray n = true)
    (h : wpQuiet P l.toArray (fun w' => ∃ p : Regrown, w' = grow (redrawn w p.d) p.os) (fun a' => ∀ w', (∃ p : Regrown, w' = grow (redrawn w p.d) p.os) → wpList P l.toArray Q (l.drop n) a' w') (l.take n) a) : (Code.region id l.toArray true).wp P Q a w :=
  wp_region_quiet_tail (C := fun w' => ∃ p : Regrown, w' = grow (redrawn w p.d) p.os) n hm hB ⟨⟨w.drawn + 1, #[]⟩, by rw [grow_empty]; rfl⟩ h
end
end Go.Proofs.Ytcchiagclhkieaa

/-
  A region that draws its order, walked in the order of the text: plain operations, each of which may be taken first, and barriers, each of which comes up alone: no program in sight.
-/
namespace Go.Proofs.Ytcchiagclhkieaa
open Go Go.RowKit Go.Sort

section
variable {P : Program} {ops : Array Oper} {md : Region.Mode} {S : World → Prop} {Q : Exit → Act → World → Prop}
/-- An operation that hands back a value, or stops. -/
def plainB : Op → Bool
  | .nilCheck _ => true
  | .call c => (match c.callee with | .builtin .min => true | _ => false)
  | .move _ | .assign _ | .pick _ _ _ | .load _ _ | .fieldAddr _ _ _ | .indexAddr _ _ _ | .binOp _ _ _ _ _ | .unOp _ _ _ | .convert _ _ _ | .build _ _ | .extract _ _ => true
  | _ => false
theorem then_value {α : Type} {r : Result α} {f : α → Value} {n : Go.Next} {w' : World} (h : (r.andThen fun x v => .ok (Go.Next.value (f x)) v) = .ok n w') : ∃ v, n = .value v := by
  cases r with
  | ok x v => simp only [Result.andThen_ok] at h; injection h with h _; exact ⟨_, h.symm⟩
  | halt x v => cases h
theorem nil_value {ρ : Operand → Value} {x : Operand} {w w' : World} {n : Go.Next} {d : Option Tmp} {ty : TypeId} {po : String} {af : Array Edge} {gu : Option (Nat × Bool)} (hr : (execOp ρ ⟨d, .nilCheck x, ty, po, af, gu⟩).run P w = .ok n w') : ∃ v, n = .value v := by
  simp only [execOp] at hr
  have bnd : ∀ {α β : Type} (m : Sem α) (f : α → Sem β) (w0 w1 : World) (y : β), (m >>= f).run P w0 = .ok y w1 → ∃ x w2, (f x).run P w2 = .ok y w1 := fun m f w0 w1 y h => by
    rw [Sem.run_bind] at h
    cases hm : m.run P w0 with
    | ok x w2 => rw [hm] at h; exact ⟨x, w2, h⟩
    | halt a b => rw [hm] at h; cases h
  have pan : ((runtimePanic .nilDeref : Sem Go.Next).run P w = .ok n w') → ∃ v, n = .value v := fun he => by
    unfold runtimePanic at he
    obtain ⟨x, w2, h2⟩ := bnd _ _ _ _ _ he
    have h3 : (goPanic (α := Go.Next) (Value.iface x.rt.errorString (strVal "invalid memory address or nil pointer dereference"))).run P w2 = .ok n w' := h2
    cases h3
  split at hr
  · exact pan hr
  · exact pan hr
  · exact pan hr
  · split at hr
    · exact pan hr
    · obtain ⟨x1, w1, h1⟩ := bnd _ _ _ _ _ hr
      obtain ⟨x2, w2, h2⟩ := bnd _ _ _ _ _ h1
      split at h2
      · obtain ⟨x3, w3, h3⟩ := bnd _ _ _ _ _ h2
        simp only [Sem.run_pure] at h3
        injection h3 with h3 _
        exact ⟨_, h3.symm⟩
      · simp only [Sem.run_pure] at h2
        injection h2 with h2 _
        exact ⟨_, h2.symm⟩
    · simp only [Sem.run_pure] at hr
      injection hr with hr _
      exact ⟨_, hr.symm⟩
  · simp only [Sem.run_pure] at hr
    injection hr with hr _
    exact ⟨_, hr.symm⟩
theorem min_value {ρ : Operand → Value} {c : Call} (hc : c.callee = .builtin .min) {w w' : World} {n : Go.Next} {d : Option Tmp} {ty : TypeId} {po : String} {af : Array Edge} {gu : Option (Nat × Bool)} (hr : (execOp ρ ⟨d, .call c, ty, po, af, gu⟩).run P w = .ok n w') : ∃ v, n = .value v := by
  simp only [execOp, resolve, hc, invoke, builtin, Sem.run_bind, Sem.run_pure, Result.andThen_ok] at hr
  exact then_value hr
theorem plain_value {o : Oper} (h : plainB o.op = true) {ρ : Operand → Value} {w w' : World} {n : Go.Next} (hr : (execOp ρ o).run P w = .ok n w') : ∃ v, n = .value v := by
  obtain ⟨dst, op, type, pos, after, guard⟩ := o
  cases op <;> simp only [plainB] at h
  all_goals first
    | (cases h; done)
    | (exact nil_value hr)
    | (split at h
       · rename_i hc
         exact min_value hc hr
       · cases h)
    | (simp only [execOp, Sem.run_bind, Sem.run_pure] at hr; first | exact then_value (f := fun x => x) hr | exact then_value hr | (injection hr with hr _; exact ⟨_, hr.symm⟩))
theorem yields_quiet {o : Oper} {a : Act} {K : Act → Prop} (h : plainB o.op = true) (hq : o.quiet P a S K) : ∃ v, (∀ w, S w → (execOp a.eval o).run P w = .ok (.value v) w) ∧ K (a.put o.dst v) := by
  obtain ⟨v, h1, h2⟩ := hq
  refine ⟨v, fun w hw => ?_, h2⟩
  have h3 := h1 w hw
  unfold Oper.quietAt at h3
  generalize hr : (execOp a.eval o).run P w = r at h3
  cases r with
  | ok n w' =>
    obtain ⟨u, rfl⟩ := plain_value h hr
    simp only [Oper.quietUpon] at h3
    rw [h3.1, h3.2]
  | halt x w' => simp only [Oper.quietUpon] at h3
/-- The region's edges bear this walk: a plain operation may be taken first, a barrier comes up alone. -/
def mixB (md : Region.Mode) (ops : Array Oper) : List (Nat × Bool) → Array Bool → Bool
  | [], listed => (Region.ready md ops listed).isEmpty
  | (k, false) :: m, listed => (Region.ready md ops listed).contains k && Region.free md ops listed k && (match ops[k]? with | some o => plainB o.op | none => false) && mixB md ops m (listed.setIfInBounds k true)
  | (k, true) :: m, listed => decide (Region.ready md ops listed = [k]) && mixB md ops m (listed.setIfInBounds k true)
/-- The walk; behind a barrier the class of worlds may be made narrower. -/
def mixW (P : Program) (ops : Array Oper) (Q : Exit → Act → World → Prop) : List (Nat × Bool) → (World → Prop) → Act → World → Prop
  | [], _, a, w => Q .normal a w
  | (k, false) :: m, S, a, w => ∃ o, ops[k]? = some o ∧ if Region.wanted o (yielded ops a.tmps) then o.quiet P a S (fun a' => mixW P ops Q m S a' w) else mixW P ops Q m S (a.put o.dst undef) w
  | (k, true) :: m, S, a, w => ∃ o, ops[k]? = some o ∧ if Region.wanted o (yielded ops a.tmps) then o.wp P a w (fun a' w' => ∃ S' : World → Prop, S' w' ∧ (∀ v, S' v → S v) ∧ mixW P ops Q m S' a' w') Q else mixW P ops Q m S (a.put o.dst undef) w
theorem wpAnyH_class {S S' : World → Prop} (h : ∀ v, S' v → S v) : ∀ (fuel : Nat) (listed : Array Bool) (a : Act) (w : World), wpAnyH P md ops Q S' fuel listed a w → wpAnyH P md ops Q S fuel listed a w
  | 0, _, _, _, hh => hh
  | f + 1, _, _, _, hh => ⟨hh.1, fun i hi => wpOp_mono (fun a' w' hk => ⟨h _ hk.1, wpAnyH_class h f _ a' w' hk.2⟩) (hh.2 i hi)⟩
theorem mix_sound (hs : Region.noSelect ops = true) (hQ : ∀ d v c a w, Q (.panic c) (Act.put a d v) w → Q (.panic c) a w) :
    ∀ (m : List (Nat × Bool)) (S : World → Prop) (listed : Array Bool) (a : Act) (w : World), mixB md ops m listed = true → S w → mixW P ops Q m S a w → wpAnyH P md ops Q S m.length listed a w := by
  intro m
  induction m with
  | nil =>
    intro S listed a w hB _ h
    exact ⟨by simpa [mixB] using hB, h⟩
  | cons b m ih =>
    intro S listed a w hB hS h
    obtain ⟨k, b⟩ := b
    cases b with
    | false =>
      simp only [mixW] at h
      obtain ⟨o, h0, h⟩ := h
      simp only [mixB, Bool.and_eq_true, h0] at hB
      obtain ⟨⟨⟨hr, hf⟩, hp⟩, hB'⟩ := hB
      by_cases hw : Region.wanted o (yielded ops a.tmps) = true
      · rw [if_pos hw] at h
        obtain ⟨v, hv, hK⟩ := yields_quiet hp h
        exact wpAnyH_take h0 hs hf hr (fun c a w => hQ o.dst v c a w) (.inl ⟨hw, hv⟩) hS (ih S _ _ w hB' hS hK)
      · rw [if_neg hw] at h
        exact wpAnyH_take h0 hs hf hr (fun c a w => hQ o.dst undef c a w) (.inr ⟨by simpa using hw, rfl⟩) hS (ih S _ _ w hB' hS h)
    | true =>
      simp only [mixW] at h
      obtain ⟨o, h0, h⟩ := h
      simp only [mixB, Bool.and_eq_true, decide_eq_true_eq] at hB
      obtain ⟨hr, hB'⟩ := hB
      refine wpAnyH_all hr (by simp) fun i hi => ?_
      obtain rfl : i = k := by simpa using hi
      unfold wpOp
      simp only [h0]
      by_cases hw : Region.wanted o (yielded ops a.tmps) = true
      · rw [if_pos hw] at h ⊢
        refine .inl (Oper.wp_mono (fun a' w' hh => ?_) h)
        obtain ⟨S', h1, h2, h3⟩ := hh
        exact ⟨h2 _ h1, wpAnyH_class h2 _ _ _ _ (ih S' _ a' w' hB' h1 h3)⟩
      · rw [if_neg hw] at h ⊢
        exact ⟨hS, ih S _ _ w hB' hS h⟩
/-- Some plain operations in a row, as a quiet walk. -/
theorem mix_seg {m : List (Nat × Bool)} : ∀ (ks : List Nat) (seg : List Oper) (a : Act) (w : World), ks.map (fun k => ops[k]?) = seg.map some → wpQuiet P ops S (fun a' => mixW P ops Q m S a' w) seg a → mixW P ops Q (ks.map (fun k => (k, false)) ++ m) S a w
  | [], [], _, _, _, h => h
  | [], _ :: _, _, _, hk, _ => by cases hk
  | _ :: _, [], _, _, hk, _ => by cases hk
  | k :: ks, o :: seg, a, w, hk, h => by
    simp only [List.map_cons] at hk
    injection hk with hk1 hk2
    have h' : (if Region.wanted o (yielded ops a.tmps) then o.quiet P a S (wpQuiet P ops S (fun a' => mixW P ops Q m S a' w) seg) else wpQuiet P ops S (fun a' => mixW P ops Q m S a' w) seg (a.put o.dst undef)) := h
    show ∃ o, ops[k]? = some o ∧ (if Region.wanted o (yielded ops a.tmps) then o.quiet P a S (fun a' => mixW P ops Q (ks.map (fun k => (k, false)) ++ m) S a' w) else mixW P ops Q (ks.map (fun k => (k, false)) ++ m) S (a.put o.dst undef) w)
    refine ⟨o, hk1, ?_⟩
    split
    · rename_i hw
      rw [if_pos hw] at h'
      exact Oper.quiet_mono (fun a' hh => mix_seg ks seg a' w hk2 hh) h'
    · rename_i hw
      rw [if_neg hw] at h'
      exact mix_seg ks seg _ w hk2 h'
def mixOk (l : List Oper) (m : List (Nat × Bool)) : Bool := Region.noSelect l.toArray && decide (m.length = l.length) && mixB .any l.toArray m (Array.replicate l.length false)
/-- The worlds that are W, drawn and grown. -/
@[reducible] def ClassOf (W : World) : World → Prop := fun w' => ∃ p : Regrown, w' = grow (redrawn W p.d) p.os
theorem class_sub {W V : World} (h : Below W.heap.size W V) : ∀ v, ClassOf V v → ClassOf W v := by
  rintro v ⟨p, rfl⟩
  exact regrown_of_below (h.trans ((below_regrown V p.d p.os).mono h.size))
theorem class_self (V : World) : ClassOf V V := regrown_of_below (Below.refl _ _)
theorem wp_region_mix {id : Nat} {a : Act} {w : World} {l : List Oper} (m : List (Nat × Bool)) (hm : P.follows .mixedOrders = true) (hB : mixOk l m = true)
    (h : mixW P l.toArray (NoPanic Q) m (fun w' => ∃ p : Regrown, w' = grow (redrawn w p.d) p.os) a { w with drawn := w.drawn + 1 }) : (Code.region id l.toArray true).wp P Q a w := by
  simp only [mixOk, Bool.and_eq_true, decide_eq_true_eq] at hB
  obtain ⟨⟨hs, hlen⟩, hmix⟩ := hB
  refine wp_region_noPanic (wp_region_held (S := fun w' => ∃ p : Regrown, w' = grow (redrawn w p.d) p.os) hm ?_)
  have H := mix_sound (md := .any) hs (fun d v c a w hh => hh) m _ (Array.replicate l.length false) a { w with drawn := w.drawn + 1 } hmix ⟨⟨w.drawn + 1, #[]⟩, by rw [grow_empty]; rfl⟩ h
  rw [hlen] at H
  simpa using H
theorem mix_take {m m' : List (Nat × Bool)} {a : Act} {w : World} (ks : List Nat) (seg : List Oper) (hm : m = ks.map (fun k => (k, false)) ++ m') (hs : ks.map (fun k => ops[k]?) = seg.map some) (h : wpQuiet P ops S (fun a' => mixW P ops Q m' S a' w) seg a) : mixW P ops Q m S a w := by
  rw [hm]
  exact mix_seg ks seg a w hs h
/-- A barrier; the class as it is. -/
theorem mix_bar {m : List (Nat × Bool)} {k : Nat} {o : Oper} {a : Act} {w : World} (ho : ops[k]? = some o) (hw : Region.wanted o (yielded ops a.tmps) = true) (h : o.wp P a w (fun a' w' => S w' ∧ mixW P ops Q m S a' w') Q) : mixW P ops Q ((k, true) :: m) S a w := by
  simp only [mixW]
  refine ⟨o, ho, ?_⟩
  rw [if_pos hw]
  exact Oper.wp_mono (fun a' w' hh => ⟨S, hh.1, fun _ h => h, hh.2⟩) h
/-- A barrier behind which the class is that of the new world. -/
theorem mix_new {m : List (Nat × Bool)} {k : Nat} {o : Oper} {a : Act} {W w : World} (ho : ops[k]? = some o) (hw : Region.wanted o (yielded ops a.tmps) = true) (h : o.wp P a w (fun a' w' => Below W.heap.size W w' ∧ mixW P ops Q m (fun v => ∃ p : Regrown, v = grow (redrawn w' p.d) p.os) a' w') Q) : mixW P ops Q ((k, true) :: m) (fun v => ∃ p : Regrown, v = grow (redrawn W p.d) p.os) a w := by
  simp only [mixW]
  refine ⟨o, ho, ?_⟩
  rw [if_pos hw]
  exact Oper.wp_mono (fun a' w' hh => ⟨_, class_self w', class_sub hh.1, hh.2⟩) h
theorem mix_not {m : List (Nat × Bool)} {k : Nat} {o : Oper} {a : Act} {w : World} (ho : ops[k]? = some o) (hw : Region.wanted o (yielded ops a.tmps) = false) (h : mixW P ops Q m S (a.put o.dst undef) w) : mixW P ops Q ((k, true) :: m) S a w := by
  simp only [mixW]
  refine ⟨o, ho, ?_⟩
  rw [if_neg (by rw [hw]; exact Bool.false_ne_true)]
  exact h
theorem mix_end {a : Act} {w : World} (h : Q .normal a w) : mixW P ops (NoPanic Q) [] S a w := h
theorem below_drawn (w : World) : Below w.heap.size w { w with drawn := w.drawn + 1 } := ⟨rfl, rfl, rfl, Nat.le_refl _, fun _ _ => rfl⟩
end
end Go.Proofs.Ytcchiagclhkieaa

/-
  The walks of the arena's cut and ite.
-/
namespace Go.Proofs.Ytcchiagclhkieaa
open Go Go.RowKit Go.ChangeMaps Go.MapKept Go.Maps Go.Lib Go.Sort

theorem ArNv.at_node {w : World} {B : Nat} {A : Blks} {V Mo : Nat} {N : List Nd} {H G : List Nat} {nv : Value} (h : ArNv w B A V Mo N H G nv) : ∃ g cp, nv = .slice (some ⟨g, 0, none⟩) N.length cp ∧
    ∀ i, i < N.length → w.cell? ⟨g, i * 3, none⟩ = some (.int .i32 (nd N i).v) ∧ w.cell? ⟨g, i * 3 + 1, none⟩ = some (.int .i32 (nd N i).lo) ∧ w.cell? ⟨g, i * 3 + 2, none⟩ = some (.int .i32 (nd N i).hi) := by
  obtain ⟨A3, cp, rfl, hA3⟩ := owns_form h.row
  have := h.wf.two
  obtain ⟨g, rfl⟩ := hA3 (by omega)
  refine ⟨g, cp, rfl, fun i hi => ⟨?_, ?_, ?_⟩⟩
  · exact (h.row.cellAt (i * 3) (by omega)).trans (ncells_at (j := 0) hi rfl)
  · exact (h.row.cellAt (i * 3 + 1) (by omega)).trans (ncells_at (j := 1) hi rfl)
  · exact (h.row.cellAt (i * 3 + 2) (by omega)).trans (ncells_at (j := 2) hi rfl)
set_option maxRecDepth 100000 in
set_option maxHeartbeats 4000000 in
theorem ncut_any {w : World} {B : Nat} {A : Blks} {V Mo : Nat} {N : List Nd} {H G : List Nat} (f v : Nat) (b : Bool) (h : ArAt w B A V Mo N H G) (hf : f < N.length) :
    Calls Try.prog 79 #[A.val, .int .i32 f, .int .i32 v, .bool b] w fun e w' => e = .returned (.int .i32 (cutN N f v b)) ∧ Below w.heap.size w w' := by
  obtain ⟨nv, hA⟩ := h
  have hle := hA.le
  obtain ⟨g, cp, rfl, hat⟩ := hA.at_node
  obtain ⟨x0, x1, x2⟩ := hat f hf
  have c2 : w.cell? ⟨A.a, 2, none⟩ = some (.slice (some ⟨g, 0, none⟩) N.length cp) := hA.cellAt rfl
  have hI : (f : Int) < (N.length : Int) := by omega
  have hc : cutN N f v b = if (nd N f).v ≠ v then f else if b then (nd N f).hi else (nd N f).lo := rfl
  rw [hc]
  clear hA hat hc
  generalize nd N f = x at *
  unfold Blks.val
  by_cases hx : x.v = v
  · have h1 : ((x.v : Int) != (v : Int)) = false := by simp [hx]
    rw [if_neg (fun hn => hn hx)]
    clear hx
    cases b with
    | true =>
      rw [if_pos rfl]
      go_enter Try.func79, Try.ntmps79
      go_wp2
      go_ret
      exact ⟨rfl, below1 _ _⟩
    | false =>
      rw [if_neg (by simp)]
      go_enter Try.func79, Try.ntmps79
      go_wp2
      go_ret
      exact ⟨rfl, below1 _ _⟩
  · have h1 : ((x.v : Int) != (v : Int)) = true := by simp; omega
    rw [if_pos hx]
    clear hx
    go_enter Try.func79, Try.ntmps79
    go_wp2
    go_ret
    exact ⟨rfl, below1 _ _⟩
/-- What ite comes to. -/
def IteRes (w : World) (B : Nat) (A : Blks) (V Mo : Nat) (N : List Nd) (H G : List Nat) (f g h : Nat) (e : Ending) (w' : World) : Prop :=
  ∃ (r : Nat) (N' : List Nd), e = .returned (.int .i32 r) ∧ IteTo N f g h r N' ∧ ArAt w' B A V Mo N' H G ∧ Kept A w w'
/-- A box of a call's own, none of the arena's blocks. -/
def BoxAt (A : Blks) (w : World) (k : Nat) (u : Value) (t : TypeId) : Prop := w.heap[k]? = some (.cells #[u] t (0, 0)) ∧ Foreign A w k
theorem BoxAt.kept {A : Blks} {w w' : World} {k : Nat} {u : Value} {t : TypeId} (h : BoxAt A w k u t) (hk : Kept A w w') : BoxAt A w' k u t := ⟨(hk.same k h.2).1.trans h.1, (hk.same k h.2).2⟩
theorem BoxAt.cell {A : Blks} {w : World} {k : Nat} {u : Value} {t : TypeId} (h : BoxAt A w k u t) : w.cell? ⟨k, 0, none⟩ = some u := by
  rw [cell_of_row w _ 0 _ _ (0, 0) h.1]; rfl
theorem ArAt.a_lt {w : World} {B : Nat} {A : Blks} {V Mo : Nat} {N : List Nd} {H G : List Nat} (h : ArAt w B A V Mo N H G) : A.a < w.heap.size := by
  obtain ⟨nv, h⟩ := h
  exact lt_of_block h.cells
/-- The part that ite asks for twice. -/
def PartArgs (b : Bool) (ba bf bv bg bh : Nat) : Array Value := #[.bool b, .pointer (some ⟨ba, 0, none⟩), .pointer (some ⟨bf, 0, none⟩), .pointer (some ⟨bv, 0, none⟩), .pointer (some ⟨bg, 0, none⟩), .pointer (some ⟨bh, 0, none⟩)]
set_option maxRecDepth 100000 in
set_option maxHeartbeats 4000000 in
theorem part_any {n : Nat} (ih : ∀ (w : World) (B : Nat) (A : Blks) (V Mo : Nat) (N : List Nd) (H G : List Nat) (f g h : Nat), f + g + h ≤ n → ArAt w B A V Mo N H G → f < N.length → g < N.length → h < N.length → Cap N f g h →
      Calls Try.prog 45 #[A.val, .int .i32 f, .int .i32 g, .int .i32 h] w (IteRes w B A V Mo N H G f g h))
    {w : World} {B : Nat} {A : Blks} {V Mo : Nat} {N : List Nd} {H G : List Nat} (f g h v : Nat) (b : Bool) (ba bf bv bg bh : Nat) (hA : ArAt w B A V Mo N H G) (hf : f < N.length) (hg : g < N.length) (hh : h < N.length) (hv : v < 256)
    (hn : cutN N f v b + cutN N g v b + cutN N h v b ≤ n) (hc : Cap N (cutN N f v b) (cutN N g v b) (cutN N h v b))
    (ka : BoxAt A w ba A.val 64) (kf : BoxAt A w bf (.int .i32 f) 21) (kv : BoxAt A w bv (.int .i32 v) 21) (kg : BoxAt A w bg (.int .i32 g) 21) (kh : BoxAt A w bh (.int .i32 h) 21) :
    Calls Try.prog 78 (PartArgs b ba bf bv bg bh) w (IteRes w B A V Mo N H G (cutN N f v b) (cutN N g v b) (cutN N h v b)) := by
  obtain ⟨nv, hnv⟩ := id hA
  have hwf := hnv.wf
  have lf := cutN_lt hwf b hf hv
  have lg := cutN_lt hwf b hg hv
  have lh := cutN_lt hwf b hh hv
  have hcut : ∀ W, Below w.heap.size w W → ∀ x, x < N.length → Calls Try.prog 79 #[A.val, .int .i32 x, .int .i32 v, .bool b] W fun e w' => e = .returned (.int .i32 (cutN N x v b)) ∧ Below W.heap.size W w' := fun W hW x hx => ncut_any x v b (hA.below hW) hx
  have hite : ∀ W, Below w.heap.size w W → Calls Try.prog 45 #[A.val, .int .i32 (cutN N f v b), .int .i32 (cutN N g v b), .int .i32 (cutN N h v b)] W (IteRes W B A V Mo N H G (cutN N f v b) (cutN N g v b) (cutN N h v b)) := fun W hW => ih W B A V Mo N H G _ _ _ hn (hA.below hW) lf lg lh hc
  have HF := Lib.hid (fun W hW => hcut W hW f hf)
  have HG := Lib.hid (fun W hW => hcut W hW g hg)
  have HH := Lib.hid (fun W hW => hcut W hW h hh)
  have HI := Lib.hid hite
  have ha := hA.a_lt
  have c0 := ka.cell
  have c1 := kf.cell
  have c2 := kv.cell
  have c3 := kg.cell
  have c4 := kh.cell
  clear ih hcut hite hnv hwf hc hn hA ka kf kv kg kh
  unfold Blks.val at HF HG HH HI c0
  generalize cutN N f v b = f' at *
  generalize cutN N g v b = g' at *
  generalize cutN N h v b = h' at *
  have F0 := cell_regrown c0
  have F1 := cell_regrown c1
  have F2 := cell_regrown c2
  have F3 := cell_regrown c3
  have F4 := cell_regrown c4
  unfold PartArgs
  go_enter Try.func78, Try.ntmps78
  go_wp2
  refine wp_region_tail_below 16 (by kernel_rfl) (by kernel_rfl) ?_
  simp only [List.take_succ_cons, List.take_zero, List.drop_succ_cons, List.drop_zero]
  repeat (first | go_big_quiet_step ((go_at_call 79; first | (with_reducible exact Calls.regrown_of (HF.out _ (below_regrown w _ _))) | (with_reducible exact Calls.regrown_of (HG.out _ (below_regrown w _ _))) | (with_reducible exact Calls.regrown_of (HH.out _ (below_regrown w _ _))))) | quiet_step ((go_at_call 79; first | (with_reducible exact Calls.regrown_of (HF.out _ (below_regrown w _ _))) | (with_reducible exact Calls.regrown_of (HG.out _ (below_regrown w _ _))) | (with_reducible exact Calls.regrown_of (HH.out _ (below_regrown w _ _))))))
  refine wpQuiet_nil ?_
  intro W3 hw'
  obtain ⟨⟨nq, osq⟩, hw''⟩ := hw'
  subst hw''
  have hq := below_regrown w nq osq
  have HQ := Lib.hid hq
  clear hq F0 F1 F2 F3 F4 c0 c1 c2 c3 c4 HF HG HH
  generalize grow (redrawn w nq) osq = W3 at *
  go_wp2_with fail
  refine (HI.out W3 HQ.out).mono ?_
  rintro e w2 ⟨r, N', rfl, hto, hA2, hk⟩
  have HTO := Lib.hid hto
  have HA2 := Lib.hid hA2
  have HK := Lib.hid ((Kept.of_below (A := A) ha HQ.out).trans hk)
  clear hto hA2 hk
  go_wp2
  go_ret
  exact ⟨r, N', rfl, HTO.out, HA2.out, HK.out⟩
end Go.Proofs.Ytcchiagclhkieaa

/-
  The walk of the arena's ite.
-/
namespace Go.Proofs.Ytcchiagclhkieaa
open Go Go.RowKit Go.ChangeMaps Go.MapKept Go.Maps Go.Lib Go.Sort

/-- A block laid since is none of the arena's. -/
theorem ArAt.foreign_new {w W : World} {B : Nat} {A : Blks} {V Mo : Nat} {N : List Nd} {H G : List Nat} (h : ArAt w B A V Mo N H G) (hb : Below w.heap.size w W) {k : Nat} (h1 : w.heap.size ≤ k) (h2 : k < W.heap.size) : Foreign A W k := by
  obtain ⟨nv, hA⟩ := h
  obtain ⟨lb, hlb, _⟩ := hA.by_
  obtain ⟨li, hli, _⟩ := hA.ites
  refine ⟨h2, fun hm => ?_, fun u hu => ?_⟩
  · have hm' : k = A.a ∨ k = A.b ∨ k = A.i ∨ k = A.g ∨ k = A.h := by simpa [Blks.list] using hm
    have := lt_of_block hA.cells
    have := hlb.lt
    have := hli.lt
    have := hA.given.lt
    have := hA.held.lt
    omega
  · rw [(hA.below hb).cell2] at hu
    injection hu with hu
    subst hu
    intro hh
    have := (hA.row.lt _ hh).2
    omega
/-- An answer more among those that are kept. -/
theorem ArNv.memo {w w' : World} {B : Nat} {A : Blks} {V Mo : Nat} {N : List Nd} {H G : List Nat} {nv : Value} (h : ArNv w B A V Mo N H G nv) {l : List (Value × Value)} (hm : MapAt Try.prog 126 w' A.i l) (ho : MemoOk N l) (hg : w.grownBy w' (some A.i)) :
    ArNv w' B A V Mo N H G nv ∧ Kept A w w' := by
  obtain ⟨n1, n2, n3, n4, n5, n6, n7, n8, n9, n10⟩ := Blks.ne h.nodup
  obtain ⟨lb, hlb, hbo⟩ := h.by_
  have ha := lt_of_block h.cells
  have s : ∀ k, k < w.heap.size → k ≠ A.i → w'.heap[k]? = w.heap[k]? := fun k hk hki => hg.block k hk (fun e => hki (by injection e))
  refine ⟨⟨(s A.a ha n2).trans h.cells, owns_like h.row fun k hk => s k (h.row.lt k hk).2 fun e => h.off A.i (by simp [Blks.list]) (by rw [hk, e]), ⟨lb, hlb.same (s A.b hlb.lt n5), hbo⟩, ⟨l, hm, ho⟩,
    h.given.same (s A.g h.given.lt n8.symm), h.held.same (s A.h h.held.lt n9.symm), h.nodup, h.base, h.off, h.wf, h.le⟩, Kept.of_map (k := A.i) (by simp [Blks.list]) n2.symm ha hg⟩
theorem MemoOk.put {N : List Nd} {l : List (Value × Value)} (h : MemoOk N l) (hn : (l.map (·.1)).Nodup) {f g k r : Nat} (hf : f < N.length) (hg : g < N.length) (hk : k < N.length) (hr : r < N.length)
    (he : ∀ s, ev N s r = if ev N s f then ev N s g else ev N s k) : MemoOk N (putM l (triV f g k) (.int .i32 r)) := by
  intro f' g' k' u hu
  by_cases hx : triV f' g' k' = triV f g k
  · obtain ⟨rfl, rfl, rfl⟩ := triV_inj hx
    rw [getM_put_same _ _ _ hn] at hu
    injection hu with hu
    exact ⟨r, hu.symm, hf, hg, hk, hr, he⟩
  · rw [getM_put_other _ _ _ hx] at hu
    exact h f' g' k' u hu
theorem below4 (w : World) (O1 O2 O3 O4 : Obj) : Below w.heap.size w ((((w.alloc O1).alloc O2).alloc O3).alloc O4) := (below3 w O1 O2 O3).alloc (by simp; omega) _
/-- The ends that ite sees at once. -/
def IteEnd (f g h : Nat) : Prop := f = 1 ∨ g = h ∨ f = 0 ∨ g = 1 ∧ h = 0
set_option maxRecDepth 100000 in
set_option maxHeartbeats 4000000 in
theorem ite_end {w : World} {B : Nat} {A : Blks} {V Mo : Nat} {N : List Nd} {H G : List Nat} (f g h : Nat) (hA : ArAt w B A V Mo N H G) (hf : f < N.length) (hg : g < N.length) (hh : h < N.length) (he : IteEnd f g h) :
    Calls Try.prog 45 #[A.val, .int .i32 f, .int .i32 g, .int .i32 h] w (IteRes w B A V Mo N H G f g h) := by
  have hb := below4 w (.cells #[.pointer (some ⟨A.a, 0, none⟩)] 64) (.cells #[.int .i32 f] 21) (.cells #[.int .i32 g] 21) (.cells #[.int .i32 h] 21)
  have hwf : WF N := by obtain ⟨nv, h⟩ := hA; exact h.wf
  have hA2 := hA.below hb
  have hk := Kept.of_below (A := A) hA.a_lt hb
  have fin : ∀ r, IteTo N f g h r N → IteRes w B A V Mo N H G f g h (.returned (.int .i32 r)) ((((w.alloc (.cells #[.pointer (some ⟨A.a, 0, none⟩)] 64)).alloc (.cells #[.int .i32 f] 21)).alloc (.cells #[.int .i32 g] 21)).alloc (.cells #[.int .i32 h] 21)) :=
    fun r hr => ⟨r, N, rfl, hr, hA2, hk⟩
  have FIN := Lib.hid fin
  clear fin hA2 hk hb hA
  unfold Blks.val
  by_cases h1 : f = 1
  · subst h1
    have b1 : (((1 : Nat) : Int) == 1) = true := rfl
    have HT := Lib.hid (IteTo.of_one (h := h) hwf hg)
    clear he
    go_enter Try.func45, Try.ntmps45
    go_wp2
    go_ret
    exact FIN.out g HT.out
  · have b1 : ((f : Int) == 1) = false := by simp; omega
    by_cases h2 : g = h
    · subst h2
      have b2 : ((g : Int) == (g : Int)) = true := by simp
      have HT := Lib.hid (IteTo.of_same (f := f) hwf hg)
      clear he h1
      go_enter Try.func45, Try.ntmps45
      go_wp2
      go_ret
      exact FIN.out g HT.out
    · have b2 : ((g : Int) == (h : Int)) = false := by simp; omega
      by_cases h3 : f = 0
      · subst h3
        have b3 : (((0 : Nat) : Int) == 0) = true := rfl
        have HT := Lib.hid (IteTo.of_zero (g := g) hwf hh)
        clear he h1 h2
        go_enter Try.func45, Try.ntmps45
        go_wp2
        go_ret
        exact FIN.out h HT.out
      · have b3 : ((f : Int) == 0) = false := by simp; omega
        obtain ⟨rfl, rfl⟩ : g = 1 ∧ h = 0 := by
          rcases he with he | he | he | he
          · exact absurd he h1
          · exact absurd he h2
          · exact absurd he h3
          · exact he
        have HT := Lib.hid (IteTo.of_self hwf hf)
        clear he h1 h2 h3
        go_enter Try.func45, Try.ntmps45
        go_wp2
        go_ret
        exact FIN.out f HT.out
end Go.Proofs.Ytcchiagclhkieaa

/-
  The walk of the arena's ite: the step.
-/
namespace Go.Proofs.Ytcchiagclhkieaa
open Go Go.RowKit Go.ChangeMaps Go.MapKept Go.Maps Go.Lib Go.Sort

theorem blk5 (w : World) (O1 O2 O3 O4 O5 : Obj) : (((((w.alloc O1).alloc O2).alloc O3).alloc O4).alloc O5).heap[w.heap.size]? = some O1 ∧ (((((w.alloc O1).alloc O2).alloc O3).alloc O4).alloc O5).heap[w.heap.size + 1]? = some O2 ∧
    (((((w.alloc O1).alloc O2).alloc O3).alloc O4).alloc O5).heap[w.heap.size + 2]? = some O3 ∧ (((((w.alloc O1).alloc O2).alloc O3).alloc O4).alloc O5).heap[w.heap.size + 3]? = some O4 ∧ (((((w.alloc O1).alloc O2).alloc O3).alloc O4).alloc O5).heap[w.heap.size + 4]? = some O5 ∧
    (((((w.alloc O1).alloc O2).alloc O3).alloc O4).alloc O5).heap.size = w.heap.size + 5 := by
  have s1 : (w.alloc O1).heap.size = w.heap.size + 1 := by simp
  have s2 : ((w.alloc O1).alloc O2).heap.size = w.heap.size + 2 := by simp
  have s3 : (((w.alloc O1).alloc O2).alloc O3).heap.size = w.heap.size + 3 := by simp
  have s4 : ((((w.alloc O1).alloc O2).alloc O3).alloc O4).heap.size = w.heap.size + 4 := by simp
  have a1 := blk1 w O1
  have a2 := blk1 (w.alloc O1) O2
  have a3 := blk1 ((w.alloc O1).alloc O2) O3
  have a4 := blk1 (((w.alloc O1).alloc O2).alloc O3) O4
  have a5 := blk1 ((((w.alloc O1).alloc O2).alloc O3).alloc O4) O5
  rw [s1] at a2
  rw [s2] at a3
  rw [s3] at a4
  rw [s4] at a5
  have b5 := below1 ((((w.alloc O1).alloc O2).alloc O3).alloc O4) O5
  have b4 := below1 (((w.alloc O1).alloc O2).alloc O3) O4
  have b3 := below1 ((w.alloc O1).alloc O2) O3
  have b2 := below1 (w.alloc O1) O2
  exact ⟨blk_below b5 (blk_below b4 (blk_below b3 (blk_below b2 a1))), blk_below b5 (blk_below b4 (blk_below b3 a2)), blk_below b5 (blk_below b4 a3), blk_below b5 a4, a5, by simp⟩
/-- The arena at ite's frame. -/
structure IteFr (w : World) (A : Blks) (W : World) (f g h : Nat) : Prop where
  ba : BoxAt A W w.heap.size (.pointer (some ⟨A.a, 0, none⟩)) 64
  bf : BoxAt A W (w.heap.size + 1) (.int .i32 f) 21
  bg : BoxAt A W (w.heap.size + 2) (.int .i32 g) 21
  bh : BoxAt A W (w.heap.size + 3) (.int .i32 h) 21
  key : W.heap[w.heap.size + 4]? = some (.cells #[.int .i32 f, .int .i32 g, .int .i32 h] 126 (0, 0)) ∧ Foreign A W (w.heap.size + 4)
  kept : Kept A w W
theorem IteFr.step {w W W' : World} {A : Blks} {f g h : Nat} (i : IteFr w A W f g h) (hk : Kept A W W') : IteFr w A W' f g h :=
  ⟨i.ba.kept hk, i.bf.kept hk, i.bg.kept hk, i.bh.kept hk, ⟨(hk.same _ i.key.2).1.trans i.key.1, (hk.same _ i.key.2).2⟩, i.kept.trans hk⟩
theorem IteFr.k {w W : World} {A : Blks} {f g h : Nat} (i : IteFr w A W f g h) : W.cell? ⟨w.heap.size + 4, 0, none⟩ = some (.int .i32 f) ∧ W.cell? ⟨w.heap.size + 4, 1, none⟩ = some (.int .i32 g) ∧ W.cell? ⟨w.heap.size + 4, 2, none⟩ = some (.int .i32 h) :=
  ⟨by rw [cell_of_row W _ 0 _ _ (0, 0) i.key.1]; rfl, by rw [cell_of_row W _ 1 _ _ (0, 0) i.key.1]; rfl, by rw [cell_of_row W _ 2 _ _ (0, 0) i.key.1]; rfl⟩
theorem cutN_ext {N N' : List Nd} (e : Ext N N') {x : Nat} (hx : x < N.length) (v : Nat) (b : Bool) : cutN N' x v b = cutN N x v b := by
  unfold cutN
  rw [e.nd hx]
/-- What part comes to at ite's frame. -/
def PartRes (w : World) (B : Nat) (A : Blks) (V Mo : Nat) (N : List Nd) (H G : List Nat) (f g h bv f' g' h' v : Nat) (e : Ending) (w' : World) : Prop :=
  ∃ (r : Nat) (N' : List Nd), e = .returned (.int .i32 r) ∧ IteTo N f' g' h' r N' ∧ ArAt w' B A V Mo N' H G ∧ IteFr w A w' f g h ∧ BoxAt A w' bv (.int .i32 v) 21
set_option maxRecDepth 100000 in
set_option maxHeartbeats 8000000 in
theorem ite_walk {n : Nat} (ih : ∀ (w : World) (B : Nat) (A : Blks) (V Mo : Nat) (N : List Nd) (H G : List Nat) (f g h : Nat), f + g + h ≤ n → ArAt w B A V Mo N H G → f < N.length → g < N.length → h < N.length → Cap N f g h →
      Calls Try.prog 45 #[A.val, .int .i32 f, .int .i32 g, .int .i32 h] w (IteRes w B A V Mo N H G f g h))
    {w : World} {B : Nat} {A : Blks} {V Mo : Nat} {N : List Nd} {H G : List Nat} (f g h : Nat) (hn : f + g + h ≤ n + 1) (hA : ArAt w B A V Mo N H G) (hf : f < N.length) (hg : g < N.length) (hh : h < N.length) (hc : Cap N f g h) (hne : ¬ IteEnd f g h) :
    Calls Try.prog 45 #[A.val, .int .i32 f, .int .i32 g, .int .i32 h] w (IteRes w B A V Mo N H G f g h) := by
  have h1 : f ≠ 1 := fun e => hne (.inl e)
  have h2 : g ≠ h := fun e => hne (.inr (.inl e))
  have h3 : f ≠ 0 := fun e => hne (.inr (.inr (.inl e)))
  have h4 : ¬ (g = 1 ∧ h = 0) := fun e => hne (.inr (.inr (.inr e)))
  have hf2 : 2 ≤ f := by omega
  have b1 : ((f : Int) == 1) = false := by simp; omega
  have b2 : ((g : Int) == (h : Int)) = false := by simp; omega
  have b3 : ((f : Int) == 0) = false := by simp; omega
  have hwf : WF N := by obtain ⟨nv, h⟩ := hA; exact h.wf
  have hle : N.length ≤ 2147483647 := by obtain ⟨nv, h⟩ := hA; exact h.le
  obtain ⟨kl, hkey⟩ := key_tri (f := f) (g := g) (h := h) (by omega) (by omega) (by omega)
  obtain ⟨k0, k1, k2, k3, k4, ks⟩ := blk5 w (.cells #[.pointer (some ⟨A.a, 0, none⟩)] 64) (.cells #[.int .i32 f] 21) (.cells #[.int .i32 g] 21) (.cells #[.int .i32 h] 21) (.cells #[.int .i32 f, .int .i32 g, .int .i32 h] 126)
  have hb := (below4 w (.cells #[.pointer (some ⟨A.a, 0, none⟩)] 64) (.cells #[.int .i32 f] 21) (.cells #[.int .i32 g] 21) (.cells #[.int .i32 h] 21)).alloc (by simp; omega) (.cells #[.int .i32 f, .int .i32 g, .int .i32 h] 126)
  have fnew : ∀ k, w.heap.size ≤ k → k < w.heap.size + 5 → Foreign A _ k := fun k hk1 hk2 => hA.foreign_new hb hk1 (by rw [ks]; exact hk2)
  have hfr : IteFr w A _ f g h := ⟨⟨k0, fnew _ (by omega) (by omega)⟩, ⟨k1, fnew _ (by omega) (by omega)⟩, ⟨k2, fnew _ (by omega) (by omega)⟩, ⟨k3, fnew _ (by omega) (by omega)⟩, ⟨k4, fnew _ (by omega) (by omega)⟩, Kept.of_below (A := A) hA.a_lt hb⟩
  have hA5 := hA.below hb
  have HFR := Lib.hid hfr
  have HA5 := Lib.hid hA5
  have HC := Lib.hid hc
  have HNE := Lib.hid h4
  have hb10 : Hid (∀ x : Bool, x = ((g : Int) == 1) → x = true → ((h : Int) == 0) = false) := Lib.hid fun x hx hy => by
    subst hx
    have hy2 : (g : Int) = 1 := by simpa using hy
    have : g = 1 := by omega
    simp; omega
  clear k0 k1 k2 k3 k4 ks hb fnew hfr hA5 hc hne h1 h2 h3 h4 hA
  have hg01 : (((g : Int) == 1) = true ∧ ((h : Int) == 0) = false) ∨ ((g : Int) == 1) = false := by
    cases hx : ((g : Int) == 1) with
    | true => exact .inl ⟨rfl, hb10.out _ hx.symm rfl⟩
    | false => exact .inr rfl
  clear hb10
  unfold Blks.val
  go_enter Try.func45, Try.ntmps45
  go_upto_block 0 with fail
  go_cut [] (fun wx => wx = (((w.alloc (.cells #[.pointer (some ⟨A.a, 0, none⟩)] 64)).alloc (.cells #[.int .i32 f] 21)).alloc (.cells #[.int .i32 g] 21)).alloc (.cells #[.int .i32 h] 21))
  case first =>
    rcases hg01 with ⟨b4, b5⟩ | b4
    · go_wp2_with fail
      go_meet
      rfl
    · go_wp2_with fail
      go_meet
      rfl
  case rest =>
    subst hcut
    clear hg01
    go_upto_region 8 with fail
    generalize ((((w.alloc (.cells #[.pointer (some ⟨A.a, 0, none⟩)] 64)).alloc (.cells #[.int .i32 f] 21)).alloc (.cells #[.int .i32 g] 21)).alloc (.cells #[.int .i32 h] 21)).alloc (.cells #[.int .i32 f, .int .i32 g, .int .i32 h] 126) = W5 at *
    obtain ⟨nv, hA5⟩ := HA5.out
    obtain ⟨l, hl, hmo⟩ := hA5.ites
    have hlook : ∀ d os, (Instr.lookup 95 (.map (some A.i)) (.agg #[.int .i32 f, .int .i32 g, .int .i32 h]) true).run Try.prog (grow (redrawn W5 d) os) = .ok (.tuple #[(getM l (triV f g h)).getD (.int .i32 0), .bool (getM l (triV f g h)).isSome]) (grow (redrawn W5 d) os) := fun d os =>
      (hl.same ((below_regrown W5 d os).block _ hl.lt)).look tri_keyed Try.underlying95 (zero_i32 _) true hkey
    have c0 := HFR.out.ba.cell
    have c4 : W5.cell? ⟨A.a, 4, none⟩ = some (.map (some A.i)) := hA5.cellAt rfl
    obtain ⟨n0, n1, n2⟩ := HFR.out.k
    have C0 := cell_regrown c0
    have C4 := cell_regrown c4
    have N0 := cell_regrown n0
    have N1 := cell_regrown n1
    have N2 := cell_regrown n2
    have ha5 := HA5.out.a_lt
    cases hgm : getM l (triV f g h) with
    | some u =>
      obtain ⟨r, rfl, _, _, _, hr, hev⟩ := hmo f g h u hgm
      rw [hgm] at hlook
      have hlook : ∀ d os, (Instr.lookup 95 (.map (some A.i)) (.agg #[.int .i32 f, .int .i32 g, .int .i32 h]) true).run Try.prog (grow (redrawn W5 d) os) = .ok (.tuple #[.int .i32 r, .bool true]) (grow (redrawn W5 d) os) := hlook
      have HTO : Hid (IteTo N f g h r N) := Lib.hid ⟨Ext.refl N, hwf, hr, hev, fun i a b => by omega⟩
      clear hev hgm hmo hl hA5
      refine wp_region_quiet_below (by kernel_rfl) (by kernel_rfl) ?_
      repeat (first | go_big_quiet_step (fail) | quiet_step (fail))
      refine wpQuiet_nil ?_
      intro _ hw'
      obtain ⟨⟨nq, osq⟩, hw''⟩ := hw'
      subst hw''
      have hq := below_regrown W5 nq osq
      have HR := Lib.hid (HA5.out.below hq)
      have HK := Lib.hid (HFR.out.kept.trans (Kept.of_below (A := A) ha5 hq))
      clear hlook C0 C4 N0 N1 N2 c0 c4 n0 n1 n2 hq HA5
      generalize grow (redrawn W5 nq) osq = W6 at *
      go_wp2
      go_ret
      exact ⟨r, N, rfl, HTO.out, HR.out, HK.out⟩
    | none =>
      rw [hgm] at hlook
      have hlook : ∀ d os, (Instr.lookup 95 (.map (some A.i)) (.agg #[.int .i32 f, .int .i32 g, .int .i32 h]) true).run Try.prog (grow (redrawn W5 d) os) = .ok (.tuple #[.int .i32 0, .bool false]) (grow (redrawn W5 d) os) := hlook
      clear hgm hmo hl hA5
      refine wp_region_quiet_below (by kernel_rfl) (by kernel_rfl) ?_
      repeat (first | go_big_quiet_step (fail) | quiet_step (fail))
      refine wpQuiet_nil ?_
      intro _ hw'
      obtain ⟨⟨nq, osq⟩, hw''⟩ := hw'
      subst hw''
      have hq := below_regrown W5 nq osq
      have HR := Lib.hid (HA5.out.below hq)
      have HF := Lib.hid (HFR.out.step (Kept.of_below (A := A) ha5 hq))
      clear hlook C0 C4 N0 N1 N2 c0 c4 n0 n1 n2 hq HA5 HFR ha5
      generalize grow (redrawn W5 nq) osq = W6 at *
      obtain ⟨nv6, hA6⟩ := HR.out
      obtain ⟨gb, cp, rfl, hat⟩ := hA6.at_node
      obtain ⟨x0, _, _⟩ := hat f hf
      obtain ⟨y0, _, _⟩ := hat g hg
      obtain ⟨z0, _, _⟩ := hat h hh
      have c2 : W6.cell? ⟨A.a, 2, none⟩ = some (.slice (some ⟨gb, 0, none⟩) N.length cp) := hA6.cellAt rfl
      have c0 := HF.out.ba.cell
      have d1 := HF.out.bf.cell
      have d2 := HF.out.bg.cell
      have d3 := HF.out.bh.cell
      have e1 : (f : Int) < (N.length : Int) := by omega
      have e2 : (g : Int) < (N.length : Int) := by omega
      have e3 : (h : Int) < (N.length : Int) := by omega
      clear hA6 hat
      go_upto_region 11 with fail
      have F0 := cell_regrown c0
      have F1 := cell_regrown d1
      have F2 := cell_regrown d2
      have F3 := cell_regrown d3
      have F4 := cell_regrown c2
      have F5 := cell_regrown x0
      have F6 := cell_regrown y0
      have F7 := cell_regrown z0
      refine wp_region_mix [(0, false), (1, false), (2, false), (3, false), (4, false), (5, false), (6, false), (7, false), (8, false), (9, false), (10, false), (11, false), (12, false), (13, false), (14, false), (15, false), (16, false), (17, false), (18, false), (19, false), (20, false), (21, false), (22, false), (23, false), (24, false), (25, true), (26, true)] (by kernel_rfl) (by kernel_rfl) ?_
      have hv0 := below_drawn W6
      generalize { W6 with drawn := W6.drawn + 1 } = V0 at *
      refine mix_take [0, 1, 2, 3, 4, 5, 6, 7, 8, 9, 10, 11, 12, 13, 14, 15, 16, 17, 18, 19, 20, 21, 22, 23, 24] [_, _, _, _, _, _, _, _, _, _, _, _, _, _, _, _, _, _, _, _, _, _, _, _, _] rfl rfl ?_
      simp only [List.getElem_toArray, List.getElem_cons_zero, List.getElem_cons_succ]
      repeat (go_big_quiet_step (fail))
      refine wpQuiet_nil ?_
      refine mix_bar rfl (by rfl) ?_
      simp only [List.getElem_toArray, List.getElem_cons_zero, List.getElem_cons_succ]
      go_simp
      refine ⟨regrown_of_below (hv0.alloc hv0.size (.cells #[.int .i32 0] 21)), ?_⟩
      refine mix_bar rfl (by rfl) ?_
      simp only [List.getElem_toArray, List.getElem_cons_zero, List.getElem_cons_succ]
      go_simp
      have hmin : (if ((nd N h).v : Int) < (if (nd N g).v < (nd N f).v then ((nd N g).v : Int) else ((nd N f).v : Int)) then ((nd N h).v : Int) else (if (nd N g).v < (nd N f).v then ((nd N g).v : Int) else ((nd N f).v : Int))) = ((top3 N f g h : Nat) : Int) := by
        unfold top3 lvl
        split <;> split <;> omega
      rw [hmin]
      clear hmin
      refine ⟨regrown_of_below (hv0.alloc hv0.size (.cells #[.int .i32 (top3 N f g h : Nat)] 21)), ?_⟩
      refine mix_end ?_
      have hvb := hv0.alloc hv0.size (.cells #[.int .i32 (top3 N f g h : Nat)] 21)
      have kv := blk1 V0 (.cells #[.int .i32 (top3 N f g h : Nat)] 21)
      have fv := HR.out.foreign_new hvb (k := V0.heap.size) hv0.size (by simp)
      have HBV : Hid (BoxAt A _ V0.heap.size (.int .i32 (top3 N f g h : Nat)) 21) := Lib.hid ⟨kv, fv⟩
      have HR7 := Lib.hid (HR.out.below hvb)
      have HF7 := Lib.hid (HF.out.step (Kept.of_below (A := A) HR.out.a_lt hvb))
      clear F0 F1 F2 F3 F4 F5 F6 F7 c0 d1 d2 d3 c2 x0 y0 z0 hvb kv fv HR HF e1 e2 e3
      generalize V0.alloc (.cells #[.int .i32 (top3 N f g h : Nat)] 21) = W7 at *
      generalize V0.heap.size = bv at *
      clear hv0
      have hv256 := top3_lt hwf (g := g) (h := h) hf hf2
      have hct := cut3_lt hwf false hf hg hh hf2 rfl
      have hct1 := cut3_lt hwf true hf hg hh hf2 rfl
      have part : ∀ (b : Bool) (N1 : List Nd) (W8 : World), Ext N N1 → ArAt W8 B A V Mo N1 H G → IteFr w A W8 f g h → BoxAt A W8 bv (.int .i32 (top3 N f g h : Nat)) 21 → Cap N1 (cutN N f (top3 N f g h) b) (cutN N g (top3 N f g h) b) (cutN N h (top3 N f g h) b) →
          ∀ W, Below W8.heap.size W8 W → Calls Try.prog 78 #[.bool b, .pointer (some ⟨w.heap.size, 0, none⟩), .pointer (some ⟨w.heap.size + 1, 0, none⟩), .pointer (some ⟨bv, 0, none⟩), .pointer (some ⟨w.heap.size + 1 + 1, 0, none⟩), .pointer (some ⟨w.heap.size + 1 + 1 + 1, 0, none⟩)] W
            (PartRes w B A V Mo N1 H G f g h bv (cutN N f (top3 N f g h) b) (cutN N g (top3 N f g h) b) (cutN N h (top3 N f g h) b) (top3 N f g h)) := by
        intro b N1 W8 he hA8 hF8 hB8 hcap W hW
        have hl := he.len
        have hkW := Kept.of_below (A := A) hA8.a_lt hW
        have hF := hF8.step hkW
        have hB := hB8.kept hkW
        have hsum : cutN N1 f (top3 N f g h) b + cutN N1 g (top3 N f g h) b + cutN N1 h (top3 N f g h) b ≤ n := by
          rw [cutN_ext he hf, cutN_ext he hg, cutN_ext he hh]
          cases b <;> omega
        have hp := part_any ih f g h (top3 N f g h) b w.heap.size (w.heap.size + 1) bv (w.heap.size + 1 + 1) (w.heap.size + 1 + 1 + 1) (hA8.below hW) (by omega) (by omega) (by omega) hv256 hsum (by rw [cutN_ext he hf, cutN_ext he hg, cutN_ext he hh]; exact hcap) hF.ba hF.bf hB hF.bg hF.bh
        rw [cutN_ext he hf, cutN_ext he hg, cutN_ext he hh] at hp
        refine Calls.mono hp ?_
        rintro e w' ⟨r, N', rfl, hto, hA', hk'⟩
        exact ⟨r, N', rfl, hto, hA', hF.step hk', hB.kept hk'⟩
      have HP0 := Lib.hid (part false N W7 (Ext.refl N) HR7.out HF7.out HBV.out (HC.out.lo hwf hf hg hh hf2 rfl) W7 (Below.refl _ _))
      have HPART := Lib.hid part
      clear part hct hct1
      go_wp2_with fail
      refine HP0.out.mono ?_
      rintro e W8 ⟨lo, N1, rfl, hto0, hA8, hF8, hB8⟩
      have HTO0 := Lib.hid hto0
      have HP1 := Lib.hid (HPART.out true N1 W8 hto0.ext hA8 hF8 hB8 (HC.out.hi hwf hf hg hh hf2 rfl hto0))
      have hS0 : W8.cell? ⟨w.heap.size, 0, none⟩ = some (.pointer (some ⟨A.a, 0, none⟩)) ∧ W8.cell? ⟨bv, 0, none⟩ = some (.int .i32 (top3 N f g h : Nat)) := ⟨hF8.ba.cell, hB8.cell⟩
      obtain ⟨s0, s1⟩ := hS0
      have HBD := Lib.hid (show Below W8.heap.size W8 W8.drew from ⟨rfl, rfl, rfl, Nat.le_refl _, fun _ _ => rfl⟩)
      clear HP0 HPART hto0 hA8 hF8 hB8 HR7 HF7 HBV
      generalize htop : top3 N f g h = v at *
      have HTOP := Lib.hid htop
      clear htop
      go_upto_region 14 with fail
      go_region_held3 (fun w' => w'.cell? ⟨w.heap.size, 0, none⟩ = some (.pointer (some ⟨A.a, 0, none⟩)) ∧ w'.cell? ⟨bv, 0, none⟩ = some (.int .i32 v)) (first | exact hS | go_keep) ((first
        | (go_at_call 78; (with_reducible refine (HP1.out W8.drew HBD.out).mono ?_); rintro e W9 ⟨hi, N2, rfl, hto1, hA9, hF9, hB9⟩; have hS : W9.cell? ⟨w.heap.size, 0, none⟩ = some (.pointer (some ⟨A.a, 0, none⟩)) ∧ W9.cell? ⟨bv, 0, none⟩ = some (.int .i32 v) := ⟨hF9.ba.cell, hB9.cell⟩; have hlev := IteTo.levels hwf hf hg hh hf2 HTOP.out.symm HTO0.out hto1; have hmk := mk_any v lo hi hA9 hlev.1 hlev.2.1 (by omega) hlev.2.2.1 hlev.2.2.2 (HC.out.mk hwf hf hg hh hf2 HTOP.out.symm HTO0.out hto1); unfold Blks.val at hmk; have HMK := Lib.hid hmk; have HTO1 := Lib.hid hto1; have HF9 := Lib.hid hF9; have HB9 := Lib.hid hB9; clear hmk hlev hto1 hF9 hA9 hB9)
        | (go_at_call 51; (with_reducible refine HMK.out.mono ?_); rintro e W10 ⟨r, N3, rfl, hm, hA10, hk10⟩; have hS : W10.cell? ⟨w.heap.size, 0, none⟩ = some (.pointer (some ⟨A.a, 0, none⟩)) ∧ W10.cell? ⟨bv, 0, none⟩ = some (.int .i32 v) := ⟨(HF9.out.ba.kept hk10).cell, (HB9.out.kept hk10).cell⟩; have HF10 := Lib.hid (HF9.out.step hk10); have HM := Lib.hid hm; have HA10 := Lib.hid hA10; clear hm hA10 hk10)))
      have HTO := Lib.hid (IteTo.step hwf hf hg hh hf2 HTOP.out.symm HTO0.out HTO1.out HM.out)
      obtain ⟨nv10, hA10⟩ := HA10.out
      obtain ⟨l10, hl10, hmo10⟩ := hA10.ites
      have hnd10 : (l10.map (·.1)).Nodup := by obtain ⟨_, _, _, _, _, h4⟩ := hl10; exact h4
      have c0 := HF10.out.ba.cell
      have c4 : W10.cell? ⟨A.a, 4, none⟩ = some (.map (some A.i)) := hA10.cellAt rfl
      obtain ⟨n0, n1, n2⟩ := HF10.out.k
      have hl3 := HTO.out.ext.len
      have hput : MemoOk N3 (putM l10 (triV f g h) (.int .i32 r)) := hmo10.put hnd10 (by omega) (by omega) (by omega) HTO.out.lt fun s => by
        rw [HTO.out.sem, HTO.out.ext.ev hwf HTO.out.wf s hf, HTO.out.ext.ev hwf HTO.out.wf s hg, HTO.out.ext.ev hwf HTO.out.wf s hh]
      have HPUT := Lib.hid hput
      have HL10 := Lib.hid hl10
      have HAN := Lib.hid hA10
      clear hput hl10 hA10 hmo10 hnd10 HP1 HTO0 HTO1 HM HMK HF9 HB9 HA10 HBD s0 s1 hlook
      clear hS
      go_wp2
      go_still_tail 6, (by kernel_rfl)
      change wpList _ _ _ _ _ W10.drew
      refine wpList_mapAt rfl _ _ _ 95 21 rfl tri_keyed Try.underlying95 rfl (show MapAt _ _ W10.drew _ _ from HL10.out) (.agg #[.int .i32 f, .int .i32 g, .int .i32 h]) (.int .i32 r) kl rfl rfl hkey ?_
      intro w7 hm7 hg7
      have hg7' : W10.grownBy w7 (some A.i) := ⟨hg7.os, hg7.tape, hg7.output, hg7.size, hg7.block⟩
      obtain ⟨fin1, fin2⟩ := HAN.out.memo hm7 HPUT.out hg7'
      have FIN1 := Lib.hid fin1
      have FIN2 := Lib.hid (HF10.out.kept.trans fin2)
      clear fin1 fin2 hm7 hg7 hg7' c0 c4 n0 n1 n2
      go_wp2
      go_ret
      exact ⟨r, N3, rfl, HTO.out, ⟨nv10, FIN1.out⟩, FIN2.out⟩
/-- The arena's ite. -/
theorem ite_any : ∀ (n : Nat) (w : World) (B : Nat) (A : Blks) (V Mo : Nat) (N : List Nd) (H G : List Nat) (f g h : Nat), f + g + h ≤ n → ArAt w B A V Mo N H G → f < N.length → g < N.length → h < N.length → Cap N f g h →
      Calls Try.prog 45 #[A.val, .int .i32 f, .int .i32 g, .int .i32 h] w (IteRes w B A V Mo N H G f g h)
  | 0, w, B, A, V, Mo, N, H, G, f, g, h, hn, hA, hf, hg, hh, _ => ite_end f g h hA hf hg hh (.inr (.inl (by omega)))
  | n + 1, w, B, A, V, Mo, N, H, G, f, g, h, hn, hA, hf, hg, hh, hc => by
    by_cases he : IteEnd f g h
    · exact ite_end f g h hA hf hg hh he
    · exact ite_walk (ite_any n) f g h hn hA hf hg hh hc he
end Go.Proofs.Ytcchiagclhkieaa

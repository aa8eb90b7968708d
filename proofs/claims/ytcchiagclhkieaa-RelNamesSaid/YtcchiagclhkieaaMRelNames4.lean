/-
  Joined texts: Bm13, Wid, Dfs, Bm14, SortI, Bm15, Bn1, Rn1, Bm12, Sg.
-/
import Derived.Test.YtcchiagclhkieaaMRelNames3
import Derived.Deep.RegionHeldLaw
import Derived.Test.YtcchiagclhkieaaMRelNames1
import Derived.Test.YtcchiagclhkieaaShelf
import Derived.Sort.Walk13a
import Derived.Lib.SlicesCompact
import Derived.Lib.RowBridge
import Derived.Laws.OwnMore
/-
  The arena's Support: what is done at a node.
-/
namespace Go.Proofs.Ytcchiagclhkieaa
open Go Go.RowKit Go.ChangeMaps Go.MapKept Go.Maps Go.Lib Go.Sort

def supL (N : List Nd) (F : List Nat) : List Value := F.map fun (i : Nat) => Value.int .i64 ((nd N i).v : Int)
/-- The variables of what was met. -/
structure SupSt (w0 : World) (B : Nat) (A : Blks) (V Mo : Nat) (N : List Nd) (H G : List Nat) (ob ab : Nat) (F : List Nat) (W : World) : Prop where
  ar : ArAt W B A V Mo N H G
  o : ∃ fv, W.heap[ob]? = some (.cells #[fv] 52 (0, 0)) ∧ W.ownsRow w0.heap.size 3 1 fv F.length (supL N F) ∧ fv.ownBlock ≠ some ob ∧ fv.ownBlock ≠ some ab ∧ ∀ g, fv.ownBlock = some g → Foreign A W g
  a : W.heap[ab]? = some (.cells #[.pointer (some ⟨A.a, 0, none⟩)] 64 (0, 0))
  fo : Foreign A W ob ∧ Foreign A W ab ∧ ob ≠ ab ∧ w0.heap.size ≤ ob ∧ w0.heap.size ≤ ab
  b : Below w0.heap.size w0 W
  ok : FOk N F
def SupFr (w0 : World) (A : Blks) (ob ab : Nat) (W : World) (k : Nat) : Prop := Foreign A W k ∧ k ≠ ob ∧ k ≠ ab ∧ w0.heap.size ≤ k ∧ ∀ fv, W.cell? ⟨ob, 0, none⟩ = some fv → fv.ownBlock ≠ some k
theorem SupSt.calm {w0 : World} {B : Nat} {A : Blks} {V Mo : Nat} {N : List Nd} {H G : List Nat} {ob ab : Nat} {F : List Nat} {W W' : World} (s : SupSt w0 B A V Mo N H G ob ab F W) (h : Calm (SupFr w0 A ob ab) W W') :
    SupSt w0 B A V Mo N H G ob ab F W' ∧ (∀ k, SupFr w0 A ob ab W k → SupFr w0 A ob ab W' k) ∧ ∀ k, W.heap.size ≤ k → k < W'.heap.size → SupFr w0 A ob ab W' k := by
  obtain ⟨nv, hA⟩ := s.ar
  obtain ⟨a1, a2, a3⟩ := hA.calm h.size fun k hk hf => h.block k hk fun hh => hf hh.1
  obtain ⟨fv, o1, o2, o3, o4, o5⟩ := s.o
  obtain ⟨f1, f2, f3, f4, f5⟩ := s.fo
  have hb := s.b.size
  have lo := lt_of_block o1
  have la := lt_of_block s.a
  have hc := cell0 o1
  have k1 := (h.block ob lo (fun hh => hh.2.1 rfl)).trans o1
  have hc' := cell0 k1
  have k2 : ∀ g, fv.ownBlock = some g → W'.heap[g]? = W.heap[g]? := fun g hg => h.block g (o2.lt g hg).2 fun hh => hh.2.2.2.2 fv hc hg
  refine ⟨⟨⟨nv, a1⟩, ⟨fv, k1, owns_like o2 k2, o3, o4, fun g hg => a2 g (o5 g hg)⟩, (h.block ab la (fun hh => hh.2.2.1 rfl)).trans s.a, ⟨a2 _ f1, a2 _ f2, f3, f4, f5⟩, ⟨h.os.trans s.b.os, h.tape.trans s.b.tape, h.output.trans s.b.output, Nat.le_trans hb h.size, fun k hk => (h.block k (by omega) (fun hh => by have := hh.2.2.2.1; omega)).trans (s.b.block k hk)⟩, s.ok⟩,
    fun k hk => ⟨a2 k hk.1, hk.2.1, hk.2.2.1, hk.2.2.2.1, fun u hu => ?_⟩, fun k h1 h2 => ⟨a3 k h1 h2, by omega, by omega, by omega, fun u hu hh => ?_⟩⟩
  · rw [hc'] at hu
    injection hu with hu
    subst hu
    exact hk.2.2.2.2 _ hc
  · rw [hc'] at hu
    injection hu with hu
    subst hu
    have := (o2.lt k hh).2
    omega
theorem Try.infoInt : (Try.prog.info? 3).map (fun i => (i.zero, i.size, i.bytes)) = some (some (.int .i64 0), 1, 8) := by kernel_rfl
theorem one_i64 (x : Int) : ∀ u ∈ [Value.int .i64 x], u.oneCell' = true := by
  intro u hu
  simp at hu
  subst hu
  rfl
/-- The state behind one node more. -/
theorem SupSt.pushed {w0 : World} {B : Nat} {A : Blks} {V Mo : Nat} {N : List Nd} {H G : List Nat} {ob ab : Nat} {F : List Nat} {W w5 : World} (s : SupSt w0 B A V Mo N H G ob ab F W) {f : Nat} (h2 : 2 ≤ f) (hf : f < N.length) (hF : f ∉ F) {fv v5 : Value}
    (o1 : W.heap[ob]? = some (.cells #[fv] 52 (0, 0))) (o2 : W.ownsRow w0.heap.size 3 1 fv F.length (supL N F)) (o3 : fv.ownBlock ≠ some ob) (o4 : fv.ownBlock ≠ some ab) (o5 : ∀ g, fv.ownBlock = some g → Foreign A W g)
    (hown : w5.ownsRow w0.heap.size 3 1 v5 (F.length + 1) (supL N F ++ [.int .i64 (nd N f).v])) (hg : W.grownBy w5 fv.ownBlock) (hm : Moved fv v5 W.heap.size) :
    (w5.heap[ob]? = some (.cells #[fv] 52 (0, 0))) ∧ SupSt w0 B A V Mo N H G ob ab (F ++ [f]) (w5.setCell ⟨ob, 0, none⟩ v5) ∧ W.heap.size ≤ (w5.setCell ⟨ob, 0, none⟩ v5).heap.size ∧
      ∀ k, SupFr w0 A ob ab W k → (w5.setCell ⟨ob, 0, none⟩ v5).heap[k]? = W.heap[k]? ∧ SupFr w0 A ob ab (w5.setCell ⟨ob, 0, none⟩ v5) k := by
  obtain ⟨nv, hA⟩ := s.ar
  obtain ⟨f1, f2, f3, f4, f5⟩ := s.fo
  have lo := lt_of_block o1
  have la := lt_of_block s.a
  have hb := s.b.size
  have hs5 := hg.size
  have hsz : (w5.setCell ⟨ob, 0, none⟩ v5).heap.size = w5.heap.size := by simp [World.setCell]
  have t5 : ∀ k, k < W.heap.size → fv.ownBlock ≠ some k → w5.heap[k]? = W.heap[k]? := fun k hk hn => hg.block k hk (fun e => hn e.symm)
  have t6 : ∀ k, k < W.heap.size → k ≠ ob → fv.ownBlock ≠ some k → (w5.setCell ⟨ob, 0, none⟩ v5).heap[k]? = W.heap[k]? := fun k hk hn hn2 => (Below.heap_setCell w5 ⟨ob, 0, none⟩ v5 k hn).trans (t5 k hk hn2)
  have off : ∀ k, k < W.heap.size → fv.ownBlock ≠ some k → v5.ownBlock ≠ some k := fun k hk hn e => by
    rcases hm with h | h
    · rw [h] at e; exact hn e
    · have := h k e; omega
  have c5 := (t5 ob lo o3).trans o1
  obtain ⟨a1, a2, a3⟩ := hA.calm (w' := w5.setCell ⟨ob, 0, none⟩ v5) (by omega) fun k hk hf => t6 k hk (fun e => hf (e ▸ f1)) (fun e => hf (o5 k e))
  have k6 : (w5.setCell ⟨ob, 0, none⟩ v5).heap[ob]? = some (.cells #[v5] 52 (0, 0)) := set_at c5
  refine ⟨c5, ⟨⟨nv, a1⟩, ⟨v5, k6, ?_, off ob lo o3, off ab la o4, fun g hg5 => ?_⟩, (t6 ab la (fun e => f3 e.symm) o4).trans s.a, ⟨a2 _ f1, a2 _ f2, f3, f4, f5⟩, ⟨hg.os.trans s.b.os, hg.tape.trans s.b.tape, hg.output.trans s.b.output, by omega, fun k hk => (t6 k (by omega) (by omega) (fun e => by have := (o2.lt k e).1; omega)).trans (s.b.block k hk)⟩, s.ok.snoc h2 hf hF⟩, by omega, fun k hk => ?_⟩
  · rw [List.length_append, supL, List.map_append]
    exact owns_like hown fun k hk => Below.heap_setCell w5 ⟨ob, 0, none⟩ v5 k (fun e => off ob lo o3 (by rw [hk, e]))
  · rcases hm with h | h
    · exact a2 g (o5 g (by rw [← h]; exact hg5))
    · exact a3 g (h g hg5) (by have := (hown.lt g hg5).2; omega)
  · obtain ⟨p1, p2, p3, p4, p5⟩ := hk
    have hkW := p1.1
    have hko := p5 fv (cell0 o1)
    refine ⟨t6 k hkW p2 hko, a2 k p1, p2, p3, p4, fun u hu => ?_⟩
    rw [cell0 k6] at hu
    injection hu with hu
    subst hu
    exact off k hkW hko
/-- An append of one, the row nil or laid, as one step of a region that draws its order. -/
theorem step_append_any {P : Program} {ops : Array Oper} {o : Oper} {a : Act} {K : Act → World → Prop} {Q : Exit → Act → World → Prop} {E : Prop}
    (hg : o.guard = none) (s x : Operand) (t : TypeId) (hop : o.op = Op.call { callee := Callee.builtin Builtin.append, args := #[s, x], argTypes := #[t, t] })
    {w0 : World} (e : TypeId) (i : TypeInfo) (z : Value) (size bytes : Nat) (ht : P.underlying t = some (.slice e)) (hi : P.info? e = some i) (hz : i.zero = some z)
    (hsize : i.size = size) (hby : i.bytes = bytes) (hzs : z.cells.size = size) (hsz : 0 < size) (hb64 : bytes ≤ 64)
    {base n : Nat} {v : Value} {xs : List Value} (hown : w0.ownsRow base e size v n xs) (es : List Value) (hes : es.length = size) (h1 : ∀ u ∈ es, u.oneCell' = true) (hn : n ≤ 1099511627776) (hbase : base ≤ w0.heap.size)
    (hs : a.eval s = v) (hx : a.eval x = .slice (some ⟨w0.heap.size, 0, none⟩) 1 1)
    (hK : ∀ v' w', w'.ownsRow base e size v' (n + 1) (xs ++ es) → w0.grownBy w' v.ownBlock → Moved v v' w0.heap.size → K (a.put o.dst v') w') :
    if Region.wanted o (yielded ops a.tmps) = true then Oper.wp P o a (w0.alloc (.cells es.toArray e)) K Q else E := by
  rcases hown.2 with ⟨rfl, rfl⟩ | ⟨g, cap, cur, rfl, _⟩
  · have hw : Region.wanted o (yielded ops a.tmps) = true := by simp [Region.wanted, hg]
    rw [if_pos hw]
    obtain rfl : xs = [] := List.eq_nil_of_length_eq_zero (by have := hown.1; omega)
    have hgA : w0.grownBy (w0.alloc (.cells es.toArray e)) none := World.grownBy_alloc w0 _ none
    obtain ⟨v', w', hrun, r1, r2, _⟩ := run_append_own (P := P) (w0.alloc (.cells es.toArray e)) (w0.alloc (.cells es.toArray e)).heap.size t o.type e i z size bytes ht hi hz hsize hby hzs hsz (.slice none 0 0) 0 [] (World.ownsRow_nil _ _ e size) ⟨w0.heap.size, 0, none⟩ 1 1 es (by omega) (cells_new w0 es e) h1 (by unfold maxLen; omega) (by omega) (Nat.le_refl _)
    unfold Oper.wp
    simp [execOp, hop, resolve, invoke, builtin, hs, hx, hrun, Result.andThen]
    refine hK v' w' (owns_base r1 (by simp; omega)) (grown_none (hgA.trans r2) _) (.inr fun g hg' => ?_)
    have := (r1.lt g hg').1
    simp at this; omega
  · exact step_append_moved hg s x t hop e i z size bytes ht hi hz hsize hby hzs hsz hb64 hown es hes h1 hn hbase hs hx hK
set_option maxRecDepth 100000 in
set_option maxHeartbeats 1000000 in
theorem supStep {w0 : World} {B : Nat} {A : Blks} {V Mo : Nat} {N : List Nd} {H G : List Nat} {ob ab : Nat} (F : List Nat) (f : Nat) (W : World) (h2 : 2 ≤ f) (hf : f < N.length) (hF : f ∉ F) (s : SupSt w0 B A V Mo N H G ob ab F W) :
    Calls Try.prog 74 #[.int .i32 f, .pointer (some ⟨ob, 0, none⟩), .pointer (some ⟨ab, 0, none⟩)] W fun e W' => e = .returned (.tuple #[]) ∧ SupSt w0 B A V Mo N H G ob ab (F ++ [f]) W' ∧ W.heap.size ≤ W'.heap.size ∧
      ∀ k, SupFr w0 A ob ab W k → W'.heap[k]? = W.heap[k]? ∧ SupFr w0 A ob ab W' k := by
  have hwd : Below W.heap.size W W.drew := ⟨rfl, rfl, rfl, Nat.le_refl _, fun _ _ => rfl⟩
  obtain ⟨sd, fd, _⟩ := s.calm (.of_below hwd)
  obtain ⟨nv, hA⟩ := s.ar
  have hle := hA.le
  have hl := s.ok.len
  obtain ⟨g, cp, rfl, hat⟩ := hA.at_node
  obtain ⟨x0, _, _⟩ := hat f hf
  have c2 : W.cell? ⟨A.a, 2, none⟩ = some (.slice (some ⟨g, 0, none⟩) N.length cp) := hA.cellAt rfl
  have hv := hA.wf.v256 f
  have hv2 : ((nd N f).v : Int) ≤ 256 := by omega
  have hwr : IntKind.i64.wrap ((nd N f).v : Int) = ((nd N f).v : Int) := IntWalk.i64_in _ (by omega)
  have ca := cell0 s.a
  obtain ⟨fv, o1, o2, o3, o4, o5⟩ := s.o
  obtain ⟨Af, cf, rfl, _⟩ := owns_form o2
  have co := cell0 o1
  obtain ⟨i0, hif, hz0, hz1, hz2⟩ := info_parts Try.infoInt
  have lob := lt_of_block o1
  have lab := lt_of_block s.a
  have lA := lt_of_block hA.cells
  have lg : g < W.heap.size := (hA.row.lt g rfl).2
  have co' : ∀ o, (W.alloc o).cell? ⟨ob, 0, none⟩ = some (.slice Af F.length cf) := fun o => ((below1 W o).cell (p := ⟨ob, 0, none⟩) lob).trans co
  have ca' : ∀ o, (W.alloc o).cell? ⟨ab, 0, none⟩ = some (.pointer (some ⟨A.a, 0, none⟩)) := fun o => ((below1 W o).cell (p := ⟨ab, 0, none⟩) lab).trans ca
  have c2' : ∀ o, (W.alloc o).cell? ⟨A.a, 2, none⟩ = some (.slice (some ⟨g, 0, none⟩) N.length cp) := fun o => ((below1 W o).cell (p := ⟨A.a, 2, none⟩) lA).trans c2
  have x0' : ∀ o, (W.alloc o).cell? ⟨g, f * 3, none⟩ = some (.int .i32 (nd N f).v) := fun o => ((below1 W o).cell (p := ⟨g, f * 3, none⟩) lg).trans x0
  have hI : (f : Int) < (N.length : Int) := by omega
  have hl4 : F.length ≤ 1099511627776 := by omega
  have hb := s.b.size
  have HP := Lib.hid (fun (v5 : Value) (w5 : World) => sd.pushed (w5 := w5) (v5 := v5) h2 hf hF o1 (owns_kept_none o2 (only_of_below hwd none)) o3 o4 (fun g hg => ((Kept.of_below (lt_of_block hA.cells) hwd).same _ (o5 g hg)).2))
  have HOW := Lib.hid (owns_kept_none o2 (only_of_below hwd none))
  have hbs : w0.heap.size ≤ W.drew.heap.size := hb
  clear s sd fd hA hat o1 o2 o3 o4 o5 hle hl hwd
  go_enter Try.func74, Try.ntmps74
  go_region_law ((
    refine step_append_any rfl (.tmp 4) (.tmp 14) 52 rfl 3 i0 _ 1 8 Try.underlying52 hif hz0 hz1 hz2 rfl (by decide) (by decide) (w0 := W.drew) HOW.out [.int .i64 (nd N f).v] rfl (one_i64 _) hl4 hbs rfl rfl ?_
    intro v5 w5 hown5 hgr5 hmv5
    obtain ⟨p1, p2, p3, p4⟩ := HP.out v5 w5 hown5 hgr5 hmv5
    obtain ⟨Ax, cx, hv5, _⟩ := owns_form hown5
    subst hv5
    have hc5 := cell0 p1
    have hf5 := frozen_of_row w5 _ 0 _ _ p1
    have P2 := Lib.hid p2
    have P3 := Lib.hid p3
    have P4 := Lib.hid p4
    clear hown5 hgr5 hmv5 p1 p2 p3 p4))
  all_goals (try go_wp2)
  all_goals go_end0
  all_goals exact ⟨rfl, P2.out, P3.out, P4.out⟩
theorem supEn (args : Array Value) (w : World) : (callFunc 74 args).run Try.prog w = .ok (.enter 74 args) w := by
  go_simp
theorem supDo {w0 : World} {B : Nat} {A : Blks} {V Mo : Nat} {N : List Nd} {H G : List Nat} {ob ab : Nat} : DoOk 74 #[.pointer (some ⟨ob, 0, none⟩), .pointer (some ⟨ab, 0, none⟩)] B A V Mo N H G (SupSt w0 B A V Mo N H G ob ab) (SupFr w0 A ob ab) where
  en := supEn
  ar := fun _ _ s => s.ar
  calm := fun _ _ _ s h => ⟨(s.calm h).1, (s.calm h).2.1⟩
  fresh := fun _ _ _ k s h h1 h2 => (s.calm h).2.2 k h1 h2
  step := fun F f W h2 hf hF s => supStep F f W h2 hf hF s
end Go.Proofs.Ytcchiagclhkieaa

/-
  Diagrams, plain: how many nodes a function's diagram has at most, told by what is left of the function behind each variable. No program in sight.
-/
namespace Go.Proofs.Ytcchiagclhkieaa

abbrev Fun := (Nat → Bool) → Bool
def mixS (v : Nat) (s t : Nat → Bool) : Nat → Bool := fun u => if u < v then s u else t u
theorem mixS_low {v u : Nat} (s t : Nat → Bool) (h : u < v) : mixS v s t u = s u := by simp [mixS, h]
theorem mixS_high {v u : Nat} (s t : Nat → Bool) (h : v ≤ u) : mixS v s t u = t u := by simp [mixS]; omega
/-- What is left of a function behind the variables ahead of v. -/
def cof (F : Fun) (v : Nat) (s : Nat → Bool) : Fun := fun t => F (mixS v s t)
def CutLe (F : Fun) (v k : Nat) : Prop := ∃ L : List Fun, L.length ≤ k ∧ ∀ s, cof F v s ∈ L
def Free (F : Fun) (v : Nat) : Prop := ∀ s b, F (put s v b) = F s
def sumTo (c : Nat → Nat) : Nat → Nat
  | 0 => 0
  | n + 1 => sumTo c n + c n
def Wid (F : Fun) (k : Nat) : Prop := ∃ c : Nat → Nat, (∀ v, v < 256 → Free F v ∨ CutLe F v (c v)) ∧ sumTo c 256 ≤ k
theorem CutLe.mono {F : Fun} {v k m : Nat} (h : CutLe F v k) (hk : k ≤ m) : CutLe F v m := by
  obtain ⟨L, a, b⟩ := h
  exact ⟨L, by omega, b⟩
theorem Wid.mono {F : Fun} {k m : Nat} (h : Wid F k) (hk : k ≤ m) : Wid F m := by
  obtain ⟨c, a, b⟩ := h
  exact ⟨c, a, by omega⟩
theorem sumTo_le {c d : Nat → Nat} : ∀ n, (∀ v, v < n → c v ≤ d v) → sumTo c n ≤ sumTo d n
  | 0, _ => Nat.le_refl _
  | n + 1, h => by
    have := sumTo_le n fun v hv => h v (by omega)
    have := h n (by omega)
    show sumTo c n + c n ≤ sumTo d n + d n
    omega
theorem sumTo_const (k : Nat) : ∀ n, sumTo (fun _ => k) n = n * k
  | 0 => by simp [sumTo]
  | n + 1 => by
    show sumTo (fun _ => k) n + k = _
    rw [sumTo_const k n, Nat.add_mul, Nat.one_mul]
theorem sumTo_cut (k m : Nat) : ∀ n, sumTo (fun v => if v < m then k else 0) n = min n m * k
  | 0 => by simp [sumTo]
  | n + 1 => by
    show sumTo _ n + (if n < m then k else 0) = _
    rw [sumTo_cut k m n]
    by_cases h : n < m
    · rw [if_pos h, Nat.min_eq_left (by omega), Nat.min_eq_left (by omega), Nat.add_mul, Nat.one_mul]
    · rw [if_neg h, Nat.min_eq_right (by omega), Nat.min_eq_right (by omega), Nat.add_zero]
/-- One of each. -/
theorem inj_len {α : Type} : ∀ (l : List Nat) (L : List α) (f : Nat → α), l.Nodup → (∀ i ∈ l, f i ∈ L) → (∀ i ∈ l, ∀ j ∈ l, f i = f j → i = j) → l.length ≤ L.length
  | [], _, _, _, _, _ => Nat.zero_le _
  | a :: r, L, f, hn, hm, hi => by
    obtain ⟨L1, L2, rfl⟩ := List.append_of_mem (hm a (List.mem_cons_self ..))
    rw [List.nodup_cons] at hn
    have ih := inj_len r (L1 ++ L2) f hn.2 (fun i h => by
      have h1 := hm i (List.mem_cons_of_mem _ h)
      have h2 : f i ≠ f a := fun e => hn.1 (hi i (List.mem_cons_of_mem _ h) a (List.mem_cons_self ..) e ▸ h)
      rcases List.mem_append.1 h1 with h1 | h1
      · exact List.mem_append_left _ h1
      · rcases List.mem_cons.1 h1 with h1 | h1
        · exact absurd h1 h2
        · exact List.mem_append_right _ h1) fun i h j h' => hi i (List.mem_cons_of_mem _ h) j (List.mem_cons_of_mem _ h')
    simp only [List.length_append, List.length_cons] at ih ⊢
    omega
theorem len_parts (p : Nat → Bool) : ∀ l : List Nat, l.length = (l.filter p).length + (l.filter fun i => !p i).length
  | [] => rfl
  | a :: r => by
    have := len_parts p r
    cases h : p a <;> simp [h] <;> omega
theorem by_label (lab c : Nat → Nat) : ∀ (n : Nat) (l : List Nat), (∀ i ∈ l, lab i < n) → (∀ v, v < n → (l.filter fun i => lab i = v).length ≤ c v) → l.length ≤ sumTo c n
  | 0, l, h, _ => by
    cases l with
    | nil => simp
    | cons a r => exact absurd (h a (List.mem_cons_self ..)) (by omega)
  | n + 1, l, h, hc => by
    have e := len_parts (fun i => decide (lab i < n)) l
    have ih := by_label lab c n (l.filter fun i => decide (lab i < n)) (fun i hi => by simpa using (List.mem_filter.1 hi).2) (fun v hv => by
      exact Nat.le_trans (List.filter_sublist.filter _).length_le (hc v (by omega)))
    have h2 : (l.filter fun i => !decide (lab i < n)).length ≤ c n := by
      refine Nat.le_trans (Nat.le_of_eq ?_) (hc n (by omega))
      congr 1
      refine List.filter_congr fun i hi => ?_
      have := h i hi
      by_cases hv : lab i < n
      · have : ¬ lab i = n := by omega
        simp [hv, this]
      · have : lab i = n := by omega
        simp [this]
    show l.length ≤ sumTo c n + c n
    omega
theorem Rch.lab {N : List Nd} (w : WF N) {i j : Nat} (h : Rch N i j) : (nd N i).v ≤ (nd N j).v := by
  induction h with
  | refl i => exact Nat.le_refl _
  | lo a b _ ih => have := w.vlo _ a b; omega
  | hi a b _ ih => have := w.vhi _ a b; omega
/-- A node beneath another one is what is left of it. -/
theorem Rch.path {N : List Nd} (w : WF N) {r i : Nat} (h : Rch N r i) (hr : r < N.length) : ∃ s, ∀ t, ev N (mixS (nd N i).v s t) r = ev N t i := by
  induction h with
  | refl i => exact ⟨fun _ => false, fun t => ev_agree w i _ _ hr fun v hv => mixS_high _ _ hv⟩
  | @lo r i a b h ih =>
    have h1 := w.lo _ a b
    have h2 := w.vlo _ a b
    have h3 := Rch.lab w h
    obtain ⟨s, hs⟩ := ih (by omega)
    refine ⟨put s (nd N r).v false, fun t => ?_⟩
    rw [ev_node w _ a b, mixS_low _ _ (by omega), put_same, if_neg (by simp), ← hs t]
    refine ev_agree w _ _ _ (by omega) fun v hv => ?_
    unfold mixS
    split
    · exact put_other (by omega)
    · rfl
  | @hi r i a b h ih =>
    have h1 := w.hi _ a b
    have h2 := w.vhi _ a b
    have h3 := Rch.lab w h
    obtain ⟨s, hs⟩ := ih (by omega)
    refine ⟨put s (nd N r).v true, fun t => ?_⟩
    rw [ev_node w _ a b, mixS_low _ _ (by omega), put_same, if_pos rfl, ← hs t]
    refine ev_agree w _ _ _ (by omega) fun v hv => ?_
    unfold mixS
    split
    · exact put_other (by omega)
    · rfl
theorem Rch.lt {N : List Nd} (w : WF N) {r i : Nat} (h : Rch N r i) (hr : r < N.length) : i < N.length := by
  have := h.le w hr
  omega
/-- A node hangs on its own variable. -/
theorem not_free {N : List Nd} (w : WF N) {r i : Nat} (hr : r < N.length) (h : Rch N r i) (h2 : 2 ≤ i) : ¬ Free (fun s => ev N s r) (nd N i).v := by
  intro hf
  have hi := h.lt w hr
  obtain ⟨s, hs⟩ := h.path w hr
  have a := w.lo i h2 hi
  have b := w.hi i h2 hi
  refine w.ne i h2 hi (w.canon (i + i) _ _ (by omega) (by omega) (by omega) (by omega) fun t => ?_)
  rw [← ev_lo w h2 hi t, ← ev_hi w h2 hi t, ← hs, ← hs]
  have e : ∀ b', mixS (nd N i).v s (put t (nd N i).v b') = put (mixS (nd N i).v s t) (nd N i).v b' := fun b' => funext fun u => by
    unfold mixS put
    by_cases h1 : u < (nd N i).v
    · have h3 : ¬ u = (nd N i).v := by omega
      simp [h1, h3]
    · simp [h1]
  rw [e, e]
  exact (hf (mixS (nd N i).v s t) false).trans (hf (mixS (nd N i).v s t) true).symm
/-- THE BOUND. -/
theorem wid_nodes {N : List Nd} (w : WF N) {r k : Nat} (hr : r < N.length) (hw : Wid (fun s => ev N s r) k) {l : List Nat} (hn : l.Nodup) (hl : ∀ i ∈ l, 2 ≤ i ∧ Rch N r i) : l.length ≤ k := by
  obtain ⟨c, hc, hk⟩ := hw
  refine Nat.le_trans (by_label (fun i => (nd N i).v) c 256 l (fun i hi => ?_) fun v hv => ?_) hk
  · obtain ⟨h2, h⟩ := hl i hi
    exact w.v_lt h2 (h.lt w hr)
  · have hm : ∀ i ∈ (l.filter fun i => decide ((nd N i).v = v)), i ∈ l ∧ (nd N i).v = v := fun i hi => by
      have := List.mem_filter.1 hi
      exact ⟨this.1, by simpa using this.2⟩
    rcases hc v hv with hf | ⟨L, hL, hc⟩
    · refine Nat.le_trans (Nat.le_of_eq ?_) (Nat.zero_le _)
      rw [List.length_eq_zero_iff, List.eq_nil_iff_forall_not_mem]
      intro i hi
      obtain ⟨h1, rfl⟩ := hm i hi
      exact not_free w hr (hl i h1).2 (hl i h1).1 hf
    · refine Nat.le_trans (inj_len _ L (fun i s => ev N s i) (hn.filter _) (fun i hi => ?_) fun i hi j hj e => ?_) hL
      · obtain ⟨h1, rfl⟩ := hm i hi
        obtain ⟨s, hs⟩ := (hl i h1).2.path w hr
        have := hc s
        rw [show cof (fun s => ev N s r) (nd N i).v s = fun t => ev N t i from funext hs] at this
        exact this
      · have h1 := hl i (hm i hi).1
        have h2 := hl j (hm j hj).1
        have := h1.2.lt w hr
        have := h2.2.lt w hr
        exact w.canon (i + j) i j (by omega) (by omega) (by omega) (by omega) fun s => congrFun e s
/-- What ite may leave. -/
theorem IteTo.len {N N' : List Nd} {f g h r k : Nat} (two : 2 ≤ N.length) (t : IteTo N f g h r N') (hw : Wid (fun s => if ev N s f then ev N s g else ev N s h) k) : N'.length ≤ N.length + k := by
  have hw' : Wid (fun s => ev N' s r) k := by
    rw [show (fun s => ev N' s r) = fun s => if ev N s f then ev N s g else ev N s h from funext t.sem]
    exact hw
  have hn : ((List.range (N'.length - N.length)).map (· + N.length)).Nodup := by
    refine List.Pairwise.map _ (fun a b h => ?_) List.nodup_range
    omega
  have := wid_nodes t.wf t.lt hw' hn (fun i hi => by
    simp only [List.mem_map, List.mem_range] at hi
    obtain ⟨a, ha, rfl⟩ := hi
    exact ⟨by omega, t.new _ (by omega) (by omega)⟩)
  simp at this
  omega
theorem Cap.of_wid {N : List Nd} {f g h k : Nat} (two : 2 ≤ N.length) (hw : Wid (fun s => if ev N s f then ev N s g else ev N s h) k) (hk : N.length + k ≤ 2147483647) : Cap N f g h := fun r N' t => by
  have := t.len two hw
  omega
theorem Free.op {F G H : Fun} {v : Nat} (o : Bool → Bool → Bool → Bool) (a : Free F v) (b : Free G v) (c : Free H v) : Free (fun s => o (F s) (G s) (H s)) v := fun s x => by
  show o (F (put s v x)) (G (put s v x)) (H (put s v x)) = _
  rw [a, b, c]
theorem fm_len {α β : Type} (f : α → List β) (k : Nat) (h : ∀ x, (f x).length = k) : ∀ l : List α, (l.flatMap f).length = l.length * k
  | [] => by simp
  | a :: r => by rw [List.flatMap_cons, List.length_append, h, fm_len f k h r, List.length_cons, Nat.add_mul, Nat.one_mul, Nat.add_comm]
theorem CutLe.op {F G H : Fun} {v x y z : Nat} (o : Bool → Bool → Bool → Bool) (a : CutLe F v x) (b : CutLe G v y) (c : CutLe H v z) : CutLe (fun s => o (F s) (G s) (H s)) v (x * (y * z)) := by
  obtain ⟨A, a1, a2⟩ := a
  obtain ⟨B, b1, b2⟩ := b
  obtain ⟨C, c1, c2⟩ := c
  refine ⟨A.flatMap fun f => B.flatMap fun g => C.map fun h => fun s => o (f s) (g s) (h s), ?_, fun s => ?_⟩
  · rw [fm_len _ (B.length * C.length) fun f => fm_len _ C.length (fun g => List.length_map ..) B]
    exact Nat.mul_le_mul a1 (Nat.mul_le_mul b1 c1)
  · exact List.mem_flatMap.2 ⟨_, a2 s, List.mem_flatMap.2 ⟨_, b2 s, List.mem_map.2 ⟨_, c2 s, rfl⟩⟩⟩
theorem Free.op2 {F G : Fun} {v : Nat} (o : Bool → Bool → Bool) (a : Free F v) (b : Free G v) : Free (fun s => o (F s) (G s)) v := fun s x => by
  show o (F (put s v x)) (G (put s v x)) = _
  rw [a, b]
theorem CutLe.op2 {F G : Fun} {v x y : Nat} (o : Bool → Bool → Bool) (a : CutLe F v x) (b : CutLe G v y) : CutLe (fun s => o (F s) (G s)) v (x * y) := by
  obtain ⟨A, a1, a2⟩ := a
  obtain ⟨B, b1, b2⟩ := b
  refine ⟨A.flatMap fun f => B.map fun g => fun s => o (f s) (g s), ?_, fun s => ?_⟩
  · rw [fm_len _ B.length fun f => List.length_map ..]
    exact Nat.mul_le_mul a1 b1
  · exact List.mem_flatMap.2 ⟨_, a2 s, List.mem_map.2 ⟨_, b2 s, rfl⟩⟩
theorem Free.op1 {F : Fun} {v : Nat} (o : Bool → Bool) (a : Free F v) : Free (fun s => o (F s)) v := fun s x => by
  show o (F (put s v x)) = _
  rw [a]
theorem CutLe.op1 {F : Fun} {v x : Nat} (o : Bool → Bool) (a : CutLe F v x) : CutLe (fun s => o (F s)) v x := by
  obtain ⟨A, a1, a2⟩ := a
  exact ⟨A.map fun f => fun s => o (f s), by rw [List.length_map]; exact a1, fun s => List.mem_map.2 ⟨_, a2 s, rfl⟩⟩
theorem Free.const (b : Bool) (v : Nat) : Free (fun _ => b) v := fun _ _ => rfl
theorem CutLe.const (b : Bool) (v : Nat) : CutLe (fun _ => b) v 1 := ⟨[fun _ => b], Nat.le_refl _, fun _ => List.mem_singleton.2 rfl⟩
/-- F hangs on variables from a to b alone. -/
def Hangs (F : Fun) (a b : Nat) : Prop := ∀ s t : Nat → Bool, (∀ u, a ≤ u → u < b → s u = t u) → F s = F t
theorem Hangs.free {F : Fun} {a b v : Nat} (h : Hangs F a b) (hv : v < a ∨ b ≤ v) : Free F v := fun s x => h _ _ fun u h1 h2 => put_other (by omega)
theorem Hangs.mono {F : Fun} {a b a' b' : Nat} (h : Hangs F a b) (ha : a' ≤ a) (hb : b ≤ b') : Hangs F a' b' := fun s t e => h s t fun u h1 h2 => e u (by omega) (by omega)
theorem Hangs.ahead {F : Fun} {a b v : Nat} (h : Hangs F a b) (hv : v ≤ a) : CutLe F v 1 :=
  ⟨[F], Nat.le_refl _, fun s => List.mem_singleton.2 (funext fun t => h _ _ fun u h1 h2 => mixS_high _ _ (by omega))⟩
theorem Hangs.behind {F : Fun} {a b v : Nat} (h : Hangs F a b) (hv : b ≤ v) : CutLe F v 2 := by
  refine ⟨[fun _ => false, fun _ => true], by simp, fun s => ?_⟩
  have e : cof F v s = fun _ => F s := funext fun t => h _ _ fun u h1 h2 => mixS_low _ _ (by omega)
  rw [e]
  cases F s <;> simp
theorem Hangs.op {F G H : Fun} {a b : Nat} (o : Bool → Bool → Bool → Bool) (f : Hangs F a b) (g : Hangs G a b) (h : Hangs H a b) : Hangs (fun s => o (F s) (G s) (H s)) a b := fun s t e => by
  show o (F s) (G s) (H s) = _
  rw [f s t e, g s t e, h s t e]
theorem Hangs.op2 {F G : Fun} {a b : Nat} (o : Bool → Bool → Bool) (f : Hangs F a b) (g : Hangs G a b) : Hangs (fun s => o (F s) (G s)) a b := fun s t e => by
  show o (F s) (G s) = _
  rw [f s t e, g s t e]
theorem Hangs.op1 {F : Fun} {a b : Nat} (o : Bool → Bool) (f : Hangs F a b) : Hangs (fun s => o (F s)) a b := fun s t e => by
  show o (F s) = _
  rw [f s t e]
theorem Hangs.const (x : Bool) (a b : Nat) : Hangs (fun _ => x) a b := fun _ _ _ => rfl
theorem Hangs.var (v : Nat) : Hangs (fun s => s v) v (v + 1) := fun s t e => e v (Nat.le_refl _) (by omega)
theorem Wid.of_hangs {F : Fun} {a b k : Nat} (h : Hangs F a b) (hb : b ≤ 256) (hc : ∀ v, a ≤ v → v < b → CutLe F v k) : Wid F (b * k) := by
  refine ⟨fun v => if v < b then k else 0, fun v hv => ?_, by rw [sumTo_cut, Nat.min_eq_right hb]; exact Nat.le_refl _⟩
  by_cases h1 : v < b
  · by_cases h2 : a ≤ v
    · refine .inr ?_
      simp only [h1, if_true]
      exact hc v h2 h1
    · exact .inl (h.free (.inl (by omega)))
  · exact .inl (h.free (.inr (by omega)))
/-- Only the variables of the nodes beneath count. -/
theorem ev_sup {N : List Nd} (w : WF N) : ∀ (i : Nat) (s t : Nat → Bool), i < N.length → (∀ j, 2 ≤ j → Rch N i j → s (nd N j).v = t (nd N j).v) → ev N s i = ev N t i := by
  intro i
  induction i using Nat.strongRecOn with
  | _ i ih =>
    intro s t hi hst
    rcases Nat.lt_or_ge i 2 with h2 | h2
    · obtain rfl | rfl : i = 0 ∨ i = 1 := by omega
      · rfl
      · rfl
    · rw [ev_node w s h2 hi, ev_node w t h2 hi, hst i h2 (.refl i)]
      have a := w.lo i h2 hi
      have b := w.hi i h2 hi
      rw [ih _ a s t (by omega) (fun j hj h => hst j hj (.lo h2 hi h)), ih _ b s t (by omega) (fun j hj h => hst j hj (.hi h2 hi h))]
theorem ev_hangs {N : List Nd} (w : WF N) {i : Nat} (hi : i < N.length) : Hangs (fun s => ev N s i) (nd N i).v 256 := fun s t e =>
  ev_sup w i s t hi fun _ hj h => e _ (h.lab w) (w.v_lt hj (h.lt w hi))
theorem free_of {N : List Nd} (w : WF N) {i v : Nat} (hi : i < N.length) (h : ∀ j, 2 ≤ j → Rch N i j → (nd N j).v ≠ v) : Free (fun s => ev N s i) v := fun _ _ =>
  ev_sup w i _ _ hi fun j hj hr => put_other (h j hj hr)
end Go.Proofs.Ytcchiagclhkieaa

/-
  What give's walk comes to: just the nodes beneath that are not held; how many these are.
-/
namespace Go.Proofs.Ytcchiagclhkieaa

theorem dfs_sub {N : List Nd} (H : List Nat) : ∀ (n f : Nat) (F : List Nat), ∀ i ∈ F, i ∈ dfs N H n f F
  | 0, _, _, _, h => h
  | n + 1, f, F, i, h => by
    unfold dfs
    by_cases hc : f < 2 ∨ f ∈ F ∨ f ∈ H
    · rw [if_pos hc]; exact h
    · rw [if_neg hc]
      exact dfs_sub H n _ _ i (dfs_sub H n _ _ i (List.mem_append_left _ h))
theorem dfs_rch {N : List Nd} (w : WF N) (H : List Nat) : ∀ (n f : Nat) (F : List Nat), f < N.length → ∀ i ∈ dfs N H n f F, i ∈ F ∨ 2 ≤ i ∧ Rch N f i
  | 0, _, _, _, _, h => .inl h
  | n + 1, f, F, hf, i, h => by
    unfold dfs at h
    by_cases hc : f < 2 ∨ f ∈ F ∨ f ∈ H
    · rw [if_pos hc] at h; exact .inl h
    · rw [if_neg hc] at h
      have h2 : 2 ≤ f := by omega
      have a := w.lo f h2 hf
      have b := w.hi f h2 hf
      rcases dfs_rch w H n _ _ (by omega) i h with h | ⟨h3, h⟩
      · rcases dfs_rch w H n _ _ (by omega) i h with h | ⟨h3, h⟩
        · rcases List.mem_append.1 h with h | h
          · exact .inl h
          · obtain rfl := List.mem_singleton.1 h
            exact .inr ⟨h2, .refl i⟩
        · exact .inr ⟨h3, .lo h2 hf h⟩
      · exact .inr ⟨h3, .hi h2 hf h⟩
/-- All that stands beneath one of the list is an end, or in the list. -/
def Cl (N : List Nd) (H : List Nat) : Prop := ∀ i ∈ H, ((nd N i).lo < 2 ∨ (nd N i).lo ∈ H) ∧ ((nd N i).hi < 2 ∨ (nd N i).hi ∈ H)
theorem dfs_cl {N : List Nd} (w : WF N) (H : List Nat) : ∀ (n f : Nat) (F : List Nat), f < n → f < N.length →
    (f < 2 ∨ f ∈ dfs N H n f F ∨ f ∈ H) ∧ ∀ i ∈ dfs N H n f F, i ∈ F ∨ ((nd N i).lo < 2 ∨ (nd N i).lo ∈ dfs N H n f F ∨ (nd N i).lo ∈ H) ∧ ((nd N i).hi < 2 ∨ (nd N i).hi ∈ dfs N H n f F ∨ (nd N i).hi ∈ H)
  | 0, _, _, h, _ => by omega
  | n + 1, f, F, hn, hf => by
    have hu : dfs N H (n + 1) f F = if f < 2 ∨ f ∈ F ∨ f ∈ H then F else dfs N H n (nd N f).hi (dfs N H n (nd N f).lo (F ++ [f])) := rfl
    by_cases hc : f < 2 ∨ f ∈ F ∨ f ∈ H
    · rw [hu, if_pos hc]
      exact ⟨hc, fun i h => .inl h⟩
    · rw [hu, if_neg hc]
      have h2 : 2 ≤ f := by omega
      have a := w.lo f h2 hf
      have b := w.hi f h2 hf
      obtain ⟨p1, p2⟩ := dfs_cl w H n (nd N f).lo (F ++ [f]) (by omega) (by omega)
      obtain ⟨q1, q2⟩ := dfs_cl w H n (nd N f).hi (dfs N H n (nd N f).lo (F ++ [f])) (by omega) (by omega)
      have sub := dfs_sub (N := N) H n (nd N f).hi (dfs N H n (nd N f).lo (F ++ [f]))
      have sub1 := dfs_sub (N := N) H n (nd N f).lo (F ++ [f])
      have up : ∀ c, (c < 2 ∨ c ∈ dfs N H n (nd N f).lo (F ++ [f]) ∨ c ∈ H) → (c < 2 ∨ c ∈ dfs N H n (nd N f).hi (dfs N H n (nd N f).lo (F ++ [f])) ∨ c ∈ H) := fun c h => by
        rcases h with h | h | h
        · exact .inl h
        · exact .inr (.inl (sub c h))
        · exact .inr (.inr h)
      refine ⟨.inr (.inl (sub f (sub1 f (by simp)))), fun i h => ?_⟩
      rcases q2 i h with h | h
      · rcases p2 i h with h | h
        · rcases List.mem_append.1 h with h | h
          · exact .inl h
          · obtain rfl := List.mem_singleton.1 h
            exact .inr ⟨up _ p1, q1⟩
        · exact .inr ⟨up _ h.1, up _ h.2⟩
      · exact .inr h
theorem newL_cl {N : List Nd} (w : WF N) {H : List Nat} (hH : Cl N H) {f : Nat} (hf : f < N.length) : Cl N (H ++ newL N H f) ∧ (2 ≤ f → f ∈ H ++ newL N H f) := by
  obtain ⟨p, q⟩ := dfs_cl w H (f + 1) f [] (by omega) hf
  have tr : ∀ c, (c < 2 ∨ c ∈ newL N H f ∨ c ∈ H) → (c < 2 ∨ c ∈ H ++ newL N H f) := fun c h => by
    rcases h with h | h | h
    · exact .inl h
    · exact .inr (List.mem_append_right _ h)
    · exact .inr (List.mem_append_left _ h)
  refine ⟨fun i hi => ?_, fun h2 => ?_⟩
  · rcases List.mem_append.1 hi with h | h
    · obtain ⟨a, b⟩ := hH i h
      exact ⟨tr _ (by rcases a with a | a; exact .inl a; exact .inr (.inr a)), tr _ (by rcases b with a | a; exact .inl a; exact .inr (.inr a))⟩
    · rcases q i h with h | h
      · cases h
      · exact ⟨tr _ h.1, tr _ h.2⟩
  · rcases tr f p with h | h
    · omega
    · exact h
theorem Cl.rch {N : List Nd} {H : List Nat} (hH : Cl N H) {f i : Nat} (h : Rch N f i) : f ∈ H → 2 ≤ i → i ∈ H := by
  induction h with
  | refl i => intro a _; exact a
  | @lo f i a b h ih =>
    intro hf h2
    rcases (hH f hf).1 with hc | hc
    · have := h.low hc; omega
    · exact ih hc h2
  | @hi f i a b h ih =>
    intro hf h2
    rcases (hH f hf).2 with hc | hc
    · have := h.low hc; omega
    · exact ih hc h2
theorem Cl.ext {N N' : List Nd} (e : Ext N N') {H : List Nat} (hH : Cl N H) (hl : ∀ i ∈ H, i < N.length) : Cl N' H := fun i hi => by
  rw [e.nd (hl i hi)]
  exact hH i hi
/-- below's list: all inner nodes beneath. -/
theorem mem_all {N : List Nd} (w : WF N) {f : Nat} (hf : f < N.length) (i : Nat) : i ∈ dfs N [] (f + 1) f [] ↔ 2 ≤ i ∧ Rch N f i := by
  constructor
  · intro h
    rcases dfs_rch w [] _ _ _ hf i h with h | h
    · cases h
    · exact h
  · rintro ⟨h2, h⟩
    have hc : Cl N (dfs N [] (f + 1) f []) := fun i hi => by
      rcases (dfs_cl w [] (f + 1) f [] (by omega) hf).2 i hi with h | ⟨a, b⟩
      · cases h
      · refine ⟨?_, ?_⟩
        · rcases a with a | a | a
          · exact .inl a
          · exact .inr a
          · cases a
        · rcases b with a | a | a
          · exact .inl a
          · exact .inr a
          · cases a
    have h0 : f ∈ dfs N [] (f + 1) f [] := by
      rcases (dfs_cl w [] (f + 1) f [] (by omega) hf).1 with a | a | a
      · have := h.low a; omega
      · exact a
      · cases a
    exact hc.rch h h0 h2
theorem newL_wid {N : List Nd} (w : WF N) (H : List Nat) {r k : Nat} (hr : r < N.length) (hw : Wid (fun s => ev N s r) k) : (newL N H r).length ≤ k :=
  wid_nodes w hr hw (newL_ok w H hr).1 fun i hi => by
    rcases dfs_rch w H _ _ _ hr i hi with h | h
    · cases h
    · exact h
theorem newL_old {N : List Nd} {H : List Nat} {r : Nat} (h : r < 2 ∨ r ∈ H) : newL N H r = [] := by
  show (if r < 2 ∨ r ∈ ([] : List Nat) ∨ r ∈ H then [] else _) = []
  rw [if_pos (by rcases h with h | h; exact .inl h; exact .inr (.inr h))]
theorem dfs_stop {N : List Nd} {H : List Nat} {n f : Nat} {F : List Nat} (h : f < 2 ∨ f ∈ H) : dfs N H n f F = F := by
  cases n with
  | zero => rfl
  | succ n =>
    show (if f < 2 ∨ f ∈ F ∨ f ∈ H then F else _) = F
    rw [if_pos (by rcases h with h | h; exact .inl h; exact .inr (.inr h))]
theorem newL_step {N : List Nd} {H : List Nat} {r : Nat} (hl : (nd N r).lo < 2 ∨ (nd N r).lo ∈ H) (hh : (nd N r).hi < 2 ∨ (nd N r).hi ∈ H) : (newL N H r).length ≤ 1 := by
  show (if r < 2 ∨ r ∈ ([] : List Nat) ∨ r ∈ H then [] else dfs N H r (nd N r).hi (dfs N H r (nd N r).lo ([] ++ [r]))).length ≤ 1
  split
  · simp
  · rw [dfs_stop hl, dfs_stop hh]
    simp
/-- How the nodes, and the held, may grow by an answer that is F. -/
def Grow (N : List Nd) (H : List Nat) (F : Fun) (k m : Nat) : Prop :=
  ∀ r N', Ext N N' → WF N' → r < N'.length → (∀ s, ev N' s r = F s) → (∀ i, N.length ≤ i → i < N'.length → Rch N' r i) → N'.length ≤ N.length + k ∧ (newL N' H r).length ≤ m
theorem new_len {N N' : List Nd} {r k : Nat} (two : 2 ≤ N.length) (w : WF N') (hr : r < N'.length) (hw : Wid (fun s => ev N' s r) k) (hn : ∀ i, N.length ≤ i → i < N'.length → Rch N' r i) : N'.length ≤ N.length + k := by
  have hd : ((List.range (N'.length - N.length)).map (· + N.length)).Nodup := by
    refine List.Pairwise.map _ (fun a b h => ?_) List.nodup_range
    omega
  have := wid_nodes w hr hw hd (fun i hi => by
    simp only [List.mem_map, List.mem_range] at hi
    obtain ⟨a, ha, rfl⟩ := hi
    exact ⟨by omega, hn _ (by omega) (by omega)⟩)
  simp at this
  omega
theorem Grow.wid {N : List Nd} {H : List Nat} {F : Fun} {k : Nat} (two : 2 ≤ N.length) (hw : Wid F k) : Grow N H F k k := fun r N' e w hr hs hn => by
  have hw' : Wid (fun s => ev N' s r) k := by
    rw [show (fun s => ev N' s r) = F from funext hs]
    exact hw
  exact ⟨new_len two w hr hw' hn, newL_wid w H hr hw'⟩
theorem Grow.mono {N : List Nd} {H : List Nat} {F : Fun} {k m k' m' : Nat} (h : Grow N H F k m) (hk : k ≤ k') (hm : m ≤ m') : Grow N H F k' m' := fun r N' e w hr hs hn => by
  have := h r N' e w hr hs hn
  omega
/-- A function that has a node. -/
theorem Grow.old {N : List Nd} {H : List Nat} {g : Nat} (w : WF N) (hg : g < N.length) (hh : g < 2 ∨ g ∈ H) : Grow N H (fun s => ev N s g) 0 0 := fun r N' e w' hr hs hn => by
  have hl := e.len
  have : r = g := w'.canon (r + g) r g (by omega) (by omega) hr (by omega) fun s => (hs s).trans (e.ev w w' s hg).symm
  subst this
  rw [newL_old hh]
  refine ⟨?_, Nat.le_refl _⟩
  rcases Nat.lt_or_ge N.length N'.length with h | h
  · have := (hn N.length (Nat.le_refl _) h).le w' hr
    omega
  · omega
/-- One variable ahead of two functions that have nodes. -/
theorem Grow.step {N : List Nd} {H : List Nat} {v g h : Nat} (w : WF N) (hv : v < 256) (hg : g < N.length) (hh : h < N.length) (gv : v < (nd N g).v) (hv' : v < (nd N h).v) (gh : g < 2 ∨ g ∈ H) (hhh : h < 2 ∨ h ∈ H) : Grow N H (fun s => if s v then ev N s g else ev N s h) 1 1 := fun r N' e w' hr hs hn => by
  have hs : ∀ s, ev N' s r = if s v then ev N s g else ev N s h := hs
  have hl := e.len
  by_cases hgh : g = h
  · subst hgh
    have := Grow.old (H := H) w hg gh r N' e w' hr (fun s => by rw [hs]; cases s v <;> rfl) hn
    omega
  · have low : ∀ i, i < N.length → ∀ j, Rch N' i j → j < N.length := fun i hi j hj => by
      have := hj.le w' (by omega)
      omega
    have h2 : 2 ≤ r := by
      rcases Nat.lt_or_ge r 2 with h2 | h2
      · exfalso
        refine hgh (w'.canon (g + h) g h (by omega) (by omega) (by omega) (by omega) fun s => ?_)
        have e1 := hs (put s v true)
        have e2 := hs (put s v false)
        rw [put_same, if_pos rfl] at e1
        rw [put_same, if_neg (by simp)] at e2
        rw [e.ev w w' s hg, e.ev w w' s hh, ← ev_put w hg gv s true, ← ev_put w hh hv' s false, ← e1, ← e2]
        obtain rfl | rfl : r = 0 ∨ r = 1 := by omega
        · rfl
        · rfl
      · exact h2
    have hlab : (nd N' r).v = v := by
      have hle : v ≤ (nd N' r).v := w'.level hr (by omega) fun s t hst => by
        rw [hs, hs, hst v (Nat.le_refl _), ev_agree w g s t hg fun u hu => hst u (by omega), ev_agree w h s t hh fun u hu => hst u (by omega)]
      rcases Nat.lt_or_ge v (nd N' r).v with hlt | hge
      · exfalso
        refine hgh (w'.canon (g + h) g h (by omega) (by omega) (by omega) (by omega) fun s => ?_)
        have e1 := hs (put s v true)
        have e2 := hs (put s v false)
        rw [put_same, if_pos rfl] at e1
        rw [put_same, if_neg (by simp)] at e2
        rw [e.ev w w' s hg, e.ev w w' s hh, ← ev_put w hg gv s true, ← ev_put w hh hv' s false, ← e1, ← e2, ev_put w' hr hlt, ev_put w' hr hlt]
      · omega
    have a := w'.lo r h2 hr
    have b := w'.hi r h2 hr
    have hlo : (nd N' r).lo = h := w'.canon ((nd N' r).lo + h) _ _ (by omega) (by omega) (by omega) (by omega) fun s => by
      rw [← ev_lo w' h2 hr s, hlab, hs, put_same, if_neg (by simp), ev_put w hh hv', e.ev w w' s hh]
    have hhi : (nd N' r).hi = g := w'.canon ((nd N' r).hi + g) _ _ (by omega) (by omega) (by omega) (by omega) fun s => by
      rw [← ev_hi w' h2 hr s, hlab, hs, put_same, if_pos rfl, ev_put w hg gv, e.ev w w' s hg]
    refine ⟨?_, newL_step (by rw [hlo]; exact hhh) (by rw [hhi]; exact gh)⟩
    have one : ∀ i, N.length ≤ i → i < N'.length → i = r := fun i h1 h3 => by
      have hr' := hn i h1 h3
      cases hr' with
      | refl => rfl
      | lo _ _ h' => rw [hlo] at h'; have := low _ hh _ h'; omega
      | hi _ _ h' => rw [hhi] at h'; have := low _ hg _ h'; omega
    rcases Nat.lt_or_ge (N.length + 1) N'.length with h4 | h4
    · have := one N.length (Nat.le_refl _) (by omega)
      have := one (N.length + 1) (by omega) h4
      omega
    · exact h4
theorem Grow.cap {N : List Nd} {H : List Nat} {f g h k m : Nat} (hg : Grow N H (fun s => if ev N s f then ev N s g else ev N s h) k m) (hk : N.length + k ≤ 2147483647) : Cap N f g h := fun r N' t => by
  have := hg r N' t.ext t.wf t.lt t.sem t.new
  omega
end Go.Proofs.Ytcchiagclhkieaa

/-
  The arena's refusals, and its Support.
-/
namespace Go.Proofs.Ytcchiagclhkieaa
open Go Go.RowKit Go.ChangeMaps Go.MapKept Go.Maps Go.Lib Go.Sort

theorem givenL_no (G : List Nat) (x : Int) (h : ∀ g ∈ G, x ≠ (g : Int)) : getM (givenL G) (.int .i64 x) = none := by
  refine getM_none fun p hp e => ?_
  unfold givenL at hp
  obtain ⟨g, hg, rfl⟩ := List.mem_map.1 hp
  simp at e
  exact h g hg e.symm
set_option maxRecDepth 100000 in
set_option maxHeartbeats 4000000 in
/-- A number that was not given is refused. -/
theorem check_no {w : World} {B : Nat} {A : Blks} {V Mo : Nat} {N : List Nd} {H G : List Nat} (hA : ArAt w B A V Mo N H G) (x : Int) (g c : Nat) (hv : w.cell? ⟨g, 0, none⟩ = some (.int .i64 x)) (hx : -9223372036854775808 ≤ x ∧ x ≤ 9223372036854775807)
    (hG : ∀ g ∈ G, x ≠ (g : Int)) :
    Calls Try.prog 46 #[A.val, .slice (some ⟨g, 0, none⟩) 1 c] w fun e w' => e = .returned (.int .i64 1) ∧ Below w.heap.size w w' := by
  obtain ⟨nv, hN⟩ := hA
  have a5 : w.cell? ⟨A.a, 5, none⟩ = some (.map (some A.g)) := hN.cellAt rfl
  have hlook : (Instr.lookup 96 (.map (some A.g)) (.int .i64 x) false).run Try.prog w = .ok (.bool false) w := by
    have h1 := hN.given.look i64_keyed Try.underlying96 (zero_bool w) false (key_i64 hx)
    rw [givenL_no G x hG] at h1
    exact h1
  clear hN hG hx
  unfold Blks.val
  go_enter Try.func46, Try.ntmps46
  go_wp2
  go_loop [11] (fun i => i = .int .i64 0) (fun _ => 0)
  case atStart => rfl
  case round =>
    obtain rfl := hrel
    go_wp2
    go_ret
    exact ⟨rfl, Below.refl _ _⟩
set_option maxRecDepth 100000 in
set_option maxHeartbeats 400000 in
theorem Size_no {w : World} {B : Nat} {A : Blks} {V Mo : Nat} {N : List Nd} {H G : List Nat} (x : Int) (hA : ArAt w B A V Mo N H G) (hx : -9223372036854775808 ≤ x ∧ x ≤ 9223372036854775807) (hG : ∀ g ∈ G, x ≠ (g : Int)) :
    Calls Try.prog 41 #[A.val, .int .i64 x] w fun e w' => e = .returned (.tuple #[.int .i64 0, .int .i64 1]) ∧ Below w.heap.size w w' := by
  have hb1 := below1 w (.cells #[.int .i64 x] 3)
  have hck := check_no (hA.below hb1) x w.heap.size 1 (by rw [cell_of_row _ _ 0 _ _ (0, 0) (blk1 w (.cells #[.int .i64 x] 3))]; rfl) hx hG
  have HB1 := Lib.hid hb1
  have HCK := Lib.hid hck
  clear hA hb1 hck hx hG
  unfold Blks.val at *
  go_enter Try.func41, Try.ntmps41
  go_wp2_with ((with_reducible refine HCK.out.mono ?_); rintro e W2 ⟨rfl, hb2⟩; have HB2 := Lib.hid (HB1.out.trans (hb2.mono HB1.out.size)); clear hb2)
  go_ret2
  exact ⟨rfl, HB2.out⟩
set_option maxRecDepth 100000 in
set_option maxHeartbeats 400000 in
theorem Support_no {w : World} {B : Nat} {A : Blks} {V Mo : Nat} {N : List Nd} {H G : List Nat} (x : Int) (hA : ArAt w B A V Mo N H G) (hx : -9223372036854775808 ≤ x ∧ x ≤ 9223372036854775807) (hG : ∀ g ∈ G, x ≠ (g : Int)) :
    Calls Try.prog 42 #[A.val, .int .i64 x] w fun e w' => e = .returned (.tuple #[.slice none 0 0, .int .i64 1]) ∧ Below w.heap.size w w' := by
  have hb0 := below1 w (.cells #[.pointer (some ⟨A.a, 0, none⟩)] 64)
  have hA0 := hA.below hb0
  have hk0 := cell0 (blk1 w (.cells #[.pointer (some ⟨A.a, 0, none⟩)] 64))
  have hs0 : (w.alloc (.cells #[.pointer (some ⟨A.a, 0, none⟩)] 64)).heap.size = w.heap.size + 1 := by simp
  have hb1 := hb0.alloc hb0.size (.cells #[.int .i64 x] 3)
  have hck := check_no (hA.below hb1) x (w.heap.size + 1) 1 (by
    have := blk1 (w.alloc (.cells #[.pointer (some ⟨A.a, 0, none⟩)] 64)) (.cells #[.int .i64 x] 3)
    rw [hs0] at this
    exact cell0 this) hx hG
  have HB1 := Lib.hid hb1
  have HCK := Lib.hid hck
  clear hA hb1 hck hx hG hA0 hb0 hs0
  unfold Blks.val at *
  go_enter Try.func42, Try.ntmps42
  go_wp2_with ((with_reducible refine HCK.out.mono ?_); rintro e W2 ⟨rfl, hb2⟩; have HB2 := Lib.hid (HB1.out.trans (hb2.mono HB1.out.size)); clear hb2)
  go_ret2
  exact ⟨rfl, HB2.out⟩
end Go.Proofs.Ytcchiagclhkieaa

/-
  slices.Sort and slices.Compact at a row of the call's own, whole numbers.
-/
namespace Go.Proofs.Ytcchiagclhkieaa
open Go Go.RowKit Go.Sort

def icells (L : List Int) : List Value := L.map (Value.int .i64)
theorem icells_len (L : List Int) : (icells L).length = L.length := by simp [icells]
theorem icell {L : List Int} {k : Nat} {x : Int} (h : L[k]? = some x) : (icells L)[k]? = some (.int .i64 x) := by simp [icells, h]
theorem put_take {n k : Nat} {d' : Array Int} {cur : Array Value} {c : Nat} (hd : d'.size = n) (hk : k ≤ n) (hnc : n ≤ c) (hcs : cur.size = c * 1) : (putCells (Value.int .i64) 0 d' cur).toList.take (k * 1) = icells (d'.toList.take k) := by
  apply List.ext_getElem?
  intro j
  by_cases hj : j < k * 1
  · rw [List.getElem?_take_of_lt hj, Array.getElem?_toList]
    have hjc : j < cur.size := by rw [hcs]; omega
    have hjd : j < d'.size := by omega
    simp only [putCells, Array.getElem?_mapIdx, Array.getElem?_eq_getElem hjc, Option.map_some, icells, List.getElem?_map]
    rw [if_pos (by omega), Nat.sub_zero, getElem!_pos d' j hjd, List.getElem?_take_of_lt (by omega), Array.getElem?_toList, Array.getElem?_eq_getElem hjd]
    rfl
  · have hsz : (putCells (Value.int .i64) 0 d' cur).size = cur.size := by simp [putCells]
    rw [List.getElem?_eq_none (by simp [hsz, hcs]; omega), List.getElem?_eq_none (by rw [icells_len]; simp [hd]; omega)]
/-- The row behind such a call is the call's own still; nothing else has turned. -/
theorem owns_put {w w' : World} {base g n c k : Nat} {L : List Int} {d' : Array Int} (hown : w.ownsRow base 3 1 (.slice (some ⟨g, 0, none⟩) n c) n (icells L)) (hd : d'.size = n) (hk : k ≤ n) (hat : At (Value.int .i64) w g 0 d' w') :
    w'.ownsRow base 3 1 (.slice (some ⟨g, 0, none⟩) k c) k (icells (d'.toList.take k)) ∧ w.grownBy w' (some g) := by
  obtain ⟨cur, hg, hnc, hcm, hcs, ht, hbg⟩ := owns_block hown
  obtain ⟨m, os, rfl⟩ := hat
  have hlt := lt_of_block hg
  have hg2 : (grow (putRow (Value.int .i64) (Sort.ahead w m) g 0 d') os).heap[g]? = some (.cells (putCells (Value.int .i64) 0 d' cur) 3 (0, 0)) := by
    simp only [grow, putRow, mapBlock]
    rw [Array.getElem?_append_left (by simp [Sort.ahead]; omega), Array.getElem?_modify, if_pos rfl]
    show Option.map _ w.heap[g]? = _
    rw [hg]
    rfl
  have hsz : (putCells (Value.int .i64) 0 d' cur).size = cur.size := by simp [putCells]
  refine ⟨owns_of_block hg2 (by omega) hcm (by rw [hsz, hcs]) (put_take hd hk hnc hcs) (by rw [icells_len]; simp [hd]; omega) hbg, ⟨rfl, rfl, rfl, ?_, fun i hi hne => ?_⟩⟩
  · simp [grow, putRow, mapBlock, Sort.ahead]
  · simp only [grow, putRow, mapBlock]
    rw [Array.getElem?_append_left (by simp [Sort.ahead]; omega), Array.getElem?_modify, if_neg (fun e => hne (by rw [e]))]
    rfl
theorem holds_row {w : World} {base g c : Nat} {L : List Int} (hown : w.ownsRow base 3 1 (.slice (some ⟨g, 0, none⟩) L.length c) L.length (icells L)) : Holds (Value.int .i64) w g 0 L.toArray := fun j hj => by
  have hj' : j < L.length := by simpa using hj
  refine ⟨?_, hown.frozenAt j |> fun h => by simpa using h⟩
  have := hown.cellAt j (by omega)
  rw [Nat.zero_add, this, icell (List.getElem?_eq_getElem hj')]
  simp [hj']
theorem mem_upTo (d : Array Int) : ∀ m, m ≤ d.size → ∀ x, x ∈ Lib.compactUpTo d m ↔ ∃ j, j < m ∧ d[j]! = x
  | 0, _, x => by simp [Lib.compactUpTo]
  | m + 1, hm, x => by
    rw [Lib.compactUpTo_succ, List.mem_append, mem_upTo d m (by omega)]
    constructor
    · rintro (⟨j, h1, h2⟩ | h)
      · exact ⟨j, by omega, h2⟩
      · split at h
        · exact ⟨m, by omega, (List.mem_singleton.1 h).symm⟩
        · cases h
    · rintro ⟨j, h1, h2⟩
      by_cases hj : j < m
      · exact .inl ⟨j, hj, h2⟩
      · obtain rfl : j = m := by omega
        by_cases hk : Lib.keeps d j = true
        · right; rw [if_pos hk, h2]; simp
        · left
          have : ¬ (j = 0 ∨ d[j]! ≠ d[j - 1]!) := by simpa [Lib.keeps] using hk
          have h0 : j ≠ 0 := fun h => this (.inl h)
          have he : d[j]! = d[j - 1]! := Decidable.not_not.1 fun h => this (.inr h)
          exact ⟨j - 1, by omega, by rw [← he, h2]⟩
theorem mem_compact (zs : List Int) (x : Int) : x ∈ Lib.compact zs ↔ x ∈ zs := by
  unfold Lib.compact
  rw [mem_upTo _ _ (by simp)]
  constructor
  · rintro ⟨j, h1, rfl⟩
    simp [h1]
  · intro h
    obtain ⟨j, hj, rfl⟩ := List.getElem_of_mem h
    exact ⟨j, hj, by simp [hj]⟩
theorem sortI_row (L : List Int) (v : Value) (base : Nat) (w : World) (hown : w.ownsRow base 3 1 v L.length (icells L)) (hlen : L.length < 4611686018427387904) :
    Calls Try.prog 75 #[v] w fun e w' => e = .returned (.tuple #[]) ∧ ∃ L' : List Int, (∀ x, x ∈ L' ↔ x ∈ L) ∧ L'.length = L.length ∧ w'.ownsRow base 3 1 v L'.length (icells L') ∧ w.grownBy w' v.ownBlock := by
  obtain ⟨A, c, rfl, hA⟩ := owns_form hown
  rcases Nat.eq_zero_or_pos L.length with h0 | h0
  · obtain rfl : L = [] := List.eq_nil_of_length_eq_zero h0
    refine (Try.slices_Sort_int_none A c w).mono ?_
    rintro e w' ⟨rfl, rfl⟩
    exact ⟨rfl, [], fun x => Iff.rfl, rfl, hown, World.grownBy.refl _ _⟩
  · obtain ⟨g, rfl⟩ := hA h0
    have hlt := (hown.lt g rfl).2
    refine (Try.slices_Sort_int g 0 c L w (holds_row hown) hlt hlen).mono ?_
    rintro e w' ⟨rfl, hat⟩
    have hsz : (L.mergeSort fun x y => decide (x ≤ y)).length = L.length := List.length_mergeSort _
    obtain ⟨h1, h2⟩ := owns_put hown (by simp) (Nat.le_refl _) hat
    refine ⟨rfl, L.mergeSort fun x y => decide (x ≤ y), fun x => List.mem_mergeSort, hsz, ?_, h2⟩
    rw [hsz]
    have e : (L.mergeSort fun x y => decide (x ≤ y)).toArray.toList.take L.length = L.mergeSort fun x y => decide (x ≤ y) := by
      rw [List.take_of_length_le (by simp)]
    rw [e] at h1
    exact h1
theorem compactI_row (L : List Int) (v : Value) (base : Nat) (w : World) (hown : w.ownsRow base 3 1 v L.length (icells L)) (hlen : L.length < 4611686018427387904) :
    Calls Try.prog 76 #[v] w fun e w' => ∃ v', e = .returned v' ∧ ∃ L' : List Int, (∀ x, x ∈ L' ↔ x ∈ L) ∧ L'.length ≤ L.length ∧ w'.ownsRow base 3 1 v' L'.length (icells L') ∧ w.grownBy w' v.ownBlock := by
  obtain ⟨A, c, rfl, hA⟩ := owns_form hown
  rcases Nat.eq_zero_or_pos L.length with h0 | h0
  · obtain rfl : L = [] := List.eq_nil_of_length_eq_zero h0
    refine (Try.slices_Compact_int_empty A c w).mono ?_
    rintro e w' ⟨rfl, rfl⟩
    exact ⟨_, rfl, [], fun x => Iff.rfl, Nat.le_refl _, hown, World.grownBy.refl _ _⟩
  · obtain ⟨g, rfl⟩ := hA h0
    obtain ⟨cur, hg, hnc, hcm, hcs, ht, hbg⟩ := owns_block hown
    refine (Try.slices_Compact_int g 0 c L w (holds_row hown) (by omega) hnc).mono ?_
    rintro e w' ⟨rfl, q, hq⟩
    have hle := Lib.compact_length_le L
    have hat : At (Value.int .i64) w g 0 (Lib.compact L ++ List.replicate (L.length - (Lib.compact L).length) 0).toArray w' := ⟨q, #[], by rw [grow_empty]; exact hq⟩
    obtain ⟨h1, h2⟩ := owns_put hown (by simp; omega) hle hat
    refine ⟨_, rfl, Lib.compact L, mem_compact L, hle, ?_, h2⟩
    have e : (Lib.compact L ++ List.replicate (L.length - (Lib.compact L).length) 0).toArray.toList.take (Lib.compact L).length = Lib.compact L := by
      simp
    rw [e] at h1
    exact h1
end Go.Proofs.Ytcchiagclhkieaa

/-
  The arena's Support.
-/
namespace Go.Proofs.Ytcchiagclhkieaa
open Go Go.RowKit Go.ChangeMaps Go.MapKept Go.Maps Go.Lib Go.Sort

theorem below_grown {w0 w w' : World} {v : Value} {B : Nat} (hb : Below B w0 w) (hB : B ≤ w.heap.size) (hg : w.grownBy w' v.ownBlock) (hv : ∀ g, v.ownBlock = some g → B ≤ g) : Below B w0 w' :=
  ⟨hg.os.trans hb.os, hg.tape.trans hb.tape, hg.output.trans hb.output, Nat.le_trans hb.size hg.size, fun k hk => (hg.block k (by omega) (fun e => by have := hv k e.symm; omega)).trans (hb.block k hk)⟩
set_option maxRecDepth 100000 in
set_option maxHeartbeats 1000000 in
theorem Support_any {w : World} {B : Nat} {A : Blks} {V Mo : Nat} {N : List Nd} {H G : List Nat} (f : Nat) (hA : ArAt w B A V Mo N H G) (hf : f ∈ G ∧ f < N.length) :
    Calls Try.prog 42 #[A.val, .int .i64 f] w fun e w' => ∃ (v : Value) (L : List Int), e = .returned (.tuple #[v, .int .i64 0]) ∧ w'.ownsRow w.heap.size 3 1 v L.length (icells L) ∧
      (∀ x, x ∈ L ↔ ∃ i, 2 ≤ i ∧ Rch N f i ∧ x = ((nd N i).v : Int)) ∧ L.length ≤ 2147483647 ∧ Below w.heap.size w w' := by
  have hle : N.length ≤ 2147483647 := by obtain ⟨_, h⟩ := hA; exact h.le
  have hwf : WF N := by obtain ⟨_, h⟩ := hA; exact h.wf
  have HMEM : Hid (∀ x : Int, x ∈ (bel N (f + 1) f []).map (fun (i : Nat) => ((nd N i).v : Int)) ↔ ∃ i, 2 ≤ i ∧ Rch N f i ∧ x = ((nd N i).v : Int)) := Lib.hid fun x => by
    rw [List.mem_map]
    constructor
    · rintro ⟨i, hi, rfl⟩
      have := (mem_all hwf hf.2 i).1 hi
      exact ⟨i, this.1, this.2, rfl⟩
    · rintro ⟨i, h2, hr, rfl⟩
      exact ⟨i, (mem_all hwf hf.2 i).2 ⟨h2, hr⟩, rfl⟩
  generalize hF : bel N (f + 1) f [] = F at *
  have hb0 := below1 w (.cells #[.pointer (some ⟨A.a, 0, none⟩)] 64)
  have hs0 : (w.alloc (.cells #[.pointer (some ⟨A.a, 0, none⟩)] 64)).heap.size = w.heap.size + 1 := by simp
  have hk0 := blk1 w (.cells #[.pointer (some ⟨A.a, 0, none⟩)] 64)
  have hc0 := cell0 hk0
  have hb1 := hb0.alloc hb0.size (.cells ([f].map fun (n : Nat) => Value.int .i64 (n : Int)).toArray 3)
  have hb01 := below1 (w.alloc (.cells #[.pointer (some ⟨A.a, 0, none⟩)] 64)) (.cells ([f].map fun (n : Nat) => Value.int .i64 (n : Int)).toArray 3)
  have hck := check_any (hA.below hb1) [f] (w.heap.size + 1) 1 (by
    have := new_cells (w.alloc (.cells #[.pointer (some ⟨A.a, 0, none⟩)] 64)) [f] 3
    rw [hs0] at this
    exact this) (by
    intro x hx
    simp at hx
    subst hx
    exact ⟨hf.1, by omega⟩) (by simp)
  have hck : Calls Try.prog 46 #[A.val, .slice (some ⟨w.heap.size + 1, 0, none⟩) 1 1] ((w.alloc (.cells #[.pointer (some ⟨A.a, 0, none⟩)] 64)).alloc (.cells #[.int .i64 f] 3)) fun e w' => e = .returned (.int .i64 0) ∧ Below ((w.alloc (.cells #[.pointer (some ⟨A.a, 0, none⟩)] 64)).alloc (.cells #[.int .i64 f] 3)).heap.size ((w.alloc (.cells #[.pointer (some ⟨A.a, 0, none⟩)] 64)).alloc (.cells #[.int .i64 f] 3)) w' := hck
  have HB1 := Lib.hid hb1
  have HK1 := Lib.hid (blk_below hb01 hk0)
  have HCK := Lib.hid hck
  have HA := Lib.hid hA
  have f1 := hf.2
  have f2 : (f : Int) ≤ 2147483646 := by omega
  have HF := Lib.hid hF
  clear hA hb0 hs0 hk0 hb1 hb01 hck hf hF hwf
  unfold Blks.val at *
  go_enter Try.func42, Try.ntmps42
  go_upto_region 4 with ((with_reducible refine HCK.out.mono ?_); rintro e W2 ⟨rfl, hb2⟩; have HB2 := Lib.hid (HB1.out.trans (hb2.mono HB1.out.size)); have HK2 := Lib.hid (blk_below hb2 HK1.out); clear hb2)
  go_upto_region 5 with fail
  have hb3 := HB2.out.alloc HB2.out.size (.cells #[.slice none 0 0] 52)
  have kn := blk1 W2 (.cells #[.slice none 0 0] 52)
  have ka := blk_below (below1 W2 (.cells #[.slice none 0 0] 52)) HK2.out
  have hA3 := HA.out.below hb3
  have la := lt_of_block HK2.out
  have hst : SupSt w B A V Mo N H G W2.heap.size w.heap.size [] (W2.alloc (.cells #[.slice none 0 0] 52)) :=
    ⟨hA3, ⟨.slice none 0 0, kn, World.ownsRow_nil _ _ _ _, by simp [Value.ownBlock], by simp [Value.ownBlock], fun g hg => by simp [Value.ownBlock] at hg⟩, ka, ⟨HA.out.foreign_new hb3 HB2.out.size (lt_of_block kn), HA.out.foreign_new hb3 (Nat.le_refl _) (lt_of_block ka), by omega, HB2.out.size, Nat.le_refl _⟩, hb3, ⟨List.nodup_nil, by simp⟩⟩
  have hbl := below_any supDo f f1 hst
  rw [HF.out] at hbl
  unfold Blks.val at hbl
  have HBL := Lib.hid hbl
  have ca := cell0 ka
  clear hbl hst kn ka hb3 hA3 HA HB1 HCK HK1 la
  generalize W2.alloc (.cells #[.slice none 0 0] 52) = W3 at *
  go_upto_region 6 with ((with_reducible refine HBL.out.mono ?_); rintro e W4 ⟨rfl, hs4⟩; have HS4 := Lib.hid hs4; clear hs4)
  obtain ⟨fv, o1, o2, o3, o4, o5⟩ := HS4.out.o
  have hlF := HS4.out.ok.len
  have hsl : supL N F = icells (F.map fun (i : Nat) => ((nd N i).v : Int)) := by simp [supL, icells]
  rw [hsl] at o2
  have hlen : (F.map fun (i : Nat) => ((nd N i).v : Int)).length = F.length := by simp
  rw [← hlen] at o2
  have hfl : (F.map fun (i : Nat) => ((nd N i).v : Int)).length ≤ 2147483647 := by omega
  clear hlen
  generalize (F.map fun (i : Nat) => ((nd N i).v : Int)) = L at *
  have c1 := cell0 o1
  have HSRT := Lib.hid (sortI_row L fv w.heap.size W4 o2 (by omega))
  have HBX := Lib.hid (And.intro o1 (And.intro o3 HS4.out.b))
  have HLT := Lib.hid (fun g (hg : fv.ownBlock = some g) => (o2.lt g hg).1)
  obtain ⟨Af, cf, rfl, _⟩ := owns_form o2
  clear o1 o2 o3 o4 o5 hsl HS4 HBL HK2 hlF ca
  go_upto_region 7 with ((with_reducible refine HSRT.out.mono ?_); rintro e W5 ⟨rfl, L5, hm5, hl5, ho5, hg5⟩; have HX5 := Lib.hid (And.intro hm5 (And.intro hl5 (And.intro ho5 hg5))); clear hm5 hl5 ho5 hg5)
  have c5 : W5.cell? ⟨W2.heap.size, 0, none⟩ = some (.slice Af L.length cf) := cell0 ((HX5.out.2.2.2.block _ (lt_of_block HBX.out.1) (fun e => HBX.out.2.1 e.symm)).trans HBX.out.1)
  have HCMP := Lib.hid (compactI_row L5 (.slice Af L.length cf) w.heap.size W5 HX5.out.2.2.1 (by have := HX5.out.2.1; omega))
  clear c1
  go_wp2_with ((with_reducible refine HCMP.out.mono ?_); rintro e W6 ⟨v6, rfl, L6, hm6, hl6, ho6, hg6⟩; have HX6 := Lib.hid (And.intro hm6 (And.intro hl6 (And.intro ho6 hg6))); clear hm6 hl6 ho6 hg6)
  go_ret2
  have hb5 := below_grown HBX.out.2.2 HBX.out.2.2.size HX5.out.2.2.2 HLT.out
  have hb6 := below_grown hb5 hb5.size HX6.out.2.2.2 HLT.out
  exact ⟨v6, L6, rfl, HX6.out.2.2.1, fun x => (HX6.out.1 x).trans ((HX5.out.1 x).trans (HMEM.out x)), by have := HX6.out.2.1; have := HX5.out.2.1; omega, hb6⟩
end Go.Proofs.Ytcchiagclhkieaa

/-
  An arena is made.
-/
namespace Go.Proofs.Ytcchiagclhkieaa
open Go Go.RowKit Go.ChangeMaps Go.MapKept Go.Maps Go.Lib Go.Sort

def N0 : List Nd := [⟨256, 0, 0⟩, ⟨256, 0, 0⟩]
theorem N0_wf : WF N0 := by
  refine ⟨by decide, fun i hi => ?_, fun i h2 hi => ?_, fun i h2 hi => ?_, fun i h2 hi => ?_, fun i h2 hi => ?_, fun i h2 hi => ?_, fun i j h2 hi => ?_⟩
  · obtain rfl | rfl : i = 0 ∨ i = 1 := by omega
    · rfl
    · rfl
  all_goals (exact absurd (show i < 2 from hi) (by omega))
theorem newArena {w w1 w2 : World} {V Mo : Nat} (hg1 : ((((w.alloc (.cells #[.int .i32 256, .int .i32 0, .int .i32 0, .int .i32 256, .int .i32 0, .int .i32 0] 92)).alloc (.map #[] 0)).alloc (.map #[] 0)).alloc (.map #[] 0)).grownBy w1 (some (w.heap.size + 1 + 1 + 1)))
    (hm2 : MapAt Try.prog 3 w2 (w.heap.size + 1 + 1 + 1) (putM (putM [] (.int .i64 0) (.bool true)) (.int .i64 1) (.bool true))) (hg2 : w1.grownBy w2 (some (w.heap.size + 1 + 1 + 1))) :
    ArAt ((w2.alloc (.map #[] 0)).alloc (.cells #[.int .i64 V, .int .i64 Mo, .slice (some ⟨w.heap.size, 0, none⟩) 2 2, .map (some (w.heap.size + 1)), .map (some (w.heap.size + 1 + 1)), .map (some (w.heap.size + 1 + 1 + 1)), .map (some w2.heap.size)] 99)) w.heap.size
      ⟨w2.heap.size + 1, w.heap.size + 1, w.heap.size + 1 + 1, w.heap.size + 1 + 1 + 1, w2.heap.size⟩ V Mo N0 [] [0, 1] ∧
    Below w.heap.size w ((w2.alloc (.map #[] 0)).alloc (.cells #[.int .i64 V, .int .i64 Mo, .slice (some ⟨w.heap.size, 0, none⟩) 2 2, .map (some (w.heap.size + 1)), .map (some (w.heap.size + 1 + 1)), .map (some (w.heap.size + 1 + 1 + 1)), .map (some w2.heap.size)] 99)) := by
  have hput : putM (putM [] (.int .i64 0) (.bool true)) (.int .i64 1) (.bool true) = givenL [0, 1] := by
    unfold putM
    simp [givenL]
  rw [hput] at hm2
  have hrow : (w.alloc (.cells #[.int .i32 256, .int .i32 0, .int .i32 0, .int .i32 256, .int .i32 0, .int .i32 0] 92)).ownsRow w.heap.size 92 3 (.slice (some ⟨w.heap.size, 0, none⟩) 2 2) 2 (ncells N0) :=
    World.ownsRow_lit w #[.int .i32 256, .int .i32 0, .int .i32 0, .int .i32 256, .int .i32 0, .int .i32 0] 2 (Nat.le_refl _) (by unfold maxLen; omega) rfl
  have s1 : (w.alloc (.cells #[.int .i32 256, .int .i32 0, .int .i32 0, .int .i32 256, .int .i32 0, .int .i32 0] 92)).heap.size = w.heap.size + 1 := by simp
  have hb1 := below1 w (.cells #[.int .i32 256, .int .i32 0, .int .i32 0, .int .i32 256, .int .i32 0, .int .i32 0] 92)
  generalize w.alloc (.cells #[.int .i32 256, .int .i32 0, .int .i32 0, .int .i32 256, .int .i32 0, .int .i32 0] 92) = W1 at *
  have hby := MapAt.made Try.prog 92 W1
  have s2 : (W1.alloc (.map #[] 0)).heap.size = w.heap.size + 1 + 1 := by simp [s1]
  have hb2 := below1 W1 (.map #[] 0)
  rw [s1] at hby
  generalize W1.alloc (.map #[] 0) = W2 at *
  have hit := MapAt.made Try.prog 126 W2
  have s3 : (W2.alloc (.map #[] 0)).heap.size = w.heap.size + 1 + 1 + 1 := by simp [s2]
  have hb3 := below1 W2 (.map #[] 0)
  rw [s2] at hit
  generalize W2.alloc (.map #[] 0) = W3 at *
  have s4 : (W3.alloc (.map #[] 0)).heap.size = w.heap.size + 1 + 1 + 1 + 1 := by simp [s3]
  have hb4 := below1 W3 (.map #[] 0)
  generalize W3.alloc (.map #[] 0) = W4 at *
  have z1 := hg1.size
  have z2 := hg2.size
  rw [s4] at z1
  have hhd := MapAt.made Try.prog 21 w2
  have s5 : (w2.alloc (.map #[] 0)).heap.size = w2.heap.size + 1 := by simp
  have hb5 := below1 w2 (.map #[] 0)
  generalize w2.alloc (.map #[] 0) = W5 at *
  have har := blk1 W5 (.cells #[.int .i64 V, .int .i64 Mo, .slice (some ⟨w.heap.size, 0, none⟩) 2 2, .map (some (w.heap.size + 1)), .map (some (w.heap.size + 1 + 1)), .map (some (w.heap.size + 1 + 1 + 1)), .map (some w2.heap.size)] 99)
  have hb6 := below1 W5 (.cells #[.int .i64 V, .int .i64 Mo, .slice (some ⟨w.heap.size, 0, none⟩) 2 2, .map (some (w.heap.size + 1)), .map (some (w.heap.size + 1 + 1)), .map (some (w.heap.size + 1 + 1 + 1)), .map (some w2.heap.size)] 99)
  rw [s5] at har
  generalize W5.alloc (.cells #[.int .i64 V, .int .i64 Mo, .slice (some ⟨w.heap.size, 0, none⟩) 2 2, .map (some (w.heap.size + 1)), .map (some (w.heap.size + 1 + 1)), .map (some (w.heap.size + 1 + 1 + 1)), .map (some w2.heap.size)] 99) = W6 at *
  rw [s1] at hb2
  rw [s2] at hb3
  rw [s3] at hb4
  rw [s5] at hb6
  have up : ∀ k, k < w2.heap.size → W6.heap[k]? = w2.heap[k]? := fun k hk => (hb6.block k (by omega)).trans (hb5.block k hk)
  have mid : ∀ k, k < w.heap.size + 1 + 1 + 1 → W6.heap[k]? = W4.heap[k]? := fun k hk =>
    (up k (by omega)).trans ((hg2.block k (by omega) (fun e => by injection e; omega)).trans (hg1.block k (by omega) (fun e => by injection e; omega)))
  have m3 : ∀ k, k < w.heap.size + 1 + 1 + 1 → W6.heap[k]? = W3.heap[k]? := fun k hk => (mid k hk).trans (hb4.block k hk)
  have m2 : ∀ k, k < w.heap.size + 1 + 1 → W6.heap[k]? = W2.heap[k]? := fun k hk => (m3 k (by omega)).trans (hb3.block k hk)
  have m1 : ∀ k, k < w.heap.size + 1 → W6.heap[k]? = W1.heap[k]? := fun k hk => (m2 k (by omega)).trans (hb2.block k hk)
  refine ⟨⟨.slice (some ⟨w.heap.size, 0, none⟩) 2 2, har, ?_, ⟨[], hby.same (m2 _ (by omega)), ?_⟩, ⟨[], hit.same (m3 _ (by omega)), ?_⟩, hm2.same (up _ (by omega)), hhd.same (hb6.block _ (by omega)), ?_, ?_, ?_, N0_wf, by decide⟩, ?_⟩
  · refine owns_like hrow fun k hk => m1 k ?_
    have : some w.heap.size = some k := hk
    injection this
    omega
  · exact ⟨fun i h2 hi => absurd (show i < 2 from hi) (by omega), fun n u hu => by cases hu⟩
  · exact fun f g k u hu => by cases hu
  · simp only [Blks.list, List.nodup_cons, List.mem_cons, List.not_mem_nil, or_false, not_or]
    refine ⟨⟨by omega, by omega, by omega, by omega⟩, ⟨by omega, by omega, by omega⟩, ⟨by omega, by omega⟩, by omega, by simp⟩
  · intro k hk
    simp only [Blks.list, List.mem_cons, List.not_mem_nil, or_false] at hk
    omega
  · intro k hk e
    have e : some w.heap.size = some k := e
    injection e with e
    simp only [Blks.list, List.mem_cons, List.not_mem_nil, or_false] at hk
    omega
  · refine ⟨hb6.os.trans (hb5.os.trans (hg2.os.trans (hg1.os.trans (hb4.os.trans (hb3.os.trans (hb2.os.trans hb1.os)))))), hb6.tape.trans (hb5.tape.trans (hg2.tape.trans (hg1.tape.trans (hb4.tape.trans (hb3.tape.trans (hb2.tape.trans hb1.tape)))))),
      hb6.output.trans (hb5.output.trans (hg2.output.trans (hg1.output.trans (hb4.output.trans (hb3.output.trans (hb2.output.trans hb1.output)))))), ?_, fun k hk => (m1 k (by omega)).trans (hb1.block k hk)⟩
    have := hb6.size
    have := hb5.size
    omega
set_option maxRecDepth 100000 in
set_option maxHeartbeats 4000000 in
theorem bddNew_any (w : World) (V Mo : Nat) (hV : V ≤ 256) (hMo : Mo ≤ 4194304) :
    Calls Try.prog 24 #[.int .i64 V, .int .i64 Mo] w fun e w' => ∃ A : Blks, e = .returned (.tuple #[A.val, .int .i64 0]) ∧ ArAt w' w.heap.size A V Mo N0 [] [0, 1] ∧ Below w.heap.size w w' := by
  have hk0 := key_i64 (a := 0) (by omega)
  have hk1 := key_i64 (a := 1) (by omega)
  have hmm := @run_makeMap Try.prog
  have g1 : ¬ (V : Int) < 0 := by omega
  have g2 : ¬ (256 : Int) < (V : Int) := by omega
  have g3 : ¬ (Mo : Int) < 0 := by omega
  have g4 : ¬ (4194304 : Int) < (Mo : Int) := by omega
  have hM : MapAt Try.prog 3 ((((w.alloc (.cells #[.int .i32 256, .int .i32 0, .int .i32 0, .int .i32 256, .int .i32 0, .int .i32 0] 92)).alloc (.map #[] 0)).alloc (.map #[] 0)).alloc (.map #[] 0)) (w.heap.size + 1 + 1 + 1) [] := by
    have := MapAt.made Try.prog 3 (((w.alloc (.cells #[.int .i32 256, .int .i32 0, .int .i32 0, .int .i32 256, .int .i32 0, .int .i32 0] 92)).alloc (.map #[] 0)).alloc (.map #[] 0))
    simpa using this
  go_enter Try.func24, Try.ntmps24
  go_wp2_with (first
    | (refine wpList_mapIns rfl _ _ _ 96 4 rfl i64_keyed Try.underlying96 rfl hM (.int .i64 0) (.bool true) _ rfl rfl hk0 ?_; intro w1 hm1 hg1)
    | (refine wpList_mapIns rfl _ _ _ 96 4 rfl i64_keyed Try.underlying96 rfl hm1 (.int .i64 1) (.bool true) _ rfl rfl hk1 ?_; intro w2 hm2 hg2))
  have hfin := Lib.hid (newArena (V := V) (Mo := Mo) hg1 hm2 hg2)
  clear hM hm1 hg1 hm2 hg2
  go_ret2
  exact ⟨_, rfl, hfin.out.1, hfin.out.2⟩
end Go.Proofs.Ytcchiagclhkieaa

/-
  A space is made.
-/
namespace Go.Proofs.Ytcchiagclhkieaa
open Go Go.RowKit Go.ChangeMaps Go.MapKept Go.Maps Go.Lib Go.Sort

/-- A space in memory. -/
structure SpAt (w : World) (B S km : Nat) (A : Blks) (Mo : Nat) (N : List Nd) (H G : List Nat) (K : List (Value × Value)) : Prop where
  ar : ArAt w B A 208 Mo N H G
  cells : w.heap[S]? = some (.cells #[.pointer (some ⟨A.a, 0, none⟩), .map (some km)] 67 (0, 0))
  fs : Foreign A w S
  known : MapAt Try.prog 3 w km K
  fk : Foreign A w km
  ne : S ≠ km
theorem SpAt.below {w w' : World} {B S km : Nat} {A : Blks} {Mo : Nat} {N : List Nd} {H G : List Nat} {K : List (Value × Value)} (h : SpAt w B S km A Mo N H G K) (hb : Below w.heap.size w w') : SpAt w' B S km A Mo N H G K :=
  ⟨h.ar.below hb, blk_below hb h.cells, ((Kept.of_below h.ar.a_lt hb).same _ h.fs).2, h.known.same (hb.block _ h.known.lt), ((Kept.of_below h.ar.a_lt hb).same _ h.fk).2, h.ne⟩
/-- The space behind a step of its arena. -/
theorem SpAt.step {w w' : World} {B S km : Nat} {A : Blks} {Mo : Nat} {N N' : List Nd} {H G H' G' : List Nat} {K : List (Value × Value)} (h : SpAt w B S km A Mo N H G K) (ha : ArAt w' B A 208 Mo N' H' G') (hk : Kept A w w') : SpAt w' B S km A Mo N' H' G' K :=
  ⟨ha, (hk.same _ h.fs).1.trans h.cells, (hk.same _ h.fs).2, h.known.same (hk.same _ h.fk).1, (hk.same _ h.fk).2, h.ne⟩
theorem SpAt.c0 {w : World} {B S km : Nat} {A : Blks} {Mo : Nat} {N : List Nd} {H G : List Nat} {K : List (Value × Value)} (h : SpAt w B S km A Mo N H G K) : w.cell? ⟨S, 0, none⟩ = some (.pointer (some ⟨A.a, 0, none⟩)) := by
  rw [cell_of_row w _ 0 _ _ (0, 0) h.cells]; rfl
theorem SpAt.c1 {w : World} {B S km : Nat} {A : Blks} {Mo : Nat} {N : List Nd} {H G : List Nat} {K : List (Value × Value)} (h : SpAt w B S km A Mo N H G K) : w.cell? ⟨S, 1, none⟩ = some (.map (some km)) := by
  rw [cell_of_row w _ 1 _ _ (0, 0) h.cells]; rfl
set_option maxRecDepth 100000 in
set_option maxHeartbeats 4000000 in
theorem relNew_any (w : World) (Mo : Nat) (hMo : Mo ≤ 4194304) :
    Calls Try.prog 7 #[.int .i64 Mo] w fun e w' => ∃ (S km : Nat) (A : Blks), e = .returned (.tuple #[.pointer (some ⟨S, 0, none⟩), .int .i64 0]) ∧ SpAt w' w.heap.size S km A Mo N0 [] [0, 1] [] ∧ Below w.heap.size w w' ∧ w.heap.size ≤ S ∧ w.heap.size ≤ km := by
  have hmm := @run_makeMap Try.prog
  have g3 : ¬ (Mo : Int) < 0 := by omega
  have g4 : ¬ (4194304 : Int) < (Mo : Int) := by omega
  go_enter Try.func7, Try.ntmps7
  go_wp2_with (refine (bddNew_any w 208 Mo (by omega) hMo).mono ?_; rintro e w1 ⟨A, rfl, hA, hb⟩; have HA := Lib.hid hA; have HB := Lib.hid hb; clear hA hb; unfold Blks.val)
  go_ret2
  have b2 := below2 w1 (.map #[] 0) (.cells #[.pointer (some ⟨A.a, 0, none⟩), .map (some w1.heap.size)] 67)
  have hm := (MapAt.made Try.prog 3 w1)
  have s1 : (w1.alloc (.map #[] 0)).heap.size = w1.heap.size + 1 := by simp
  have hc := blk1 (w1.alloc (.map #[] 0)) (.cells #[.pointer (some ⟨A.a, 0, none⟩), .map (some w1.heap.size)] 67)
  rw [s1] at hc
  have hb3 := below1 (w1.alloc (.map #[] 0)) (.cells #[.pointer (some ⟨A.a, 0, none⟩), .map (some w1.heap.size)] 67)
  have z := HB.out.size
  exact ⟨w1.heap.size + 1, w1.heap.size, A, rfl, ⟨HA.out.below b2, hc, HA.out.foreign_new b2 (by omega) (lt_of_block hc), hm.same (hb3.block _ hm.lt), HA.out.foreign_new b2 (Nat.le_refl _) (by simp; omega), by omega⟩, HB.out.trans (b2.mono z), by omega, by omega⟩
set_option maxRecDepth 100000 in
set_option maxHeartbeats 4000000 in
theorem relNew_bad (w : World) (m : Int) (hm : m < 0 ∨ 4194304 < m) (hm2 : -9223372036854775808 ≤ m ∧ m ≤ 9223372036854775807) :
    Calls Try.prog 7 #[.int .i64 m] w fun e w' => e = .returned (.tuple #[.pointer none, .int .i64 1]) ∧ Below w.heap.size w w' := by
  by_cases g3 : m < 0
  · go_enter Try.func7, Try.ntmps7
    go_wp2
    go_ret2
    exact ⟨rfl, Below.refl _ _⟩
  · have g4 : (4194304 : Int) < m := by omega
    go_enter Try.func7, Try.ntmps7
    go_wp2
    go_ret2
    exact ⟨rfl, Below.refl _ _⟩
end Go.Proofs.Ytcchiagclhkieaa

/-
  The arena's Xor.
-/
namespace Go.Proofs.Ytcchiagclhkieaa
open Go Go.RowKit Go.ChangeMaps Go.MapKept Go.Maps Go.Lib Go.Sort

/-- What Xor's two steps come to. -/
def XorTo (N : List Nd) (f g r : Nat) (N' : List Nd) : Prop := ∃ (q : Nat) (N1 : List Nd), IteTo N g 0 1 q N1 ∧ IteTo N1 f q g r N'
end Go.Proofs.Ytcchiagclhkieaa

/-
  A space and what its nodes say.
-/
namespace Go.Proofs.Ytcchiagclhkieaa
open Go Go.RowKit Go.ChangeMaps Go.MapKept Go.Maps Go.Lib Go.Sort

/-- What a space has: nodes, the held, the given, what is known. -/
structure Sg where
  N : List Nd
  H : List Nat
  G : List Nat
  K : List (Value × Value)
def IsSet (N : List Nd) (g : Nat) : Prop := ∀ v, v % 2 = 1 → Free (fun s => ev N s g) v
structure SgOk (Mo : Nat) (σ : Sg) : Prop where
  wf : WF σ.N
  hok : FOk σ.N σ.H
  cl : Cl σ.N σ.H
  g : ∀ g ∈ σ.G, g < σ.N.length ∧ (g < 2 ∨ g ∈ σ.H) ∧ Hangs (fun s => ev σ.N s g) 0 208
  g0 : 0 ∈ σ.G
  g1 : 1 ∈ σ.G
  k : ∀ p ∈ σ.K, ∃ g ∈ σ.G, p.1 = .int .i64 (g : Int) ∧ (p.2 = .int .i64 1 ∨ p.2 = .int .i64 2 ∧ IsSet σ.N g)
  mo : σ.H.length ≤ Mo
  le : σ.N.length ≤ 2147483647
structure SpOk (w : World) (B S km : Nat) (A : Blks) (Mo : Nat) (σ : Sg) : Prop where
  sp : SpAt w B S km A Mo σ.N σ.H σ.G σ.K
  ok : SgOk Mo σ
/-- The space went on: at most k nodes more, at most m more held. -/
structure To (k m : Nat) (σ τ : Sg) : Prop where
  ext : Ext σ.N τ.N
  nl : τ.N.length ≤ σ.N.length + k
  hl : τ.H.length ≤ σ.H.length + m
  g : ∀ g ∈ σ.G, g ∈ τ.G
  h : ∀ g ∈ σ.H, g ∈ τ.H
theorem To.refl (σ : Sg) : To 0 0 σ σ := ⟨Ext.refl _, Nat.le_refl _, Nat.le_refl _, fun _ h => h, fun _ h => h⟩
theorem To.trans {k m k' m' : Nat} {a b c : Sg} (h : To k m a b) (g : To k' m' b c) : To (k + k') (m + m') a c :=
  ⟨h.ext.trans g.ext, by have := h.nl; have := g.nl; omega, by have := h.hl; have := g.hl; omega, fun x hx => g.g x (h.g x hx), fun x hx => g.h x (h.h x hx)⟩
theorem To.mono {k m k' m' : Nat} {a b : Sg} (h : To k m a b) (hk : k ≤ k') (hm : m ≤ m') : To k' m' a b :=
  ⟨h.ext, by have := h.nl; omega, by have := h.hl; omega, h.g, h.h⟩
/-- A given node says F. -/
def Den (σ : Sg) (g : Nat) (F : Fun) : Prop := g ∈ σ.G ∧ ∀ s, ev σ.N s g = F s
theorem Den.to {k m Mo Mo' : Nat} {σ τ : Sg} {g : Nat} {F : Fun} (h : Den σ g F) (t : To k m σ τ) (o : SgOk Mo σ) (p : SgOk Mo' τ) : Den τ g F :=
  ⟨t.g g h.1, fun s => (t.ext.ev o.wf p.wf s (o.g g h.1).1).trans (h.2 s)⟩
theorem Den.zero {Mo : Nat} {σ : Sg} (o : SgOk Mo σ) : Den σ 0 (fun _ => false) := ⟨o.g0, fun _ => rfl⟩
theorem Den.one {Mo : Nat} {σ : Sg} (o : SgOk Mo σ) : Den σ 1 (fun _ => true) := ⟨o.g1, fun _ => rfl⟩
theorem Den.hangs {Mo : Nat} {σ : Sg} {g : Nat} {F : Fun} (h : Den σ g F) (o : SgOk Mo σ) : Hangs F 0 208 := by
  have := (o.g g h.1).2.2
  rw [show (fun s => ev σ.N s g) = F from funext h.2] at this
  exact this
/-- One node for one function. -/
theorem Den.same {Mo : Nat} {σ : Sg} {g h : Nat} {F : Fun} (a : Den σ g F) (b : Den σ h F) (o : SgOk Mo σ) : g = h :=
  o.wf.canon (g + h) g h (by omega) (by omega) (o.g g a.1).1 (o.g h b.1).1 fun s => (a.2 s).trans (b.2 s).symm
theorem Den.level {Mo : Nat} {σ : Sg} {g v : Nat} {F : Fun} (h : Den σ g F) (o : SgOk Mo σ) (hF : Hangs F (v + 1) 256) (hv : v < 256) : v < (nd σ.N g).v :=
  o.wf.level (o.g g h.1).1 (m := v + 1) (by omega) fun s t e => by
    rw [h.2, h.2]
    exact hF s t fun u h1 _ => e u h1
theorem Den.grow {Mo : Nat} {σ : Sg} {g : Nat} {F : Fun} (h : Den σ g F) (o : SgOk Mo σ) : Grow σ.N σ.H F 0 0 := by
  have := Grow.old (H := σ.H) o.wf (o.g g h.1).1 (o.g g h.1).2.1
  rw [show (fun s => ev σ.N s g) = F from funext h.2] at this
  exact this
theorem Den.step {Mo : Nat} {σ : Sg} {g h v : Nat} {F G : Fun} (a : Den σ g F) (b : Den σ h G) (o : SgOk Mo σ) (hv : v < 208) (hF : Hangs F (v + 1) 256) (hG : Hangs G (v + 1) 256) : Grow σ.N σ.H (fun s => if s v then F s else G s) 1 1 := by
  have := Grow.step (H := σ.H) o.wf (by omega : v < 256) (o.g g a.1).1 (o.g h b.1).1 (a.level o hF (by omega)) (b.level o hG (by omega)) (o.g g a.1).2.1 (o.g h b.1).2.1
  rw [show (fun s : Nat → Bool => if s v then ev σ.N s g else ev σ.N s h) = fun s => if s v then F s else G s from funext fun s => by rw [a.2, b.2]] at this
  exact this
/-- A node that is the answer F of an operation. -/
structure Ans (N : List Nd) (F : Fun) (r : Nat) (N' : List Nd) : Prop where
  ext : Ext N N'
  wf : WF N'
  lt : r < N'.length
  sem : ∀ s, ev N' s r = F s
  new : ∀ i, N.length ≤ i → i < N'.length → Rch N' r i
theorem IteTo.ans {N N' : List Nd} {f g h r : Nat} (t : IteTo N f g h r N') : Ans N (fun s => if ev N s f then ev N s g else ev N s h) r N' := ⟨t.ext, t.wf, t.lt, t.sem, t.new⟩
/-- Nothing but the space has turned. -/
structure KeptS (A : Blks) (km : Nat) (w w' : World) : Prop where
  os : w'.os = w.os
  tape : w'.tape = w.tape
  output : w'.output = w.output
  size : w.heap.size ≤ w'.heap.size
  same : ∀ k, Foreign A w k → k ≠ km → w'.heap[k]? = w.heap[k]? ∧ Foreign A w' k
theorem KeptS.refl (A : Blks) (km : Nat) (w : World) : KeptS A km w w := ⟨rfl, rfl, rfl, Nat.le_refl _, fun _ h _ => ⟨rfl, h⟩⟩
theorem KeptS.trans {A : Blks} {km : Nat} {a b c : World} (h : KeptS A km a b) (g : KeptS A km b c) : KeptS A km a c :=
  ⟨g.os.trans h.os, g.tape.trans h.tape, g.output.trans h.output, Nat.le_trans h.size g.size, fun k hk hn => ⟨(g.same k (h.same k hk hn).2 hn).1.trans (h.same k hk hn).1, (g.same k (h.same k hk hn).2 hn).2⟩⟩
theorem Kept.space {A : Blks} {w w' : World} (h : Kept A w w') (km : Nat) : KeptS A km w w' := ⟨h.os, h.tape, h.output, h.size, fun k hk _ => h.same k hk⟩
theorem SpOk.below {w w' : World} {B S km : Nat} {A : Blks} {Mo : Nat} {σ : Sg} (h : SpOk w B S km A Mo σ) (hb : Below w.heap.size w w') : SpOk w' B S km A Mo σ := ⟨h.sp.below hb, h.ok⟩
theorem SpOk.kept {w w' : World} {B S km : Nat} {A : Blks} {Mo : Nat} {σ : Sg} (h : SpOk w B S km A Mo σ) (hb : Below w.heap.size w w') : KeptS A km w w' := (Kept.of_below h.sp.ar.a_lt hb).space km
/-- What a call on a space comes to: F's node, or no room. -/
def SpRes (w : World) (B S km : Nat) (A : Blks) (Mo : Nat) (σ : Sg) (F : Fun) (k m : Nat) (e : Ending) (w' : World) : Prop :=
  KeptS A km w w' ∧ ((e = .returned (.tuple #[.int .i64 0, .int .i64 3]) ∧ Mo < σ.H.length + m ∧ ∃ τ, SpOk w' B S km A Mo τ ∧ To k m σ τ) ∨
    ∃ (r : Nat) (τ : Sg), e = .returned (.tuple #[.int .i64 r, .int .i64 0]) ∧ SpOk w' B S km A Mo τ ∧ To k m σ τ ∧ Den τ r F)
theorem SpOk.op' {w : World} {B S km : Nat} {A : Blks} {Mo : Nat} {σ : Sg} (h : SpOk w B S km A Mo σ) {T : Nat → List Nd → Prop} {e : Ending} {w' : World} {F : Fun} {k m : Nat} (ho : OpRes w B A 208 Mo σ.H σ.G T e w')
    (hT : ∀ r N', T r N' → (Ext σ.N N' ∧ ∀ s, ev N' s r = F s) ∧ N'.length ≤ σ.N.length + k ∧ (newL N' σ.H r).length ≤ m) (hF : Hangs F 0 208) : SpRes w B S km A Mo σ F k m e w' := by
  obtain ⟨r, N', w1, t, wf', rlt, hk, hgv⟩ := ho
  obtain ⟨⟨aext, asem⟩, g1, g2⟩ := hT r N' t
  have hcl := h.ok.cl.ext aext fun i hi => (h.ok.hok.2 i hi).2
  have hhok := ext_ok aext h.ok.hok
  have hgd : ∀ g ∈ σ.G, g < N'.length ∧ (g < 2 ∨ g ∈ σ.H) ∧ Hangs (fun s => ev N' s g) 0 208 := fun g hg => by
    obtain ⟨p1, p2, p3⟩ := h.ok.g g hg
    refine ⟨Nat.lt_of_lt_of_le p1 aext.len, p2, ?_⟩
    rw [show (fun s => ev N' s g) = fun s => ev σ.N s g from funext fun s => aext.ev h.ok.wf wf' s p1]
    exact p3
  have hkd : ∀ p ∈ σ.K, ∃ g ∈ σ.G, p.1 = .int .i64 (g : Int) ∧ (p.2 = .int .i64 1 ∨ p.2 = .int .i64 2 ∧ IsSet N' g) := fun p hp => by
    obtain ⟨g, q1, q2, q3⟩ := h.ok.k p hp
    refine ⟨g, q1, q2, q3.imp id fun q => ⟨q.1, ?_⟩⟩
    unfold IsSet
    rw [show (fun s => ev N' s g) = fun s => ev σ.N s g from funext fun s => aext.ev h.ok.wf wf' s (h.ok.g g q1).1]
    exact q.2
  have hle : ∀ {H' G'} {w'' : World}, ArAt w'' B A 208 Mo N' H' G' → N'.length ≤ 2147483647 := fun ha => by obtain ⟨_, x⟩ := ha; exact x.le
  rcases hgv with ⟨f1, rfl, ha, hk2⟩ | ⟨f1, rfl, ha, hk2⟩
  · refine ⟨(hk.trans hk2).space km, .inl ⟨rfl, by omega, ⟨N', σ.H, σ.G, σ.K⟩, ⟨h.sp.step ha (hk.trans hk2), wf', hhok, hcl, hgd, h.ok.g0, h.ok.g1, hkd, h.ok.mo, hle ha⟩, aext, g1, Nat.le_add_right _ _, fun _ x => x, fun _ x => x⟩⟩
  · obtain ⟨c1, c2⟩ := newL_cl wf' hcl rlt
    have hG : ∀ g ∈ σ.G, g ∈ addL σ.G r := fun g hg => by unfold addL; split; exact hg; exact List.mem_append_left _ hg
    have hr : r ∈ addL σ.G r := by unfold addL; split; assumption; simp
    have hG2 : ∀ g ∈ addL σ.G r, g ∈ σ.G ∨ g = r := fun g hg => by
      unfold addL at hg
      split at hg
      · exact .inl hg
      · simpa using hg
    refine ⟨(hk.trans hk2).space km, .inr ⟨r, ⟨N', σ.H ++ newL N' σ.H r, addL σ.G r, σ.K⟩, rfl, ⟨h.sp.step ha (hk.trans hk2), wf', ⟨?_, fun i hi => ?_⟩, c1, fun g hg => ?_, hG 0 h.ok.g0, hG 1 h.ok.g1, fun p hp => ?_, by simpa using f1, hle ha⟩, ⟨aext, g1, by simp; omega, hG, fun _ x => List.mem_append_left _ x⟩, hr, asem⟩⟩
    · exact List.nodup_append.2 ⟨hhok.1, (newL_ok wf' σ.H rlt).1, fun x hx y hy e => newL_off N' σ.H r y hy (e ▸ hx)⟩
    · rcases List.mem_append.1 hi with hi | hi
      · exact hhok.2 i hi
      · exact (newL_ok wf' σ.H rlt).2 i hi
    · rcases hG2 g hg with hg | rfl
      · obtain ⟨p1, p2, p3⟩ := hgd g hg
        exact ⟨p1, p2.imp id fun x => List.mem_append_left _ x, p3⟩
      · refine ⟨rlt, ?_, ?_⟩
        · rcases Nat.lt_or_ge g 2 with x | x
          · exact .inl x
          · exact .inr (c2 x)
        · show Hangs (fun s => ev N' s g) 0 208
          rw [show (fun s => ev N' s g) = F from funext asem]
          exact hF
    · obtain ⟨g, q1, q2⟩ := hkd p hp
      exact ⟨g, hG g q1, q2⟩
theorem SpOk.op {w : World} {B S km : Nat} {A : Blks} {Mo : Nat} {σ : Sg} (h : SpOk w B S km A Mo σ) {T : Nat → List Nd → Prop} {e : Ending} {w' : World} {F : Fun} {k m : Nat} (ho : OpRes w B A 208 Mo σ.H σ.G T e w')
    (hT : ∀ r N', T r N' → Ans σ.N F r N') (hF : Hangs F 0 208) (hg : Grow σ.N σ.H F k m) : SpRes w B S km A Mo σ F k m e w' :=
  h.op' ho (fun r N' t => ⟨⟨(hT r N' t).ext, (hT r N' t).sem⟩, hg r N' (hT r N' t).ext (hT r N' t).wf (hT r N' t).lt (hT r N' t).sem (hT r N' t).new⟩) hF
section
variable {w : World} {B S km : Nat} {A : Blks} {Mo : Nat} {σ : Sg}
theorem SpRes.form {F : Fun} {k m : Nat} {e : Ending} {w' : World} (h : SpRes w B S km A Mo σ F k m e w') : ∃ q c : Int, e = .returned (.tuple #[.int .i64 q, .int .i64 c]) := by
  rcases h.2 with ⟨rfl, _⟩ | ⟨_, _, rfl, _⟩
  · exact ⟨_, _, rfl⟩
  · exact ⟨_, _, rfl⟩
theorem Ans.same {N N' : List Nd} {F G : Fun} {r : Nat} (a : Ans N F r N') (h : ∀ s, F s = G s) : Ans N G r N' := ⟨a.ext, a.wf, a.lt, fun s => (a.sem s).trans (h s), a.new⟩
theorem MkTo.ans {N N' : List Nd} {v lo hi r : Nat} (m : MkTo N v lo hi r N') (h : WF N) (hlo : lo < N.length) (hhi : hi < N.length) (hvl : v < (nd N lo).v) (hvh : v < (nd N hi).v) : Ans N (fun s => if s v then ev N s hi else ev N s lo) r N' := by
  obtain ⟨a, b, c, d⟩ := m.good h hlo hhi hvl hvh
  refine ⟨a, b, c, d, fun i h1 h2 => ?_⟩
  rcases m with ⟨rfl, rfl, rfl⟩ | ⟨hne, _, hr, hn, rfl⟩ | ⟨hne, hnew, rfl, rfl⟩
  · omega
  · omega
  · have : i = N.length := by simp at h2; omega
    rw [this]
    exact .refl _
theorem SpOk.var (h : SpOk w B S km A Mo σ) (i : Nat) (hi : i < 208) (hl : σ.N.length + 1 ≤ 2147483647) :
    Calls Try.prog 39 #[.pointer (some ⟨A.a, 0, none⟩), .int .i64 i] w (SpRes w B S km A Mo σ (fun s => s i) 1 1) := by
  have two := h.ok.wf.two
  have e0 : (nd σ.N 0).v = 256 := by rw [h.ok.wf.ends 0 (by omega)]
  have e1 : (nd σ.N 1).v = 256 := by rw [h.ok.wf.ends 1 (by omega)]
  have hgr := (Den.one h.ok).step (Den.zero h.ok) h.ok hi (Hangs.const true _ _) (Hangs.const false _ _)
  rw [show (fun s : Nat → Bool => if s i then true else false) = fun s => s i from funext fun s => by cases s i <;> rfl] at hgr
  refine (Var_any i h.sp.ar hi (by omega) h.ok.hok fun r N' m => ?_).mono fun e w' ho => h.op ho (fun r N' m => ?_) ((Hangs.var i).mono (by omega) (by omega)) hgr
  · rcases m with ⟨_, _, rfl⟩ | ⟨_, _, _, _, rfl⟩ | ⟨_, _, _, rfl⟩
    · omega
    · omega
    · simpa using hl
  · exact (m.ans h.ok.wf (by omega) (by omega) (by omega) (by omega)).same fun s => by rw [ev_zero, ev_one]; cases s i <;> rfl
theorem SpOk.ite (h : SpOk w B S km A Mo σ) {f g k : Nat} {F G K : Fun} (hf : Den σ f F) (hg : Den σ g G) (hk : Den σ k K) {a b : Nat} (hgr : Grow σ.N σ.H (fun s => if F s then G s else K s) a b) (hl : σ.N.length + a ≤ 2147483647) :
    Calls Try.prog 40 #[.pointer (some ⟨A.a, 0, none⟩), .int .i64 f, .int .i64 g, .int .i64 k] w (SpRes w B S km A Mo σ (fun s => if F s then G s else K s) a b) := by
  have e : (fun s => if ev σ.N s f then ev σ.N s g else ev σ.N s k) = fun s => if F s then G s else K s := funext fun s => by rw [hf.2, hg.2, hk.2]
  have hgr' := hgr
  rw [← e] at hgr'
  refine (Ite_any f g k h.sp.ar ⟨hf.1, (h.ok.g f hf.1).1⟩ ⟨hg.1, (h.ok.g g hg.1).1⟩ ⟨hk.1, (h.ok.g k hk.1).1⟩ h.ok.hok (hgr'.cap hl)).mono fun e' w' ho => h.op ho (fun r N' t => ?_) ((hf.hangs h.ok).op (fun x y z => if x then y else z) (hg.hangs h.ok) (hk.hangs h.ok)) hgr
  exact t.ans.same fun s => congrFun e s
theorem SpOk.not (h : SpOk w B S km A Mo σ) {f : Nat} {F : Fun} (hf : Den σ f F) {a b : Nat} (hgr : Grow σ.N σ.H (fun s => !F s) a b) (hl : σ.N.length + a ≤ 2147483647) :
    Calls Try.prog 25 #[.pointer (some ⟨A.a, 0, none⟩), .int .i64 f] w (SpRes w B S km A Mo σ (fun s => !F s) a b) := by
  have e : (fun s => if ev σ.N s f then ev σ.N s 0 else ev σ.N s 1) = fun s => !F s := funext fun s => by rw [hf.2, ev_zero, ev_one]; cases F s <;> rfl
  have hgr' := hgr
  rw [← e] at hgr'
  refine (Not_any f h.sp.ar ⟨hf.1, (h.ok.g f hf.1).1⟩ h.ok.g0 h.ok.g1 h.ok.hok (hgr'.cap hl)).mono fun e' w' ho => h.op ho (fun r N' t => ?_) ((hf.hangs h.ok).op1 (fun x => !x)) hgr
  exact t.ans.same fun s => congrFun e s
theorem SpOk.and (h : SpOk w B S km A Mo σ) {f g : Nat} {F G : Fun} (hf : Den σ f F) (hg : Den σ g G) {a b : Nat} (hgr : Grow σ.N σ.H (fun s => F s && G s) a b) (hl : σ.N.length + a ≤ 2147483647) :
    Calls Try.prog 18 #[.pointer (some ⟨A.a, 0, none⟩), .int .i64 f, .int .i64 g] w (SpRes w B S km A Mo σ (fun s => F s && G s) a b) := by
  have e : (fun s => if ev σ.N s f then ev σ.N s g else ev σ.N s 0) = fun s => F s && G s := funext fun s => by rw [hf.2, hg.2, ev_zero]; cases F s <;> rfl
  have hgr' := hgr
  rw [← e] at hgr'
  refine (And_any f g h.sp.ar ⟨hf.1, (h.ok.g f hf.1).1⟩ ⟨hg.1, (h.ok.g g hg.1).1⟩ h.ok.g0 h.ok.hok (hgr'.cap hl)).mono fun e' w' ho => h.op ho (fun r N' t => ?_) ((hf.hangs h.ok).op2 (fun x y => x && y) (hg.hangs h.ok)) hgr
  exact t.ans.same fun s => congrFun e s
theorem SpOk.or (h : SpOk w B S km A Mo σ) {f g : Nat} {F G : Fun} (hf : Den σ f F) (hg : Den σ g G) {a b : Nat} (hgr : Grow σ.N σ.H (fun s => F s || G s) a b) (hl : σ.N.length + a ≤ 2147483647) :
    Calls Try.prog 59 #[.pointer (some ⟨A.a, 0, none⟩), .int .i64 f, .int .i64 g] w (SpRes w B S km A Mo σ (fun s => F s || G s) a b) := by
  have e : (fun s => if ev σ.N s f then ev σ.N s 1 else ev σ.N s g) = fun s => F s || G s := funext fun s => by rw [hf.2, hg.2, ev_one]; cases F s <;> rfl
  have hgr' := hgr
  rw [← e] at hgr'
  refine (Or_any f g h.sp.ar ⟨hf.1, (h.ok.g f hf.1).1⟩ ⟨hg.1, (h.ok.g g hg.1).1⟩ h.ok.g1 h.ok.hok (hgr'.cap hl)).mono fun e' w' ho => h.op ho (fun r N' t => ?_) ((hf.hangs h.ok).op2 (fun x y => x || y) (hg.hangs h.ok)) hgr
  exact t.ans.same fun s => congrFun e s
end
end Go.Proofs.Ytcchiagclhkieaa

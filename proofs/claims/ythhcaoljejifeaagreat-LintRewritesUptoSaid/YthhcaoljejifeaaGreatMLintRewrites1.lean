/-
  Joined texts: Lift, Kit, Bdd1, Bdd2, Bdd3, MapA, Kit2, Kit3, Kit4, BddM, BddK, Bm1, TailQ, Mix0.
-/
import Derived.Test.YthhcaoljejifeaaGreatRows
import Derived.WalkKit
import Derived.ProofKit
import Derived.OpenShut
import Derived.SizedLaws
import Derived.WalkSpells
import Derived.WalkLawsBesides
import Derived.BigQuiet
import Derived.Lib.Hide
import Derived.Lib.QuietBelow
import Derived.Deep.QuietTactic
import Derived.Maps.OwnSet
import Derived.Lib.SlBy
import Derived.Laws.OwnMore
import Derived.ArgAppend
import Derived.Laws.CopyOwn
import Derived.Test.YthhcaoljejifeaaGreatProg
import Derived.DeepKeys4
import Derived.StillTailTactics
import Derived.Deep.RegionHeldLaw
import Derived.Deep.RegionLaw
import Derived.Deep.DeepCutAuto
import Derived.StillTail
import Derived.OrdersHeld
import Derived.Deep.RegionHeld3
/-
  The last step of every law of this seat: the call answered true and turned nothing that was there.
-/
namespace Go.Proofs.YthhcaoljejifeaaGreat
open Go Go.ChangeShapes Go.WideShapes Go.ChangeAt Go.RowKit

theorem own : ownKnob Tryz.prog.godebug = none := by kernel_rfl
theorem laidOut : laidOutB Tryz.prog = true := by kernel_rfl

theorem args_below {H : Type} {enc : TypeId × Value → H} {P : Program} (hl : laidOutB P = true) {W W' : World} (hb : Below W.heap.size W W') :
    ∀ (ts : List TypeId) (vs : List Value) (ds : List (DataW H)) (ps : List MemPlace), (∀ t ∈ ts, P.readableRec t = true ∧ t < P.types.size) →
      DataW.TrodAll enc P W 0 (fun _ => true) true ts vs ds ps → (∀ x ∈ ps, x.block < W.heap.size) → DataW.TrodAll enc P W' 0 (fun b => decide (b < W.heap.size)) true ts vs ds ps
  | [], vs, ds, ps, _, h, _ => by
    cases vs <;> cases ds <;> simp_all [DataW.TrodAll]
  | t :: ts, vs, ds, ps, hts, h, hlt => by
    obtain ⟨v, vs', d, ds', p, q, rfl, rfl, rfl, h1, h2⟩ := trodAll_cons h
    have ht := hts t (List.mem_cons_self ..)
    exact trodAll_cons_mk (Below.trod hl ht.1 ht.2 h1 hb (fun x hx => hlt x (List.mem_append_left _ hx)))
      (args_below hl hb ts vs' ds' q (fun t ht => hts t (List.mem_cons_of_mem _ ht)) h2 (fun x hx => hlt x (List.mem_append_right _ hx)))

/-- What a law's statement asks of the world behind the call. -/
theorem law_post {H : Type} {enc : TypeId × Value → H} {P : Program} (hl : laidOutB P = true) {s : ChangeSpec} {f : Func} {W W' : World} {args : Array Value} {ds : List (DataW H)} {before : List MemPlace}
    (hW : DataW.Whole enc P f.params.toList s.vars false W args.toList ds [] before) (hv : s.vars = []) (hr : f.resultTypes = #[4]) (hbool : P.underlying 4 = some .bool)
    (hts : ∀ t ∈ f.params.toList, P.readableRec t = true ∧ t < P.types.size) (hs : (s.fn H (ds ++ [])).results = [.lit (.bool true)] ∧ (s.fn H (ds ++ [])).args = ds ∧ (s.fn H (ds ++ [])).vars = [])
    (hb : Below W.heap.size W W') : s.post enc P f false true false false W args (.bool true) W' := by
  have hW0 := hW
  obtain ⟨p, q, hA, hV, rfl, _, _⟩ := hW
  have hlt : ∀ x ∈ p ++ q, x.block < W.heap.size := fun x hx => hW0.lt x hx
  refine ⟨_, _, _, [], p, [], hW0, ?_, ?_, ?_, hb.frame _, fun h => by cases h⟩
  · rw [hs.1, hr]
    exact trodAll_mk1 (shut_bool hbool true)
  · rw [hs.2.1]
    exact args_below hl hb _ _ _ _ hts hA (fun x hx => hlt x (List.mem_append_left _ hx))
  · rw [hv, hs.2.2]; rfl

end Go.Proofs.YthhcaoljejifeaaGreat

/-
  Small general lemmas for the walks of this seat (contracts met in quiet regions); no program in sight.
-/
namespace Go.Proofs.YthhcaoljejifeaaGreat
open Go Go.RowKit Go.Sort

theorem quiet_left {P : Program} {f : FuncId} {args : Array Value} {w : World} {n : Nat} {v : Value}
    (h : Calls P f args (w.drewN n) fun e w' => e = .returned v ∧ w.drewN n = w') : Calls P f args (w.drewN n) fun e w'' => e = .returned v ∧ ∃ m, w'' = w.drewN m :=
  h.mono fun _ _ ⟨he, hm⟩ => ⟨he, n, hm.symm⟩
/-- A contract that leaves the world, met where the class is 'blocks may have been laid'. -/
theorem regrown_left {P : Program} {f : FuncId} {args : Array Value} {w : World} {d : Nat} {os : Array Obj} {v : Value}
    (h : Calls P f args (grow (redrawn w d) os) fun e w' => e = .returned v ∧ grow (redrawn w d) os = w') : Calls P f args (grow (redrawn w d) os) fun e w'' => e = .returned v ∧ ∃ p : Regrown, w'' = grow (redrawn w p.d) p.os :=
  h.mono fun _ _ ⟨he, hm⟩ => ⟨he, ⟨d, os⟩, hm.symm⟩

theorem below_drewN {B : Nat} {a w : World} (h : Below B a w) (n : Nat) : Below B a (w.drewN n) := ⟨h.os, h.tape, h.output, h.size, h.block⟩

theorem ret_int {k : IntKind} {a b : Int} (h : a = b) : Ending.returned (.int k a) = .returned (.int k b) := by rw [h]
theorem ret_bool {a b : Bool} (h : a = b) : Ending.returned (.bool a) = .returned (.bool b) := by rw [h]


theorem only_drew {a w : World} {row : Option Nat} (h : a.grownBy w row) : a.grownBy w.drew row := ⟨h.os, h.tape, h.output, h.size, h.block⟩
theorem only_of_below {a w : World} (h : Below a.heap.size a w) (row : Option Nat) : a.grownBy w row := ⟨h.os, h.tape, h.output, h.size, fun i hi _ => h.block i hi⟩


/-- .. and while nothing is written. -/
theorem owns_kept_none {w w' : World} {base : Nat} {e : TypeId} {size n : Nat} {v : Value} {xs : List Value} (h : w.ownsRow base e size v n xs) (hg : w.grownBy w' none) : w'.ownsRow base e size v n xs :=
  h.kept hg (by
    cases hv : v.ownBlock with
    | none => exact .inl rfl
    | some g => exact .inr (by simp))
/-- The cells of a block that has just been laid. -/
theorem cells_new (w : World) (l : List Value) (t : TypeId) : ∀ (j : Nat) (u : Value), l[j]? = some u → (w.alloc (.cells l.toArray t)).cell? ((⟨w.heap.size, 0, none⟩ : Addr).add j) = some u := by
  intro j u hu
  have e : (⟨w.heap.size, 0, none⟩ : Addr).add j = ⟨w.heap.size, j, none⟩ := by simp [Addr.add]; omega
  rw [e, cell_of_row _ _ _ _ _ _ (heap_alloc_new w _)]
  simpa using hu
theorem owns_base {w : World} {base base' : Nat} {e : TypeId} {size n : Nat} {v : Value} {xs : List Value} (h : w.ownsRow base e size v n xs) (hb : base' ≤ base) : w.ownsRow base' e size v n xs := by
  obtain ⟨h1, h2⟩ := h
  refine ⟨h1, ?_⟩
  rcases h2 with h2 | ⟨g, cap, cur, hv, hg, r⟩
  · exact Or.inl h2
  · exact Or.inr ⟨g, cap, cur, hv, by omega, r⟩
theorem below_row {B : Nat} {a w w' : World} {base : Nat} {e : TypeId} {size n : Nat} {v : Value} {xs : List Value} (h : Below B a w) (ho : w.ownsRow base e size v n xs) (hg : w.grownBy w' v.ownBlock) (hB : B ≤ w.heap.size) (hb : B ≤ base) : Below B a w' :=
  h.grown hg hB (fun k hk => by have := (ho.lt k hk).1; omega)


/-- A slice value that reads as n elements of k cells each, in a block below B. -/
def Rd (w : World) (B k : Nat) (v : Value) (n : Nat) (xs : List Value) : Prop :=
  ∃ (A : Option Addr) (c : Nat), v = .slice A n c ∧ n ≤ c ∧ xs.length = n * k ∧ (0 < n → ∃ b off, A = some ⟨b, off, none⟩ ∧ b < B ∧ ∀ j u, xs[j]? = some u → w.cell? ⟨b, off + j, none⟩ = some u)
theorem Rd.form {w : World} {B k : Nat} {v : Value} {n : Nat} {xs : List Value} (h : Rd w B k v n xs) : ∃ (A : Option Addr) (c : Nat), v = .slice A n c ∧ n ≤ c := by
  obtain ⟨A, c, hv, hc, _⟩ := h
  exact ⟨A, c, hv, hc⟩
theorem Rd.pos {w : World} {B k : Nat} {v : Value} {n : Nat} {xs : List Value} (h : Rd w B k v n xs) (hn : 0 < n) :
    ∃ b off c, v = .slice (some ⟨b, off, none⟩) n c ∧ n ≤ c ∧ b < B ∧ ∀ j u, xs[j]? = some u → w.cell? ⟨b, off + j, none⟩ = some u := by
  obtain ⟨A, c, hv, hc, _, hp⟩ := h
  obtain ⟨b, off, hA, hb, hcell⟩ := hp hn
  exact ⟨b, off, c, by rw [hv, hA], hc, hb, hcell⟩
/-- .. its cells by element and field. -/
theorem Rd.posAt {w : World} {B k : Nat} {v : Value} {n : Nat} {xs : List Value} (h : Rd w B k v n xs) (hn : 0 < n) :
    ∃ b off c, v = .slice (some ⟨b, off, none⟩) n c ∧ n ≤ c ∧ b < B ∧ ∀ i j u, xs[i * k + j]? = some u → w.cell? ⟨b, off + i * k + j, none⟩ = some u := by
  obtain ⟨b, off, c, hv, hc, hb, hcell⟩ := h.pos hn
  exact ⟨b, off, c, hv, hc, hb, fun i j u hu => by rw [Nat.add_assoc]; exact hcell _ _ hu⟩
theorem Rd.of_own {w : World} {base k : Nat} {e : TypeId} {v : Value} {n : Nat} {xs : List Value} (h : w.ownsRow base e k v n xs) : Rd w w.heap.size k v n xs := by
  have hcells := fun (g : Nat) (hg : v.ownBlock = some g) => h.cells hg
  obtain ⟨h1, h2⟩ := h
  rcases h2 with ⟨rfl, rfl⟩ | ⟨g, cap, cur, rfl, _, hg, hnc, _⟩
  · exact ⟨none, 0, rfl, Nat.le_refl _, h1, fun h => absurd h (by omega)⟩
  · refine ⟨_, cap, rfl, hnc, h1, fun _ => ⟨g, 0, rfl, (Array.getElem?_eq_some_iff.1 hg).1, fun j u hu => ?_⟩⟩
    have hj := hcells g rfl j u hu
    have e : (⟨g, 0, none⟩ : Addr).add j = ⟨g, 0 + j, none⟩ := by simp [Addr.add]; omega
    rw [← e]; exact hj
theorem Rd.of_blk {w : World} {g k n c : Nat} {cs : Array Value} {t : TypeId} (h : w.heap[g]? = some (.cells cs t (0, 0))) (hc : n ≤ c) (hl : cs.toList.length = n * k) : Rd w w.heap.size k (.slice (some ⟨g, 0, none⟩) n c) n cs.toList :=
  ⟨_, c, rfl, hc, hl, fun _ => ⟨g, 0, rfl, (Array.getElem?_eq_some_iff.1 h).1, fun j u hu => by
    rw [Nat.zero_add, cell_of_row w g j cs t (0, 0) h]
    simpa using hu⟩⟩
theorem Rd.below {w w' : World} {B k : Nat} {v : Value} {n : Nat} {xs : List Value} (h : Rd w B k v n xs) (hb : Below B w w') : Rd w' B k v n xs := by
  obtain ⟨A, c, hv, hc, hl, hp⟩ := h
  refine ⟨A, c, hv, hc, hl, fun hn => ?_⟩
  obtain ⟨b, off, hA, hB, hcell⟩ := hp hn
  exact ⟨b, off, hA, hB, fun j u hu => (hb.cell (p := ⟨b, off + j, none⟩) hB).trans (hcell j u hu)⟩
theorem Rd.mono {w : World} {B B' k : Nat} {v : Value} {n : Nat} {xs : List Value} (h : Rd w B k v n xs) (hb : B ≤ B') : Rd w B' k v n xs := by
  obtain ⟨A, c, hv, hc, hl, hp⟩ := h
  refine ⟨A, c, hv, hc, hl, fun hn => ?_⟩
  obtain ⟨b, off, hA, hB, hcell⟩ := hp hn
  exact ⟨b, off, hA, by omega, hcell⟩

/-- A block that was there is there behind a call. -/
theorem blk_below {w w1 : World} (hb : Below w.heap.size w w1) {g : Nat} {o : Obj} (h : w.heap[g]? = some o) : w1.heap[g]? = some o := (hb.block g (lt_of_block h)).trans h
theorem blk3 (w : World) (A B C : Obj) : (((w.alloc A).alloc B).alloc C).heap[w.heap.size]? = some A ∧ (((w.alloc A).alloc B).alloc C).heap[w.heap.size + 1]? = some B ∧ (((w.alloc A).alloc B).alloc C).heap[w.heap.size + 1 + 1]? = some C := by
  have hA := heap_alloc_new w A
  have hB := heap_alloc_new (w.alloc A) B
  have hC := heap_alloc_new ((w.alloc A).alloc B) C
  simp only [World.size_alloc] at hB hC
  exact ⟨by rw [Below.heap_alloc _ _ _ (by simp; omega), Below.heap_alloc _ _ _ (by simp), hA], by rw [Below.heap_alloc _ _ _ (by simp), hB], hC⟩
theorem below1 (w : World) (A : Obj) : Below w.heap.size w (w.alloc A) := (Below.refl _ _).alloc (Nat.le_refl _) _
theorem below2 (w : World) (A B : Obj) : Below w.heap.size w ((w.alloc A).alloc B) := (below1 w A).alloc (by simp) _
theorem below3 (w : World) (A B C : Obj) : Below w.heap.size w (((w.alloc A).alloc B).alloc C) := (below2 w A B).alloc (by simp; omega) _
theorem blk1 (w : World) (A : Obj) : (w.alloc A).heap[w.heap.size]? = some A := heap_alloc_new w A
theorem blk2 (w : World) (A B : Obj) : ((w.alloc A).alloc B).heap[w.heap.size]? = some A ∧ ((w.alloc A).alloc B).heap[w.heap.size + 1]? = some B := by
  have hB := heap_alloc_new (w.alloc A) B
  simp only [World.size_alloc] at hB
  exact ⟨by rw [Below.heap_alloc _ _ _ (by simp), heap_alloc_new w A], hB⟩
/-- Behind a call from a world that had laid blocks. -/
theorem below_call {w W w1 : World} (h : Below w.heap.size w W) (hb : Below W.heap.size W w1) : Below w.heap.size w w1 := h.trans (hb.mono h.size)
/-- The two cells of a block of two, and that they may be written. -/
theorem two_cells {w : World} {g : Nat} {u v : Value} {t : TypeId} (h : w.heap[g]? = some (.cells #[u, v] t (0, 0))) :
    w.cell? ⟨g, 0, none⟩ = some u ∧ w.cell? ⟨g, 1, none⟩ = some v ∧ w.frozen? ⟨g, 0, none⟩ = false ∧ w.frozen? ⟨g, 1, none⟩ = false :=
  ⟨cell_of_row w g 0 _ t (0, 0) h, cell_of_row w g 1 _ t (0, 0) h, by simp [World.frozen?, h], by simp [World.frozen?, h]⟩
theorem set_at {w : World} {g i : Nat} {cs : Array Value} {t : TypeId} (h : w.heap[g]? = some (.cells cs t (0, 0))) {u : Value} : (w.setCell ⟨g, i, none⟩ u).heap[g]? = some (.cells (cs.setIfInBounds i u) t (0, 0)) := by
  simp [World.setCell, Array.getElem?_modify, h]
theorem set_0 {w : World} {g : Nat} {a b u : Value} {t : TypeId} (h : w.heap[g]? = some (.cells #[a, b] t (0, 0))) : (w.setCell ⟨g, 0, none⟩ u).heap[g]? = some (.cells #[u, b] t (0, 0)) := set_at h
theorem set_1 {w : World} {g : Nat} {a b u : Value} {t : TypeId} (h : w.heap[g]? = some (.cells #[a, b] t (0, 0))) : (w.setCell ⟨g, 1, none⟩ u).heap[g]? = some (.cells #[a, u] t (0, 0)) := set_at h
theorem heap_drew {w : World} {g : Nat} {o : Option Obj} (h : w.heap[g]? = o) : w.drew.heap[g]? = o := h
theorem owns_form {w : World} {base : Nat} {e : TypeId} {size n : Nat} {v : Value} {xs : List Value} (h : w.ownsRow base e size v n xs) : ∃ (A : Option Addr) (c : Nat), v = .slice A n c ∧ (0 < n → ∃ g, A = some ⟨g, 0, none⟩) := by
  obtain ⟨_, h2⟩ := h
  rcases h2 with ⟨rfl, rfl⟩ | ⟨g, cap, cur, rfl, _⟩
  · exact ⟨none, 0, rfl, fun h => absurd h (by omega)⟩
  · exact ⟨_, cap, rfl, fun _ => ⟨g, rfl⟩⟩

end Go.Proofs.YthhcaoljejifeaaGreat

/-
  Diagrams, plain: nodes in a list, what they are true of, one node for one function. No program in sight.
-/
namespace Go.Proofs.YthhcaoljejifeaaGreat

structure Nd where
  v : Nat
  lo : Nat
  hi : Nat
deriving DecidableEq
instance : Inhabited Nd := ⟨⟨256, 0, 0⟩⟩
def nd (N : List Nd) (i : Nat) : Nd := (N[i]?).getD ⟨256, 0, 0⟩
def evF (N : List Nd) (s : Nat → Bool) : Nat → Nat → Bool
  | 0, _ => false
  | f + 1, i => if i = 0 then false else if i = 1 then true else if s (nd N i).v then evF N s f (nd N i).hi else evF N s f (nd N i).lo
/-- Is a node true of values? -/
def ev (N : List Nd) (s : Nat → Bool) (i : Nat) : Bool := evF N s (i + 1) i
/-- Nodes in order: what stands beneath stands ahead, and of later variables; none twice. -/
structure WF (N : List Nd) : Prop where
  two : 2 ≤ N.length
  ends : ∀ i, i < 2 → nd N i = ⟨256, 0, 0⟩
  lo : ∀ i, 2 ≤ i → i < N.length → (nd N i).lo < i
  hi : ∀ i, 2 ≤ i → i < N.length → (nd N i).hi < i
  ne : ∀ i, 2 ≤ i → i < N.length → (nd N i).lo ≠ (nd N i).hi
  vlo : ∀ i, 2 ≤ i → i < N.length → (nd N i).v < (nd N (nd N i).lo).v
  vhi : ∀ i, 2 ≤ i → i < N.length → (nd N i).v < (nd N (nd N i).hi).v
  one : ∀ i j, 2 ≤ i → i < N.length → 2 ≤ j → j < N.length → nd N i = nd N j → i = j
theorem nd_lt {N : List Nd} {i : Nat} (h : i < N.length) : N[i]? = some (nd N i) := by
  unfold nd
  rw [List.getElem?_eq_getElem h]; rfl
theorem WF.v256 {N : List Nd} (h : WF N) : ∀ i, (nd N i).v ≤ 256 := by
  intro i
  induction i using Nat.strongRecOn with
  | _ i ih =>
    rcases Nat.lt_or_ge i N.length with hi | hi
    · rcases Nat.lt_or_ge i 2 with h2 | h2
      · rw [h.ends i h2]; exact Nat.le_refl _
      · have := h.vlo i h2 hi
        have := ih _ (h.lo i h2 hi)
        omega
    · unfold nd
      rw [List.getElem?_eq_none hi]; exact Nat.le_refl _
theorem WF.v_lt {N : List Nd} (h : WF N) {i : Nat} (h2 : 2 ≤ i) (hi : i < N.length) : (nd N i).v < 256 := by
  have := h.vlo i h2 hi
  have := h.v256 (nd N i).lo
  omega
theorem evF_fuel {N : List Nd} (h : WF N) (s : Nat → Bool) : ∀ (i f g : Nat), i < N.length → i < f → i < g → evF N s f i = evF N s g i := by
  intro i
  induction i using Nat.strongRecOn with
  | _ i ih =>
    intro f g hi hf hg
    cases f with
    | zero => omega
    | succ f =>
      cases g with
      | zero => omega
      | succ g =>
        unfold evF
        by_cases h0 : i = 0
        · rw [if_pos h0, if_pos h0]
        · by_cases h1 : i = 1
          · rw [if_neg h0, if_neg h0, if_pos h1, if_pos h1]
          · rw [if_neg h0, if_neg h0, if_neg h1, if_neg h1]
            have h2 : 2 ≤ i := by omega
            have a := h.lo i h2 hi
            have b := h.hi i h2 hi
            rw [ih _ a f g (by omega) (by omega) (by omega), ih _ b f g (by omega) (by omega) (by omega)]
theorem ev_zero (N : List Nd) (s : Nat → Bool) : ev N s 0 = false := rfl
theorem ev_one (N : List Nd) (s : Nat → Bool) : ev N s 1 = true := rfl
theorem ev_node {N : List Nd} (h : WF N) (s : Nat → Bool) {i : Nat} (h2 : 2 ≤ i) (hi : i < N.length) : ev N s i = if s (nd N i).v then ev N s (nd N i).hi else ev N s (nd N i).lo := by
  have a := h.lo i h2 hi
  have b := h.hi i h2 hi
  show evF N s (i + 1) i = _
  conv => lhs; unfold evF
  rw [if_neg (by omega), if_neg (by omega)]
  unfold ev
  rw [evF_fuel h s _ i ((nd N i).hi + 1) (by omega) b (by omega), evF_fuel h s _ i ((nd N i).lo + 1) (by omega) a (by omega)]
/-- A node hangs on no variable ahead of its own. -/
theorem ev_agree {N : List Nd} (h : WF N) : ∀ (i : Nat) (s t : Nat → Bool), i < N.length → (∀ v, (nd N i).v ≤ v → s v = t v) → ev N s i = ev N t i := by
  intro i
  induction i using Nat.strongRecOn with
  | _ i ih =>
    intro s t hi hst
    rcases Nat.lt_or_ge i 2 with h2 | h2
    · obtain rfl | rfl : i = 0 ∨ i = 1 := by omega
      · rfl
      · rfl
    · rw [ev_node h s h2 hi, ev_node h t h2 hi, hst _ (Nat.le_refl _)]
      have a := h.lo i h2 hi
      have b := h.hi i h2 hi
      rw [ih _ a s t (by omega) (fun v hv => hst v (by have := h.vlo i h2 hi; omega)), ih _ b s t (by omega) (fun v hv => hst v (by have := h.vhi i h2 hi; omega))]
/-- Values with another one at a variable. -/
def put (s : Nat → Bool) (v : Nat) (b : Bool) : Nat → Bool := fun u => if u = v then b else s u
theorem put_same (s : Nat → Bool) (v : Nat) (b : Bool) : put s v b v = b := by simp [put]
theorem put_other {s : Nat → Bool} {v u : Nat} {b : Bool} (h : u ≠ v) : put s v b u = s u := by simp [put, h]
theorem ev_put {N : List Nd} (h : WF N) {i v : Nat} (hi : i < N.length) (hv : v < (nd N i).v) (s : Nat → Bool) (b : Bool) : ev N (put s v b) i = ev N s i :=
  ev_agree h i _ _ hi fun u hu => put_other (by omega)
theorem ev_lo {N : List Nd} (h : WF N) {i : Nat} (h2 : 2 ≤ i) (hi : i < N.length) (s : Nat → Bool) : ev N (put s (nd N i).v false) i = ev N s (nd N i).lo := by
  rw [ev_node h _ h2 hi, put_same, if_neg (by simp)]
  exact ev_put h (by have := h.lo i h2 hi; omega) (h.vlo i h2 hi) s false
theorem ev_hi {N : List Nd} (h : WF N) {i : Nat} (h2 : 2 ≤ i) (hi : i < N.length) (s : Nat → Bool) : ev N (put s (nd N i).v true) i = ev N s (nd N i).hi := by
  rw [ev_node h _ h2 hi, put_same, if_pos rfl]
  exact ev_put h (by have := h.hi i h2 hi; omega) (h.vhi i h2 hi) s true
/-- ONE NODE FOR ONE FUNCTION. -/
theorem WF.canon {N : List Nd} (h : WF N) : ∀ (n i j : Nat), i ≤ n → j ≤ n → i < N.length → j < N.length → (∀ s, ev N s i = ev N s j) → i = j := by
  intro n
  induction n with
  | zero => intro i j hn hm _ _ _; omega
  | succ n ih =>
    intro i j hn hm hi hj he
    have low : ∀ i j, i ≤ n + 1 → i < N.length → j < N.length → (∀ s, ev N s i = ev N s j) → (nd N i).v < (nd N j).v → False := by
      intro i j hn hi hj he hv
      have h2 : 2 ≤ i := by
        rcases Nat.lt_or_ge i 2 with h2 | h2
        · have e := h.ends i h2
          have := h.v256 j
          rw [e] at hv
          have : (256 : Nat) < (nd N j).v := hv
          omega
        · exact h2
      have a := h.lo i h2 hi
      have b := h.hi i h2 hi
      have e1 : ∀ s, ev N s (nd N i).lo = ev N s (nd N i).hi := fun s => by
        rw [← ev_lo h h2 hi s, ← ev_hi h h2 hi s, he, he, ev_put h hj hv, ev_put h hj hv]
      exact h.ne i h2 hi (ih _ _ (by omega) (by omega) (by omega) (by omega) e1)
    rcases Nat.lt_trichotomy (nd N i).v (nd N j).v with hv | hv | hv
    · exact (low i j hn hi hj he hv).elim
    · rcases Nat.lt_or_ge i 2 with h2 | h2
      · rcases Nat.lt_or_ge j 2 with g2 | g2
        · have := he (fun _ => false)
          obtain rfl | rfl : i = 0 ∨ i = 1 := by omega
          · obtain rfl | rfl : j = 0 ∨ j = 1 := by omega
            · rfl
            · rw [ev_zero, ev_one] at this; simp at this
          · obtain rfl | rfl : j = 0 ∨ j = 1 := by omega
            · rw [ev_zero, ev_one] at this; simp at this
            · rfl
        · have e := h.ends i h2
          have := h.v_lt g2 hj
          rw [e] at hv
          have : (256 : Nat) = (nd N j).v := hv
          omega
      · rcases Nat.lt_or_ge j 2 with g2 | g2
        · have e := h.ends j g2
          have := h.v_lt h2 hi
          rw [e] at hv
          have : (nd N i).v = 256 := hv
          omega
        · have e1 : (nd N i).lo = (nd N j).lo := by
            have a := h.lo i h2 hi
            have b := h.lo j g2 hj
            refine ih _ _ (by omega) (by omega) (by omega) (by omega) fun s => ?_
            rw [← ev_lo h h2 hi s, ← ev_lo h g2 hj s, hv, he]
          have e2 : (nd N i).hi = (nd N j).hi := by
            have a := h.hi i h2 hi
            have b := h.hi j g2 hj
            refine ih _ _ (by omega) (by omega) (by omega) (by omega) fun s => ?_
            rw [← ev_hi h h2 hi s, ← ev_hi h g2 hj s, hv, he]
          refine h.one i j h2 hi g2 hj ?_
          cases hni : nd N i with
          | mk a b c =>
            cases hnj : nd N j with
            | mk a' b' c' =>
              rw [hni, hnj] at hv e1 e2
              simp at hv e1 e2
              rw [hv, e1, e2]
    · exact (low j i hm hj hi (fun s => (he s).symm) hv).elim
end Go.Proofs.YthhcaoljejifeaaGreat

/-
  Diagrams, plain: a list that grows, one node more, if-then-else. No program in sight.
-/
namespace Go.Proofs.YthhcaoljejifeaaGreat

theorem nd_append {N : List Nd} (E : List Nd) {i : Nat} (h : i < N.length) : nd (N ++ E) i = nd N i := by
  unfold nd
  rw [List.getElem?_append_left h]
theorem nd_last (N : List Nd) (x : Nd) : nd (N ++ [x]) N.length = x := by
  unfold nd
  rw [List.getElem?_append_right (Nat.le_refl _), Nat.sub_self]
  rfl
theorem ev_append {N : List Nd} (h : WF N) (E : List Nd) (h' : WF (N ++ E)) (s : Nat → Bool) : ∀ i, i < N.length → ev (N ++ E) s i = ev N s i := by
  intro i
  induction i using Nat.strongRecOn with
  | _ i ih =>
    intro hi
    rcases Nat.lt_or_ge i 2 with h2 | h2
    · obtain rfl | rfl : i = 0 ∨ i = 1 := by omega
      · rfl
      · rfl
    · have hi' : i < (N ++ E).length := by rw [List.length_append]; omega
      have a := h.lo i h2 hi
      have b := h.hi i h2 hi
      rw [ev_node h' s h2 hi', ev_node h s h2 hi, nd_append E hi, ih _ a (by omega), ih _ b (by omega)]
/-- One list is the other with more behind it. -/
def Ext (N N' : List Nd) : Prop := ∃ E, N' = N ++ E
theorem Ext.refl (N : List Nd) : Ext N N := ⟨[], (List.append_nil N).symm⟩
theorem Ext.trans {A B C : List Nd} (h : Ext A B) (g : Ext B C) : Ext A C := by
  obtain ⟨E, rfl⟩ := h
  obtain ⟨F, rfl⟩ := g
  exact ⟨E ++ F, by rw [List.append_assoc]⟩
theorem Ext.len {A B : List Nd} (h : Ext A B) : A.length ≤ B.length := by
  obtain ⟨E, rfl⟩ := h
  rw [List.length_append]; omega
theorem Ext.nd {A B : List Nd} (h : Ext A B) {i : Nat} (hi : i < A.length) : nd B i = nd A i := by
  obtain ⟨E, rfl⟩ := h
  exact nd_append E hi
theorem Ext.ev {A B : List Nd} (h : Ext A B) (wa : WF A) (wb : WF B) (s : Nat → Bool) {i : Nat} (hi : i < A.length) : ev B s i = ev A s i := by
  obtain ⟨E, rfl⟩ := h
  exact ev_append wa E wb s i hi
/-- A node behind the others. -/
theorem WF.snoc {N : List Nd} (h : WF N) {x : Nd} (hlo : x.lo < N.length) (hhi : x.hi < N.length) (hne : x.lo ≠ x.hi) (hvl : x.v < (nd N x.lo).v) (hvh : x.v < (nd N x.hi).v)
    (hnew : ∀ i, 2 ≤ i → i < N.length → nd N i ≠ x) : WF (N ++ [x]) := by
  have two := h.two
  have len : (N ++ [x]).length = N.length + 1 := by simp
  have old : ∀ i, i < N.length → nd (N ++ [x]) i = nd N i := fun i hi => nd_append [x] hi
  have new : nd (N ++ [x]) N.length = x := nd_last N x
  refine ⟨by omega, fun i hi => (old i (by omega)).trans (h.ends i hi), ?_, ?_, ?_, ?_, ?_, ?_⟩
  · intro i h2 hi
    rcases Nat.lt_or_ge i N.length with hl | hl
    · rw [old i hl]; exact h.lo i h2 hl
    · obtain rfl : i = N.length := by omega
      rw [new]; exact hlo
  · intro i h2 hi
    rcases Nat.lt_or_ge i N.length with hl | hl
    · rw [old i hl]; exact h.hi i h2 hl
    · obtain rfl : i = N.length := by omega
      rw [new]; exact hhi
  · intro i h2 hi
    rcases Nat.lt_or_ge i N.length with hl | hl
    · rw [old i hl]; exact h.ne i h2 hl
    · obtain rfl : i = N.length := by omega
      rw [new]; exact hne
  · intro i h2 hi
    rcases Nat.lt_or_ge i N.length with hl | hl
    · rw [old i hl, old _ (by have := h.lo i h2 hl; omega)]; exact h.vlo i h2 hl
    · obtain rfl : i = N.length := by omega
      rw [new, old _ hlo]; exact hvl
  · intro i h2 hi
    rcases Nat.lt_or_ge i N.length with hl | hl
    · rw [old i hl, old _ (by have := h.hi i h2 hl; omega)]; exact h.vhi i h2 hl
    · obtain rfl : i = N.length := by omega
      rw [new, old _ hhi]; exact hvh
  · intro i j h2 hi g2 hj he
    rcases Nat.lt_or_ge i N.length with hl | hl
    · rcases Nat.lt_or_ge j N.length with gl | gl
      · rw [old i hl, old j gl] at he
        exact h.one i j h2 hl g2 gl he
      · obtain rfl : j = N.length := by omega
        rw [old i hl, new] at he
        exact absurd he (hnew i h2 hl)
    · obtain rfl : i = N.length := by omega
      rcases Nat.lt_or_ge j N.length with gl | gl
      · rw [old j gl, new] at he
        exact absurd he.symm (hnew j g2 gl)
      · omega
/-- What mk comes to. -/
def MkTo (N : List Nd) (v lo hi r : Nat) (N' : List Nd) : Prop :=
  lo = hi ∧ r = lo ∧ N' = N ∨ lo ≠ hi ∧ 2 ≤ r ∧ r < N.length ∧ nd N r = ⟨v, lo, hi⟩ ∧ N' = N ∨ lo ≠ hi ∧ (∀ i, 2 ≤ i → i < N.length → nd N i ≠ ⟨v, lo, hi⟩) ∧ r = N.length ∧ N' = N ++ [⟨v, lo, hi⟩]
theorem MkTo.good {N N' : List Nd} {v lo hi r : Nat} (m : MkTo N v lo hi r N') (h : WF N) (hlo : lo < N.length) (hhi : hi < N.length) (hvl : v < (nd N lo).v) (hvh : v < (nd N hi).v) :
    Ext N N' ∧ WF N' ∧ r < N'.length ∧ (∀ s, ev N' s r = if s v then ev N s hi else ev N s lo) := by
  rcases m with ⟨rfl, rfl, rfl⟩ | ⟨hne, h2, hr, hn, rfl⟩ | ⟨hne, hnew, rfl, rfl⟩
  · exact ⟨Ext.refl _, h, hlo, fun s => by split <;> rfl⟩
  · exact ⟨Ext.refl _, h, hr, fun s => by rw [ev_node h s h2 hr, hn]⟩
  · have h' := h.snoc (x := ⟨v, lo, hi⟩) hlo hhi hne hvl hvh hnew
    have hl : N.length < (N ++ [(⟨v, lo, hi⟩ : Nd)]).length := by simp
    refine ⟨⟨_, rfl⟩, h', hl, fun s => ?_⟩
    rw [ev_node h' s h.two hl, nd_last, ev_append h _ h' s hi hhi, ev_append h _ h' s lo hlo]
theorem mk_exists (N : List Nd) (v lo hi : Nat) : ∃ r N', MkTo N v lo hi r N' := by
  by_cases h : lo = hi
  · exact ⟨lo, N, .inl ⟨h, rfl, rfl⟩⟩
  · by_cases g : ∃ i, 2 ≤ i ∧ i < N.length ∧ nd N i = ⟨v, lo, hi⟩
    · obtain ⟨i, a, b, c⟩ := g
      exact ⟨i, N, .inr (.inl ⟨h, a, b, c, rfl⟩)⟩
    · exact ⟨N.length, _, .inr (.inr ⟨h, fun i a b c => g ⟨i, a, b, c⟩, rfl, rfl⟩)⟩
/-- A node beneath another one. -/
inductive Rch (N : List Nd) : Nat → Nat → Prop
  | refl (i : Nat) : Rch N i i
  | lo {i j : Nat} : 2 ≤ i → i < N.length → Rch N (nd N i).lo j → Rch N i j
  | hi {i j : Nat} : 2 ≤ i → i < N.length → Rch N (nd N i).hi j → Rch N i j
theorem Rch.ext {N N' : List Nd} (e : Ext N N') {i j : Nat} (h : Rch N i j) : Rch N' i j := by
  induction h with
  | refl i => exact .refl i
  | lo a b _ ih => exact .lo a (Nat.lt_of_lt_of_le b e.len) (by rw [e.nd b]; exact ih)
  | hi a b _ ih => exact .hi a (Nat.lt_of_lt_of_le b e.len) (by rw [e.nd b]; exact ih)
theorem Rch.trans {N : List Nd} {i j k : Nat} (h : Rch N i j) (g : Rch N j k) : Rch N i k := by
  induction h with
  | refl i => exact g
  | lo a b _ ih => exact .lo a b (ih g)
  | hi a b _ ih => exact .hi a b (ih g)
theorem Rch.le {N : List Nd} (w : WF N) {i j : Nat} (h : Rch N i j) (hi : i < N.length) : j ≤ i := by
  induction h with
  | refl i => exact Nat.le_refl _
  | lo a b _ ih => have := w.lo _ a b; have := ih (by omega); omega
  | hi a b _ ih => have := w.hi _ a b; have := ih (by omega); omega
theorem Rch.low {N : List Nd} {i j : Nat} (h : Rch N i j) (h2 : i < 2) : j = i := by
  cases h with
  | refl => rfl
  | lo a _ _ => omega
  | hi a _ _ => omega
/-- A function that no variable ahead of m turns has a node of m or later. -/
theorem WF.level {N : List Nd} (h : WF N) {r m : Nat} (hr : r < N.length) (hm : m ≤ 256) (hag : ∀ s t : Nat → Bool, (∀ v, m ≤ v → s v = t v) → ev N s r = ev N t r) : m ≤ (nd N r).v := by
  rcases Nat.lt_or_ge r 2 with h2 | h2
  · rw [h.ends r h2]; exact hm
  · rcases Nat.lt_or_ge (nd N r).v m with hv | hv
    · exfalso
      have a := h.lo r h2 hr
      have b := h.hi r h2 hr
      refine h.ne r h2 hr (h.canon (r + r) _ _ (by omega) (by omega) (by omega) (by omega) fun s => ?_)
      rw [← ev_lo h h2 hr s, ← ev_hi h h2 hr s]
      exact hag _ _ fun v hv' => by rw [put_other (by omega), put_other (by omega)]
    · exact hv
/-- What becomes of a node when a variable that is not behind its own has a value. -/
def cutN (N : List Nd) (f v : Nat) (b : Bool) : Nat := if (nd N f).v ≠ v then f else if b then (nd N f).hi else (nd N f).lo
theorem cutN_lt {N : List Nd} (h : WF N) {f v : Nat} (b : Bool) (hf : f < N.length) (hv : v < 256) : cutN N f v b < N.length := by
  unfold cutN
  split
  · exact hf
  · rename_i he
    have he : (nd N f).v = v := Decidable.not_not.1 he
    have h2 : 2 ≤ f := by
      rcases Nat.lt_or_ge f 2 with h2 | h2
      · rw [h.ends f h2] at he
        have : (256 : Nat) = v := he
        omega
      · exact h2
    have := h.lo f h2 hf
    have := h.hi f h2 hf
    split <;> omega
theorem cutN_ev {N : List Nd} (h : WF N) {f v : Nat} (b : Bool) (hf : f < N.length) (hv : v < 256) (hle : v ≤ (nd N f).v) (s : Nat → Bool) : ev N s (cutN N f v b) = ev N (put s v b) f := by
  unfold cutN
  split
  · rename_i he
    rw [ev_put h hf (by omega)]
  · rename_i he
    have he : (nd N f).v = v := Decidable.not_not.1 he
    have h2 : 2 ≤ f := by
      rcases Nat.lt_or_ge f 2 with h2 | h2
      · rw [h.ends f h2] at he
        have : (256 : Nat) = v := he
        omega
      · exact h2
    subst he
    cases b
    · exact (ev_lo h h2 hf s).symm
    · exact (ev_hi h h2 hf s).symm
theorem cutN_le {N : List Nd} (h : WF N) {f v : Nat} (b : Bool) (hf : f < N.length) (hv : v < 256) : cutN N f v b ≤ f ∧ ((nd N f).v = v → cutN N f v b < f) := by
  unfold cutN
  split
  · rename_i he
    exact ⟨Nat.le_refl _, fun e => absurd e he⟩
  · rename_i he
    have he : (nd N f).v = v := Decidable.not_not.1 he
    have h2 : 2 ≤ f := by
      rcases Nat.lt_or_ge f 2 with h2 | h2
      · rw [h.ends f h2] at he
        have : (256 : Nat) = v := he
        omega
      · exact h2
    have := h.lo f h2 hf
    have := h.hi f h2 hf
    split <;> exact ⟨by omega, fun _ => by omega⟩
/-- g where f, else h: the answer of ite: every new node stands beneath it. -/
structure IteTo (N : List Nd) (f g h r : Nat) (N' : List Nd) : Prop where
  ext : Ext N N'
  wf : WF N'
  lt : r < N'.length
  sem : ∀ s, ev N' s r = if ev N s f then ev N s g else ev N s h
  new : ∀ i, N.length ≤ i → i < N'.length → Rch N' r i
end Go.Proofs.YthhcaoljejifeaaGreat

/-
  Diagrams, plain: if-then-else, step by step; room for all nodes that it may make. No program in sight.
-/
namespace Go.Proofs.YthhcaoljejifeaaGreat

def lvl (N : List Nd) (i : Nat) : Nat := (nd N i).v
def top3 (N : List Nd) (f g h : Nat) : Nat := min (min (lvl N f) (lvl N g)) (lvl N h)
theorem top3_lt {N : List Nd} (w : WF N) {f g h : Nat} (hf : f < N.length) (h2 : 2 ≤ f) : top3 N f g h < 256 := by
  have := w.v_lt h2 hf
  unfold top3 lvl
  omega
theorem top3_le (N : List Nd) (f g h : Nat) : top3 N f g h ≤ lvl N f ∧ top3 N f g h ≤ lvl N g ∧ top3 N f g h ≤ lvl N h := by
  unfold top3; omega
/-- Behind the two parts: each is of a later variable. -/
theorem IteTo.levels {N N1 N2 : List Nd} {f g h lo hi v : Nat} (w : WF N) (hf : f < N.length) (hg : g < N.length) (hh : h < N.length) (h2 : 2 ≤ f) (hv : v = top3 N f g h)
    (a : IteTo N (cutN N f v false) (cutN N g v false) (cutN N h v false) lo N1) (b : IteTo N1 (cutN N f v true) (cutN N g v true) (cutN N h v true) hi N2) : lo < N2.length ∧ hi < N2.length ∧ v < (nd N2 lo).v ∧ v < (nd N2 hi).v := by
  have hv256 : v < 256 := by rw [hv]; exact top3_lt w hf h2
  obtain ⟨lf, lg, lh⟩ := top3_le N f g h
  rw [← hv] at lf lg lh
  have e12 := b.ext
  have e01 := a.ext
  have l12 := e12.len
  have hlo2 : lo < N2.length := Nat.lt_of_lt_of_le a.lt l12
  have cf1 := cutN_lt w true hf hv256
  have cg1 := cutN_lt w true hg hv256
  have ch1 := cutN_lt w true hh hv256
  have evlo : ∀ s, ev N2 s lo = if ev N (put s v false) f then ev N (put s v false) g else ev N (put s v false) h := fun s => by
    rw [e12.ev a.wf b.wf s a.lt, a.sem, cutN_ev w false hf hv256 lf, cutN_ev w false hg hv256 lg, cutN_ev w false hh hv256 lh]
  have evhi : ∀ s, ev N2 s hi = if ev N (put s v true) f then ev N (put s v true) g else ev N (put s v true) h := fun s => by
    rw [b.sem, e01.ev w a.wf s cf1, e01.ev w a.wf s cg1, e01.ev w a.wf s ch1, cutN_ev w true hf hv256 lf, cutN_ev w true hg hv256 lg, cutN_ev w true hh hv256 lh]
  have ag : ∀ (b' : Bool) (x : Nat), x < N.length → v ≤ lvl N x → ∀ s t : Nat → Bool, (∀ u, v + 1 ≤ u → s u = t u) → ev N (put s v b') x = ev N (put t v b') x := fun b' x hx hvx s t hst =>
    ev_agree w x _ _ hx fun u hu => by
      by_cases huv : u = v
      · subst huv; rw [put_same, put_same]
      · rw [put_other huv, put_other huv]
        refine hst u ?_
        unfold lvl at hvx
        omega
  refine ⟨hlo2, b.lt, b.wf.level hlo2 (m := v + 1) (by omega) fun s t hst => ?_, b.wf.level b.lt (m := v + 1) (by omega) fun s t hst => ?_⟩
  · rw [evlo, evlo, ag false f hf lf s t hst, ag false g hg lg s t hst, ag false h hh lh s t hst]
  · rw [evhi, evhi, ag true f hf lf s t hst, ag true g hg lg s t hst, ag true h hh lh s t hst]
/-- One step: the two parts, and the node of them. -/
theorem IteTo.step {N N1 N2 N3 : List Nd} {f g h lo hi r v : Nat} (w : WF N) (hf : f < N.length) (hg : g < N.length) (hh : h < N.length) (h2 : 2 ≤ f) (hv : v = top3 N f g h)
    (a : IteTo N (cutN N f v false) (cutN N g v false) (cutN N h v false) lo N1) (b : IteTo N1 (cutN N f v true) (cutN N g v true) (cutN N h v true) hi N2) (m : MkTo N2 v lo hi r N3) : IteTo N f g h r N3 := by
  have hv256 : v < 256 := by rw [hv]; exact top3_lt w hf h2
  obtain ⟨lf, lg, lh⟩ := top3_le N f g h
  rw [← hv] at lf lg lh
  have e12 := b.ext
  have e01 := a.ext
  have e02 := e01.trans e12
  have l01 := e01.len
  have l12 := e12.len
  have hlo2 : lo < N2.length := Nat.lt_of_lt_of_le a.lt l12
  have cf0 := cutN_lt w false hf hv256
  have cg0 := cutN_lt w false hg hv256
  have ch0 := cutN_lt w false hh hv256
  have cf1 := cutN_lt w true hf hv256
  have cg1 := cutN_lt w true hg hv256
  have ch1 := cutN_lt w true hh hv256
  have evlo : ∀ s, ev N2 s lo = if ev N (put s v false) f then ev N (put s v false) g else ev N (put s v false) h := fun s => by
    rw [e12.ev a.wf b.wf s a.lt, a.sem, cutN_ev w false hf hv256 lf, cutN_ev w false hg hv256 lg, cutN_ev w false hh hv256 lh]
  have evhi : ∀ s, ev N2 s hi = if ev N (put s v true) f then ev N (put s v true) g else ev N (put s v true) h := fun s => by
    rw [b.sem, e01.ev w a.wf s cf1, e01.ev w a.wf s cg1, e01.ev w a.wf s ch1, cutN_ev w true hf hv256 lf, cutN_ev w true hg hv256 lg, cutN_ev w true hh hv256 lh]
  have ag : ∀ (b' : Bool) (x : Nat), x < N.length → v ≤ lvl N x → ∀ s t : Nat → Bool, (∀ u, v + 1 ≤ u → s u = t u) → ev N (put s v b') x = ev N (put t v b') x := fun b' x hx hvx s t hst =>
    ev_agree w x _ _ hx fun u hu => by
      by_cases huv : u = v
      · subst huv; rw [put_same, put_same]
      · rw [put_other huv, put_other huv]
        refine hst u ?_
        unfold lvl at hvx
        omega
  have lvlo : v < (nd N2 lo).v := b.wf.level hlo2 (m := v + 1) (by omega) fun s t hst => by
    rw [evlo, evlo, ag false f hf lf s t hst, ag false g hg lg s t hst, ag false h hh lh s t hst]
  have lvhi : v < (nd N2 hi).v := b.wf.level b.lt (m := v + 1) (by omega) fun s t hst => by
    rw [evhi, evhi, ag true f hf lf s t hst, ag true g hg lg s t hst, ag true h hh lh s t hst]
  obtain ⟨e23, w3, r3, ev3⟩ := m.good b.wf hlo2 b.lt lvlo lvhi
  have l23 := e23.len
  refine ⟨e02.trans e23, w3, r3, fun s => ?_, fun i h0 h1 => ?_⟩
  · rw [ev3]
    have pf : ∀ b', s v = b' → put s v b' = s := fun b' hb => funext fun u => by
      by_cases hu : u = v
      · subst hu; rw [put_same, hb]
      · rw [put_other hu]
    cases hs : s v
    · rw [if_neg (by simp), evlo, pf false hs]
    · rw [if_pos rfl, evhi, pf true hs]
  · have rlo : lo ≠ hi → Rch N3 r lo ∧ Rch N3 r hi := fun hne => by
      rcases m with ⟨e, _⟩ | ⟨_, hr2, hr, hn, rfl⟩ | ⟨_, _, rfl, rfl⟩
      · exact absurd e hne
      · exact ⟨.lo hr2 hr (by rw [hn]; exact .refl _), .hi hr2 hr (by rw [hn]; exact .refl _)⟩
      · exact ⟨.lo b.wf.two (by simp) (by rw [nd_last]; exact .refl _), .hi b.wf.two (by simp) (by rw [nd_last]; exact .refl _)⟩
    have rr : Rch N3 r lo ∧ Rch N3 r hi := by
      by_cases hne : lo = hi
      · rcases m with ⟨_, rfl, rfl⟩ | ⟨hn, _⟩ | ⟨hn, _⟩
        · exact ⟨.refl _, by rw [hne]; exact .refl _⟩
        · exact absurd hne hn
        · exact absurd hne hn
      · exact rlo hne
    rcases Nat.lt_or_ge i N1.length with hi1 | hi1
    · exact rr.1.trans ((a.new i h0 hi1).ext (e12.trans e23))
    · rcases Nat.lt_or_ge i N2.length with hi2 | hi2
      · exact rr.2.trans ((b.new i hi1 hi2).ext e23)
      · rcases m with ⟨_, rfl, rfl⟩ | ⟨_, _, _, _, rfl⟩ | ⟨_, _, rfl, rfl⟩
        · omega
        · omega
        · have : i = N2.length := by simp at h1; omega
          rw [this]; exact .refl _
/-- The three ends that ite sees at once. -/
theorem IteTo.of_one {N : List Nd} (w : WF N) {g h : Nat} (hg : g < N.length) : IteTo N 1 g h g N := ⟨Ext.refl N, w, hg, fun s => by rw [ev_one]; rfl, fun i a b => by omega⟩
theorem IteTo.of_zero {N : List Nd} (w : WF N) {g h : Nat} (hh : h < N.length) : IteTo N 0 g h h N := ⟨Ext.refl N, w, hh, fun s => by rw [ev_zero]; rfl, fun i a b => by omega⟩
theorem IteTo.of_same {N : List Nd} (w : WF N) {f g : Nat} (hg : g < N.length) : IteTo N f g g g N := ⟨Ext.refl N, w, hg, fun s => by split <;> rfl, fun i a b => by omega⟩
theorem IteTo.of_self {N : List Nd} (w : WF N) {f : Nat} (hf : f < N.length) : IteTo N f 1 0 f N := ⟨Ext.refl N, w, hf, fun s => by rw [ev_one, ev_zero]; cases ev N s f <;> rfl, fun i a b => by omega⟩
theorem cut3_lt {N : List Nd} (w : WF N) {f g h v : Nat} (b : Bool) (hf : f < N.length) (hg : g < N.length) (hh : h < N.length) (h2 : 2 ≤ f) (hv : v = top3 N f g h) : cutN N f v b + cutN N g v b + cutN N h v b < f + g + h := by
  have hv256 : v < 256 := by rw [hv]; exact top3_lt w hf h2
  have a := cutN_le w b hf hv256
  have c := cutN_le w b hg hv256
  have d := cutN_le w b hh hv256
  have : lvl N f = v ∨ lvl N g = v ∨ lvl N h = v := by rw [hv]; unfold top3; omega
  rcases this with e | e | e
  · have := a.2 e; omega
  · have := c.2 e; omega
  · have := d.2 e; omega
theorem ite_exists : ∀ (n : Nat) (N : List Nd) (f g h : Nat), f + g + h ≤ n → WF N → f < N.length → g < N.length → h < N.length → ∃ r N', IteTo N f g h r N' := by
  intro n
  induction n with
  | zero =>
    intro N f g h hn w hf hg hh
    obtain rfl : f = 0 := by omega
    exact ⟨_, _, IteTo.of_zero w hh⟩
  | succ n ih =>
    intro N f g h hn w hf hg hh
    rcases Nat.lt_or_ge f 2 with h2 | h2
    · obtain rfl | rfl : f = 0 ∨ f = 1 := by omega
      · exact ⟨_, _, IteTo.of_zero w hh⟩
      · exact ⟨_, _, IteTo.of_one w hg⟩
    · have hv256 := top3_lt w (g := g) (h := h) hf h2
      have c0 := cut3_lt w false hf hg hh h2 rfl
      have c1 := cut3_lt w true hf hg hh h2 rfl
      obtain ⟨lo, N1, a⟩ := ih N _ _ _ (by omega) w (cutN_lt w false hf hv256) (cutN_lt w false hg hv256) (cutN_lt w false hh hv256)
      have l := a.ext.len
      obtain ⟨hi, N2, b⟩ := ih N1 _ _ _ (by omega) a.wf (Nat.lt_of_lt_of_le (cutN_lt w true hf hv256) l) (Nat.lt_of_lt_of_le (cutN_lt w true hg hv256) l) (Nat.lt_of_lt_of_le (cutN_lt w true hh hv256) l)
      obtain ⟨r, N3, m⟩ := mk_exists N2 (top3 N f g h) lo hi
      exact ⟨r, N3, IteTo.step w hf hg hh h2 rfl a b m⟩
/-- Room: whatever list the call leaves has numbers that an int32 holds. -/
def Cap (N : List Nd) (f g h : Nat) : Prop := ∀ r N', IteTo N f g h r N' → N'.length ≤ 2147483647
theorem Cap.hi {N N1 : List Nd} {f g h v lo : Nat} (c : Cap N f g h) (w : WF N) (hf : f < N.length) (hg : g < N.length) (hh : h < N.length) (h2 : 2 ≤ f) (hv : v = top3 N f g h)
    (a : IteTo N (cutN N f v false) (cutN N g v false) (cutN N h v false) lo N1) : Cap N1 (cutN N f v true) (cutN N g v true) (cutN N h v true) := by
  intro hi N2 b
  obtain ⟨r, N3, m⟩ := mk_exists N2 v lo hi
  have s := IteTo.step w hf hg hh h2 hv a b m
  have := c r N3 s
  have : N2.length ≤ N3.length := by
    rcases m with ⟨_, _, rfl⟩ | ⟨_, _, _, _, rfl⟩ | ⟨_, _, _, rfl⟩ <;> simp
  omega
theorem Cap.lo {N : List Nd} {f g h v : Nat} (c : Cap N f g h) (w : WF N) (hf : f < N.length) (hg : g < N.length) (hh : h < N.length) (h2 : 2 ≤ f) (hv : v = top3 N f g h) : Cap N (cutN N f v false) (cutN N g v false) (cutN N h v false) := by
  intro lo N1 a
  have hv256 : v < 256 := by rw [hv]; exact top3_lt w hf h2
  have l := a.ext.len
  obtain ⟨hi, N2, b⟩ := ite_exists _ N1 _ _ _ (Nat.le_refl _) a.wf (Nat.lt_of_lt_of_le (cutN_lt w true hf hv256) l) (Nat.lt_of_lt_of_le (cutN_lt w true hg hv256) l) (Nat.lt_of_lt_of_le (cutN_lt w true hh hv256) l)
  have := c.hi w hf hg hh h2 hv a hi N2 b
  have := b.ext.len
  omega
theorem Cap.mk {N N1 N2 : List Nd} {f g h v lo hi : Nat} (c : Cap N f g h) (w : WF N) (hf : f < N.length) (hg : g < N.length) (hh : h < N.length) (h2 : 2 ≤ f) (hv : v = top3 N f g h)
    (a : IteTo N (cutN N f v false) (cutN N g v false) (cutN N h v false) lo N1) (b : IteTo N1 (cutN N f v true) (cutN N g v true) (cutN N h v true) hi N2) : ∀ r N3, MkTo N2 v lo hi r N3 → N3.length ≤ 2147483647 :=
  fun r N3 m => c r N3 (IteTo.step w hf hg hh h2 hv a b m)
end Go.Proofs.YthhcaoljejifeaaGreat

/-
  A map of the call's own, told by its entries in the order in which they came. No program in sight.
-/
namespace Go.Proofs.YthhcaoljejifeaaGreat
open Go Go.RowKit Go.ChangeMaps Go.MapKept Go.Maps

open Classical in
/-- The entry's element. -/
noncomputable def getM (l : List (Value × Value)) (key : Value) : Option Value := (l.find? fun p => decide (p.1 = key)).map (·.2)
open Classical in
/-- The entries behind 'm[key] = v'. -/
noncomputable def putM (l : List (Value × Value)) (key v : Value) : List (Value × Value) := if key ∈ l.map (·.1) then l.map (fun p => if p.1 = key then (key, v) else p) else l ++ [(key, v)]
/-- Block b is a map of these entries. -/
def MapAt (P : Program) (k : TypeId) (w : World) (b : Nat) (l : List (Value × Value)) : Prop :=
  ∃ es clock, w.heap[b]? = some (.map es clock) ∧ es.toList.map (fun e => (e.key, e.val)) = l ∧ (∀ p ∈ l, ∃ c, keyOf P k p.1 = some c) ∧ (l.map (·.1)).Nodup
theorem MapAt.lt {P : Program} {k : TypeId} {w : World} {b : Nat} {l : List (Value × Value)} (h : MapAt P k w b l) : b < w.heap.size := by
  obtain ⟨es, c, hb, _⟩ := h
  exact (Array.getElem?_eq_some_iff.1 hb).1
theorem MapAt.same {P : Program} {k : TypeId} {w w' : World} {b : Nat} {l : List (Value × Value)} (h : MapAt P k w b l) (hs : w'.heap[b]? = w.heap[b]?) : MapAt P k w' b l := by
  obtain ⟨es, c, hb, r⟩ := h
  exact ⟨es, c, hs.trans hb, r⟩
theorem MapAt.made (P : Program) (k : TypeId) (w : World) : MapAt P k (w.alloc (.map #[] 0)) w.heap.size [] :=
  ⟨#[], 0, heap_alloc_new w _, rfl, fun p h => by simp at h, by simp⟩
theorem getM_none {l : List (Value × Value)} {key : Value} (h : ∀ p ∈ l, p.1 ≠ key) : getM l key = none := by
  unfold getM
  rw [List.find?_eq_none.2 (fun p hp => by simpa using h p hp)]
  rfl
theorem getM_some {l : List (Value × Value)} {p : Value × Value} (hn : (l.map (·.1)).Nodup) (hp : p ∈ l) : getM l p.1 = some p.2 := by
  induction l with
  | nil => simp at hp
  | cons q r ih =>
    rw [List.map_cons, List.nodup_cons] at hn
    unfold getM
    by_cases hq : q.1 = p.1
    · rw [List.find?_cons_of_pos (by simpa using hq)]
      rcases List.mem_cons.1 hp with rfl | hr
      · rfl
      · exact absurd (List.mem_map.2 ⟨p, hr, rfl⟩) (hq ▸ hn.1)
    · rw [List.find?_cons_of_neg (by simpa using hq)]
      rcases List.mem_cons.1 hp with rfl | hr
      · exact absurd rfl hq
      · exact ih hn.2 hr
theorem getM_mem {l : List (Value × Value)} {key v : Value} (h : getM l key = some v) : (key, v) ∈ l := by
  unfold getM at h
  cases hf : l.find? (fun p => @decide (p.1 = key) (Classical.propDecidable _)) with
  | none => rw [hf] at h; simp at h
  | some p =>
    rw [hf] at h
    simp at h
    have h1 := List.mem_of_find?_eq_some hf
    have h2 := List.find?_some hf
    simp at h2
    rw [← h2, ← h]
    exact h1
section
variable {P : Program} {k : TypeId} {w : World} {b : Nat} {l : List (Value × Value)}
theorem MapAt.find (h : MapAt P k w b l) (K : Keyed P k) {key : Value} {kl : Lit} (hkey : keyOf P k key = some kl) :
    ∃ es clock, w.heap[b]? = some (.map es clock) ∧ es.toList.map (fun e => (e.key, e.val)) = l ∧
      ((Instr.findKey k key es.toList).run P w = .ok none w ∧ getM l key = none ∧ (∀ p ∈ l, p.1 ≠ key) ∨
        ∃ j e, (Instr.findKey k key es.toList).run P w = .ok (some (j, e.val)) w ∧ es.toList[j]? = some e ∧ e.key = key ∧ getM l key = some e.val) := by
  obtain ⟨es, clock, hb, rfl, hk, hn⟩ := h
  refine ⟨es, clock, hb, rfl, ?_⟩
  rcases K.find w hkey es.toList (fun e he => hk (e.key, e.val) (List.mem_map.2 ⟨e, he, rfl⟩)) with ⟨h1, h2⟩ | ⟨j, e, h1, h2, h3⟩
  · have h4 : ∀ p ∈ es.toList.map (fun e => (e.key, e.val)), p.1 ≠ key := fun p hp => by
      obtain ⟨e, he, rfl⟩ := List.mem_map.1 hp
      exact h2 e he
    exact .inl ⟨h1, getM_none h4, h4⟩
  · refine .inr ⟨j, e, h1, h2, h3, ?_⟩
    have := getM_some hn (p := (e.key, e.val)) (List.mem_map.2 ⟨e, List.mem_of_getElem? h2, rfl⟩)
    rw [← h3]
    exact this
/-- 'm[key]', with 'ok' or without: the world does not turn. -/
theorem MapAt.look (h : MapAt P k w b l) (K : Keyed P k) {t e : TypeId} (ht : P.underlying t = some (.map k e)) {z : Value} (hz : (zeroValue e).run P w = .ok z w) (c : Bool) {key : Value} {kl : Lit} (hkey : keyOf P k key = some kl) :
    (Instr.lookup t (.map (some b)) key c).run P w = .ok (if c then .tuple #[(getM l key).getD z, .bool (getM l key).isSome] else (getM l key).getD z) w := by
  obtain ⟨es, clock, hb, _, hf⟩ := h.find K hkey
  rcases hf with ⟨h1, h2, _⟩ | ⟨j, e0, h1, h2, h3, h4⟩
  · rw [h2]
    simp [Instr.lookup, run_underlying ht, MapKept.run_getObj_map hb, K.check w _ hkey, h1, hz, Result.andThen]
  · rw [h4]
    simp [Instr.lookup, run_underlying ht, MapKept.run_getObj_map hb, K.check w _ hkey, h1, Result.andThen]
theorem MapAt.len (h : MapAt P k w b l) {t e : TypeId} (ht : P.underlying t = some (.map k e)) (ty : TypeId) : (Builtin.len_ #[t] ty #[.map (some b)]).run P w = .ok (.int .i64 l.length) w := by
  obtain ⟨es, clock, hb, rfl, _⟩ := h
  simp [Builtin.len_, run_underlying ht, MapKept.run_getObj_map hb, goInt, Result.andThen]
theorem modify_list {es : Array MapEntry} {j : Nat} {f : MapEntry → MapEntry} {e : MapEntry} (h : es.toList[j]? = some e) : (es.modify j f).toList = es.toList.set j (f e) := by
  rw [Array.toList_modify, modify_eq_set _ _ _ _ h]
theorem putM_there {l : List (Value × Value)} {key v : Value} (h : key ∈ l.map (·.1)) : (putM l key v).map (·.1) = l.map (·.1) := by
  unfold putM
  rw [if_pos h, List.map_map]
  refine List.map_congr_left fun p _ => ?_
  simp only [Function.comp]
  split
  · rename_i h; exact h.symm
  · rfl
/-- 'm[key] = v': nothing but the map's own block turns. -/
theorem MapAt.store (h : MapAt P k w b l) (K : Keyed P k) {t e : TypeId} (ht : P.underlying t = some (.map k e)) {key : Value} {kl : Lit} (hkey : keyOf P k key = some kl) (v : Value) :
    ∃ w', (Instr.mapUpdate t (.map (some b)) key v).run P w = .ok () w' ∧ MapAt P k w' b (putM l key v) ∧ w.grownBy w' (some b) := by
  have h0 := h
  obtain ⟨es0, clock0, hb0, hl0, hk, hn⟩ := h0
  obtain ⟨es, clock, hb, hl, hf⟩ := h.find K hkey
  have grown : ∀ o, w.grownBy (setBlock w b o) (some b) := fun o => ⟨rfl, rfl, rfl, by simp [setBlock], fun i _ hi => heap_setBlock_other hb _ (fun e => hi (by rw [e]))⟩
  rcases hf with ⟨h1, h2, h3⟩ | ⟨j, e0, h1, h2, h3, h4⟩
  · have hnot : key ∉ l.map (·.1) := fun hh => by
      obtain ⟨p, hp, he⟩ := List.mem_map.1 hh
      exact h3 p hp he
    refine ⟨setBlock w b (.map (es.push ⟨key, v, clock⟩) (clock + 1)), ?_, ⟨es.push ⟨key, v, clock⟩, clock + 1, heap_setBlock_same hb _, ?_, ?_, ?_⟩, grown _⟩
    · simp [Instr.mapUpdate, run_underlying ht, MapKept.run_getObj_map hb, K.check w false hkey, h1, MapKept.run_setObj_map _ hb, Result.andThen, setBlock]
    · unfold putM
      rw [if_neg hnot, Array.toList_push, List.map_append, hl]
      rfl
    · unfold putM
      rw [if_neg hnot]
      intro p hp
      rcases List.mem_append.1 hp with hp | hp
      · exact hk p hp
      · obtain rfl := List.mem_singleton.1 hp
        exact ⟨kl, hkey⟩
    · unfold putM
      rw [if_neg hnot, List.map_append]
      exact List.nodup_append.2 ⟨hn, by simp, fun a ha c hc => by simp at hc; subst hc; exact fun e => hnot (e ▸ ha)⟩
  · have hin : key ∈ l.map (·.1) := by
      rw [← hl, List.map_map]
      exact List.mem_map.2 ⟨e0, List.mem_of_getElem? h2, h3⟩
    have hj : es[j]? = some e0 := by simpa using h2
    refine ⟨setBlock w b (.map (es.modify j (fun e' => { e' with key := key, val := v })) clock), ?_, ⟨es.modify j (fun e' => { e' with key := key, val := v }), clock, heap_setBlock_same hb _, ?_, ?_, ?_⟩, grown _⟩
    · simp [Instr.mapUpdate, run_underlying ht, MapKept.run_getObj_map hb, K.check w false hkey, h1, hj, h3, K.stays w hkey, MapKept.run_setObj_map _ hb, Result.andThen, setBlock]
    · rw [modify_list h2]
      unfold putM
      rw [if_pos hin, ← hl, List.map_set]
      apply List.ext_getElem?
      intro i
      simp only [List.getElem?_set, List.getElem?_map, List.length_map]
      by_cases hij : j = i
      · subst hij
        have hlt := (List.getElem?_eq_some_iff.1 h2).1
        rw [if_pos rfl, if_pos hlt, h2]
        simp [h3]
      · rw [if_neg hij]
        cases hi : es.toList[i]? with
        | none => rfl
        | some e1 =>
          have hne : e1.key ≠ key := fun e => by
            have hn2 : (es.toList.map (fun e => e.key)).Nodup := by
              have := hn
              rw [← hl, List.map_map] at this
              exact this
            have a1 : (es.toList.map (fun e => e.key))[i]? = some key := by rw [List.getElem?_map, hi]; simp [e]
            have a2 : (es.toList.map (fun e => e.key))[j]? = some key := by rw [List.getElem?_map, h2]; simp [h3]
            obtain ⟨l1, e1'⟩ := List.getElem?_eq_some_iff.1 a1
            obtain ⟨l2, e2'⟩ := List.getElem?_eq_some_iff.1 a2
            exact hij ((List.getElem_inj hn2).1 (e2'.trans e1'.symm))
          simp [hne]
    · intro p hp
      unfold putM at hp
      rw [if_pos hin] at hp
      obtain ⟨q, hq, rfl⟩ := List.mem_map.1 hp
      split
      · exact ⟨kl, hkey⟩
      · exact hk q hq
    · rw [putM_there hin]
      exact hn
end
/-- 'm[key] = v' AT THE OPERATION. -/
theorem wpList_mapAt {P : Program} {k : TypeId} {w : World} {b : Nat} {l : List (Value × Value)} {ops : Array Oper} {rest : List Oper} {o : Oper} {a : Act} {Q : Exit → Act → World → Prop} (hg : o.guard = none) (m x v : Operand) (t e : TypeId)
    (hop : o.op = Op.mapUpdate t m x v) (K : Keyed P k) (ht : P.underlying t = some (.map k e)) (hm : a.eval m = .map (some b)) (h : MapAt P k w b l) (key val : Value) (kl : Lit) (hx : a.eval x = key) (hv : a.eval v = val) (hkey : keyOf P k key = some kl)
    (hK : ∀ w', MapAt P k w' b (putM l key val) → w.grownBy w' (some b) → wpList P ops Q rest (a.put o.dst undef) w') : wpList P ops Q (o :: rest) a w := by
  refine wpList_plain hg fun K' hK' => ?_
  obtain ⟨w', hrun, r1, r2⟩ := h.store K ht hkey val
  unfold Oper.wp
  simp [execOp, hop, hm, hx, hv, hrun, Result.andThen]
  exact hK' _ _ (hK w' r1 r2)
theorem getM_put_same (l : List (Value × Value)) (key v : Value) (hn : (l.map (·.1)).Nodup) : getM (putM l key v) key = some v := by
  by_cases h : key ∈ l.map (·.1)
  · have h2 := putM_there (v := v) h
    have : (key, v) ∈ putM l key v := by
      unfold putM
      rw [if_pos h]
      obtain ⟨p, hp, he⟩ := List.mem_map.1 h
      exact List.mem_map.2 ⟨p, hp, by rw [if_pos he]⟩
    exact getM_some (by rw [h2]; exact hn) this
  · have : (key, v) ∈ putM l key v := by unfold putM; rw [if_neg h]; simp
    refine getM_some ?_ this
    unfold putM
    rw [if_neg h, List.map_append]
    exact List.nodup_append.2 ⟨hn, by simp, fun a ha c hc => by simp at hc; subst hc; exact fun e => h (e ▸ ha)⟩
theorem getM_put_other (l : List (Value × Value)) (key v : Value) {x : Value} (hx : x ≠ key) : getM (putM l key v) x = getM l x := by
  unfold putM
  split
  · rename_i hin
    clear hin
    induction l with
    | nil => rfl
    | cons p r ih =>
      unfold getM at ih ⊢
      rw [List.map_cons]
      by_cases hp : p.1 = key
      · rw [if_pos hp, List.find?_cons_of_neg (by simpa using fun e => hx e.symm), List.find?_cons_of_neg (by rw [hp]; simpa using fun e => hx e.symm)]
        exact ih
      · rw [if_neg hp]
        by_cases hpx : p.1 = x
        · rw [List.find?_cons_of_pos (by simpa using hpx), List.find?_cons_of_pos (by simpa using hpx)]
        · rw [List.find?_cons_of_neg (by simpa using hpx), List.find?_cons_of_neg (by simpa using hpx)]
          exact ih
  · unfold getM
    rw [List.find?_append]
    cases l.find? _ with
    | some p => rfl
    | none =>
      rw [List.find?_cons_of_neg (by simpa using fun e => hx e.symm)]
      rfl
end Go.Proofs.YthhcaoljejifeaaGreat

/-
  Small general lemmas, the second text: lists of structs as cells, the first place at which a predicate holds.
-/
namespace Go.Proofs.YthhcaoljejifeaaGreat
open Go Go.RowKit

theorem flat_get {α : Type} (enc : α → List Value) (k : Nat) (hk : ∀ x, (enc x).length = k) : ∀ (L : List α) (j i : Nat) (x : α) (v : Value), L[j]? = some x → (enc x)[i]? = some v → (L.flatMap enc)[j * k + i]? = some v
  | [], j, i, x, v, h, _ => by simp at h
  | y :: L, 0, i, x, v, h, hv => by
    simp at h; subst h
    have hi : i < (enc y).length := (List.getElem?_eq_some_iff.1 hv).1
    rw [List.flatMap_cons, Nat.zero_mul, Nat.zero_add, List.getElem?_append_left hi]
    exact hv
  | y :: L, j + 1, i, x, v, h, hv => by
    rw [List.flatMap_cons, List.getElem?_append_right (by rw [hk]; rw [Nat.add_mul]; omega), hk]
    have := flat_get enc k hk L j i x v (by simpa using h) hv
    rw [show (j + 1) * k + i - k = j * k + i by rw [Nat.add_mul]; omega]
    exact this
theorem flat_len {α : Type} (enc : α → List Value) (k : Nat) (hk : ∀ x, (enc x).length = k) (L : List α) : (L.flatMap enc).length = L.length * k := by
  induction L with
  | nil => simp
  | cons y L ih => rw [List.flatMap_cons, List.length_append, ih, hk, List.length_cons, Nat.add_mul]; omega
theorem get_bang {α : Type} [Inhabited α] {L : List α} {j : Nat} (h : j < L.length) : L[j]? = some L[j]! := by
  rw [List.getElem!_eq_getElem?_getD, List.getElem?_eq_getElem h]; rfl
/-- The cells of a slice of structs, as the shelf's contracts ask them. -/
theorem Rd.cells {α : Type} [Inhabited α] {enc : α → List Value} {k : Nat} (hk : ∀ x, (enc x).length = k) {w : World} {L : List α} {b off : Nat}
    (hcell : ∀ j u, (L.flatMap enc)[j]? = some u → w.cell? ⟨b, off + j, none⟩ = some u) :
    ∀ j, j < L.length → ∀ i v, (enc L[j]!)[i]? = some v → w.cell? ⟨b, off + j * k + i, none⟩ = some v := by
  intro j hj i v hv
  have := hcell _ _ (flat_get enc k hk L j i _ v (get_bang hj) hv)
  rw [Nat.add_assoc]; exact this

/-- The first place at which p holds; -1: there is none. -/
def idxP {α : Type} [Inhabited α] (p : α → Bool) (L : List α) : Int := Lib.idxBy (fun _ y => p y) L default
theorem idxP_nil {α : Type} [Inhabited α] (p : α → Bool) : idxP p [] = -1 := rfl
theorem idxP_miss {α : Type} [Inhabited α] (p : α → Bool) (L : List α) (h : ∀ (j : Nat) (x : α), L[j]? = some x → p x = false) : idxP p L = -1 := by
  have := Lib.idxBy_miss (fun _ y => p y) L L.length default (fun j hj => h j _ (get_bang hj))
  rw [List.take_length] at this
  exact this
theorem idxP_hit {α : Type} [Inhabited α] (p : α → Bool) (L : List α) (k : Nat) (x : α) (hx : L[k]? = some x) (h : p x = true) (hne : ∀ (j : Nat) (y : α), j < k → L[j]? = some y → p y = false) : idxP p L = k := by
  have hk : k < L.length := (List.getElem?_eq_some_iff.1 hx).1
  have e : L[k]! = x := by
    have := get_bang hk
    rw [hx] at this
    injection this with this
    exact this.symm
  have := Lib.idxBy_hit (fun _ y => p y) L L.length k default hk (Nat.le_refl _) (by rw [e]; exact h) (fun j hj => hne j _ hj (get_bang (by omega)))
  rw [List.take_length] at this
  exact this
theorem idxP_cases {α : Type} [Inhabited α] (p : α → Bool) (L : List α) : (idxP p L = -1 ∧ ∀ (j : Nat) (x : α), L[j]? = some x → p x = false) ∨ ∃ (k : Nat) (x : α), idxP p L = k ∧ L[k]? = some x ∧ p x = true ∧ ∀ (j : Nat) (y : α), j < k → L[j]? = some y → p y = false := by
  by_cases h : ∃ (k : Nat) (x : α), L[k]? = some x ∧ p x = true
  · obtain ⟨k, hk⟩ := h
    have : ∃ (k : Nat) (x : α), L[k]? = some x ∧ p x = true ∧ ∀ (j : Nat) (y : α), j < k → L[j]? = some y → p y = false := by
      induction k using Nat.strongRecOn with
      | ind k ih =>
        by_cases h2 : ∃ j : Nat, j < k ∧ ∃ y, L[j]? = some y ∧ p y = true
        · obtain ⟨j, hj, hy⟩ := h2
          exact ih j hj hy
        · obtain ⟨x, hx, hp⟩ := hk
          refine ⟨k, x, hx, hp, fun j y hj hy => ?_⟩
          cases hpy : p y with
          | false => rfl
          | true => exact absurd ⟨j, hj, y, hy, hpy⟩ h2
    obtain ⟨k, x, hx, hp, hne⟩ := this
    exact .inr ⟨k, x, idxP_hit p L k x hx hp hne, hx, hp, hne⟩
  · refine .inl ⟨?_, ?_⟩
    · exact idxP_miss p L (fun j x hx => by
        cases hp : p x with
        | false => rfl
        | true => exact absurd ⟨j, x, hx, hp⟩ h)
    · intro j x hx
      cases hp : p x with
      | false => rfl
      | true => exact absurd ⟨j, x, hx, hp⟩ h

end Go.Proofs.YthhcaoljejifeaaGreat

/-
  Small general lemmas, the third text: one element appended to a row of the call's own; no program in sight.
-/
namespace Go.Proofs.YthhcaoljejifeaaGreat
open Go Go.RowKit

/-- One element (its cells have just been laid in a block of their own) is appended to a row of the call's own. -/
theorem wpList_push {P : Program} {ops : Array Oper} {rest : List Oper} {o : Oper} {a : Act} {Q : Exit → Act → World → Prop} (hgd : o.guard = none) (s x : Operand) (t : TypeId)
    (ho : o.op = .call { callee := .builtin .append, args := #[s, x], argTypes := #[t, t] })
    (e : TypeId) (i : TypeInfo) (z : Value) (size bytes : Nat) (ht : P.underlying t = some (.slice e)) (hi : P.info? e = some i) (hz : i.zero = some z)
    (hsize : i.size = size) (hby : i.bytes = bytes) (hzs : z.cells.size = size) (hsz : 0 < size) (hb64 : bytes ≤ 64)
    {w0 : World} {base n : Nat} {v : Value} {xs : List Value} (es : List Value) (hs : a.eval s = v) {g0 : Nat} (hx : a.eval x = .slice (some ⟨g0, 0, none⟩) 1 1) (hg0 : g0 = w0.heap.size)
    (hown : w0.ownsRow base e size v n xs) (hes : es.length = size) (h1 : ∀ u ∈ es, u.oneCell' = true) (hn : n ≤ 1099511627776) (hbase : base ≤ w0.heap.size)
    {B : Nat} {a0 : World} (hb : Below B a0 w0) (hB : B ≤ base)
    (h : ∀ v' w', w'.ownsRow base e size v' (n + 1) (xs ++ es) → Below B a0 w' → wpList P ops Q rest (a.put o.dst v') w') : wpList P ops Q (o :: rest) a (w0.alloc (.cells es.toArray e)) := by
  subst hg0
  refine wpList_append_own _ hgd s x t ho base e i z size bytes ht hi hz hsize hby hzs hsz v n xs hs (hown.alloc _) ⟨w0.heap.size, 0, none⟩ 1 1 es hx (by omega) (cells_new w0 es e) h1 (by unfold maxLen; omega) ?_ (by simp; omega) ?_
  · calc (n + 1) * bytes ≤ (1099511627776 + 1) * 64 := Nat.mul_le_mul (by omega) hb64
      _ ≤ 140737488355328 := by decide
  · intro v' w' h2 h3 _
    exact h v' w' h2 (below_row (hb.alloc (by omega) _) (hown.alloc _) h3 (by simp; omega) hB)
/-- What a row of the call's own is made of. -/
theorem owns_block {w : World} {base : Nat} {e : TypeId} {size n : Nat} {g c : Nat} {xs : List Value} (h : w.ownsRow base e size (.slice (some ⟨g, 0, none⟩) n c) n xs) :
    ∃ cur : Array Value, w.heap[g]? = some (.cells cur e (0, 0)) ∧ n ≤ c ∧ c ≤ maxLen ∧ cur.size = c * size ∧ cur.toList.take (n * size) = xs ∧ base ≤ g := by
  obtain ⟨_, h2⟩ := h
  rcases h2 with ⟨h2, _⟩ | ⟨g', cap, cur, hv, hg, hh, hnc, hcm, hcs, ht⟩
  · cases h2
  · injection hv with h1 _ h3
    injection h1 with h1
    injection h1 with h1
    subst h1 h3
    exact ⟨cur, hh, hnc, hcm, hcs, ht, hg⟩
theorem owns_of_block {w : World} {base : Nat} {e : TypeId} {size n : Nat} {g c : Nat} {cur : Array Value} {xs : List Value} (hh : w.heap[g]? = some (.cells cur e (0, 0))) (hnc : n ≤ c) (hcm : c ≤ maxLen) (hcs : cur.size = c * size) (ht : cur.toList.take (n * size) = xs) (hl : xs.length = n * size) (hg : base ≤ g) :
    w.ownsRow base e size (.slice (some ⟨g, 0, none⟩) n c) n xs := ⟨hl, .inr ⟨g, c, cur, rfl, hg, hh, hnc, hcm, hcs, ht⟩⟩
end Go.Proofs.YthhcaoljejifeaaGreat

/-
  Small general lemmas, the fourth text: an append tells whether its row lies where it lay; no program in sight.
-/
namespace Go.Proofs.YthhcaoljejifeaaGreat
open Go Go.RowKit

theorem grown_none {w w' : World} (h : w.grownBy w' none) (r : Option Nat) : w.grownBy w' r := ⟨h.os, h.tape, h.output, h.size, fun i hi _ => h.block i hi (by simp)⟩
/-- The row lies where it lay, or in a block of its own laid since. -/
def Moved (v v' : Value) (k : Nat) : Prop := v'.ownBlock = v.ownBlock ∨ ∀ g, v'.ownBlock = some g → k ≤ g
theorem wpList_push2 {P : Program} {ops : Array Oper} {rest : List Oper} {o : Oper} {a : Act} {Q : Exit → Act → World → Prop} (hgd : o.guard = none) (s x : Operand) (t : TypeId)
    (ho : o.op = .call { callee := .builtin .append, args := #[s, x], argTypes := #[t, t] })
    (e : TypeId) (i : TypeInfo) (z : Value) (size bytes : Nat) (ht : P.underlying t = some (.slice e)) (hi : P.info? e = some i) (hz : i.zero = some z)
    (hsize : i.size = size) (hby : i.bytes = bytes) (hzs : z.cells.size = size) (hsz : 0 < size) (hb64 : bytes ≤ 64)
    {w0 : World} {base n : Nat} {v : Value} {xs : List Value} (es : List Value) (hs : a.eval s = v) {g0 : Nat} (hx : a.eval x = .slice (some ⟨g0, 0, none⟩) 1 1) (hg0 : g0 = w0.heap.size)
    (hown : w0.ownsRow base e size v n xs) (hes : es.length = size) (h1 : ∀ u ∈ es, u.oneCell' = true) (hn : n ≤ 1099511627776) (hbase : base ≤ w0.heap.size)
    (h : ∀ v' w', w'.ownsRow base e size v' (n + 1) (xs ++ es) → w0.grownBy w' v.ownBlock → Moved v v' w0.heap.size → wpList P ops Q rest (a.put o.dst v') w') : wpList P ops Q (o :: rest) a (w0.alloc (.cells es.toArray e)) := by
  subst hg0
  have hb2 : (n + 1) * bytes ≤ 140737488355328 :=
    calc (n + 1) * bytes ≤ (1099511627776 + 1) * 64 := Nat.mul_le_mul (by omega) hb64
      _ ≤ 140737488355328 := by decide
  have hownA := hown.alloc (.cells es.toArray e)
  have hgA : w0.grownBy (w0.alloc (.cells es.toArray e)) none := World.grownBy_alloc w0 _ none
  have hnew := cells_new w0 es e
  rcases hown.2 with ⟨rfl, rfl⟩ | ⟨g, cap, cur, rfl, hbg, hg, hnc, hcm, hcs, htake⟩
  · obtain rfl : xs = [] := List.eq_nil_of_length_eq_zero (by have := hown.1; omega)
    refine wpList_append_grows _ hgd s x t ho e i z size bytes ht hi hz hsize hby hzs hsz none 0 0 [] hs (fun _ => ⟨rfl, rfl⟩) (by simp) (fun b hb => by cases hb) ⟨w0.heap.size, 0, none⟩ 1 1 es hx (by omega) hnew h1 (by omega) (by unfold maxLen; omega) hb2 ?_
    intro v' w' h2 h3
    refine h v' w' (owns_base h2 (by simp; omega)) (grown_none (hgA.trans h3) _) (.inr fun g hg => ?_)
    have := (h2.lt g hg).1
    simp at this; omega
  · by_cases hroom : n + 1 ≤ cap
    · obtain ⟨w', hr, h2, h3⟩ := run_append_fits (P := P) _ base t o.type e i size ht hi hsize g n cap xs hownA ⟨w0.heap.size, 0, none⟩ 1 1 es (by omega) hnew h1 hroom
      refine wpList_plain hgd fun K hK => ?_
      unfold Oper.wp execOp
      simp only [ho, resolve, invoke, builtin, Sem.run_bind, Sem.run_pure, Result.andThen_ok, List.map_toArray, List.map_cons, List.map_nil, hs, hx, hr]
      exact hK _ _ (h _ w' h2 ((grown_none hgA _).trans h3) (.inl rfl))
    · refine wpList_append_grows _ hgd s x t ho e i z size bytes ht hi hz hsize hby hzs hsz (some ⟨g, 0, none⟩) n cap xs hs (fun hh => by cases hh) hown.1 (fun b hb j u hu => ?_) ⟨w0.heap.size, 0, none⟩ 1 1 es hx (by omega) hnew h1 (by omega) (by unfold maxLen; omega) hb2 ?_
      · injection hb with hb
        subst hb
        exact hownA.cells rfl j u hu
      · intro v' w' h2 h3
        refine h v' w' (owns_base h2 (by simp; omega)) (grown_none (hgA.trans h3) _) (.inr fun g hg => ?_)
        have := (h2.lt g hg).1
        simp at this; omega
/-- The blocks from lo on below hi are as they were. -/
def Seg (lo hi : Nat) (a w : World) : Prop := ∀ b, lo ≤ b → b < hi → w.heap[b]? = a.heap[b]?
/-- The row lies below lo or from hi on. -/
def Off (v : Value) (lo hi : Nat) : Prop := ∀ g, v.ownBlock = some g → g < lo ∨ hi ≤ g
theorem Off.moved {v v' : Value} {lo hi k : Nat} (h : Off v lo hi) (hm : Moved v v' k) (hk : hi ≤ k) : Off v' lo hi := by
  intro g hg
  rcases hm with hm | hm
  · exact h g (hm ▸ hg)
  · exact .inr (Nat.le_trans hk (hm g hg))
theorem Seg.refl (lo hi : Nat) (a : World) : Seg lo hi a a := fun _ _ _ => rfl
theorem Seg.grown {v : Value} {lo hi : Nat} {a w w' : World} (h : Seg lo hi a w) (hg : w.grownBy w' v.ownBlock) (ho : Off v lo hi) (hs : hi ≤ w.heap.size) : Seg lo hi a w' := by
  intro b h1 h2
  refine (hg.block b (by omega) (fun hb => ?_)).trans (h b h1 h2)
  rcases ho b hb.symm with h3 | h3 <;> omega
theorem Seg.below {lo hi : Nat} {a w w' : World} (h : Seg lo hi a w) (hb : Below w.heap.size w w') (hs : hi ≤ w.heap.size) : Seg lo hi a w' :=
  fun b h1 h2 => (hb.block b (by omega)).trans (h b h1 h2)
theorem Seg.alloc {lo hi : Nat} {a w : World} (h : Seg lo hi a w) (hs : hi ≤ w.heap.size) (o : Obj) : Seg lo hi a (w.alloc o) := h.below (below1 w o) hs

end Go.Proofs.YthhcaoljejifeaaGreat

/-
  An arena in memory.
-/
namespace Go.Proofs.YthhcaoljejifeaaGreat
open Go Go.RowKit Go.ChangeMaps Go.MapKept Go.Maps

def ncell (n : Nd) : List Value := [.int .i32 n.v, .int .i32 n.lo, .int .i32 n.hi]
theorem ncell_len (n : Nd) : (ncell n).length = 3 := rfl
def ncells (N : List Nd) : List Value := N.flatMap ncell
theorem ncells_at {N : List Nd} {i j : Nat} (hi : i < N.length) {v : Value} (hv : (ncell (nd N i))[j]? = some v) : (ncells N)[i * 3 + j]? = some v := flat_get ncell 3 ncell_len N i j _ v (nd_lt hi) hv
theorem ncells_snoc (N : List Nd) (x : Nd) : ncells (N ++ [x]) = ncells N ++ ncell x := by simp [ncells]
theorem ncell_one (x : Nd) : ∀ u ∈ ncell x, u.oneCell' = true := by
  intro u hu
  simp only [ncell, List.mem_cons, List.not_mem_nil, or_false] at hu
  rcases hu with rfl | rfl | rfl <;> rfl
/-- A node as a key; three nodes as a key. -/
def ndV (n : Nd) : Value := .agg #[.int .i32 n.v, .int .i32 n.lo, .int .i32 n.hi]
def triV (f g h : Nat) : Value := .agg #[.int .i32 f, .int .i32 g, .int .i32 h]
theorem ndV_inj {a b : Nd} (h : ndV a = ndV b) : a = b := by
  unfold ndV at h
  cases a; cases b
  simp at h
  obtain ⟨h1, h2, h3⟩ := h
  congr <;> omega
theorem triV_inj {a b c a' b' c' : Nat} (h : triV a b c = triV a' b' c') : a = a' ∧ b = b' ∧ c = c' := by
  unfold triV at h
  simp at h
  omega
/-- The map of the nodes: each node's number, and no other's. -/
def ByOk (N : List Nd) (l : List (Value × Value)) : Prop :=
  (∀ i, 2 ≤ i → i < N.length → getM l (ndV (nd N i)) = some (.int .i32 i)) ∧ ∀ (n : Nd) (u : Value), getM l (ndV n) = some u → ∃ i, 2 ≤ i ∧ i < N.length ∧ nd N i = n
/-- The map of the answers: each is right. -/
def MemoOk (N : List Nd) (l : List (Value × Value)) : Prop :=
  ∀ (f g h : Nat) (u : Value), getM l (triV f g h) = some u → ∃ r : Nat, u = .int .i32 r ∧ f < N.length ∧ g < N.length ∧ h < N.length ∧ r < N.length ∧ ∀ s, ev N s r = if ev N s f then ev N s g else ev N s h
def heldL (H : List Nat) : List (Value × Value) := H.map fun (i : Nat) => (.int .i32 (i : Int), .bool true)
def givenL (G : List Nat) : List (Value × Value) := G.map fun (i : Nat) => (.int .i64 (i : Int), .bool true)
/-- An arena's blocks. -/
structure Blks where
  a : Nat
  b : Nat
  i : Nat
  g : Nat
  h : Nat
def Blks.list (A : Blks) : List Nat := [A.a, A.b, A.i, A.g, A.h]
def Blks.val (A : Blks) : Value := .pointer (some ⟨A.a, 0, none⟩)
def arCells (V Mo : Nat) (nv : Value) (A : Blks) : Array Value := #[.int .i64 V, .int .i64 Mo, nv, .map (some A.b), .map (some A.i), .map (some A.g), .map (some A.h)]
/-- The arena of the nodes N, holding H, having given G; its blocks from B on. -/
structure ArNv (w : World) (B : Nat) (A : Blks) (V Mo : Nat) (N : List Nd) (H G : List Nat) (nv : Value) : Prop where
  cells : w.heap[A.a]? = some (.cells (arCells V Mo nv A) 121 (0, 0))
  row : w.ownsRow B 114 3 nv N.length (ncells N)
  by_ : ∃ l, MapAt Tryz.prog 114 w A.b l ∧ ByOk N l
  ites : ∃ l, MapAt Tryz.prog 140 w A.i l ∧ MemoOk N l
  given : MapAt Tryz.prog 3 w A.g (givenL G)
  held : MapAt Tryz.prog 21 w A.h (heldL H)
  nodup : A.list.Nodup
  base : ∀ k ∈ A.list, B ≤ k
  off : ∀ k ∈ A.list, nv.ownBlock ≠ some k
  wf : WF N
  le : N.length ≤ 2147483647
def ArAt (w : World) (B : Nat) (A : Blks) (V Mo : Nat) (N : List Nd) (H G : List Nat) : Prop := ∃ nv, ArNv w B A V Mo N H G nv
/-- A block that is none of the arena's. -/
def Foreign (A : Blks) (w : World) (k : Nat) : Prop := k < w.heap.size ∧ k ∉ A.list ∧ ∀ nv, w.cell? ⟨A.a, 2, none⟩ = some nv → nv.ownBlock ≠ some k
/-- Nothing but the arena has turned. -/
structure Kept (A : Blks) (w w' : World) : Prop where
  os : w'.os = w.os
  tape : w'.tape = w.tape
  output : w'.output = w.output
  size : w.heap.size ≤ w'.heap.size
  same : ∀ k, Foreign A w k → w'.heap[k]? = w.heap[k]? ∧ Foreign A w' k
theorem Kept.refl (A : Blks) (w : World) : Kept A w w := ⟨rfl, rfl, rfl, Nat.le_refl _, fun _ h => ⟨rfl, h⟩⟩
theorem Kept.trans {A : Blks} {a b c : World} (h : Kept A a b) (g : Kept A b c) : Kept A a c :=
  ⟨g.os.trans h.os, g.tape.trans h.tape, g.output.trans h.output, Nat.le_trans h.size g.size, fun k hk => ⟨(g.same k (h.same k hk).2).1.trans (h.same k hk).1, (g.same k (h.same k hk).2).2⟩⟩
theorem ArNv.cell2 {w : World} {B : Nat} {A : Blks} {V Mo : Nat} {N : List Nd} {H G : List Nat} {nv : Value} (h : ArNv w B A V Mo N H G nv) : w.cell? ⟨A.a, 2, none⟩ = some nv := by
  rw [cell_of_row w _ 2 _ _ (0, 0) h.cells]; rfl
/-- Blocks that are laid, and draws, leave the arena. -/
theorem ArNv.below {w w' : World} {B : Nat} {A : Blks} {V Mo : Nat} {N : List Nd} {H G : List Nat} {nv : Value} (h : ArNv w B A V Mo N H G nv) (hb : Below w.heap.size w w') : ArNv w' B A V Mo N H G nv := by
  obtain ⟨lb, hlb, ob⟩ := h.by_
  obtain ⟨li, hli, oi⟩ := h.ites
  exact ⟨blk_below hb h.cells, owns_kept_none h.row (only_of_below hb none), ⟨lb, hlb.same (hb.block _ hlb.lt), ob⟩, ⟨li, hli.same (hb.block _ hli.lt), oi⟩, h.given.same (hb.block _ h.given.lt), h.held.same (hb.block _ h.held.lt), h.nodup, h.base, h.off, h.wf, h.le⟩
theorem ArAt.below {w w' : World} {B : Nat} {A : Blks} {V Mo : Nat} {N : List Nd} {H G : List Nat} (h : ArAt w B A V Mo N H G) (hb : Below w.heap.size w w') : ArAt w' B A V Mo N H G := by
  obtain ⟨nv, h⟩ := h
  exact ⟨nv, h.below hb⟩
theorem Kept.of_below {A : Blks} {w w' : World} (ha : A.a < w.heap.size) (hb : Below w.heap.size w w') : Kept A w w' :=
  ⟨hb.os, hb.tape, hb.output, hb.size, fun k hk => ⟨hb.block k hk.1, Nat.lt_of_lt_of_le hk.1 hb.size, hk.2.1, fun nv hnv => hk.2.2 nv (by rw [← hnv]; exact (hb.cell (p := ⟨A.a, 2, none⟩) ha).symm)⟩⟩
end Go.Proofs.YthhcaoljejifeaaGreat

/-
  The keys of an arena's maps.
-/
namespace Go.Proofs.YthhcaoljejifeaaGreat
open Go Go.RowKit Go.ChangeMaps Go.MapKept Go.Maps

theorem wf_i32 {a : Int} (h : -2147483648 ≤ a ∧ a ≤ 2147483647) : (Lit.int .i32 a).wf = true := by
  simp [Lit.wf, IntKind.min, IntKind.max, IntKind.signed, IntKind.bits]; omega
theorem keyLits_int {P : Program} {t : TypeId} {q : IntKind} (ht : P.underlying t = some (.int q)) (d : Nat) {a : Int} (hw : (Lit.int q a).wf = true) : P.keyLits (d + 1) t [.int q a] = some [.int q a] := by
  unfold Program.keyLits
  rw [ht]
  simp [hw]
theorem node_keyed : Keyed Tryz.prog 114 := Keyed.of_law (deep_law_laid (m := 5) (by kernel_rfl) (by omega) (of_decide_eq_true (by kernel_rfl)) (by kernel_rfl) (by kernel_rfl))
theorem tri_keyed : Keyed Tryz.prog 140 := Keyed.of_law (deep_law_laid (m := 5) (by kernel_rfl) (by omega) (of_decide_eq_true (by kernel_rfl)) (by kernel_rfl) (by kernel_rfl))
theorem i32_keyed : Keyed Tryz.prog 21 := int_keyed Tryz.underlying21
theorem i64_keyed : Keyed Tryz.prog 3 := int_keyed Tryz.underlying3
theorem key_node {n : Nd} (hv : n.v ≤ 2147483647) (hl : n.lo ≤ 2147483647) (hh : n.hi ≤ 2147483647) : ∃ c, keyOf Tryz.prog 114 (ndV n) = some c := by
  have hs : ∃ d, Tryz.prog.types.size = d + 1 := ⟨Tryz.prog.types.size - 1, by kernel_rfl⟩
  obtain ⟨d, hd⟩ := hs
  have hk : Tryz.prog.keyType 114 = true := by kernel_rfl
  have hf : (ndV n).formed Tryz.prog 114 = true := by kernel_rfl
  have hc : Tryz.prog.cellsOf 114 = 3 := by kernel_rfl
  have hi : Tryz.prog.cellsOf 21 = 1 := by kernel_rfl
  have k1 := keyLits_int Tryz.underlying21 d (wf_i32 (a := (n.v : Int)) (by omega))
  have k2 := keyLits_int Tryz.underlying21 d (wf_i32 (a := (n.lo : Int)) (by omega))
  have k3 := keyLits_int Tryz.underlying21 d (wf_i32 (a := (n.hi : Int)) (by omega))
  unfold keyOf
  rw [Tryz.underlying114]
  simp only [hk, hf, Bool.and_self, if_true]
  unfold Program.keyLits
  rw [Tryz.underlying114, hd]
  simp [ndV, Value.cells, hc, hi, k1, k2, k3]
theorem key_tri {f g h : Nat} (hf : f ≤ 2147483647) (hg : g ≤ 2147483647) (hh : h ≤ 2147483647) : ∃ c, keyOf Tryz.prog 140 (triV f g h) = some c := by
  have hs : ∃ d, Tryz.prog.types.size = d + 1 := ⟨Tryz.prog.types.size - 1, by kernel_rfl⟩
  obtain ⟨d, hd⟩ := hs
  have hk : Tryz.prog.keyType 140 = true := by kernel_rfl
  have hf : (triV f g h).formed Tryz.prog 140 = true := by kernel_rfl
  have hc : Tryz.prog.cellsOf 140 = 3 := by kernel_rfl
  have hi : Tryz.prog.cellsOf 21 = 1 := by kernel_rfl
  have k1 := keyLits_int Tryz.underlying21 d (wf_i32 (a := (f : Int)) (by omega))
  have k2 := keyLits_int Tryz.underlying21 d (wf_i32 (a := (g : Int)) (by omega))
  have k3 := keyLits_int Tryz.underlying21 d (wf_i32 (a := (h : Int)) (by omega))
  unfold keyOf
  rw [Tryz.underlying140]
  simp only [hk, hf, Bool.and_self, if_true]
  unfold Program.keyLits
  rw [Tryz.underlying140, hd]
  simp [triV, Value.cells, hc, hi, k1, k2, k3, List.range_succ]
theorem key_i32 {a : Int} (h : -2147483648 ≤ a ∧ a ≤ 2147483647) : keyOf Tryz.prog 21 (.int .i32 a) = some (.int .i32 a) := keyOf_int_mk Tryz.underlying21 (wf_i32 h)
theorem key_i64 {a : Int} (h : -9223372036854775808 ≤ a ∧ a ≤ 9223372036854775807) : keyOf Tryz.prog 3 (.int .i64 a) = some (.int .i64 a) := keyOf_int_mk Tryz.underlying3 (by
  simp [Lit.wf, IntKind.min, IntKind.max, IntKind.signed, IntKind.bits]; omega)
theorem zero_i32 (w : World) : (zeroValue 21).run Tryz.prog w = .ok (.int .i32 0) w := by kernel_rfl
theorem zero_bool (w : World) : (zeroValue 4).run Tryz.prog w = .ok (.bool false) w := by kernel_rfl
end Go.Proofs.YthhcaoljejifeaaGreat

/-
  The walks of the arena's mk and cut.
-/
namespace Go.Proofs.YthhcaoljejifeaaGreat
open Go Go.RowKit Go.ChangeMaps Go.MapKept Go.Maps Go.Lib Go.Sort

theorem Tryz.infoNode : (Tryz.prog.info? 114).map (fun i => (i.zero, i.size, i.bytes)) = some (some (.agg #[.int .i32 0, .int .i32 0, .int .i32 0]), 3, 12) := by kernel_rfl
/-- An append of one element to a row of the call's own: it tells whether the row has moved. -/
theorem run_append_moved {P : Program} {w0 : World} (t ty e : TypeId) (i : TypeInfo) (z : Value) (size bytes : Nat) (ht : P.underlying t = some (.slice e)) (hi : P.info? e = some i) (hz : i.zero = some z)
    (hsize : i.size = size) (hby : i.bytes = bytes) (hzs : z.cells.size = size) (hsz : 0 < size) (hb64 : bytes ≤ 64)
    {base n g cap : Nat} {xs : List Value} (hown : w0.ownsRow base e size (.slice (some ⟨g, 0, none⟩) n cap) n xs) (es : List Value) (hes : es.length = size) (h1 : ∀ u ∈ es, u.oneCell' = true) (hn : n ≤ 1099511627776) (hbase : base ≤ w0.heap.size) :
    ∃ v' w', (Builtin.append_ #[t, t] ty #[.slice (some ⟨g, 0, none⟩) n cap, .slice (some ⟨w0.heap.size, 0, none⟩) 1 1]).run P (w0.alloc (.cells es.toArray e)) = .ok v' w' ∧ w'.ownsRow base e size v' (n + 1) (xs ++ es) ∧
      w0.grownBy w' (some g) ∧ Moved (.slice (some ⟨g, 0, none⟩) n cap) v' w0.heap.size := by
  have hb2 : (n + 1) * bytes ≤ 140737488355328 :=
    calc (n + 1) * bytes ≤ (1099511627776 + 1) * 64 := Nat.mul_le_mul (by omega) hb64
      _ ≤ 140737488355328 := by decide
  have hownA := hown.alloc (.cells es.toArray e)
  have hgA : w0.grownBy (w0.alloc (.cells es.toArray e)) none := World.grownBy_alloc w0 _ none
  have hnew := cells_new w0 es e
  by_cases hroom : n + 1 ≤ cap
  · obtain ⟨w', hr, h2, h3⟩ := run_append_fits (P := P) _ base t ty e i size ht hi hsize g n cap xs hownA ⟨w0.heap.size, 0, none⟩ 1 1 es (by omega) hnew h1 hroom
    exact ⟨_, w', hr, h2, (grown_none hgA _).trans h3, .inl rfl⟩
  · obtain ⟨v', w', hr, h2, h3⟩ := run_append_arg_grows (P := P) (w0.alloc (.cells es.toArray e)) t ty e i z size bytes ht hi hz hsize hby hzs hsz ⟨g, 0, none⟩ n cap xs hown.1
      (fun j u hu => hownA.cells rfl j u hu) ⟨w0.heap.size, 0, none⟩ 1 1 es (by omega) hnew (by omega) (by unfold maxLen; omega) hb2
    refine ⟨v', w', hr, owns_base h2 (by simp; omega), grown_none (hgA.trans h3) _, .inr fun g' hg' => ?_⟩
    have := (h2.lt g' hg').1
    simp at this; omega
/-- .. as one step of a region that draws its order. -/
theorem step_append_moved {P : Program} {ops : Array Oper} {o : Oper} {a : Act} {K : Act → World → Prop} {Q : Exit → Act → World → Prop} {E : Prop}
    (hg : o.guard = none) (s x : Operand) (t : TypeId) (hop : o.op = Op.call { callee := Callee.builtin Builtin.append, args := #[s, x], argTypes := #[t, t] })
    {w0 : World} (e : TypeId) (i : TypeInfo) (z : Value) (size bytes : Nat) (ht : P.underlying t = some (.slice e)) (hi : P.info? e = some i) (hz : i.zero = some z)
    (hsize : i.size = size) (hby : i.bytes = bytes) (hzs : z.cells.size = size) (hsz : 0 < size) (hb64 : bytes ≤ 64)
    {base n g cap : Nat} {xs : List Value} (hown : w0.ownsRow base e size (.slice (some ⟨g, 0, none⟩) n cap) n xs) (es : List Value) (hes : es.length = size) (h1 : ∀ u ∈ es, u.oneCell' = true) (hn : n ≤ 1099511627776) (hbase : base ≤ w0.heap.size)
    (hs : a.eval s = .slice (some ⟨g, 0, none⟩) n cap) (hx : a.eval x = .slice (some ⟨w0.heap.size, 0, none⟩) 1 1)
    (hK : ∀ v' w', w'.ownsRow base e size v' (n + 1) (xs ++ es) → w0.grownBy w' (some g) → Moved (.slice (some ⟨g, 0, none⟩) n cap) v' w0.heap.size → K (a.put o.dst v') w') :
    if Region.wanted o (yielded ops a.tmps) = true then Oper.wp P o a (w0.alloc (.cells es.toArray e)) K Q else E := by
  have hw : Region.wanted o (yielded ops a.tmps) = true := by simp [Region.wanted, hg]
  rw [if_pos hw]
  obtain ⟨v', w', hrun, r1, r2, r3⟩ := run_append_moved (P := P) t o.type e i z size bytes ht hi hz hsize hby hzs hsz hb64 hown es hes h1 hn hbase
  unfold Oper.wp
  simp [execOp, hop, resolve, invoke, builtin, hs, hx, hrun, Result.andThen]
  exact hK v' w' r1 r2 r3
/-- A row stays where its block stays. -/
theorem owns_like {w w' : World} {base : Nat} {e : TypeId} {size n : Nat} {v : Value} {xs : List Value} (h : w.ownsRow base e size v n xs) (hs : ∀ g, v.ownBlock = some g → w'.heap[g]? = w.heap[g]?) : w'.ownsRow base e size v n xs := by
  refine ⟨h.1, h.2.imp id ?_⟩
  rintro ⟨g, cap, cur, rfl, hbg, hg, r⟩
  exact ⟨g, cap, cur, rfl, hbg, (hs g rfl).trans hg, r⟩
/-- The arena behind an append to its nodes. -/
theorem ArNv.pushed {w w5 : World} {B : Nat} {A : Blks} {V Mo : Nat} {N : List Nd} {H G : List Nat} {g cp : Nat} {v5 : Value} (h : ArNv w B A V Mo N H G (.slice (some ⟨g, 0, none⟩) N.length cp)) {x : Nd}
    (hown : w5.ownsRow B 114 3 v5 (N.length + 1) (ncells N ++ ncell x)) (hg : w.grownBy w5 (some g)) (hm : Moved (.slice (some ⟨g, 0, none⟩) N.length cp) v5 w.heap.size) :
    (w5.setCell ⟨A.a, 2, none⟩ v5).heap[A.a]? = some (.cells (arCells V Mo v5 A) 121 (0, 0)) ∧ (w5.setCell ⟨A.a, 2, none⟩ v5).ownsRow B 114 3 v5 (N.length + 1) (ncells N ++ ncell x) ∧
      (∀ k, k < w.heap.size → k ≠ g → k ≠ A.a → (w5.setCell ⟨A.a, 2, none⟩ v5).heap[k]? = w.heap[k]?) ∧ (∀ k, k < w.heap.size → k ≠ g → v5.ownBlock ≠ some k) ∧ Kept A w (w5.setCell ⟨A.a, 2, none⟩ v5) ∧ w5.frozen? ⟨A.a, 2, none⟩ = false ∧ w5.cell? ⟨A.a, 2, none⟩ = some (.slice (some ⟨g, 0, none⟩) N.length cp) ∧ w.heap.size ≤ w5.heap.size := by
  have hga : g ≠ A.a := fun e => h.off A.a (by simp [Blks.list]) (by rw [e]; rfl)
  have hA := lt_of_block h.cells
  have hk5 : ∀ k, k < w.heap.size → k ≠ g → w5.heap[k]? = w.heap[k]? := fun k hk hkg => hg.block k hk (fun e => hkg (by injection e))
  have hoff : ∀ k, k < w.heap.size → k ≠ g → v5.ownBlock ≠ some k := fun k hk hkg e => by
    rcases hm with hm | hm
    · rw [hm] at e
      have : some g = some k := e
      injection this with this
      exact hkg this.symm
    · have := hm k e; omega
  have c5 := (hk5 A.a hA hga.symm).trans h.cells
  have c6 : (w5.setCell ⟨A.a, 2, none⟩ v5).heap[A.a]? = some (.cells (arCells V Mo v5 A) 121 (0, 0)) := set_at c5
  have rest : ∀ k, k < w.heap.size → k ≠ g → k ≠ A.a → (w5.setCell ⟨A.a, 2, none⟩ v5).heap[k]? = w.heap[k]? := fun k hk hkg hka => (Below.heap_setCell w5 ⟨A.a, 2, none⟩ v5 k hka).trans (hk5 k hk hkg)
  have hs5 := hg.size
  refine ⟨c6, owns_like hown (fun k hk => Below.heap_setCell w5 ⟨A.a, 2, none⟩ v5 k (fun e => hoff A.a hA hga.symm (by rw [hk, e]))), rest, hoff, ⟨hg.os, hg.tape, hg.output, by simpa [World.setCell] using hs5, fun k hk => ?_⟩, frozen_of_row w5 _ 2 _ _ c5, by rw [cell_of_row w5 _ 2 _ _ (0, 0) c5]; rfl, hs5⟩
  obtain ⟨hk1, hk2, hk3⟩ := hk
  have hkg : k ≠ g := fun e => hk3 _ h.cell2 (by rw [e]; rfl)
  have hka : k ≠ A.a := fun e => hk2 (by rw [e]; simp [Blks.list])
  refine ⟨rest k hk1 hkg hka, by have : w5.heap.size = (w5.setCell ⟨A.a, 2, none⟩ v5).heap.size := by simp [World.setCell]
                                 omega, hk2, fun u hu => ?_⟩
  rw [cell_of_row _ _ 2 _ _ (0, 0) c6] at hu
  have hu : some v5 = some u := hu
  injection hu with hu
  subst hu
  exact hoff k hk1 hkg
theorem MemoOk.ext {N N' : List Nd} {l : List (Value × Value)} (h : MemoOk N l) (e : Ext N N') (w : WF N) (w' : WF N') : MemoOk N' l := by
  intro f g k u hu
  obtain ⟨r, h0, h1, h2, h3, h4, h5⟩ := h f g k u hu
  have := e.len
  refine ⟨r, h0, by omega, by omega, by omega, by omega, fun s => ?_⟩
  rw [e.ev w w' s h4, e.ev w w' s h1, e.ev w w' s h2, e.ev w w' s h3]
  exact h5 s
theorem ByOk.snoc {N : List Nd} (h2 : 2 ≤ N.length) {l : List (Value × Value)} (h : ByOk N l) (hn : (l.map (·.1)).Nodup) {x : Nd} (hnew : ∀ i, 2 ≤ i → i < N.length → nd N i ≠ x) : ByOk (N ++ [x]) (putM l (ndV x) (.int .i32 N.length)) := by
  refine ⟨fun i h2 hi => ?_, fun n u hu => ?_⟩
  · rcases Nat.lt_or_ge i N.length with hl | hl
    · rw [nd_append [x] hl, getM_put_other _ _ _ (fun e => hnew i h2 hl (ndV_inj e))]
      exact h.1 i h2 hl
    · obtain rfl : i = N.length := by simp at hi; omega
      rw [nd_last, getM_put_same _ _ _ hn]
  · by_cases hx : n = x
    · subst hx
      exact ⟨N.length, h2, by simp, nd_last _ _⟩
    · rw [getM_put_other _ _ _ (fun e => hx (ndV_inj e))] at hu
      obtain ⟨i, a, b, c⟩ := h.2 n u hu
      exact ⟨i, a, by simp; omega, (nd_append [x] b).trans c⟩
theorem Kept.of_map {A : Blks} {w w' : World} {k : Nat} (hm : k ∈ A.list) (hka : k ≠ A.a) (ha : A.a < w.heap.size) (hg : w.grownBy w' (some k)) : Kept A w w' :=
  ⟨hg.os, hg.tape, hg.output, hg.size, fun j hj => ⟨hg.block j hj.1 (fun e => hj.2.1 (by injection e with e; rw [e]; exact hm)), Nat.lt_of_lt_of_le hj.1 hg.size, hj.2.1, fun nv hnv => hj.2.2 nv (by
    rw [← hnv]
    unfold World.cell?
    rw [hg.block A.a ha (fun e => hka (by injection e with e; exact e.symm))])⟩⟩
theorem Blks.ne {A : Blks} (h : A.list.Nodup) : A.a ≠ A.b ∧ A.a ≠ A.i ∧ A.a ≠ A.g ∧ A.a ≠ A.h ∧ A.b ≠ A.i ∧ A.b ≠ A.g ∧ A.b ≠ A.h ∧ A.i ≠ A.g ∧ A.i ≠ A.h ∧ A.g ≠ A.h := by
  unfold Blks.list at h
  simp only [List.nodup_cons, List.mem_cons, List.not_mem_nil, or_false, not_or] at h
  obtain ⟨⟨a, b, c, d⟩, ⟨e, f, g⟩, ⟨i, j⟩, k, _⟩ := h
  exact ⟨a, b, c, d, e, f, g, i, j, k⟩
/-- The arena with a node more. -/
theorem ArNv.grown {w w6 w7 : World} {B : Nat} {A : Blks} {V Mo : Nat} {N : List Nd} {H G : List Nat} {g cp : Nat} {v5 : Value} (h : ArNv w B A V Mo N H G (.slice (some ⟨g, 0, none⟩) N.length cp)) {x : Nd} {l : List (Value × Value)}
    (p1 : w6.heap[A.a]? = some (.cells (arCells V Mo v5 A) 121 (0, 0))) (p2 : w6.ownsRow B 114 3 v5 (N.length + 1) (ncells N ++ ncell x))
    (p3 : ∀ k, k < w.heap.size → k ≠ g → k ≠ A.a → w6.heap[k]? = w.heap[k]?) (p4 : ∀ k, k < w.heap.size → k ≠ g → v5.ownBlock ≠ some k) (hsz : w.heap.size ≤ w6.heap.size)
    (hby : ByOk N l) (hn : (l.map (·.1)).Nodup) (hmap : MapAt Tryz.prog 114 w7 A.b (putM l (ndV x) (.int .i32 N.length))) (hg : w6.grownBy w7 (some A.b)) (wf : WF (N ++ [x])) (hle : N.length ≤ 2147483646)
    (hnew : ∀ i, 2 ≤ i → i < N.length → nd N i ≠ x) : ArNv w7 B A V Mo (N ++ [x]) H G v5 := by
  obtain ⟨n1, n2, n3, n4, n5, n6, n7, _⟩ := Blks.ne h.nodup
  obtain ⟨lb, hlb, _⟩ := h.by_
  obtain ⟨li, hli, hmo⟩ := h.ites
  have gk : ∀ k ∈ A.list, k ≠ g := fun k hk e => h.off k hk (by rw [e]; rfl)
  have s7 : ∀ k, k < w6.heap.size → k ≠ A.b → w7.heap[k]? = w6.heap[k]? := fun k hk hkb => hg.block k hk (fun e => hkb (by injection e))
  have keep : ∀ k ∈ A.list, k < w.heap.size → k ≠ A.a → k ≠ A.b → w7.heap[k]? = w.heap[k]? := fun k hk hks hka hkb => (s7 k (by omega) hkb).trans (p3 k hks (gk k hk) hka)
  have ha := lt_of_block h.cells
  refine ⟨(s7 A.a (by omega) n1).trans p1, ?_, ⟨_, hmap, ByOk.snoc h.wf.two hby hn hnew⟩, ⟨li, hli.same (keep A.i (by simp [Blks.list]) hli.lt n2.symm n5.symm), hmo.ext ⟨_, rfl⟩ h.wf wf⟩,
    h.given.same (keep A.g (by simp [Blks.list]) h.given.lt n3.symm n6.symm), h.held.same (keep A.h (by simp [Blks.list]) h.held.lt n4.symm n7.symm), h.nodup, h.base, ?_, wf, by simp; omega⟩
  · rw [ncells_snoc, List.length_append]
    refine owns_like p2 fun k hk => s7 k (p2.lt k hk).2 fun e => ?_
    exact p4 A.b hlb.lt (gk A.b (by simp [Blks.list])) (by rw [hk, e])
  · intro k hk e
    have hks : k < w.heap.size := by
      have hk' : k = A.a ∨ k = A.b ∨ k = A.i ∨ k = A.g ∨ k = A.h := by simpa [Blks.list] using hk
      have := hlb.lt
      have := hli.lt
      have := h.given.lt
      have := h.held.lt
      omega
    exact p4 k hks (gk k hk) e
def MkRes (w : World) (B : Nat) (A : Blks) (V Mo : Nat) (N : List Nd) (H G : List Nat) (v lo hi : Nat) (e : Ending) (w' : World) : Prop :=
  ∃ (r : Nat) (N' : List Nd), e = .returned (.int .i32 r) ∧ MkTo N v lo hi r N' ∧ ArAt w' B A V Mo N' H G ∧ Kept A w w'
theorem ArNv.cellAt {w : World} {B : Nat} {A : Blks} {V Mo : Nat} {N : List Nd} {H G : List Nat} {nv : Value} (h : ArNv w B A V Mo N H G nv) {j : Nat} {u : Value} (hu : (arCells V Mo nv A)[j]? = some u) : w.cell? ⟨A.a, j, none⟩ = some u := by
  rw [cell_of_row w _ j _ _ (0, 0) h.cells]; exact hu
set_option maxRecDepth 100000 in
set_option maxHeartbeats 4000000 in
theorem mk_any {w : World} {B : Nat} {A : Blks} {V Mo : Nat} {N : List Nd} {H G : List Nat} (v lo hi : Nat) (h : ArAt w B A V Mo N H G) (hlo : lo < N.length) (hhi : hi < N.length) (hv : v ≤ 256)
    (hvl : v < (nd N lo).v) (hvh : v < (nd N hi).v) (hcap : ∀ r N', MkTo N v lo hi r N' → N'.length ≤ 2147483647) :
    Calls Tryz.prog 69 #[A.val, .int .i32 v, .int .i32 lo, .int .i32 hi] w (MkRes w B A V Mo N H G v lo hi) := by
  obtain ⟨nv, hA⟩ := h
  have hle := hA.le
  by_cases heq : lo = hi
  · have h1 : ((lo : Int) == (hi : Int)) = true := by simp [heq]
    have HA := Lib.hid hA
    have HQ := Lib.hid heq
    clear hA heq hcap
    unfold Blks.val
    go_enter Tryz.func69, Tryz.ntmps69
    go_wp2
    go_ret
    exact ⟨lo, N, rfl, .inl ⟨HQ.out, rfl, rfl⟩, ⟨nv, HA.out⟩, Kept.refl _ _⟩
  · have h1 : ((lo : Int) == (hi : Int)) = false := by simp; omega
    have hv1 := hA.wf.v256 lo
    have hA1 := hA.below (below1 w (.cells #[.int .i32 v, .int .i32 lo, .int .i32 hi] 114))
    have kb := blk1 w (.cells #[.int .i32 v, .int .i32 lo, .int .i32 hi] 114)
    have hk0 := Kept.of_below (A := A) (lt_of_block hA.cells) (below1 w (.cells #[.int .i32 v, .int .i32 lo, .int .i32 hi] 114))
    have hfor : Foreign A (w.alloc (.cells #[.int .i32 v, .int .i32 lo, .int .i32 hi] 114)) w.heap.size := ⟨by simp, fun hm => by
      have hm' : w.heap.size = A.a ∨ w.heap.size = A.b ∨ w.heap.size = A.i ∨ w.heap.size = A.g ∨ w.heap.size = A.h := by simpa [Blks.list] using hm
      obtain ⟨lb, hlb, _⟩ := hA.by_
      obtain ⟨li, hli, _⟩ := hA.ites
      have := lt_of_block hA.cells
      have := hlb.lt
      have := hli.lt
      have := hA.given.lt
      have := hA.held.lt
      omega, fun u hu => by
      rw [hA1.cell2] at hu
      injection hu with hu
      subst hu
      intro hh
      have := (hA.row.lt _ hh).2
      omega⟩
    obtain ⟨kl, hkey⟩ := key_node (n := ⟨v, lo, hi⟩) (by show v ≤ _; omega) (by show lo ≤ _; omega) (by show hi ≤ _; omega)
    have HA1 := Lib.hid hA1
    have HK0 := Lib.hid hk0
    have HFO := Lib.hid hfor
    have HQ := Lib.hid heq
    have HC := Lib.hid hcap
    have HKB := Lib.hid kb
    clear hA1 hk0 hfor heq hcap kb hA
    unfold Blks.val
    go_enter Tryz.func69, Tryz.ntmps69
    go_wp2
    generalize w.alloc (.cells #[.int .i32 v, .int .i32 lo, .int .i32 hi] 114) = W1 at *
    obtain ⟨l, hl, hby⟩ := HA1.out.by_
    have hlook : ∀ d os, (Instr.lookup 116 (.map (some A.b)) (.agg #[.int .i32 v, .int .i32 lo, .int .i32 hi]) true).run Tryz.prog (grow (redrawn W1 d) os) = .ok (.tuple #[(getM l (ndV ⟨v, lo, hi⟩)).getD (.int .i32 0), .bool (getM l (ndV ⟨v, lo, hi⟩)).isSome]) (grow (redrawn W1 d) os) := fun d os =>
      (hl.same ((below_regrown W1 d os).block _ hl.lt)).look node_keyed Tryz.underlying116 (zero_i32 _) true hkey
    have c3 : W1.cell? ⟨A.a, 3, none⟩ = some (.map (some A.b)) := HA1.out.cellAt rfl
    obtain ⟨n0, n1, n2⟩ : W1.cell? ⟨w.heap.size, 0, none⟩ = some (.int .i32 v) ∧ W1.cell? ⟨w.heap.size, 1, none⟩ = some (.int .i32 lo) ∧ W1.cell? ⟨w.heap.size, 2, none⟩ = some (.int .i32 hi) :=
      ⟨by rw [cell_of_row W1 _ 0 _ _ (0, 0) HKB.out]; rfl, by rw [cell_of_row W1 _ 1 _ _ (0, 0) HKB.out]; rfl, by rw [cell_of_row W1 _ 2 _ _ (0, 0) HKB.out]; rfl⟩
    have C3 := cell_regrown c3
    have N0 := cell_regrown n0
    have N1 := cell_regrown n1
    have N2 := cell_regrown n2
    cases hgm : getM l (ndV ⟨v, lo, hi⟩) with
    | some u =>
      obtain ⟨i, hi2, hiN, hin⟩ := hby.2 _ _ hgm
      have hu := hby.1 i hi2 hiN
      rw [hin, hgm] at hu
      injection hu with hu
      subst hu
      rw [hgm] at hlook
      have hlook : ∀ d os, (Instr.lookup 116 (.map (some A.b)) (.agg #[.int .i32 v, .int .i32 lo, .int .i32 hi]) true).run Tryz.prog (grow (redrawn W1 d) os) = .ok (.tuple #[.int .i32 i, .bool true]) (grow (redrawn W1 d) os) := hlook
      have HIN := Lib.hid hin
      clear hby hgm hl hin
      refine wp_region_quiet_below (by kernel_rfl) (by kernel_rfl) ?_
      repeat (first | go_big_quiet_step (fail) | quiet_step (fail))
      refine wpQuiet_nil ?_
      intro _ hw'
      obtain ⟨⟨nq, osq⟩, hw''⟩ := hw'
      subst hw''
      have hq := below_regrown W1 nq osq
      have HR := Lib.hid (HA1.out.below hq)
      have HK := Lib.hid (HK0.out.trans (Kept.of_below (A := A) (lt_of_block HA1.out.cells) hq))
      clear hlook C3 N0 N1 N2 c3 n0 n1 n2 hq
      generalize grow (redrawn W1 nq) osq = W2 at *
      go_wp2
      go_ret
      exact ⟨i, N, rfl, .inr (.inl ⟨HQ.out, hi2, hiN, HIN.out, rfl⟩), ⟨nv, HR.out⟩, HK.out⟩
    | none =>
      rw [hgm] at hlook
      have hlook : ∀ d os, (Instr.lookup 116 (.map (some A.b)) (.agg #[.int .i32 v, .int .i32 lo, .int .i32 hi]) true).run Tryz.prog (grow (redrawn W1 d) os) = .ok (.tuple #[.int .i32 0, .bool false]) (grow (redrawn W1 d) os) := hlook
      have HGM := Lib.hid hgm
      have HBY := Lib.hid hby
      clear hby hgm hl
      refine wp_region_quiet_below (by kernel_rfl) (by kernel_rfl) ?_
      repeat (first | go_big_quiet_step (fail) | quiet_step (fail))
      refine wpQuiet_nil ?_
      intro _ hw'
      obtain ⟨⟨nq, osq⟩, hw''⟩ := hw'
      subst hw''
      have hq := below_regrown W1 nq osq
      have hA2 := HA1.out.below hq
      have hKB2 := blk_below hq HKB.out
      have hK2 := HK0.out.trans (Kept.of_below (A := A) (lt_of_block HA1.out.cells) hq)
      have hfo2 := (Kept.of_below (A := A) (lt_of_block HA1.out.cells) hq).same _ HFO.out
      clear hlook C3 N0 N1 N2 c3 n0 n1 n2 hq HA1 HKB HK0 HFO
      generalize grow (redrawn W1 nq) osq = W2 at *
      have hN2 := hA2.wf.two
      obtain ⟨A3, cp, rfl, hA3⟩ := owns_form hA2.row
      obtain ⟨g, rfl⟩ := hA3 (by omega)
      have c2 : W2.cell? ⟨A.a, 2, none⟩ = some (.slice (some ⟨g, 0, none⟩) N.length cp) := hA2.cellAt rfl
      obtain ⟨n0, n1, n2⟩ : W2.cell? ⟨w.heap.size, 0, none⟩ = some (.int .i32 v) ∧ W2.cell? ⟨w.heap.size, 1, none⟩ = some (.int .i32 lo) ∧ W2.cell? ⟨w.heap.size, 2, none⟩ = some (.int .i32 hi) :=
        ⟨by rw [cell_of_row W2 _ 0 _ _ (0, 0) hKB2]; rfl, by rw [cell_of_row W2 _ 1 _ _ (0, 0) hKB2]; rfl, by rw [cell_of_row W2 _ 2 _ _ (0, 0) hKB2]; rfl⟩
      have HR := Lib.hid hA2
      have HKB := Lib.hid hKB2
      have HK := Lib.hid hK2
      have HFO := Lib.hid hfo2.2
      have hlen : N.length ≤ 2147483646 := by
        have hnew : ∀ i, 2 ≤ i → i < N.length → nd N i ≠ ⟨v, lo, hi⟩ := fun i h2 hi hh => by
          have h1 := HBY.out.1 i h2 hi
          rw [hh, HGM.out] at h1
          cases h1
        have := HC.out N.length (N ++ [⟨v, lo, hi⟩]) (.inr (.inr ⟨HQ.out, hnew, rfl, rfl⟩))
        simp at this
        omega
      clear hA2 hKB2 hK2 hfo2 hA3
      go_upto_region 7 with fail
      have hg0 := (HR.out.row.lt g rfl).2
      have hgA : g ≠ A.a := fun e => HR.out.off A.a (by simp [Blks.list]) (by rw [e]; rfl)
      have hgn : g ≠ w.heap.size := fun e => HFO.out.2.2 _ c2 (by rw [e]; rfl)
      have hAn : A.a ≠ w.heap.size := fun e => HFO.out.2.1 (by rw [← e]; simp [Blks.list])
      have hAs := lt_of_block HR.out.cells
      have hns := HFO.out.1
      obtain ⟨i0, hif, hz0, hz1, hz2⟩ := info_parts Tryz.infoNode
      have hBs : B ≤ W2.heap.size := by have := HR.out.base A.a (by simp [Blks.list]); omega
      have hRd : ArNv W2.drew B A V Mo N H G (.slice (some ⟨g, 0, none⟩) N.length cp) := HR.out.below ⟨rfl, rfl, rfl, Nat.le_refl _, fun _ _ => rfl⟩
      have HRd := Lib.hid hRd
      clear hRd
      go_region_law ((
        refine step_append_moved rfl (.tmp 41) (.tmp 43) 115 rfl 114 i0 _ 3 12 Tryz.underlying115 hif hz0 hz1 hz2 rfl (by decide) (by decide) (w0 := W2.drew) HRd.out.row (ncell ⟨v, lo, hi⟩) rfl (ncell_one _) (by omega) hBs rfl rfl ?_
        intro v5 w5 hown5 hgr5 hmv5
        obtain ⟨p1, p2, p3, p4, p5, hf5, hc5, p7⟩ := HRd.out.pushed hown5 hgr5 hmv5
        obtain ⟨Ax, cx, hv5, _⟩ := owns_form hown5
        subst hv5
        have P1 := Lib.hid p1
        have P2 := Lib.hid p2
        have P3 := Lib.hid p3
        have P4 := Lib.hid p4
        have P5 := Lib.hid p5
        clear hown5 hgr5 hmv5 p1 p2 p3 p4 p5))
      all_goals
        generalize w5.setCell ⟨A.a, 2, none⟩ (.slice Ax (N.length + 1) cx) = W6 at *
        obtain ⟨l2, hl2, hby2⟩ := HRd.out.by_
        have hnd2 : (l2.map (·.1)).Nodup := by obtain ⟨_, _, _, _, _, h4⟩ := hl2; exact h4
        have hnew : ∀ i, 2 ≤ i → i < N.length → nd N i ≠ ⟨v, lo, hi⟩ := fun i h2 hi hh => by
          have h1 := HBY.out.1 i h2 hi
          rw [hh, HGM.out] at h1
          cases h1
        have hbg : A.b ≠ g := fun e => HRd.out.off A.b (by simp [Blks.list]) (by rw [e]; rfl)
        have hba : A.b ≠ A.a := (Blks.ne HRd.out.nodup).1.symm
        have hl6 : MapAt Tryz.prog 114 W6 A.b l2 := hl2.same (P3.out A.b hl2.lt hbg hba)
        have c3 : W6.cell? ⟨A.a, 3, none⟩ = some (.map (some A.b)) := by rw [cell_of_row W6 _ 3 _ _ (0, 0) P1.out]; rfl
        have kb6 := (P3.out w.heap.size (show w.heap.size < W2.heap.size from hns) hgn.symm hAn.symm).trans HKB.out
        obtain ⟨m0, m1, m2⟩ : W6.cell? ⟨w.heap.size, 0, none⟩ = some (.int .i32 v) ∧ W6.cell? ⟨w.heap.size, 1, none⟩ = some (.int .i32 lo) ∧ W6.cell? ⟨w.heap.size, 2, none⟩ = some (.int .i32 hi) :=
          ⟨by rw [cell_of_row W6 _ 0 _ _ (0, 0) kb6]; rfl, by rw [cell_of_row W6 _ 1 _ _ (0, 0) kb6]; rfl, by rw [cell_of_row W6 _ 2 _ _ (0, 0) kb6]; rfl⟩
        have HL6 := Lib.hid hl6
        have HBY2 := Lib.hid hby2
        have HND2 := Lib.hid hnd2
        have HNEW := Lib.hid hnew
        clear hl2 hby2 hnd2 hnew hl6 kb6 hc5 hf5 hlook n0 n1 n2 c2
        go_wp2
        go_still_tail 6, (by kernel_rfl)
        change wpList _ _ _ _ _ W6.drew
        refine wpList_mapAt rfl _ _ _ 116 21 rfl node_keyed Tryz.underlying116 rfl (show MapAt _ _ W6.drew _ _ from HL6.out) (.agg #[.int .i32 v, .int .i32 lo, .int .i32 hi]) (.int .i32 N.length) kl rfl rfl hkey ?_
        intro w7 hm7 hg7
        have hg7' : W6.grownBy w7 (some A.b) := ⟨hg7.os, hg7.tape, hg7.output, hg7.size, hg7.block⟩
        have hwf := HRd.out.wf.snoc (x := ⟨v, lo, hi⟩) hlo hhi HQ.out hvl hvh HNEW.out
        have hfin := HRd.out.grown P1.out P2.out P3.out P4.out P5.out.size HBY2.out HND2.out hm7 hg7' hwf hlen HNEW.out
        have hkd : Kept A W2 W2.drew := Kept.of_below hAs ⟨rfl, rfl, rfl, Nat.le_refl _, fun _ _ => rfl⟩
        have ha6 : A.a < W6.heap.size := lt_of_block P1.out
        have hkept := HK.out.trans (hkd.trans (P5.out.trans (Kept.of_map (k := A.b) (by simp [Blks.list]) hba ha6 hg7')))
        have HFIN := Lib.hid hfin
        have HKEPT := Lib.hid hkept
        clear hfin hkept hkd hm7 hg7 hg7' hwf
        go_wp2
        go_ret
        exact ⟨N.length, N ++ [⟨v, lo, hi⟩], rfl, .inr (.inr ⟨HQ.out, HNEW.out, rfl, rfl⟩), ⟨_, HFIN.out⟩, HKEPT.out⟩
end Go.Proofs.YthhcaoljejifeaaGreat

/-
  A region that draws its order, with a head whose operations are quiet in a class of worlds and a tail in one forced order: no program in sight.
-/
namespace Go.Proofs.YthhcaoljejifeaaGreat
open Go Go.Sort

section
variable {P : Program} {ops : Array Oper} {md : Region.Mode} {C : World → Prop}
/-- The head, in whatever order, up to L. -/
def headQ (P : Program) (md : Region.Mode) (ops : Array Oper) (C : World → Prop) (n : Nat) (L : Array Bool → Act → Prop) : Nat → Array Bool → Act → Prop
  | 0, listed, a => L listed a
  | f + 1, listed, a => Region.ready md ops listed ≠ [] ∧ ∀ i, i ∈ Region.ready md ops listed → i < n ∧ qOp P ops C i (headQ P md ops C n L f (listed.setIfInBounds i true)) a
theorem any_of_headQ {n g : Nat} {L : Array Bool → Act → Prop} {K : Exit → Act → World → Prop} (hL : ∀ listed a w, C w → L listed a → wpAny P md ops K g listed a w) :
    ∀ (f : Nat) (listed : Array Bool) (a : Act) (w : World), C w → headQ P md ops C n L f listed a → wpAny P md ops K (f + g) listed a w
  | 0, listed, a, w, hw, h => by rw [Nat.zero_add]; exact hL _ _ _ hw h
  | f + 1, listed, a, w, hw, h => by
    have e : f + 1 + g = (f + g) + 1 := by omega
    rw [e]
    refine ⟨fun hn => absurd hn h.1, fun i hi => wpOp_of_qOp hw (fun a' w' hw' h' => any_of_headQ hL f _ a' w' hw' h') (h.2 i hi).2⟩
/-- An operation of the head that is ready may be taken first. -/
theorem headQ_first {n i : Nat} {oi : Oper} {v : Value} {L : Array Bool → Act → Prop} (hi : ops[i]? = some oi) (hsel : ∀ (j : Nat) (o : Oper) cs b, ops[j]? = some o → o.op ≠ .select cs b)
    (hs : Region.sinkB md ops n = true) (hc : Region.chainB md ops n = true) (hn : n < ops.size) (hin : i < n) (hend : ∀ listed a, L listed a → ∀ j ∈ Region.ready md ops listed, n ≤ j)
    (f : Nat) : ∀ (listed : Array Bool) (a : Act), HeadInv md ops n listed →
      (∀ j oj, ops[j]? = some oj → j ≠ i → listed.getD j true = false → (∀ e ∈ oj.after, Region.binds md e = true → e.on ≠ i) → oi.apart ops oj = true) →
      i ∈ Region.ready md ops listed → YieldsIn P ops C oi v a → headQ P md ops C n L f (listed.setIfInBounds i true) (a.put oi.dst v) → headQ P md ops C n L (f + 1) listed a := by
  induction f with
  | zero =>
    intro listed a inv _ hr hy H
    have hlow : ∀ j ∈ Region.ready md ops listed, j < n := fun j hj => (Nat.lt_or_ge j n).elim id fun h => absurd hj (tail_waits hs hc hn inv _ i rfl hin (mem_ready.1 hr).1 j h)
    refine ⟨fun h => (by rw [h] at hr; cases hr), fun j hj => ⟨hlow j hj, ?_⟩⟩
    by_cases hji : j = i
    · subst hji
      exact hy.qOp hi H
    · have h1 := hend _ _ H j (ready_mono hj hji)
      have h2 := hlow j hj
      omega
  | succ f ih =>
    intro listed a inv hfree hr hy H
    have hun := (mem_ready.1 hr).1
    have hlow : ∀ j ∈ Region.ready md ops listed, j < n := fun j hj => (Nat.lt_or_ge j n).elim id fun h => absurd hj (tail_waits hs hc hn inv _ i rfl hin hun j h)
    refine ⟨fun h => (by rw [h] at hr; cases hr), fun j hj => ⟨hlow j hj, ?_⟩⟩
    by_cases hji : j = i
    · subst hji
      exact hy.qOp hi H
    · obtain ⟨hjun, oj, hoj, hall⟩ := mem_ready.1 hj
      have hnot : ∀ e ∈ oj.after, Region.binds md e = true → e.on ≠ i := by
        intro e he hb heq
        have h1 := hall e he hb
        rw [heq, getD_both hun] at h1
        cases h1
      have hput := qOp_put hoj (hfree j oj hoj hji hjun hnot) (fun cs b => hsel i oi cs b hi) (fun cs b => hsel j oj cs b hoj) hy (H.2 j (ready_mono hj hji)).2
      refine qOp_mono (fun a' h3 => ih (listed.setIfInBounds j true) a' (inv.set hj (hlow j hj)) ?_ (ready_mono hr (Ne.symm hji)) h3.1 ?_) hput
      · intro k ok hk hki hku hno
        refine hfree k ok hk hki ?_ hno
        by_cases hjk : j = k
        · subst hjk; exact hjun
        · rw [getD_set_ne true hjk] at hku; exact hku
      · rw [Array.setIfInBounds_comm _ _ hji]
        exact h3.2
theorem headQ_lex {n g : Nat} {Lq : Act → Prop} (hsel : Region.noSelect ops = true) (hs : Region.sinkB md ops n = true) (hc : Region.chainB md ops n = true) (hn : n < ops.size) :
    ∀ (l : List Oper) (k : Nat) (listed : Array Bool) (a : Act), (∀ j, j < l.length → l[j]? = ops[k + j]?) → k + l.length = n → HeadInv md ops n listed →
    Region.lexHead md ops g l.length k listed = true → wpQuiet P ops C Lq l a →
    headQ P md ops C n (fun listed' a' => Region.seqB md ops g n listed' = true ∧ Lq a') l.length listed a := by
  intro l
  induction l with
  | nil =>
    intro k listed a _ hk _ hB h
    obtain rfl : k = n := by simpa using hk
    exact ⟨by simpa [Region.lexHead] using hB, h⟩
  | cons o l ih =>
    intro k listed a hl hk inv hB h
    have h0 : ops[k]? = some o := by simpa using (hl 0 (by simp)).symm
    simp only [List.length_cons, Region.lexHead, Bool.and_eq_true] at hB
    obtain ⟨⟨hr, hf⟩, hB'⟩ := hB
    have hkn : k < n := by simp only [List.length_cons] at hk; omega
    have hr' : k ∈ Region.ready md ops listed := by simpa using hr
    obtain ⟨v, hy, hK⟩ := yieldsIn_of_qOp (C := C) (P := P) (K := wpQuiet P ops C Lq l) h0 (by unfold qOp; simp only [h0]; exact h)
    refine headQ_first h0 (Region.noSelect_spec hsel) hs hc hn hkn (fun listed' a' hL => seqB_ready hL.1) l.length listed a inv (Region.free_spec h0 hf) hr' hy (ih (k + 1) _ _ (fun j hj => ?_) (by simp only [List.length_cons] at hk; omega) (inv.set hr' hkn) hB' hK)
    have h1 := hl (j + 1) (by simp; omega)
    simpa [Nat.add_assoc, Nat.add_comm 1 j] using h1
/-- A head that is quiet in the class, then the tail in its order, in any world of the class. -/
theorem wp_region_quiet_tail {id : Nat} {Q : Exit → Act → World → Prop} {a : Act} {w : World} {l : List Oper} (n : Nat) (hm : P.follows .mixedOrders = true) (hB : Region.lexTailB .any l.toArray n = true) (hC : C { w with drawn := w.drawn + 1 })
    (h : wpQuiet P l.toArray C (fun a' => ∀ w', C w' → wpList P l.toArray Q (l.drop n) a' w') (l.take n) a) : (Code.region id l.toArray true).wp P Q a w := by
  simp only [Region.lexTailB, Bool.and_eq_true, decide_eq_true_eq] at hB
  obtain ⟨⟨⟨⟨hsel, hn⟩, hs⟩, hc⟩, hlex⟩ := hB
  have hn' : n < l.length := by simpa using hn
  have htl : (l.take n).length = n := by simp; omega
  have hdl : (l.drop n).length = l.toArray.size - n := by simp
  have inv0 : HeadInv .any l.toArray n (Array.replicate l.toArray.size false) :=
    ⟨by simp, fun j oj _ hl => (by rw [getD_replicate_false] at hl; cases hl), fun t _ ht => getD_in (by simpa using ht) (getD_replicate_false _ _)⟩
  have H := headQ_lex (C := C) (P := P) (md := .any) (g := l.toArray.size - n) hsel hs hc hn (l.take n) 0 (Array.replicate l.toArray.size false) a (fun j hj => by
    have hj' : j < n := by rw [htl] at hj; exact hj
    simp [hj']) (by simpa using htl) inv0 (by rw [htl]; exact hlex) h
  refine wp_region_any hm ?_
  have H2 := any_of_headQ (K := Q) (g := l.toArray.size - n) (fun listed a' w' hw' hL => by
    have h2 := wpAny_of_seq (P := P) (Q' := Q) (l.drop n) n listed a' w' (fun j => by simp) (by rw [hdl]; exact hL.1) (hL.2 w' hw')
    rw [hdl] at h2
    exact h2) (l.take n).length (Array.replicate l.toArray.size false) a { w with drawn := w.drawn + 1 } hC H
  have e : (l.take n).length + (l.toArray.size - n) = l.toArray.size := by rw [htl]; simp; omega
  rw [e] at H2
  exact H2
/-- The same at the class of the worlds that are drawn and grown. -/
theorem wp_region_tail_below {id : Nat} {Q : Exit → Act → World → Prop} {a : Act} {w : World} {l : List Oper} (n : Nat) (hm : P.follows .mixedOrders = true) (hB : Region.lexTailB .any l.toArray n = true)
    (h : wpQuiet P l.toArray (fun w' => ∃ p : Regrown, w' = grow (redrawn w p.d) p.os) (fun a' => ∀ w', (∃ p : Regrown, w' = grow (redrawn w p.d) p.os) → wpList P l.toArray Q (l.drop n) a' w') (l.take n) a) : (Code.region id l.toArray true).wp P Q a w :=
  wp_region_quiet_tail (C := fun w' => ∃ p : Regrown, w' = grow (redrawn w p.d) p.os) n hm hB ⟨⟨w.drawn + 1, #[]⟩, by rw [grow_empty]; rfl⟩ h
end
end Go.Proofs.YthhcaoljejifeaaGreat

/-
  A region that draws its order, walked in the order of the text: plain operations, each of which may be taken first, and barriers, each of which comes up alone: no program in sight.
-/
namespace Go.Proofs.YthhcaoljejifeaaGreat
open Go Go.RowKit Go.Sort

section
variable {P : Program} {ops : Array Oper} {md : Region.Mode} {S : World → Prop} {Q : Exit → Act → World → Prop}
/-- An operation that hands back a value, or stops. -/
def plainB : Op → Bool
  | .nilCheck _ => true
  | .call c => (match c.callee with | .builtin .min => true | _ => false)
  | .move _ | .assign _ | .pick _ _ _ | .load _ _ | .fieldAddr _ _ _ | .indexAddr _ _ _ | .binOp _ _ _ _ _ | .unOp _ _ _ | .convert _ _ _ | .build _ _ | .extract _ _ => true
  | _ => false
theorem then_value {α : Type} {r : Result α} {f : α → Value} {n : Go.Next} {w' : World} (h : (r.andThen fun x v => .ok (Go.Next.value (f x)) v) = .ok n w') : ∃ v, n = .value v := by
  cases r with
  | ok x v => simp only [Result.andThen_ok] at h; injection h with h _; exact ⟨_, h.symm⟩
  | halt x v => cases h
theorem nil_value {ρ : Operand → Value} {x : Operand} {w w' : World} {n : Go.Next} {d : Option Tmp} {ty : TypeId} {po : String} {af : Array Edge} {gu : Option (Nat × Bool)} (hr : (execOp ρ ⟨d, .nilCheck x, ty, po, af, gu⟩).run P w = .ok n w') : ∃ v, n = .value v := by
  simp only [execOp] at hr
  have bnd : ∀ {α β : Type} (m : Sem α) (f : α → Sem β) (w0 w1 : World) (y : β), (m >>= f).run P w0 = .ok y w1 → ∃ x w2, (f x).run P w2 = .ok y w1 := fun m f w0 w1 y h => by
    rw [Sem.run_bind] at h
    cases hm : m.run P w0 with
    | ok x w2 => rw [hm] at h; exact ⟨x, w2, h⟩
    | halt a b => rw [hm] at h; cases h
  have pan : ((runtimePanic .nilDeref : Sem Go.Next).run P w = .ok n w') → ∃ v, n = .value v := fun he => by
    unfold runtimePanic at he
    obtain ⟨x, w2, h2⟩ := bnd _ _ _ _ _ he
    have h3 : (goPanic (α := Go.Next) (Value.iface x.rt.errorString (strVal "invalid memory address or nil pointer dereference"))).run P w2 = .ok n w' := h2
    cases h3
  split at hr
  · exact pan hr
  · exact pan hr
  · exact pan hr
  · split at hr
    · exact pan hr
    · obtain ⟨x1, w1, h1⟩ := bnd _ _ _ _ _ hr
      obtain ⟨x2, w2, h2⟩ := bnd _ _ _ _ _ h1
      split at h2
      · obtain ⟨x3, w3, h3⟩ := bnd _ _ _ _ _ h2
        simp only [Sem.run_pure] at h3
        injection h3 with h3 _
        exact ⟨_, h3.symm⟩
      · simp only [Sem.run_pure] at h2
        injection h2 with h2 _
        exact ⟨_, h2.symm⟩
    · simp only [Sem.run_pure] at hr
      injection hr with hr _
      exact ⟨_, hr.symm⟩
  · simp only [Sem.run_pure] at hr
    injection hr with hr _
    exact ⟨_, hr.symm⟩
theorem min_value {ρ : Operand → Value} {c : Call} (hc : c.callee = .builtin .min) {w w' : World} {n : Go.Next} {d : Option Tmp} {ty : TypeId} {po : String} {af : Array Edge} {gu : Option (Nat × Bool)} (hr : (execOp ρ ⟨d, .call c, ty, po, af, gu⟩).run P w = .ok n w') : ∃ v, n = .value v := by
  simp only [execOp, resolve, hc, invoke, builtin, Sem.run_bind, Sem.run_pure, Result.andThen_ok] at hr
  exact then_value hr
theorem plain_value {o : Oper} (h : plainB o.op = true) {ρ : Operand → Value} {w w' : World} {n : Go.Next} (hr : (execOp ρ o).run P w = .ok n w') : ∃ v, n = .value v := by
  obtain ⟨dst, op, type, pos, after, guard⟩ := o
  cases op <;> simp only [plainB] at h
  all_goals first
    | (cases h; done)
    | (exact nil_value hr)
    | (split at h
       · rename_i hc
         exact min_value hc hr
       · cases h)
    | (simp only [execOp, Sem.run_bind, Sem.run_pure] at hr; first | exact then_value (f := fun x => x) hr | exact then_value hr | (injection hr with hr _; exact ⟨_, hr.symm⟩))
theorem yields_quiet {o : Oper} {a : Act} {K : Act → Prop} (h : plainB o.op = true) (hq : o.quiet P a S K) : ∃ v, (∀ w, S w → (execOp a.eval o).run P w = .ok (.value v) w) ∧ K (a.put o.dst v) := by
  obtain ⟨v, h1, h2⟩ := hq
  refine ⟨v, fun w hw => ?_, h2⟩
  have h3 := h1 w hw
  unfold Oper.quietAt at h3
  generalize hr : (execOp a.eval o).run P w = r at h3
  cases r with
  | ok n w' =>
    obtain ⟨u, rfl⟩ := plain_value h hr
    simp only [Oper.quietUpon] at h3
    rw [h3.1, h3.2]
  | halt x w' => simp only [Oper.quietUpon] at h3
/-- The region's edges bear this walk: a plain operation may be taken first, a barrier comes up alone. -/
def mixB (md : Region.Mode) (ops : Array Oper) : List (Nat × Bool) → Array Bool → Bool
  | [], listed => (Region.ready md ops listed).isEmpty
  | (k, false) :: m, listed => (Region.ready md ops listed).contains k && Region.free md ops listed k && (match ops[k]? with | some o => plainB o.op | none => false) && mixB md ops m (listed.setIfInBounds k true)
  | (k, true) :: m, listed => decide (Region.ready md ops listed = [k]) && mixB md ops m (listed.setIfInBounds k true)
/-- The walk; behind a barrier the class of worlds may be made narrower. -/
def mixW (P : Program) (ops : Array Oper) (Q : Exit → Act → World → Prop) : List (Nat × Bool) → (World → Prop) → Act → World → Prop
  | [], _, a, w => Q .normal a w
  | (k, false) :: m, S, a, w => ∃ o, ops[k]? = some o ∧ if Region.wanted o (yielded ops a.tmps) then o.quiet P a S (fun a' => mixW P ops Q m S a' w) else mixW P ops Q m S (a.put o.dst undef) w
  | (k, true) :: m, S, a, w => ∃ o, ops[k]? = some o ∧ if Region.wanted o (yielded ops a.tmps) then o.wp P a w (fun a' w' => ∃ S' : World → Prop, S' w' ∧ (∀ v, S' v → S v) ∧ mixW P ops Q m S' a' w') Q else mixW P ops Q m S (a.put o.dst undef) w
theorem wpAnyH_class {S S' : World → Prop} (h : ∀ v, S' v → S v) : ∀ (fuel : Nat) (listed : Array Bool) (a : Act) (w : World), wpAnyH P md ops Q S' fuel listed a w → wpAnyH P md ops Q S fuel listed a w
  | 0, _, _, _, hh => hh
  | f + 1, _, _, _, hh => ⟨hh.1, fun i hi => wpOp_mono (fun a' w' hk => ⟨h _ hk.1, wpAnyH_class h f _ a' w' hk.2⟩) (hh.2 i hi)⟩
theorem mix_sound (hs : Region.noSelect ops = true) (hQ : ∀ d v c a w, Q (.panic c) (Act.put a d v) w → Q (.panic c) a w) :
    ∀ (m : List (Nat × Bool)) (S : World → Prop) (listed : Array Bool) (a : Act) (w : World), mixB md ops m listed = true → S w → mixW P ops Q m S a w → wpAnyH P md ops Q S m.length listed a w := by
  intro m
  induction m with
  | nil =>
    intro S listed a w hB _ h
    exact ⟨by simpa [mixB] using hB, h⟩
  | cons b m ih =>
    intro S listed a w hB hS h
    obtain ⟨k, b⟩ := b
    cases b with
    | false =>
      simp only [mixW] at h
      obtain ⟨o, h0, h⟩ := h
      simp only [mixB, Bool.and_eq_true, h0] at hB
      obtain ⟨⟨⟨hr, hf⟩, hp⟩, hB'⟩ := hB
      by_cases hw : Region.wanted o (yielded ops a.tmps) = true
      · rw [if_pos hw] at h
        obtain ⟨v, hv, hK⟩ := yields_quiet hp h
        exact wpAnyH_take h0 hs hf hr (fun c a w => hQ o.dst v c a w) (.inl ⟨hw, hv⟩) hS (ih S _ _ w hB' hS hK)
      · rw [if_neg hw] at h
        exact wpAnyH_take h0 hs hf hr (fun c a w => hQ o.dst undef c a w) (.inr ⟨by simpa using hw, rfl⟩) hS (ih S _ _ w hB' hS h)
    | true =>
      simp only [mixW] at h
      obtain ⟨o, h0, h⟩ := h
      simp only [mixB, Bool.and_eq_true, decide_eq_true_eq] at hB
      obtain ⟨hr, hB'⟩ := hB
      refine wpAnyH_all hr (by simp) fun i hi => ?_
      obtain rfl : i = k := by simpa using hi
      unfold wpOp
      simp only [h0]
      by_cases hw : Region.wanted o (yielded ops a.tmps) = true
      · rw [if_pos hw] at h ⊢
        refine .inl (Oper.wp_mono (fun a' w' hh => ?_) h)
        obtain ⟨S', h1, h2, h3⟩ := hh
        exact ⟨h2 _ h1, wpAnyH_class h2 _ _ _ _ (ih S' _ a' w' hB' h1 h3)⟩
      · rw [if_neg hw] at h ⊢
        exact ⟨hS, ih S _ _ w hB' hS h⟩
/-- Some plain operations in a row, as a quiet walk. -/
theorem mix_seg {m : List (Nat × Bool)} : ∀ (ks : List Nat) (seg : List Oper) (a : Act) (w : World), ks.map (fun k => ops[k]?) = seg.map some → wpQuiet P ops S (fun a' => mixW P ops Q m S a' w) seg a → mixW P ops Q (ks.map (fun k => (k, false)) ++ m) S a w
  | [], [], _, _, _, h => h
  | [], _ :: _, _, _, hk, _ => by cases hk
  | _ :: _, [], _, _, hk, _ => by cases hk
  | k :: ks, o :: seg, a, w, hk, h => by
    simp only [List.map_cons] at hk
    injection hk with hk1 hk2
    have h' : (if Region.wanted o (yielded ops a.tmps) then o.quiet P a S (wpQuiet P ops S (fun a' => mixW P ops Q m S a' w) seg) else wpQuiet P ops S (fun a' => mixW P ops Q m S a' w) seg (a.put o.dst undef)) := h
    show ∃ o, ops[k]? = some o ∧ (if Region.wanted o (yielded ops a.tmps) then o.quiet P a S (fun a' => mixW P ops Q (ks.map (fun k => (k, false)) ++ m) S a' w) else mixW P ops Q (ks.map (fun k => (k, false)) ++ m) S (a.put o.dst undef) w)
    refine ⟨o, hk1, ?_⟩
    split
    · rename_i hw
      rw [if_pos hw] at h'
      exact Oper.quiet_mono (fun a' hh => mix_seg ks seg a' w hk2 hh) h'
    · rename_i hw
      rw [if_neg hw] at h'
      exact mix_seg ks seg _ w hk2 h'
def mixOk (l : List Oper) (m : List (Nat × Bool)) : Bool := Region.noSelect l.toArray && decide (m.length = l.length) && mixB .any l.toArray m (Array.replicate l.length false)
/-- The worlds that are W, drawn and grown. -/
@[reducible] def ClassOf (W : World) : World → Prop := fun w' => ∃ p : Regrown, w' = grow (redrawn W p.d) p.os
theorem wp_region_mix {id : Nat} {a : Act} {w : World} {l : List Oper} (m : List (Nat × Bool)) (hm : P.follows .mixedOrders = true) (hB : mixOk l m = true)
    (h : mixW P l.toArray (NoPanic Q) m (fun w' => ∃ p : Regrown, w' = grow (redrawn w p.d) p.os) a { w with drawn := w.drawn + 1 }) : (Code.region id l.toArray true).wp P Q a w := by
  simp only [mixOk, Bool.and_eq_true, decide_eq_true_eq] at hB
  obtain ⟨⟨hs, hlen⟩, hmix⟩ := hB
  refine wp_region_noPanic (wp_region_held (S := fun w' => ∃ p : Regrown, w' = grow (redrawn w p.d) p.os) hm ?_)
  have H := mix_sound (md := .any) hs (fun d v c a w hh => hh) m _ (Array.replicate l.length false) a { w with drawn := w.drawn + 1 } hmix ⟨⟨w.drawn + 1, #[]⟩, by rw [grow_empty]; rfl⟩ h
  rw [hlen] at H
  simpa using H
theorem mix_take {m m' : List (Nat × Bool)} {a : Act} {w : World} (ks : List Nat) (seg : List Oper) (hm : m = ks.map (fun k => (k, false)) ++ m') (hs : ks.map (fun k => ops[k]?) = seg.map some) (h : wpQuiet P ops S (fun a' => mixW P ops Q m' S a' w) seg a) : mixW P ops Q m S a w := by
  rw [hm]
  exact mix_seg ks seg a w hs h
/-- A barrier; the class as it is. -/
theorem mix_bar {m : List (Nat × Bool)} {k : Nat} {o : Oper} {a : Act} {w : World} (ho : ops[k]? = some o) (hw : Region.wanted o (yielded ops a.tmps) = true) (h : o.wp P a w (fun a' w' => S w' ∧ mixW P ops Q m S a' w') Q) : mixW P ops Q ((k, true) :: m) S a w := by
  simp only [mixW]
  refine ⟨o, ho, ?_⟩
  rw [if_pos hw]
  exact Oper.wp_mono (fun a' w' hh => ⟨S, hh.1, fun _ h => h, hh.2⟩) h
theorem mix_end {a : Act} {w : World} (h : Q .normal a w) : mixW P ops (NoPanic Q) [] S a w := h
theorem below_drawn (w : World) : Below w.heap.size w { w with drawn := w.drawn + 1 } := ⟨rfl, rfl, rfl, Nat.le_refl _, fun _ _ => rfl⟩
end
end Go.Proofs.YthhcaoljejifeaaGreat

/-
  Joined texts: Lift, Kit, Kit2, Kit3, Kit4, RowS, Kit5, Math, A1, Bits, Addr, Addr2, Filt.
-/
import Derived.Test.YtbahehmfhjkgeaaGreatRows
import Derived.WalkKit
import Derived.ProofKit
import Derived.OpenShut
import Derived.SizedLaws
import Derived.WalkSpells
import Derived.WalkLawsBesides
import Derived.BigQuiet
import Derived.Lib.Hide
import Derived.Lib.QuietBelow
import Derived.Deep.QuietTactic
import Derived.Lib.SlBy
import Derived.Laws.OwnMore
import Derived.ArgAppend
import Derived.Laws.CopyOwn
import Derived.Laws.AppendOwnNone
import Derived.Deep.RegionLawGrows
import Derived.Below
import Derived.Test.YtbahehmfhjkgeaaGreatProg
import Derived.Test.YtbahehmfhjkgeaaGreatShelf
/-
  The last step of every law of this seat: the call answered true and turned nothing that was there.
-/
namespace Go.Proofs.YtbahehmfhjkgeaaGreat
open Go Go.ChangeShapes Go.WideShapes Go.ChangeAt Go.RowKit

theorem own : ownKnob Tryz.prog.godebug = none := by kernel_rfl
theorem laidOut : laidOutB Tryz.prog = true := by kernel_rfl

theorem args_below {H : Type} {enc : TypeId × Value → H} {P : Program} (hl : laidOutB P = true) {W W' : World} (hb : Below W.heap.size W W') :
    ∀ (ts : List TypeId) (vs : List Value) (ds : List (DataW H)) (ps : List MemPlace), (∀ t ∈ ts, P.readableRec t = true ∧ t < P.types.size) →
      DataW.TrodAll enc P W 0 (fun _ => true) true ts vs ds ps → (∀ x ∈ ps, x.block < W.heap.size) → DataW.TrodAll enc P W' 0 (fun b => decide (b < W.heap.size)) true ts vs ds ps
  | [], vs, ds, ps, _, h, _ => by
    cases vs <;> cases ds <;> simp_all [DataW.TrodAll]
  | t :: ts, vs, ds, ps, hts, h, hlt => by
    obtain ⟨v, vs', d, ds', p, q, rfl, rfl, rfl, h1, h2⟩ := trodAll_cons h
    have ht := hts t (List.mem_cons_self ..)
    exact trodAll_cons_mk (Below.trod hl ht.1 ht.2 h1 hb (fun x hx => hlt x (List.mem_append_left _ hx)))
      (args_below hl hb ts vs' ds' q (fun t ht => hts t (List.mem_cons_of_mem _ ht)) h2 (fun x hx => hlt x (List.mem_append_right _ hx)))

/-- What a law's statement asks of the world behind the call. -/
theorem law_post {H : Type} {enc : TypeId × Value → H} {P : Program} (hl : laidOutB P = true) {s : ChangeSpec} {f : Func} {W W' : World} {args : Array Value} {ds : List (DataW H)} {before : List MemPlace}
    (hW : DataW.Whole enc P f.params.toList s.vars false W args.toList ds [] before) (hv : s.vars = []) (hr : f.resultTypes = #[4]) (hbool : P.underlying 4 = some .bool)
    (hts : ∀ t ∈ f.params.toList, P.readableRec t = true ∧ t < P.types.size) (hs : (s.fn H (ds ++ [])).results = [.lit (.bool true)] ∧ (s.fn H (ds ++ [])).args = ds ∧ (s.fn H (ds ++ [])).vars = [])
    (hb : Below W.heap.size W W') : s.post enc P f false true false false W args (.bool true) W' := by
  have hW0 := hW
  obtain ⟨p, q, hA, hV, rfl, _, _⟩ := hW
  have hlt : ∀ x ∈ p ++ q, x.block < W.heap.size := fun x hx => hW0.lt x hx
  refine ⟨_, _, _, [], p, [], hW0, ?_, ?_, ?_, hb.frame _, fun h => by cases h⟩
  · rw [hs.1, hr]
    exact trodAll_mk1 (shut_bool hbool true)
  · rw [hs.2.1]
    exact args_below hl hb _ _ _ _ hts hA (fun x hx => hlt x (List.mem_append_left _ hx))
  · rw [hv, hs.2.2]; rfl

end Go.Proofs.YtbahehmfhjkgeaaGreat

/-
  Small general lemmas for the walks of this seat (contracts met in quiet regions); no program in sight.
-/
namespace Go.Proofs.YtbahehmfhjkgeaaGreat
open Go Go.RowKit Go.Sort

theorem quiet_left {P : Program} {f : FuncId} {args : Array Value} {w : World} {n : Nat} {v : Value}
    (h : Calls P f args (w.drewN n) fun e w' => e = .returned v ∧ w.drewN n = w') : Calls P f args (w.drewN n) fun e w'' => e = .returned v ∧ ∃ m, w'' = w.drewN m :=
  h.mono fun _ _ ⟨he, hm⟩ => ⟨he, n, hm.symm⟩
theorem below_drewN {B : Nat} {a w : World} (h : Below B a w) (n : Nat) : Below B a (w.drewN n) := ⟨h.os, h.tape, h.output, h.size, h.block⟩

theorem ret_int {k : IntKind} {a b : Int} (h : a = b) : Ending.returned (.int k a) = .returned (.int k b) := by rw [h]
theorem ret_bool {a b : Bool} (h : a = b) : Ending.returned (.bool a) = .returned (.bool b) := by rw [h]


theorem only_drew {a w : World} {row : Option Nat} (h : a.grownBy w row) : a.grownBy w.drew row := ⟨h.os, h.tape, h.output, h.size, h.block⟩
theorem only_setCell {a w : World} {g : Nat} (h : a.grownBy w (some g)) {p : Addr} (hp : p.block = g ∨ a.heap.size ≤ p.block) (u : Value) : a.grownBy (w.setCell p u) (some g) :=
  ⟨h.os, h.tape, h.output, by simpa [World.setCell] using h.size, fun i hi hne => (Below.heap_setCell w p u i (by
    rintro rfl
    rcases hp with hp | hp
    · exact hne (by rw [hp])
    · omega)).trans (h.block i hi hne)⟩
theorem only_of_below {a w : World} (h : Below a.heap.size a w) (row : Option Nat) : a.grownBy w row := ⟨h.os, h.tape, h.output, h.size, fun i hi _ => h.block i hi⟩


/-- .. and while nothing is written. -/
theorem owns_kept_none {w w' : World} {base : Nat} {e : TypeId} {size n : Nat} {v : Value} {xs : List Value} (h : w.ownsRow base e size v n xs) (hg : w.grownBy w' none) : w'.ownsRow base e size v n xs :=
  h.kept hg (by
    cases hv : v.ownBlock with
    | none => exact .inl rfl
    | some g => exact .inr (by simp))
/-- The cells of a block that has just been laid. -/
theorem cells_new (w : World) (l : List Value) (t : TypeId) : ∀ (j : Nat) (u : Value), l[j]? = some u → (w.alloc (.cells l.toArray t)).cell? ((⟨w.heap.size, 0, none⟩ : Addr).add j) = some u := by
  intro j u hu
  have e : (⟨w.heap.size, 0, none⟩ : Addr).add j = ⟨w.heap.size, j, none⟩ := by simp [Addr.add]; omega
  rw [e, cell_of_row _ _ _ _ _ _ (heap_alloc_new w _)]
  simpa using hu
theorem owns_base {w : World} {base base' : Nat} {e : TypeId} {size n : Nat} {v : Value} {xs : List Value} (h : w.ownsRow base e size v n xs) (hb : base' ≤ base) : w.ownsRow base' e size v n xs := by
  obtain ⟨h1, h2⟩ := h
  refine ⟨h1, ?_⟩
  rcases h2 with h2 | ⟨g, cap, cur, hv, hg, r⟩
  · exact Or.inl h2
  · exact Or.inr ⟨g, cap, cur, hv, by omega, r⟩
theorem below_row {B : Nat} {a w w' : World} {base : Nat} {e : TypeId} {size n : Nat} {v : Value} {xs : List Value} (h : Below B a w) (ho : w.ownsRow base e size v n xs) (hg : w.grownBy w' v.ownBlock) (hB : B ≤ w.heap.size) (hb : B ≤ base) : Below B a w' :=
  h.grown hg hB (fun k hk => by have := (ho.lt k hk).1; omega)


/-- A slice value that reads as n elements of k cells each, in a block below B. -/
def Rd (w : World) (B k : Nat) (v : Value) (n : Nat) (xs : List Value) : Prop :=
  ∃ (A : Option Addr) (c : Nat), v = .slice A n c ∧ n ≤ c ∧ xs.length = n * k ∧ (0 < n → ∃ b off, A = some ⟨b, off, none⟩ ∧ b < B ∧ ∀ j u, xs[j]? = some u → w.cell? ⟨b, off + j, none⟩ = some u)
theorem Rd.form {w : World} {B k : Nat} {v : Value} {n : Nat} {xs : List Value} (h : Rd w B k v n xs) : ∃ (A : Option Addr) (c : Nat), v = .slice A n c ∧ n ≤ c := by
  obtain ⟨A, c, hv, hc, _⟩ := h
  exact ⟨A, c, hv, hc⟩
theorem Rd.pos {w : World} {B k : Nat} {v : Value} {n : Nat} {xs : List Value} (h : Rd w B k v n xs) (hn : 0 < n) :
    ∃ b off c, v = .slice (some ⟨b, off, none⟩) n c ∧ n ≤ c ∧ b < B ∧ ∀ j u, xs[j]? = some u → w.cell? ⟨b, off + j, none⟩ = some u := by
  obtain ⟨A, c, hv, hc, _, hp⟩ := h
  obtain ⟨b, off, hA, hb, hcell⟩ := hp hn
  exact ⟨b, off, c, by rw [hv, hA], hc, hb, hcell⟩
/-- .. its cells by element and field. -/
theorem Rd.posAt {w : World} {B k : Nat} {v : Value} {n : Nat} {xs : List Value} (h : Rd w B k v n xs) (hn : 0 < n) :
    ∃ b off c, v = .slice (some ⟨b, off, none⟩) n c ∧ n ≤ c ∧ b < B ∧ ∀ i j u, xs[i * k + j]? = some u → w.cell? ⟨b, off + i * k + j, none⟩ = some u := by
  obtain ⟨b, off, c, hv, hc, hb, hcell⟩ := h.pos hn
  exact ⟨b, off, c, hv, hc, hb, fun i j u hu => by rw [Nat.add_assoc]; exact hcell _ _ hu⟩
theorem Rd.of_own {w : World} {base k : Nat} {e : TypeId} {v : Value} {n : Nat} {xs : List Value} (h : w.ownsRow base e k v n xs) : Rd w w.heap.size k v n xs := by
  have hcells := fun (g : Nat) (hg : v.ownBlock = some g) => h.cells hg
  obtain ⟨h1, h2⟩ := h
  rcases h2 with ⟨rfl, rfl⟩ | ⟨g, cap, cur, rfl, _, hg, hnc, _⟩
  · exact ⟨none, 0, rfl, Nat.le_refl _, h1, fun h => absurd h (by omega)⟩
  · refine ⟨_, cap, rfl, hnc, h1, fun _ => ⟨g, 0, rfl, (Array.getElem?_eq_some_iff.1 hg).1, fun j u hu => ?_⟩⟩
    have hj := hcells g rfl j u hu
    have e : (⟨g, 0, none⟩ : Addr).add j = ⟨g, 0 + j, none⟩ := by simp [Addr.add]; omega
    rw [← e]; exact hj
theorem Rd.of_blk {w : World} {g k n c : Nat} {cs : Array Value} {t : TypeId} (h : w.heap[g]? = some (.cells cs t (0, 0))) (hc : n ≤ c) (hl : cs.toList.length = n * k) : Rd w w.heap.size k (.slice (some ⟨g, 0, none⟩) n c) n cs.toList :=
  ⟨_, c, rfl, hc, hl, fun _ => ⟨g, 0, rfl, (Array.getElem?_eq_some_iff.1 h).1, fun j u hu => by
    rw [Nat.zero_add, cell_of_row w g j cs t (0, 0) h]
    simpa using hu⟩⟩
theorem Rd.below {w w' : World} {B k : Nat} {v : Value} {n : Nat} {xs : List Value} (h : Rd w B k v n xs) (hb : Below B w w') : Rd w' B k v n xs := by
  obtain ⟨A, c, hv, hc, hl, hp⟩ := h
  refine ⟨A, c, hv, hc, hl, fun hn => ?_⟩
  obtain ⟨b, off, hA, hB, hcell⟩ := hp hn
  exact ⟨b, off, hA, hB, fun j u hu => (hb.cell (p := ⟨b, off + j, none⟩) hB).trans (hcell j u hu)⟩
theorem Rd.mono {w : World} {B B' k : Nat} {v : Value} {n : Nat} {xs : List Value} (h : Rd w B k v n xs) (hb : B ≤ B') : Rd w B' k v n xs := by
  obtain ⟨A, c, hv, hc, hl, hp⟩ := h
  refine ⟨A, c, hv, hc, hl, fun hn => ?_⟩
  obtain ⟨b, off, hA, hB, hcell⟩ := hp hn
  exact ⟨b, off, hA, by omega, hcell⟩

/-- A block that was there is there behind a call. -/
theorem blk_below {w w1 : World} (hb : Below w.heap.size w w1) {g : Nat} {o : Obj} (h : w.heap[g]? = some o) : w1.heap[g]? = some o := (hb.block g (lt_of_block h)).trans h
theorem blk3 (w : World) (A B C : Obj) : (((w.alloc A).alloc B).alloc C).heap[w.heap.size]? = some A ∧ (((w.alloc A).alloc B).alloc C).heap[w.heap.size + 1]? = some B ∧ (((w.alloc A).alloc B).alloc C).heap[w.heap.size + 1 + 1]? = some C := by
  have hA := heap_alloc_new w A
  have hB := heap_alloc_new (w.alloc A) B
  have hC := heap_alloc_new ((w.alloc A).alloc B) C
  simp only [World.size_alloc] at hB hC
  exact ⟨by rw [Below.heap_alloc _ _ _ (by simp; omega), Below.heap_alloc _ _ _ (by simp), hA], by rw [Below.heap_alloc _ _ _ (by simp), hB], hC⟩
theorem below1 (w : World) (A : Obj) : Below w.heap.size w (w.alloc A) := (Below.refl _ _).alloc (Nat.le_refl _) _
theorem below2 (w : World) (A B : Obj) : Below w.heap.size w ((w.alloc A).alloc B) := (below1 w A).alloc (by simp) _
theorem below3 (w : World) (A B C : Obj) : Below w.heap.size w (((w.alloc A).alloc B).alloc C) := (below2 w A B).alloc (by simp; omega) _
theorem blk1 (w : World) (A : Obj) : (w.alloc A).heap[w.heap.size]? = some A := heap_alloc_new w A
theorem blk2 (w : World) (A B : Obj) : ((w.alloc A).alloc B).heap[w.heap.size]? = some A ∧ ((w.alloc A).alloc B).heap[w.heap.size + 1]? = some B := by
  have hB := heap_alloc_new (w.alloc A) B
  simp only [World.size_alloc] at hB
  exact ⟨by rw [Below.heap_alloc _ _ _ (by simp), heap_alloc_new w A], hB⟩
/-- Behind a call from a world that had laid blocks. -/
theorem below_call {w W w1 : World} (h : Below w.heap.size w W) (hb : Below W.heap.size W w1) : Below w.heap.size w w1 := h.trans (hb.mono h.size)
/-- The two cells of a block of two, and that they may be written. -/
theorem two_cells {w : World} {g : Nat} {u v : Value} {t : TypeId} (h : w.heap[g]? = some (.cells #[u, v] t (0, 0))) :
    w.cell? ⟨g, 0, none⟩ = some u ∧ w.cell? ⟨g, 1, none⟩ = some v ∧ w.frozen? ⟨g, 0, none⟩ = false ∧ w.frozen? ⟨g, 1, none⟩ = false :=
  ⟨cell_of_row w g 0 _ t (0, 0) h, cell_of_row w g 1 _ t (0, 0) h, by simp [World.frozen?, h], by simp [World.frozen?, h]⟩
theorem set_far {w : World} {g : Nat} {o : Obj} (h : w.heap[g]? = some o) {p : Addr} (hp : g ≠ p.block) {u : Value} : (w.setCell p u).heap[g]? = some o := (Below.heap_setCell w p u g hp).trans h
theorem set_at {w : World} {g i : Nat} {cs : Array Value} {t : TypeId} (h : w.heap[g]? = some (.cells cs t (0, 0))) {u : Value} : (w.setCell ⟨g, i, none⟩ u).heap[g]? = some (.cells (cs.setIfInBounds i u) t (0, 0)) := by
  simp [World.setCell, Array.getElem?_modify, h]
theorem heap_drew {w : World} {g : Nat} {o : Option Obj} (h : w.heap[g]? = o) : w.drew.heap[g]? = o := h
theorem owns_form {w : World} {base : Nat} {e : TypeId} {size n : Nat} {v : Value} {xs : List Value} (h : w.ownsRow base e size v n xs) : ∃ (A : Option Addr) (c : Nat), v = .slice A n c ∧ (0 < n → ∃ g, A = some ⟨g, 0, none⟩) := by
  obtain ⟨_, h2⟩ := h
  rcases h2 with ⟨rfl, rfl⟩ | ⟨g, cap, cur, rfl, _⟩
  · exact ⟨none, 0, rfl, fun h => absurd h (by omega)⟩
  · exact ⟨_, cap, rfl, fun _ => ⟨g, rfl⟩⟩

end Go.Proofs.YtbahehmfhjkgeaaGreat

/-
  Small general lemmas, the second text: lists of structs as cells, the first place at which a predicate holds.
-/
namespace Go.Proofs.YtbahehmfhjkgeaaGreat
open Go Go.RowKit

theorem flat_get {α : Type} (enc : α → List Value) (k : Nat) (hk : ∀ x, (enc x).length = k) : ∀ (L : List α) (j i : Nat) (x : α) (v : Value), L[j]? = some x → (enc x)[i]? = some v → (L.flatMap enc)[j * k + i]? = some v
  | [], j, i, x, v, h, _ => by simp at h
  | y :: L, 0, i, x, v, h, hv => by
    simp at h; subst h
    have hi : i < (enc y).length := (List.getElem?_eq_some_iff.1 hv).1
    rw [List.flatMap_cons, Nat.zero_mul, Nat.zero_add, List.getElem?_append_left hi]
    exact hv
  | y :: L, j + 1, i, x, v, h, hv => by
    rw [List.flatMap_cons, List.getElem?_append_right (by rw [hk]; rw [Nat.add_mul]; omega), hk]
    have := flat_get enc k hk L j i x v (by simpa using h) hv
    rw [show (j + 1) * k + i - k = j * k + i by rw [Nat.add_mul]; omega]
    exact this
theorem flat_len {α : Type} (enc : α → List Value) (k : Nat) (hk : ∀ x, (enc x).length = k) (L : List α) : (L.flatMap enc).length = L.length * k := by
  induction L with
  | nil => simp
  | cons y L ih => rw [List.flatMap_cons, List.length_append, ih, hk, List.length_cons, Nat.add_mul]; omega
theorem get_bang {α : Type} [Inhabited α] {L : List α} {j : Nat} (h : j < L.length) : L[j]? = some L[j]! := by
  rw [List.getElem!_eq_getElem?_getD, List.getElem?_eq_getElem h]; rfl
/-- The cells of a slice of structs, as the shelf's contracts ask them. -/
theorem Rd.cells {α : Type} [Inhabited α] {enc : α → List Value} {k : Nat} (hk : ∀ x, (enc x).length = k) {w : World} {L : List α} {b off : Nat}
    (hcell : ∀ j u, (L.flatMap enc)[j]? = some u → w.cell? ⟨b, off + j, none⟩ = some u) :
    ∀ j, j < L.length → ∀ i v, (enc L[j]!)[i]? = some v → w.cell? ⟨b, off + j * k + i, none⟩ = some v := by
  intro j hj i v hv
  have := hcell _ _ (flat_get enc k hk L j i _ v (get_bang hj) hv)
  rw [Nat.add_assoc]; exact this

/-- The first place at which p holds; -1: there is none. -/
def idxP {α : Type} [Inhabited α] (p : α → Bool) (L : List α) : Int := Lib.idxBy (fun _ y => p y) L default
theorem idxP_nil {α : Type} [Inhabited α] (p : α → Bool) : idxP p [] = -1 := rfl
theorem idxP_miss {α : Type} [Inhabited α] (p : α → Bool) (L : List α) (h : ∀ (j : Nat) (x : α), L[j]? = some x → p x = false) : idxP p L = -1 := by
  have := Lib.idxBy_miss (fun _ y => p y) L L.length default (fun j hj => h j _ (get_bang hj))
  rw [List.take_length] at this
  exact this
theorem idxP_hit {α : Type} [Inhabited α] (p : α → Bool) (L : List α) (k : Nat) (x : α) (hx : L[k]? = some x) (h : p x = true) (hne : ∀ (j : Nat) (y : α), j < k → L[j]? = some y → p y = false) : idxP p L = k := by
  have hk : k < L.length := (List.getElem?_eq_some_iff.1 hx).1
  have e : L[k]! = x := by
    have := get_bang hk
    rw [hx] at this
    injection this with this
    exact this.symm
  have := Lib.idxBy_hit (fun _ y => p y) L L.length k default hk (Nat.le_refl _) (by rw [e]; exact h) (fun j hj => hne j _ hj (get_bang (by omega)))
  rw [List.take_length] at this
  exact this
theorem idxP_cases {α : Type} [Inhabited α] (p : α → Bool) (L : List α) : (idxP p L = -1 ∧ ∀ (j : Nat) (x : α), L[j]? = some x → p x = false) ∨ ∃ (k : Nat) (x : α), idxP p L = k ∧ L[k]? = some x ∧ p x = true ∧ ∀ (j : Nat) (y : α), j < k → L[j]? = some y → p y = false := by
  by_cases h : ∃ (k : Nat) (x : α), L[k]? = some x ∧ p x = true
  · obtain ⟨k, hk⟩ := h
    have : ∃ (k : Nat) (x : α), L[k]? = some x ∧ p x = true ∧ ∀ (j : Nat) (y : α), j < k → L[j]? = some y → p y = false := by
      induction k using Nat.strongRecOn with
      | ind k ih =>
        by_cases h2 : ∃ j : Nat, j < k ∧ ∃ y, L[j]? = some y ∧ p y = true
        · obtain ⟨j, hj, hy⟩ := h2
          exact ih j hj hy
        · obtain ⟨x, hx, hp⟩ := hk
          refine ⟨k, x, hx, hp, fun j y hj hy => ?_⟩
          cases hpy : p y with
          | false => rfl
          | true => exact absurd ⟨j, hj, y, hy, hpy⟩ h2
    obtain ⟨k, x, hx, hp, hne⟩ := this
    exact .inr ⟨k, x, idxP_hit p L k x hx hp hne, hx, hp, hne⟩
  · refine .inl ⟨?_, ?_⟩
    · exact idxP_miss p L (fun j x hx => by
        cases hp : p x with
        | false => rfl
        | true => exact absurd ⟨j, x, hx, hp⟩ h)
    · intro j x hx
      cases hp : p x with
      | false => rfl
      | true => exact absurd ⟨j, x, hx, hp⟩ h

end Go.Proofs.YtbahehmfhjkgeaaGreat

/-
  Small general lemmas, the third text: one element appended to a row of the call's own; no program in sight.
-/
namespace Go.Proofs.YtbahehmfhjkgeaaGreat
open Go Go.RowKit

/-- One element (its cells have just been laid in a block of their own) is appended to a row of the call's own. -/
theorem wpList_push {P : Program} {ops : Array Oper} {rest : List Oper} {o : Oper} {a : Act} {Q : Exit → Act → World → Prop} (hgd : o.guard = none) (s x : Operand) (t : TypeId)
    (ho : o.op = .call { callee := .builtin .append, args := #[s, x], argTypes := #[t, t] })
    (e : TypeId) (i : TypeInfo) (z : Value) (size bytes : Nat) (ht : P.underlying t = some (.slice e)) (hi : P.info? e = some i) (hz : i.zero = some z)
    (hsize : i.size = size) (hby : i.bytes = bytes) (hzs : z.cells.size = size) (hsz : 0 < size) (hb64 : bytes ≤ 64)
    {w0 : World} {base n : Nat} {v : Value} {xs : List Value} (es : List Value) (hs : a.eval s = v) {g0 : Nat} (hx : a.eval x = .slice (some ⟨g0, 0, none⟩) 1 1) (hg0 : g0 = w0.heap.size)
    (hown : w0.ownsRow base e size v n xs) (hes : es.length = size) (h1 : ∀ u ∈ es, u.oneCell' = true) (hn : n ≤ 1099511627776) (hbase : base ≤ w0.heap.size)
    {B : Nat} {a0 : World} (hb : Below B a0 w0) (hB : B ≤ base)
    (h : ∀ v' w', w'.ownsRow base e size v' (n + 1) (xs ++ es) → Below B a0 w' → wpList P ops Q rest (a.put o.dst v') w') : wpList P ops Q (o :: rest) a (w0.alloc (.cells es.toArray e)) := by
  subst hg0
  refine wpList_append_own _ hgd s x t ho base e i z size bytes ht hi hz hsize hby hzs hsz v n xs hs (hown.alloc _) ⟨w0.heap.size, 0, none⟩ 1 1 es hx (by omega) (cells_new w0 es e) h1 (by unfold maxLen; omega) ?_ (by simp; omega) ?_
  · calc (n + 1) * bytes ≤ (1099511627776 + 1) * 64 := Nat.mul_le_mul (by omega) hb64
      _ ≤ 140737488355328 := by decide
  · intro v' w' h2 h3 _
    exact h v' w' h2 (below_row (hb.alloc (by omega) _) (hown.alloc _) h3 (by simp; omega) hB)
/-- What a row of the call's own is made of. -/
theorem owns_block {w : World} {base : Nat} {e : TypeId} {size n : Nat} {g c : Nat} {xs : List Value} (h : w.ownsRow base e size (.slice (some ⟨g, 0, none⟩) n c) n xs) :
    ∃ cur : Array Value, w.heap[g]? = some (.cells cur e (0, 0)) ∧ n ≤ c ∧ c ≤ maxLen ∧ cur.size = c * size ∧ cur.toList.take (n * size) = xs ∧ base ≤ g := by
  obtain ⟨_, h2⟩ := h
  rcases h2 with ⟨h2, _⟩ | ⟨g', cap, cur, hv, hg, hh, hnc, hcm, hcs, ht⟩
  · cases h2
  · injection hv with h1 _ h3
    injection h1 with h1
    injection h1 with h1
    subst h1 h3
    exact ⟨cur, hh, hnc, hcm, hcs, ht, hg⟩
theorem owns_of_block {w : World} {base : Nat} {e : TypeId} {size n : Nat} {g c : Nat} {cur : Array Value} {xs : List Value} (hh : w.heap[g]? = some (.cells cur e (0, 0))) (hnc : n ≤ c) (hcm : c ≤ maxLen) (hcs : cur.size = c * size) (ht : cur.toList.take (n * size) = xs) (hl : xs.length = n * size) (hg : base ≤ g) :
    w.ownsRow base e size (.slice (some ⟨g, 0, none⟩) n c) n xs := ⟨hl, .inr ⟨g, c, cur, rfl, hg, hh, hnc, hcm, hcs, ht⟩⟩
theorem owns_nil (w : World) (base : Nat) (e : TypeId) (size : Nat) : w.ownsRow base e size (.slice none 0 0) 0 [] := ⟨by simp, .inl ⟨rfl, rfl⟩⟩

end Go.Proofs.YtbahehmfhjkgeaaGreat

/-
  Small general lemmas, the fourth text: an append tells whether its row lies where it lay; no program in sight.
-/
namespace Go.Proofs.YtbahehmfhjkgeaaGreat
open Go Go.RowKit

theorem grown_none {w w' : World} (h : w.grownBy w' none) (r : Option Nat) : w.grownBy w' r := ⟨h.os, h.tape, h.output, h.size, fun i hi _ => h.block i hi (by simp)⟩
/-- The row lies where it lay, or in a block of its own laid since. -/
def Moved (v v' : Value) (k : Nat) : Prop := v'.ownBlock = v.ownBlock ∨ ∀ g, v'.ownBlock = some g → k ≤ g
theorem wpList_push2 {P : Program} {ops : Array Oper} {rest : List Oper} {o : Oper} {a : Act} {Q : Exit → Act → World → Prop} (hgd : o.guard = none) (s x : Operand) (t : TypeId)
    (ho : o.op = .call { callee := .builtin .append, args := #[s, x], argTypes := #[t, t] })
    (e : TypeId) (i : TypeInfo) (z : Value) (size bytes : Nat) (ht : P.underlying t = some (.slice e)) (hi : P.info? e = some i) (hz : i.zero = some z)
    (hsize : i.size = size) (hby : i.bytes = bytes) (hzs : z.cells.size = size) (hsz : 0 < size) (hb64 : bytes ≤ 64)
    {w0 : World} {base n : Nat} {v : Value} {xs : List Value} (es : List Value) (hs : a.eval s = v) {g0 : Nat} (hx : a.eval x = .slice (some ⟨g0, 0, none⟩) 1 1) (hg0 : g0 = w0.heap.size)
    (hown : w0.ownsRow base e size v n xs) (hes : es.length = size) (h1 : ∀ u ∈ es, u.oneCell' = true) (hn : n ≤ 1099511627776) (hbase : base ≤ w0.heap.size)
    (h : ∀ v' w', w'.ownsRow base e size v' (n + 1) (xs ++ es) → w0.grownBy w' v.ownBlock → Moved v v' w0.heap.size → wpList P ops Q rest (a.put o.dst v') w') : wpList P ops Q (o :: rest) a (w0.alloc (.cells es.toArray e)) := by
  subst hg0
  have hb2 : (n + 1) * bytes ≤ 140737488355328 :=
    calc (n + 1) * bytes ≤ (1099511627776 + 1) * 64 := Nat.mul_le_mul (by omega) hb64
      _ ≤ 140737488355328 := by decide
  have hownA := hown.alloc (.cells es.toArray e)
  have hgA : w0.grownBy (w0.alloc (.cells es.toArray e)) none := World.grownBy_alloc w0 _ none
  have hnew := cells_new w0 es e
  rcases hown.2 with ⟨rfl, rfl⟩ | ⟨g, cap, cur, rfl, hbg, hg, hnc, hcm, hcs, htake⟩
  · obtain rfl : xs = [] := List.eq_nil_of_length_eq_zero (by have := hown.1; omega)
    refine wpList_append_grows _ hgd s x t ho e i z size bytes ht hi hz hsize hby hzs hsz none 0 0 [] hs (fun _ => ⟨rfl, rfl⟩) (by simp) (fun b hb => by cases hb) ⟨w0.heap.size, 0, none⟩ 1 1 es hx (by omega) hnew h1 (by omega) (by unfold maxLen; omega) hb2 ?_
    intro v' w' h2 h3
    refine h v' w' (owns_base h2 (by simp; omega)) (grown_none (hgA.trans h3) _) (.inr fun g hg => ?_)
    have := (h2.lt g hg).1
    simp at this; omega
  · by_cases hroom : n + 1 ≤ cap
    · obtain ⟨w', hr, h2, h3⟩ := run_append_fits (P := P) _ base t o.type e i size ht hi hsize g n cap xs hownA ⟨w0.heap.size, 0, none⟩ 1 1 es (by omega) hnew h1 hroom
      refine wpList_plain hgd fun K hK => ?_
      unfold Oper.wp execOp
      simp only [ho, resolve, invoke, builtin, Sem.run_bind, Sem.run_pure, Result.andThen_ok, List.map_toArray, List.map_cons, List.map_nil, hs, hx, hr]
      exact hK _ _ (h _ w' h2 ((grown_none hgA _).trans h3) (.inl rfl))
    · refine wpList_append_grows _ hgd s x t ho e i z size bytes ht hi hz hsize hby hzs hsz (some ⟨g, 0, none⟩) n cap xs hs (fun hh => by cases hh) hown.1 (fun b hb j u hu => ?_) ⟨w0.heap.size, 0, none⟩ 1 1 es hx (by omega) hnew h1 (by omega) (by unfold maxLen; omega) hb2 ?_
      · injection hb with hb
        subst hb
        exact hownA.cells rfl j u hu
      · intro v' w' h2 h3
        refine h v' w' (owns_base h2 (by simp; omega)) (grown_none (hgA.trans h3) _) (.inr fun g hg => ?_)
        have := (h2.lt g hg).1
        simp at this; omega
/-- The blocks from lo on below hi are as they were. -/
def Seg (lo hi : Nat) (a w : World) : Prop := ∀ b, lo ≤ b → b < hi → w.heap[b]? = a.heap[b]?
/-- The row lies below lo or from hi on. -/
def Off (v : Value) (lo hi : Nat) : Prop := ∀ g, v.ownBlock = some g → g < lo ∨ hi ≤ g
theorem Off.moved {v v' : Value} {lo hi k : Nat} (h : Off v lo hi) (hm : Moved v v' k) (hk : hi ≤ k) : Off v' lo hi := by
  intro g hg
  rcases hm with hm | hm
  · exact h g (hm ▸ hg)
  · exact .inr (Nat.le_trans hk (hm g hg))
theorem Seg.refl (lo hi : Nat) (a : World) : Seg lo hi a a := fun _ _ _ => rfl
theorem Seg.grown {v : Value} {lo hi : Nat} {a w w' : World} (h : Seg lo hi a w) (hg : w.grownBy w' v.ownBlock) (ho : Off v lo hi) (hs : hi ≤ w.heap.size) : Seg lo hi a w' := by
  intro b h1 h2
  refine (hg.block b (by omega) (fun hb => ?_)).trans (h b h1 h2)
  rcases ho b hb.symm with h3 | h3 <;> omega
theorem Seg.below {lo hi : Nat} {a w w' : World} (h : Seg lo hi a w) (hb : Below w.heap.size w w') (hs : hi ≤ w.heap.size) : Seg lo hi a w' :=
  fun b h1 h2 => (hb.block b (by omega)).trans (h b h1 h2)
theorem Seg.alloc {lo hi : Nat} {a w : World} (h : Seg lo hi a w) (hs : hi ≤ w.heap.size) (o : Obj) : Seg lo hi a (w.alloc o) := h.below (below1 w o) hs

end Go.Proofs.YtbahehmfhjkgeaaGreat

/-
  Stores, copies and clearings of rows whose elements have several cells; no program.
-/
namespace Go.Proofs.YtbahehmfhjkgeaaGreat
open Go Go.RowKit Go.Lib Go.Sort

/-- A slice is cleared, at elements of several cells. -/
theorem run_clear_row {P : Program} (w : World) (t e ty : TypeId) (z : Value) (ht : P.underlying t = some (.slice e)) (hv : ∀ w, (zeroValue e).run P w = .ok z w) (h1 : ∀ v ∈ z.cells.toList, v.oneCell' = true) (g o n c : Nat) (hn : 0 < n)
    (cur : Array Value) (tt : TypeId) (hg : w.heap[g]? = some (.cells cur tt (0, 0))) (hfit : o + (Builtin.zeroCells z.cells n).toList.length ≤ cur.size) :
    (Builtin.clear_ #[t] ty #[.slice (some ⟨g, o, none⟩) n c]).run P w = .ok (.tuple #[]) (w.setRow g (cur.toList.take o ++ (Builtin.zeroCells z.cells n).toList ++ cur.toList.drop (o + (Builtin.zeroCells z.cells n).toList.length)).toArray) := by
  have hst := run_storeCells_at P g o tt (Builtin.zeroCells z.cells n).toList 0 cur w hg (by simpa using hfit) (fun v hv' => ?_)
  · obtain ⟨m, rfl⟩ : ∃ m, n = m + 1 := ⟨n - 1, by omega⟩
    simp only [Nat.add_zero] at hst
    simp [Builtin.clear_, run_underlying ht, hv, hst]
  · simp only [Builtin.zeroCells, Array.toList_map, List.mem_map] at hv'
    obtain ⟨i, hi, rfl⟩ := hv'
    have hi' : i < n * z.cells.size := by simpa using hi
    have hz : 0 < z.cells.size := by
      rcases Nat.eq_zero_or_pos z.cells.size with e | e
      · rw [e] at hi'; omega
      · exact e
    have hm : i % z.cells.size < z.cells.size := Nat.mod_lt _ hz
    rw [getElem!_pos z.cells _ hm]
    exact h1 _ (by simp)
/-- clear, at elements of k cells, into a row that is known whole. -/
theorem wpList_clear_K {P : Program} {w : World} {ops : Array Oper} {rest : List Oper} {o : Oper} {a : Act} {Q : Exit → Act → World → Prop} (hgd : o.guard = none) (s : Operand) (T : TypeId)
    (ho : o.op = .call { callee := .builtin .clear, args := #[s], argTypes := #[T] }) (elem : TypeId) (ht : P.underlying T = some (.slice elem)) (z : Value) (hv : ∀ w, (zeroValue elem).run P w = .ok z w) (h1 : ∀ v ∈ z.cells.toList, v.oneCell' = true)
    (sp : Option Addr) (sLen sCap : Nat) (hs : a.eval s = .slice sp sLen sCap) (hp : 0 < sLen) (g off : Nat) (hsp : sp = some ⟨g, off, none⟩)
    (cur : List Value) (ty : TypeId) (hg : w.heap[g]? = some (.cells cur.toArray ty (0, 0))) (zs : List Value) (hzs : (Builtin.zeroCells z.cells sLen).toList = zs) (hfit : off + zs.length ≤ cur.length) (B : Nat) (w0 : World) (hb : Below B w0 w) (hBg : B ≤ g)
    (h : ∀ w', Hid (w'.heap[g]? = some (.cells (splice cur off zs).toArray ty (0, 0))) → Below B w0 w' → wpList P ops Q rest (a.put o.dst (.tuple #[])) w') : wpList P ops Q (o :: rest) a w := by
  subst hsp hzs
  refine wpList_plain hgd fun K hK => ?_
  have hr := run_clear_row (P := P) w T elem o.type z ht hv h1 g off sLen sCap hp cur.toArray ty hg (by simpa using hfit)
  unfold Oper.wp
  simp [execOp, ho, resolve, invoke, builtin, hs, hr, Result.andThen]
  exact hK _ _ (h _ (show _ = _ by simpa [splice] using setRow_heap w g _ _ ty _ hg) (below_setRow hb hBg _))
end Go.Proofs.YtbahehmfhjkgeaaGreat

/-
  An append of several elements tells whether its row lies where it lay; no program in sight.
-/
namespace Go.Proofs.YtbahehmfhjkgeaaGreat
open Go Go.RowKit

/-- An append of several elements, as one operation. -/
theorem oper_pushM {P : Program} {o : Oper} {a : Act} {K : Act → World → Prop} {Q : Exit → Act → World → Prop} (hgd : o.guard = none) (s x : Operand) (t : TypeId)
    (ho : o.op = .call { callee := .builtin .append, args := #[s, x], argTypes := #[t, t] })
    (e : TypeId) (i : TypeInfo) (z : Value) (size bytes : Nat) (ht : P.underlying t = some (.slice e)) (hi : P.info? e = some i) (hz : i.zero = some z)
    (hsize : i.size = size) (hby : i.bytes = bytes) (hzs : z.cells.size = size) (hsz : 0 < size) (hb64 : bytes ≤ 64) (m : Nat) (hm : 0 < m) (hm2 : m ≤ 1024)
    {w0 : World} {base n : Nat} {v : Value} {xs : List Value} (es : List Value) (hs : a.eval s = v) {g0 : Nat} (hx : a.eval x = .slice (some ⟨g0, 0, none⟩) m m) (hg0 : g0 = w0.heap.size)
    (hown : w0.ownsRow base e size v n xs) (hes : es.length = m * size) (h1 : ∀ u ∈ es, u.oneCell' = true) (hn : n ≤ 1099511627776) (hbase : base ≤ w0.heap.size)
    (h : ∀ v' w', w'.ownsRow base e size v' (n + m) (xs ++ es) → w0.grownBy w' v.ownBlock → Moved v v' w0.heap.size → K (a.put o.dst v') w') : o.wp P a (w0.alloc (.cells es.toArray e)) K Q := by
  subst hg0
  have hb2 : (n + m) * bytes ≤ 140737488355328 :=
    calc (n + m) * bytes ≤ (1099511627776 + 1024) * 64 := Nat.mul_le_mul (by omega) hb64
      _ ≤ 140737488355328 := by decide
  have hownA := hown.alloc (.cells es.toArray e)
  have hgA : w0.grownBy (w0.alloc (.cells es.toArray e)) none := World.grownBy_alloc w0 _ none
  have hnew := cells_new w0 es e
  have hw : Region.wanted o (yielded #[] a.tmps) = true := by simp [Region.wanted, hgd]
  rcases hown.2 with ⟨rfl, rfl⟩ | ⟨g, cap, cur, rfl, hbg, hg, hnc, hcm, hcs, htake⟩
  · obtain rfl : xs = [] := List.eq_nil_of_length_eq_zero (by have := hown.1; omega)
    have H := step_append_grows (P := P) (ops := #[]) (o := o) (a := a) (w := w0.alloc (.cells es.toArray e)) (K := K) (Q := Q) (E := False) hgd s x t ho e i z size bytes ht hi hz hsize hby hzs hsz none 0 0 [] hs (fun _ => ⟨rfl, rfl⟩) (by simp) (fun b hb => by cases hb) ⟨w0.heap.size, 0, none⟩ m m es hx hes hnew h1 (by omega) (by unfold maxLen; omega) hb2 (fun v' w' h2 h3 => by
      refine h v' w' (owns_base h2 (by simp; omega)) (grown_none (hgA.trans h3) _) (.inr fun g hg => ?_)
      have := (h2.lt g hg).1
      simp at this; omega)
    rw [if_pos hw] at H
    exact H
  · by_cases hroom : n + m ≤ cap
    · obtain ⟨w', hr, h2, h3⟩ := run_append_fits (P := P) _ base t o.type e i size ht hi hsize g n cap xs hownA ⟨w0.heap.size, 0, none⟩ m m es hes hnew h1 hroom
      unfold Oper.wp execOp
      simp only [ho, resolve, invoke, builtin, Sem.run_bind, Sem.run_pure, Result.andThen_ok, List.map_toArray, List.map_cons, List.map_nil, hs, hx, hr]
      exact h _ w' h2 ((grown_none hgA _).trans h3) (.inl rfl)
    · have H := step_append_grows (P := P) (ops := #[]) (o := o) (a := a) (w := w0.alloc (.cells es.toArray e)) (K := K) (Q := Q) (E := False) hgd s x t ho e i z size bytes ht hi hz hsize hby hzs hsz (some ⟨g, 0, none⟩) n cap xs hs (fun hh => by cases hh) hown.1 (fun b hb j u hu => by
        injection hb with hb
        subst hb
        exact hownA.cells rfl j u hu) ⟨w0.heap.size, 0, none⟩ m m es hx hes hnew h1 (by omega) (by unfold maxLen; omega) hb2 (fun v' w' h2 h3 => by
        refine h v' w' (owns_base h2 (by simp; omega)) (grown_none (hgA.trans h3) _) (.inr fun g hg => ?_)
        have := (h2.lt g hg).1
        simp at this; omega)
      rw [if_pos hw] at H
      exact H
end Go.Proofs.YtbahehmfhjkgeaaGreat

/-
  Plain lemmas on numbers that the walks of this seat use; no program in sight.
-/
namespace Go.Proofs.YtbahehmfhjkgeaaGreat
open Go.RowKit

/-- Two to the k, as an integer, behind a name. -/
def p2 (k : Nat) : Int := 2 ^ k
theorem p2_zero : p2 0 = 1 := rfl
theorem p2_succ (k : Nat) : p2 (k + 1) = 2 * p2 k := by unfold p2; rw [Int.pow_succ]; omega
theorem p2_pos (k : Nat) : 1 ≤ p2 k := by
  induction k with
  | zero => simp [p2_zero]
  | succ k ih => rw [p2_succ]; omega
theorem p2_mono {j k : Nat} (h : j ≤ k) : p2 j ≤ p2 k := by
  induction k with
  | zero => have : j = 0 := by omega
            subst this; exact Int.le_refl _
  | succ k ih =>
    rcases Nat.lt_or_ge j (k + 1) with h1 | h1
    · have := ih (by omega); have := p2_pos k; rw [p2_succ]; omega
    · have : j = k + 1 := by omega
      subst this; exact Int.le_refl _
theorem p2_32 : p2 32 = 4294967296 := by decide
theorem p2_le32 {k : Nat} (h : k ≤ 32) : p2 k ≤ 4294967296 := by have := p2_mono h; rw [p2_32] at this; exact this


/-- How many addresses are in a prefix of n bits. -/
def sz (n : Int) : Int := p2 (32 - n.toNat)
theorem sz_pos (n : Int) : 1 ≤ sz n := p2_pos _
theorem sz_le (n : Int) : sz n ≤ 4294967296 := p2_le32 (by omega)
/-- The refusal of a prefix: 0, 1 (bits out of range), 10 (bits behind the mask). -/
def chk (a n : Int) : Int := if n < 0 ∨ 32 < n then 1 else if a % sz n = 0 then 0 else 10
theorem chk_range (a n : Int) (h : n < 0 ∨ 32 < n) : chk a n = 1 := by unfold chk; rw [if_pos h]
theorem chk_zero (a n : Int) (h0 : 0 ≤ n) (h1 : n ≤ 32) (h : a % sz n = 0) : chk a n = 0 := by unfold chk; rw [if_neg (by omega), if_pos h]
theorem chk_mask (a n : Int) (h0 : 0 ≤ n) (h1 : n ≤ 32) (h : ¬ a % sz n = 0) : chk a n = 10 := by unfold chk; rw [if_neg (by omega), if_neg h]
/-- Is an address in a prefix? -/
def inB (x a n : Int) : Bool := decide (chk a n = 0 ∧ a ≤ x ∧ x < a + sz n)


/-- The exponent of the greatest power of two, at most 2^k, that divides the place and does not go beyond the end. -/
def pick (a e : Int) : Nat → Nat
  | 0 => 0
  | k + 1 => if a % p2 (k + 1) = 0 ∧ a + p2 (k + 1) ≤ e then k + 1 else pick a e k
/-- The prefixes of the places from a up to (not with) e. -/
def cutL (e : Int) : Nat → Int → List (Int × Int)
  | 0, _ => []
  | f + 1, a => if a < e then (a, 32 - (pick a e 32 : Int)) :: cutL e f (a + p2 (pick a e 32)) else []
end Go.Proofs.YtbahehmfhjkgeaaGreat

/-
  Walks over the leaves of the addresses' layer: the reference's size, the program's behind.
-/
namespace Go.Proofs.YtbahehmfhjkgeaaGreat
open Go.RowKit

set_option maxHeartbeats 400000 in
theorem size_any (n : Int) (w : World) (h0 : 0 ≤ n) (h1 : n ≤ 32) :
    Calls Tryz.prog 101 #[.int .i64 n] w fun e w' => e = .returned (.int .u64 (sz n)) ∧ w = w' := by
  obtain ⟨m, rfl⟩ := Int.eq_ofNat_of_zero_le h0
  have hm : m ≤ 32 := by omega
  clear h0
  go_enter Tryz.func101, Tryz.ntmps101
  go_wp2
  go_loop [3, 4] (fun out i => ∃ j : Nat, m + j ≤ 32 ∧ i = .int .i64 ↑(m + j) ∧ out = .int .u64 (p2 j)) (fun _ i => 32 - (intOf i).toNat)
  case atStart => exact ⟨0, by omega, rfl, rfl⟩
  case round =>
    obtain ⟨j, hj, rfl, rfl⟩ := hrel
    have hp := p2_pos j
    have hq := p2_le32 (k := j) (by omega)
    by_cases hlt : m + j < 32
    · go_wp2
      go_round
      case rel => exact ⟨j + 1, by omega, by go_num, by rw [p2_succ]⟩
      case measure => simp [intOf]; omega
    · have e : 32 - m = j := by omega
      have E := Lib.hid e
      clear e
      go_wp2
      go_ret
      unfold sz
      rw [Int.toNat_natCast, E.out]
      exact ⟨rfl, rfl⟩

end Go.Proofs.YtbahehmfhjkgeaaGreat

/-
  Plain lemmas on bits and powers of two, in the words of the model's operations on numbers; no program in sight.
-/
namespace Go.Proofs.YtbahehmfhjkgeaaGreat
open Go Go.RowKit

theorem p2_cast (k : Nat) : p2 k = ((2 ^ k : Nat) : Int) := by unfold p2; simp
theorem sz_nat (n : Int) : sz n = ((2 ^ (32 - n.toNat) : Nat) : Int) := p2_cast _

theorem and_sz (a n : Int) (ha : 0 ≤ a) (hb : a < 4294967296) : bits .and .u32 a (sz n - 1) = a % sz n := by
  obtain ⟨a, rfl⟩ := Int.eq_ofNat_of_zero_le ha
  have hp := sz_pos n
  have hq := sz_le n
  rw [u32_and _ _ ha hb (by omega) (by omega), sz_nat]
  have e : (((2 ^ (32 - n.toNat) : Nat) : Int) - 1).toNat = 2 ^ (32 - n.toNat) - 1 := by omega
  rw [e, Int.toNat_natCast, Nat.and_two_pow_sub_one_eq_mod]
  exact Int.natCast_emod _ _

/-- The leading zeros of a number of 32 bits. -/
def lz32 (x : Int) : Int := 32 - (Lib.bitLen x.toNat : Int)
end Go.Proofs.YtbahehmfhjkgeaaGreat

/-
  Walks over the addresses' layer: behind, Check, In, Within; the program's and the reference's.
-/
namespace Go.Proofs.YtbahehmfhjkgeaaGreat
open Go Go.RowKit Go.Sort

theorem behind_val (n : Int) (h0 : 0 ≤ n) (h1 : n ≤ 32) : IntKind.u64.wrap (IntKind.u64.wrap (2 ^ (32 - n).toNat) - 1) % 4294967296 = sz n - 1 := by
  have e : (32 - n).toNat = 32 - n.toNat := by omega
  have hp := p2_pos (32 - n.toNat)
  have hq := p2_le32 (k := 32 - n.toNat) (by omega)
  rw [e]
  show IntKind.u64.wrap (IntKind.u64.wrap (p2 (32 - n.toNat)) - 1) % 4294967296 = p2 (32 - n.toNat) - 1
  simp only [IntKind.wrap, IntKind.bits, IntKind.signed]
  omega
set_option maxHeartbeats 400000 in
theorem behind_any (n : Int) (w : World) (h0 : 0 ≤ n) (h1 : n ≤ 32) :
    Calls Tryz.prog 187 #[.int .i64 n] w fun e w' => e = .returned (.int .u32 (sz n - 1)) ∧ w = w' := by
  have hv := Lib.hid (behind_val n h0 h1)
  go_enter Tryz.func187, Tryz.ntmps187
  go_wp2
  go_ret
  exact ⟨ret_int hv.out, rfl⟩

set_option maxHeartbeats 400000 in
theorem addrCheck_any (a n : Int) (w : World) (ha : 0 ≤ a) (hb : a < 4294967296) :
    Calls Tryz.prog 96 #[.agg #[.int .u32 a, .int .i64 n]] w fun e w' => e = .returned (.int .i64 (chk a n)) ∧ Below w.heap.size w w' := by
  by_cases hr : n < 0 ∨ 32 < n
  · have hc := Lib.hid (chk_range a n hr)
    rcases hr with hr | hr
    · go_enter Tryz.func96, Tryz.ntmps96
      go_wp2
      go_ret
      exact ⟨ret_int hc.out.symm, (Below.refl _ _).alloc (Nat.le_refl _) _⟩
    · have hr' : ¬ n < 0 := by omega
      go_enter Tryz.func96, Tryz.ntmps96
      go_wp2
      go_ret
      exact ⟨ret_int hc.out.symm, (Below.refl _ _).alloc (Nat.le_refl _) _⟩
  · have h0 : 0 ≤ n := by omega
    have h1 : n ≤ 32 := by omega
    clear hr
    have ea := and_sz a n ha hb
    by_cases hm : a % sz n = 0
    · have hc := Lib.hid (chk_zero a n h0 h1 hm)
      have hd : (bits .and .u32 a (sz n - 1) != 0) = false := by rw [ea, hm]; rfl
      clear ea hm
      go_enter Tryz.func96, Tryz.ntmps96
      go_wp2
      go_quiet ((go_at_call 187; exact quiet_left (behind_any _ _ (by omega) (by omega))))
      go_wp2
      go_ret
      exact ⟨ret_int hc.out.symm, below_drewN ((Below.refl _ _).alloc (Nat.le_refl _) _) _⟩
    · have hc := Lib.hid (chk_mask a n h0 h1 hm)
      have hd : (bits .and .u32 a (sz n - 1) != 0) = true := by rw [ea]; simp [hm]
      clear ea hm
      go_enter Tryz.func96, Tryz.ntmps96
      go_wp2
      go_quiet ((go_at_call 187; exact quiet_left (behind_any _ _ (by omega) (by omega))))
      go_wp2
      go_ret
      exact ⟨ret_int hc.out.symm, below_drewN ((Below.refl _ _).alloc (Nat.le_refl _) _) _⟩

set_option maxHeartbeats 400000 in
theorem refCheck_any (a n : Int) (w : World) (ha : 0 ≤ a) (hb : a < 4294967296) :
    Calls Tryz.prog 41 #[.agg #[.int .u32 a, .int .i64 n]] w fun e w' => e = .returned (.int .i64 (chk a n)) ∧ Below w.heap.size w w' := by
  by_cases hr : n < 0 ∨ 32 < n
  · have hc := Lib.hid (chk_range a n hr)
    rcases hr with hr | hr
    · go_enter Tryz.func41, Tryz.ntmps41
      go_wp2
      go_ret
      exact ⟨ret_int hc.out.symm, (Below.refl _ _).alloc (Nat.le_refl _) _⟩
    · have hr' : ¬ n < 0 := by omega
      go_enter Tryz.func41, Tryz.ntmps41
      go_wp2
      go_ret
      exact ⟨ret_int hc.out.symm, (Below.refl _ _).alloc (Nat.le_refl _) _⟩
  · have h0 : 0 ≤ n := by omega
    have h1 : n ≤ 32 := by omega
    have hp := sz_pos n
    have hq := sz_le n
    clear hr
    by_cases hm : a % sz n = 0
    · have hc := Lib.hid (chk_zero a n h0 h1 hm)
      have hd : (a % sz n != 0) = false := by rw [hm]; rfl
      clear hm
      go_enter Tryz.func41, Tryz.ntmps41
      go_wp2
      go_quiet ((go_at_call 101; exact quiet_left (size_any _ _ (by omega) (by omega))))
      go_wp2
      go_ret
      exact ⟨ret_int hc.out.symm, below_drewN ((Below.refl _ _).alloc (Nat.le_refl _) _) _⟩
    · have hc := Lib.hid (chk_mask a n h0 h1 hm)
      have hd : (a % sz n != 0) = true := by simp [hm]
      clear hm
      go_enter Tryz.func41, Tryz.ntmps41
      go_wp2
      go_quiet ((go_at_call 101; exact quiet_left (size_any _ _ (by omega) (by omega))))
      go_wp2
      go_ret
      exact ⟨ret_int hc.out.symm, below_drewN ((Below.refl _ _).alloc (Nat.le_refl _) _) _⟩

end Go.Proofs.YtbahehmfhjkgeaaGreat

/-
  Walks over the addresses' layer: In; the program's and the reference's.
-/
namespace Go.Proofs.YtbahehmfhjkgeaaGreat
open Go Go.RowKit Go.Sort

end Go.Proofs.YtbahehmfhjkgeaaGreat

/-
  Walks over the filter's layer: what a rule may be, and which headers fit it; the program's and the reference's (written by wip/gen/genfilter.py).
-/
namespace Go.Proofs.YtbahehmfhjkgeaaGreat
open Go Go.RowKit

/-- A rule, its numbers within their kinds. -/
structure RuleV where
  permit : Bool
  proto : Int
  sa : Int
  sn : Int
  da : Int
  dn : Int
  sl : Int
  sh : Int
  dl : Int
  dh : Int
  hpr : -9223372036854775808 ≤ proto ∧ proto ≤ 9223372036854775807
  hsa : 0 ≤ sa ∧ sa < 4294967296
  hda : 0 ≤ da ∧ da < 4294967296
  hsl : 0 ≤ sl ∧ sl < 4294967296
  hsh : 0 ≤ sh ∧ sh < 4294967296
  hdl : 0 ≤ dl ∧ dl < 4294967296
  hdh : 0 ≤ dh ∧ dh < 4294967296
/-- A header, its numbers within their kinds. -/
structure HeaderV where
  src : Int
  dst : Int
  proto : Int
  sp : Int
  dp : Int
  hsrc : 0 ≤ src ∧ src < 4294967296
  hdst : 0 ≤ dst ∧ dst < 4294967296
  hproto : 0 ≤ proto ∧ proto ≤ 255
  hsp : 0 ≤ sp ∧ sp ≤ 65535
  hdp : 0 ≤ dp ∧ dp ≤ 65535

def portsB (lo hi : Int) : Bool := decide (lo ≤ hi) && decide (hi ≤ 65535)
def mayB (r : RuleV) : Bool := decide (-1 ≤ r.proto) && decide (r.proto ≤ 255) && decide (chk r.sa r.sn = 0) && decide (chk r.da r.dn = 0) && portsB r.sl r.sh && portsB r.dl r.dh
def inP (lo hi x : Int) : Bool := decide (lo ≤ x) && decide (x ≤ hi)
def fitsB (r : RuleV) (h : HeaderV) : Bool := decide (chk r.sa r.sn = 0) && decide (chk r.da r.dn = 0) && inB h.src r.sa r.sn && inB h.dst r.da r.dn && (decide (r.proto = -1) || decide (r.proto = h.proto)) && inP r.sl r.sh h.sp && inP r.dl r.dh h.dp

set_option maxHeartbeats 1000000 in
theorem ports_any (lo hi : Int) (w : World) :
    Calls Tryz.prog 194 #[.agg #[.int .u32 lo, .int .u32 hi]] w fun e w' => e = .returned (.bool (portsB lo hi)) ∧ Below w.heap.size w w' := by
  by_cases q0a : lo ≤ hi
  · have t0a0 : decide (lo ≤ hi) = true := by first | (simp [*]; done) | (simp; omega) | (simp [*]; omega)
    have hE : Hid (decide (hi ≤ 65535) = portsB lo hi) := by unfold Hid; simp [portsB, *]
    clear q0a
    go_enter Tryz.func194, Tryz.ntmps194
    go_wp2
    go_ret
    exact ⟨ret_bool hE.out, below1 w _⟩
  · have t0b0 : decide (lo ≤ hi) = false := by first | (simp [*]; done) | (simp; omega) | (simp [*]; omega)
    have hE : Hid (false = portsB lo hi) := by unfold Hid; simp [portsB, *]
    clear q0a
    go_enter Tryz.func194, Tryz.ntmps194
    go_wp2
    go_ret
    exact ⟨ret_bool hE.out, below1 w _⟩

set_option maxHeartbeats 1000000 in
theorem may_any (r : RuleV) (w : World) :
    Calls Tryz.prog 107 #[.agg #[.bool r.permit, .int .i64 r.proto, .int .u32 r.sa, .int .i64 r.sn, .int .u32 r.da, .int .i64 r.dn, .int .u32 r.sl, .int .u32 r.sh, .int .u32 r.dl, .int .u32 r.dh]] w fun e w' => e = .returned (.bool (mayB r)) ∧ Below w.heap.size w w' := by
  by_cases q0a : -1 ≤ r.proto
  · have t0a0 : decide (-1 ≤ r.proto) = true := by first | (simp [*]; done) | (simp; omega) | (simp [*]; omega)
    by_cases q1a : r.proto ≤ 255
    · have t1a0 : decide (r.proto ≤ 255) = true := by first | (simp [*]; done) | (simp; omega) | (simp [*]; omega)
      by_cases q2a : chk r.sa r.sn = 0
      · have t2a0 : (chk r.sa r.sn == 0) = true := by first | (simp [*]; done) | (simp; omega) | (simp [*]; omega)
        by_cases q3a : chk r.da r.dn = 0
        · have t3a0 : (chk r.da r.dn == 0) = true := by first | (simp [*]; done) | (simp; omega) | (simp [*]; omega)
          by_cases q4a : portsB r.sl r.sh = true
          · have t4a0 : portsB r.sl r.sh = true := by first | (simp [*]; done) | (simp; omega) | (simp [*]; omega)
            have hE : Hid (portsB r.dl r.dh = mayB r) := by unfold Hid; simp [mayB, *]
            clear q0a q1a q2a q3a q4a
            go_enter Tryz.func107, Tryz.ntmps107
            go_wp2_with fail
            refine (addrCheck_any _ _ _ r.hsa.1 r.hsa.2).mono ?_
            rintro e w1 ⟨rfl, hb⟩
            have Jr := blk_below hb (blk1 w _)
            have hbw := below_call (below1 w _) hb
            clear hb
            have cr0 : w1.cell? ⟨w.heap.size, 0, none⟩ = some (.bool r.permit) := cell_of_row w1 (w.heap.size) 0 _ _ (0, 0) Jr
            have cr1 : w1.cell? ⟨w.heap.size, 1, none⟩ = some (.int .i64 r.proto) := cell_of_row w1 (w.heap.size) 1 _ _ (0, 0) Jr
            have cr2 : w1.cell? ⟨w.heap.size, 2, none⟩ = some (.int .u32 r.sa) := cell_of_row w1 (w.heap.size) 2 _ _ (0, 0) Jr
            have cr3 : w1.cell? ⟨w.heap.size, 3, none⟩ = some (.int .i64 r.sn) := cell_of_row w1 (w.heap.size) 3 _ _ (0, 0) Jr
            have cr4 : w1.cell? ⟨w.heap.size, 4, none⟩ = some (.int .u32 r.da) := cell_of_row w1 (w.heap.size) 4 _ _ (0, 0) Jr
            have cr5 : w1.cell? ⟨w.heap.size, 5, none⟩ = some (.int .i64 r.dn) := cell_of_row w1 (w.heap.size) 5 _ _ (0, 0) Jr
            have cr6 : w1.cell? ⟨w.heap.size, 6, none⟩ = some (.int .u32 r.sl) := cell_of_row w1 (w.heap.size) 6 _ _ (0, 0) Jr
            have cr7 : w1.cell? ⟨w.heap.size, 7, none⟩ = some (.int .u32 r.sh) := cell_of_row w1 (w.heap.size) 7 _ _ (0, 0) Jr
            have cr8 : w1.cell? ⟨w.heap.size, 8, none⟩ = some (.int .u32 r.dl) := cell_of_row w1 (w.heap.size) 8 _ _ (0, 0) Jr
            have cr9 : w1.cell? ⟨w.heap.size, 9, none⟩ = some (.int .u32 r.dh) := cell_of_row w1 (w.heap.size) 9 _ _ (0, 0) Jr
            have lr : w.heap.size < w1.heap.size := lt_of_block Jr
            have nr : w.heap.size ≠ w1.heap.size := Nat.ne_of_lt lr
            have Kr := Lib.hid Jr
            clear Jr
            go_wp2_with fail
            refine (addrCheck_any _ _ _ r.hda.1 r.hda.2).mono ?_
            rintro e w2 ⟨rfl, hb⟩
            have Jr := blk_below hb Kr.out
            have hbw' := below_call hbw hb
            clear hb hbw Kr lr nr cr0 cr1 cr2 cr3 cr4 cr5 cr6 cr7 cr8 cr9
            have hbw := hbw'
            clear hbw'
            have cr0 : w2.cell? ⟨w.heap.size, 0, none⟩ = some (.bool r.permit) := cell_of_row w2 (w.heap.size) 0 _ _ (0, 0) Jr
            have cr1 : w2.cell? ⟨w.heap.size, 1, none⟩ = some (.int .i64 r.proto) := cell_of_row w2 (w.heap.size) 1 _ _ (0, 0) Jr
            have cr2 : w2.cell? ⟨w.heap.size, 2, none⟩ = some (.int .u32 r.sa) := cell_of_row w2 (w.heap.size) 2 _ _ (0, 0) Jr
            have cr3 : w2.cell? ⟨w.heap.size, 3, none⟩ = some (.int .i64 r.sn) := cell_of_row w2 (w.heap.size) 3 _ _ (0, 0) Jr
            have cr4 : w2.cell? ⟨w.heap.size, 4, none⟩ = some (.int .u32 r.da) := cell_of_row w2 (w.heap.size) 4 _ _ (0, 0) Jr
            have cr5 : w2.cell? ⟨w.heap.size, 5, none⟩ = some (.int .i64 r.dn) := cell_of_row w2 (w.heap.size) 5 _ _ (0, 0) Jr
            have cr6 : w2.cell? ⟨w.heap.size, 6, none⟩ = some (.int .u32 r.sl) := cell_of_row w2 (w.heap.size) 6 _ _ (0, 0) Jr
            have cr7 : w2.cell? ⟨w.heap.size, 7, none⟩ = some (.int .u32 r.sh) := cell_of_row w2 (w.heap.size) 7 _ _ (0, 0) Jr
            have cr8 : w2.cell? ⟨w.heap.size, 8, none⟩ = some (.int .u32 r.dl) := cell_of_row w2 (w.heap.size) 8 _ _ (0, 0) Jr
            have cr9 : w2.cell? ⟨w.heap.size, 9, none⟩ = some (.int .u32 r.dh) := cell_of_row w2 (w.heap.size) 9 _ _ (0, 0) Jr
            have lr : w.heap.size < w2.heap.size := lt_of_block Jr
            have nr : w.heap.size ≠ w2.heap.size := Nat.ne_of_lt lr
            have Kr := Lib.hid Jr
            clear Jr
            go_wp2_with fail
            refine (ports_any _ _ _).mono ?_
            rintro e w3 ⟨rfl, hb⟩
            have Jr := blk_below hb Kr.out
            have hbw' := below_call hbw hb
            clear hb hbw Kr lr nr cr0 cr1 cr2 cr3 cr4 cr5 cr6 cr7 cr8 cr9
            have hbw := hbw'
            clear hbw'
            have cr0 : w3.cell? ⟨w.heap.size, 0, none⟩ = some (.bool r.permit) := cell_of_row w3 (w.heap.size) 0 _ _ (0, 0) Jr
            have cr1 : w3.cell? ⟨w.heap.size, 1, none⟩ = some (.int .i64 r.proto) := cell_of_row w3 (w.heap.size) 1 _ _ (0, 0) Jr
            have cr2 : w3.cell? ⟨w.heap.size, 2, none⟩ = some (.int .u32 r.sa) := cell_of_row w3 (w.heap.size) 2 _ _ (0, 0) Jr
            have cr3 : w3.cell? ⟨w.heap.size, 3, none⟩ = some (.int .i64 r.sn) := cell_of_row w3 (w.heap.size) 3 _ _ (0, 0) Jr
            have cr4 : w3.cell? ⟨w.heap.size, 4, none⟩ = some (.int .u32 r.da) := cell_of_row w3 (w.heap.size) 4 _ _ (0, 0) Jr
            have cr5 : w3.cell? ⟨w.heap.size, 5, none⟩ = some (.int .i64 r.dn) := cell_of_row w3 (w.heap.size) 5 _ _ (0, 0) Jr
            have cr6 : w3.cell? ⟨w.heap.size, 6, none⟩ = some (.int .u32 r.sl) := cell_of_row w3 (w.heap.size) 6 _ _ (0, 0) Jr
            have cr7 : w3.cell? ⟨w.heap.size, 7, none⟩ = some (.int .u32 r.sh) := cell_of_row w3 (w.heap.size) 7 _ _ (0, 0) Jr
            have cr8 : w3.cell? ⟨w.heap.size, 8, none⟩ = some (.int .u32 r.dl) := cell_of_row w3 (w.heap.size) 8 _ _ (0, 0) Jr
            have cr9 : w3.cell? ⟨w.heap.size, 9, none⟩ = some (.int .u32 r.dh) := cell_of_row w3 (w.heap.size) 9 _ _ (0, 0) Jr
            have lr : w.heap.size < w3.heap.size := lt_of_block Jr
            have nr : w.heap.size ≠ w3.heap.size := Nat.ne_of_lt lr
            have Kr := Lib.hid Jr
            clear Jr
            go_wp2_with fail
            refine (ports_any _ _ _).mono ?_
            rintro e w4 ⟨rfl, hb⟩
            have Jr := blk_below hb Kr.out
            have hbw' := below_call hbw hb
            clear hb hbw Kr lr nr cr0 cr1 cr2 cr3 cr4 cr5 cr6 cr7 cr8 cr9
            have hbw := hbw'
            clear hbw'
            have cr0 : w4.cell? ⟨w.heap.size, 0, none⟩ = some (.bool r.permit) := cell_of_row w4 (w.heap.size) 0 _ _ (0, 0) Jr
            have cr1 : w4.cell? ⟨w.heap.size, 1, none⟩ = some (.int .i64 r.proto) := cell_of_row w4 (w.heap.size) 1 _ _ (0, 0) Jr
            have cr2 : w4.cell? ⟨w.heap.size, 2, none⟩ = some (.int .u32 r.sa) := cell_of_row w4 (w.heap.size) 2 _ _ (0, 0) Jr
            have cr3 : w4.cell? ⟨w.heap.size, 3, none⟩ = some (.int .i64 r.sn) := cell_of_row w4 (w.heap.size) 3 _ _ (0, 0) Jr
            have cr4 : w4.cell? ⟨w.heap.size, 4, none⟩ = some (.int .u32 r.da) := cell_of_row w4 (w.heap.size) 4 _ _ (0, 0) Jr
            have cr5 : w4.cell? ⟨w.heap.size, 5, none⟩ = some (.int .i64 r.dn) := cell_of_row w4 (w.heap.size) 5 _ _ (0, 0) Jr
            have cr6 : w4.cell? ⟨w.heap.size, 6, none⟩ = some (.int .u32 r.sl) := cell_of_row w4 (w.heap.size) 6 _ _ (0, 0) Jr
            have cr7 : w4.cell? ⟨w.heap.size, 7, none⟩ = some (.int .u32 r.sh) := cell_of_row w4 (w.heap.size) 7 _ _ (0, 0) Jr
            have cr8 : w4.cell? ⟨w.heap.size, 8, none⟩ = some (.int .u32 r.dl) := cell_of_row w4 (w.heap.size) 8 _ _ (0, 0) Jr
            have cr9 : w4.cell? ⟨w.heap.size, 9, none⟩ = some (.int .u32 r.dh) := cell_of_row w4 (w.heap.size) 9 _ _ (0, 0) Jr
            have lr : w.heap.size < w4.heap.size := lt_of_block Jr
            have nr : w.heap.size ≠ w4.heap.size := Nat.ne_of_lt lr
            have Kr := Lib.hid Jr
            clear Jr
            go_wp2
            go_ret
            exact ⟨ret_bool hE.out, hbw⟩
          · have t4b0 : portsB r.sl r.sh = false := by first | (simp [*]; done) | (simp; omega) | (simp [*]; omega)
            have hE : Hid (false = mayB r) := by unfold Hid; simp [mayB, *]
            clear q0a q1a q2a q3a q4a
            go_enter Tryz.func107, Tryz.ntmps107
            go_wp2_with fail
            refine (addrCheck_any _ _ _ r.hsa.1 r.hsa.2).mono ?_
            rintro e w1 ⟨rfl, hb⟩
            have Jr := blk_below hb (blk1 w _)
            have hbw := below_call (below1 w _) hb
            clear hb
            have cr0 : w1.cell? ⟨w.heap.size, 0, none⟩ = some (.bool r.permit) := cell_of_row w1 (w.heap.size) 0 _ _ (0, 0) Jr
            have cr1 : w1.cell? ⟨w.heap.size, 1, none⟩ = some (.int .i64 r.proto) := cell_of_row w1 (w.heap.size) 1 _ _ (0, 0) Jr
            have cr2 : w1.cell? ⟨w.heap.size, 2, none⟩ = some (.int .u32 r.sa) := cell_of_row w1 (w.heap.size) 2 _ _ (0, 0) Jr
            have cr3 : w1.cell? ⟨w.heap.size, 3, none⟩ = some (.int .i64 r.sn) := cell_of_row w1 (w.heap.size) 3 _ _ (0, 0) Jr
            have cr4 : w1.cell? ⟨w.heap.size, 4, none⟩ = some (.int .u32 r.da) := cell_of_row w1 (w.heap.size) 4 _ _ (0, 0) Jr
            have cr5 : w1.cell? ⟨w.heap.size, 5, none⟩ = some (.int .i64 r.dn) := cell_of_row w1 (w.heap.size) 5 _ _ (0, 0) Jr
            have cr6 : w1.cell? ⟨w.heap.size, 6, none⟩ = some (.int .u32 r.sl) := cell_of_row w1 (w.heap.size) 6 _ _ (0, 0) Jr
            have cr7 : w1.cell? ⟨w.heap.size, 7, none⟩ = some (.int .u32 r.sh) := cell_of_row w1 (w.heap.size) 7 _ _ (0, 0) Jr
            have cr8 : w1.cell? ⟨w.heap.size, 8, none⟩ = some (.int .u32 r.dl) := cell_of_row w1 (w.heap.size) 8 _ _ (0, 0) Jr
            have cr9 : w1.cell? ⟨w.heap.size, 9, none⟩ = some (.int .u32 r.dh) := cell_of_row w1 (w.heap.size) 9 _ _ (0, 0) Jr
            have lr : w.heap.size < w1.heap.size := lt_of_block Jr
            have nr : w.heap.size ≠ w1.heap.size := Nat.ne_of_lt lr
            have Kr := Lib.hid Jr
            clear Jr
            go_wp2_with fail
            refine (addrCheck_any _ _ _ r.hda.1 r.hda.2).mono ?_
            rintro e w2 ⟨rfl, hb⟩
            have Jr := blk_below hb Kr.out
            have hbw' := below_call hbw hb
            clear hb hbw Kr lr nr cr0 cr1 cr2 cr3 cr4 cr5 cr6 cr7 cr8 cr9
            have hbw := hbw'
            clear hbw'
            have cr0 : w2.cell? ⟨w.heap.size, 0, none⟩ = some (.bool r.permit) := cell_of_row w2 (w.heap.size) 0 _ _ (0, 0) Jr
            have cr1 : w2.cell? ⟨w.heap.size, 1, none⟩ = some (.int .i64 r.proto) := cell_of_row w2 (w.heap.size) 1 _ _ (0, 0) Jr
            have cr2 : w2.cell? ⟨w.heap.size, 2, none⟩ = some (.int .u32 r.sa) := cell_of_row w2 (w.heap.size) 2 _ _ (0, 0) Jr
            have cr3 : w2.cell? ⟨w.heap.size, 3, none⟩ = some (.int .i64 r.sn) := cell_of_row w2 (w.heap.size) 3 _ _ (0, 0) Jr
            have cr4 : w2.cell? ⟨w.heap.size, 4, none⟩ = some (.int .u32 r.da) := cell_of_row w2 (w.heap.size) 4 _ _ (0, 0) Jr
            have cr5 : w2.cell? ⟨w.heap.size, 5, none⟩ = some (.int .i64 r.dn) := cell_of_row w2 (w.heap.size) 5 _ _ (0, 0) Jr
            have cr6 : w2.cell? ⟨w.heap.size, 6, none⟩ = some (.int .u32 r.sl) := cell_of_row w2 (w.heap.size) 6 _ _ (0, 0) Jr
            have cr7 : w2.cell? ⟨w.heap.size, 7, none⟩ = some (.int .u32 r.sh) := cell_of_row w2 (w.heap.size) 7 _ _ (0, 0) Jr
            have cr8 : w2.cell? ⟨w.heap.size, 8, none⟩ = some (.int .u32 r.dl) := cell_of_row w2 (w.heap.size) 8 _ _ (0, 0) Jr
            have cr9 : w2.cell? ⟨w.heap.size, 9, none⟩ = some (.int .u32 r.dh) := cell_of_row w2 (w.heap.size) 9 _ _ (0, 0) Jr
            have lr : w.heap.size < w2.heap.size := lt_of_block Jr
            have nr : w.heap.size ≠ w2.heap.size := Nat.ne_of_lt lr
            have Kr := Lib.hid Jr
            clear Jr
            go_wp2_with fail
            refine (ports_any _ _ _).mono ?_
            rintro e w3 ⟨rfl, hb⟩
            have Jr := blk_below hb Kr.out
            have hbw' := below_call hbw hb
            clear hb hbw Kr lr nr cr0 cr1 cr2 cr3 cr4 cr5 cr6 cr7 cr8 cr9
            have hbw := hbw'
            clear hbw'
            have cr0 : w3.cell? ⟨w.heap.size, 0, none⟩ = some (.bool r.permit) := cell_of_row w3 (w.heap.size) 0 _ _ (0, 0) Jr
            have cr1 : w3.cell? ⟨w.heap.size, 1, none⟩ = some (.int .i64 r.proto) := cell_of_row w3 (w.heap.size) 1 _ _ (0, 0) Jr
            have cr2 : w3.cell? ⟨w.heap.size, 2, none⟩ = some (.int .u32 r.sa) := cell_of_row w3 (w.heap.size) 2 _ _ (0, 0) Jr
            have cr3 : w3.cell? ⟨w.heap.size, 3, none⟩ = some (.int .i64 r.sn) := cell_of_row w3 (w.heap.size) 3 _ _ (0, 0) Jr
            have cr4 : w3.cell? ⟨w.heap.size, 4, none⟩ = some (.int .u32 r.da) := cell_of_row w3 (w.heap.size) 4 _ _ (0, 0) Jr
            have cr5 : w3.cell? ⟨w.heap.size, 5, none⟩ = some (.int .i64 r.dn) := cell_of_row w3 (w.heap.size) 5 _ _ (0, 0) Jr
            have cr6 : w3.cell? ⟨w.heap.size, 6, none⟩ = some (.int .u32 r.sl) := cell_of_row w3 (w.heap.size) 6 _ _ (0, 0) Jr
            have cr7 : w3.cell? ⟨w.heap.size, 7, none⟩ = some (.int .u32 r.sh) := cell_of_row w3 (w.heap.size) 7 _ _ (0, 0) Jr
            have cr8 : w3.cell? ⟨w.heap.size, 8, none⟩ = some (.int .u32 r.dl) := cell_of_row w3 (w.heap.size) 8 _ _ (0, 0) Jr
            have cr9 : w3.cell? ⟨w.heap.size, 9, none⟩ = some (.int .u32 r.dh) := cell_of_row w3 (w.heap.size) 9 _ _ (0, 0) Jr
            have lr : w.heap.size < w3.heap.size := lt_of_block Jr
            have nr : w.heap.size ≠ w3.heap.size := Nat.ne_of_lt lr
            have Kr := Lib.hid Jr
            clear Jr
            go_wp2
            go_ret
            exact ⟨ret_bool hE.out, hbw⟩
        · have t3b0 : (chk r.da r.dn == 0) = false := by first | (simp [*]; done) | (simp; omega) | (simp [*]; omega)
          have hE : Hid (false = mayB r) := by unfold Hid; simp [mayB, *]
          clear q0a q1a q2a q3a
          go_enter Tryz.func107, Tryz.ntmps107
          go_wp2_with fail
          refine (addrCheck_any _ _ _ r.hsa.1 r.hsa.2).mono ?_
          rintro e w1 ⟨rfl, hb⟩
          have Jr := blk_below hb (blk1 w _)
          have hbw := below_call (below1 w _) hb
          clear hb
          have cr0 : w1.cell? ⟨w.heap.size, 0, none⟩ = some (.bool r.permit) := cell_of_row w1 (w.heap.size) 0 _ _ (0, 0) Jr
          have cr1 : w1.cell? ⟨w.heap.size, 1, none⟩ = some (.int .i64 r.proto) := cell_of_row w1 (w.heap.size) 1 _ _ (0, 0) Jr
          have cr2 : w1.cell? ⟨w.heap.size, 2, none⟩ = some (.int .u32 r.sa) := cell_of_row w1 (w.heap.size) 2 _ _ (0, 0) Jr
          have cr3 : w1.cell? ⟨w.heap.size, 3, none⟩ = some (.int .i64 r.sn) := cell_of_row w1 (w.heap.size) 3 _ _ (0, 0) Jr
          have cr4 : w1.cell? ⟨w.heap.size, 4, none⟩ = some (.int .u32 r.da) := cell_of_row w1 (w.heap.size) 4 _ _ (0, 0) Jr
          have cr5 : w1.cell? ⟨w.heap.size, 5, none⟩ = some (.int .i64 r.dn) := cell_of_row w1 (w.heap.size) 5 _ _ (0, 0) Jr
          have cr6 : w1.cell? ⟨w.heap.size, 6, none⟩ = some (.int .u32 r.sl) := cell_of_row w1 (w.heap.size) 6 _ _ (0, 0) Jr
          have cr7 : w1.cell? ⟨w.heap.size, 7, none⟩ = some (.int .u32 r.sh) := cell_of_row w1 (w.heap.size) 7 _ _ (0, 0) Jr
          have cr8 : w1.cell? ⟨w.heap.size, 8, none⟩ = some (.int .u32 r.dl) := cell_of_row w1 (w.heap.size) 8 _ _ (0, 0) Jr
          have cr9 : w1.cell? ⟨w.heap.size, 9, none⟩ = some (.int .u32 r.dh) := cell_of_row w1 (w.heap.size) 9 _ _ (0, 0) Jr
          have lr : w.heap.size < w1.heap.size := lt_of_block Jr
          have nr : w.heap.size ≠ w1.heap.size := Nat.ne_of_lt lr
          have Kr := Lib.hid Jr
          clear Jr
          go_wp2_with fail
          refine (addrCheck_any _ _ _ r.hda.1 r.hda.2).mono ?_
          rintro e w2 ⟨rfl, hb⟩
          have Jr := blk_below hb Kr.out
          have hbw' := below_call hbw hb
          clear hb hbw Kr lr nr cr0 cr1 cr2 cr3 cr4 cr5 cr6 cr7 cr8 cr9
          have hbw := hbw'
          clear hbw'
          have cr0 : w2.cell? ⟨w.heap.size, 0, none⟩ = some (.bool r.permit) := cell_of_row w2 (w.heap.size) 0 _ _ (0, 0) Jr
          have cr1 : w2.cell? ⟨w.heap.size, 1, none⟩ = some (.int .i64 r.proto) := cell_of_row w2 (w.heap.size) 1 _ _ (0, 0) Jr
          have cr2 : w2.cell? ⟨w.heap.size, 2, none⟩ = some (.int .u32 r.sa) := cell_of_row w2 (w.heap.size) 2 _ _ (0, 0) Jr
          have cr3 : w2.cell? ⟨w.heap.size, 3, none⟩ = some (.int .i64 r.sn) := cell_of_row w2 (w.heap.size) 3 _ _ (0, 0) Jr
          have cr4 : w2.cell? ⟨w.heap.size, 4, none⟩ = some (.int .u32 r.da) := cell_of_row w2 (w.heap.size) 4 _ _ (0, 0) Jr
          have cr5 : w2.cell? ⟨w.heap.size, 5, none⟩ = some (.int .i64 r.dn) := cell_of_row w2 (w.heap.size) 5 _ _ (0, 0) Jr
          have cr6 : w2.cell? ⟨w.heap.size, 6, none⟩ = some (.int .u32 r.sl) := cell_of_row w2 (w.heap.size) 6 _ _ (0, 0) Jr
          have cr7 : w2.cell? ⟨w.heap.size, 7, none⟩ = some (.int .u32 r.sh) := cell_of_row w2 (w.heap.size) 7 _ _ (0, 0) Jr
          have cr8 : w2.cell? ⟨w.heap.size, 8, none⟩ = some (.int .u32 r.dl) := cell_of_row w2 (w.heap.size) 8 _ _ (0, 0) Jr
          have cr9 : w2.cell? ⟨w.heap.size, 9, none⟩ = some (.int .u32 r.dh) := cell_of_row w2 (w.heap.size) 9 _ _ (0, 0) Jr
          have lr : w.heap.size < w2.heap.size := lt_of_block Jr
          have nr : w.heap.size ≠ w2.heap.size := Nat.ne_of_lt lr
          have Kr := Lib.hid Jr
          clear Jr
          go_wp2
          go_ret
          exact ⟨ret_bool hE.out, hbw⟩
      · have t2b0 : (chk r.sa r.sn == 0) = false := by first | (simp [*]; done) | (simp; omega) | (simp [*]; omega)
        have hE : Hid (false = mayB r) := by unfold Hid; simp [mayB, *]
        clear q0a q1a q2a
        go_enter Tryz.func107, Tryz.ntmps107
        go_wp2_with fail
        refine (addrCheck_any _ _ _ r.hsa.1 r.hsa.2).mono ?_
        rintro e w1 ⟨rfl, hb⟩
        have Jr := blk_below hb (blk1 w _)
        have hbw := below_call (below1 w _) hb
        clear hb
        have cr0 : w1.cell? ⟨w.heap.size, 0, none⟩ = some (.bool r.permit) := cell_of_row w1 (w.heap.size) 0 _ _ (0, 0) Jr
        have cr1 : w1.cell? ⟨w.heap.size, 1, none⟩ = some (.int .i64 r.proto) := cell_of_row w1 (w.heap.size) 1 _ _ (0, 0) Jr
        have cr2 : w1.cell? ⟨w.heap.size, 2, none⟩ = some (.int .u32 r.sa) := cell_of_row w1 (w.heap.size) 2 _ _ (0, 0) Jr
        have cr3 : w1.cell? ⟨w.heap.size, 3, none⟩ = some (.int .i64 r.sn) := cell_of_row w1 (w.heap.size) 3 _ _ (0, 0) Jr
        have cr4 : w1.cell? ⟨w.heap.size, 4, none⟩ = some (.int .u32 r.da) := cell_of_row w1 (w.heap.size) 4 _ _ (0, 0) Jr
        have cr5 : w1.cell? ⟨w.heap.size, 5, none⟩ = some (.int .i64 r.dn) := cell_of_row w1 (w.heap.size) 5 _ _ (0, 0) Jr
        have cr6 : w1.cell? ⟨w.heap.size, 6, none⟩ = some (.int .u32 r.sl) := cell_of_row w1 (w.heap.size) 6 _ _ (0, 0) Jr
        have cr7 : w1.cell? ⟨w.heap.size, 7, none⟩ = some (.int .u32 r.sh) := cell_of_row w1 (w.heap.size) 7 _ _ (0, 0) Jr
        have cr8 : w1.cell? ⟨w.heap.size, 8, none⟩ = some (.int .u32 r.dl) := cell_of_row w1 (w.heap.size) 8 _ _ (0, 0) Jr
        have cr9 : w1.cell? ⟨w.heap.size, 9, none⟩ = some (.int .u32 r.dh) := cell_of_row w1 (w.heap.size) 9 _ _ (0, 0) Jr
        have lr : w.heap.size < w1.heap.size := lt_of_block Jr
        have nr : w.heap.size ≠ w1.heap.size := Nat.ne_of_lt lr
        have Kr := Lib.hid Jr
        clear Jr
        go_wp2
        go_ret
        exact ⟨ret_bool hE.out, hbw⟩
    · have t1b0 : decide (r.proto ≤ 255) = false := by first | (simp [*]; done) | (simp; omega) | (simp [*]; omega)
      have hE : Hid (false = mayB r) := by unfold Hid; simp [mayB, *]
      clear q0a q1a
      go_enter Tryz.func107, Tryz.ntmps107
      go_wp2
      go_ret
      exact ⟨ret_bool hE.out, below1 w _⟩
  · have t0b0 : decide (-1 ≤ r.proto) = false := by first | (simp [*]; done) | (simp; omega) | (simp [*]; omega)
    have hE : Hid (false = mayB r) := by unfold Hid; simp [mayB, *]
    clear q0a
    go_enter Tryz.func107, Tryz.ntmps107
    go_wp2
    go_ret
    exact ⟨ret_bool hE.out, below1 w _⟩

set_option maxHeartbeats 1000000 in
theorem refMay_any (r : RuleV) (w : World) :
    Calls Tryz.prog 47 #[.agg #[.bool r.permit, .int .i64 r.proto, .int .u32 r.sa, .int .i64 r.sn, .int .u32 r.da, .int .i64 r.dn, .int .u32 r.sl, .int .u32 r.sh, .int .u32 r.dl, .int .u32 r.dh]] w fun e w' => e = .returned (.bool (mayB r)) ∧ Below w.heap.size w w' := by
  by_cases q0a : -1 ≤ r.proto
  · have t0a0 : decide (-1 ≤ r.proto) = true := by first | (simp [*]; done) | (simp; omega) | (simp [*]; omega)
    by_cases q1a : r.proto ≤ 255
    · have t1a0 : decide (r.proto ≤ 255) = true := by first | (simp [*]; done) | (simp; omega) | (simp [*]; omega)
      by_cases q2a : chk r.sa r.sn = 0
      · have t2a0 : (chk r.sa r.sn == 0) = true := by first | (simp [*]; done) | (simp; omega) | (simp [*]; omega)
        by_cases q3a : chk r.da r.dn = 0
        · have t3a0 : (chk r.da r.dn == 0) = true := by first | (simp [*]; done) | (simp; omega) | (simp [*]; omega)
          by_cases q4a : r.sl ≤ r.sh
          · have t4a0 : decide (r.sl ≤ r.sh) = true := by first | (simp [*]; done) | (simp; omega) | (simp [*]; omega)
            by_cases q5a : r.sh ≤ 65535
            · have t5a0 : decide (r.sh ≤ 65535) = true := by first | (simp [*]; done) | (simp; omega) | (simp [*]; omega)
              by_cases q6a : r.dl ≤ r.dh
              · have t6a0 : decide (r.dl ≤ r.dh) = true := by first | (simp [*]; done) | (simp; omega) | (simp [*]; omega)
                have hE : Hid (decide (r.dh ≤ 65535) = mayB r) := by unfold Hid; simp [mayB, portsB, *]
                clear q0a q1a q2a q3a q4a q5a q6a
                go_enter Tryz.func47, Tryz.ntmps47
                go_wp2_with fail
                refine (refCheck_any _ _ _ r.hsa.1 r.hsa.2).mono ?_
                rintro e w1 ⟨rfl, hb⟩
                have Jr := blk_below hb (blk1 w _)
                have hbw := below_call (below1 w _) hb
                clear hb
                have cr0 : w1.cell? ⟨w.heap.size, 0, none⟩ = some (.bool r.permit) := cell_of_row w1 (w.heap.size) 0 _ _ (0, 0) Jr
                have cr1 : w1.cell? ⟨w.heap.size, 1, none⟩ = some (.int .i64 r.proto) := cell_of_row w1 (w.heap.size) 1 _ _ (0, 0) Jr
                have cr2 : w1.cell? ⟨w.heap.size, 2, none⟩ = some (.int .u32 r.sa) := cell_of_row w1 (w.heap.size) 2 _ _ (0, 0) Jr
                have cr3 : w1.cell? ⟨w.heap.size, 3, none⟩ = some (.int .i64 r.sn) := cell_of_row w1 (w.heap.size) 3 _ _ (0, 0) Jr
                have cr4 : w1.cell? ⟨w.heap.size, 4, none⟩ = some (.int .u32 r.da) := cell_of_row w1 (w.heap.size) 4 _ _ (0, 0) Jr
                have cr5 : w1.cell? ⟨w.heap.size, 5, none⟩ = some (.int .i64 r.dn) := cell_of_row w1 (w.heap.size) 5 _ _ (0, 0) Jr
                have cr6 : w1.cell? ⟨w.heap.size, 6, none⟩ = some (.int .u32 r.sl) := cell_of_row w1 (w.heap.size) 6 _ _ (0, 0) Jr
                have cr7 : w1.cell? ⟨w.heap.size, 7, none⟩ = some (.int .u32 r.sh) := cell_of_row w1 (w.heap.size) 7 _ _ (0, 0) Jr
                have cr8 : w1.cell? ⟨w.heap.size, 8, none⟩ = some (.int .u32 r.dl) := cell_of_row w1 (w.heap.size) 8 _ _ (0, 0) Jr
                have cr9 : w1.cell? ⟨w.heap.size, 9, none⟩ = some (.int .u32 r.dh) := cell_of_row w1 (w.heap.size) 9 _ _ (0, 0) Jr
                have lr : w.heap.size < w1.heap.size := lt_of_block Jr
                have nr : w.heap.size ≠ w1.heap.size := Nat.ne_of_lt lr
                have Kr := Lib.hid Jr
                clear Jr
                go_wp2_with fail
                refine (refCheck_any _ _ _ r.hda.1 r.hda.2).mono ?_
                rintro e w2 ⟨rfl, hb⟩
                have Jr := blk_below hb Kr.out
                have hbw' := below_call hbw hb
                clear hb hbw Kr lr nr cr0 cr1 cr2 cr3 cr4 cr5 cr6 cr7 cr8 cr9
                have hbw := hbw'
                clear hbw'
                have cr0 : w2.cell? ⟨w.heap.size, 0, none⟩ = some (.bool r.permit) := cell_of_row w2 (w.heap.size) 0 _ _ (0, 0) Jr
                have cr1 : w2.cell? ⟨w.heap.size, 1, none⟩ = some (.int .i64 r.proto) := cell_of_row w2 (w.heap.size) 1 _ _ (0, 0) Jr
                have cr2 : w2.cell? ⟨w.heap.size, 2, none⟩ = some (.int .u32 r.sa) := cell_of_row w2 (w.heap.size) 2 _ _ (0, 0) Jr
                have cr3 : w2.cell? ⟨w.heap.size, 3, none⟩ = some (.int .i64 r.sn) := cell_of_row w2 (w.heap.size) 3 _ _ (0, 0) Jr
                have cr4 : w2.cell? ⟨w.heap.size, 4, none⟩ = some (.int .u32 r.da) := cell_of_row w2 (w.heap.size) 4 _ _ (0, 0) Jr
                have cr5 : w2.cell? ⟨w.heap.size, 5, none⟩ = some (.int .i64 r.dn) := cell_of_row w2 (w.heap.size) 5 _ _ (0, 0) Jr
                have cr6 : w2.cell? ⟨w.heap.size, 6, none⟩ = some (.int .u32 r.sl) := cell_of_row w2 (w.heap.size) 6 _ _ (0, 0) Jr
                have cr7 : w2.cell? ⟨w.heap.size, 7, none⟩ = some (.int .u32 r.sh) := cell_of_row w2 (w.heap.size) 7 _ _ (0, 0) Jr
                have cr8 : w2.cell? ⟨w.heap.size, 8, none⟩ = some (.int .u32 r.dl) := cell_of_row w2 (w.heap.size) 8 _ _ (0, 0) Jr
                have cr9 : w2.cell? ⟨w.heap.size, 9, none⟩ = some (.int .u32 r.dh) := cell_of_row w2 (w.heap.size) 9 _ _ (0, 0) Jr
                have lr : w.heap.size < w2.heap.size := lt_of_block Jr
                have nr : w.heap.size ≠ w2.heap.size := Nat.ne_of_lt lr
                have Kr := Lib.hid Jr
                clear Jr
                go_wp2
                go_ret
                exact ⟨ret_bool hE.out, hbw⟩
              · have t6b0 : decide (r.dl ≤ r.dh) = false := by first | (simp [*]; done) | (simp; omega) | (simp [*]; omega)
                have hE : Hid (false = mayB r) := by unfold Hid; simp [mayB, portsB, *]
                clear q0a q1a q2a q3a q4a q5a q6a
                go_enter Tryz.func47, Tryz.ntmps47
                go_wp2_with fail
                refine (refCheck_any _ _ _ r.hsa.1 r.hsa.2).mono ?_
                rintro e w1 ⟨rfl, hb⟩
                have Jr := blk_below hb (blk1 w _)
                have hbw := below_call (below1 w _) hb
                clear hb
                have cr0 : w1.cell? ⟨w.heap.size, 0, none⟩ = some (.bool r.permit) := cell_of_row w1 (w.heap.size) 0 _ _ (0, 0) Jr
                have cr1 : w1.cell? ⟨w.heap.size, 1, none⟩ = some (.int .i64 r.proto) := cell_of_row w1 (w.heap.size) 1 _ _ (0, 0) Jr
                have cr2 : w1.cell? ⟨w.heap.size, 2, none⟩ = some (.int .u32 r.sa) := cell_of_row w1 (w.heap.size) 2 _ _ (0, 0) Jr
                have cr3 : w1.cell? ⟨w.heap.size, 3, none⟩ = some (.int .i64 r.sn) := cell_of_row w1 (w.heap.size) 3 _ _ (0, 0) Jr
                have cr4 : w1.cell? ⟨w.heap.size, 4, none⟩ = some (.int .u32 r.da) := cell_of_row w1 (w.heap.size) 4 _ _ (0, 0) Jr
                have cr5 : w1.cell? ⟨w.heap.size, 5, none⟩ = some (.int .i64 r.dn) := cell_of_row w1 (w.heap.size) 5 _ _ (0, 0) Jr
                have cr6 : w1.cell? ⟨w.heap.size, 6, none⟩ = some (.int .u32 r.sl) := cell_of_row w1 (w.heap.size) 6 _ _ (0, 0) Jr
                have cr7 : w1.cell? ⟨w.heap.size, 7, none⟩ = some (.int .u32 r.sh) := cell_of_row w1 (w.heap.size) 7 _ _ (0, 0) Jr
                have cr8 : w1.cell? ⟨w.heap.size, 8, none⟩ = some (.int .u32 r.dl) := cell_of_row w1 (w.heap.size) 8 _ _ (0, 0) Jr
                have cr9 : w1.cell? ⟨w.heap.size, 9, none⟩ = some (.int .u32 r.dh) := cell_of_row w1 (w.heap.size) 9 _ _ (0, 0) Jr
                have lr : w.heap.size < w1.heap.size := lt_of_block Jr
                have nr : w.heap.size ≠ w1.heap.size := Nat.ne_of_lt lr
                have Kr := Lib.hid Jr
                clear Jr
                go_wp2_with fail
                refine (refCheck_any _ _ _ r.hda.1 r.hda.2).mono ?_
                rintro e w2 ⟨rfl, hb⟩
                have Jr := blk_below hb Kr.out
                have hbw' := below_call hbw hb
                clear hb hbw Kr lr nr cr0 cr1 cr2 cr3 cr4 cr5 cr6 cr7 cr8 cr9
                have hbw := hbw'
                clear hbw'
                have cr0 : w2.cell? ⟨w.heap.size, 0, none⟩ = some (.bool r.permit) := cell_of_row w2 (w.heap.size) 0 _ _ (0, 0) Jr
                have cr1 : w2.cell? ⟨w.heap.size, 1, none⟩ = some (.int .i64 r.proto) := cell_of_row w2 (w.heap.size) 1 _ _ (0, 0) Jr
                have cr2 : w2.cell? ⟨w.heap.size, 2, none⟩ = some (.int .u32 r.sa) := cell_of_row w2 (w.heap.size) 2 _ _ (0, 0) Jr
                have cr3 : w2.cell? ⟨w.heap.size, 3, none⟩ = some (.int .i64 r.sn) := cell_of_row w2 (w.heap.size) 3 _ _ (0, 0) Jr
                have cr4 : w2.cell? ⟨w.heap.size, 4, none⟩ = some (.int .u32 r.da) := cell_of_row w2 (w.heap.size) 4 _ _ (0, 0) Jr
                have cr5 : w2.cell? ⟨w.heap.size, 5, none⟩ = some (.int .i64 r.dn) := cell_of_row w2 (w.heap.size) 5 _ _ (0, 0) Jr
                have cr6 : w2.cell? ⟨w.heap.size, 6, none⟩ = some (.int .u32 r.sl) := cell_of_row w2 (w.heap.size) 6 _ _ (0, 0) Jr
                have cr7 : w2.cell? ⟨w.heap.size, 7, none⟩ = some (.int .u32 r.sh) := cell_of_row w2 (w.heap.size) 7 _ _ (0, 0) Jr
                have cr8 : w2.cell? ⟨w.heap.size, 8, none⟩ = some (.int .u32 r.dl) := cell_of_row w2 (w.heap.size) 8 _ _ (0, 0) Jr
                have cr9 : w2.cell? ⟨w.heap.size, 9, none⟩ = some (.int .u32 r.dh) := cell_of_row w2 (w.heap.size) 9 _ _ (0, 0) Jr
                have lr : w.heap.size < w2.heap.size := lt_of_block Jr
                have nr : w.heap.size ≠ w2.heap.size := Nat.ne_of_lt lr
                have Kr := Lib.hid Jr
                clear Jr
                go_wp2
                go_ret
                exact ⟨ret_bool hE.out, hbw⟩
            · have t5b0 : decide (r.sh ≤ 65535) = false := by first | (simp [*]; done) | (simp; omega) | (simp [*]; omega)
              have hE : Hid (false = mayB r) := by unfold Hid; simp [mayB, portsB, *]
              clear q0a q1a q2a q3a q4a q5a
              go_enter Tryz.func47, Tryz.ntmps47
              go_wp2_with fail
              refine (refCheck_any _ _ _ r.hsa.1 r.hsa.2).mono ?_
              rintro e w1 ⟨rfl, hb⟩
              have Jr := blk_below hb (blk1 w _)
              have hbw := below_call (below1 w _) hb
              clear hb
              have cr0 : w1.cell? ⟨w.heap.size, 0, none⟩ = some (.bool r.permit) := cell_of_row w1 (w.heap.size) 0 _ _ (0, 0) Jr
              have cr1 : w1.cell? ⟨w.heap.size, 1, none⟩ = some (.int .i64 r.proto) := cell_of_row w1 (w.heap.size) 1 _ _ (0, 0) Jr
              have cr2 : w1.cell? ⟨w.heap.size, 2, none⟩ = some (.int .u32 r.sa) := cell_of_row w1 (w.heap.size) 2 _ _ (0, 0) Jr
              have cr3 : w1.cell? ⟨w.heap.size, 3, none⟩ = some (.int .i64 r.sn) := cell_of_row w1 (w.heap.size) 3 _ _ (0, 0) Jr
              have cr4 : w1.cell? ⟨w.heap.size, 4, none⟩ = some (.int .u32 r.da) := cell_of_row w1 (w.heap.size) 4 _ _ (0, 0) Jr
              have cr5 : w1.cell? ⟨w.heap.size, 5, none⟩ = some (.int .i64 r.dn) := cell_of_row w1 (w.heap.size) 5 _ _ (0, 0) Jr
              have cr6 : w1.cell? ⟨w.heap.size, 6, none⟩ = some (.int .u32 r.sl) := cell_of_row w1 (w.heap.size) 6 _ _ (0, 0) Jr
              have cr7 : w1.cell? ⟨w.heap.size, 7, none⟩ = some (.int .u32 r.sh) := cell_of_row w1 (w.heap.size) 7 _ _ (0, 0) Jr
              have cr8 : w1.cell? ⟨w.heap.size, 8, none⟩ = some (.int .u32 r.dl) := cell_of_row w1 (w.heap.size) 8 _ _ (0, 0) Jr
              have cr9 : w1.cell? ⟨w.heap.size, 9, none⟩ = some (.int .u32 r.dh) := cell_of_row w1 (w.heap.size) 9 _ _ (0, 0) Jr
              have lr : w.heap.size < w1.heap.size := lt_of_block Jr
              have nr : w.heap.size ≠ w1.heap.size := Nat.ne_of_lt lr
              have Kr := Lib.hid Jr
              clear Jr
              go_wp2_with fail
              refine (refCheck_any _ _ _ r.hda.1 r.hda.2).mono ?_
              rintro e w2 ⟨rfl, hb⟩
              have Jr := blk_below hb Kr.out
              have hbw' := below_call hbw hb
              clear hb hbw Kr lr nr cr0 cr1 cr2 cr3 cr4 cr5 cr6 cr7 cr8 cr9
              have hbw := hbw'
              clear hbw'
              have cr0 : w2.cell? ⟨w.heap.size, 0, none⟩ = some (.bool r.permit) := cell_of_row w2 (w.heap.size) 0 _ _ (0, 0) Jr
              have cr1 : w2.cell? ⟨w.heap.size, 1, none⟩ = some (.int .i64 r.proto) := cell_of_row w2 (w.heap.size) 1 _ _ (0, 0) Jr
              have cr2 : w2.cell? ⟨w.heap.size, 2, none⟩ = some (.int .u32 r.sa) := cell_of_row w2 (w.heap.size) 2 _ _ (0, 0) Jr
              have cr3 : w2.cell? ⟨w.heap.size, 3, none⟩ = some (.int .i64 r.sn) := cell_of_row w2 (w.heap.size) 3 _ _ (0, 0) Jr
              have cr4 : w2.cell? ⟨w.heap.size, 4, none⟩ = some (.int .u32 r.da) := cell_of_row w2 (w.heap.size) 4 _ _ (0, 0) Jr
              have cr5 : w2.cell? ⟨w.heap.size, 5, none⟩ = some (.int .i64 r.dn) := cell_of_row w2 (w.heap.size) 5 _ _ (0, 0) Jr
              have cr6 : w2.cell? ⟨w.heap.size, 6, none⟩ = some (.int .u32 r.sl) := cell_of_row w2 (w.heap.size) 6 _ _ (0, 0) Jr
              have cr7 : w2.cell? ⟨w.heap.size, 7, none⟩ = some (.int .u32 r.sh) := cell_of_row w2 (w.heap.size) 7 _ _ (0, 0) Jr
              have cr8 : w2.cell? ⟨w.heap.size, 8, none⟩ = some (.int .u32 r.dl) := cell_of_row w2 (w.heap.size) 8 _ _ (0, 0) Jr
              have cr9 : w2.cell? ⟨w.heap.size, 9, none⟩ = some (.int .u32 r.dh) := cell_of_row w2 (w.heap.size) 9 _ _ (0, 0) Jr
              have lr : w.heap.size < w2.heap.size := lt_of_block Jr
              have nr : w.heap.size ≠ w2.heap.size := Nat.ne_of_lt lr
              have Kr := Lib.hid Jr
              clear Jr
              go_wp2
              go_ret
              exact ⟨ret_bool hE.out, hbw⟩
          · have t4b0 : decide (r.sl ≤ r.sh) = false := by first | (simp [*]; done) | (simp; omega) | (simp [*]; omega)
            have hE : Hid (false = mayB r) := by unfold Hid; simp [mayB, portsB, *]
            clear q0a q1a q2a q3a q4a
            go_enter Tryz.func47, Tryz.ntmps47
            go_wp2_with fail
            refine (refCheck_any _ _ _ r.hsa.1 r.hsa.2).mono ?_
            rintro e w1 ⟨rfl, hb⟩
            have Jr := blk_below hb (blk1 w _)
            have hbw := below_call (below1 w _) hb
            clear hb
            have cr0 : w1.cell? ⟨w.heap.size, 0, none⟩ = some (.bool r.permit) := cell_of_row w1 (w.heap.size) 0 _ _ (0, 0) Jr
            have cr1 : w1.cell? ⟨w.heap.size, 1, none⟩ = some (.int .i64 r.proto) := cell_of_row w1 (w.heap.size) 1 _ _ (0, 0) Jr
            have cr2 : w1.cell? ⟨w.heap.size, 2, none⟩ = some (.int .u32 r.sa) := cell_of_row w1 (w.heap.size) 2 _ _ (0, 0) Jr
            have cr3 : w1.cell? ⟨w.heap.size, 3, none⟩ = some (.int .i64 r.sn) := cell_of_row w1 (w.heap.size) 3 _ _ (0, 0) Jr
            have cr4 : w1.cell? ⟨w.heap.size, 4, none⟩ = some (.int .u32 r.da) := cell_of_row w1 (w.heap.size) 4 _ _ (0, 0) Jr
            have cr5 : w1.cell? ⟨w.heap.size, 5, none⟩ = some (.int .i64 r.dn) := cell_of_row w1 (w.heap.size) 5 _ _ (0, 0) Jr
            have cr6 : w1.cell? ⟨w.heap.size, 6, none⟩ = some (.int .u32 r.sl) := cell_of_row w1 (w.heap.size) 6 _ _ (0, 0) Jr
            have cr7 : w1.cell? ⟨w.heap.size, 7, none⟩ = some (.int .u32 r.sh) := cell_of_row w1 (w.heap.size) 7 _ _ (0, 0) Jr
            have cr8 : w1.cell? ⟨w.heap.size, 8, none⟩ = some (.int .u32 r.dl) := cell_of_row w1 (w.heap.size) 8 _ _ (0, 0) Jr
            have cr9 : w1.cell? ⟨w.heap.size, 9, none⟩ = some (.int .u32 r.dh) := cell_of_row w1 (w.heap.size) 9 _ _ (0, 0) Jr
            have lr : w.heap.size < w1.heap.size := lt_of_block Jr
            have nr : w.heap.size ≠ w1.heap.size := Nat.ne_of_lt lr
            have Kr := Lib.hid Jr
            clear Jr
            go_wp2_with fail
            refine (refCheck_any _ _ _ r.hda.1 r.hda.2).mono ?_
            rintro e w2 ⟨rfl, hb⟩
            have Jr := blk_below hb Kr.out
            have hbw' := below_call hbw hb
            clear hb hbw Kr lr nr cr0 cr1 cr2 cr3 cr4 cr5 cr6 cr7 cr8 cr9
            have hbw := hbw'
            clear hbw'
            have cr0 : w2.cell? ⟨w.heap.size, 0, none⟩ = some (.bool r.permit) := cell_of_row w2 (w.heap.size) 0 _ _ (0, 0) Jr
            have cr1 : w2.cell? ⟨w.heap.size, 1, none⟩ = some (.int .i64 r.proto) := cell_of_row w2 (w.heap.size) 1 _ _ (0, 0) Jr
            have cr2 : w2.cell? ⟨w.heap.size, 2, none⟩ = some (.int .u32 r.sa) := cell_of_row w2 (w.heap.size) 2 _ _ (0, 0) Jr
            have cr3 : w2.cell? ⟨w.heap.size, 3, none⟩ = some (.int .i64 r.sn) := cell_of_row w2 (w.heap.size) 3 _ _ (0, 0) Jr
            have cr4 : w2.cell? ⟨w.heap.size, 4, none⟩ = some (.int .u32 r.da) := cell_of_row w2 (w.heap.size) 4 _ _ (0, 0) Jr
            have cr5 : w2.cell? ⟨w.heap.size, 5, none⟩ = some (.int .i64 r.dn) := cell_of_row w2 (w.heap.size) 5 _ _ (0, 0) Jr
            have cr6 : w2.cell? ⟨w.heap.size, 6, none⟩ = some (.int .u32 r.sl) := cell_of_row w2 (w.heap.size) 6 _ _ (0, 0) Jr
            have cr7 : w2.cell? ⟨w.heap.size, 7, none⟩ = some (.int .u32 r.sh) := cell_of_row w2 (w.heap.size) 7 _ _ (0, 0) Jr
            have cr8 : w2.cell? ⟨w.heap.size, 8, none⟩ = some (.int .u32 r.dl) := cell_of_row w2 (w.heap.size) 8 _ _ (0, 0) Jr
            have cr9 : w2.cell? ⟨w.heap.size, 9, none⟩ = some (.int .u32 r.dh) := cell_of_row w2 (w.heap.size) 9 _ _ (0, 0) Jr
            have lr : w.heap.size < w2.heap.size := lt_of_block Jr
            have nr : w.heap.size ≠ w2.heap.size := Nat.ne_of_lt lr
            have Kr := Lib.hid Jr
            clear Jr
            go_wp2
            go_ret
            exact ⟨ret_bool hE.out, hbw⟩
        · have t3b0 : (chk r.da r.dn == 0) = false := by first | (simp [*]; done) | (simp; omega) | (simp [*]; omega)
          have hE : Hid (false = mayB r) := by unfold Hid; simp [mayB, portsB, *]
          clear q0a q1a q2a q3a
          go_enter Tryz.func47, Tryz.ntmps47
          go_wp2_with fail
          refine (refCheck_any _ _ _ r.hsa.1 r.hsa.2).mono ?_
          rintro e w1 ⟨rfl, hb⟩
          have Jr := blk_below hb (blk1 w _)
          have hbw := below_call (below1 w _) hb
          clear hb
          have cr0 : w1.cell? ⟨w.heap.size, 0, none⟩ = some (.bool r.permit) := cell_of_row w1 (w.heap.size) 0 _ _ (0, 0) Jr
          have cr1 : w1.cell? ⟨w.heap.size, 1, none⟩ = some (.int .i64 r.proto) := cell_of_row w1 (w.heap.size) 1 _ _ (0, 0) Jr
          have cr2 : w1.cell? ⟨w.heap.size, 2, none⟩ = some (.int .u32 r.sa) := cell_of_row w1 (w.heap.size) 2 _ _ (0, 0) Jr
          have cr3 : w1.cell? ⟨w.heap.size, 3, none⟩ = some (.int .i64 r.sn) := cell_of_row w1 (w.heap.size) 3 _ _ (0, 0) Jr
          have cr4 : w1.cell? ⟨w.heap.size, 4, none⟩ = some (.int .u32 r.da) := cell_of_row w1 (w.heap.size) 4 _ _ (0, 0) Jr
          have cr5 : w1.cell? ⟨w.heap.size, 5, none⟩ = some (.int .i64 r.dn) := cell_of_row w1 (w.heap.size) 5 _ _ (0, 0) Jr
          have cr6 : w1.cell? ⟨w.heap.size, 6, none⟩ = some (.int .u32 r.sl) := cell_of_row w1 (w.heap.size) 6 _ _ (0, 0) Jr
          have cr7 : w1.cell? ⟨w.heap.size, 7, none⟩ = some (.int .u32 r.sh) := cell_of_row w1 (w.heap.size) 7 _ _ (0, 0) Jr
          have cr8 : w1.cell? ⟨w.heap.size, 8, none⟩ = some (.int .u32 r.dl) := cell_of_row w1 (w.heap.size) 8 _ _ (0, 0) Jr
          have cr9 : w1.cell? ⟨w.heap.size, 9, none⟩ = some (.int .u32 r.dh) := cell_of_row w1 (w.heap.size) 9 _ _ (0, 0) Jr
          have lr : w.heap.size < w1.heap.size := lt_of_block Jr
          have nr : w.heap.size ≠ w1.heap.size := Nat.ne_of_lt lr
          have Kr := Lib.hid Jr
          clear Jr
          go_wp2_with fail
          refine (refCheck_any _ _ _ r.hda.1 r.hda.2).mono ?_
          rintro e w2 ⟨rfl, hb⟩
          have Jr := blk_below hb Kr.out
          have hbw' := below_call hbw hb
          clear hb hbw Kr lr nr cr0 cr1 cr2 cr3 cr4 cr5 cr6 cr7 cr8 cr9
          have hbw := hbw'
          clear hbw'
          have cr0 : w2.cell? ⟨w.heap.size, 0, none⟩ = some (.bool r.permit) := cell_of_row w2 (w.heap.size) 0 _ _ (0, 0) Jr
          have cr1 : w2.cell? ⟨w.heap.size, 1, none⟩ = some (.int .i64 r.proto) := cell_of_row w2 (w.heap.size) 1 _ _ (0, 0) Jr
          have cr2 : w2.cell? ⟨w.heap.size, 2, none⟩ = some (.int .u32 r.sa) := cell_of_row w2 (w.heap.size) 2 _ _ (0, 0) Jr
          have cr3 : w2.cell? ⟨w.heap.size, 3, none⟩ = some (.int .i64 r.sn) := cell_of_row w2 (w.heap.size) 3 _ _ (0, 0) Jr
          have cr4 : w2.cell? ⟨w.heap.size, 4, none⟩ = some (.int .u32 r.da) := cell_of_row w2 (w.heap.size) 4 _ _ (0, 0) Jr
          have cr5 : w2.cell? ⟨w.heap.size, 5, none⟩ = some (.int .i64 r.dn) := cell_of_row w2 (w.heap.size) 5 _ _ (0, 0) Jr
          have cr6 : w2.cell? ⟨w.heap.size, 6, none⟩ = some (.int .u32 r.sl) := cell_of_row w2 (w.heap.size) 6 _ _ (0, 0) Jr
          have cr7 : w2.cell? ⟨w.heap.size, 7, none⟩ = some (.int .u32 r.sh) := cell_of_row w2 (w.heap.size) 7 _ _ (0, 0) Jr
          have cr8 : w2.cell? ⟨w.heap.size, 8, none⟩ = some (.int .u32 r.dl) := cell_of_row w2 (w.heap.size) 8 _ _ (0, 0) Jr
          have cr9 : w2.cell? ⟨w.heap.size, 9, none⟩ = some (.int .u32 r.dh) := cell_of_row w2 (w.heap.size) 9 _ _ (0, 0) Jr
          have lr : w.heap.size < w2.heap.size := lt_of_block Jr
          have nr : w.heap.size ≠ w2.heap.size := Nat.ne_of_lt lr
          have Kr := Lib.hid Jr
          clear Jr
          go_wp2
          go_ret
          exact ⟨ret_bool hE.out, hbw⟩
      · have t2b0 : (chk r.sa r.sn == 0) = false := by first | (simp [*]; done) | (simp; omega) | (simp [*]; omega)
        have hE : Hid (false = mayB r) := by unfold Hid; simp [mayB, portsB, *]
        clear q0a q1a q2a
        go_enter Tryz.func47, Tryz.ntmps47
        go_wp2_with fail
        refine (refCheck_any _ _ _ r.hsa.1 r.hsa.2).mono ?_
        rintro e w1 ⟨rfl, hb⟩
        have Jr := blk_below hb (blk1 w _)
        have hbw := below_call (below1 w _) hb
        clear hb
        have cr0 : w1.cell? ⟨w.heap.size, 0, none⟩ = some (.bool r.permit) := cell_of_row w1 (w.heap.size) 0 _ _ (0, 0) Jr
        have cr1 : w1.cell? ⟨w.heap.size, 1, none⟩ = some (.int .i64 r.proto) := cell_of_row w1 (w.heap.size) 1 _ _ (0, 0) Jr
        have cr2 : w1.cell? ⟨w.heap.size, 2, none⟩ = some (.int .u32 r.sa) := cell_of_row w1 (w.heap.size) 2 _ _ (0, 0) Jr
        have cr3 : w1.cell? ⟨w.heap.size, 3, none⟩ = some (.int .i64 r.sn) := cell_of_row w1 (w.heap.size) 3 _ _ (0, 0) Jr
        have cr4 : w1.cell? ⟨w.heap.size, 4, none⟩ = some (.int .u32 r.da) := cell_of_row w1 (w.heap.size) 4 _ _ (0, 0) Jr
        have cr5 : w1.cell? ⟨w.heap.size, 5, none⟩ = some (.int .i64 r.dn) := cell_of_row w1 (w.heap.size) 5 _ _ (0, 0) Jr
        have cr6 : w1.cell? ⟨w.heap.size, 6, none⟩ = some (.int .u32 r.sl) := cell_of_row w1 (w.heap.size) 6 _ _ (0, 0) Jr
        have cr7 : w1.cell? ⟨w.heap.size, 7, none⟩ = some (.int .u32 r.sh) := cell_of_row w1 (w.heap.size) 7 _ _ (0, 0) Jr
        have cr8 : w1.cell? ⟨w.heap.size, 8, none⟩ = some (.int .u32 r.dl) := cell_of_row w1 (w.heap.size) 8 _ _ (0, 0) Jr
        have cr9 : w1.cell? ⟨w.heap.size, 9, none⟩ = some (.int .u32 r.dh) := cell_of_row w1 (w.heap.size) 9 _ _ (0, 0) Jr
        have lr : w.heap.size < w1.heap.size := lt_of_block Jr
        have nr : w.heap.size ≠ w1.heap.size := Nat.ne_of_lt lr
        have Kr := Lib.hid Jr
        clear Jr
        go_wp2
        go_ret
        exact ⟨ret_bool hE.out, hbw⟩
    · have t1b0 : decide (r.proto ≤ 255) = false := by first | (simp [*]; done) | (simp; omega) | (simp [*]; omega)
      have hE : Hid (false = mayB r) := by unfold Hid; simp [mayB, portsB, *]
      clear q0a q1a
      go_enter Tryz.func47, Tryz.ntmps47
      go_wp2
      go_ret
      exact ⟨ret_bool hE.out, below1 w _⟩
  · have t0b0 : decide (-1 ≤ r.proto) = false := by first | (simp [*]; done) | (simp; omega) | (simp [*]; omega)
    have hE : Hid (false = mayB r) := by unfold Hid; simp [mayB, portsB, *]
    clear q0a
    go_enter Tryz.func47, Tryz.ntmps47
    go_wp2
    go_ret
    exact ⟨ret_bool hE.out, below1 w _⟩

end Go.Proofs.YtbahehmfhjkgeaaGreat

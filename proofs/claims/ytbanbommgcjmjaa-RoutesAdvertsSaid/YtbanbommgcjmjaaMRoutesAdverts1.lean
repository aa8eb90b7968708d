/-
  Joined texts: Lift, Kit, Cmp, Kit2, Ro1, Ro2, AvV.
-/
import Derived.Test.YtbanbommgcjmjaaRows
import Derived.WalkKit
import Derived.ProofKit
import Derived.OpenShut
import Derived.SizedLaws
import Derived.WalkSpells
import Derived.WalkLawsBesides
import Derived.BigQuiet
import Derived.Lib.Hide
import Derived.Lib.QuietBelow
import Derived.Deep.QuietTactic
import Derived.Test.YtbanbommgcjmjaaProg
import Derived.Lib.SlBy
import Derived.Deep.RegionHeld3
/-
  The last step of every law of this seat: the call answered true and turned nothing that was there.
-/
namespace Go.Proofs.Ytbanbommgcjmjaa
open Go Go.ChangeShapes Go.WideShapes Go.ChangeAt Go.RowKit

theorem own : ownKnob Try.prog.godebug = none := by kernel_rfl
theorem laidOut : laidOutB Try.prog = true := by kernel_rfl

theorem args_below {H : Type} {enc : TypeId × Value → H} {P : Program} (hl : laidOutB P = true) {W W' : World} (hb : Below W.heap.size W W') :
    ∀ (ts : List TypeId) (vs : List Value) (ds : List (DataW H)) (ps : List MemPlace), (∀ t ∈ ts, P.readableRec t = true ∧ t < P.types.size) →
      DataW.TrodAll enc P W 0 (fun _ => true) true ts vs ds ps → (∀ x ∈ ps, x.block < W.heap.size) → DataW.TrodAll enc P W' 0 (fun b => decide (b < W.heap.size)) true ts vs ds ps
  | [], vs, ds, ps, _, h, _ => by
    cases vs <;> cases ds <;> simp_all [DataW.TrodAll]
  | t :: ts, vs, ds, ps, hts, h, hlt => by
    obtain ⟨v, vs', d, ds', p, q, rfl, rfl, rfl, h1, h2⟩ := trodAll_cons h
    have ht := hts t (List.mem_cons_self ..)
    exact trodAll_cons_mk (Below.trod hl ht.1 ht.2 h1 hb (fun x hx => hlt x (List.mem_append_left _ hx)))
      (args_below hl hb ts vs' ds' q (fun t ht => hts t (List.mem_cons_of_mem _ ht)) h2 (fun x hx => hlt x (List.mem_append_right _ hx)))

/-- What a law's statement asks of the world behind the call. -/
theorem law_post {H : Type} {enc : TypeId × Value → H} {P : Program} (hl : laidOutB P = true) {s : ChangeSpec} {f : Func} {W W' : World} {args : Array Value} {ds : List (DataW H)} {before : List MemPlace}
    (hW : DataW.Whole enc P f.params.toList s.vars false W args.toList ds [] before) (hv : s.vars = []) (hr : f.resultTypes = #[4]) (hbool : P.underlying 4 = some .bool)
    (hts : ∀ t ∈ f.params.toList, P.readableRec t = true ∧ t < P.types.size) (hs : (s.fn H (ds ++ [])).results = [.lit (.bool true)] ∧ (s.fn H (ds ++ [])).args = ds ∧ (s.fn H (ds ++ [])).vars = [])
    (hb : Below W.heap.size W W') : s.post enc P f false true false false W args (.bool true) W' := by
  have hW0 := hW
  obtain ⟨p, q, hA, hV, rfl, _, _⟩ := hW
  have hlt : ∀ x ∈ p ++ q, x.block < W.heap.size := fun x hx => hW0.lt x hx
  refine ⟨_, _, _, [], p, [], hW0, ?_, ?_, ?_, hb.frame _, fun h => by cases h⟩
  · rw [hs.1, hr]
    exact trodAll_mk1 (shut_bool hbool true)
  · rw [hs.2.1]
    exact args_below hl hb _ _ _ _ hts hA (fun x hx => hlt x (List.mem_append_left _ hx))
  · rw [hv, hs.2.2]; rfl

end Go.Proofs.Ytbanbommgcjmjaa

/-
  Small general lemmas for the walks of this seat (contracts met in quiet regions); no program in sight.
-/
namespace Go.Proofs.Ytbanbommgcjmjaa
open Go Go.RowKit Go.Sort

theorem ret_int {k : IntKind} {a b : Int} (h : a = b) : Ending.returned (.int k a) = .returned (.int k b) := by rw [h]
theorem ret_bool {a b : Bool} (h : a = b) : Ending.returned (.bool a) = .returned (.bool b) := by rw [h]


theorem only_of_below {a w : World} (h : Below a.heap.size a w) (row : Option Nat) : a.grownBy w row := ⟨h.os, h.tape, h.output, h.size, fun i hi _ => h.block i hi⟩


/-- .. and while nothing is written. -/
theorem owns_kept_none {w w' : World} {base : Nat} {e : TypeId} {size n : Nat} {v : Value} {xs : List Value} (h : w.ownsRow base e size v n xs) (hg : w.grownBy w' none) : w'.ownsRow base e size v n xs :=
  h.kept hg (by
    cases hv : v.ownBlock with
    | none => exact .inl rfl
    | some g => exact .inr (by simp))
/-- The cells of a block that has just been laid. -/
theorem cells_new (w : World) (l : List Value) (t : TypeId) : ∀ (j : Nat) (u : Value), l[j]? = some u → (w.alloc (.cells l.toArray t)).cell? ((⟨w.heap.size, 0, none⟩ : Addr).add j) = some u := by
  intro j u hu
  have e : (⟨w.heap.size, 0, none⟩ : Addr).add j = ⟨w.heap.size, j, none⟩ := by simp [Addr.add]; omega
  rw [e, cell_of_row _ _ _ _ _ _ (heap_alloc_new w _)]
  simpa using hu
theorem below_row {B : Nat} {a w w' : World} {base : Nat} {e : TypeId} {size n : Nat} {v : Value} {xs : List Value} (h : Below B a w) (ho : w.ownsRow base e size v n xs) (hg : w.grownBy w' v.ownBlock) (hB : B ≤ w.heap.size) (hb : B ≤ base) : Below B a w' :=
  h.grown hg hB (fun k hk => by have := (ho.lt k hk).1; omega)


/-- A slice value that reads as n elements of k cells each, in a block below B. -/
def Rd (w : World) (B k : Nat) (v : Value) (n : Nat) (xs : List Value) : Prop :=
  ∃ (A : Option Addr) (c : Nat), v = .slice A n c ∧ n ≤ c ∧ xs.length = n * k ∧ (0 < n → ∃ b off, A = some ⟨b, off, none⟩ ∧ b < B ∧ ∀ j u, xs[j]? = some u → w.cell? ⟨b, off + j, none⟩ = some u)
theorem Rd.form {w : World} {B k : Nat} {v : Value} {n : Nat} {xs : List Value} (h : Rd w B k v n xs) : ∃ (A : Option Addr) (c : Nat), v = .slice A n c ∧ n ≤ c := by
  obtain ⟨A, c, hv, hc, _⟩ := h
  exact ⟨A, c, hv, hc⟩
theorem Rd.pos {w : World} {B k : Nat} {v : Value} {n : Nat} {xs : List Value} (h : Rd w B k v n xs) (hn : 0 < n) :
    ∃ b off c, v = .slice (some ⟨b, off, none⟩) n c ∧ n ≤ c ∧ b < B ∧ ∀ j u, xs[j]? = some u → w.cell? ⟨b, off + j, none⟩ = some u := by
  obtain ⟨A, c, hv, hc, _, hp⟩ := h
  obtain ⟨b, off, hA, hb, hcell⟩ := hp hn
  exact ⟨b, off, c, by rw [hv, hA], hc, hb, hcell⟩
/-- .. its cells by element and field. -/
theorem Rd.posAt {w : World} {B k : Nat} {v : Value} {n : Nat} {xs : List Value} (h : Rd w B k v n xs) (hn : 0 < n) :
    ∃ b off c, v = .slice (some ⟨b, off, none⟩) n c ∧ n ≤ c ∧ b < B ∧ ∀ i j u, xs[i * k + j]? = some u → w.cell? ⟨b, off + i * k + j, none⟩ = some u := by
  obtain ⟨b, off, c, hv, hc, hb, hcell⟩ := h.pos hn
  exact ⟨b, off, c, hv, hc, hb, fun i j u hu => by rw [Nat.add_assoc]; exact hcell _ _ hu⟩
theorem Rd.of_own {w : World} {base k : Nat} {e : TypeId} {v : Value} {n : Nat} {xs : List Value} (h : w.ownsRow base e k v n xs) : Rd w w.heap.size k v n xs := by
  have hcells := fun (g : Nat) (hg : v.ownBlock = some g) => h.cells hg
  obtain ⟨h1, h2⟩ := h
  rcases h2 with ⟨rfl, rfl⟩ | ⟨g, cap, cur, rfl, _, hg, hnc, _⟩
  · exact ⟨none, 0, rfl, Nat.le_refl _, h1, fun h => absurd h (by omega)⟩
  · refine ⟨_, cap, rfl, hnc, h1, fun _ => ⟨g, 0, rfl, (Array.getElem?_eq_some_iff.1 hg).1, fun j u hu => ?_⟩⟩
    have hj := hcells g rfl j u hu
    have e : (⟨g, 0, none⟩ : Addr).add j = ⟨g, 0 + j, none⟩ := by simp [Addr.add]; omega
    rw [← e]; exact hj
theorem Rd.of_blk {w : World} {g k n c : Nat} {cs : Array Value} {t : TypeId} (h : w.heap[g]? = some (.cells cs t (0, 0))) (hc : n ≤ c) (hl : cs.toList.length = n * k) : Rd w w.heap.size k (.slice (some ⟨g, 0, none⟩) n c) n cs.toList :=
  ⟨_, c, rfl, hc, hl, fun _ => ⟨g, 0, rfl, (Array.getElem?_eq_some_iff.1 h).1, fun j u hu => by
    rw [Nat.zero_add, cell_of_row w g j cs t (0, 0) h]
    simpa using hu⟩⟩
theorem Rd.below {w w' : World} {B k : Nat} {v : Value} {n : Nat} {xs : List Value} (h : Rd w B k v n xs) (hb : Below B w w') : Rd w' B k v n xs := by
  obtain ⟨A, c, hv, hc, hl, hp⟩ := h
  refine ⟨A, c, hv, hc, hl, fun hn => ?_⟩
  obtain ⟨b, off, hA, hB, hcell⟩ := hp hn
  exact ⟨b, off, hA, hB, fun j u hu => (hb.cell (p := ⟨b, off + j, none⟩) hB).trans (hcell j u hu)⟩
theorem Rd.mono {w : World} {B B' k : Nat} {v : Value} {n : Nat} {xs : List Value} (h : Rd w B k v n xs) (hb : B ≤ B') : Rd w B' k v n xs := by
  obtain ⟨A, c, hv, hc, hl, hp⟩ := h
  refine ⟨A, c, hv, hc, hl, fun hn => ?_⟩
  obtain ⟨b, off, hA, hB, hcell⟩ := hp hn
  exact ⟨b, off, hA, by omega, hcell⟩

/-- A block that was there is there behind a call. -/
theorem blk_below {w w1 : World} (hb : Below w.heap.size w w1) {g : Nat} {o : Obj} (h : w.heap[g]? = some o) : w1.heap[g]? = some o := (hb.block g (lt_of_block h)).trans h
theorem below1 (w : World) (A : Obj) : Below w.heap.size w (w.alloc A) := (Below.refl _ _).alloc (Nat.le_refl _) _
theorem below2 (w : World) (A B : Obj) : Below w.heap.size w ((w.alloc A).alloc B) := (below1 w A).alloc (by simp) _
theorem blk2 (w : World) (A B : Obj) : ((w.alloc A).alloc B).heap[w.heap.size]? = some A ∧ ((w.alloc A).alloc B).heap[w.heap.size + 1]? = some B := by
  have hB := heap_alloc_new (w.alloc A) B
  simp only [World.size_alloc] at hB
  exact ⟨by rw [Below.heap_alloc _ _ _ (by simp), heap_alloc_new w A], hB⟩
/-- Behind a call from a world that had laid blocks. -/
theorem below_call {w W w1 : World} (h : Below w.heap.size w W) (hb : Below W.heap.size W w1) : Below w.heap.size w w1 := h.trans (hb.mono h.size)
/-- The two cells of a block of two, and that they may be written. -/
theorem two_cells {w : World} {g : Nat} {u v : Value} {t : TypeId} (h : w.heap[g]? = some (.cells #[u, v] t (0, 0))) :
    w.cell? ⟨g, 0, none⟩ = some u ∧ w.cell? ⟨g, 1, none⟩ = some v ∧ w.frozen? ⟨g, 0, none⟩ = false ∧ w.frozen? ⟨g, 1, none⟩ = false :=
  ⟨cell_of_row w g 0 _ t (0, 0) h, cell_of_row w g 1 _ t (0, 0) h, by simp [World.frozen?, h], by simp [World.frozen?, h]⟩
theorem set_at {w : World} {g i : Nat} {cs : Array Value} {t : TypeId} (h : w.heap[g]? = some (.cells cs t (0, 0))) {u : Value} : (w.setCell ⟨g, i, none⟩ u).heap[g]? = some (.cells (cs.setIfInBounds i u) t (0, 0)) := by
  simp [World.setCell, Array.getElem?_modify, h]
theorem heap_drew {w : World} {g : Nat} {o : Option Obj} (h : w.heap[g]? = o) : w.drew.heap[g]? = o := h
theorem owns_form {w : World} {base : Nat} {e : TypeId} {size n : Nat} {v : Value} {xs : List Value} (h : w.ownsRow base e size v n xs) : ∃ (A : Option Addr) (c : Nat), v = .slice A n c ∧ (0 < n → ∃ g, A = some ⟨g, 0, none⟩) := by
  obtain ⟨_, h2⟩ := h
  rcases h2 with ⟨rfl, rfl⟩ | ⟨g, cap, cur, rfl, _⟩
  · exact ⟨none, 0, rfl, fun h => absurd h (by omega)⟩
  · exact ⟨_, cap, rfl, fun _ => ⟨g, rfl⟩⟩

end Go.Proofs.Ytbanbommgcjmjaa

/-
  Walks over package cmp at the types of this seat: Compare and Or.
-/
namespace Go.Proofs.Ytbanbommgcjmjaa
open Go Go.RowKit

/-- -1, 0, 1. -/
def cmpI (x y : Int) : Int := if x < y then -1 else if y < x then 1 else 0
theorem cmpI_lt {x y : Int} (h : x < y) : cmpI x y = -1 := if_pos h
theorem cmpI_gt {x y : Int} (h : y < x) : cmpI x y = 1 := by unfold cmpI; rw [if_neg (by omega), if_pos h]
theorem cmpI_eq (x : Int) : cmpI x x = 0 := by unfold cmpI; rw [if_neg (by omega), if_neg (by omega)]
/-- The first that is not 0. -/
def firstNZ : List Int → Int
  | [] => 0
  | x :: l => if x = 0 then firstNZ l else x
theorem firstNZ_take (l : List Int) (k : Nat) (x : Int) (hx : l[k]? = some x) (h : ∀ j, j < k → l[j]? = some 0) (hn : x ≠ 0) : firstNZ l = x := by
  induction l generalizing k with
  | nil => simp at hx
  | cons y l ih =>
    cases k with
    | zero => simp at hx; subst hx; unfold firstNZ; rw [if_neg hn]
    | succ k =>
      have h0 := h 0 (by omega)
      simp at h0
      subst h0
      unfold firstNZ; rw [if_pos rfl]
      exact ih k (by simpa using hx) (fun j hj => by simpa using h (j + 1) (by omega))
theorem firstNZ_zero (l : List Int) (h : ∀ j, j < l.length → l[j]? = some 0) : firstNZ l = 0 := by
  induction l with
  | nil => rfl
  | cons y l ih =>
    have h0 := h 0 (by simp)
    simp at h0
    subst h0
    unfold firstNZ; rw [if_pos rfl]
    exact ih (fun j hj => by simpa using h (j + 1) (by simp; omega))

set_option maxHeartbeats 400000 in
theorem cmpAddr_any (x y : Int) (w : World) : Calls Try.prog 26 #[.int .u32 x, .int .u32 y] w fun e w' => e = .returned (.int .i64 (cmpI x y)) ∧ w = w' := by
  have hx : (x != x) = false := by simp
  have hy : (y != y) = false := by simp
  rcases Int.lt_trichotomy x y with h | h | h
  · have hE := Lib.hid (cmpI_lt h)
    go_enter Try.func26, Try.ntmps26
    go_wp2
    go_ret
    exact ⟨ret_int hE.out.symm, rfl⟩
  · subst h
    have hE := Lib.hid (cmpI_eq x)
    go_enter Try.func26, Try.ntmps26
    go_wp2
    go_ret
    exact ⟨ret_int hE.out.symm, rfl⟩
  · have hE := Lib.hid (cmpI_gt h)
    have h' : ¬ x < y := by omega
    go_enter Try.func26, Try.ntmps26
    go_wp2
    go_ret
    exact ⟨ret_int hE.out.symm, rfl⟩

set_option maxHeartbeats 400000 in
theorem cmpInt_any (x y : Int) (w : World) : Calls Try.prog 25 #[.int .i64 x, .int .i64 y] w fun e w' => e = .returned (.int .i64 (cmpI x y)) ∧ w = w' := by
  have hx : (x != x) = false := by simp
  have hy : (y != y) = false := by simp
  rcases Int.lt_trichotomy x y with h | h | h
  · have hE := Lib.hid (cmpI_lt h)
    go_enter Try.func25, Try.ntmps25
    go_wp2
    go_ret
    exact ⟨ret_int hE.out.symm, rfl⟩
  · subst h
    have hE := Lib.hid (cmpI_eq x)
    go_enter Try.func25, Try.ntmps25
    go_wp2
    go_ret
    exact ⟨ret_int hE.out.symm, rfl⟩
  · have hE := Lib.hid (cmpI_gt h)
    have h' : ¬ x < y := by omega
    go_enter Try.func25, Try.ntmps25
    go_wp2
    go_ret
    exact ⟨ret_int hE.out.symm, rfl⟩

set_option maxHeartbeats 400000 in
theorem cmpU8_any (x y : Int) (w : World) : Calls Try.prog 24 #[.int .u8 x, .int .u8 y] w fun e w' => e = .returned (.int .i64 (cmpI x y)) ∧ w = w' := by
  have hx : (x != x) = false := by simp
  have hy : (y != y) = false := by simp
  rcases Int.lt_trichotomy x y with h | h | h
  · have hE := Lib.hid (cmpI_lt h)
    go_enter Try.func24, Try.ntmps24
    go_wp2
    go_ret
    exact ⟨ret_int hE.out.symm, rfl⟩
  · subst h
    have hE := Lib.hid (cmpI_eq x)
    go_enter Try.func24, Try.ntmps24
    go_wp2
    go_ret
    exact ⟨ret_int hE.out.symm, rfl⟩
  · have hE := Lib.hid (cmpI_gt h)
    have h' : ¬ x < y := by omega
    go_enter Try.func24, Try.ntmps24
    go_wp2
    go_ret
    exact ⟨ret_int hE.out.symm, rfl⟩

set_option maxHeartbeats 400000 in
theorem cmpU32_any (x y : Int) (w : World) : Calls Try.prog 70 #[.int .u32 x, .int .u32 y] w fun e w' => e = .returned (.int .i64 (cmpI x y)) ∧ w = w' := by
  have hx : (x != x) = false := by simp
  have hy : (y != y) = false := by simp
  rcases Int.lt_trichotomy x y with h | h | h
  · have hE := Lib.hid (cmpI_lt h)
    go_enter Try.func70, Try.ntmps70
    go_wp2
    go_ret
    exact ⟨ret_int hE.out.symm, rfl⟩
  · subst h
    have hE := Lib.hid (cmpI_eq x)
    go_enter Try.func70, Try.ntmps70
    go_wp2
    go_ret
    exact ⟨ret_int hE.out.symm, rfl⟩
  · have hE := Lib.hid (cmpI_gt h)
    have h' : ¬ x < y := by omega
    go_enter Try.func70, Try.ntmps70
    go_wp2
    go_ret
    exact ⟨ret_int hE.out.symm, rfl⟩

set_option maxHeartbeats 400000 in
theorem cmpOr_any (l : List Int) (v : Value) (w : World) (h : Rd w w.heap.size 1 v l.length (l.map (Value.int .i64))) (hlen : l.length ≤ 4294967296) :
    Calls Try.prog 22 #[v] w fun e w' => e = .returned (.int .i64 (firstNZ l)) ∧ w = w' := by
  by_cases h0 : l.length = 0
  · obtain ⟨A, c, rfl, hc⟩ := h.form
    have e1 : l = [] := List.eq_nil_of_length_eq_zero h0
    subst e1
    go_enter Try.func22, Try.ntmps22
    go_wp2
    refine wp_loop_rounds 1 ?_
    rw [rounds_succ]
    go_wp2
    go_ret
    exact ⟨rfl, rfl⟩
  · obtain ⟨b, off, c, rfl, hc, hbB, hcell⟩ := h.pos (by omega)
    clear h
    go_enter Try.func22, Try.ntmps22
    go_wp2
    go_loop [8] (fun i => ∃ k : Nat, i = .int .i64 k ∧ k ≤ l.length ∧ ∀ j, j < k → l[j]? = some 0) (fun i => l.length - (intOf i).toNat)
    case atStart => exact ⟨0, rfl, by omega, fun j hj => absurd hj (by omega)⟩
    case round =>
      obtain ⟨k, rfl, hk, hz⟩ := hrel
      have HZ := Lib.hid hz
      clear hz
      by_cases hlt : k < l.length
      · obtain ⟨x, hx⟩ : ∃ x, l[k]? = some x := ⟨_, List.getElem?_eq_getElem hlt⟩
        have ca : w.cell? ⟨b, off + k, none⟩ = some (.int .i64 x) := hcell k _ (by simp [hx])
        have hI : (k : Int) < (l.length : Int) := by omega
        have HX := Lib.hid hx
        have HC := Lib.hid hcell
        clear hx hcell
        by_cases e : x = 0
        · have E := Lib.hid e
          have e' : (x != 0) = false := by simp [e]
          clear e
          go_wp2
          go_round
          case rel =>
            refine ⟨k + 1, by go_num, by omega, fun j hj => ?_⟩
            by_cases hjk : j = k
            · subst hjk; rw [HX.out, E.out]
            · exact HZ.out j (by omega)
          case measure => simp only [intOf]; omega
        · have E := Lib.hid e
          have e' : (x != 0) = true := by simp [e]
          clear e
          go_wp2
          go_ret
          exact ⟨ret_int (firstNZ_take l k x HX.out HZ.out E.out).symm, rfl⟩
      · go_wp2
        go_ret
        exact ⟨ret_int (firstNZ_zero l (fun j hj => HZ.out j (by omega))).symm, rfl⟩

end Go.Proofs.Ytbanbommgcjmjaa

/-
  Small general lemmas, the second text: lists of structs as cells, the first place at which a predicate holds.
-/
namespace Go.Proofs.Ytbanbommgcjmjaa
open Go Go.RowKit

theorem flat_get {α : Type} (enc : α → List Value) (k : Nat) (hk : ∀ x, (enc x).length = k) : ∀ (L : List α) (j i : Nat) (x : α) (v : Value), L[j]? = some x → (enc x)[i]? = some v → (L.flatMap enc)[j * k + i]? = some v
  | [], j, i, x, v, h, _ => by simp at h
  | y :: L, 0, i, x, v, h, hv => by
    simp at h; subst h
    have hi : i < (enc y).length := (List.getElem?_eq_some_iff.1 hv).1
    rw [List.flatMap_cons, Nat.zero_mul, Nat.zero_add, List.getElem?_append_left hi]
    exact hv
  | y :: L, j + 1, i, x, v, h, hv => by
    rw [List.flatMap_cons, List.getElem?_append_right (by rw [hk]; rw [Nat.add_mul]; omega), hk]
    have := flat_get enc k hk L j i x v (by simpa using h) hv
    rw [show (j + 1) * k + i - k = j * k + i by rw [Nat.add_mul]; omega]
    exact this
theorem flat_len {α : Type} (enc : α → List Value) (k : Nat) (hk : ∀ x, (enc x).length = k) (L : List α) : (L.flatMap enc).length = L.length * k := by
  induction L with
  | nil => simp
  | cons y L ih => rw [List.flatMap_cons, List.length_append, ih, hk, List.length_cons, Nat.add_mul]; omega
theorem get_bang {α : Type} [Inhabited α] {L : List α} {j : Nat} (h : j < L.length) : L[j]? = some L[j]! := by
  rw [List.getElem!_eq_getElem?_getD, List.getElem?_eq_getElem h]; rfl
/-- The cells of a slice of structs, as the shelf's contracts ask them. -/
theorem Rd.cells {α : Type} [Inhabited α] {enc : α → List Value} {k : Nat} (hk : ∀ x, (enc x).length = k) {w : World} {L : List α} {b off : Nat}
    (hcell : ∀ j u, (L.flatMap enc)[j]? = some u → w.cell? ⟨b, off + j, none⟩ = some u) :
    ∀ j, j < L.length → ∀ i v, (enc L[j]!)[i]? = some v → w.cell? ⟨b, off + j * k + i, none⟩ = some v := by
  intro j hj i v hv
  have := hcell _ _ (flat_get enc k hk L j i _ v (get_bang hj) hv)
  rw [Nat.add_assoc]; exact this

theorem vb {a b : Bool} (h : a = b) : Value.bool a = .bool b := by rw [h]
/-- The first place at which p holds; -1: there is none. -/
def idxP {α : Type} [Inhabited α] (p : α → Bool) (L : List α) : Int := Lib.idxBy (fun _ y => p y) L default
end Go.Proofs.Ytbanbommgcjmjaa

/-
  Walks over the layer of routes: the comparisons of fields.
-/
namespace Go.Proofs.Ytbanbommgcjmjaa
open Go Go.RowKit Go.Sort

/-- The world, drawn and grown. -/
def GR (w W : World) : Prop := ∃ (q : Nat) (os : Array Obj), W = grow (w.drewN q) os
theorem GR.refl (w : World) : GR w w := ⟨0, #[], by simp [grow]; rfl⟩
theorem GR.alloc {w W : World} (h : GR w W) (o : Obj) : GR w (W.alloc o) := by
  obtain ⟨q, os, rfl⟩ := h
  exact ⟨q, os ++ #[o], by rw [alloc_eq_grow, grow_grow]⟩
theorem GR.drew {w W : World} (h : GR w W) : GR w W.drew := by
  obtain ⟨q, os, rfl⟩ := h
  exact ⟨q + 1, os, rfl⟩
theorem GR.trans {w W V : World} (h : GR w W) (k : GR W V) : GR w V := by
  obtain ⟨q, os, rfl⟩ := h
  obtain ⟨p, ps, rfl⟩ := k
  refine ⟨q + p, os ++ ps, ?_⟩
  have e : (grow (w.drewN q) os).drewN p = grow ((w.drewN q).drewN p) os := rfl
  rw [e, grow_grow]
  congr 1
  simp only [World.drewN]
  congr 1
  omega
theorem GR.below {w W : World} (h : GR w W) : Below w.heap.size w W := by
  obtain ⟨q, os, rfl⟩ := h
  refine ⟨rfl, rfl, rfl, by simp [grow, World.drewN], fun i hi => ?_⟩
  show ((w.heap ++ os)[i]?) = w.heap[i]?
  rw [Array.getElem?_append_left hi]

set_option maxHeartbeats 1000000 in
theorem one_any (a b : Bool) (w : World) : Calls Try.prog 31 #[.bool a, .bool b] w fun e w' => e = .returned (.int .i64 (if a then -1 else if b then 1 else 0)) ∧ w = w' := by
  go_enter Try.func31, Try.ntmps31
  cases a <;> cases b
  all_goals (go_wp2; go_ret; exact ⟨rfl, rfl⟩)
def cmpB (a b : Bool) : Int := if a == b then 0 else if b then -1 else 1
set_option maxHeartbeats 1000000 in
theorem cmpBool_any (a b : Bool) (w : World) : Calls Try.prog 28 #[.bool a, .bool b] w fun e w' => e = .returned (.int .i64 (cmpB a b)) ∧ w = w' := by
  go_enter Try.func28, Try.ntmps28
  cases a <;> cases b
  all_goals (go_wp2; go_ret; exact ⟨rfl, rfl⟩)
def cmpSt (s t : ByteArray) : Int := if Op.bytesLess s.toList t.toList = true then -1 else if (s.toList == t.toList) = true then 0 else 1
set_option maxRecDepth 100000 in
set_option maxHeartbeats 1000000 in
theorem first_any (l : List Int) (v : Value) (w : World) (h : Rd w w.heap.size 1 v l.length (l.map (Value.int .i64))) (hlen : l.length ≤ 4294967296) :
    Calls Try.prog 29 #[v] w fun e w' => e = .returned (.int .i64 (firstNZ l)) ∧ w = w' := by
  obtain ⟨A, c, rfl, hc⟩ := h.form
  have HR := Lib.hid h
  clear h
  go_enter Try.func29, Try.ntmps29
  go_wp2
  go_loop [3] (fun i => ∃ k : Nat, i = .int .i64 k ∧ k ≤ l.length ∧ Hid (∀ j, j < k → l[j]? = some 0)) (fun i => l.length - (intOf i).toNat)
  case atStart => exact ⟨0, rfl, by omega, (fun j hj => absurd hj (by omega) : ∀ j, j < 0 → l[j]? = some 0)⟩
  case round =>
    obtain ⟨k, rfl, hk, HZ⟩ := hrel
    by_cases hlt : k < l.length
    · obtain ⟨x, hx⟩ : ∃ x, l[k]? = some x := ⟨_, List.getElem?_eq_getElem hlt⟩
      obtain ⟨b, off, c', hv, _, hbB, hcell⟩ := HR.out.pos (by omega)
      injection hv with hv1 _ hv3
      subst hv1 hv3
      have ca : w.cell? ⟨b, off + k, none⟩ = some (.int .i64 x) := hcell k _ (by simp [hx])
      have hI : (k : Int) < (l.length : Int) := by omega
      have HX := Lib.hid hx
      clear hx hcell
      by_cases e : x = 0
      · subst e
        go_wp2
        refine ⟨⟨k + 1, by go_num, by omega, ?_⟩, by simp only [intOf]; omega⟩
        intro j hj
        by_cases hjk : j = k
        · subst hjk; exact HX.out
        · exact HZ.out j (by omega)
      · have e' : (x != 0) = true := by simp [e]
        have E := Lib.hid e
        clear e
        go_wp2
        go_ret
        exact ⟨ret_int (firstNZ_take l k x HX.out HZ.out E.out).symm, rfl⟩
    · obtain rfl : k = l.length := by omega
      go_wp2
      go_ret
      exact ⟨ret_int (firstNZ_zero l HZ.out).symm, rfl⟩

set_option maxHeartbeats 1000000 in
theorem cmpPrefix_any (a b m n : Int) (w : World) :
    Calls Try.prog 23 #[.agg #[.int .u32 a, .int .i64 m], .agg #[.int .u32 b, .int .i64 n]] w fun e w' => e = .returned (.int .i64 (firstNZ [cmpI a b, cmpI m n])) ∧ GR w w' := by
  have hBX : GR w ((w.alloc (.cells #[.int .u32 a, .int .i64 m] 26)).alloc (.cells #[.int .u32 b, .int .i64 n] 26)) := ((GR.refl w).alloc _).alloc _
  have HB := Lib.hid hBX
  clear hBX
  go_enter Try.func23, Try.ntmps23
  go_wp2
  obtain ⟨k0, k1⟩ := blk2 w (.cells #[.int .u32 a, .int .i64 m] 26) (.cells #[.int .u32 b, .int .i64 n] 26)
  obtain ⟨c0, c1, _, _⟩ := two_cells k0
  obtain ⟨c2, c3, _, _⟩ := two_cells k1
  have hsz := lt_of_block k1
  clear k0 k1
  generalize (w.alloc (.cells #[.int .u32 a, .int .i64 m] 26)).alloc (.cells #[.int .u32 b, .int .i64 n] 26) = W at *
  go_region_held3 (fun w' => w'.cell? ⟨w.heap.size, 0, none⟩ = some (.int .u32 a) ∧ w'.cell? ⟨w.heap.size, 1, none⟩ = some (.int .i64 m) ∧ w'.cell? ⟨w.heap.size + 1, 0, none⟩ = some (.int .u32 b) ∧ w'.cell? ⟨w.heap.size + 1, 1, none⟩ = some (.int .i64 n)) (go_keep)
    (first | (go_at_call 26; refine (cmpAddr_any _ _ _).mono ?_; rintro e w' ⟨rfl, rfl⟩) | (go_at_call 25; refine (cmpInt_any _ _ _).mono ?_; rintro e w' ⟨rfl, rfl⟩) | (go_at_call 22; refine (cmpOr_any [cmpI a b, cmpI m n] _ _ (Rd.of_blk (cs := #[.int .i64 (cmpI a b), .int .i64 (cmpI m n)]) (t := 3) (heap_drew (heap_alloc_new _ _)) (Nat.le_refl _) rfl) (by simp)).mono ?_; rintro e w' ⟨rfl, rfl⟩))
  all_goals go_wp2
  go_ret
  exact ⟨rfl, (HB.out.alloc _).drew⟩

end Go.Proofs.Ytbanbommgcjmjaa

/-
  Routes as structures; the walks of routes.Cmp and of the document's Cmp (written by wip/gen/genro2.py).
-/
namespace Go.Proofs.Ytbanbommgcjmjaa
open Go Go.RowKit Go.Sort

structure RouteV where
  a : Int
  m : Int
  fr : Int
  di : Int
  me : Int
  ta : Int
  nm : ByteArray
  ho : Int
  dc : Bool
instance : Inhabited RouteV := ⟨⟨0, 0, 0, 0, 0, 0, ByteArray.empty, 0, false⟩⟩
def RouteV.enc (r : RouteV) : List Value := [.int .u32 r.a, .int .i64 r.m, .int .u8 r.fr, .int .i64 r.di, .int .i64 r.me, .int .i64 r.ta, .string r.nm, .int .u32 r.ho, .bool r.dc]
def cmpR (r s : RouteV) : Int := firstNZ [firstNZ [cmpI r.a s.a, cmpI r.m s.m], cmpI r.fr s.fr, cmpI r.di s.di, cmpI r.me s.me, cmpI r.ta s.ta, cmpI r.ho s.ho, cmpSt r.nm s.nm, cmpB r.dc s.dc]
def RBox (r s : RouteV) (B : Nat) (W V : World) : Prop := V.cell? ⟨B, 0, none⟩ = some (.int .u32 r.a) ∧ V.cell? ⟨B, 1, none⟩ = some (.int .i64 r.m) ∧ V.cell? ⟨B, 2, none⟩ = some (.int .u8 r.fr) ∧ V.cell? ⟨B, 3, none⟩ = some (.int .i64 r.di) ∧ V.cell? ⟨B, 4, none⟩ = some (.int .i64 r.me) ∧ V.cell? ⟨B, 5, none⟩ = some (.int .i64 r.ta) ∧ V.cell? ⟨B, 6, none⟩ = some (.string r.nm) ∧ V.cell? ⟨B, 7, none⟩ = some (.int .u32 r.ho) ∧ V.cell? ⟨B, 8, none⟩ = some (.bool r.dc) ∧ V.cell? ⟨B + 1, 0, none⟩ = some (.int .u32 s.a) ∧ V.cell? ⟨B + 1, 1, none⟩ = some (.int .i64 s.m) ∧ V.cell? ⟨B + 1, 2, none⟩ = some (.int .u8 s.fr) ∧ V.cell? ⟨B + 1, 3, none⟩ = some (.int .i64 s.di) ∧ V.cell? ⟨B + 1, 4, none⟩ = some (.int .i64 s.me) ∧ V.cell? ⟨B + 1, 5, none⟩ = some (.int .i64 s.ta) ∧ V.cell? ⟨B + 1, 6, none⟩ = some (.string s.nm) ∧ V.cell? ⟨B + 1, 7, none⟩ = some (.int .u32 s.ho) ∧ V.cell? ⟨B + 1, 8, none⟩ = some (.bool s.dc) ∧ GR W V
theorem RBox.next {r s : RouteV} {B : Nat} {W V V' : World} (h : RBox r s B W V) (hB : B + 1 < W.heap.size) (hg : GR V V') : RBox r s B W V' := by
  obtain ⟨c0, c1, c2, c3, c4, c5, c6, c7, c8, d0, d1, d2, d3, d4, d5, d6, d7, d8, hgr⟩ := h
  have hsz := hgr.below.size
  have hb := hg.below
  exact ⟨(hb.cell (p := ⟨B, 0, none⟩) (by show B < _; omega)).trans c0, (hb.cell (p := ⟨B, 1, none⟩) (by show B < _; omega)).trans c1, (hb.cell (p := ⟨B, 2, none⟩) (by show B < _; omega)).trans c2, (hb.cell (p := ⟨B, 3, none⟩) (by show B < _; omega)).trans c3, (hb.cell (p := ⟨B, 4, none⟩) (by show B < _; omega)).trans c4, (hb.cell (p := ⟨B, 5, none⟩) (by show B < _; omega)).trans c5, (hb.cell (p := ⟨B, 6, none⟩) (by show B < _; omega)).trans c6, (hb.cell (p := ⟨B, 7, none⟩) (by show B < _; omega)).trans c7, (hb.cell (p := ⟨B, 8, none⟩) (by show B < _; omega)).trans c8, (hb.cell (p := ⟨B + 1, 0, none⟩) (by show B + 1 < _; omega)).trans d0, (hb.cell (p := ⟨B + 1, 1, none⟩) (by show B + 1 < _; omega)).trans d1, (hb.cell (p := ⟨B + 1, 2, none⟩) (by show B + 1 < _; omega)).trans d2, (hb.cell (p := ⟨B + 1, 3, none⟩) (by show B + 1 < _; omega)).trans d3, (hb.cell (p := ⟨B + 1, 4, none⟩) (by show B + 1 < _; omega)).trans d4, (hb.cell (p := ⟨B + 1, 5, none⟩) (by show B + 1 < _; omega)).trans d5, (hb.cell (p := ⟨B + 1, 6, none⟩) (by show B + 1 < _; omega)).trans d6, (hb.cell (p := ⟨B + 1, 7, none⟩) (by show B + 1 < _; omega)).trans d7, (hb.cell (p := ⟨B + 1, 8, none⟩) (by show B + 1 < _; omega)).trans d8, hgr.trans hg⟩

end Go.Proofs.Ytbanbommgcjmjaa

/-
  An advert's value.
-/
namespace Go.Proofs.Ytbanbommgcjmjaa

/-- A list of numbers below 2^32. -/
def u32s (l : List Int) : Prop := ∀ x ∈ l, 0 ≤ x ∧ x < 4294967296
/-- An advert. -/
structure AvV where
  a : Int
  m : Int
  ss : Int
  pf : Int
  me : Int
  ho : Int
  pe : Int
  id : Int
  ex : Bool
  og : Int
  pa : List Int
  co : List Int
  cl : List Int
  ha : 0 ≤ a ∧ a < 4294967296
  hm : -9223372036854775808 ≤ m ∧ m ≤ 9223372036854775807
  hss : -9223372036854775808 ≤ ss ∧ ss ≤ 9223372036854775807
  hpf : -9223372036854775808 ≤ pf ∧ pf ≤ 9223372036854775807
  hme : -9223372036854775808 ≤ me ∧ me ≤ 9223372036854775807
  hho : 0 ≤ ho ∧ ho < 4294967296
  hpe : 0 ≤ pe ∧ pe < 4294967296
  hid : 0 ≤ id ∧ id < 4294967296
  hog : 0 ≤ og ∧ og < 4294967296
  hpa : u32s pa
  hco : u32s co
  hcl : u32s cl
theorem u32s_nil : u32s [] := fun _ h => by cases h
instance : Inhabited AvV := ⟨⟨0, 0, 0, 0, 0, 0, 0, 0, false, 0, [], [], [], by omega, by omega, by omega, by omega, by omega, by omega, by omega, by omega, by omega, u32s_nil, u32s_nil, u32s_nil⟩⟩
end Go.Proofs.Ytbanbommgcjmjaa

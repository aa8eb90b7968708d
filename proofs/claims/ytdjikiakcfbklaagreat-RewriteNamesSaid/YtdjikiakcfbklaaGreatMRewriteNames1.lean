/-
  Joined texts: Lift, Math, A1, Kit, Bits, Addr, Addr2, Filt.
-/
import Derived.Test.YtdjikiakcfbklaaGreatRows
import Derived.WalkKit
import Derived.ProofKit
import Derived.OpenShut
import Derived.SizedLaws
import Derived.Below
import Derived.Test.YtdjikiakcfbklaaGreatProg
import Derived.WalkSpells
import Derived.WalkLawsBesides
import Derived.Lib.Hide
import Derived.BigQuiet
import Derived.Lib.QuietBelow
import Derived.Deep.QuietTactic
import Derived.Test.YtdjikiakcfbklaaGreatShelf
/-
  The last step of every law of this seat: the call answered true and turned nothing that was there.
-/
namespace Go.Proofs.YtdjikiakcfbklaaGreat
open Go Go.ChangeShapes Go.WideShapes Go.ChangeAt Go.RowKit

theorem own : ownKnob Tryz.prog.godebug = none := by kernel_rfl
theorem laidOut : laidOutB Tryz.prog = true := by kernel_rfl

theorem args_below {H : Type} {enc : TypeId × Value → H} {P : Program} (hl : laidOutB P = true) {W W' : World} (hb : Below W.heap.size W W') :
    ∀ (ts : List TypeId) (vs : List Value) (ds : List (DataW H)) (ps : List MemPlace), (∀ t ∈ ts, P.readableRec t = true ∧ t < P.types.size) →
      DataW.TrodAll enc P W 0 (fun _ => true) true ts vs ds ps → (∀ x ∈ ps, x.block < W.heap.size) → DataW.TrodAll enc P W' 0 (fun b => decide (b < W.heap.size)) true ts vs ds ps
  | [], vs, ds, ps, _, h, _ => by
    cases vs <;> cases ds <;> simp_all [DataW.TrodAll]
  | t :: ts, vs, ds, ps, hts, h, hlt => by
    obtain ⟨v, vs', d, ds', p, q, rfl, rfl, rfl, h1, h2⟩ := trodAll_cons h
    have ht := hts t (List.mem_cons_self ..)
    exact trodAll_cons_mk (Below.trod hl ht.1 ht.2 h1 hb (fun x hx => hlt x (List.mem_append_left _ hx)))
      (args_below hl hb ts vs' ds' q (fun t ht => hts t (List.mem_cons_of_mem _ ht)) h2 (fun x hx => hlt x (List.mem_append_right _ hx)))

/-- What a law's statement asks of the world behind the call. -/
theorem law_post {H : Type} {enc : TypeId × Value → H} {P : Program} (hl : laidOutB P = true) {s : ChangeSpec} {f : Func} {W W' : World} {args : Array Value} {ds : List (DataW H)} {before : List MemPlace}
    (hW : DataW.Whole enc P f.params.toList s.vars false W args.toList ds [] before) (hv : s.vars = []) (hr : f.resultTypes = #[4]) (hbool : P.underlying 4 = some .bool)
    (hts : ∀ t ∈ f.params.toList, P.readableRec t = true ∧ t < P.types.size) (hs : (s.fn H (ds ++ [])).results = [.lit (.bool true)] ∧ (s.fn H (ds ++ [])).args = ds ∧ (s.fn H (ds ++ [])).vars = [])
    (hb : Below W.heap.size W W') : s.post enc P f false true false false W args (.bool true) W' := by
  have hW0 := hW
  obtain ⟨p, q, hA, hV, rfl, _, _⟩ := hW
  have hlt : ∀ x ∈ p ++ q, x.block < W.heap.size := fun x hx => hW0.lt x hx
  refine ⟨_, _, _, [], p, [], hW0, ?_, ?_, ?_, hb.frame _, fun h => by cases h⟩
  · rw [hs.1, hr]
    exact trodAll_mk1 (shut_bool hbool true)
  · rw [hs.2.1]
    exact args_below hl hb _ _ _ _ hts hA (fun x hx => hlt x (List.mem_append_left _ hx))
  · rw [hv, hs.2.2]; rfl

end Go.Proofs.YtdjikiakcfbklaaGreat

/-
  Plain lemmas on numbers that the walks of this seat use; no program in sight.
-/
namespace Go.Proofs.YtdjikiakcfbklaaGreat
open Go.RowKit

/-- Two to the k, as an integer, behind a name. -/
def p2 (k : Nat) : Int := 2 ^ k
theorem p2_zero : p2 0 = 1 := rfl
theorem p2_succ (k : Nat) : p2 (k + 1) = 2 * p2 k := by unfold p2; rw [Int.pow_succ]; omega
theorem p2_pos (k : Nat) : 1 ≤ p2 k := by
  induction k with
  | zero => simp [p2_zero]
  | succ k ih => rw [p2_succ]; omega
theorem p2_mono {j k : Nat} (h : j ≤ k) : p2 j ≤ p2 k := by
  induction k with
  | zero => have : j = 0 := by omega
            subst this; exact Int.le_refl _
  | succ k ih =>
    rcases Nat.lt_or_ge j (k + 1) with h1 | h1
    · have := ih (by omega); have := p2_pos k; rw [p2_succ]; omega
    · have : j = k + 1 := by omega
      subst this; exact Int.le_refl _
theorem p2_32 : p2 32 = 4294967296 := by decide
theorem p2_le32 {k : Nat} (h : k ≤ 32) : p2 k ≤ 4294967296 := by have := p2_mono h; rw [p2_32] at this; exact this


/-- How many addresses are in a prefix of n bits. -/
def sz (n : Int) : Int := p2 (32 - n.toNat)
theorem sz_pos (n : Int) : 1 ≤ sz n := p2_pos _
theorem sz_le (n : Int) : sz n ≤ 4294967296 := p2_le32 (by omega)
theorem sz_dvd (n : Int) : sz n ∣ 4294967296 := by
  refine ⟨p2 (32 - (32 - n.toNat)), ?_⟩
  rw [← p2_32]; unfold sz p2
  rw [← Int.pow_add]; congr 1; omega
/-- The refusal of a prefix: 0, 1 (bits out of range), 10 (bits behind the mask). -/
def chk (a n : Int) : Int := if n < 0 ∨ 32 < n then 1 else if a % sz n = 0 then 0 else 10
theorem chk_range (a n : Int) (h : n < 0 ∨ 32 < n) : chk a n = 1 := by unfold chk; rw [if_pos h]
theorem chk_zero (a n : Int) (h0 : 0 ≤ n) (h1 : n ≤ 32) (h : a % sz n = 0) : chk a n = 0 := by unfold chk; rw [if_neg (by omega), if_pos h]
theorem chk_mask (a n : Int) (h0 : 0 ≤ n) (h1 : n ≤ 32) (h : ¬ a % sz n = 0) : chk a n = 10 := by unfold chk; rw [if_neg (by omega), if_neg h]
theorem chk_ok {a n : Int} (h : chk a n = 0) : 0 ≤ n ∧ n ≤ 32 ∧ a % sz n = 0 := by
  unfold chk at h
  split at h
  · simp at h
  · split at h
    · rename_i h1 h2; exact ⟨by omega, by omega, h2⟩
    · simp at h
/-- Is an address in a prefix? -/
def inB (x a n : Int) : Bool := decide (chk a n = 0 ∧ a ≤ x ∧ x < a + sz n)


/-- The exponent of the greatest power of two, at most 2^k, that divides the place and does not go beyond the end. -/
def pick (a e : Int) : Nat → Nat
  | 0 => 0
  | k + 1 => if a % p2 (k + 1) = 0 ∧ a + p2 (k + 1) ≤ e then k + 1 else pick a e k
theorem pick_le (a e : Int) (k : Nat) : pick a e k ≤ k := by
  induction k with
  | zero => exact Nat.le_refl _
  | succ k ih => unfold pick; split <;> omega
theorem pick_hit (a e : Int) (k : Nat) (h : a % p2 k = 0) (h' : a + p2 k ≤ e) : pick a e k = k := by
  cases k with
  | zero => rfl
  | succ k => unfold pick; rw [if_pos ⟨h, h'⟩]
theorem pick_miss (a e : Int) (k : Nat) (h : ¬ (a % p2 (k + 1) = 0 ∧ a + p2 (k + 1) ≤ e)) : pick a e (k + 1) = pick a e k := by
  conv => lhs; unfold pick
  rw [if_neg h]
theorem pick_ok (a e : Int) (k : Nat) (h : a < e) : a % p2 (pick a e k) = 0 ∧ a + p2 (pick a e k) ≤ e := by
  induction k with
  | zero => simp [pick, p2_zero]; omega
  | succ k ih =>
    unfold pick
    split
    · rename_i h; exact h
    · exact ih
/-- The prefixes of the places from a up to (not with) e. -/
def cutL (e : Int) : Nat → Int → List (Int × Int)
  | 0, _ => []
  | f + 1, a => if a < e then (a, 32 - (pick a e 32 : Int)) :: cutL e f (a + p2 (pick a e 32)) else []
theorem cutL_done (e a : Int) (f : Nat) (h : e ≤ a) : cutL e f a = [] := by
  cases f with
  | zero => rfl
  | succ f => unfold cutL; rw [if_neg (by omega)]
theorem cutL_step (e a : Int) (f : Nat) (h : a < e) : cutL e (f + 1) a = (a, 32 - (pick a e 32 : Int)) :: cutL e f (a + p2 (pick a e 32)) := by
  conv => lhs; unfold cutL
  rw [if_pos h]

end Go.Proofs.YtdjikiakcfbklaaGreat

/-
  Walks over the leaves of the addresses' layer: the reference's size, the program's behind.
-/
namespace Go.Proofs.YtdjikiakcfbklaaGreat
open Go.RowKit

set_option maxHeartbeats 400000 in
theorem size_any (n : Int) (w : World) (h0 : 0 ≤ n) (h1 : n ≤ 32) :
    Calls Tryz.prog 64 #[.int .i64 n] w fun e w' => e = .returned (.int .u64 (sz n)) ∧ w = w' := by
  obtain ⟨m, rfl⟩ := Int.eq_ofNat_of_zero_le h0
  have hm : m ≤ 32 := by omega
  clear h0
  go_enter Tryz.func64, Tryz.ntmps64
  go_wp2
  go_loop [3, 4] (fun out i => ∃ j : Nat, m + j ≤ 32 ∧ i = .int .i64 ↑(m + j) ∧ out = .int .u64 (p2 j)) (fun _ i => 32 - (intOf i).toNat)
  case atStart => exact ⟨0, by omega, rfl, rfl⟩
  case round =>
    obtain ⟨j, hj, rfl, rfl⟩ := hrel
    have hp := p2_pos j
    have hq := p2_le32 (k := j) (by omega)
    by_cases hlt : m + j < 32
    · go_wp2
      go_round
      case rel => exact ⟨j + 1, by omega, by go_num, by rw [p2_succ]⟩
      case measure => simp [intOf]; omega
    · have e : 32 - m = j := by omega
      have E := Lib.hid e
      clear e
      go_wp2
      go_ret
      unfold sz
      rw [Int.toNat_natCast, E.out]
      exact ⟨rfl, rfl⟩

end Go.Proofs.YtdjikiakcfbklaaGreat

/-
  Small general lemmas for the walks of this seat (contracts met in quiet regions); no program in sight.
-/
namespace Go.Proofs.YtdjikiakcfbklaaGreat
open Go Go.RowKit Go.Sort

theorem quiet_left {P : Program} {f : FuncId} {args : Array Value} {w : World} {n : Nat} {v : Value}
    (h : Calls P f args (w.drewN n) fun e w' => e = .returned v ∧ w.drewN n = w') : Calls P f args (w.drewN n) fun e w'' => e = .returned v ∧ ∃ m, w'' = w.drewN m :=
  h.mono fun _ _ ⟨he, hm⟩ => ⟨he, n, hm.symm⟩
theorem quiet_add_left {P : Program} {f : FuncId} {args : Array Value} {w : World} {a n : Nat} {v : Value}
    (h : Calls P f args (w.drewN (a + n)) fun e w' => e = .returned v ∧ w.drewN (a + n) = w') : Calls P f args (w.drewN (a + n)) fun e w'' => e = .returned v ∧ ∃ m, w'' = w.drewN (a + m) :=
  h.mono fun _ _ ⟨he, hm⟩ => ⟨he, n, hm.symm⟩

/-- A contract that leaves the world, met where the class is 'blocks may have been laid'. -/
theorem regrown_left {P : Program} {f : FuncId} {args : Array Value} {w : World} {d : Nat} {os : Array Obj} {v : Value}
    (h : Calls P f args (grow (redrawn w d) os) fun e w' => e = .returned v ∧ grow (redrawn w d) os = w') : Calls P f args (grow (redrawn w d) os) fun e w'' => e = .returned v ∧ ∃ p : Regrown, w'' = grow (redrawn w p.d) p.os :=
  h.mono fun _ _ ⟨he, hm⟩ => ⟨he, ⟨d, os⟩, hm.symm⟩

theorem below_drewN {B : Nat} {a w : World} (h : Below B a w) (n : Nat) : Below B a (w.drewN n) := ⟨h.os, h.tape, h.output, h.size, h.block⟩

theorem ret_int {k : IntKind} {a b : Int} (h : a = b) : Ending.returned (.int k a) = .returned (.int k b) := by rw [h]
theorem ret_bool {a b : Bool} (h : a = b) : Ending.returned (.bool a) = .returned (.bool b) := by rw [h]


theorem only_drewN {a w : World} {row : Option Nat} (h : a.grownBy w row) (n : Nat) : a.grownBy (w.drewN n) row := ⟨h.os, h.tape, h.output, h.size, h.block⟩
theorem only_drew {a w : World} {row : Option Nat} (h : a.grownBy w row) : a.grownBy w.drew row := ⟨h.os, h.tape, h.output, h.size, h.block⟩
theorem only_alloc {a w : World} {row : Option Nat} (h : a.grownBy w row) (o : Obj) : a.grownBy (w.alloc o) row :=
  ⟨h.os, h.tape, h.output, Nat.le_trans h.size (by simp), fun i hi hne => (Below.heap_alloc w o i (Nat.lt_of_lt_of_le hi h.size)).trans (h.block i hi hne)⟩
theorem only_setCell {a w : World} {g : Nat} (h : a.grownBy w (some g)) {p : Addr} (hp : p.block = g ∨ a.heap.size ≤ p.block) (u : Value) : a.grownBy (w.setCell p u) (some g) :=
  ⟨h.os, h.tape, h.output, by simpa [World.setCell] using h.size, fun i hi hne => (Below.heap_setCell w p u i (by
    rintro rfl
    rcases hp with hp | hp
    · exact hne (by rw [hp])
    · omega)).trans (h.block i hi hne)⟩
theorem only_of_below {a w : World} (h : Below a.heap.size a w) (row : Option Nat) : a.grownBy w row := ⟨h.os, h.tape, h.output, h.size, fun i hi _ => h.block i hi⟩


/-- A row of the call's own stays owned while a block below its base is written. -/
theorem owns_kept_lt {w w' : World} {base k : Nat} {e : TypeId} {size n : Nat} {v : Value} {xs : List Value} (h : w.ownsRow base e size v n xs) (hg : w.grownBy w' (some k)) (hk : k < base) : w'.ownsRow base e size v n xs :=
  h.kept hg (by
    cases hv : v.ownBlock with
    | none => exact .inl rfl
    | some g =>
      have := (h.lt g hv).1
      exact .inr (by intro hh; injection hh with hh; omega))
/-- .. and while nothing is written. -/
theorem owns_kept_none {w w' : World} {base : Nat} {e : TypeId} {size n : Nat} {v : Value} {xs : List Value} (h : w.ownsRow base e size v n xs) (hg : w.grownBy w' none) : w'.ownsRow base e size v n xs :=
  h.kept hg (by
    cases hv : v.ownBlock with
    | none => exact .inl rfl
    | some g => exact .inr (by simp))
/-- A block below the row's base is as it was when the row has grown. -/
theorem heap_kept_lt {w w' : World} {base b : Nat} {e : TypeId} {size n : Nat} {v : Value} {xs : List Value} (h : w.ownsRow base e size v n xs) (hg : w.grownBy w' v.ownBlock) (hb : b < base) (hl : b < w.heap.size) : w'.heap[b]? = w.heap[b]? :=
  hg.block b hl (fun e => by have := (h.lt b e.symm).1; omega)
/-- The cells of a block that has just been laid. -/
theorem cells_new (w : World) (l : List Value) (t : TypeId) : ∀ (j : Nat) (u : Value), l[j]? = some u → (w.alloc (.cells l.toArray t)).cell? ((⟨w.heap.size, 0, none⟩ : Addr).add j) = some u := by
  intro j u hu
  have e : (⟨w.heap.size, 0, none⟩ : Addr).add j = ⟨w.heap.size, j, none⟩ := by simp [Addr.add]; omega
  rw [e, cell_of_row _ _ _ _ _ _ (heap_alloc_new w _)]
  simpa using hu
theorem owns_base {w : World} {base base' : Nat} {e : TypeId} {size n : Nat} {v : Value} {xs : List Value} (h : w.ownsRow base e size v n xs) (hb : base' ≤ base) : w.ownsRow base' e size v n xs := by
  obtain ⟨h1, h2⟩ := h
  refine ⟨h1, ?_⟩
  rcases h2 with h2 | ⟨g, cap, cur, hv, hg, r⟩
  · exact Or.inl h2
  · exact Or.inr ⟨g, cap, cur, hv, by omega, r⟩
theorem below_row {B : Nat} {a w w' : World} {base : Nat} {e : TypeId} {size n : Nat} {v : Value} {xs : List Value} (h : Below B a w) (ho : w.ownsRow base e size v n xs) (hg : w.grownBy w' v.ownBlock) (hB : B ≤ w.heap.size) (hb : B ≤ base) : Below B a w' :=
  h.grown hg hB (fun k hk => by have := (ho.lt k hk).1; omega)


/-- A slice value that reads as n elements of k cells each, in a block below B. -/
def Rd (w : World) (B k : Nat) (v : Value) (n : Nat) (xs : List Value) : Prop :=
  ∃ (A : Option Addr) (c : Nat), v = .slice A n c ∧ n ≤ c ∧ xs.length = n * k ∧ (0 < n → ∃ b off, A = some ⟨b, off, none⟩ ∧ b < B ∧ ∀ j u, xs[j]? = some u → w.cell? ⟨b, off + j, none⟩ = some u)
theorem Rd.form {w : World} {B k : Nat} {v : Value} {n : Nat} {xs : List Value} (h : Rd w B k v n xs) : ∃ (A : Option Addr) (c : Nat), v = .slice A n c ∧ n ≤ c := by
  obtain ⟨A, c, hv, hc, _⟩ := h
  exact ⟨A, c, hv, hc⟩
theorem Rd.pos {w : World} {B k : Nat} {v : Value} {n : Nat} {xs : List Value} (h : Rd w B k v n xs) (hn : 0 < n) :
    ∃ b off c, v = .slice (some ⟨b, off, none⟩) n c ∧ n ≤ c ∧ b < B ∧ ∀ j u, xs[j]? = some u → w.cell? ⟨b, off + j, none⟩ = some u := by
  obtain ⟨A, c, hv, hc, _, hp⟩ := h
  obtain ⟨b, off, hA, hb, hcell⟩ := hp hn
  exact ⟨b, off, c, by rw [hv, hA], hc, hb, hcell⟩
/-- .. its cells by element and field. -/
theorem Rd.posAt {w : World} {B k : Nat} {v : Value} {n : Nat} {xs : List Value} (h : Rd w B k v n xs) (hn : 0 < n) :
    ∃ b off c, v = .slice (some ⟨b, off, none⟩) n c ∧ n ≤ c ∧ b < B ∧ ∀ i j u, xs[i * k + j]? = some u → w.cell? ⟨b, off + i * k + j, none⟩ = some u := by
  obtain ⟨b, off, c, hv, hc, hb, hcell⟩ := h.pos hn
  exact ⟨b, off, c, hv, hc, hb, fun i j u hu => by rw [Nat.add_assoc]; exact hcell _ _ hu⟩
theorem Rd.of_own {w : World} {base k : Nat} {e : TypeId} {v : Value} {n : Nat} {xs : List Value} (h : w.ownsRow base e k v n xs) : Rd w w.heap.size k v n xs := by
  have hcells := fun (g : Nat) (hg : v.ownBlock = some g) => h.cells hg
  obtain ⟨h1, h2⟩ := h
  rcases h2 with ⟨rfl, rfl⟩ | ⟨g, cap, cur, rfl, _, hg, hnc, _⟩
  · exact ⟨none, 0, rfl, Nat.le_refl _, h1, fun h => absurd h (by omega)⟩
  · refine ⟨_, cap, rfl, hnc, h1, fun _ => ⟨g, 0, rfl, (Array.getElem?_eq_some_iff.1 hg).1, fun j u hu => ?_⟩⟩
    have hj := hcells g rfl j u hu
    have e : (⟨g, 0, none⟩ : Addr).add j = ⟨g, 0 + j, none⟩ := by simp [Addr.add]; omega
    rw [← e]; exact hj
theorem Rd.of_blk {w : World} {g k n c : Nat} {cs : Array Value} {t : TypeId} (h : w.heap[g]? = some (.cells cs t (0, 0))) (hc : n ≤ c) (hl : cs.toList.length = n * k) : Rd w w.heap.size k (.slice (some ⟨g, 0, none⟩) n c) n cs.toList :=
  ⟨_, c, rfl, hc, hl, fun _ => ⟨g, 0, rfl, (Array.getElem?_eq_some_iff.1 h).1, fun j u hu => by
    rw [Nat.zero_add, cell_of_row w g j cs t (0, 0) h]
    simpa using hu⟩⟩
theorem Rd.below {w w' : World} {B k : Nat} {v : Value} {n : Nat} {xs : List Value} (h : Rd w B k v n xs) (hb : Below B w w') : Rd w' B k v n xs := by
  obtain ⟨A, c, hv, hc, hl, hp⟩ := h
  refine ⟨A, c, hv, hc, hl, fun hn => ?_⟩
  obtain ⟨b, off, hA, hB, hcell⟩ := hp hn
  exact ⟨b, off, hA, hB, fun j u hu => (hb.cell (p := ⟨b, off + j, none⟩) hB).trans (hcell j u hu)⟩
theorem Rd.mono {w : World} {B B' k : Nat} {v : Value} {n : Nat} {xs : List Value} (h : Rd w B k v n xs) (hb : B ≤ B') : Rd w B' k v n xs := by
  obtain ⟨A, c, hv, hc, hl, hp⟩ := h
  refine ⟨A, c, hv, hc, hl, fun hn => ?_⟩
  obtain ⟨b, off, hA, hB, hcell⟩ := hp hn
  exact ⟨b, off, hA, by omega, hcell⟩

/-- A block that was there is there behind a call. -/
theorem blk_below {w w1 : World} (hb : Below w.heap.size w w1) {g : Nat} {o : Obj} (h : w.heap[g]? = some o) : w1.heap[g]? = some o := (hb.block g (lt_of_block h)).trans h
theorem blk3 (w : World) (A B C : Obj) : (((w.alloc A).alloc B).alloc C).heap[w.heap.size]? = some A ∧ (((w.alloc A).alloc B).alloc C).heap[w.heap.size + 1]? = some B ∧ (((w.alloc A).alloc B).alloc C).heap[w.heap.size + 1 + 1]? = some C := by
  have hA := heap_alloc_new w A
  have hB := heap_alloc_new (w.alloc A) B
  have hC := heap_alloc_new ((w.alloc A).alloc B) C
  simp only [World.size_alloc] at hB hC
  exact ⟨by rw [Below.heap_alloc _ _ _ (by simp; omega), Below.heap_alloc _ _ _ (by simp), hA], by rw [Below.heap_alloc _ _ _ (by simp), hB], hC⟩
theorem below1 (w : World) (A : Obj) : Below w.heap.size w (w.alloc A) := (Below.refl _ _).alloc (Nat.le_refl _) _
theorem below2 (w : World) (A B : Obj) : Below w.heap.size w ((w.alloc A).alloc B) := (below1 w A).alloc (by simp) _
theorem below3 (w : World) (A B C : Obj) : Below w.heap.size w (((w.alloc A).alloc B).alloc C) := (below2 w A B).alloc (by simp; omega) _
theorem blk1 (w : World) (A : Obj) : (w.alloc A).heap[w.heap.size]? = some A := heap_alloc_new w A
theorem blk2 (w : World) (A B : Obj) : ((w.alloc A).alloc B).heap[w.heap.size]? = some A ∧ ((w.alloc A).alloc B).heap[w.heap.size + 1]? = some B := by
  have hB := heap_alloc_new (w.alloc A) B
  simp only [World.size_alloc] at hB
  exact ⟨by rw [Below.heap_alloc _ _ _ (by simp), heap_alloc_new w A], hB⟩
/-- Behind a call from a world that had laid blocks. -/
theorem below_call {w W w1 : World} (h : Below w.heap.size w W) (hb : Below W.heap.size W w1) : Below w.heap.size w w1 := h.trans (hb.mono h.size)
/-- The two cells of a block of two, and that they may be written. -/
theorem two_cells {w : World} {g : Nat} {u v : Value} {t : TypeId} (h : w.heap[g]? = some (.cells #[u, v] t (0, 0))) :
    w.cell? ⟨g, 0, none⟩ = some u ∧ w.cell? ⟨g, 1, none⟩ = some v ∧ w.frozen? ⟨g, 0, none⟩ = false ∧ w.frozen? ⟨g, 1, none⟩ = false :=
  ⟨cell_of_row w g 0 _ t (0, 0) h, cell_of_row w g 1 _ t (0, 0) h, by simp [World.frozen?, h], by simp [World.frozen?, h]⟩
theorem set_far {w : World} {g : Nat} {o : Obj} (h : w.heap[g]? = some o) {p : Addr} (hp : g ≠ p.block) {u : Value} : (w.setCell p u).heap[g]? = some o := (Below.heap_setCell w p u g hp).trans h
theorem set_at {w : World} {g i : Nat} {cs : Array Value} {t : TypeId} (h : w.heap[g]? = some (.cells cs t (0, 0))) {u : Value} : (w.setCell ⟨g, i, none⟩ u).heap[g]? = some (.cells (cs.setIfInBounds i u) t (0, 0)) := by
  simp [World.setCell, Array.getElem?_modify, h]
theorem set_0 {w : World} {g : Nat} {a b u : Value} {t : TypeId} (h : w.heap[g]? = some (.cells #[a, b] t (0, 0))) : (w.setCell ⟨g, 0, none⟩ u).heap[g]? = some (.cells #[u, b] t (0, 0)) := set_at h
theorem set_1 {w : World} {g : Nat} {a b u : Value} {t : TypeId} (h : w.heap[g]? = some (.cells #[a, b] t (0, 0))) : (w.setCell ⟨g, 1, none⟩ u).heap[g]? = some (.cells #[a, u] t (0, 0)) := set_at h
theorem heap_drew {w : World} {g : Nat} {o : Option Obj} (h : w.heap[g]? = o) : w.drew.heap[g]? = o := h
theorem heap_drewN {w : World} {g n : Nat} {o : Option Obj} (h : w.heap[g]? = o) : (w.drewN n).heap[g]? = o := h
theorem owns_form {w : World} {base : Nat} {e : TypeId} {size n : Nat} {v : Value} {xs : List Value} (h : w.ownsRow base e size v n xs) : ∃ (A : Option Addr) (c : Nat), v = .slice A n c ∧ (0 < n → ∃ g, A = some ⟨g, 0, none⟩) := by
  obtain ⟨_, h2⟩ := h
  rcases h2 with ⟨rfl, rfl⟩ | ⟨g, cap, cur, rfl, _⟩
  · exact ⟨none, 0, rfl, fun h => absurd h (by omega)⟩
  · exact ⟨_, cap, rfl, fun _ => ⟨g, rfl⟩⟩

end Go.Proofs.YtdjikiakcfbklaaGreat

/-
  Plain lemmas on bits and powers of two, in the words of the model's operations on numbers; no program in sight.
-/
namespace Go.Proofs.YtdjikiakcfbklaaGreat
open Go Go.RowKit

theorem p2_cast (k : Nat) : p2 k = ((2 ^ k : Nat) : Int) := by unfold p2; simp
theorem sz_nat (n : Int) : sz n = ((2 ^ (32 - n.toNat) : Nat) : Int) := p2_cast _

theorem nat_high (a k : Nat) (hk : k ≤ 32) (ha : a < 2 ^ 32) : a &&& (2 ^ 32 - 1 - (2 ^ k - 1)) = a - a % 2 ^ k := by
  have h1 : a - a % 2 ^ k = (a >>> k) <<< k := by
    rw [Nat.shiftLeft_eq, Nat.shiftRight_eq_div_pow]
    have := Nat.div_add_mod a (2 ^ k)
    rw [Nat.mul_comm] at this
    omega
  rw [h1]
  apply Nat.eq_of_testBit_eq
  intro i
  rw [Nat.testBit_and, Nat.testBit_shiftLeft, Nat.testBit_shiftRight]
  have hm : 2 ^ 32 - 1 - (2 ^ k - 1) = 2 ^ 32 - 2 ^ k := by
    have := Nat.two_pow_pos k; omega
  have hs : 2 ^ 32 - 2 ^ k = (2 ^ (32 - k) - 1) <<< k := by
    rw [Nat.shiftLeft_eq, Nat.sub_mul, ← Nat.pow_add]; congr 1
    · congr 1; omega
    · omega
  rw [hm, hs, Nat.testBit_shiftLeft, Nat.testBit_two_pow_sub_one]
  by_cases hi : k ≤ i
  · have e : k + (i - k) = i := by omega
    rw [e]
    by_cases h32 : i < 32
    · simp [hi]; omega
    · have : a.testBit i = false := Nat.testBit_lt_two_pow (Nat.lt_of_lt_of_le ha (Nat.pow_le_pow_right (by omega) (by omega)))
      simp [this]
  · simp [hi]

theorem and_sz (a n : Int) (ha : 0 ≤ a) (hb : a < 4294967296) : bits .and .u32 a (sz n - 1) = a % sz n := by
  obtain ⟨a, rfl⟩ := Int.eq_ofNat_of_zero_le ha
  have hp := sz_pos n
  have hq := sz_le n
  rw [u32_and _ _ ha hb (by omega) (by omega), sz_nat]
  have e : (((2 ^ (32 - n.toNat) : Nat) : Int) - 1).toNat = 2 ^ (32 - n.toNat) - 1 := by omega
  rw [e, Int.toNat_natCast, Nat.and_two_pow_sub_one_eq_mod]
  exact Int.natCast_emod _ _

theorem andNot_sz (a n : Int) (ha : 0 ≤ a) (hb : a < 4294967296) : bits .andNot .u32 a (sz n - 1) = a - a % sz n := by
  obtain ⟨a, rfl⟩ := Int.eq_ofNat_of_zero_le ha
  have hp := sz_pos n
  have hq := sz_le n
  rw [u32_andNot _ _ ha hb (by omega) (by omega), sz_nat]
  have e : (((2 ^ (32 - n.toNat) : Nat) : Int) - 1).toNat = 2 ^ (32 - n.toNat) - 1 := by omega
  rw [e, Int.toNat_natCast]
  have h := nat_high a (32 - n.toNat) (by omega) (by omega)
  rw [show (4294967295 : Nat) = 2 ^ 32 - 1 by decide, h, ← Int.natCast_emod]
  have := Nat.mod_le a (2 ^ (32 - n.toNat))
  omega


theorem not32 (x : Int) (h0 : 0 ≤ x) (h1 : x < 4294967296) : bits .xor .u32 IntKind.u32.max x = 4294967295 - x := by
  obtain ⟨x, rfl⟩ := Int.eq_ofNat_of_zero_le h0
  have e : IntKind.u32.max = 4294967295 := by decide
  rw [e, u32_xor _ _ (by omega) (by omega) h0 h1]
  have hx : x < 2 ^ 32 := by omega
  have e2 : (4294967295 : Int).toNat = 2 ^ 32 - 1 := by decide
  have e3 : (2 ^ 32 - 1) ^^^ x = 2 ^ 32 - (x + 1) := by
    apply Nat.eq_of_testBit_eq
    intro i
    rw [Nat.testBit_xor, Nat.testBit_two_pow_sub_one, Nat.testBit_two_pow_sub_succ hx]
    by_cases hi : i < 32
    · simp [hi]
    · have : x.testBit i = false := Nat.testBit_lt_two_pow (Nat.lt_of_lt_of_le hx (Nat.pow_le_pow_right (by omega) (by omega)))
      simp [hi, this]
  rw [e2, Int.toNat_natCast, e3]
  omega
theorem bitLen_pred (j : Nat) (h : j ≤ 63) : Lib.bitLen (2 ^ j - 1) = j := by
  induction j with
  | zero => decide
  | succ j ih =>
    have h2 : 2 ^ (j + 1) < 2 ^ 64 := Nat.pow_lt_pow_right (by omega) (by omega)
    have h3 := Nat.two_pow_pos j
    have h4 : 2 ^ (j + 1) = 2 * 2 ^ j := by rw [Nat.pow_succ]; omega
    rw [Lib.bitLen_half _ (by omega) (by omega)]
    have : (2 ^ (j + 1) - 1) / 2 = 2 ^ j - 1 := by omega
    rw [this, ih (by omega)]; omega
/-- The leading zeros of a number of 32 bits. -/
def lz32 (x : Int) : Int := 32 - (Lib.bitLen x.toNat : Int)
theorem lz32_range (x : Int) (h1 : x < 4294967296) : 0 ≤ lz32 x ∧ lz32 x ≤ 32 := by
  unfold lz32
  have := Lib.bitLen_le x.toNat 32 (by omega) (by have : (2 : Nat) ^ 32 = 4294967296 := by decide
                                                  omega)
  omega
theorem lz32_mask (n : Int) (h0 : 0 ≤ n) (h1 : n ≤ 32) : lz32 (sz n - 1) = n := by
  unfold lz32
  rw [sz_nat]
  have e : (((2 ^ (32 - n.toNat) : Nat) : Int) - 1).toNat = 2 ^ (32 - n.toNat) - 1 := by omega
  rw [e, bitLen_pred _ (by omega)]
  omega
theorem bitLen_p2 (j : Nat) (h : j ≤ 63) : Lib.bitLen (p2 j).toNat = j + 1 := by
  rw [p2_cast, Int.toNat_natCast]
  induction j with
  | zero => decide
  | succ j ih =>
    have h2 : 2 ^ (j + 1) < 2 ^ 64 := Nat.pow_lt_pow_right (by omega) (by omega)
    rw [Lib.bitLen_half _ (by have := Nat.two_pow_pos (j + 1); omega) h2]
    have : 2 ^ (j + 1) / 2 = 2 ^ j := by rw [Nat.pow_succ]; omega
    rw [this, ih (by omega)]; omega
theorem p2_lt64 {j : Nat} (h : j ≤ 63) : p2 j ≤ 18446744073709551615 := by
  rw [p2_cast]
  have h2 : 2 ^ j < 2 ^ 64 := Nat.pow_lt_pow_right (by omega) (by omega)
  have e : (2 : Nat) ^ 64 = 18446744073709551616 := by decide
  omega
end Go.Proofs.YtdjikiakcfbklaaGreat

/-
  Walks over the addresses' layer: behind, Check, In, Within; the program's and the reference's.
-/
namespace Go.Proofs.YtdjikiakcfbklaaGreat
open Go Go.RowKit Go.Sort

theorem behind_val (n : Int) (h0 : 0 ≤ n) (h1 : n ≤ 32) : IntKind.u64.wrap (IntKind.u64.wrap (2 ^ (32 - n).toNat) - 1) % 4294967296 = sz n - 1 := by
  have e : (32 - n).toNat = 32 - n.toNat := by omega
  have hp := p2_pos (32 - n.toNat)
  have hq := p2_le32 (k := 32 - n.toNat) (by omega)
  rw [e]
  show IntKind.u64.wrap (IntKind.u64.wrap (p2 (32 - n.toNat)) - 1) % 4294967296 = p2 (32 - n.toNat) - 1
  simp only [IntKind.wrap, IntKind.bits, IntKind.signed]
  omega
set_option maxHeartbeats 400000 in
theorem behind_any (n : Int) (w : World) (h0 : 0 ≤ n) (h1 : n ≤ 32) :
    Calls Tryz.prog 104 #[.int .i64 n] w fun e w' => e = .returned (.int .u32 (sz n - 1)) ∧ w = w' := by
  have hv := Lib.hid (behind_val n h0 h1)
  go_enter Tryz.func104, Tryz.ntmps104
  go_wp2
  go_ret
  exact ⟨ret_int hv.out, rfl⟩

set_option maxHeartbeats 400000 in
theorem addrCheck_any (a n : Int) (w : World) (ha : 0 ≤ a) (hb : a < 4294967296) :
    Calls Tryz.prog 59 #[.agg #[.int .u32 a, .int .i64 n]] w fun e w' => e = .returned (.int .i64 (chk a n)) ∧ Below w.heap.size w w' := by
  by_cases hr : n < 0 ∨ 32 < n
  · have hc := Lib.hid (chk_range a n hr)
    rcases hr with hr | hr
    · go_enter Tryz.func59, Tryz.ntmps59
      go_wp2
      go_ret
      exact ⟨ret_int hc.out.symm, (Below.refl _ _).alloc (Nat.le_refl _) _⟩
    · have hr' : ¬ n < 0 := by omega
      go_enter Tryz.func59, Tryz.ntmps59
      go_wp2
      go_ret
      exact ⟨ret_int hc.out.symm, (Below.refl _ _).alloc (Nat.le_refl _) _⟩
  · have h0 : 0 ≤ n := by omega
    have h1 : n ≤ 32 := by omega
    clear hr
    have ea := and_sz a n ha hb
    by_cases hm : a % sz n = 0
    · have hc := Lib.hid (chk_zero a n h0 h1 hm)
      have hd : (bits .and .u32 a (sz n - 1) != 0) = false := by rw [ea, hm]; rfl
      clear ea hm
      go_enter Tryz.func59, Tryz.ntmps59
      go_wp2
      go_quiet ((go_at_call 104; exact quiet_left (behind_any _ _ (by omega) (by omega))))
      go_wp2
      go_ret
      exact ⟨ret_int hc.out.symm, below_drewN ((Below.refl _ _).alloc (Nat.le_refl _) _) _⟩
    · have hc := Lib.hid (chk_mask a n h0 h1 hm)
      have hd : (bits .and .u32 a (sz n - 1) != 0) = true := by rw [ea]; simp [hm]
      clear ea hm
      go_enter Tryz.func59, Tryz.ntmps59
      go_wp2
      go_quiet ((go_at_call 104; exact quiet_left (behind_any _ _ (by omega) (by omega))))
      go_wp2
      go_ret
      exact ⟨ret_int hc.out.symm, below_drewN ((Below.refl _ _).alloc (Nat.le_refl _) _) _⟩

set_option maxHeartbeats 400000 in
theorem refCheck_any (a n : Int) (w : World) (ha : 0 ≤ a) (hb : a < 4294967296) :
    Calls Tryz.prog 30 #[.agg #[.int .u32 a, .int .i64 n]] w fun e w' => e = .returned (.int .i64 (chk a n)) ∧ Below w.heap.size w w' := by
  by_cases hr : n < 0 ∨ 32 < n
  · have hc := Lib.hid (chk_range a n hr)
    rcases hr with hr | hr
    · go_enter Tryz.func30, Tryz.ntmps30
      go_wp2
      go_ret
      exact ⟨ret_int hc.out.symm, (Below.refl _ _).alloc (Nat.le_refl _) _⟩
    · have hr' : ¬ n < 0 := by omega
      go_enter Tryz.func30, Tryz.ntmps30
      go_wp2
      go_ret
      exact ⟨ret_int hc.out.symm, (Below.refl _ _).alloc (Nat.le_refl _) _⟩
  · have h0 : 0 ≤ n := by omega
    have h1 : n ≤ 32 := by omega
    have hp := sz_pos n
    have hq := sz_le n
    clear hr
    by_cases hm : a % sz n = 0
    · have hc := Lib.hid (chk_zero a n h0 h1 hm)
      have hd : (a % sz n != 0) = false := by rw [hm]; rfl
      clear hm
      go_enter Tryz.func30, Tryz.ntmps30
      go_wp2
      go_quiet ((go_at_call 64; exact quiet_left (size_any _ _ (by omega) (by omega))))
      go_wp2
      go_ret
      exact ⟨ret_int hc.out.symm, below_drewN ((Below.refl _ _).alloc (Nat.le_refl _) _) _⟩
    · have hc := Lib.hid (chk_mask a n h0 h1 hm)
      have hd : (a % sz n != 0) = true := by simp [hm]
      clear hm
      go_enter Tryz.func30, Tryz.ntmps30
      go_wp2
      go_quiet ((go_at_call 64; exact quiet_left (size_any _ _ (by omega) (by omega))))
      go_wp2
      go_ret
      exact ⟨ret_int hc.out.symm, below_drewN ((Below.refl _ _).alloc (Nat.le_refl _) _) _⟩

end Go.Proofs.YtdjikiakcfbklaaGreat

/-
  Walks over the addresses' layer: In; the program's and the reference's.
-/
namespace Go.Proofs.YtdjikiakcfbklaaGreat
open Go Go.RowKit Go.Sort

theorem in_no (x a n : Int) (h : ¬ chk a n = 0) : false = inB x a n := by unfold inB; simp [h]
theorem in_low (x a n : Int) (h : ¬ a ≤ x) : false = inB x a n := by unfold inB; simp [h]
theorem in_sub (x a n : Int) (hr : chk a n = 0) (h : a ≤ x) : decide (x - a < sz n) = inB x a n := by
  unfold inB
  rw [decide_eq_decide]
  constructor
  · intro h1; exact ⟨hr, h, by omega⟩
  · intro h1; omega
theorem in_andNot (x a n : Int) (hx : 0 ≤ x) (hx' : x < 4294967296) (hr : chk a n = 0) : (bits .andNot .u32 x (sz n - 1) == a) = inB x a n := by
  obtain ⟨_, _, h2⟩ := chk_ok hr
  rw [andNot_sz x n hx hx']
  unfold inB
  rw [Bool.eq_iff_iff, beq_iff_eq, decide_eq_true_iff]
  have hp := sz_pos n
  have e1 := Int.emod_add_mul_ediv x (sz n)
  have l1 := Int.emod_nonneg x (by omega : sz n ≠ 0)
  have l2 := Int.emod_lt_of_pos x (by omega : 0 < sz n)
  constructor
  · intro h
    exact ⟨hr, by omega, by omega⟩
  · intro ⟨_, h3, h4⟩
    have e2 := Int.emod_add_mul_ediv a (sz n)
    rw [h2] at e2
    have h5 : x % sz n = x - a := by
      have : (x - a + sz n * (a / sz n)) % sz n = (x - a) % sz n := Int.add_mul_emod_self_left ..
      rw [show x - a + sz n * (a / sz n) = x by omega, Int.emod_eq_of_lt (a := x - a) (by omega) (by omega)] at this
      exact this
    omega

set_option maxHeartbeats 400000 in
theorem addrIn_any (x a n : Int) (w : World) (hx : 0 ≤ x) (hx' : x < 4294967296) (ha : 0 ≤ a) (hb : a < 4294967296) :
    Calls Tryz.prog 152 #[.int .u32 x, .agg #[.int .u32 a, .int .i64 n]] w fun e w' => e = .returned (.bool (inB x a n)) ∧ Below w.heap.size w w' := by
  by_cases hr : chk a n = 0
  · obtain ⟨h0, h1, h2⟩ := chk_ok hr
    have hd : (chk a n == 0) = true := by simp [hr]
    have hE := Lib.hid (in_andNot x a n hx hx' hr)
    clear hr h2
    go_enter Tryz.func152, Tryz.ntmps152
    go_wp2
    have c0 : (w.alloc (.cells #[.int .u32 a, .int .i64 n] 40)).cell? ⟨w.heap.size, 0, none⟩ = some (.int .u32 a) := by simp
    have c1 : (w.alloc (.cells #[.int .u32 a, .int .i64 n] 40)).cell? ⟨w.heap.size, 1, none⟩ = some (.int .i64 n) := by simp
    have hbW : Below w.heap.size w (w.alloc (.cells #[.int .u32 a, .int .i64 n] 40)) := (Below.refl _ _).alloc (Nat.le_refl _) _
    generalize w.alloc (.cells #[.int .u32 a, .int .i64 n] 40) = W at *
    have F0 := cell_regrown c0
    have F1 := cell_regrown c1
    refine wp_region_quiet_below (by kernel_rfl) (by kernel_rfl) ?_
    repeat (first | go_big_quiet_step ((first | (go_at_call 59; exact Calls.regrown_of (addrCheck_any _ _ _ (by omega) (by omega))) | (go_at_call 104; exact regrown_left (behind_any _ _ (by omega) (by omega))))) | quiet_step ((first | (go_at_call 59; exact Calls.regrown_of (addrCheck_any _ _ _ (by omega) (by omega))) | (go_at_call 104; exact regrown_left (behind_any _ _ (by omega) (by omega))))))
    refine wpQuiet_nil ?_
    intro _ hw'
    obtain ⟨⟨nq, osq⟩, hw''⟩ := hw'
    subst hw''
    go_wp2
    go_ret
    exact ⟨ret_bool (hE.out), (hbW.trans ((below_regrown W nq osq).mono hbW.size))⟩
  · have hd : (chk a n == 0) = false := by simp [hr]
    have hE := Lib.hid (in_no x a n hr)
    clear hr
    go_enter Tryz.func152, Tryz.ntmps152
    go_wp2
    have c0 : (w.alloc (.cells #[.int .u32 a, .int .i64 n] 40)).cell? ⟨w.heap.size, 0, none⟩ = some (.int .u32 a) := by simp
    have c1 : (w.alloc (.cells #[.int .u32 a, .int .i64 n] 40)).cell? ⟨w.heap.size, 1, none⟩ = some (.int .i64 n) := by simp
    have hbW : Below w.heap.size w (w.alloc (.cells #[.int .u32 a, .int .i64 n] 40)) := (Below.refl _ _).alloc (Nat.le_refl _) _
    generalize w.alloc (.cells #[.int .u32 a, .int .i64 n] 40) = W at *
    have F0 := cell_regrown c0
    have F1 := cell_regrown c1
    refine wp_region_quiet_below (by kernel_rfl) (by kernel_rfl) ?_
    repeat (first | go_big_quiet_step (((go_at_call 59; exact Calls.regrown_of (addrCheck_any _ _ _ (by omega) (by omega))))) | quiet_step (((go_at_call 59; exact Calls.regrown_of (addrCheck_any _ _ _ (by omega) (by omega))))))
    refine wpQuiet_nil ?_
    intro _ hw'
    obtain ⟨⟨nq, osq⟩, hw''⟩ := hw'
    subst hw''
    go_wp2
    go_ret
    exact ⟨ret_bool (hE.out), (hbW.trans ((below_regrown W nq osq).mono hbW.size))⟩

end Go.Proofs.YtdjikiakcfbklaaGreat

/-
  Walks over the filter's layer: what a rule may be, and which headers fit it; the program's and the reference's (written by wip/gen/genfilter.py).
-/
namespace Go.Proofs.YtdjikiakcfbklaaGreat
open Go Go.RowKit

/-- A rule, its numbers within their kinds. -/
structure RuleV where
  permit : Bool
  proto : Int
  sa : Int
  sn : Int
  da : Int
  dn : Int
  sl : Int
  sh : Int
  dl : Int
  dh : Int
  hpr : -9223372036854775808 ≤ proto ∧ proto ≤ 9223372036854775807
  hsa : 0 ≤ sa ∧ sa < 4294967296
  hda : 0 ≤ da ∧ da < 4294967296
  hsl : 0 ≤ sl ∧ sl < 4294967296
  hsh : 0 ≤ sh ∧ sh < 4294967296
  hdl : 0 ≤ dl ∧ dl < 4294967296
  hdh : 0 ≤ dh ∧ dh < 4294967296
/-- A header, its numbers within their kinds. -/
structure HeaderV where
  src : Int
  dst : Int
  proto : Int
  sp : Int
  dp : Int
  hsrc : 0 ≤ src ∧ src < 4294967296
  hdst : 0 ≤ dst ∧ dst < 4294967296
  hproto : 0 ≤ proto ∧ proto ≤ 255
  hsp : 0 ≤ sp ∧ sp ≤ 65535
  hdp : 0 ≤ dp ∧ dp ≤ 65535

def portsB (lo hi : Int) : Bool := decide (lo ≤ hi) && decide (hi ≤ 65535)
def mayB (r : RuleV) : Bool := decide (-1 ≤ r.proto) && decide (r.proto ≤ 255) && decide (chk r.sa r.sn = 0) && decide (chk r.da r.dn = 0) && portsB r.sl r.sh && portsB r.dl r.dh
def inP (lo hi x : Int) : Bool := decide (lo ≤ x) && decide (x ≤ hi)
def fitsB (r : RuleV) (h : HeaderV) : Bool := decide (chk r.sa r.sn = 0) && decide (chk r.da r.dn = 0) && inB h.src r.sa r.sn && inB h.dst r.da r.dn && (decide (r.proto = -1) || decide (r.proto = h.proto)) && inP r.sl r.sh h.sp && inP r.dl r.dh h.dp

set_option maxHeartbeats 1000000 in
theorem ports_any (lo hi : Int) (w : World) :
    Calls Tryz.prog 113 #[.agg #[.int .u32 lo, .int .u32 hi]] w fun e w' => e = .returned (.bool (portsB lo hi)) ∧ Below w.heap.size w w' := by
  by_cases q0a : lo ≤ hi
  · have t0a0 : decide (lo ≤ hi) = true := by first | (simp [*]; done) | (simp; omega) | (simp [*]; omega)
    have hE : Hid (decide (hi ≤ 65535) = portsB lo hi) := by unfold Hid; simp [portsB, *]
    clear q0a
    go_enter Tryz.func113, Tryz.ntmps113
    go_wp2
    go_ret
    exact ⟨ret_bool hE.out, below1 w _⟩
  · have t0b0 : decide (lo ≤ hi) = false := by first | (simp [*]; done) | (simp; omega) | (simp [*]; omega)
    have hE : Hid (false = portsB lo hi) := by unfold Hid; simp [portsB, *]
    clear q0a
    go_enter Tryz.func113, Tryz.ntmps113
    go_wp2
    go_ret
    exact ⟨ret_bool hE.out, below1 w _⟩

set_option maxHeartbeats 1000000 in
theorem in_any (lo hi x : Int) (hx0 : 0 ≤ x) (hx1 : x ≤ 65535) (w : World) :
    Calls Tryz.prog 153 #[.agg #[.int .u32 lo, .int .u32 hi], .int .u16 x] w fun e w' => e = .returned (.bool (inP lo hi x)) ∧ Below w.heap.size w w' := by
  by_cases q0a : lo ≤ x
  · have t0a0 : decide (lo ≤ x) = true := by first | (simp [*]; done) | (simp; omega) | (simp [*]; omega)
    have hE : Hid (decide (x ≤ hi) = inP lo hi x) := by unfold Hid; simp [inP, *]
    clear q0a
    go_enter Tryz.func153, Tryz.ntmps153
    go_wp2
    go_ret
    exact ⟨ret_bool hE.out, below1 w _⟩
  · have t0b0 : decide (lo ≤ x) = false := by first | (simp [*]; done) | (simp; omega) | (simp [*]; omega)
    have hE : Hid (false = inP lo hi x) := by unfold Hid; simp [inP, *]
    clear q0a
    go_enter Tryz.func153, Tryz.ntmps153
    go_wp2
    go_ret
    exact ⟨ret_bool hE.out, below1 w _⟩

set_option maxHeartbeats 1000000 in
theorem may_any (r : RuleV) (w : World) :
    Calls Tryz.prog 80 #[.agg #[.bool r.permit, .int .i64 r.proto, .int .u32 r.sa, .int .i64 r.sn, .int .u32 r.da, .int .i64 r.dn, .int .u32 r.sl, .int .u32 r.sh, .int .u32 r.dl, .int .u32 r.dh]] w fun e w' => e = .returned (.bool (mayB r)) ∧ Below w.heap.size w w' := by
  by_cases q0a : -1 ≤ r.proto
  · have t0a0 : decide (-1 ≤ r.proto) = true := by first | (simp [*]; done) | (simp; omega) | (simp [*]; omega)
    by_cases q1a : r.proto ≤ 255
    · have t1a0 : decide (r.proto ≤ 255) = true := by first | (simp [*]; done) | (simp; omega) | (simp [*]; omega)
      by_cases q2a : chk r.sa r.sn = 0
      · have t2a0 : (chk r.sa r.sn == 0) = true := by first | (simp [*]; done) | (simp; omega) | (simp [*]; omega)
        by_cases q3a : chk r.da r.dn = 0
        · have t3a0 : (chk r.da r.dn == 0) = true := by first | (simp [*]; done) | (simp; omega) | (simp [*]; omega)
          by_cases q4a : portsB r.sl r.sh = true
          · have t4a0 : portsB r.sl r.sh = true := by first | (simp [*]; done) | (simp; omega) | (simp [*]; omega)
            have hE : Hid (portsB r.dl r.dh = mayB r) := by unfold Hid; simp [mayB, *]
            clear q0a q1a q2a q3a q4a
            go_enter Tryz.func80, Tryz.ntmps80
            go_wp2_with fail
            refine (addrCheck_any _ _ _ r.hsa.1 r.hsa.2).mono ?_
            rintro e w1 ⟨rfl, hb⟩
            have Jr := blk_below hb (blk1 w _)
            have hbw := below_call (below1 w _) hb
            clear hb
            have cr0 : w1.cell? ⟨w.heap.size, 0, none⟩ = some (.bool r.permit) := cell_of_row w1 (w.heap.size) 0 _ _ (0, 0) Jr
            have cr1 : w1.cell? ⟨w.heap.size, 1, none⟩ = some (.int .i64 r.proto) := cell_of_row w1 (w.heap.size) 1 _ _ (0, 0) Jr
            have cr2 : w1.cell? ⟨w.heap.size, 2, none⟩ = some (.int .u32 r.sa) := cell_of_row w1 (w.heap.size) 2 _ _ (0, 0) Jr
            have cr3 : w1.cell? ⟨w.heap.size, 3, none⟩ = some (.int .i64 r.sn) := cell_of_row w1 (w.heap.size) 3 _ _ (0, 0) Jr
            have cr4 : w1.cell? ⟨w.heap.size, 4, none⟩ = some (.int .u32 r.da) := cell_of_row w1 (w.heap.size) 4 _ _ (0, 0) Jr
            have cr5 : w1.cell? ⟨w.heap.size, 5, none⟩ = some (.int .i64 r.dn) := cell_of_row w1 (w.heap.size) 5 _ _ (0, 0) Jr
            have cr6 : w1.cell? ⟨w.heap.size, 6, none⟩ = some (.int .u32 r.sl) := cell_of_row w1 (w.heap.size) 6 _ _ (0, 0) Jr
            have cr7 : w1.cell? ⟨w.heap.size, 7, none⟩ = some (.int .u32 r.sh) := cell_of_row w1 (w.heap.size) 7 _ _ (0, 0) Jr
            have cr8 : w1.cell? ⟨w.heap.size, 8, none⟩ = some (.int .u32 r.dl) := cell_of_row w1 (w.heap.size) 8 _ _ (0, 0) Jr
            have cr9 : w1.cell? ⟨w.heap.size, 9, none⟩ = some (.int .u32 r.dh) := cell_of_row w1 (w.heap.size) 9 _ _ (0, 0) Jr
            have lr : w.heap.size < w1.heap.size := lt_of_block Jr
            have nr : w.heap.size ≠ w1.heap.size := Nat.ne_of_lt lr
            have Kr := Lib.hid Jr
            clear Jr
            go_wp2_with fail
            refine (addrCheck_any _ _ _ r.hda.1 r.hda.2).mono ?_
            rintro e w2 ⟨rfl, hb⟩
            have Jr := blk_below hb Kr.out
            have hbw' := below_call hbw hb
            clear hb hbw Kr lr nr cr0 cr1 cr2 cr3 cr4 cr5 cr6 cr7 cr8 cr9
            have hbw := hbw'
            clear hbw'
            have cr0 : w2.cell? ⟨w.heap.size, 0, none⟩ = some (.bool r.permit) := cell_of_row w2 (w.heap.size) 0 _ _ (0, 0) Jr
            have cr1 : w2.cell? ⟨w.heap.size, 1, none⟩ = some (.int .i64 r.proto) := cell_of_row w2 (w.heap.size) 1 _ _ (0, 0) Jr
            have cr2 : w2.cell? ⟨w.heap.size, 2, none⟩ = some (.int .u32 r.sa) := cell_of_row w2 (w.heap.size) 2 _ _ (0, 0) Jr
            have cr3 : w2.cell? ⟨w.heap.size, 3, none⟩ = some (.int .i64 r.sn) := cell_of_row w2 (w.heap.size) 3 _ _ (0, 0) Jr
            have cr4 : w2.cell? ⟨w.heap.size, 4, none⟩ = some (.int .u32 r.da) := cell_of_row w2 (w.heap.size) 4 _ _ (0, 0) Jr
            have cr5 : w2.cell? ⟨w.heap.size, 5, none⟩ = some (.int .i64 r.dn) := cell_of_row w2 (w.heap.size) 5 _ _ (0, 0) Jr
            have cr6 : w2.cell? ⟨w.heap.size, 6, none⟩ = some (.int .u32 r.sl) := cell_of_row w2 (w.heap.size) 6 _ _ (0, 0) Jr
            have cr7 : w2.cell? ⟨w.heap.size, 7, none⟩ = some (.int .u32 r.sh) := cell_of_row w2 (w.heap.size) 7 _ _ (0, 0) Jr
            have cr8 : w2.cell? ⟨w.heap.size, 8, none⟩ = some (.int .u32 r.dl) := cell_of_row w2 (w.heap.size) 8 _ _ (0, 0) Jr
            have cr9 : w2.cell? ⟨w.heap.size, 9, none⟩ = some (.int .u32 r.dh) := cell_of_row w2 (w.heap.size) 9 _ _ (0, 0) Jr
            have lr : w.heap.size < w2.heap.size := lt_of_block Jr
            have nr : w.heap.size ≠ w2.heap.size := Nat.ne_of_lt lr
            have Kr := Lib.hid Jr
            clear Jr
            go_wp2_with fail
            refine (ports_any _ _ _).mono ?_
            rintro e w3 ⟨rfl, hb⟩
            have Jr := blk_below hb Kr.out
            have hbw' := below_call hbw hb
            clear hb hbw Kr lr nr cr0 cr1 cr2 cr3 cr4 cr5 cr6 cr7 cr8 cr9
            have hbw := hbw'
            clear hbw'
            have cr0 : w3.cell? ⟨w.heap.size, 0, none⟩ = some (.bool r.permit) := cell_of_row w3 (w.heap.size) 0 _ _ (0, 0) Jr
            have cr1 : w3.cell? ⟨w.heap.size, 1, none⟩ = some (.int .i64 r.proto) := cell_of_row w3 (w.heap.size) 1 _ _ (0, 0) Jr
            have cr2 : w3.cell? ⟨w.heap.size, 2, none⟩ = some (.int .u32 r.sa) := cell_of_row w3 (w.heap.size) 2 _ _ (0, 0) Jr
            have cr3 : w3.cell? ⟨w.heap.size, 3, none⟩ = some (.int .i64 r.sn) := cell_of_row w3 (w.heap.size) 3 _ _ (0, 0) Jr
            have cr4 : w3.cell? ⟨w.heap.size, 4, none⟩ = some (.int .u32 r.da) := cell_of_row w3 (w.heap.size) 4 _ _ (0, 0) Jr
            have cr5 : w3.cell? ⟨w.heap.size, 5, none⟩ = some (.int .i64 r.dn) := cell_of_row w3 (w.heap.size) 5 _ _ (0, 0) Jr
            have cr6 : w3.cell? ⟨w.heap.size, 6, none⟩ = some (.int .u32 r.sl) := cell_of_row w3 (w.heap.size) 6 _ _ (0, 0) Jr
            have cr7 : w3.cell? ⟨w.heap.size, 7, none⟩ = some (.int .u32 r.sh) := cell_of_row w3 (w.heap.size) 7 _ _ (0, 0) Jr
            have cr8 : w3.cell? ⟨w.heap.size, 8, none⟩ = some (.int .u32 r.dl) := cell_of_row w3 (w.heap.size) 8 _ _ (0, 0) Jr
            have cr9 : w3.cell? ⟨w.heap.size, 9, none⟩ = some (.int .u32 r.dh) := cell_of_row w3 (w.heap.size) 9 _ _ (0, 0) Jr
            have lr : w.heap.size < w3.heap.size := lt_of_block Jr
            have nr : w.heap.size ≠ w3.heap.size := Nat.ne_of_lt lr
            have Kr := Lib.hid Jr
            clear Jr
            go_wp2_with fail
            refine (ports_any _ _ _).mono ?_
            rintro e w4 ⟨rfl, hb⟩
            have Jr := blk_below hb Kr.out
            have hbw' := below_call hbw hb
            clear hb hbw Kr lr nr cr0 cr1 cr2 cr3 cr4 cr5 cr6 cr7 cr8 cr9
            have hbw := hbw'
            clear hbw'
            have cr0 : w4.cell? ⟨w.heap.size, 0, none⟩ = some (.bool r.permit) := cell_of_row w4 (w.heap.size) 0 _ _ (0, 0) Jr
            have cr1 : w4.cell? ⟨w.heap.size, 1, none⟩ = some (.int .i64 r.proto) := cell_of_row w4 (w.heap.size) 1 _ _ (0, 0) Jr
            have cr2 : w4.cell? ⟨w.heap.size, 2, none⟩ = some (.int .u32 r.sa) := cell_of_row w4 (w.heap.size) 2 _ _ (0, 0) Jr
            have cr3 : w4.cell? ⟨w.heap.size, 3, none⟩ = some (.int .i64 r.sn) := cell_of_row w4 (w.heap.size) 3 _ _ (0, 0) Jr
            have cr4 : w4.cell? ⟨w.heap.size, 4, none⟩ = some (.int .u32 r.da) := cell_of_row w4 (w.heap.size) 4 _ _ (0, 0) Jr
            have cr5 : w4.cell? ⟨w.heap.size, 5, none⟩ = some (.int .i64 r.dn) := cell_of_row w4 (w.heap.size) 5 _ _ (0, 0) Jr
            have cr6 : w4.cell? ⟨w.heap.size, 6, none⟩ = some (.int .u32 r.sl) := cell_of_row w4 (w.heap.size) 6 _ _ (0, 0) Jr
            have cr7 : w4.cell? ⟨w.heap.size, 7, none⟩ = some (.int .u32 r.sh) := cell_of_row w4 (w.heap.size) 7 _ _ (0, 0) Jr
            have cr8 : w4.cell? ⟨w.heap.size, 8, none⟩ = some (.int .u32 r.dl) := cell_of_row w4 (w.heap.size) 8 _ _ (0, 0) Jr
            have cr9 : w4.cell? ⟨w.heap.size, 9, none⟩ = some (.int .u32 r.dh) := cell_of_row w4 (w.heap.size) 9 _ _ (0, 0) Jr
            have lr : w.heap.size < w4.heap.size := lt_of_block Jr
            have nr : w.heap.size ≠ w4.heap.size := Nat.ne_of_lt lr
            have Kr := Lib.hid Jr
            clear Jr
            go_wp2
            go_ret
            exact ⟨ret_bool hE.out, hbw⟩
          · have t4b0 : portsB r.sl r.sh = false := by first | (simp [*]; done) | (simp; omega) | (simp [*]; omega)
            have hE : Hid (false = mayB r) := by unfold Hid; simp [mayB, *]
            clear q0a q1a q2a q3a q4a
            go_enter Tryz.func80, Tryz.ntmps80
            go_wp2_with fail
            refine (addrCheck_any _ _ _ r.hsa.1 r.hsa.2).mono ?_
            rintro e w1 ⟨rfl, hb⟩
            have Jr := blk_below hb (blk1 w _)
            have hbw := below_call (below1 w _) hb
            clear hb
            have cr0 : w1.cell? ⟨w.heap.size, 0, none⟩ = some (.bool r.permit) := cell_of_row w1 (w.heap.size) 0 _ _ (0, 0) Jr
            have cr1 : w1.cell? ⟨w.heap.size, 1, none⟩ = some (.int .i64 r.proto) := cell_of_row w1 (w.heap.size) 1 _ _ (0, 0) Jr
            have cr2 : w1.cell? ⟨w.heap.size, 2, none⟩ = some (.int .u32 r.sa) := cell_of_row w1 (w.heap.size) 2 _ _ (0, 0) Jr
            have cr3 : w1.cell? ⟨w.heap.size, 3, none⟩ = some (.int .i64 r.sn) := cell_of_row w1 (w.heap.size) 3 _ _ (0, 0) Jr
            have cr4 : w1.cell? ⟨w.heap.size, 4, none⟩ = some (.int .u32 r.da) := cell_of_row w1 (w.heap.size) 4 _ _ (0, 0) Jr
            have cr5 : w1.cell? ⟨w.heap.size, 5, none⟩ = some (.int .i64 r.dn) := cell_of_row w1 (w.heap.size) 5 _ _ (0, 0) Jr
            have cr6 : w1.cell? ⟨w.heap.size, 6, none⟩ = some (.int .u32 r.sl) := cell_of_row w1 (w.heap.size) 6 _ _ (0, 0) Jr
            have cr7 : w1.cell? ⟨w.heap.size, 7, none⟩ = some (.int .u32 r.sh) := cell_of_row w1 (w.heap.size) 7 _ _ (0, 0) Jr
            have cr8 : w1.cell? ⟨w.heap.size, 8, none⟩ = some (.int .u32 r.dl) := cell_of_row w1 (w.heap.size) 8 _ _ (0, 0) Jr
            have cr9 : w1.cell? ⟨w.heap.size, 9, none⟩ = some (.int .u32 r.dh) := cell_of_row w1 (w.heap.size) 9 _ _ (0, 0) Jr
            have lr : w.heap.size < w1.heap.size := lt_of_block Jr
            have nr : w.heap.size ≠ w1.heap.size := Nat.ne_of_lt lr
            have Kr := Lib.hid Jr
            clear Jr
            go_wp2_with fail
            refine (addrCheck_any _ _ _ r.hda.1 r.hda.2).mono ?_
            rintro e w2 ⟨rfl, hb⟩
            have Jr := blk_below hb Kr.out
            have hbw' := below_call hbw hb
            clear hb hbw Kr lr nr cr0 cr1 cr2 cr3 cr4 cr5 cr6 cr7 cr8 cr9
            have hbw := hbw'
            clear hbw'
            have cr0 : w2.cell? ⟨w.heap.size, 0, none⟩ = some (.bool r.permit) := cell_of_row w2 (w.heap.size) 0 _ _ (0, 0) Jr
            have cr1 : w2.cell? ⟨w.heap.size, 1, none⟩ = some (.int .i64 r.proto) := cell_of_row w2 (w.heap.size) 1 _ _ (0, 0) Jr
            have cr2 : w2.cell? ⟨w.heap.size, 2, none⟩ = some (.int .u32 r.sa) := cell_of_row w2 (w.heap.size) 2 _ _ (0, 0) Jr
            have cr3 : w2.cell? ⟨w.heap.size, 3, none⟩ = some (.int .i64 r.sn) := cell_of_row w2 (w.heap.size) 3 _ _ (0, 0) Jr
            have cr4 : w2.cell? ⟨w.heap.size, 4, none⟩ = some (.int .u32 r.da) := cell_of_row w2 (w.heap.size) 4 _ _ (0, 0) Jr
            have cr5 : w2.cell? ⟨w.heap.size, 5, none⟩ = some (.int .i64 r.dn) := cell_of_row w2 (w.heap.size) 5 _ _ (0, 0) Jr
            have cr6 : w2.cell? ⟨w.heap.size, 6, none⟩ = some (.int .u32 r.sl) := cell_of_row w2 (w.heap.size) 6 _ _ (0, 0) Jr
            have cr7 : w2.cell? ⟨w.heap.size, 7, none⟩ = some (.int .u32 r.sh) := cell_of_row w2 (w.heap.size) 7 _ _ (0, 0) Jr
            have cr8 : w2.cell? ⟨w.heap.size, 8, none⟩ = some (.int .u32 r.dl) := cell_of_row w2 (w.heap.size) 8 _ _ (0, 0) Jr
            have cr9 : w2.cell? ⟨w.heap.size, 9, none⟩ = some (.int .u32 r.dh) := cell_of_row w2 (w.heap.size) 9 _ _ (0, 0) Jr
            have lr : w.heap.size < w2.heap.size := lt_of_block Jr
            have nr : w.heap.size ≠ w2.heap.size := Nat.ne_of_lt lr
            have Kr := Lib.hid Jr
            clear Jr
            go_wp2_with fail
            refine (ports_any _ _ _).mono ?_
            rintro e w3 ⟨rfl, hb⟩
            have Jr := blk_below hb Kr.out
            have hbw' := below_call hbw hb
            clear hb hbw Kr lr nr cr0 cr1 cr2 cr3 cr4 cr5 cr6 cr7 cr8 cr9
            have hbw := hbw'
            clear hbw'
            have cr0 : w3.cell? ⟨w.heap.size, 0, none⟩ = some (.bool r.permit) := cell_of_row w3 (w.heap.size) 0 _ _ (0, 0) Jr
            have cr1 : w3.cell? ⟨w.heap.size, 1, none⟩ = some (.int .i64 r.proto) := cell_of_row w3 (w.heap.size) 1 _ _ (0, 0) Jr
            have cr2 : w3.cell? ⟨w.heap.size, 2, none⟩ = some (.int .u32 r.sa) := cell_of_row w3 (w.heap.size) 2 _ _ (0, 0) Jr
            have cr3 : w3.cell? ⟨w.heap.size, 3, none⟩ = some (.int .i64 r.sn) := cell_of_row w3 (w.heap.size) 3 _ _ (0, 0) Jr
            have cr4 : w3.cell? ⟨w.heap.size, 4, none⟩ = some (.int .u32 r.da) := cell_of_row w3 (w.heap.size) 4 _ _ (0, 0) Jr
            have cr5 : w3.cell? ⟨w.heap.size, 5, none⟩ = some (.int .i64 r.dn) := cell_of_row w3 (w.heap.size) 5 _ _ (0, 0) Jr
            have cr6 : w3.cell? ⟨w.heap.size, 6, none⟩ = some (.int .u32 r.sl) := cell_of_row w3 (w.heap.size) 6 _ _ (0, 0) Jr
            have cr7 : w3.cell? ⟨w.heap.size, 7, none⟩ = some (.int .u32 r.sh) := cell_of_row w3 (w.heap.size) 7 _ _ (0, 0) Jr
            have cr8 : w3.cell? ⟨w.heap.size, 8, none⟩ = some (.int .u32 r.dl) := cell_of_row w3 (w.heap.size) 8 _ _ (0, 0) Jr
            have cr9 : w3.cell? ⟨w.heap.size, 9, none⟩ = some (.int .u32 r.dh) := cell_of_row w3 (w.heap.size) 9 _ _ (0, 0) Jr
            have lr : w.heap.size < w3.heap.size := lt_of_block Jr
            have nr : w.heap.size ≠ w3.heap.size := Nat.ne_of_lt lr
            have Kr := Lib.hid Jr
            clear Jr
            go_wp2
            go_ret
            exact ⟨ret_bool hE.out, hbw⟩
        · have t3b0 : (chk r.da r.dn == 0) = false := by first | (simp [*]; done) | (simp; omega) | (simp [*]; omega)
          have hE : Hid (false = mayB r) := by unfold Hid; simp [mayB, *]
          clear q0a q1a q2a q3a
          go_enter Tryz.func80, Tryz.ntmps80
          go_wp2_with fail
          refine (addrCheck_any _ _ _ r.hsa.1 r.hsa.2).mono ?_
          rintro e w1 ⟨rfl, hb⟩
          have Jr := blk_below hb (blk1 w _)
          have hbw := below_call (below1 w _) hb
          clear hb
          have cr0 : w1.cell? ⟨w.heap.size, 0, none⟩ = some (.bool r.permit) := cell_of_row w1 (w.heap.size) 0 _ _ (0, 0) Jr
          have cr1 : w1.cell? ⟨w.heap.size, 1, none⟩ = some (.int .i64 r.proto) := cell_of_row w1 (w.heap.size) 1 _ _ (0, 0) Jr
          have cr2 : w1.cell? ⟨w.heap.size, 2, none⟩ = some (.int .u32 r.sa) := cell_of_row w1 (w.heap.size) 2 _ _ (0, 0) Jr
          have cr3 : w1.cell? ⟨w.heap.size, 3, none⟩ = some (.int .i64 r.sn) := cell_of_row w1 (w.heap.size) 3 _ _ (0, 0) Jr
          have cr4 : w1.cell? ⟨w.heap.size, 4, none⟩ = some (.int .u32 r.da) := cell_of_row w1 (w.heap.size) 4 _ _ (0, 0) Jr
          have cr5 : w1.cell? ⟨w.heap.size, 5, none⟩ = some (.int .i64 r.dn) := cell_of_row w1 (w.heap.size) 5 _ _ (0, 0) Jr
          have cr6 : w1.cell? ⟨w.heap.size, 6, none⟩ = some (.int .u32 r.sl) := cell_of_row w1 (w.heap.size) 6 _ _ (0, 0) Jr
          have cr7 : w1.cell? ⟨w.heap.size, 7, none⟩ = some (.int .u32 r.sh) := cell_of_row w1 (w.heap.size) 7 _ _ (0, 0) Jr
          have cr8 : w1.cell? ⟨w.heap.size, 8, none⟩ = some (.int .u32 r.dl) := cell_of_row w1 (w.heap.size) 8 _ _ (0, 0) Jr
          have cr9 : w1.cell? ⟨w.heap.size, 9, none⟩ = some (.int .u32 r.dh) := cell_of_row w1 (w.heap.size) 9 _ _ (0, 0) Jr
          have lr : w.heap.size < w1.heap.size := lt_of_block Jr
          have nr : w.heap.size ≠ w1.heap.size := Nat.ne_of_lt lr
          have Kr := Lib.hid Jr
          clear Jr
          go_wp2_with fail
          refine (addrCheck_any _ _ _ r.hda.1 r.hda.2).mono ?_
          rintro e w2 ⟨rfl, hb⟩
          have Jr := blk_below hb Kr.out
          have hbw' := below_call hbw hb
          clear hb hbw Kr lr nr cr0 cr1 cr2 cr3 cr4 cr5 cr6 cr7 cr8 cr9
          have hbw := hbw'
          clear hbw'
          have cr0 : w2.cell? ⟨w.heap.size, 0, none⟩ = some (.bool r.permit) := cell_of_row w2 (w.heap.size) 0 _ _ (0, 0) Jr
          have cr1 : w2.cell? ⟨w.heap.size, 1, none⟩ = some (.int .i64 r.proto) := cell_of_row w2 (w.heap.size) 1 _ _ (0, 0) Jr
          have cr2 : w2.cell? ⟨w.heap.size, 2, none⟩ = some (.int .u32 r.sa) := cell_of_row w2 (w.heap.size) 2 _ _ (0, 0) Jr
          have cr3 : w2.cell? ⟨w.heap.size, 3, none⟩ = some (.int .i64 r.sn) := cell_of_row w2 (w.heap.size) 3 _ _ (0, 0) Jr
          have cr4 : w2.cell? ⟨w.heap.size, 4, none⟩ = some (.int .u32 r.da) := cell_of_row w2 (w.heap.size) 4 _ _ (0, 0) Jr
          have cr5 : w2.cell? ⟨w.heap.size, 5, none⟩ = some (.int .i64 r.dn) := cell_of_row w2 (w.heap.size) 5 _ _ (0, 0) Jr
          have cr6 : w2.cell? ⟨w.heap.size, 6, none⟩ = some (.int .u32 r.sl) := cell_of_row w2 (w.heap.size) 6 _ _ (0, 0) Jr
          have cr7 : w2.cell? ⟨w.heap.size, 7, none⟩ = some (.int .u32 r.sh) := cell_of_row w2 (w.heap.size) 7 _ _ (0, 0) Jr
          have cr8 : w2.cell? ⟨w.heap.size, 8, none⟩ = some (.int .u32 r.dl) := cell_of_row w2 (w.heap.size) 8 _ _ (0, 0) Jr
          have cr9 : w2.cell? ⟨w.heap.size, 9, none⟩ = some (.int .u32 r.dh) := cell_of_row w2 (w.heap.size) 9 _ _ (0, 0) Jr
          have lr : w.heap.size < w2.heap.size := lt_of_block Jr
          have nr : w.heap.size ≠ w2.heap.size := Nat.ne_of_lt lr
          have Kr := Lib.hid Jr
          clear Jr
          go_wp2
          go_ret
          exact ⟨ret_bool hE.out, hbw⟩
      · have t2b0 : (chk r.sa r.sn == 0) = false := by first | (simp [*]; done) | (simp; omega) | (simp [*]; omega)
        have hE : Hid (false = mayB r) := by unfold Hid; simp [mayB, *]
        clear q0a q1a q2a
        go_enter Tryz.func80, Tryz.ntmps80
        go_wp2_with fail
        refine (addrCheck_any _ _ _ r.hsa.1 r.hsa.2).mono ?_
        rintro e w1 ⟨rfl, hb⟩
        have Jr := blk_below hb (blk1 w _)
        have hbw := below_call (below1 w _) hb
        clear hb
        have cr0 : w1.cell? ⟨w.heap.size, 0, none⟩ = some (.bool r.permit) := cell_of_row w1 (w.heap.size) 0 _ _ (0, 0) Jr
        have cr1 : w1.cell? ⟨w.heap.size, 1, none⟩ = some (.int .i64 r.proto) := cell_of_row w1 (w.heap.size) 1 _ _ (0, 0) Jr
        have cr2 : w1.cell? ⟨w.heap.size, 2, none⟩ = some (.int .u32 r.sa) := cell_of_row w1 (w.heap.size) 2 _ _ (0, 0) Jr
        have cr3 : w1.cell? ⟨w.heap.size, 3, none⟩ = some (.int .i64 r.sn) := cell_of_row w1 (w.heap.size) 3 _ _ (0, 0) Jr
        have cr4 : w1.cell? ⟨w.heap.size, 4, none⟩ = some (.int .u32 r.da) := cell_of_row w1 (w.heap.size) 4 _ _ (0, 0) Jr
        have cr5 : w1.cell? ⟨w.heap.size, 5, none⟩ = some (.int .i64 r.dn) := cell_of_row w1 (w.heap.size) 5 _ _ (0, 0) Jr
        have cr6 : w1.cell? ⟨w.heap.size, 6, none⟩ = some (.int .u32 r.sl) := cell_of_row w1 (w.heap.size) 6 _ _ (0, 0) Jr
        have cr7 : w1.cell? ⟨w.heap.size, 7, none⟩ = some (.int .u32 r.sh) := cell_of_row w1 (w.heap.size) 7 _ _ (0, 0) Jr
        have cr8 : w1.cell? ⟨w.heap.size, 8, none⟩ = some (.int .u32 r.dl) := cell_of_row w1 (w.heap.size) 8 _ _ (0, 0) Jr
        have cr9 : w1.cell? ⟨w.heap.size, 9, none⟩ = some (.int .u32 r.dh) := cell_of_row w1 (w.heap.size) 9 _ _ (0, 0) Jr
        have lr : w.heap.size < w1.heap.size := lt_of_block Jr
        have nr : w.heap.size ≠ w1.heap.size := Nat.ne_of_lt lr
        have Kr := Lib.hid Jr
        clear Jr
        go_wp2
        go_ret
        exact ⟨ret_bool hE.out, hbw⟩
    · have t1b0 : decide (r.proto ≤ 255) = false := by first | (simp [*]; done) | (simp; omega) | (simp [*]; omega)
      have hE : Hid (false = mayB r) := by unfold Hid; simp [mayB, *]
      clear q0a q1a
      go_enter Tryz.func80, Tryz.ntmps80
      go_wp2
      go_ret
      exact ⟨ret_bool hE.out, below1 w _⟩
  · have t0b0 : decide (-1 ≤ r.proto) = false := by first | (simp [*]; done) | (simp; omega) | (simp [*]; omega)
    have hE : Hid (false = mayB r) := by unfold Hid; simp [mayB, *]
    clear q0a
    go_enter Tryz.func80, Tryz.ntmps80
    go_wp2
    go_ret
    exact ⟨ret_bool hE.out, below1 w _⟩

end Go.Proofs.YtdjikiakcfbklaaGreat

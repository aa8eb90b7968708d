/-
  Joined texts: Fr1, Fr2, Fr3, Fr4, Fr5, Fr6, Fr7, Fr8, Rh4, Ln4, Ct1, Ct2, Ct3, Ct4.
-/
import Derived.Test.YtbahehmfhjkgeaaGreatMRelRefuses4
import Derived.Test.YtbahehmfhjkgeaaGreatMRelRefuses7
import Derived.Test.YtbahehmfhjkgeaaGreatMRelRefuses5
import Derived.Deep.DeepCutAuto
import Derived.Test.YtbahehmfhjkgeaaGreatMRelRefuses2
import Derived.Test.YtbahehmfhjkgeaaGreatMRelRefuses1
/-
  What a rule asks of a space (written by wip/gen/genfr1.py).
-/
namespace Go.Proofs.YtbahehmfhjkgeaaGreat
open Go Go.RowKit Go.ChangeMaps Go.MapKept Go.Maps Go.Lib Go.Sort

/-- One number to another one, as a span. -/
def spanOf (lo hi : Nat) (h1 : lo < 4294967296) (h2 : hi < 4294967296) : SpanV := ⟨lo, hi, by omega, by omega⟩
theorem formOf_one (x : SpanV) (h : x.lo ≤ x.hi) : formOf [x] = [x] := theSet_eq (by simpa [NF] using h) fun _ => rfl
theorem numsF_one (a n M : Nat) (x : SpanV) : numsF a n M [x] = spanF a n x.lo.toNat (min x.hi.toNat M) := funext fun s => by simp [numsF]
theorem numsF_wid (a n M : Nat) (x : SpanV) (h : a + n ≤ 104) (hn : n ≤ 32) (k : Nat) : Wid (numsF a n M ([x].take k)) 576 := by
  cases k with
  | zero => exact (Wid.seg (a := 0) (b := 0) (k := 1) (Hangs.const false 0 0) (by omega) (fun v => CutLe.const false v)).mono (by omega)
  | succ k =>
    rw [List.take_of_length_le (by simp), numsF_one]
    exact spanF_wid _ _ _ _ h hn
/-- What a rule asks, one behind the other. -/
def askF (r : RuleV) : Nat → Fun
  | 0 => bitsF 0 0 r.sn.toNat (r.sa.toNat / 2 ^ (32 - r.sn.toNat)) r.sn.toNat
  | 1 => bitsF 32 0 r.dn.toNat (r.da.toNat / 2 ^ (32 - r.dn.toNat)) r.dn.toNat
  | 2 => spanF 72 16 r.sl.toNat r.sh.toNat
  | 3 => spanF 88 16 r.dl.toNat r.dh.toNat
  | _ => spanF 64 8 r.proto.toNat r.proto.toNat
structure RuleOk (r : RuleV) : Prop where
  p : -1 ≤ r.proto ∧ r.proto ≤ 255
  s : chk r.sa r.sn = 0 ∧ 0 ≤ r.sn ∧ r.sn ≤ 32
  d : chk r.da r.dn = 0 ∧ 0 ≤ r.dn ∧ r.dn ≤ 32
  sp : r.sl ≤ r.sh ∧ r.sh ≤ 65535
  dp : r.dl ≤ r.dh ∧ r.dh ≤ 65535
theorem chk_bits {a n : Int} (h : chk a n = 0) : 0 ≤ n ∧ n ≤ 32 := by
  unfold chk at h
  split at h
  · cases h
  · omega
theorem RuleOk.of {r : RuleV} (h : mayB r = true) : RuleOk r := by
  unfold mayB portsB at h
  simp only [Bool.and_eq_true, decide_eq_true_eq] at h
  obtain ⟨⟨⟨⟨⟨h1, h2⟩, h3⟩, h4⟩, h5⟩, h6⟩ := h
  exact ⟨⟨h1, h2⟩, ⟨h3, chk_bits h3⟩, ⟨h4, chk_bits h4⟩, h5, h6⟩
/-- The boxes that a rule's asks see. -/
structure AskBox (w : World) (S sb rb : Nat) (r : RuleV) : Prop where
  s : w.heap[sb]? = some (.cells #[.pointer (some ⟨S, 0, none⟩)] 26 (0, 0))
  r : w.heap[rb]? = some (.cells #[.bool r.permit, .int .i64 r.proto, .int .u32 r.sa, .int .i64 r.sn, .int .u32 r.da, .int .i64 r.dn, .int .u32 r.sl, .int .u32 r.sh, .int .u32 r.dl, .int .u32 r.dh] 43 (0, 0))
section
variable {w : World} {B S km : Nat} {A : Blks} {Mo : Nat} {σ : Sg}
set_option maxRecDepth 100000
set_option maxHeartbeats 2000000
end
end Go.Proofs.YtbahehmfhjkgeaaGreat

/-
  A rule's set (written by wip/gen/genfr2.py).
-/
namespace Go.Proofs.YtbahehmfhjkgeaaGreat
open Go Go.RowKit Go.ChangeMaps Go.MapKept Go.Maps Go.Lib Go.Sort

/-- The first k of a rule's asks. -/
def ruleK (r : RuleV) : Nat → Fun
  | 0 => fun _ => true
  | k + 1 => fun s => ruleK r k s && askF r k s
def asksN (r : RuleV) : Nat := if 0 ≤ r.proto then 5 else 4
def ruleF (r : RuleV) : Fun := ruleK r (asksN r)
theorem SetF.lit {F : Fun} {x : Nat} (hx : x % 2 = 0) (b : Bool) (h : SetF F) : SetF (litF x b F) := fun v hv s c => by
  unfold litF
  rw [put_other (by omega), h v hv]
theorem SetF.step {F : Fun} {x : Nat} (hx : x % 2 = 0) (up b : Bool) (h : SetF F) : SetF (stepF x up b F) := fun v hv s c => by
  unfold stepF
  rw [put_other (by omega), h v hv]
theorem SetF.const (b : Bool) : SetF (fun _ => b) := fun v _ => Free.const b v
theorem SetF.op2 {F G : Fun} (o : Bool → Bool → Bool) (a : SetF F) (b : SetF G) : SetF (fun s => o (F s) (G s)) := fun v hv => (a v hv).op2 o (b v hv)
theorem SetF.op1 {F : Fun} (o : Bool → Bool) (a : SetF F) : SetF (fun s => o (F s)) := fun v hv => (a v hv).op1 o
theorem reachF_set (a n v : Nat) (up : Bool) : ∀ m, SetF (reachF a n v up m)
  | 0 => SetF.const true
  | m + 1 => SetF.step (by omega) _ _ (reachF_set a n v up m)
theorem spanF_set (a n lo hi : Nat) : SetF (spanF a n lo hi) := (reachF_set a n lo true n).op2 (fun x y => x && y) (reachF_set a n hi false n)
def askV (sb rb : Nat) : Nat → Value
  | 0 => .func (.func 108) #[] #[.pointer (some ⟨sb, 0, none⟩), .pointer (some ⟨rb, 0, none⟩)]
  | 1 => .func (.func 109) #[] #[.pointer (some ⟨sb, 0, none⟩), .pointer (some ⟨rb, 0, none⟩)]
  | 2 => .func (.func 110) #[] #[.pointer (some ⟨sb, 0, none⟩), .pointer (some ⟨rb, 0, none⟩)]
  | 3 => .func (.func 111) #[] #[.pointer (some ⟨sb, 0, none⟩), .pointer (some ⟨rb, 0, none⟩)]
  | _ => .func (.func 112) #[] #[.pointer (some ⟨sb, 0, none⟩), .pointer (some ⟨rb, 0, none⟩)]
section
variable {w : World} {B S km : Nat} {A : Blks} {Mo : Nat} {σ : Sg}
set_option maxRecDepth 100000
set_option maxHeartbeats 4000000
end
end Go.Proofs.YtbahehmfhjkgeaaGreat

/-
  Rules that are the same but for what they say of headers that fit.
-/
namespace Go.Proofs.YtbahehmfhjkgeaaGreat
open Go Go.RowKit Go.ChangeMaps Go.MapKept Go.Maps Go.Lib Go.Sort

/-- The same rule. -/
def sameR (x y : RuleV) : Bool := (x.permit == y.permit) && decide (x.proto = y.proto) && (decide (x.sa = y.sa) && decide (x.sn = y.sn)) && (decide (x.da = y.da) && decide (x.dn = y.dn)) && (decide (x.sl = y.sl) && decide (x.sh = y.sh)) && (decide (x.dl = y.dl) && decide (x.dh = y.dh))
end Go.Proofs.YtbahehmfhjkgeaaGreat

/-
  A filter's rules, one behind the other: what is left, what each decides; the rows that the walk keeps.
-/
namespace Go.Proofs.YtbahehmfhjkgeaaGreat
open Go Go.RowKit Go.ChangeMaps Go.MapKept Go.Maps Go.Lib Go.Sort

def ruleAt (L : List RuleV) (k : Nat) : Fun := fun s => (L[k]?.map fun r => ruleF r s).getD false
/-- What the first k rules leave; what rule k decides. -/
def leftF (L : List RuleV) (k : Nat) : Fun := fun s => !(L.take k).any fun r => ruleF r s
def decF (L : List RuleV) (k : Nat) : Fun := fun s => leftF L k s && ruleAt L k s
/-- A rule that denies, the same otherwise. -/
def anyR (r : RuleV) : RuleV := ⟨false, r.proto, r.sa, r.sn, r.da, r.dn, r.sl, r.sh, r.dl, r.dh, r.hpr, r.hsa, r.hda, r.hsl, r.hsh, r.hdl, r.hdh⟩
/-- Nodes in a row. -/
def ncl (ns : List Nat) : List Value := ns.map fun (n : Nat) => Value.int .i64 (n : Int)
/-- The row's block is none of the space's. -/
def OwnF (A : Blks) (km S : Nat) (w : World) (v : Value) : Prop := ∀ g, v.ownBlock = some g → Foreign A w g ∧ g ≠ km ∧ g ≠ S
/-- A list that came in, in a block that is none of the space's. -/
def RdF (A : Blks) (km : Nat) (w : World) (k : Nat) (v : Value) (n : Nat) (xs : List Value) : Prop :=
  ∃ (P : Option Addr) (c : Nat), v = .slice P n c ∧ n ≤ c ∧ xs.length = n * k ∧ (0 < n → ∃ b off, P = some ⟨b, off, none⟩ ∧ Foreign A w b ∧ b ≠ km ∧ ∀ j u, xs[j]? = some u → w.cell? ⟨b, off + j, none⟩ = some u)
theorem RdF.rd {A : Blks} {km : Nat} {w : World} {k : Nat} {v : Value} {n : Nat} {xs : List Value} (h : RdF A km w k v n xs) : Rd w w.heap.size k v n xs := by
  obtain ⟨P, c, h1, h2, h3, h4⟩ := h
  exact ⟨P, c, h1, h2, h3, fun hn => by obtain ⟨b, off, e, f, _, g⟩ := h4 hn; exact ⟨b, off, e, f.1, g⟩⟩
theorem RdF.kept {A : Blks} {km : Nat} {w w' : World} {k : Nat} {v : Value} {n : Nat} {xs : List Value} (h : RdF A km w k v n xs) (hk : KeptS A km w w') : RdF A km w' k v n xs := by
  obtain ⟨P, c, h1, h2, h3, h4⟩ := h
  refine ⟨P, c, h1, h2, h3, fun hn => ?_⟩
  obtain ⟨b, off, e, f, f2, g⟩ := h4 hn
  exact ⟨b, off, e, (hk.same b f f2).2, f2, fun j u hu => (World.cell?_of_block (hk.same b f f2).1).trans (g j u hu)⟩
section
variable {w0 wr : World} {B S km : Nat} {A : Blks} {Mo : Nat} {τ : Sg}
/-- The space where blocks of others turned. -/
theorem SpOk.others {w w' : World} (h : SpOk w B S km A Mo τ) {r : Option Nat} (hg : w.grownBy w' r) (hr : ∀ g, r = some g → Foreign A w g ∧ g ≠ km ∧ g ≠ S) :
    SpOk w' B S km A Mo τ ∧ (∀ k, Foreign A w k → Foreign A w' k) ∧ ∀ k, w.heap.size ≤ k → k < w'.heap.size → Foreign A w' k ∧ k ≠ km ∧ k ≠ S := by
  obtain ⟨nv, hA⟩ := h.sp.ar
  obtain ⟨a1, a2, a3⟩ := hA.calm hg.size fun k hk hn => hg.block k hk (fun e => hn (hr k e.symm).1)
  have hkm := h.sp.fk.1
  have hS := lt_of_block h.sp.cells
  exact ⟨⟨⟨⟨nv, a1⟩, (hg.block S hS (fun e => (hr S e.symm).2.2 rfl)).trans h.sp.cells, a2 _ h.sp.fs, h.sp.known.same (hg.block km hkm (fun e => (hr km e.symm).2.1 rfl)), a2 _ h.sp.fk, h.sp.ne⟩, h.ok⟩, a2, fun k h1 h2 => ⟨a3 k h1 h2, by omega, by omega⟩⟩
theorem KeptS.others {w w' w0 : World} (h : KeptS A km w0 w) {r : Option Nat} (hg : w.grownBy w' r) (hs : ∀ g, r = some g → w0.heap.size ≤ g) (hf : ∀ k, Foreign A w k → Foreign A w' k) : KeptS A km w0 w' :=
  ⟨hg.os.trans h.os, hg.tape.trans h.tape, hg.output.trans h.output, Nat.le_trans h.size hg.size, fun k hk hn => ⟨(hg.block k (Nat.lt_of_lt_of_le hk.1 h.size) (fun e => by have := hs k e.symm; have := hk.1; omega)).trans (h.same k hk hn).1, hf k (h.same k hk hn).2⟩⟩
/-- What the walk of the rules keeps: the space, the row of what is decided, the row of the rules that were seen. -/
structure RuSt (w0 wr : World) (B S km : Nat) (A : Blks) (Mo : Nat) (τ : Sg) (ov : Value) (ns : List Nat) (sv : Value) (D : List RuleV) : Prop where
  sp : SpOk wr B S km A Mo τ
  kept : KeptS A km w0 wr
  out : wr.ownsRow w0.heap.size 3 1 ov ns.length (ncl ns)
  outf : OwnF A km S wr ov
  seen : wr.ownsRow w0.heap.size 43 10 sv D.length (rcells D)
  seenf : OwnF A km S wr sv
  dis : ∀ g, ov.ownBlock = some g → sv.ownBlock ≠ some g
theorem RuSt.space {ov sv : Value} {ns : List Nat} {D : List RuleV} {w' : World} {τ' : Sg} (h : RuSt w0 wr B S km A Mo τ ov ns sv D) (k : KeptS A km wr w') (s : SpOk w' B S km A Mo τ') : RuSt w0 w' B S km A Mo τ' ov ns sv D :=
  ⟨s, h.kept.trans k, owns_like h.out fun g hg => (k.same g (h.outf g hg).1 (h.outf g hg).2.1).1, fun g hg => ⟨(k.same g (h.outf g hg).1 (h.outf g hg).2.1).2, (h.outf g hg).2⟩,
    owns_like h.seen fun g hg => (k.same g (h.seenf g hg).1 (h.seenf g hg).2.1).1, fun g hg => ⟨(k.same g (h.seenf g hg).1 (h.seenf g hg).2.1).2, (h.seenf g hg).2⟩, h.dis⟩
theorem RuSt.below {ov sv : Value} {ns : List Nat} {D : List RuleV} {w' : World} (h : RuSt w0 wr B S km A Mo τ ov ns sv D) (hb : Below wr.heap.size wr w') : RuSt w0 w' B S km A Mo τ ov ns sv D := h.space (h.sp.kept hb) (h.sp.below hb)
theorem RuSt.start (h : SpOk w0 B S km A Mo τ) : RuSt w0 w0 B S km A Mo τ (.slice none 0 0) [] (.slice none 0 0) [] :=
  ⟨h, KeptS.refl _ _ _, World.ownsRow_nil _ _ _ _, fun g hg => by simp [Value.ownBlock] at hg, World.ownsRow_nil _ _ _ _, fun g hg => by simp [Value.ownBlock] at hg, fun g hg => by simp [Value.ownBlock] at hg⟩
theorem OwnF.pushed {w w' : World} {v v' : Value} (h : OwnF A km S w v) (hf : ∀ k, Foreign A w k → Foreign A w' k) (hn : ∀ k, w.heap.size ≤ k → k < w'.heap.size → Foreign A w' k ∧ k ≠ km ∧ k ≠ S) (hm : Moved v v' w.heap.size) (hl : ∀ g, v'.ownBlock = some g → g < w'.heap.size) : OwnF A km S w' v' := fun g hg => by
  rcases hm with hm | hm
  · have := h g (by rw [← hm]; exact hg)
    exact ⟨hf g this.1, this.2⟩
  · exact hn g (hm g hg) (hl g hg)
end
end Go.Proofs.YtbahehmfhjkgeaaGreat

/-
  The sets for which each rule of a filter decides (written by wip/gen/genfr5.py).
-/
namespace Go.Proofs.YtbahehmfhjkgeaaGreat
open Go Go.RowKit Go.ChangeMaps Go.MapKept Go.Maps Go.Lib Go.Sort

/-- What Rules comes to: a node for each rule, or no room. -/
def RulesRes (w : World) (B S km : Nat) (A : Blks) (Mo : Nat) (σ : Sg) (L : List RuleV) (k : Nat) (e : Ending) (w' : World) : Prop :=
  KeptS A km w w' ∧ ((e = .returned (.tuple #[.slice none 0 0, .int .i64 3]) ∧ Mo < σ.H.length + k ∧ ∃ τ, SpOk w' B S km A Mo τ ∧ To k k σ τ) ∨
    ∃ (v : Value) (ns : List Nat) (τ : Sg), e = .returned (.tuple #[v, .int .i64 0]) ∧ SpOk w' B S km A Mo τ ∧ To k k σ τ ∧ ns.length = L.length ∧ (∀ i n, ns[i]? = some n → Den τ n (decF L i)) ∧ w'.ownsRow w.heap.size 3 1 v ns.length (ncl ns) ∧ OwnF A km S w' v)
theorem RulesRes.full {w w' : World} {B S km : Nat} {A : Blks} {Mo : Nat} {σ τ : Sg} {L : List RuleV} {k : Nat} {e : Ending} (hk : KeptS A km w w') (h1 : e = .returned (.tuple #[.slice none 0 0, .int .i64 3])) (h2 : Mo < σ.H.length + k) (h3 : SpOk w' B S km A Mo τ) (h4 : To k k σ τ) : RulesRes w B S km A Mo σ L k e w' := ⟨hk, .inl ⟨h1, h2, τ, h3, h4⟩⟩
/-- How much a filter's diagrams may take, rule by rule. -/
def FiltW (L : List RuleV) (K : Nat) : Prop := ∀ (k : Nat) (r : RuleV), L[k]? = some r → (∀ j, j ≤ 5 → Wid (ruleK r j) K) ∧ Wid (decF L k) K ∧ Wid (leftF L (k + 1)) K
section
variable {w : World} {B S km : Nat} {A : Blks} {Mo : Nat} {σ : Sg}
set_option maxRecDepth 100000
set_option maxHeartbeats 8000000
end
end Go.Proofs.YtbahehmfhjkgeaaGreat

/-
  What a filter permits, as a set; the refusals.
-/
namespace Go.Proofs.YtbahehmfhjkgeaaGreat
open Go Go.RowKit Go.ChangeMaps Go.MapKept Go.Maps Go.Lib Go.Sort

def permitAt (L : List RuleV) (k : Nat) : Bool := (L[k]?.map (·.permit)).getD false
/-- What the first k rules permit. -/
def setF (L : List RuleV) : Nat → Fun
  | 0 => fun _ => false
  | k + 1 => if permitAt L k then fun s => setF L k s || decF L k s else setF L k
section
variable {w : World} {B S km : Nat} {A : Blks} {Mo : Nat} {σ : Sg}
set_option maxRecDepth 100000
set_option maxHeartbeats 8000000
end
end Go.Proofs.YtbahehmfhjkgeaaGreat

/-
  Rules without bounds; nobody's space.
-/
namespace Go.Proofs.YtbahehmfhjkgeaaGreat
open Go Go.RowKit Go.ChangeMaps Go.MapKept Go.Maps Go.Lib Go.Sort

/-- The rule without bounds, of a protocol or of any. -/
def wideR (permit : Bool) (p : Int) (hp : -1 ≤ p ∧ p ≤ 255) : RuleV := ⟨permit, p, 0, 0, 0, 0, 0, 65535, 0, 65535, by omega, by omega, by omega, by omega, by omega, by omega, by omega⟩
theorem Wid.const (b : Bool) : Wid (fun _ => b) 0 := (Wid.seg (a := 0) (b := 0) (k := 1) (Hangs.const b 0 0) (by omega) (fun v => CutLe.const b v)).mono (by omega)
theorem RdF.none (A : Blks) (km : Nat) (w : World) (k : Nat) : RdF A km w k (.slice none 0 0) 0 [] := ⟨_, 0, rfl, Nat.le_refl _, by simp, fun h => absurd h (by omega)⟩
section
set_option maxRecDepth 100000
set_option maxHeartbeats 2000000
end
end Go.Proofs.YtbahehmfhjkgeaaGreat

/-
  A new space; what lies below a space's blocks stays; filter.Set at nobody's space; the rules of a closed law.
-/
namespace Go.Proofs.YtbahehmfhjkgeaaGreat
open Go Go.RowKit Go.ChangeMaps Go.MapKept Go.Maps Go.Lib Go.Sort

def newSg : Sg := ⟨N0, [], [0, 1], []⟩
theorem newSg_ok (Mo : Nat) : SgOk Mo newSg := by
  refine ⟨N0_wf, ⟨List.nodup_nil, fun i hi => absurd hi (by simp [newSg])⟩, fun i hi => absurd hi (by simp [newSg]), fun g hg => ?_, by simp [newSg], by simp [newSg], fun p hp => absurd hp (by simp [newSg]), Nat.zero_le _, by decide⟩
  have h2 : g = 0 ∨ g = 1 := by simpa [newSg] using hg
  rcases h2 with rfl | rfl
  · exact ⟨by decide, .inl (by omega), Hangs.const false 0 208⟩
  · exact ⟨by decide, .inl (by omega), Hangs.const true 0 208⟩
section
variable {w w' : World} {B S km : Nat} {A : Blks} {Mo : Nat} {σ : Sg}
theorem SpAt.newOk (h : SpAt w B S km A Mo N0 [] [0, 1] []) : SpOk w B S km A Mo newSg := ⟨h, newSg_ok Mo⟩
theorem SpOk.foreign_low (h : SpOk w B S km A Mo σ) {k : Nat} (hk : k < B) : Foreign A w k := by
  obtain ⟨nv, ha⟩ := h.sp.ar
  have hb : B ≤ A.a := ha.base A.a (by simp [Blks.list])
  have hl := lt_of_block ha.cells
  refine ⟨by omega, fun hm => by have := ha.base k hm; omega, fun v hv e => ?_⟩
  rw [ha.cell2] at hv
  injection hv with hv
  subst hv
  have := (ha.row.lt k e).1
  omega
theorem SpOk.low (h : SpOk w B S km A Mo σ) (hB : B ≤ km) (hk : KeptS A km w w') : Below B w w' :=
  ⟨hk.os, hk.tape, hk.output, hk.size, fun k hlt => (hk.same k (h.foreign_low hlt) (by omega)).1⟩
end
section
set_option maxRecDepth 100000
set_option maxHeartbeats 2000000
end
/-- The rule that permits all. -/
def openR : RuleV := wideR true (-1) (by omega)
end Go.Proofs.YtbahehmfhjkgeaaGreat

/-
  A space's Count of the whole, Used; nobody's space.
-/
namespace Go.Proofs.YtbahehmfhjkgeaaGreat
open Go Go.RowKit Go.ChangeMaps Go.MapKept Go.Maps Go.Lib Go.Sort

section
set_option maxRecDepth 100000
set_option maxHeartbeats 4000000
variable {w : World} {B S km : Nat} {A : Blks} {Mo : Nat} {σ : Sg}
/-- A call on a space that leaves its nodes. -/
def SpSame (w : World) (B S km : Nat) (A : Blks) (Mo : Nat) (σ : Sg) (v : Value) (e : Ending) (w' : World) : Prop := e = .returned v ∧ ∃ K, SpOk w' B S km A Mo (σ.know K) ∧ KeptS A km w w'
end
end Go.Proofs.YtbahehmfhjkgeaaGreat

/-
  slices.IndexFunc, ContainsFunc, Index, Contains at the lists' kinds (written by wip/gen/genln4.py).
-/
namespace Go.Proofs.YtbahehmfhjkgeaaGreat
open Go Go.RowKit Go.Sort

/-- A community list's member: what it lets, where its communities lie, these. -/
structure MemV where
  permit : Bool
  v : Value
  L : List Int
instance : Inhabited MemV := ⟨⟨false, .slice none 0 0, []⟩⟩
def MemV.enc (x : MemV) : List Value := [.bool x.permit, x.v]
def mcells (L : List MemV) : List Value := L.flatMap MemV.enc
/-- A prefix list's entry. -/
structure EntV where
  permit : Bool
  a : Int
  n : Int
  ge : Int
  le : Int
instance : Inhabited EntV := ⟨⟨false, 0, 0, 0, 0⟩⟩
def EntV.enc (x : EntV) : List Value := [.bool x.permit, .int .u32 x.a, .int .i64 x.n, .int .i64 x.ge, .int .i64 x.le]
def ecells (L : List EntV) : List Value := L.flatMap EntV.enc
def u32c (L : List Int) : List Value := L.map (Value.int .u32)
theorem any_idx {α : Type} [Inhabited α] (p : α → Bool) (L : List α) : (0 ≤ idxP p L) = (L.any p = true) := by
  rcases idxP_cases p L with ⟨h1, h2⟩ | ⟨k, x, h1, h2, h3, _⟩
  · rw [h1]
    have : L.any p = false := by
      rw [List.any_eq_false]
      intro x hx
      obtain ⟨j, hj⟩ := List.mem_iff_getElem?.1 hx
      simp [h2 j x hj]
    rw [this]
    simp
  · rw [h1]
    have : L.any p = true := List.any_eq_true.2 ⟨x, List.mem_of_getElem? h2, h3⟩
    rw [this]
    simp
theorem any_dec {α : Type} [Inhabited α] (p : α → Bool) (L : List α) : decide ((0 : Int) ≤ idxP p L) = L.any p := by
  have := any_idx p L
  by_cases h : (0 : Int) ≤ idxP p L
  · rw [decide_eq_true h]; exact (this ▸ h : L.any p = true).symm
  · rw [decide_eq_false h]
    cases h2 : L.any p with
    | false => rfl
    | true => exact absurd (this ▸ h2 : (0 : Int) ≤ idxP p L) h

end Go.Proofs.YtbahehmfhjkgeaaGreat

/-
  Do variables rise, and is all among them on which a set hangs.
-/
namespace Go.Proofs.YtbahehmfhjkgeaaGreat
open Go Go.RowKit Go.ChangeMaps Go.MapKept Go.Maps Go.Lib Go.Sort

section
set_option maxRecDepth 100000
set_option maxHeartbeats 4000000
theorem indexI_any (L : List Int) (v : Value) (y : Int) (w : World) (h : Rd w w.heap.size 1 v L.length (icells L)) (hlen : L.length ≤ 9223372036854775807) :
    Calls Tryz.prog 169 #[v, .int .i64 y] w fun e w' => e = .returned (.int .i64 (idxP (fun x => x == y) L)) ∧ w' = w := by
  obtain ⟨A, c, rfl, hc⟩ := h.form
  have HR := Lib.hid h
  clear h
  go_enter Tryz.func169, Tryz.ntmps169
  go_wp2
  go_loopw [8] (fun i wr => ∃ k : Nat, i = .int .i64 k ∧ k ≤ L.length ∧ Hid (∀ (j : Nat) (x : Int), j < k → L[j]? = some x → (x == y) = false) ∧ wr = w) (fun i _ => L.length - (intOf i).toNat)
  case atStart => exact ⟨0, rfl, by omega, Lib.hid (fun j x hj _ => by omega), rfl⟩
  case round =>
    obtain ⟨k, rfl, hk, HN, rfl⟩ := hrel
    by_cases hlt : k < L.length
    · have hI : (k : Int) < (L.length : Int) := by omega
      obtain ⟨x, hx⟩ : ∃ x, L[k]? = some x := ⟨_, List.getElem?_eq_getElem hlt⟩
      obtain ⟨b, off, c', hv, _, hbB, hcell⟩ := HR.out.pos (by omega)
      injection hv with hv1 hvl hv3
      subst hv1 hv3
      clear hvl
      have c0 : wr.cell? ⟨b, off + k, none⟩ = some (.int .i64 x) := hcell k _ (by simp [icells, hx])
      have HX := Lib.hid hx
      clear hcell hx
      by_cases hq : y = x
      · subst hq
        go_wp2
        go_ret
        exact ⟨by rw [idxP_hit (fun x => x == y) L k y HX.out (by simp) HN.out]; rfl, rfl⟩
      · have hq2 : (y == x) = false := by simpa using hq
        go_wp2
        exact ⟨⟨k + 1, by go_num, by omega, Lib.hid (fun j z hj hz => by
          rcases Nat.lt_or_ge j k with h1 | h1
          · exact HN.out j z h1 hz
          · obtain rfl : j = k := by omega
            rw [HX.out] at hz
            injection hz with hz
            subst hz
            simpa using fun e : x = y => hq e.symm), (by first | trivial | rfl)⟩, by simp only [intOf]; omega⟩
    · obtain rfl : k = L.length := by omega
      have hI : ¬ (L.length : Int) < (L.length : Int) := by omega
      have HFIN := Lib.hid (idxP_miss (fun x => x == y) L fun j x hx => HN.out j x (List.getElem?_eq_some_iff.1 hx).1 hx)
      go_wp2
      go_ret
      exact ⟨by rw [HFIN.out]; rfl, rfl⟩
theorem containsI_any (L : List Int) (v : Value) (y : Int) (w : World) (h : Rd w w.heap.size 1 v L.length (icells L)) (hlen : L.length ≤ 9223372036854775807) :
    Calls Tryz.prog 207 #[v, .int .i64 y] w fun e w' => e = .returned (.bool (L.any (fun x => x == y))) ∧ w' = w := by
  have HI := Lib.hid (indexI_any L v y w h hlen)
  obtain ⟨A, c, rfl, hc⟩ := h.form
  clear h
  have hd := any_dec (fun x => x == y) L
  generalize idxP (fun x => x == y) L = q at *
  go_enter Tryz.func207, Tryz.ntmps207
  go_wp2_with ((with_reducible refine HI.out.mono ?_); rintro e _ ⟨rfl, rfl⟩)
  go_ret
  exact ⟨by rw [← hd]; rfl, rfl⟩
theorem risesClos {w : World} (bo : Nat) (L : List Int) (v : Value) (x : Int) (hx : x ∈ L) (hb : w.cell? ⟨bo, 0, none⟩ = some v) (h : Rd w w.heap.size 1 v L.length (icells L)) (hlen : L.length ≤ 1000) :
    Calls Tryz.prog 206 #[.int .i64 x, .pointer (some ⟨bo, 0, none⟩)] w fun e w' => e = .returned (.bool false) ∧ Below w.heap.size w w' := by
  obtain ⟨PL, c, rfl, hc⟩ := h.form
  have HC := Lib.hid (containsI_any L _ x w h (by omega))
  have ht : L.any (fun y => y == x) = true := List.any_eq_true.2 ⟨x, hx, by simp⟩
  rw [ht] at HC
  clear h ht
  go_enter Tryz.func206, Tryz.ntmps206
  go_wp2_with ((with_reducible refine HC.out.mono ?_); rintro e _ ⟨rfl, rfl⟩)
  go_ret
  exact ⟨rfl, Below.refl _ _⟩
theorem indexNoneB (L : List Int) (v : Value) (g : FuncId) (lb : Array Value) (w : World) (en : ∀ (args : Array Value) (w : World), (callFunc g args).run Tryz.prog w = .ok (.enter g args) w)
    (hp : ∀ W x, Below w.heap.size w W → x ∈ L → Calls Tryz.prog g (#[.int .i64 x] ++ lb) W fun e W' => e = .returned (.bool false) ∧ Below W.heap.size W W') (h : Rd w w.heap.size 1 v L.length (icells L)) (hlen : L.length ≤ 2147483647) :
    Calls Tryz.prog 218 #[v, .func (.func g) #[] lb] w fun e w' => e = .returned (.int .i64 (-1)) ∧ Below w.heap.size w w' := by
  obtain ⟨A, c, rfl, hc⟩ := h.form
  have HP := Lib.hid hp
  have HR := Lib.hid h
  clear hp h
  go_enter Tryz.func218, Tryz.ntmps218
  go_wp2
  go_loopw [8] (fun i wr => ∃ k : Nat, i = .int .i64 k ∧ k ≤ L.length ∧ Hid (Below w.heap.size w wr)) (fun i _ => L.length - (intOf i).toNat)
  case atStart => exact ⟨0, rfl, by omega, Lib.hid (Below.refl _ _)⟩
  case round =>
    obtain ⟨k, rfl, hk, HB⟩ := hrel
    by_cases hlt : k < L.length
    · have hI : (k : Int) < (L.length : Int) := by omega
      obtain ⟨x, hx⟩ : ∃ x, L[k]? = some x := ⟨_, List.getElem?_eq_getElem hlt⟩
      obtain ⟨b, off, c', hv, _, hbB, hcell⟩ := HR.out.pos (by omega)
      injection hv with hv1 hvl hv3
      subst hv1 hv3
      clear hvl
      have c0 : wr.cell? ⟨b, off + k, none⟩ = some (.int .i64 x) := (HB.out.cell (p := ⟨b, off + k, none⟩) hbB).trans (hcell k _ (by simp [icells, hx]))
      have HC := Lib.hid (HP.out wr x HB.out (List.mem_of_getElem? hx))
      clear hcell hx
      go_wp2_with fail
      refine HC.out.mono ?_
      rintro e w1 ⟨rfl, hb1⟩
      have HB1 := Lib.hid (HB.out.trans (hb1.mono HB.out.size))
      clear hb1 c0 HC
      go_wp2
      exact ⟨⟨k + 1, by go_num, by omega, HB1⟩, by simp only [intOf]; omega⟩
    · obtain rfl : k = L.length := by omega
      have hI : ¬ (L.length : Int) < (L.length : Int) := by omega
      go_wp2
      go_ret
      exact ⟨rfl, HB.out⟩
theorem containsNoneB (L : List Int) (v : Value) (g : FuncId) (lb : Array Value) (w : World) (en : ∀ (args : Array Value) (w : World), (callFunc g args).run Tryz.prog w = .ok (.enter g args) w)
    (hp : ∀ W x, Below w.heap.size w W → x ∈ L → Calls Tryz.prog g (#[.int .i64 x] ++ lb) W fun e W' => e = .returned (.bool false) ∧ Below W.heap.size W W') (h : Rd w w.heap.size 1 v L.length (icells L)) (hlen : L.length ≤ 2147483647) :
    Calls Tryz.prog 205 #[v, .func (.func g) #[] lb] w fun e w' => e = .returned (.bool false) ∧ Below w.heap.size w w' := by
  have HI := Lib.hid (indexNoneB L v g lb w en hp h hlen)
  obtain ⟨A, c, rfl, hc⟩ := h.form
  clear hp h
  go_enter Tryz.func205, Tryz.ntmps205
  go_wp2_with fail
  refine HI.out.mono ?_
  rintro e w1 ⟨rfl, hb⟩
  have HB := Lib.hid hb
  clear hb HI
  go_wp2
  go_ret
  exact ⟨rfl, HB.out⟩
variable {B : Nat} {A : Blks} {V Mo : Nat} {N : List Nd} {H G : List Nat}
theorem rises_any {w : World} (hA : ArAt w B A V Mo N H G) (f : Nat) (hf : f ∈ G ∧ f < N.length) (L : List Int) (hsup : ∀ i, 2 ≤ i → Rch N f i → ((nd N i).v : Int) ∈ L) (v : Value) (h : Rd w w.heap.size 1 v L.length (icells L)) (hL : ∀ x ∈ L, 0 ≤ x ∧ x < V) (hr : RiseL L) (hlen : L.length ≤ 1000) :
    Calls Tryz.prog 167 #[A.val, .int .i64 f, v] w fun e w' => e = .returned (.bool true) ∧ Below w.heap.size w w' := by
  obtain ⟨PL, c, rfl, hc⟩ := h.form
  have hb := below1 w (.cells #[.slice PL L.length c] 33)
  have hk := blk1 w (.cells #[.slice PL L.length c] 33)
  have HA := Lib.hid (hA.below hb)
  have HB := Lib.hid hb
  have HK := Lib.hid hk
  have HR := Lib.hid ((h.below hb).mono hb.size)
  have HL := Lib.hid hL
  have HRI := Lib.hid hr
  have HF := Lib.hid hf
  have HSP := Lib.hid hsup
  have c0 := cell0 hk
  clear hA h hb hk hL hr hf hsup
  unfold Blks.val
  go_enter Tryz.func167, Tryz.ntmps167
  go_upto_region 1 with fail
  generalize w.alloc (.cells #[.slice PL L.length c] 33) = w0 at *
  go_wp2
  go_loopw [13] (fun i wr => ∃ k : Nat, i = .int .i64 k ∧ k ≤ L.length ∧ wr = w0) (fun i _ => L.length - (intOf i).toNat)
  case atStart => exact ⟨0, rfl, by omega, rfl⟩
  case round =>
    obtain ⟨k, rfl, hk, rfl⟩ := hrel
    by_cases hlt : k < L.length
    · have hI : (k : Int) < (L.length : Int) := by omega
      obtain ⟨x, hx⟩ : ∃ x, L[k]? = some x := ⟨_, List.getElem?_eq_getElem hlt⟩
      obtain ⟨b, off, c', hv, _, hbB, hcell⟩ := HR.out.pos (by omega)
      injection hv with hv1 hvl hv3
      subst hv1 hv3
      clear hvl
      have d0 : wr.cell? ⟨b, off + k, none⟩ = some (.int .i64 x) := hcell k _ (by simp [icells, hx])
      rcases Nat.eq_zero_or_pos k with hk0 | hk0
      · have hkI : ¬ (k : Int) > 0 := by omega
        clear hk0 hcell hx
        go_wp2
        exact ⟨⟨k + 1, by go_num, by omega, trivial⟩, by simp only [intOf]; omega⟩
      · obtain ⟨m, rfl⟩ : ∃ m, k = m + 1 := ⟨k - 1, by omega⟩
        obtain ⟨y, hy⟩ : ∃ y, L[m]? = some y := ⟨_, List.getElem?_eq_getElem (by omega)⟩
        have d1 : wr.cell? ⟨b, off + m, none⟩ = some (.int .i64 y) := hcell m _ (by simp [icells, hy])
        have hxy : ¬ x ≤ y := by have := HRI.out m x y hx hy; omega
        have hkI : ((m + 1 : Nat) : Int) > 0 := by omega
        have hm1 : ((m + 1 : Nat) : Int) - 1 = (m : Int) := by omega
        have hmI : (m : Int) < (L.length : Int) := by omega
        clear hk0 hcell hx hy
        go_wp2
        exact ⟨⟨m + 1 + 1, by go_num, by omega, trivial⟩, by simp only [intOf]; omega⟩
    · obtain rfl : k = L.length := by omega
      have hI : ¬ (L.length : Int) < (L.length : Int) := by omega
      have HSU := Lib.hid (Support_any f HA.out HF.out)
      unfold Blks.val at HSU
      go_upto_region 8 with ((with_reducible refine HSU.out.mono ?_); rintro e w2 ⟨v2, L2, rfl, ho2, hm2, hl2, hb2⟩; have HO2 := Lib.hid ho2; have HM2 := Lib.hid hm2; have HL2 := Lib.hid hl2; have HB2 := Lib.hid hb2; clear ho2 hm2 hl2 hb2)
      have HIN : Hid (∀ x ∈ L2, x ∈ L) := Lib.hid fun x hx => by
        obtain ⟨i, hi, hri, rfl⟩ := (HM2.out x).1 hx
        exact HSP.out i hi hri
      have d0 : w2.cell? ⟨w.heap.size, 0, none⟩ = some (.slice PL L.length c) := cell0 (blk_below HB2.out HK.out)
      have HKN := Lib.hid (known_yes (HA.out.below HB2.out) L (.slice PL L.length c) ((HR.out.below HB2.out).mono HB2.out.size) HL.out hlen)
      unfold Blks.val at HKN
      clear HSU c0
      go_wp2_with fail
      refine HKN.out.mono ?_
      rintro e w3 ⟨rfl, hb3⟩
      have HB3 := Lib.hid hb3
      have HCN := Lib.hid (containsNoneB L2 v2 206 #[.pointer (some ⟨w.heap.size, 0, none⟩)] w3 (enters_of Tryz.func206 (by kernel_rfl) rfl) (fun W x hW hx => risesClos w.heap.size L (.slice PL L.length c) x (HIN.out x hx) (cell0 (blk_below hW (blk_below hb3 (blk_below HB2.out HK.out)))) ((((HR.out.below HB2.out).mono HB2.out.size).below hb3).mono hb3.size |>.below hW |>.mono hW.size) hlen) (((Rd.of_own HO2.out).below hb3).mono hb3.size) HL2.out)
      clear hb3 HKN d0
      go_wp2_with fail
      refine HCN.out.mono ?_
      rintro e w4 ⟨rfl, hb4⟩
      have HB4 := Lib.hid (HB.out.trans ((HB2.out.trans ((HB3.out.trans (hb4.mono HB3.out.size)).mono HB2.out.size)).mono HB.out.size))
      clear hb4 HCN
      go_wp2
      go_ret
      exact ⟨rfl, HB4.out⟩
end
end Go.Proofs.YtbahehmfhjkgeaaGreat

/-
  The least values for which a set is true: bdd.Least.
-/
namespace Go.Proofs.YtbahehmfhjkgeaaGreat
open Go Go.RowKit Go.ChangeMaps Go.MapKept Go.Maps Go.Lib Go.Sort

/-- Where the walk stands ahead of the i-th variable, and what it says of it: the variables are 0, 2, 4 .. -/
def lstN (N : List Nd) (f : Nat) : Nat → Nat
  | 0 => f
  | i + 1 => if 1 < lstN N f i ∧ (nd N (lstN N f i)).v = 2 * i then (if (nd N (lstN N f i)).lo = 0 then (nd N (lstN N f i)).hi else (nd N (lstN N f i)).lo) else lstN N f i
def lstB (N : List Nd) (f : Nat) (i : Nat) : Bool := decide (1 < lstN N f i ∧ (nd N (lstN N f i)).v = 2 * i ∧ (nd N (lstN N f i)).lo = 0)
theorem lstN_yes {N : List Nd} {f i : Nat} (h : 1 < lstN N f i) (hv : (nd N (lstN N f i)).v = 2 * i) : lstN N f (i + 1) = if (nd N (lstN N f i)).lo = 0 then (nd N (lstN N f i)).hi else (nd N (lstN N f i)).lo := by
  rw [lstN, if_pos ⟨h, hv⟩]
theorem lstN_no {N : List Nd} {f i : Nat} (h : ¬ (1 < lstN N f i ∧ (nd N (lstN N f i)).v = 2 * i)) : lstN N f (i + 1) = lstN N f i := by
  rw [lstN, if_neg h]
theorem lstB_yes {N : List Nd} {f i : Nat} (h : 1 < lstN N f i) (hv : (nd N (lstN N f i)).v = 2 * i) : lstB N f i = decide ((nd N (lstN N f i)).lo = 0) := by
  unfold lstB
  simp [h, hv]
theorem lstB_no {N : List Nd} {f i : Nat} (h : ¬ (1 < lstN N f i ∧ (nd N (lstN N f i)).v = 2 * i)) : lstB N f i = false := by
  unfold lstB
  exact decide_eq_false fun h2 => h ⟨h2.1, h2.2.1⟩
theorem lstN_lt {N : List Nd} (wf : WF N) {f : Nat} (hf : f < N.length) : ∀ i, lstN N f i < N.length
  | 0 => hf
  | i + 1 => by
    have ih := lstN_lt wf hf i
    by_cases h : 1 < lstN N f i ∧ (nd N (lstN N f i)).v = 2 * i
    · rw [lstN_yes h.1 h.2]
      have h1 := wf.lo _ h.1 ih
      have h2 := wf.hi _ h.1 ih
      split <;> omega
    · rw [lstN_no h]; exact ih
/-- The row of what is said, up to the i-th. -/
def lstL (N : List Nd) (f n i : Nat) : List Bool := (List.range n).map fun j => if j < i then lstB N f j else false
theorem lstL_len (N : List Nd) (f n i : Nat) : (lstL N f n i).length = n := by simp [lstL]
theorem lstL_zero (N : List Nd) (f n : Nat) : lstL N f n 0 = List.replicate n false := by
  unfold lstL
  rw [List.eq_replicate_iff]
  refine ⟨by simp, fun b hb => ?_⟩
  obtain ⟨j, _, rfl⟩ := List.mem_map.1 hb
  rfl
theorem lstL_succ {N : List Nd} {f n i : Nat} (hi : i < n) : lstL N f n (i + 1) = (lstL N f n i).set i (lstB N f i) := by
  apply List.ext_getElem?
  intro j
  rw [List.getElem?_set, lstL_len]
  unfold lstL
  rw [List.getElem?_map, List.getElem?_map]
  rcases Nat.lt_or_ge j n with hj | hj
  · rw [List.getElem?_range hj]
    by_cases h : i = j
    · subst h
      simp [hi]
    · rw [if_neg h]
      simp only [Option.map_some, Option.some.injEq]
      by_cases h2 : j < i
      · rw [if_pos h2, if_pos (by omega)]
      · rw [if_neg h2, if_neg (by omega)]
  · rw [List.getElem?_eq_none (by simpa using hj)]
    simp; omega
theorem lstL_same {N : List Nd} {f n i : Nat} (h : lstB N f i = false) : lstL N f n (i + 1) = lstL N f n i := by
  unfold lstL
  refine List.map_congr_left fun j _ => ?_
  by_cases h2 : j < i
  · rw [if_pos h2, if_pos (by omega)]
  · rw [if_neg h2]
    by_cases h3 : j = i
    · subst h3; rw [if_pos (by omega), h]
    · rw [if_neg (by omega)]
theorem Tryz.infoBoolL : (Tryz.prog.info? 4).map (fun i => (i.zero, i.size, i.bytes)) = some (some (.bool false), 1, 1) := by kernel_rfl
def blsL (L : List Bool) : Array Value := (L.map Value.bool).toArray
theorem blsL_get {L : List Bool} {i : Nat} {b : Bool} (h : L[i]? = some b) : (blsL L)[i]? = some (.bool b) := by simp [blsL, h]
theorem blsL_set (L : List Bool) (i : Nat) (b : Bool) : (blsL L).setIfInBounds i (.bool b) = blsL (L.set i b) := by
  unfold blsL
  apply Array.ext'
  simp [List.map_set]
theorem mkBoolsL (w : World) (n : Nat) (hn : n ≤ 1099511627776) : (Instr.makeSlice 78 (.int .i64 n) (.int .i64 n)).run Tryz.prog w = .ok (.slice (some ⟨w.heap.size, 0, none⟩) n n) (w.alloc (.cells (blsL (List.replicate n false)) 4)) := by
  obtain ⟨i0, hi, hz0, hz1, hz2⟩ := info_parts Tryz.infoBoolL
  have hb : (i0.bytes : Int) * (n : Int) ≤ 281474976710656 := by rw [hz2]; omega
  have h := run_make (P := Tryz.prog) w 78 4 i0 _ Tryz.underlying78 hi hz0 .i64 .i64 (n : Int) (n : Int) (by omega) (Int.le_refl _) hb (by omega)
  have e : madeCells (Value.bool false).cells ((n : Int).toNat * i0.size) = blsL (List.replicate n false) := by
    rw [hz1, Int.toNat_natCast, Nat.mul_one]
    apply Array.ext'
    refine (toList_madeCells_one _ _).trans ?_
    simp [blsL]
  rw [e] at h
  simpa using h
section
set_option maxRecDepth 100000
set_option maxHeartbeats 4000000
variable {B : Nat} {A : Blks} {V Mo : Nat} {N : List Nd} {H G : List Nat}
theorem Least_any {w : World} (hA : ArAt w B A V Mo N H G) (f : Nat) (hf : f ∈ G ∧ f < N.length) (h0 : f ≠ 0) (n : Nat) (hn : n ≤ 1000) (v : Value) (h : Rd w w.heap.size 1 v (varsL 0 n).length (icells (varsL 0 n))) (hV : 2 * n ≤ V) (hsup : ∀ i, 2 ≤ i → Rch N f i → ∃ j, j < n ∧ (nd N i).v = 2 * j) :
    Calls Tryz.prog 85 #[A.val, .int .i64 f, v] w fun e w' => ∃ g, e = .returned (.tuple #[.slice (some ⟨g, 0, none⟩) n n, .int .i64 0]) ∧ w.heap.size ≤ g ∧ w'.heap[g]? = some (.cells (blsL (lstL N f n n)) 4 (0, 0)) ∧ Below w.heap.size w w' := by
  have hwf : WF N := by obtain ⟨_, h⟩ := hA; exact h.wf
  have hle : N.length ≤ 2147483647 := by obtain ⟨_, h⟩ := hA; exact h.le
  have hll := varsL_len 0 n
  have hb1 := below1 w (.cells ([f].map fun (n : Nat) => Value.int .i64 (n : Int)).toArray 3)
  have hck := check_any (hA.below hb1) [f] w.heap.size 1 (new_cells w [f] 3) (by
    intro x hx
    simp at hx
    subst hx
    exact ⟨hf.1, by omega⟩) (by simp)
  have hck : Calls Tryz.prog 166 #[A.val, .slice (some ⟨w.heap.size, 0, none⟩) 1 1] (w.alloc (.cells #[.int .i64 f] 3)) fun e w' => e = .returned (.int .i64 0) ∧ Below (w.alloc (.cells #[.int .i64 f] 3)).heap.size (w.alloc (.cells #[.int .i64 f] 3)) w' := hck
  have hri := fun (W : World) (hb : Below w.heap.size w W) => rises_any (hA.below hb) f hf (varsL 0 n) (fun i hi hr => by
    obtain ⟨j, hj, hv⟩ := hsup i hi hr
    exact List.mem_map.2 ⟨j, List.mem_range.2 hj, by rw [hv]; rfl⟩) v ((h.below hb).mono hb.size) (fun x hx => by have := varsL_in n x hx; omega) (varsL_rise 0 n) (by omega)
  rw [hll] at h
  obtain ⟨PL, c, rfl, hc⟩ := h.form
  have HB1 := Lib.hid hb1
  have HCK := Lib.hid hck
  have HRI := Lib.hid hri
  have HA := Lib.hid hA
  have HWF := Lib.hid hwf
  have HR := Lib.hid h
  have f1 := hf.2
  have f2 : (f : Int) ≤ 2147483646 := by omega
  have hf0 : ((f : Int) == 0) = false := by simpa using h0
  clear hA hb1 hck hri hf hwf h hsup
  unfold Blks.val at *
  go_enter Tryz.func85, Tryz.ntmps85
  go_upto_region 4 with ((with_reducible refine HCK.out.mono ?_); rintro e w2 ⟨rfl, hb2⟩; have HB2 := Lib.hid (HB1.out.trans (hb2.mono HB1.out.size)); clear hb2)
  have HRI2 := Lib.hid (HRI.out _ HB2.out)
  go_upto_region 8 with ((with_reducible refine HRI2.out.mono ?_); rintro e w3 ⟨rfl, hb3⟩; have HB3 := Lib.hid (HB2.out.trans (hb3.mono HB2.out.size)); clear hb3)
  clear HCK HRI HRI2 HB1 HB2
  have mk := mkBoolsL w3 n (by omega)
  go_upto_region 10 with fail
  have HM : Hid ((w3.alloc (.cells (blsL (List.replicate n false)) 4)).heap[w3.heap.size]? = some (.cells (blsL (lstL N f n 0)) 4 (0, 0))) := Lib.hid (by rw [lstL_zero]; exact blk1 w3 _)
  have HBM := Lib.hid (HB3.out.trans ((below1 w3 (.cells (blsL (List.replicate n false)) 4)).mono HB3.out.size))
  have hg3 := HB3.out.size
  clear mk HB3
  generalize w3.alloc (.cells (blsL (List.replicate n false)) 4) = w4 at *
  go_wp2
  go_loopw [10, 34] (fun t i wr => ∃ k : Nat, i = .int .i64 k ∧ t = .int .i32 (lstN N f k) ∧ k ≤ n ∧ Hid (wr.heap[w3.heap.size]? = some (.cells (blsL (lstL N f n k)) 4 (0, 0))) ∧ Hid (Below w.heap.size w wr)) (fun _ i _ => n - (intOf i).toNat)
  case atStart => exact ⟨0, rfl, rfl, by omega, HM, HBM⟩
  case round =>
    obtain ⟨k, rfl, rfl, hk, HK, HB⟩ := hrel
    by_cases hlt : k < n
    · have hI : (k : Int) < (n : Int) := by omega
      have HT := Lib.hid (lstN_lt HWF.out f1 k)
      obtain ⟨b, off, c', hv, _, hbB, hcell⟩ := HR.out.pos (by omega)
      injection hv with hv1 hv2 hv3
      subst hv1 hv3
      clear hv2
      have e0 : wr.cell? ⟨b, off + k, none⟩ = some (.int .i64 ((2 * k : Nat) : Int)) := (HB.out.cell (p := ⟨b, off + k, none⟩) hbB).trans (hcell k _ (by simp [icells, varsL_get 0 n hlt]))
      clear hcell
      obtain ⟨t, ht⟩ : ∃ t, lstN N f k = t := ⟨_, rfl⟩
      have HSY : Hid (1 < t ∧ (nd N t).v = 2 * k → lstN N f (k + 1) = (if (nd N t).lo = 0 then (nd N t).hi else (nd N t).lo) ∧ lstB N f k = decide ((nd N t).lo = 0)) := Lib.hid fun h => by
        subst ht
        exact ⟨lstN_yes h.1 h.2, lstB_yes h.1 h.2⟩
      have HSN : Hid (¬ (1 < t ∧ (nd N t).v = 2 * k) → lstN N f (k + 1) = t ∧ lstL N f n (k + 1) = lstL N f n k) := Lib.hid fun h => by
        subst ht
        exact ⟨lstN_no h, lstL_same (lstB_no h)⟩
      rw [ht] at HT ⊢
      clear ht
      by_cases h1 : 1 < t
      · have hI1 : (t : Int) > 1 := by omega
        have HAR := Lib.hid (HA.out.below HB.out)
        obtain ⟨nv, hN⟩ := HAR.out
        obtain ⟨ng, cp, rfl, hat⟩ := hN.at_node
        obtain ⟨x0, x1, x2⟩ := hat t HT.out
        have c3 : wr.cell? ⟨A.a, 2, none⟩ = some (.slice (some ⟨ng, 0, none⟩) N.length cp) := hN.cellAt rfl
        have hI2 : (t : Int) < (N.length : Int) := by have := HT.out; omega
        have htb : (t : Int) ≤ 2147483646 := by have := HT.out; omega
        clear hN hat
        by_cases hv : (nd N t).v = 2 * k
        · obtain ⟨hS1, hS2⟩ := HSY.out ⟨h1, hv⟩
          have hvI : (((nd N t).v : Int) == 2 * (k : Int)) = true := by simp; omega
          have hkb : 2 * (k : Int) ≤ 2147483647 := by omega
          by_cases hl : (nd N t).lo = 0
          · have hl2 : (((nd N t).lo : Int) == 0) = true := by simp [hl]
            have hS3 : lstN N f (k + 1) = (nd N t).hi := by rw [hS1, if_pos hl]
            have hS4 : lstB N f k = true := by rw [hS2]; simp [hl]
            have HS3 := Lib.hid hS3
            have hd0 : (lstL N f n k)[k]? = some false := by
              unfold lstL
              rw [List.getElem?_map, List.getElem?_range hlt]
              simp
            have d0 : wr.cell? ⟨w3.heap.size, k, none⟩ = some (.bool false) := (cell_of_row _ _ k _ _ (0, 0) HK.out).trans (blsL_get hd0)
            have f0 := frozen_of_row _ _ k _ _ HK.out
            have HL := Lib.hid hl
            clear hS1 hS2 hS3 hl hd0
            go_upto_region 15 with fail
            have HK5 : Hid ((wr.setCell ⟨w3.heap.size, k, none⟩ (.bool true)).heap[w3.heap.size]? = some (.cells (blsL (lstL N f n (k + 1))) 4 (0, 0))) := Lib.hid (by
              rw [lstL_succ hlt, hS4, ← blsL_set]
              exact set_at (i := k) (u := .bool true) HK.out)
            have HB5 := Lib.hid (HB.out.setCell (p := ⟨w3.heap.size, k, none⟩) hg3 (.bool true))
            clear d0 f0 c3 x0 x1 x2 e0
            generalize wr.setCell ⟨w3.heap.size, k, none⟩ (.bool true) = w5 at *
            have hd1 : (lstL N f n (k + 1))[k]? = some true := by
              rw [lstL_succ hlt, hS4, List.getElem?_set, if_pos rfl, if_pos (by rw [lstL_len]; exact hlt)]
            have d1 : w5.cell? ⟨w3.heap.size, k, none⟩ = some (.bool true) := (cell_of_row _ _ k _ _ (0, 0) HK5.out).trans (blsL_get hd1)
            have hcut := ncut_any t (2 * k) true (HA.out.below HB5.out) HT.out
            have hcn : cutN N t (2 * k) true = (nd N t).hi := by unfold cutN; rw [if_neg (fun h => h hv)]; rfl
            have e2 : ((2 * k : Nat) : Int) = 2 * (k : Int) := by omega
            rw [hcn, e2] at hcut
            unfold Blks.val at hcut
            have HCUT := Lib.hid hcut
            clear hcut hcn e2 hd1 hS4
            go_wp2_with ((with_reducible refine HCUT.out.mono ?_); rintro e w6 ⟨rfl, hb6⟩; have HK6 := Lib.hid (blk_below hb6 HK5.out); have HB6 := Lib.hid (HB5.out.trans (hb6.mono HB5.out.size)); clear hb6)
            exact ⟨⟨k + 1, by go_num, by rw [HS3.out], by omega, HK6, HB6⟩, by simp only [intOf]; omega⟩
          · have hl2 : (((nd N t).lo : Int) == 0) = false := by simpa using hl
            have hS3 : lstN N f (k + 1) = (nd N t).lo := by rw [hS1, if_neg hl]
            have hS4 : lstB N f k = false := by rw [hS2]; simp [hl]
            have HS3 := Lib.hid hS3
            have hd0 : (lstL N f n k)[k]? = some false := by
              unfold lstL
              rw [List.getElem?_map, List.getElem?_range hlt]
              simp
            have d0 : wr.cell? ⟨w3.heap.size, k, none⟩ = some (.bool false) := (cell_of_row _ _ k _ _ (0, 0) HK.out).trans (blsL_get hd0)
            have f0 := frozen_of_row _ _ k _ _ HK.out
            have HL := Lib.hid hl
            clear hS1 hS2 hS3 hl hd0
            go_upto_region 15 with fail
            have HK5 : Hid ((wr.setCell ⟨w3.heap.size, k, none⟩ (.bool false)).heap[w3.heap.size]? = some (.cells (blsL (lstL N f n (k + 1))) 4 (0, 0))) := Lib.hid (by
              rw [lstL_succ hlt, hS4, ← blsL_set]
              exact set_at (i := k) (u := .bool false) HK.out)
            have HB5 := Lib.hid (HB.out.setCell (p := ⟨w3.heap.size, k, none⟩) hg3 (.bool false))
            clear d0 f0 c3 x0 x1 x2 e0
            generalize wr.setCell ⟨w3.heap.size, k, none⟩ (.bool false) = w5 at *
            have hd1 : (lstL N f n (k + 1))[k]? = some false := by
              rw [lstL_succ hlt, hS4, List.getElem?_set, if_pos rfl, if_pos (by rw [lstL_len]; exact hlt)]
            have d1 : w5.cell? ⟨w3.heap.size, k, none⟩ = some (.bool false) := (cell_of_row _ _ k _ _ (0, 0) HK5.out).trans (blsL_get hd1)
            have hcut := ncut_any t (2 * k) false (HA.out.below HB5.out) HT.out
            have hcn : cutN N t (2 * k) false = (nd N t).lo := by unfold cutN; rw [if_neg (fun h => h hv)]; rfl
            have e2 : ((2 * k : Nat) : Int) = 2 * (k : Int) := by omega
            rw [hcn, e2] at hcut
            unfold Blks.val at hcut
            have HCUT := Lib.hid hcut
            clear hcut hcn e2 hd1 hS4
            go_wp2_with ((with_reducible refine HCUT.out.mono ?_); rintro e w6 ⟨rfl, hb6⟩; have HK6 := Lib.hid (blk_below hb6 HK5.out); have HB6 := Lib.hid (HB5.out.trans (hb6.mono HB5.out.size)); clear hb6)
            exact ⟨⟨k + 1, by go_num, by rw [HS3.out], by omega, HK6, HB6⟩, by simp only [intOf]; omega⟩
        · obtain ⟨hS1, hS2⟩ := HSN.out (fun h => hv h.2)
          obtain ⟨y, hy⟩ : ∃ y : Int, ((2 * k : Nat) : Int) = y := ⟨_, rfl⟩
          rw [hy] at e0
          obtain ⟨z, hz⟩ : ∃ z, (nd N t).v = z := ⟨_, rfl⟩
          rw [hz] at x0 hv
          have hvI : ((z : Int) == y) = false := by rw [← hy]; simp; omega
          have hzb : (z : Int) ≤ 2147483647 := by have := HWF.out.v256 t; omega
          have HS1 := Lib.hid hS1
          have HS2 := Lib.hid hS2
          clear hS1 hS2 hy hv hz
          go_wp2
          exact ⟨⟨k + 1, by go_num, by rw [HS1.out], by omega, Lib.hid (by rw [HS2.out]; exact HK.out), HB⟩, by simp only [intOf]; omega⟩
      · obtain ⟨hS1, hS2⟩ := HSN.out (fun h => h1 h.1)
        have hI1 : ¬ (t : Int) > 1 := by omega
        have HS1 := Lib.hid hS1
        have HS2 := Lib.hid hS2
        clear hS1 hS2
        go_wp2
        exact ⟨⟨k + 1, by go_num, by rw [HS1.out], by omega, Lib.hid (by rw [HS2.out]; exact HK.out), HB⟩, by simp only [intOf]; omega⟩
    · obtain rfl : k = n := by omega
      have hI : ¬ (k : Int) < (k : Int) := by omega
      go_wp2
      go_ret2
      exact ⟨_, rfl, by omega, HK.out, HB.out⟩
end
end Go.Proofs.YtbahehmfhjkgeaaGreat

/-
  What the least values are: they fulfil the set, and all others that do come behind them.
-/
namespace Go.Proofs.YtbahehmfhjkgeaaGreat
open Go Go.RowKit Go.ChangeMaps Go.MapKept Go.Maps Go.Lib Go.Sort

variable {N : List Nd} {f n : Nat}
/-- Each variable on which the set hangs is one of the n even ones. -/
def SupE (N : List Nd) (f n : Nat) : Prop := ∀ i, 2 ≤ i → Rch N f i → ∃ j, j < n ∧ (nd N i).v = 2 * j
structure LstOk (N : List Nd) (f i : Nat) : Prop where
  ne : lstN N f i ≠ 0
  rch : Rch N f (lstN N f i)
  lo : 2 ≤ lstN N f i → 2 * i ≤ (nd N (lstN N f i)).v
  ev : ∀ s : Nat → Bool, (∀ j, j < i → s (2 * j) = lstB N f j) → ev N s f = ev N s (lstN N f i)
theorem lst_ok (wf : WF N) (hf : f < N.length) (h0 : f ≠ 0) (hs : SupE N f n) : ∀ i, LstOk N f i
  | 0 => ⟨h0, .refl _, fun _ => by omega, fun _ _ => rfl⟩
  | i + 1 => by
    have ih := lst_ok wf hf h0 hs i
    have hlt := lstN_lt wf hf i
    by_cases h : 1 < lstN N f i ∧ (nd N (lstN N f i)).v = 2 * i
    · obtain ⟨h1, hv⟩ := h
      have hne := wf.ne _ h1 hlt
      have hB := lstB_yes h1 hv
      by_cases hl : (nd N (lstN N f i)).lo = 0
      · have e : lstN N f (i + 1) = (nd N (lstN N f i)).hi := by rw [lstN_yes h1 hv, if_pos hl]
        have hr : Rch N f (nd N (lstN N f i)).hi := ih.rch.trans (.hi h1 hlt (.refl _))
        have hvh := wf.vhi _ h1 hlt
        refine ⟨by rw [e]; omega, by rw [e]; exact hr, fun h2 => ?_, fun s hag => ?_⟩
        · rw [e] at h2 ⊢
          obtain ⟨j, _, hj⟩ := hs _ h2 hr
          omega
        · rw [e, ih.ev s (fun j hj => hag j (by omega)), ev_node wf s h1 hlt, hv, hag i (Nat.lt_succ_self _), hB]
          simp [hl]
      · have e : lstN N f (i + 1) = (nd N (lstN N f i)).lo := by rw [lstN_yes h1 hv, if_neg hl]
        have hr : Rch N f (nd N (lstN N f i)).lo := ih.rch.trans (.lo h1 hlt (.refl _))
        have hvl := wf.vlo _ h1 hlt
        refine ⟨by rw [e]; omega, by rw [e]; exact hr, fun h2 => ?_, fun s hag => ?_⟩
        · rw [e] at h2 ⊢
          obtain ⟨j, _, hj⟩ := hs _ h2 hr
          omega
        · rw [e, ih.ev s (fun j hj => hag j (by omega)), ev_node wf s h1 hlt, hv, hag i (Nat.lt_succ_self _), hB]
          simp [hl]
    · have e := lstN_no h
      refine ⟨by rw [e]; exact ih.ne, by rw [e]; exact ih.rch, fun h2 => ?_, fun s hag => ?_⟩
      · rw [e] at h2 ⊢
        obtain ⟨j, _, hj⟩ := hs _ h2 ih.rch
        have := ih.lo h2
        have : (nd N (lstN N f i)).v ≠ 2 * i := fun hv => h ⟨h2, hv⟩
        omega
      · rw [e]
        exact ih.ev s fun j hj => hag j (by omega)
/-- They fulfil it. -/
theorem lst_true (wf : WF N) (hf : f < N.length) (h0 : f ≠ 0) (hs : SupE N f n) (s : Nat → Bool) (hag : ∀ j, j < n → s (2 * j) = lstB N f j) : ev N s f = true := by
  have ok := lst_ok wf hf h0 hs n
  rw [ok.ev s hag]
  have h2 : ¬ 2 ≤ lstN N f n := fun h2 => by
    obtain ⟨j, hj, hv⟩ := hs _ h2 ok.rch
    have := ok.lo h2
    omega
  have h1 : lstN N f n = 1 := by have := ok.ne; omega
  rw [h1]
  rfl
/-- All others that do come behind them. -/
theorem lst_least (wf : WF N) (hf : f < N.length) (h0 : f ≠ 0) (hs : SupE N f n) (s : Nat → Bool) (ht : ev N s f = true) : ∀ i, i ≤ n → (∀ j, j < i → s (2 * j) = lstB N f j) ∨ ∃ k, k < i ∧ (∀ j, j < k → s (2 * j) = lstB N f j) ∧ lstB N f k = false ∧ s (2 * k) = true
  | 0, _ => .inl fun j hj => absurd hj (by omega)
  | i + 1, hi => by
    rcases lst_least wf hf h0 hs s ht i (by omega) with h | ⟨k, hk, h⟩
    · by_cases hq : s (2 * i) = lstB N f i
      · exact .inl fun j hj => by
          rcases Nat.lt_or_ge j i with h1 | h1
          · exact h j h1
          · obtain rfl : j = i := by omega
            exact hq
      · refine .inr ⟨i, Nat.lt_succ_self _, h, ?_⟩
        cases hb : lstB N f i with
        | false => exact ⟨rfl, by rw [hb] at hq; simpa using hq⟩
        | true =>
          rw [hb] at hq
          have hsf : s (2 * i) = false := by simpa using hq
          have hd : 1 < lstN N f i ∧ (nd N (lstN N f i)).v = 2 * i ∧ (nd N (lstN N f i)).lo = 0 := by
            unfold lstB at hb
            exact of_decide_eq_true hb
          have hlt := lstN_lt wf hf i
          rw [(lst_ok wf hf h0 hs i).ev s h, ev_node wf s hd.1 hlt, hd.2.1, hsf, hd.2.2] at ht
          simp [ev, evF] at ht
    · exact .inr ⟨k, by omega, h⟩
end Go.Proofs.YtbahehmfhjkgeaaGreat

/-
  A number of 128 bits times a power of two.
-/
namespace Go.Proofs.YtbahehmfhjkgeaaGreat
open Go Go.RowKit Go.ChangeMaps Go.MapKept Go.Maps Go.Lib Go.Sort

theorem wrap_u64 (m : Nat) : IntKind.u64.wrap (m : Int) = ((m % 2 ^ 64 : Nat) : Int) := by
  simp [IntKind.wrap, IntKind.bits, IntKind.signed]
theorem wrap_i64c {k : Int} (h0 : 0 ≤ k) (h1 : k ≤ 1000) : IntKind.i64.wrap k = k := by
  have e : k % 2 ^ 64 = k := Int.emod_eq_of_lt h0 (by omega)
  simp only [IntKind.wrap, IntKind.bits, IntKind.signed, e]
  rw [if_neg]
  simp
  omega
theorem or64 (p q : Nat) (hp : p < 2 ^ 64) (hq : q < 2 ^ 64) : bits .or .u64 (p : Int) (q : Int) = ((p ||| q : Nat) : Int) := by
  have h1 : (BitVec.ofInt 64 (p : Int)).toNat = p := by rw [BitVec.ofInt_natCast, BitVec.toNat_ofNat, Nat.mod_eq_of_lt hp]
  have h2 : (BitVec.ofInt 64 (q : Int)).toNat = q := by rw [BitVec.ofInt_natCast, BitVec.toNat_ofNat, Nat.mod_eq_of_lt hq]
  show IntKind.u64.wrap ((BitVec.ofInt 64 (p : Int) ||| BitVec.ofInt 64 (q : Int)).toNat : Int) = _
  rw [BitVec.toNat_or, h1, h2, wrap_u64, Nat.mod_eq_of_lt (Nat.or_lt_two_pow hp hq)]
theorem times_plain {a b n : Nat} (hb : b < 2 ^ 64) (hn : n < 64) (hc : (a * 2 ^ 64 + b) * 2 ^ n < 2 ^ 128) :
    a * 2 ^ n < 2 ^ 64 ∧ b / 2 ^ (64 - n) < 2 ^ 64 ∧ (a * 2 ^ n ||| b / 2 ^ (64 - n)) = ((a * 2 ^ 64 + b) * 2 ^ n) / 2 ^ 64 ∧ (b * 2 ^ n) % 2 ^ 64 = ((a * 2 ^ 64 + b) * 2 ^ n) % 2 ^ 64 := by
  have hP : 2 ^ n * 2 ^ (64 - n) = 2 ^ 64 := by rw [← Nat.pow_add]; congr 1; omega
  have hP0 : 0 < 2 ^ n := Nat.two_pow_pos n
  have e0 : (a * 2 ^ 64 + b) * 2 ^ n = b * 2 ^ n + a * 2 ^ n * 2 ^ 64 := by rw [Nat.add_mul, Nat.mul_right_comm, Nat.add_comm]
  have h1 : a * 2 ^ n < 2 ^ 64 := by
    rw [e0] at hc
    have : a * 2 ^ n * 2 ^ 64 < 2 ^ 64 * 2 ^ 64 := by
      have e : (2 : Nat) ^ 128 = 2 ^ 64 * 2 ^ 64 := by rw [← Nat.pow_add]
      omega
    exact Nat.lt_of_mul_lt_mul_right this
  have h2 : b / 2 ^ (64 - n) < 2 ^ n := by
    refine Nat.div_lt_of_lt_mul ?_
    rw [Nat.mul_comm, hP]
    exact hb
  have h3 : b / 2 ^ (64 - n) < 2 ^ 64 := Nat.lt_of_le_of_lt (Nat.div_le_self _ _) hb
  refine ⟨h1, h3, ?_, ?_⟩
  · have e1 : a * 2 ^ n ||| b / 2 ^ (64 - n) = a * 2 ^ n + b / 2 ^ (64 - n) := by
      rw [← Nat.shiftLeft_eq, ← Nat.shiftLeft_add_eq_or_of_lt h2]
    have e2 : b / 2 ^ (64 - n) = b * 2 ^ n / 2 ^ 64 := by
      rw [← hP, Nat.mul_comm b, Nat.mul_div_mul_left _ _ hP0]
    rw [e1, e2, e0, Nat.add_mul_div_right _ _ (by decide), Nat.add_comm]
  · rw [e0, Nat.add_mul_mod_self_right]
end Go.Proofs.YtbahehmfhjkgeaaGreat

/-
  Joined texts: Rw4, Rw5, Rw6, Rw7, Rw8, MixZ, Rw9, Ex7, Rr2, Ct13, Rr3, Rr4, Rr5.
-/
import Derived.Test.YtbahehmfhjkgeaaGreatMRelRefuses12
import Derived.Great.Walk
import Derived.Test.YtbahehmfhjkgeaaGreatMRelRefuses3
import Derived.Test.YtbahehmfhjkgeaaGreatMRelRefuses8
import Derived.Test.YtbahehmfhjkgeaaGreatMRelRefuses5
import Derived.Test.YtbahehmfhjkgeaaGreatMRelRefuses4
import Derived.Test.YtbahehmfhjkgeaaGreatMRelRefuses11
/-
  Walks over the layer of rewrites: the reference's Check and Permits (written by wip/gen/genrw4.py).
-/
namespace Go.Proofs.YtbahehmfhjkgeaaGreat
open Go Go.RowKit Go.Sort

/-- Does the filter of a name permit a header? -/
def namP (Fs : List FiltV) (nm : ByteArray) (h : HeaderV) : Bool := permN (namL Fs nm) h
end Go.Proofs.YtbahehmfhjkgeaaGreat

/-
  Walks over the layer of rewrites: First (written by wip/gen/genrw5.py).
-/
namespace Go.Proofs.YtbahehmfhjkgeaaGreat
open Go Go.RowKit Go.Sort

/-- What the closure of First leaves. -/
def ClosPost (p : Bool) (i a0 : Int) (ga : Nat) (w : World) (e : Ending) (w' : World) : Prop :=
  e = .returned (.bool (!p)) ∧ w'.heap[ga]? = some (.cells #[.int .i64 (bif p then i else a0)] 3 (0, 0)) ∧ w.grownBy w' (some ga)

/-- Does a rewrite apply? -/
def appB (Fs : List FiltV) (dest : Bool) (h : HeaderV) (x : RewV) : Bool := x.dest == dest && namP Fs x.nm h
def EachPost (r : Int) (B0 ga : Nat) (w : World) (e : Ending) (w' : World) : Prop :=
  e = .returned (.tuple #[]) ∧ w'.heap[ga]? = some (.cells #[.int .i64 r] 3 (0, 0)) ∧ Below B0 w w'
end Go.Proofs.YtbahehmfhjkgeaaGreat

/-
  Walks over the layer of rewrites: First, the program's and the reference's (written by wip/gen/genrw6.py).
-/
namespace Go.Proofs.YtbahehmfhjkgeaaGreat
open Go Go.RowKit Go.Sort

/-- Which rewrite applies; 0 where they are refused. -/
def firN (Fs : List FiltV) (l : List RewV) (dest : Bool) (h : HeaderV) : Int := if rwE Fs l = 0 then idxP (appB Fs dest h) l else 0
end Go.Proofs.YtbahehmfhjkgeaaGreat

/-
  Walks over the layer of rewrites: Apply, the program's and the reference's (written by wip/gen/genrw7.py).
-/
namespace Go.Proofs.YtbahehmfhjkgeaaGreat
open Go Go.RowKit Go.Sort

def zeroH : HeaderV := ⟨0, 0, 0, 0, 0, by omega, by omega, by omega, by omega, by omega⟩
def setD (h : HeaderV) (x : RewV) : HeaderV := ⟨h.src, x.too, h.proto, h.sp, h.dp, h.hsrc, x.hto, h.hproto, h.hsp, h.hdp⟩
def setS (h : HeaderV) (x : RewV) : HeaderV := ⟨x.too, h.dst, h.proto, h.sp, h.dp, x.hto, h.hdst, h.hproto, h.hsp, h.hdp⟩
/-- What comes of a header. -/
def apH (Fs : List FiltV) (l : List RewV) (dest : Bool) (h : HeaderV) : HeaderV :=
  if rwE Fs l = 0 then (if 0 ≤ idxP (appB Fs dest h) l then (match l[(idxP (appB Fs dest h) l).toNat]? with | some x => if dest = true then setD h x else setS h x | none => h) else h) else zeroH
def ApPost (h : HeaderV) (r : Int) (w : World) (e : Ending) (w' : World) : Prop :=
  e = .returned (.tuple #[.agg #[.int .u32 h.src, .int .u32 h.dst, .int .u8 h.proto, .int .u16 h.sp, .int .u16 h.dp], .int .i64 r]) ∧ Below w.heap.size w w'
end Go.Proofs.YtbahehmfhjkgeaaGreat

/-
  The walk of rewrite.each, whatever is done at each rewrite (until the end).
-/
namespace Go.Proofs.YtbahehmfhjkgeaaGreat
open Go Go.RowKit Go.ChangeMaps Go.MapKept Go.Maps Go.Lib Go.Sort

/-- What is done at a rewrite: a state by how many were met. -/
structure EachOk (fid : FuncId) (caps : Array Value) (l : List RewV) (vl : Value) (Fs : List FiltV) (v : Value) (dest : Bool) (St : Nat → World → Prop) : Prop where
  en : ∀ (args : Array Value) (w : World), (callFunc fid args).run Tryz.prog w = .ok (.enter fid args) w
  below : ∀ k W W', St k W → Below W.heap.size W W' → St k W'
  row : ∀ k W, St k W → Rd W W.heap.size 3 vl l.length (wcells l)
  fs : ∀ k W, St k W → FsAt W W.heap.size v Fs
  skip : ∀ (k : Nat) (x : RewV) W, l[k]? = some x → x.dest ≠ dest → St k W → St (k + 1) W
  step : ∀ (k : Nat) (x : RewV) (A : Option Addr) (c : Nat) (W0 W : World), l[k]? = some x → x.dest = dest → St k W0 → Below W0.heap.size W0 W → Rd W W.heap.size 10 (.slice A (namL Fs x.nm).length c) (namL Fs x.nm).length (rcells (namL Fs x.nm)) → NewAt W0.heap.size (namL Fs x.nm).length A →
    Calls Tryz.prog fid (#[.int .i64 k, .agg #[.string (namNm Fs x.nm), .slice A (namL Fs x.nm).length c]] ++ caps) W fun e W' => e = .returned (.bool true) ∧ St (k + 1) W'
end Go.Proofs.YtbahehmfhjkgeaaGreat

/-
  A region that draws its order and whose last operation waits for all the others: the class of worlds need not bear that one. No program in sight.
-/
namespace Go.Proofs.YtbahehmfhjkgeaaGreat
open Go Go.RowKit Go.Sort

section
variable {P : Program} {ops : Array Oper} {md : Region.Mode} {S : World → Prop} {Q : Exit → Act → World → Prop} {z : Nat}
/-- All orders; the class holds behind each operation but z. -/
def allZ (P : Program) (md : Region.Mode) (ops : Array Oper) (Q : Exit → Act → World → Prop) (z : Nat) (S : World → Prop) : Nat → Array Bool → Act → World → Prop
  | 0, ls, a, w => Region.ready md ops ls = [] ∧ Q .normal a w
  | n + 1, ls, a, w => (Region.ready md ops ls = [] → Q .normal a w) ∧ ∀ i ∈ Region.ready md ops ls, wpOp P ops Q i (fun a' w' => (i ≠ z → S w') ∧ allZ P md ops Q z S n (ls.setIfInBounds i true) a' w') a w
/-- z waits for all the others. -/
def lastZ (md : Region.Mode) (ops : Array Oper) (z : Nat) : Bool := (List.range ops.size).all fun k => k == z || (match ops[z]? with | some o => o.after.any fun e => Region.binds md e && e.on == k | none => false)
def mixBz (md : Region.Mode) (ops : Array Oper) (z : Nat) : List (Nat × Bool) → Array Bool → Bool
  | [], ls => decide (Region.ready md ops ls = [z]) && (Region.ready md ops (ls.setIfInBounds z true)).isEmpty
  | (k, false) :: m, ls => decide (k ≠ z) && (Region.ready md ops ls).contains k && Region.free md ops ls k && (match ops[k]? with | some o => plainB o.op | none => false) && mixBz md ops z m (ls.setIfInBounds k true)
  | (k, true) :: m, ls => decide (k ≠ z) && decide (Region.ready md ops ls = [k]) && mixBz md ops z m (ls.setIfInBounds k true)
/-- The walk; z comes last. -/
def mixWz (P : Program) (ops : Array Oper) (Q : Exit → Act → World → Prop) (z : Nat) : List (Nat × Bool) → (World → Prop) → Act → World → Prop
  | [], _, a, w => ∃ o, ops[z]? = some o ∧ Region.wanted o (yielded ops a.tmps) = true ∧ o.wp P a w (fun a' w' => Q .normal a' w') Q
  | (k, false) :: m, S, a, w => ∃ o, ops[k]? = some o ∧ if Region.wanted o (yielded ops a.tmps) then o.quiet P a S (fun a' => mixWz P ops Q z m S a' w) else mixWz P ops Q z m S (a.put o.dst undef) w
  | (k, true) :: m, S, a, w => ∃ o, ops[k]? = some o ∧ Region.wanted o (yielded ops a.tmps) = true ∧ o.wp P a w (fun a' w' => ∃ S' : World → Prop, S' w' ∧ (∀ v, S' v → S v) ∧ mixWz P ops Q z m S' a' w') Q
def mixOkZ (l : List Oper) (z : Nat) (m : List (Nat × Bool)) : Bool := Region.noSelect l.toArray && decide (m.length + 1 = l.length) && lastZ .any l.toArray z && mixBz .any l.toArray z m (Array.replicate l.length false)
end
end Go.Proofs.YtbahehmfhjkgeaaGreat

/-
  A rewrite's relation: the builder's take, the boxes that the walk keeps.
-/
namespace Go.Proofs.YtbahehmfhjkgeaaGreat
open Go Go.RowKit Go.ChangeMaps Go.MapKept Go.Maps Go.Lib Go.Sort

section
variable {w w' : World} {B S km : Nat} {A : Blks} {Mo : Nat} {σ τ : Sg}
theorem SpRes.room {F : Fun} {k m : Nat} {e : Ending} (h : SpRes w B S km A Mo σ F k m e w') (hr : σ.H.length + m ≤ Mo) :
    ∃ (r : Nat) (τ : Sg), e = .returned (.tuple #[.int .i64 (r : Nat), .int .i64 0]) ∧ SpOk w' B S km A Mo τ ∧ To k m σ τ ∧ Den τ r F := by
  rcases h.2 with ⟨_, h2, _⟩ | ⟨r, τ, h1, h2⟩
  · omega
  · exact ⟨r, τ, h1, h2⟩
/-- The boxes of a relation's walk. -/
structure Bxs where
  b : Nat
  s : Nat
  l : Nat
  d : Nat
  L : Nat
  o : Nat
def Bxs.list (P : Bxs) : List Nat := [P.b, P.s, P.l, P.d, P.L, P.o]
variable {w0 W W' : World} {P : Bxs} {dest : Bool} {l : List RewV} {vl : Value} {Fs : List FiltV} {v : Value} {ql qo : Nat}
/-- What a rewrite's filter permits; what it puts; what is left; what leads where. -/
def rwSet (Fs : List FiltV) (x : RewV) : Fun := setF (namL Fs x.nm) (namL Fs x.nm).length
def rwPut (dest : Bool) (x : RewV) : Fun := putF (if dest then 32 else 0) 32 x.too.toNat
def leftW (dest : Bool) (l : List RewV) (Fs : List FiltV) : Nat → Fun
  | 0 => fun _ => true
  | k + 1 => match l[k]? with
    | some x => if x.dest = dest then fun s => leftW dest l Fs k s && !rwSet Fs x s else leftW dest l Fs k
    | none => leftW dest l Fs k
def outW (dest : Bool) (l : List RewV) (Fs : List FiltV) : Nat → Fun
  | 0 => fun _ => false
  | k + 1 => match l[k]? with
    | some x => if x.dest = dest then fun s => outW dest l Fs k s || (rwPut dest x s && (leftW dest l Fs k s && rwSet Fs x s)) else outW dest l Fs k
    | none => outW dest l Fs k
end
end Go.Proofs.YtbahehmfhjkgeaaGreat

/-
  Image and Preimage, where what comes of it is an end.
-/
namespace Go.Proofs.YtbahehmfhjkgeaaGreat
open Go Go.RowKit Go.ChangeMaps Go.MapKept Go.Maps Go.Lib Go.Sort

section
set_option maxRecDepth 100000
set_option maxHeartbeats 2000000
variable {w : World} {B S km : Nat} {A : Blks} {Mo : Nat} {σ : Sg}
theorem SpOk.renLow (h : SpOk w B S km A Mo σ) {f o p : Nat} (ho : o < 2) (hp : p < 2) (hf : f ∈ σ.G) (hf2 : f < 2) (v1 v2 : Value) (h1 : Rd w w.heap.size 1 v1 104 (icells (varsL o 104))) (h2 : Rd w w.heap.size 1 v2 104 (icells (varsL p 104))) :
    Calls Tryz.prog 95 #[.pointer (some ⟨A.a, 0, none⟩), .int .i64 f, v1, v2] w (SpRes w B S km A Mo σ (fun _ => f == 1) 0 0) := by
  refine (renameLow_any ho hp h.sp.ar f hf hf2 h.ok.hok v1 v2 h1 h2).mono fun e' w' hres => h.op' hres (fun r N' ht => ?_) (Hangs.const _ _ _)
  obtain ⟨rfl, rfl⟩ := ht
  refine ⟨⟨Ext.refl _, fun s => ?_⟩, by omega, by rw [newL_old (.inl hf2)]; simp⟩
  have : r = 0 ∨ r = 1 := by omega
  rcases this with rfl | rfl
  · rfl
  · rfl
/-- What is left of a space's function at its nodes. -/
theorem exX_left {N : List Nd} (wf : WF N) {g o c : Nat} {F : Fun} (hg : g < N.length) (hF : ∀ s, ev N s g = F s) (hW : ∀ v s, Wid (exF o (fun t => F (mixS v s t))) c) : ∀ i, 2 ≤ i → Rch N g i → Wid (exX N o i) c := by
  intro i _ hr
  obtain ⟨s, hs⟩ := hr.path wf hg
  have e : (fun t => ev N t i) = fun t => F (mixS (nd N i).v s t) := funext fun t => (hs t).symm.trans (hF _)
  unfold exX
  rw [show (fun s => ev N s i) = fun t => F (mixS (nd N i).v s t) from e]
  exact hW _ _
theorem Den.bit {g : Nat} {b : Bool} (h : Den σ g (fun _ => b)) (o : SgOk Mo σ) : g = (if b then 1 else 0) := by
  cases b
  · exact h.same (Den.zero o) o
  · exact h.same (Den.one o) o
theorem relImage_flat (h : SpOk w B S km A Mo σ) {r a : Nat} {R F : Fun} (hr : Den σ r R) (ha : Den σ a F) (sa : SetF F) {k0 m0 c : Nat} (hgr : Grow σ.N σ.H (fun s => R s && F s) k0 m0) (hc : 1 ≤ c) (b : Bool) (hb : exF 0 (fun s => R s && F s) = fun _ => b) (hW : ∀ v s, Wid (exF 0 (fun t => (fun s => R s && F s) (mixS v s t))) c)
    (hl : (σ.N.length + k0) + c * (σ.N.length + k0) ≤ 2147483647) (hroom : σ.H.length + m0 ≤ Mo) :
    Calls Tryz.prog 36 #[.pointer (some ⟨S, 0, none⟩), .int .i64 r, .int .i64 a] w (fun e w' => (∃ q : Nat, e = .returned (.tuple #[.int .i64 q, .int .i64 0])) ∧ KeptS A km w w' ∧ ∃ τ, SpOk w' B S km A Mo τ ∧ To (k0 + c * (σ.N.length + k0)) m0 σ τ) := by
  have hfl := hr.lt64 h.ok
  have hgl := ha.lt64 h.ok
  have HCK := Lib.hid (h.checkB a r (by unfold I64; omega) (by unfold I64; omega))
  have HOP := Lib.hid (fun (K : List (Value × Value)) (W : World) (hs : SpOk W B S km A Mo (σ.know K)) => hs.and (hr.known K) (ha.known K) hgr (by show σ.N.length + k0 ≤ 2147483647; omega))
  have OK := Lib.hid (allOkB hr ha sa)
  have HWW := Lib.hid (And.intro hW hb)
  clear h hr ha sa hgr hW hb
  go_enter Tryz.func36, Tryz.ntmps36
  go_upto_region 2 with ((with_reducible refine HCK.out.mono ?_); rintro e W2 hr; obtain ⟨he, K, hs2, hk2⟩ := hr.yes OK.out; subst he; have HS2 := Lib.hid hs2; have HK2 := Lib.hid hk2; clear hr hs2 hk2)
  have c0 := HS2.out.sp.c0
  have HO := Lib.hid (HOP.out K W2 HS2.out)
  clear HOP HCK OK
  go_upto_region 7 with ((with_reducible refine HO.out.mono ?_); rintro e W3 hr; have HKR := Lib.hid hr.1; obtain ⟨f, τ, rfl, hs3, ht3, hd3⟩ := hr.room hroom; have HS3 := Lib.hid hs3; have HT3 := Lib.hid ht3; have HDN := Lib.hid hd3; clear hr hs3 ht3 hd3)
  clear HO c0
  have HK3 := Lib.hid (HK2.out.trans HKR.out)
  clear HKR HK2 HS2
  have hfl3 := HDN.out.lt64 HS3.out.ok
  have hn3 : τ.N.length ≤ σ.N.length + k0 := HT3.out.nl
  have hh3 : τ.H.length ≤ σ.H.length + m0 := HT3.out.hl
  have hcn : c * τ.N.length ≤ c * (σ.N.length + k0) := Nat.mul_le_mul_left _ hn3
  have c0 := HS3.out.sp.c0
  obtain ⟨Sa, hS⟩ : ∃ S' : World → Prop, S' = fun x => x.cell? ⟨S, 0, none⟩ = some (.pointer (some ⟨A.a, 0, none⟩)) := ⟨_, rfl⟩
  have hSI : ∀ x : World, x.cell? ⟨S, 0, none⟩ = some (.pointer (some ⟨A.a, 0, none⟩)) → Sa x := fun x h => by rw [hS]; exact h
  have hSP : ∀ x : World, Sa x → x.cell? ⟨S, 0, none⟩ = some (.pointer (some ⟨A.a, 0, none⟩)) := fun x h => by rw [hS] at h; exact h
  have hne : Nonempty (InW Sa) := ⟨⟨_, hSI _ c0⟩⟩
  have hdb : Below W3.heap.size W3 { W3 with drawn := W3.drawn + 1 } := ⟨rfl, rfl, rfl, Nat.le_refl _, fun _ _ => rfl⟩
  refine wp_region_mixS Sa [(0, false), (1, false), (2, false), (3, false), (4, false), (5, true), (6, true), (7, false), (8, false), (9, false), (10, false), (11, false)] (by kernel_rfl) (by kernel_rfl) (hSI _ ((hdb.cell (p := ⟨S, 0, none⟩) (World.block_lt_of_cell? _ _ c0)).trans c0)) ?_
  have L0 : ∀ p : InW Sa, p.w.cell? ⟨S, 0, none⟩ = some (.pointer (some ⟨A.a, 0, none⟩)) := fun p => hSP _ p.h
  have HISa := Lib.hid hSI
  clear hSI hSP hS
  generalize { W3 with drawn := W3.drawn + 1 } = X0 at *
  refine mix_take [0, 1, 2, 3, 4] [_, _, _, _, _] rfl rfl ?_
  simp only [List.getElem_toArray, List.getElem_cons_zero, List.getElem_cons_succ]
  repeat (go_big_quiet_step (fail))
  refine wpQuiet_nil ?_
  have HDX0 := Lib.hid hdb
  have HNESa := Lib.hid hne
  clear L0 hdb c0 hne
  refine mix_barS rfl (by rfl) ?_
  simp only [List.getElem_toArray, List.getElem_cons_zero, List.getElem_cons_succ]
  go_simp
  refine (all_any X0 nowF).mono ?_
  rintro e X1 ⟨v1, rfl, ho1, hb1⟩
  obtain ⟨PX1, cX1, hv1, _⟩ := owns_form ho1
  subst hv1
  have HDX1 := Lib.hid (HDX0.out.trans (hb1.mono HDX0.out.size))
  have HRDX1 := Lib.hid (Rd.of_own ho1)
  have HBBX1 := Lib.hid hb1
  have HSX1 := Lib.hid (HS3.out.below HDX1.out)
  clear hb1 ho1
  refine ⟨Sa, HISa.out _ HSX1.out.sp.c0, fun _ h => h, ?_⟩
  refine mix_barS rfl (by rfl) ?_
  simp only [List.getElem_toArray, List.getElem_cons_zero, List.getElem_cons_succ]
  go_simp
  have hex := HSX1.out.ex (o := 0) (c := c) (m := 0) (by omega) HDN.out (.slice PX1 104 cX1) HRDX1.out hc (exX_left HSX1.out.ok.wf (HSX1.out.ok.g f HDN.out.1).1 HDN.out.2 HWW.out.1) (by rw [HWW.out.2]; exact const_wid b) (by omega)
  rw [HWW.out.2] at hex
  refine hex.mono ?_
  rintro e W4 hr
  have HKR := Lib.hid hr.1
  obtain ⟨g, υ, rfl, hs4, ht4, hd4⟩ := hr.room (by have := HS3.out.ok.mo; omega)
  have HGB := Lib.hid (hd4.bit hs4.ok)
  have HS4 := Lib.hid hs4
  have HT4 := Lib.hid ht4
  have HD4 := Lib.hid hd4
  have HK4 := Lib.hid ((HK3.out.trans (HS3.out.kept HDX1.out)).trans HKR.out)
  clear hr hs4 ht4 hd4 hex HKR
  refine ⟨Sa, HISa.out _ HS4.out.sp.c0, fun _ h => h, ?_⟩
  have hne := HNESa.out
  refine mix_take [7, 8, 9, 10, 11] [_, _, _, _, _] rfl rfl ?_
  simp only [List.getElem_toArray, List.getElem_cons_zero, List.getElem_cons_succ]
  repeat (go_big_quiet_step (fail))
  refine wpQuiet_nil ?_
  refine mix_end ?_
  clear hne
  go_upto_region 10 with fail
  have c0 := HS4.out.sp.c0
  obtain ⟨Sb, hS⟩ : ∃ S' : World → Prop, S' = fun x => x.cell? ⟨S, 0, none⟩ = some (.pointer (some ⟨A.a, 0, none⟩)) := ⟨_, rfl⟩
  have hSI : ∀ x : World, x.cell? ⟨S, 0, none⟩ = some (.pointer (some ⟨A.a, 0, none⟩)) → Sb x := fun x h => by rw [hS]; exact h
  have hSP : ∀ x : World, Sb x → x.cell? ⟨S, 0, none⟩ = some (.pointer (some ⟨A.a, 0, none⟩)) := fun x h => by rw [hS] at h; exact h
  have hne : Nonempty (InW Sb) := ⟨⟨_, hSI _ c0⟩⟩
  have hdb : Below W4.heap.size W4 { W4 with drawn := W4.drawn + 1 } := ⟨rfl, rfl, rfl, Nat.le_refl _, fun _ _ => rfl⟩
  refine wp_region_mixS Sb [(0, false), (1, false), (2, false), (3, false), (4, false), (5, true), (6, true), (7, true), (8, false), (9, false), (10, false), (11, false)] (by kernel_rfl) (by kernel_rfl) (hSI _ ((hdb.cell (p := ⟨S, 0, none⟩) (World.block_lt_of_cell? _ _ c0)).trans c0)) ?_
  have L0 : ∀ p : InW Sb, p.w.cell? ⟨S, 0, none⟩ = some (.pointer (some ⟨A.a, 0, none⟩)) := fun p => hSP _ p.h
  have HISb := Lib.hid hSI
  clear hSI hSP hS
  generalize { W4 with drawn := W4.drawn + 1 } = Y0 at *
  refine mix_take [0, 1, 2, 3, 4] [_, _, _, _, _] rfl rfl ?_
  simp only [List.getElem_toArray, List.getElem_cons_zero, List.getElem_cons_succ]
  repeat (go_big_quiet_step (fail))
  refine wpQuiet_nil ?_
  have HDY0 := Lib.hid hdb
  have HNESb := Lib.hid hne
  clear L0 hdb c0 hne
  refine mix_barS rfl (by rfl) ?_
  simp only [List.getElem_toArray, List.getElem_cons_zero, List.getElem_cons_succ]
  go_simp
  refine (all_any Y0 thenF).mono ?_
  rintro e Y1 ⟨v1, rfl, ho1, hb1⟩
  obtain ⟨PY1, cY1, hv1, _⟩ := owns_form ho1
  subst hv1
  have HDY1 := Lib.hid (HDY0.out.trans (hb1.mono HDY0.out.size))
  have HRDY1 := Lib.hid (Rd.of_own ho1)
  have HBBY1 := Lib.hid hb1
  have HSY1 := Lib.hid (HS4.out.below HDY1.out)
  clear hb1 ho1
  refine ⟨Sb, HISb.out _ HSY1.out.sp.c0, fun _ h => h, ?_⟩
  refine mix_barS rfl (by rfl) ?_
  simp only [List.getElem_toArray, List.getElem_cons_zero, List.getElem_cons_succ]
  go_simp
  refine (all_any Y1 nowF).mono ?_
  rintro e Y2 ⟨v1, rfl, ho1, hb1⟩
  obtain ⟨PY2, cY2, hv1, _⟩ := owns_form ho1
  subst hv1
  have HDY2 := Lib.hid (HDY1.out.trans (hb1.mono HDY1.out.size))
  have HRDY2 := Lib.hid (Rd.of_own ho1)
  have HBBY2 := Lib.hid hb1
  have HSY2 := Lib.hid (HS4.out.below HDY2.out)
  clear hb1 ho1
  refine ⟨Sb, HISb.out _ HSY2.out.sp.c0, fun _ h => h, ?_⟩
  refine mix_barS rfl (by rfl) ?_
  simp only [List.getElem_toArray, List.getElem_cons_zero, List.getElem_cons_succ]
  go_simp
  have hren := HSY2.out.renLow (o := 1) (p := 0) (by omega) (by omega) HD4.out.1 (by have h := HGB.out; cases b <;> simp at h <;> omega) (.slice PY1 104 cY1) (.slice PY2 104 cY2) ((HRDY1.out.below HBBY2.out).mono HBBY2.out.size) HRDY2.out
  refine hren.mono ?_
  rintro e W5 hr
  have HKR := Lib.hid hr.1
  obtain ⟨q, φ, rfl, hs5, ht5, hd5⟩ := hr.room (by have := HS4.out.ok.mo; omega)
  have HS5 := Lib.hid hs5
  have HT5 := Lib.hid ht5
  have HK5 := Lib.hid ((HK4.out.trans (HS4.out.kept HDY2.out)).trans HKR.out)
  clear hr hs5 ht5 hd5 hren HKR
  refine ⟨Sb, HISb.out _ HS5.out.sp.c0, fun _ h => h, ?_⟩
  have hne := HNESb.out
  refine mix_take [8, 9, 10, 11] [_, _, _, _] rfl rfl ?_
  simp only [List.getElem_toArray, List.getElem_cons_zero, List.getElem_cons_succ]
  repeat (go_big_quiet_step (fail))
  refine wpQuiet_nil ?_
  refine mix_end ?_
  clear hne
  go_wp2
  go_ret2
  exact ⟨⟨q, rfl⟩, HK5.out, φ, HS5.out, ((To.know σ K).trans (HT3.out.trans (HT4.out.trans HT5.out))).mono (by omega) (by omega)⟩
theorem relPreimage_zero (h : SpOk w B S km A Mo σ) {r : Nat} {R : Fun} (hr : Den σ r R) (hl : σ.N.length + 1 * σ.N.length ≤ 2147483647) :
    Calls Tryz.prog 37 #[.pointer (some ⟨S, 0, none⟩), .int .i64 r, .int .i64 0] w (fun e w' => (∃ q : Nat, e = .returned (.tuple #[.int .i64 q, .int .i64 0])) ∧ KeptS A km w w' ∧ ∃ τ, SpOk w' B S km A Mo τ ∧ To (1 * σ.N.length) 0 σ τ) := by
  have hfl := hr.lt64 h.ok
  have HCK := Lib.hid (h.checkB 0 r (by unfold I64; omega) (by unfold I64; omega))
  have OK := Lib.hid (show AllNum σ [((0 : Nat) : Int)] [(r : Int)] from allOkB hr (Den.zero h.ok) (SetF.const false))
  have HR := Lib.hid hr
  have HSG := Lib.hid h.ok
  clear h hr
  go_enter Tryz.func37, Tryz.ntmps37
  go_upto_region 4 with ((with_reducible refine HCK.out.mono ?_); rintro e W2 hr; obtain ⟨he, K, hs2, hk2⟩ := hr.yes OK.out; subst he; have HS2 := Lib.hid hs2; have HK2 := Lib.hid hk2; clear hr hs2 hk2)
  clear HCK OK
  have c0 := HS2.out.sp.c0
  obtain ⟨Sa, hS⟩ : ∃ S' : World → Prop, S' = fun x => x.cell? ⟨S, 0, none⟩ = some (.pointer (some ⟨A.a, 0, none⟩)) := ⟨_, rfl⟩
  have hSI : ∀ x : World, x.cell? ⟨S, 0, none⟩ = some (.pointer (some ⟨A.a, 0, none⟩)) → Sa x := fun x h => by rw [hS]; exact h
  have hSP : ∀ x : World, Sa x → x.cell? ⟨S, 0, none⟩ = some (.pointer (some ⟨A.a, 0, none⟩)) := fun x h => by rw [hS] at h; exact h
  have hne : Nonempty (InW Sa) := ⟨⟨_, hSI _ c0⟩⟩
  have hdb : Below W2.heap.size W2 { W2 with drawn := W2.drawn + 1 } := ⟨rfl, rfl, rfl, Nat.le_refl _, fun _ _ => rfl⟩
  refine wp_region_mixS Sa [(0, false), (1, false), (2, false), (3, false), (4, false), (5, true), (6, true), (7, true), (8, false), (9, false), (10, false), (11, false), (12, false)] (by kernel_rfl) (by kernel_rfl) (hSI _ ((hdb.cell (p := ⟨S, 0, none⟩) (World.block_lt_of_cell? _ _ c0)).trans c0)) ?_
  have L0 : ∀ p : InW Sa, p.w.cell? ⟨S, 0, none⟩ = some (.pointer (some ⟨A.a, 0, none⟩)) := fun p => hSP _ p.h
  have HISa := Lib.hid hSI
  clear hSI hSP hS
  generalize { W2 with drawn := W2.drawn + 1 } = X0 at *
  refine mix_take [0, 1, 2, 3, 4] [_, _, _, _, _] rfl rfl ?_
  simp only [List.getElem_toArray, List.getElem_cons_zero, List.getElem_cons_succ]
  repeat (go_big_quiet_step (fail))
  refine wpQuiet_nil ?_
  have HDX0 := Lib.hid hdb
  have HNESa := Lib.hid hne
  clear L0 hdb c0 hne
  refine mix_barS rfl (by rfl) ?_
  simp only [List.getElem_toArray, List.getElem_cons_zero, List.getElem_cons_succ]
  go_simp
  refine (all_any X0 nowF).mono ?_
  rintro e X1 ⟨v1, rfl, ho1, hb1⟩
  obtain ⟨PX1, cX1, hv1, _⟩ := owns_form ho1
  subst hv1
  have HDX1 := Lib.hid (HDX0.out.trans (hb1.mono HDX0.out.size))
  have HRDX1 := Lib.hid (Rd.of_own ho1)
  have HBBX1 := Lib.hid hb1
  have HSX1 := Lib.hid (HS2.out.below HDX1.out)
  clear hb1 ho1
  refine ⟨Sa, HISa.out _ HSX1.out.sp.c0, fun _ h => h, ?_⟩
  refine mix_barS rfl (by rfl) ?_
  simp only [List.getElem_toArray, List.getElem_cons_zero, List.getElem_cons_succ]
  go_simp
  refine (all_any X1 thenF).mono ?_
  rintro e X2 ⟨v1, rfl, ho1, hb1⟩
  obtain ⟨PX2, cX2, hv1, _⟩ := owns_form ho1
  subst hv1
  have HDX2 := Lib.hid (HDX1.out.trans (hb1.mono HDX1.out.size))
  have HRDX2 := Lib.hid (Rd.of_own ho1)
  have HBBX2 := Lib.hid hb1
  have HSX2 := Lib.hid (HS2.out.below HDX2.out)
  clear hb1 ho1
  refine ⟨Sa, HISa.out _ HSX2.out.sp.c0, fun _ h => h, ?_⟩
  refine mix_barS rfl (by rfl) ?_
  simp only [List.getElem_toArray, List.getElem_cons_zero, List.getElem_cons_succ]
  go_simp
  have hren := HSX2.out.renLow (f := 0) (o := 0) (p := 1) (by omega) (by omega) HSX2.out.ok.g0 (by omega) (.slice PX1 104 cX1) (.slice PX2 104 cX2) ((HRDX1.out.below HBBX2.out).mono HBBX2.out.size) HRDX2.out
  refine (show Calls Tryz.prog 95 #[.pointer (some ⟨A.a, 0, none⟩), .int .i64 0, .slice PX1 104 cX1, .slice PX2 104 cX2] X2 (SpRes X2 B S km A Mo (σ.know K) (fun _ => 0 == 1) 0 0) from hren).mono ?_
  rintro e W3 hr
  have HKR := Lib.hid hr.1
  obtain ⟨g, τ, rfl, hs3, ht3, hd3⟩ := hr.room (by have := HS2.out.ok.mo; omega)
  have HS3 := Lib.hid hs3
  have HT3 := Lib.hid ht3
  have HDN := Lib.hid (show Den τ g (fun _ => false) from hd3)
  have HK3 := Lib.hid ((HK2.out.trans (HS2.out.kept HDX2.out)).trans HKR.out)
  have HR3 := Lib.hid (HR.out.to (To.know σ K |>.trans ht3) HSG.out hs3.ok)
  clear hr hs3 ht3 hd3 hren HKR
  refine ⟨Sa, HISa.out _ HS3.out.sp.c0, fun _ h => h, ?_⟩
  have hne := HNESa.out
  refine mix_take [8, 9, 10, 11, 12] [_, _, _, _, _] rfl rfl ?_
  simp only [List.getElem_toArray, List.getElem_cons_zero, List.getElem_cons_succ]
  repeat (go_big_quiet_step (fail))
  refine wpQuiet_nil ?_
  refine mix_end ?_
  clear hne
  have hgl := HDN.out.lt64 HS3.out.ok
  have hrl := HR3.out.lt64 HS3.out.ok
  have hn3 : τ.N.length ≤ σ.N.length + 0 := HT3.out.nl
  have c0 := HS3.out.sp.c0
  have hfun : (fun s => R s && (fun _ => false) s) = (fun _ => false : Fun) := funext fun s => Bool.and_false _
  have hand := HS3.out.and HR3.out HDN.out (a := 0) (b := 0) (by rw [hfun]; exact Grow.wid HS3.out.ok.wf.two (const_wid false)) (by have := HS3.out.ok.le; omega)
  rw [hfun] at hand
  have HO := Lib.hid hand
  clear hand hfun
  go_upto_region 10 with ((with_reducible refine HO.out.mono ?_); rintro e W4 hr; have HKR := Lib.hid hr.1; obtain ⟨f, υ, rfl, hs4, ht4, hd4⟩ := hr.room (by have := HS3.out.ok.mo; omega); have HS4 := Lib.hid hs4; have HT4 := Lib.hid ht4; have HD4 := Lib.hid hd4; have HK4 := Lib.hid (HK3.out.trans HKR.out); clear hr hs4 ht4 hd4 HKR)
  clear HO c0
  have hfl4 := HD4.out.lt64 HS4.out.ok
  have hn4 : υ.N.length ≤ τ.N.length + 0 := HT4.out.nl
  have c0 := HS4.out.sp.c0
  obtain ⟨Sb, hS⟩ : ∃ S' : World → Prop, S' = fun x => x.cell? ⟨S, 0, none⟩ = some (.pointer (some ⟨A.a, 0, none⟩)) := ⟨_, rfl⟩
  have hSI : ∀ x : World, x.cell? ⟨S, 0, none⟩ = some (.pointer (some ⟨A.a, 0, none⟩)) → Sb x := fun x h => by rw [hS]; exact h
  have hSP : ∀ x : World, Sb x → x.cell? ⟨S, 0, none⟩ = some (.pointer (some ⟨A.a, 0, none⟩)) := fun x h => by rw [hS] at h; exact h
  have hne : Nonempty (InW Sb) := ⟨⟨_, hSI _ c0⟩⟩
  have hdb : Below W4.heap.size W4 { W4 with drawn := W4.drawn + 1 } := ⟨rfl, rfl, rfl, Nat.le_refl _, fun _ _ => rfl⟩
  refine wp_region_mixS Sb [(0, false), (1, false), (2, false), (3, false), (4, false), (5, true), (6, true), (7, false), (8, false), (9, false), (10, false)] (by kernel_rfl) (by kernel_rfl) (hSI _ ((hdb.cell (p := ⟨S, 0, none⟩) (World.block_lt_of_cell? _ _ c0)).trans c0)) ?_
  have L0 : ∀ p : InW Sb, p.w.cell? ⟨S, 0, none⟩ = some (.pointer (some ⟨A.a, 0, none⟩)) := fun p => hSP _ p.h
  have HISb := Lib.hid hSI
  clear hSI hSP hS
  generalize { W4 with drawn := W4.drawn + 1 } = Y0 at *
  refine mix_take [0, 1, 2, 3, 4] [_, _, _, _, _] rfl rfl ?_
  simp only [List.getElem_toArray, List.getElem_cons_zero, List.getElem_cons_succ]
  repeat (go_big_quiet_step (fail))
  refine wpQuiet_nil ?_
  have HDY0 := Lib.hid hdb
  have HNESb := Lib.hid hne
  clear L0 hdb c0 hne
  refine mix_barS rfl (by rfl) ?_
  simp only [List.getElem_toArray, List.getElem_cons_zero, List.getElem_cons_succ]
  go_simp
  refine (all_any Y0 thenF).mono ?_
  rintro e Y1 ⟨v1, rfl, ho1, hb1⟩
  obtain ⟨PY1, cY1, hv1, _⟩ := owns_form ho1
  subst hv1
  have HDY1 := Lib.hid (HDY0.out.trans (hb1.mono HDY0.out.size))
  have HRDY1 := Lib.hid (Rd.of_own ho1)
  have HBBY1 := Lib.hid hb1
  have HSY1 := Lib.hid (HS4.out.below HDY1.out)
  clear hb1 ho1
  refine ⟨Sb, HISb.out _ HSY1.out.sp.c0, fun _ h => h, ?_⟩
  refine mix_barS rfl (by rfl) ?_
  simp only [List.getElem_toArray, List.getElem_cons_zero, List.getElem_cons_succ]
  go_simp
  have hex := HSY1.out.ex (o := 1) (c := 1) (m := 0) (by omega) HD4.out (.slice PY1 104 cY1) HRDY1.out (by omega) (exX_left HSY1.out.ok.wf (HSY1.out.ok.g f HD4.out.1).1 HD4.out.2 (fun v s => by rw [show exF 1 (fun t => (fun _ => false : Fun) (mixS v s t)) = fun _ => false from exF_const 1 false]; exact (const_wid false).mono (by omega))) (by rw [exF_const 1 false]; exact const_wid false) (by omega)
  refine hex.mono ?_
  rintro e W5 hr
  have HKR := Lib.hid hr.1
  obtain ⟨q, φ, rfl, hs5, ht5, hd5⟩ := hr.room (by have := HS4.out.ok.mo; omega)
  have HS5 := Lib.hid hs5
  have HT5 := Lib.hid ht5
  have HK5 := Lib.hid ((HK4.out.trans (HS4.out.kept HDY1.out)).trans HKR.out)
  clear hr hs5 ht5 hd5 hex HKR
  refine ⟨Sb, HISb.out _ HS5.out.sp.c0, fun _ h => h, ?_⟩
  have hne := HNESb.out
  refine mix_take [7, 8, 9, 10] [_, _, _, _] rfl rfl ?_
  simp only [List.getElem_toArray, List.getElem_cons_zero, List.getElem_cons_succ]
  repeat (go_big_quiet_step (fail))
  refine wpQuiet_nil ?_
  refine mix_end ?_
  clear hne
  go_wp2
  go_ret2
  exact ⟨⟨q, rfl⟩, HK5.out, φ, HS5.out, ((To.know σ K).trans (HT3.out.trans (HT4.out.trans HT5.out))).mono (by omega) (by omega)⟩
end
end Go.Proofs.YtbahehmfhjkgeaaGreat

/-
  RelRefuses: what is no field, no prefix, no value is refused; the document's Most.
-/
namespace Go.Proofs.YtbahehmfhjkgeaaGreat
open Go Go.RowKit Go.ChangeMaps Go.MapKept Go.Maps Go.Lib Go.Sort

section
set_option maxRecDepth 100000
set_option maxHeartbeats 2000000
theorem prefix_arg (w : World) (S : Nat) (f a n : Int) (h0 : f ≠ 0) (h1 : f ≠ 1) : Calls Tryz.prog 38 #[.pointer (some ⟨S, 0, none⟩), .int .i64 f, .agg #[.int .u32 a, .int .i64 n]] w fun e w' => e = .returned (.tuple #[.int .i64 0, .int .i64 1]) ∧ Below w.heap.size w w' := by
  have HB := Lib.hid (below1 w (.cells #[.int .u32 a, .int .i64 n] 39))
  have e0 : (f != 0) = true := by simpa using h0
  have e1 : (f != 1) = true := by simpa using h1
  go_enter Tryz.func38, Tryz.ntmps38
  go_wp2
  go_ret2
  exact ⟨rfl, HB.out⟩
theorem prefix_bad (w : World) (S : Nat) (f : Nat) (a n : Int) (hf : f < 2) (ha0 : 0 ≤ a) (ha : a < 4294967296) (hc : chk a n ≠ 0) : Calls Tryz.prog 38 #[.pointer (some ⟨S, 0, none⟩), .int .i64 f, .agg #[.int .u32 a, .int .i64 n]] w fun e w' => e = .returned (.tuple #[.int .i64 0, .int .i64 (chk a n)]) ∧ Below w.heap.size w w' := by
  have HCK := Lib.hid (fun W => addrCheck_any a n W (by omega) (by omega))
  obtain ⟨c, hce⟩ : ∃ c, chk a n = c := ⟨_, rfl⟩
  rw [hce] at HCK hc ⊢
  clear hce
  have hb := below1 w (.cells #[.int .u32 a, .int .i64 n] 39)
  have hk := blk1 w (.cells #[.int .u32 a, .int .i64 n] 39)
  obtain ⟨b0, b1, _, _⟩ := two_cells hk
  have HB := Lib.hid hb
  have hcn : (c == 0) = false := by simpa using hc
  clear hk hb
  obtain rfl | rfl : f = 0 ∨ f = 1 := by omega
  · go_enter Tryz.func38, Tryz.ntmps38
    go_wp2_with ((with_reducible refine (HCK.out _).mono ?_); rintro e W2 ⟨rfl, hb2⟩; have HB2 := Lib.hid (HB.out.trans (hb2.mono HB.out.size)); clear hb2)
    go_ret2
    exact ⟨rfl, HB2.out⟩
  · go_enter Tryz.func38, Tryz.ntmps38
    go_wp2_with ((with_reducible refine (HCK.out _).mono ?_); rintro e W2 ⟨rfl, hb2⟩; have HB2 := Lib.hid (HB.out.trans (hb2.mono HB.out.size)); clear hb2)
    go_ret2
    exact ⟨rfl, HB2.out⟩
theorem numbers_arg (w : World) (S : Nat) (f : Int) (v : Value) (hf : f < 0 ∨ 4 < f) : Calls Tryz.prog 39 #[.pointer (some ⟨S, 0, none⟩), .int .i64 f, v] w fun e w' => e = .returned (.tuple #[.int .i64 0, .int .i64 1]) ∧ Below w.heap.size w w' := by
  rcases hf with h | h
  · go_enter Tryz.func39, Tryz.ntmps39
    go_wp2
    go_ret2
    exact ⟨rfl, Below.refl _ _⟩
  · have h1 : ¬ f < 0 := by omega
    go_enter Tryz.func39, Tryz.ntmps39
    go_wp2
    go_ret2
    exact ⟨rfl, Below.refl _ _⟩
theorem put_arg (w : World) (S : Nat) (f v : Int) (hf : f < 0 ∨ 4 < f) : Calls Tryz.prog 40 #[.pointer (some ⟨S, 0, none⟩), .int .i64 f, .int .u32 v] w fun e w' => e = .returned (.tuple #[.int .i64 0, .int .i64 1]) ∧ Below w.heap.size w w' := by
  rcases hf with h | h
  · go_enter Tryz.func40, Tryz.ntmps40
    go_wp2
    go_ret2
    exact ⟨rfl, Below.refl _ _⟩
  · have h1 : ¬ f < 0 := by omega
    go_enter Tryz.func40, Tryz.ntmps40
    go_wp2
    go_ret2
    exact ⟨rfl, Below.refl _ _⟩
theorem put2_over (w : World) (S : Nat) (v : Nat) (hv : 255 < v) (hv2 : (v : Int) ≤ 4294967295) : Calls Tryz.prog 40 #[.pointer (some ⟨S, 0, none⟩), .int .i64 2, .int .u32 v] w fun e w' => e = .returned (.tuple #[.int .i64 0, .int .i64 1]) ∧ Below w.heap.size w w' := by
  have p0 : ∀ W : World, (W.alloc partsObj).cell? ⟨W.heap.size, 4, none⟩ = some (.int .i64 64) := fun W => (parts_at W 2 (by omega)).1
  have p1 : ∀ W : World, (W.alloc partsObj).cell? ⟨W.heap.size, 5, none⟩ = some (.int .i64 8) := fun W => (parts_at W 2 (by omega)).2
  have hv1 : (v : Int) > 255 := by omega
  go_enter Tryz.func40, Tryz.ntmps40
  go_wp2_with (go_at_call 98; (with_reducible refine (parts_any _).mono ?_); rintro e _ ⟨rfl, rfl⟩)
  go_ret2
  exact ⟨rfl, below1 w partsObj⟩
theorem put3_over (w : World) (S : Nat) (v : Nat) (hv : 65535 < v) (hv2 : (v : Int) ≤ 4294967295) : Calls Tryz.prog 40 #[.pointer (some ⟨S, 0, none⟩), .int .i64 3, .int .u32 v] w fun e w' => e = .returned (.tuple #[.int .i64 0, .int .i64 1]) ∧ Below w.heap.size w w' := by
  have p0 : ∀ W : World, (W.alloc partsObj).cell? ⟨W.heap.size, 6, none⟩ = some (.int .i64 72) := fun W => (parts_at W 3 (by omega)).1
  have p1 : ∀ W : World, (W.alloc partsObj).cell? ⟨W.heap.size, 7, none⟩ = some (.int .i64 16) := fun W => (parts_at W 3 (by omega)).2
  have hv1 : (v : Int) > 65535 := by omega
  go_enter Tryz.func40, Tryz.ntmps40
  go_wp2_with (go_at_call 98; (with_reducible refine (parts_any _).mono ?_); rintro e _ ⟨rfl, rfl⟩)
  go_ret2
  exact ⟨rfl, below1 w partsObj⟩
theorem put4_over (w : World) (S : Nat) (v : Nat) (hv : 65535 < v) (hv2 : (v : Int) ≤ 4294967295) : Calls Tryz.prog 40 #[.pointer (some ⟨S, 0, none⟩), .int .i64 4, .int .u32 v] w fun e w' => e = .returned (.tuple #[.int .i64 0, .int .i64 1]) ∧ Below w.heap.size w w' := by
  have p0 : ∀ W : World, (W.alloc partsObj).cell? ⟨W.heap.size, 8, none⟩ = some (.int .i64 88) := fun W => (parts_at W 4 (by omega)).1
  have p1 : ∀ W : World, (W.alloc partsObj).cell? ⟨W.heap.size, 9, none⟩ = some (.int .i64 16) := fun W => (parts_at W 4 (by omega)).2
  have hv1 : (v : Int) > 65535 := by omega
  go_enter Tryz.func40, Tryz.ntmps40
  go_wp2_with (go_at_call 98; (with_reducible refine (parts_any _).mono ?_); rintro e _ ⟨rfl, rfl⟩)
  go_ret2
  exact ⟨rfl, below1 w partsObj⟩
theorem refMost0 (w : World) : Calls Tryz.prog 42 #[.int .i64 0] w fun e w' => e = .returned (.int .u32 4294967295) ∧ Below w.heap.size w w' := by
  go_enter Tryz.func42, Tryz.ntmps42
  go_wp2
  go_ret
  exact ⟨rfl, Below.refl _ _⟩
theorem refMost1 (w : World) : Calls Tryz.prog 42 #[.int .i64 1] w fun e w' => e = .returned (.int .u32 4294967295) ∧ Below w.heap.size w w' := by
  go_enter Tryz.func42, Tryz.ntmps42
  go_wp2
  go_ret
  exact ⟨rfl, Below.refl _ _⟩
theorem refMost2 (w : World) : Calls Tryz.prog 42 #[.int .i64 2] w fun e w' => e = .returned (.int .u32 255) ∧ Below w.heap.size w w' := by
  go_enter Tryz.func42, Tryz.ntmps42
  go_wp2
  go_ret
  exact ⟨rfl, Below.refl _ _⟩
theorem refMost3 (w : World) : Calls Tryz.prog 42 #[.int .i64 3] w fun e w' => e = .returned (.int .u32 65535) ∧ Below w.heap.size w w' := by
  go_enter Tryz.func42, Tryz.ntmps42
  go_wp2
  go_ret
  exact ⟨rfl, Below.refl _ _⟩
theorem refMost4 (w : World) : Calls Tryz.prog 42 #[.int .i64 4] w fun e w' => e = .returned (.int .u32 65535) ∧ Below w.heap.size w w' := by
  go_enter Tryz.func42, Tryz.ntmps42
  go_wp2
  go_ret
  exact ⟨rfl, Below.refl _ _⟩
theorem rrV2_any (w : World) (v : Int) (h0 : 0 ≤ v) (h1 : v ≤ 4294967295) : Calls Tryz.prog 30 #[.int .u32 v] w fun e w' => ∃ x : Int, e = .returned (.int .i64 x) ∧ 0 ≤ x ∧ x < 1048576 ∧ Below w.heap.size w w' := by
  go_enter Tryz.func30, Tryz.ntmps30
  go_wp2
  go_ret
  refine ⟨_, rfl, ?_, ?_, Below.refl _ _⟩
  · omega
  · omega
section
variable {w : World} {B S km : Nat} {A : Blks} {Mo : Nat} {σ : Sg}
theorem relImage_no (h : SpOk w B S km A Mo σ) (x y : Int) (hx : I64 x) (hy : I64 y) (ok : ¬ AllNum σ [y] [x]) :
    Calls Tryz.prog 36 #[.pointer (some ⟨S, 0, none⟩), .int .i64 x, .int .i64 y] w (SpNo w B S km A Mo σ) := by
  have HCK := Lib.hid (h.checkB y x hy hx)
  clear h
  go_enter Tryz.func36, Tryz.ntmps36
  go_wp2_with ((with_reducible refine HCK.out.mono ?_); rintro e W2 hr; obtain ⟨he, hs2⟩ := hr.no ok; subst he; have HS2 := Lib.hid hs2; clear hr hs2)
  go_ret2
  exact ⟨rfl, HS2.out⟩
theorem relPreimage_no (h : SpOk w B S km A Mo σ) (x y : Int) (hx : I64 x) (hy : I64 y) (ok : ¬ AllNum σ [y] [x]) :
    Calls Tryz.prog 37 #[.pointer (some ⟨S, 0, none⟩), .int .i64 x, .int .i64 y] w (SpNo w B S km A Mo σ) := by
  have HCK := Lib.hid (h.checkB y x hy hx)
  clear h
  go_enter Tryz.func37, Tryz.ntmps37
  go_wp2_with ((with_reducible refine HCK.out.mono ?_); rintro e W2 hr; obtain ⟨he, hs2⟩ := hr.no ok; subst he; have HS2 := Lib.hid hs2; clear hr hs2)
  go_ret2
  exact ⟨rfl, HS2.out⟩
end
end
end Go.Proofs.YtbahehmfhjkgeaaGreat

/-
  A space's Least of the empty set, and of what is no set.
-/
namespace Go.Proofs.YtbahehmfhjkgeaaGreat
open Go Go.RowKit Go.ChangeMaps Go.MapKept Go.Maps Go.Lib Go.Sort

section
set_option maxRecDepth 100000
set_option maxHeartbeats 8000000
variable {B : Nat} {A : Blks} {V Mo : Nat} {N : List Nd} {H G : List Nat}
theorem Least_none {w : World} (hA : ArAt w B A V Mo N H G) (hf : 0 ∈ G ∧ 0 < N.length) (n : Nat) (hn : n ≤ 1000) (v : Value) (h : Rd w w.heap.size 1 v (varsL 0 n).length (icells (varsL 0 n))) (hV : 2 * n ≤ V) :
    Calls Tryz.prog 85 #[A.val, .int .i64 0, v] w fun e w' => e = .returned (.tuple #[.slice none 0 0, .int .i64 5]) ∧ Below w.heap.size w w' := by
  have hwf : WF N := by obtain ⟨_, h⟩ := hA; exact h.wf
  have hle : N.length ≤ 2147483647 := by obtain ⟨_, h⟩ := hA; exact h.le
  have hll := varsL_len 0 n
  have hb1 := below1 w (.cells ([0].map fun (n : Nat) => Value.int .i64 (n : Int)).toArray 3)
  have hck := check_any (hA.below hb1) [0] w.heap.size 1 (new_cells w [0] 3) (by
    intro x hx
    simp at hx
    subst hx
    exact ⟨hf.1, by omega⟩) (by simp)
  have hck : Calls Tryz.prog 166 #[A.val, .slice (some ⟨w.heap.size, 0, none⟩) 1 1] (w.alloc (.cells #[.int .i64 0] 3)) fun e w' => e = .returned (.int .i64 0) ∧ Below (w.alloc (.cells #[.int .i64 0] 3)).heap.size (w.alloc (.cells #[.int .i64 0] 3)) w' := hck
  have hri := fun (W : World) (hb : Below w.heap.size w W) => rises_any (hA.below hb) 0 hf (varsL 0 n) (fun i hi hr => absurd (hr.low (by omega)) (by omega)) v ((h.below hb).mono hb.size) (fun x hx => by have := varsL_in n x hx; omega) (varsL_rise 0 n) (by omega)
  rw [hll] at h
  obtain ⟨PL, c, rfl, hc⟩ := h.form
  have HB1 := Lib.hid hb1
  have HCK := Lib.hid hck
  have HRI := Lib.hid hri
  have HA := Lib.hid hA
  have HWF := Lib.hid hwf
  have HR := Lib.hid h
  clear hA hb1 hck hri hf hwf h
  unfold Blks.val at *
  go_enter Tryz.func85, Tryz.ntmps85
  go_upto_region 4 with ((with_reducible refine HCK.out.mono ?_); rintro e w2 ⟨rfl, hb2⟩; have HB2 := Lib.hid (HB1.out.trans (hb2.mono HB1.out.size)); clear hb2)
  have HRI2 := Lib.hid (show Calls Tryz.prog 167 #[.pointer (some ⟨A.a, 0, none⟩), .int .i64 0, .slice PL n c] w2 (fun e w' => e = .returned (.bool true) ∧ Below w2.heap.size w2 w') from HRI.out _ HB2.out)
  go_wp2_with ((with_reducible refine HRI2.out.mono ?_); rintro e w3 ⟨rfl, hb3⟩; have HB3 := Lib.hid (HB2.out.trans (hb3.mono HB2.out.size)); clear hb3)
  go_ret2
  exact ⟨rfl, HB3.out⟩
end
section
set_option maxRecDepth 100000
set_option maxHeartbeats 8000000
variable {w : World} {B S km : Nat} {A : Blks} {Mo : Nat} {σ : Sg}
theorem relLeast_zero (h : SpOk w B S km A Mo σ) :
    Calls Tryz.prog 25 #[.pointer (some ⟨S, 0, none⟩), .int .i64 0] w (SpSame w B S km A Mo σ (.tuple #[(⟨0, 0, 0, 0, 0⟩ : Hd).val5, .int .i64 5])) := by
  have HD0 := Lib.hid (show 0 ∈ σ.G ∧ 0 < σ.N.length from ⟨h.ok.g0, by have := h.ok.wf.two; omega⟩)
  have hb := below1 w (.cells #[.int .u32 0, .int .u32 0, .int .u8 0, .int .u16 0, .int .u16 0] 82)
  have hk := blk1 w (.cells #[.int .u32 0, .int .u32 0, .int .u8 0, .int .u16 0, .int .u16 0] 82)
  have h1 := h.below hb
  have HK0 := Lib.hid (h.kept hb)
  have HF := Lib.hid (h.sp.ar.foreign_new hb (Nat.le_refl _) (lt_of_block hk))
  have HN : Hid (w.heap.size ≠ km ∧ w.heap.size ≠ S) := Lib.hid ⟨by have := h.sp.fk.1; omega, by have := lt_of_block h.sp.cells; omega⟩
  have HB := Lib.hid hk
  have HCK := Lib.hid (h1.check1 0 (by unfold I64; omega))
  have OK : Hid (AllNum σ [0] []) := Lib.hid (show AllNum σ [((0 : Nat) : Int)] [] from allOk1 (Den.zero h.ok) (SetF.const false))
  clear hb hk h1 h
  go_enter Tryz.func25, Tryz.ntmps25
  go_upto_region 1 with fail
  generalize w.alloc (.cells #[.int .u32 0, .int .u32 0, .int .u8 0, .int .u16 0, .int .u16 0] 82) = w1 at *
  go_upto_region 2 with ((with_reducible refine HCK.out.mono ?_); rintro e W2 hr; obtain ⟨he, K, hs2, hk2⟩ := hr.yes OK.out; subst he; have HS2 := Lib.hid hs2; have HK2 := Lib.hid (HK0.out.trans hk2); have HX2 := Lib.hid (hk2.same _ HF.out HN.out.1); clear hr hs2 hk2)
  clear HCK OK
  go_upto_region 4 with fail
  have c0 := HS2.out.sp.c0
  have kr := HX2.out.1.trans HB.out
  obtain ⟨S', hS⟩ : ∃ S' : World → Prop, S' = fun x => x.cell? ⟨S, 0, none⟩ = some (.pointer (some ⟨A.a, 0, none⟩)) := ⟨_, rfl⟩
  have hSI : ∀ x : World, x.cell? ⟨S, 0, none⟩ = some (.pointer (some ⟨A.a, 0, none⟩)) → S' x := fun x h => by rw [hS]; exact h
  have hSP : ∀ x : World, S' x → x.cell? ⟨S, 0, none⟩ = some (.pointer (some ⟨A.a, 0, none⟩)) := fun x h => by rw [hS] at h; exact h
  have hne : Nonempty (InW S') := ⟨⟨_, hSI _ c0⟩⟩
  have hdb : Below W2.heap.size W2 { W2 with drawn := W2.drawn + 1 } := ⟨rfl, rfl, rfl, Nat.le_refl _, fun _ _ => rfl⟩
  refine wp_region_mixS S' [(0, false), (1, false), (2, false), (3, false), (4, false), (5, true), (6, true), (7, false), (8, false), (9, false), (10, false), (11, false)] (by kernel_rfl) (by kernel_rfl) (hSI _ ((hdb.cell (p := ⟨S, 0, none⟩) (World.block_lt_of_cell? _ _ c0)).trans c0)) ?_
  have L0 : ∀ p : InW S', p.w.cell? ⟨S, 0, none⟩ = some (.pointer (some ⟨A.a, 0, none⟩)) := fun p => hSP _ p.h
  have HSI := Lib.hid hSI
  clear hSI hSP hS
  generalize { W2 with drawn := W2.drawn + 1 } = V0 at *
  refine mix_take [0, 1, 2, 3, 4] [_, _, _, _, _] rfl rfl ?_
  simp only [List.getElem_toArray, List.getElem_cons_zero, List.getElem_cons_succ]
  repeat (go_big_quiet_step (fail))
  refine wpQuiet_nil ?_
  have HDB := Lib.hid hdb
  have KR := Lib.hid kr
  have HNE := Lib.hid hne
  clear L0 hdb c0 kr hne
  refine mix_barS rfl (by rfl) ?_
  simp only [List.getElem_toArray, List.getElem_cons_zero, List.getElem_cons_succ]
  go_simp
  refine (all_any V0 nowF).mono ?_
  rintro e V1 ⟨v1, rfl, ho1, hb1⟩
  obtain ⟨P1, c1, hv1, _⟩ := owns_form ho1
  subst hv1
  have HD1 := Lib.hid (HDB.out.trans (hb1.mono HDB.out.size))
  have HS1 := Lib.hid (HS2.out.below HD1.out)
  have hrd := Rd.of_own ho1
  have hc1 := Least_none HS1.out.sp.ar HD0.out 104 (by omega) (.slice P1 104 c1) (by rw [varsL_len]; exact hrd) (by omega)
  unfold Blks.val at hc1
  have HC := Lib.hid hc1
  clear hb1 ho1 hrd hc1
  refine ⟨S', HSI.out _ HS1.out.sp.c0, fun _ h => h, ?_⟩
  refine mix_barS rfl (by rfl) ?_
  simp only [List.getElem_toArray, List.getElem_cons_zero, List.getElem_cons_succ]
  go_simp
  refine HC.out.mono ?_
  rintro e V2 ⟨rfl, hb2⟩
  have HD2 := Lib.hid (HD1.out.trans (hb2.mono HD1.out.size))
  have HS3 := Lib.hid (HS2.out.below HD2.out)
  clear hb2 HC
  refine ⟨S', HSI.out _ HS3.out.sp.c0, fun _ h => h, ?_⟩
  have hne := HNE.out
  refine mix_take [7, 8, 9, 10, 11] [_, _, _, _, _] rfl rfl ?_
  simp only [List.getElem_toArray, List.getElem_cons_zero, List.getElem_cons_succ]
  repeat (go_big_quiet_step (fail))
  refine wpQuiet_nil ?_
  refine mix_end ?_
  clear hne
  have hg8 : W2.grownBy V2 none := only_of_below HD2.out _
  obtain ⟨s8, f8, n8⟩ := HS2.out.others hg8 (fun g hg => by cases hg)
  have HS9 := Lib.hid s8
  have HF9 := Lib.hid (f8 _ HX2.out.2)
  have HK9 := Lib.hid (HK2.out.others hg8 (fun g hg => by cases hg) f8)
  have hr9 : V2.heap[w.heap.size]? = some (Hd.cells ⟨0, 0, 0, 0, 0⟩) := blk_below HD2.out KR.out
  clear hg8 s8 f8 n8
  obtain ⟨q0, q1, q2, q3, q4⟩ := hd_cell hr9
  have g0 := hd_frozen hr9 0
  have g1 := hd_frozen hr9 1
  have g2 := hd_frozen hr9 2
  have g3 := hd_frozen hr9 3
  have g4 := hd_frozen hr9 4
  have G0 := World.grownBy.refl V2 (some w.heap.size)
  have G1 : V2.grownBy (V2.setCell ⟨w.heap.size, 0, none⟩ (.int .u32 0)) (some w.heap.size) := only_setCell G0 (.inl rfl) _
  have G2 : V2.grownBy ((V2.setCell ⟨w.heap.size, 0, none⟩ (.int .u32 0)).setCell ⟨w.heap.size, 1, none⟩ (.int .u32 0)) (some w.heap.size) := only_setCell G1 (.inl rfl) _
  have G3 : V2.grownBy (((V2.setCell ⟨w.heap.size, 0, none⟩ (.int .u32 0)).setCell ⟨w.heap.size, 1, none⟩ (.int .u32 0)).setCell ⟨w.heap.size, 2, none⟩ (.int .u8 0)) (some w.heap.size) := only_setCell G2 (.inl rfl) _
  have G4 : V2.grownBy ((((V2.setCell ⟨w.heap.size, 0, none⟩ (.int .u32 0)).setCell ⟨w.heap.size, 1, none⟩ (.int .u32 0)).setCell ⟨w.heap.size, 2, none⟩ (.int .u8 0)).setCell ⟨w.heap.size, 3, none⟩ (.int .u16 0)) (some w.heap.size) := only_setCell G3 (.inl rfl) _
  have G5 : V2.grownBy (((((V2.setCell ⟨w.heap.size, 0, none⟩ (.int .u32 0)).setCell ⟨w.heap.size, 1, none⟩ (.int .u32 0)).setCell ⟨w.heap.size, 2, none⟩ (.int .u8 0)).setCell ⟨w.heap.size, 3, none⟩ (.int .u16 0)).setCell ⟨w.heap.size, 4, none⟩ (.int .u16 0)) (some w.heap.size) := only_setCell G4 (.inl rfl) _
  obtain ⟨s10, f10, _⟩ := HS9.out.others G5 (fun g hg => by injection hg with hg; subst hg; exact ⟨HF9.out, HN.out⟩)
  have HY := Lib.hid (hd_set4 (hd_set3 (hd_set2 (hd_set1 (hd_set0 hr9 0) 0) 0) 0) 0)
  have HFIN := Lib.hid (And.intro s10 (HK9.out.others G5 (fun g hg => by injection hg with hg; omega) f10))
  clear G0 G1 G2 G3 G4 G5 s10 f10 hr9
  go_wp2
  exact bodyPost_ret (results_hd2 (t1 := 4) (t3 := 5) (g := w.heap.size) Tryz.results25 rfl rfl HY.out) rfl ⟨rfl, _, HFIN.out⟩
theorem relLeast_no (h : SpOk w B S km A Mo σ) (x : Int) (hx : I64 x) (ok : ¬ AllNum σ [x] []) :
    Calls Tryz.prog 25 #[.pointer (some ⟨S, 0, none⟩), .int .i64 x] w (SpSame w B S km A Mo σ (.tuple #[(⟨0, 0, 0, 0, 0⟩ : Hd).val5, .int .i64 1])) := by
  have hb := below1 w (.cells #[.int .u32 0, .int .u32 0, .int .u8 0, .int .u16 0, .int .u16 0] 82)
  have hk := blk1 w (.cells #[.int .u32 0, .int .u32 0, .int .u8 0, .int .u16 0, .int .u16 0] 82)
  have h1 := h.below hb
  have HK0 := Lib.hid (h.kept hb)
  have HF := Lib.hid (h.sp.ar.foreign_new hb (Nat.le_refl _) (lt_of_block hk))
  have HN : Hid (w.heap.size ≠ km ∧ w.heap.size ≠ S) := Lib.hid ⟨by have := h.sp.fk.1; omega, by have := lt_of_block h.sp.cells; omega⟩
  have HB := Lib.hid hk
  have HCK := Lib.hid (h1.check1 x hx)
  clear hb hk h1 h
  go_enter Tryz.func25, Tryz.ntmps25
  go_upto_region 1 with fail
  generalize w.alloc (.cells #[.int .u32 0, .int .u32 0, .int .u8 0, .int .u16 0, .int .u16 0] 82) = w1 at *
  go_upto_region 2 with ((with_reducible refine HCK.out.mono ?_); rintro e W2 hr; obtain ⟨he, K, hs2, hk2⟩ := hr.no ok; subst he; have HS2 := Lib.hid hs2; have HK2 := Lib.hid (HK0.out.trans hk2); have HX2 := Lib.hid (hk2.same _ HF.out HN.out.1); clear hr hs2 hk2)
  clear HCK
  have hr9 : W2.heap[w.heap.size]? = some (Hd.cells ⟨0, 0, 0, 0, 0⟩) := HX2.out.1.trans HB.out
  have HF9 := Lib.hid HX2.out.2
  have HS9 := HS2
  have HK9 := HK2
  obtain ⟨q0, q1, q2, q3, q4⟩ := hd_cell hr9
  have g0 := hd_frozen hr9 0
  have g1 := hd_frozen hr9 1
  have g2 := hd_frozen hr9 2
  have g3 := hd_frozen hr9 3
  have g4 := hd_frozen hr9 4
  have G0 := World.grownBy.refl W2 (some w.heap.size)
  have G1 : W2.grownBy (W2.setCell ⟨w.heap.size, 0, none⟩ (.int .u32 0)) (some w.heap.size) := only_setCell G0 (.inl rfl) _
  have G2 : W2.grownBy ((W2.setCell ⟨w.heap.size, 0, none⟩ (.int .u32 0)).setCell ⟨w.heap.size, 1, none⟩ (.int .u32 0)) (some w.heap.size) := only_setCell G1 (.inl rfl) _
  have G3 : W2.grownBy (((W2.setCell ⟨w.heap.size, 0, none⟩ (.int .u32 0)).setCell ⟨w.heap.size, 1, none⟩ (.int .u32 0)).setCell ⟨w.heap.size, 2, none⟩ (.int .u8 0)) (some w.heap.size) := only_setCell G2 (.inl rfl) _
  have G4 : W2.grownBy ((((W2.setCell ⟨w.heap.size, 0, none⟩ (.int .u32 0)).setCell ⟨w.heap.size, 1, none⟩ (.int .u32 0)).setCell ⟨w.heap.size, 2, none⟩ (.int .u8 0)).setCell ⟨w.heap.size, 3, none⟩ (.int .u16 0)) (some w.heap.size) := only_setCell G3 (.inl rfl) _
  have G5 : W2.grownBy (((((W2.setCell ⟨w.heap.size, 0, none⟩ (.int .u32 0)).setCell ⟨w.heap.size, 1, none⟩ (.int .u32 0)).setCell ⟨w.heap.size, 2, none⟩ (.int .u8 0)).setCell ⟨w.heap.size, 3, none⟩ (.int .u16 0)).setCell ⟨w.heap.size, 4, none⟩ (.int .u16 0)) (some w.heap.size) := only_setCell G4 (.inl rfl) _
  obtain ⟨s10, f10, _⟩ := HS9.out.others G5 (fun g hg => by injection hg with hg; subst hg; exact ⟨HF9.out, HN.out⟩)
  have HY := Lib.hid (hd_set4 (hd_set3 (hd_set2 (hd_set1 (hd_set0 hr9 0) 0) 0) 0) 0)
  have HFIN := Lib.hid (And.intro s10 (HK9.out.others G5 (fun g hg => by injection hg with hg; omega) f10))
  clear G0 G1 G2 G3 G4 G5 s10 f10 hr9
  go_wp2
  exact bodyPost_ret (results_hd2 (t1 := 4) (t3 := 5) (g := w.heap.size) Tryz.results25 rfl rfl HY.out) rfl ⟨rfl, _, HFIN.out⟩
end
end Go.Proofs.YtbahehmfhjkgeaaGreat

/-
  The walk of layer 6's awake: a protocol's headers are counted.
-/
namespace Go.Proofs.YtbahehmfhjkgeaaGreat
open Go Go.RowKit Go.ChangeMaps Go.MapKept Go.Maps Go.Lib Go.Sort

def sp6 : SpanV := ⟨6, 6, by omega, by omega⟩
theorem sp6F : numsF 64 8 255 [sp6] = pro6 := by
  rw [numsF_one]
  exact pro6_is
section
set_option maxRecDepth 100000
set_option maxHeartbeats 4000000
theorem rrAwake_any (w : World) : Calls Tryz.prog 43 #[] w fun e w' => e = .returned (.bool true) ∧ Below w.heap.size w w' := by
  have HNEW := Lib.hid (show Calls Tryz.prog 8 #[.int .i64 4194304] w (fun e w' => ∃ (S km : Nat) (A : Blks), e = .returned (.tuple #[.pointer (some ⟨S, 0, none⟩), .int .i64 0]) ∧ SpAt w' w.heap.size S km A 4194304 N0 [] [0, 1] [] ∧ Below w.heap.size w w' ∧ w.heap.size ≤ S ∧ w.heap.size ≤ km) from relNew_any w 4194304 (by omega))
  go_enter Tryz.func43, Tryz.ntmps43
  go_upto_region 4 with ((with_reducible refine HNEW.out.mono ?_); rintro e w1 ⟨S, km, A, rfl, hs1, hb1, hS1, hkm1⟩; have HS1 := Lib.hid hs1.newOk; have HB1 := Lib.hid hb1; have HLO := Lib.hid (And.intro hS1 hkm1); clear hs1 hb1 hS1 hkm1)
  clear HNEW
  have hb2 := below1 w1 (.cells #[.int .u32 6, .int .u32 6] 41)
  have k2 := blk1 w1 (.cells #[.int .u32 6, .int .u32 6] 41)
  have HS2 := Lib.hid (HS1.out.below hb2)
  have HK2 := Lib.hid (HS1.out.kept hb2)
  have h2 : newSg.N.length = 2 := rfl
  have hrd : Rd (w1.alloc (.cells #[.int .u32 6, .int .u32 6] 41)) (w1.alloc (.cells #[.int .u32 6, .int .u32 6] 41)).heap.size 2 (.slice (some ⟨w1.heap.size, 0, none⟩) [sp6].length 1) [sp6].length (scells [sp6]) := Rd.of_blk (blk1 w1 (.cells #[.int .u32 6, .int .u32 6] 41)) (Nat.le_refl _) rfl
  have hnu := numbers2_yes HS2.out [sp6] (.slice (some ⟨w1.heap.size, 0, none⟩) 1 1) hrd (by simp) [sp6] [] (by rw [List.append_nil]; exact formOf_one _ (by decide)) (fun x hx => by rw [List.mem_singleton.1 hx]; decide) (.inl rfl) 576 (fun k _ => numsF_wid 64 8 255 sp6 (by omega) (by omega) k) (by rw [h2]; simp)
  rw [sp6F] at hnu
  have HNU := Lib.hid hnu
  clear hb2 k2 hrd hnu
  go_upto_region 7 with ((with_reducible refine HNU.out.mono ?_); rintro e w3 hr; have HK3 := Lib.hid (HK2.out.trans hr.1); obtain ⟨a, τ, rfl, hs3, ht3, hd3⟩ := hr.room (by simp [newSg]); have HS3 := Lib.hid hs3; have HD3 := Lib.hid hd3; clear hr hs3 ht3 hd3)
  have HS1B := HS1
  have HSZ : Hid (w.heap.size ≤ w1.heap.size) := Lib.hid HB1.out.size
  clear HNU HS2 HK2 HS1
  have hset : SetF pro6 := by rw [← pro6_is]; exact spanF_set 64 8 6 6
  have ha0 : a ≠ 0 := fun e => by
    subst e
    have := HD3.out.2 (nowS hd6)
    rw [hd6_in, ev_zero] at this
    cases this
  have hco := relCount_any HS3.out HD3.out hset
  rw [pro6_num] at hco
  have HCO := Lib.hid (show Calls Tryz.prog 24 #[.pointer (some ⟨S, 0, none⟩), .int .i64 a] w3 (SpSame w3 w.heap.size S km A 4194304 τ (.tuple #[.agg #[.int .u64 4294967296, .int .u64 0], .int .i64 0])) from hco)
  unfold SpSame at HCO
  clear hco
  go_upto_region 8 with ((with_reducible refine HCO.out.mono ?_); rintro e w4 ⟨rfl, K4, hs4, hk4⟩; have HS4 := Lib.hid hs4; have HK4 := Lib.hid (HK3.out.trans hk4); clear hs4 hk4)
  clear HCO HS3 HK3
  have hb5 := below1 w4 (.cells #[.int .u64 4294967296, .int .u64 0] 85)
  have k5 := blk1 w4 (.cells #[.int .u64 4294967296, .int .u64 0] 85)
  have HS5 := Lib.hid (HS4.out.below hb5)
  have HK5 := Lib.hid (HK4.out.trans (HS4.out.kept hb5))
  have HF5 := Lib.hid (And.intro (HS4.out.sp.ar.foreign_new hb5 (Nat.le_refl _) (lt_of_block k5)) (show w4.heap.size ≠ km from by have := HS4.out.sp.fk.1; omega))
  have HB5 := Lib.hid k5
  clear hb5 k5 HS4 HK4
  generalize w4.alloc (.cells #[.int .u64 4294967296, .int .u64 0] 85) = w5 at *
  have hle := relLeast_yes HS5.out (HD3.out.known K4) hset ha0
  rw [show lstH (τ.know K4).N a 104 = hd6 from pro6_least HS5.out.ok.wf (HS5.out.ok.g a HD3.out.1).1 HD3.out.2 ((HD3.out.known K4).supE HS5.out.ok hset)] at hle
  have HLE := Lib.hid (show Calls Tryz.prog 25 #[.pointer (some ⟨S, 0, none⟩), .int .i64 a] w5 (SpSame w5 w.heap.size S km A 4194304 (τ.know K4) (.tuple #[.agg #[.int .u32 0, .int .u32 0, .int .u8 6, .int .u16 0, .int .u16 0], .int .i64 0])) from hle)
  unfold SpSame at HLE
  clear hle
  go_upto_region 9 with ((with_reducible refine HLE.out.mono ?_); rintro e w6 ⟨rfl, K6, hs6, hk6⟩; have HS6 := Lib.hid hs6; have HK6 := Lib.hid (HK5.out.trans hk6); have HB6 := Lib.hid ((hk6.same _ HF5.out.1 HF5.out.2).1.trans HB5.out); clear hs6 hk6)
  have hb7 := below1 w6 (.cells #[.int .u32 0, .int .u32 0, .int .u8 6, .int .u16 0, .int .u16 0] 82)
  have k7 := blk1 w6 (.cells #[.int .u32 0, .int .u32 0, .int .u8 6, .int .u16 0, .int .u16 0] 82)
  obtain ⟨c0, c1, _, _⟩ := two_cells (blk_below hb7 HB6.out)
  obtain ⟨d0, d1, d2, d3, d4⟩ := hd_cell (h := hd6) k7
  have HBF := Lib.hid (HB1.out.trans (((HS1B.out.low HLO.out.2 HK6.out).trans (hb7.mono (Nat.le_trans HSZ.out HK6.out.size))).mono (Nat.le_refl _)))
  clear hb7 k7 HLE HS5 HK5 HB5 HF5 HS6 HK6 HB6
  go_wp2
  go_ret
  exact ⟨rfl, HBF.out⟩
end
end Go.Proofs.YtbahehmfhjkgeaaGreat

/-
  RelRefuses: the calls on a space that keeps, at the ends, at keep, at a number below zero.
-/
namespace Go.Proofs.YtbahehmfhjkgeaaGreat
open Go Go.RowKit Go.ChangeMaps Go.MapKept Go.Maps Go.Lib Go.Sort

/-- What is known of the space: it keeps; how many nodes it has. -/
def RrSt (W0 : World) (B S km : Nat) (A : Blks) (kp n m : Nat) (W : World) : Prop :=
  ∃ σ, SpOk W B S km A 4194304 σ ∧ Den σ kp (sameF 0 0 104) ∧ σ.N.length ≤ n ∧ σ.H.length ≤ m ∧ KeptS A km W0 W
def RrA (kp : Nat) (a : Int) : Prop := a = 0 ∨ a = 1 ∨ a = kp ∨ (a < 0 ∧ -2097152 ≤ a)
def rrE (a : Int) : Int := if a = 0 ∨ a = 1 then 0 else 1
def rrL (kp : Nat) (a : Int) : Int := if a = 0 ∨ a = 1 ∨ a = kp then 0 else 1
def rrM (a : Int) : Int := if a = 0 then 5 else rrE a
theorem keepF_ff : sameF 0 0 104 (fun _ => false) = true := (same_iff _ 104 (by omega)).2 fun _ _ _ => rfl
theorem keepF_no : sameF 0 0 104 (put (fun _ => false) 1 true) = false := Bool.eq_false_iff.2 fun h => by
  have := (same_iff _ 104 (by omega)).1 h 0 (by omega) (by omega)
  rw [show 2 * 0 + 1 = 1 from rfl, put_same, put_other (by omega)] at this
  cases this
section
variable {w W W' W0 : World} {B S km : Nat} {A : Blks} {Mo kp n m : Nat} {σ : Sg} {a : Int}
theorem noset (h : Den σ kp (sameF 0 0 104)) (ha : RrA kp a) (hn : ¬ (a = 0 ∨ a = 1)) : ¬ SetOk σ a := by
  rintro ⟨g, hg, e, hs⟩
  rcases ha with h1 | h1 | h1 | h1
  · exact hn (.inl h1)
  · exact hn (.inr h1)
  · obtain rfl : g = kp := by omega
    have := hs 1 rfl (fun _ => false) true
    have h2 : ev σ.N (put (fun _ => false) 1 true) g = ev σ.N (fun _ => false) g := this
    rw [h.2, h.2, keepF_ff, keepF_no] at h2
    cases h2
  · omega
theorem nonode (ha : RrA kp a) (hn : ¬ (a = 0 ∨ a = 1 ∨ a = kp)) : ¬ NodeOk σ a := by
  rintro ⟨g, hg, e⟩
  rcases ha with h1 | h1 | h1 | h1
  · exact hn (.inl h1)
  · exact hn (.inr (.inl h1))
  · exact hn (.inr (.inr h1))
  · omega
theorem noL1 {l : List Int} {nodes : List Int} {x : Int} (hx : x ∈ l) (h : ¬ SetOk σ x) : ¬ AllNum σ l nodes := fun k => h (k.2 x hx)
theorem noL2 {l : List Int} {nodes : List Int} {x : Int} (hx : x ∈ nodes) (h : ¬ NodeOk σ x) : ¬ AllNum σ l nodes := fun k => h (k.1 x hx)
theorem RrA.i64 (h : RrA kp a) (hk : (kp : Int) ≤ 2147483646) : I64 a := by
  unfold I64
  rcases h with h | h | h | h <;> omega
theorem gro {g : Nat} {F F0 : Fun} (hd : Den σ g F0) (o : SgOk Mo σ) (e : ∀ s, F0 s = F s) : Grow σ.N σ.H F 0 0 := Den.grow (show Den σ g F from ⟨hd.1, fun s => (hd.2 s).trans (e s)⟩) o
theorem rr_yes {F : Fun} {k j : Nat} {e : Ending} (hd : Den σ kp (sameF 0 0 104)) (hs : SpOk W B S km A 4194304 σ) (hn : σ.N.length ≤ n) (hm : σ.H.length ≤ m) (hk : KeptS A km W0 W) (hr : SpRes W B S km A 4194304 σ F k j e W') (hroom : m + j ≤ 4194304) :
    ∃ q : Int, e = .returned (.tuple #[.int .i64 q, .int .i64 0]) ∧ RrSt W0 B S km A kp (n + k) (m + j) W' := by
  obtain ⟨r, τ, he, h1, h2, _⟩ := hr.room (by omega)
  exact ⟨r, he, τ, h1, hd.to h2 hs.ok h1.ok, by have := h2.nl; omega, by have := h2.hl; omega, hk.trans hr.1⟩
theorem rr_no {e : Ending} (hd : Den σ kp (sameF 0 0 104)) (hn : σ.N.length ≤ n) (hm : σ.H.length ≤ m) (hk : KeptS A km W0 W) (hr : SpNo W B S km A 4194304 σ e W') :
    ∃ q : Int, e = .returned (.tuple #[.int .i64 q, .int .i64 1]) ∧ RrSt W0 B S km A kp n m W' := by
  obtain ⟨he, K, h1, h2⟩ := hr
  exact ⟨0, he, σ.know K, h1, hd.known K, hn, hm, hk.trans h2⟩
theorem rr_ask {e : Ending} {v : Value} (hd : Den σ kp (sameF 0 0 104)) (hn : σ.N.length ≤ n) (hm : σ.H.length ≤ m) (hk : KeptS A km W0 W) (hr : e = .returned v ∧ ∃ K, SpOk W' B S km A 4194304 (σ.know K) ∧ KeptS A km W W') :
    e = .returned v ∧ RrSt W0 B S km A kp n m W' := by
  obtain ⟨he, K, h1, h2⟩ := hr
  exact ⟨he, σ.know K, h1, hd.known K, hn, hm, hk.trans h2⟩
theorem RrSt.below (h : RrSt W0 B S km A kp n m W) (hb : Below W.heap.size W W') : RrSt W0 B S km A kp n m W' := by
  obtain ⟨σ, hs, hd, hn, hm, hk⟩ := h
  exact ⟨σ, hs.below hb, hd, hn, hm, hk.trans (hs.kept hb)⟩
theorem rr_and (h : RrSt W0 B S km A kp n m W) (ha : RrA kp a) (hnn : n ≤ 1000000) (hmm : m ≤ 4194304) :
    Calls Tryz.prog 14 #[.pointer (some ⟨S, 0, none⟩), .int .i64 a, .int .i64 1] W fun e W' => ∃ q : Int, e = .returned (.tuple #[.int .i64 q, .int .i64 (rrE a)]) ∧ RrSt W0 B S km A kp n m W' := by
  obtain ⟨σ, hs, hd, hn, hm, hk⟩ := h
  have hkl := hd.lt64 hs.ok
  have hz := Den.zero hs.ok
  have ho := Den.one hs.ok
  by_cases hc : a = 0 ∨ a = 1
  · have he : rrE a = 0 := if_pos hc
    rw [he]
    rcases hc with rfl | rfl
    · exact (relAnd_yes hs hz ho (SetF.const false) (SetF.const true) (gro hz hs.ok fun _ => rfl) (by omega)).mono fun e W' hr => rr_yes hd hs hn hm hk hr (by omega)
    · exact (relAnd_yes hs ho ho (SetF.const true) (SetF.const true) (gro ho hs.ok fun _ => rfl) (by omega)).mono fun e W' hr => rr_yes hd hs hn hm hk hr (by omega)
  · have he : rrE a = 1 := if_neg hc
    rw [he]
    have hi := ha.i64 hkl.2
    exact (relAnd_no hs a 1 hi (by unfold I64; omega) (noL1 (by simp) (noset hd ha hc))).mono fun e W' hr => rr_no hd hn hm hk hr
theorem rr_or (h : RrSt W0 B S km A kp n m W) (ha : RrA kp a) (hnn : n ≤ 1000000) (hmm : m ≤ 4194304) :
    Calls Tryz.prog 31 #[.pointer (some ⟨S, 0, none⟩), .int .i64 0, .int .i64 a] W fun e W' => ∃ q : Int, e = .returned (.tuple #[.int .i64 q, .int .i64 (rrE a)]) ∧ RrSt W0 B S km A kp n m W' := by
  obtain ⟨σ, hs, hd, hn, hm, hk⟩ := h
  have hkl := hd.lt64 hs.ok
  have hz := Den.zero hs.ok
  have ho := Den.one hs.ok
  by_cases hc : a = 0 ∨ a = 1
  · have he : rrE a = 0 := if_pos hc
    rw [he]
    rcases hc with rfl | rfl
    · exact (relOr_yes hs hz hz (SetF.const false) (SetF.const false) (gro hz hs.ok fun _ => rfl) (by omega)).mono fun e W' hr => rr_yes hd hs hn hm hk hr (by omega)
    · exact (relOr_yes hs hz ho (SetF.const false) (SetF.const true) (gro ho hs.ok fun _ => rfl) (by omega)).mono fun e W' hr => rr_yes hd hs hn hm hk hr (by omega)
  · have he : rrE a = 1 := if_neg hc
    rw [he]
    have hi := ha.i64 hkl.2
    exact (relOr_no hs 0 a (by unfold I64; omega) hi (noL1 (by simp) (noset hd ha hc))).mono fun e W' hr => rr_no hd hn hm hk hr
theorem rr_less (h : RrSt W0 B S km A kp n m W) (ha : RrA kp a) (hnn : n ≤ 1000000) (hmm : m ≤ 4194304) :
    Calls Tryz.prog 32 #[.pointer (some ⟨S, 0, none⟩), .int .i64 a, .int .i64 a] W fun e W' => ∃ q : Int, e = .returned (.tuple #[.int .i64 q, .int .i64 (rrE a)]) ∧ RrSt W0 B S km A kp n m W' := by
  obtain ⟨σ, hs, hd, hn, hm, hk⟩ := h
  have hkl := hd.lt64 hs.ok
  have hz := Den.zero hs.ok
  have ho := Den.one hs.ok
  by_cases hc : a = 0 ∨ a = 1
  · have he : rrE a = 0 := if_pos hc
    rw [he]
    rcases hc with rfl | rfl
    · exact (relLess_yes hs hz hz (SetF.const false) (SetF.const false) (gro hz hs.ok fun _ => rfl) (by omega)).mono fun e W' hr => rr_yes hd hs hn hm hk hr (by omega)
    · exact (relLess_yes hs ho ho (SetF.const true) (SetF.const true) (gro hz hs.ok fun _ => rfl) (by omega)).mono fun e W' hr => rr_yes hd hs hn hm hk hr (by omega)
  · have he : rrE a = 1 := if_neg hc
    rw [he]
    have hi := ha.i64 hkl.2
    exact (relLess_no hs a a hi hi (noL1 (by simp) (noset hd ha hc))).mono fun e W' hr => rr_no hd hn hm hk hr
theorem rr_not (h : RrSt W0 B S km A kp n m W) (ha : RrA kp a) (hnn : n ≤ 1000000) (hmm : m ≤ 4194304) :
    Calls Tryz.prog 12 #[.pointer (some ⟨S, 0, none⟩), .int .i64 a] W fun e W' => ∃ q : Int, e = .returned (.tuple #[.int .i64 q, .int .i64 (rrE a)]) ∧ RrSt W0 B S km A kp n m W' := by
  obtain ⟨σ, hs, hd, hn, hm, hk⟩ := h
  have hkl := hd.lt64 hs.ok
  have hz := Den.zero hs.ok
  have ho := Den.one hs.ok
  by_cases hc : a = 0 ∨ a = 1
  · have he : rrE a = 0 := if_pos hc
    rw [he]
    rcases hc with rfl | rfl
    · exact (relNot_yes hs hz (SetF.const false) (gro ho hs.ok fun _ => rfl) (by omega)).mono fun e W' hr => rr_yes hd hs hn hm hk hr (by omega)
    · exact (relNot_yes hs ho (SetF.const true) (gro hz hs.ok fun _ => rfl) (by omega)).mono fun e W' hr => rr_yes hd hs hn hm hk hr (by omega)
  · have he : rrE a = 1 := if_neg hc
    rw [he]
    have hi := ha.i64 hkl.2
    exact (relNot_no hs a hi (noL1 (by simp) (noset hd ha hc))).mono fun e W' hr => rr_no hd hn hm hk hr
theorem rr_where (h : RrSt W0 B S km A kp n m W) (ha : RrA kp a) (hnn : n ≤ 1000000) (hmm : m ≤ 4194304) :
    Calls Tryz.prog 33 #[.pointer (some ⟨S, 0, none⟩), .int .i64 kp, .int .i64 a] W fun e W' => ∃ q : Int, e = .returned (.tuple #[.int .i64 q, .int .i64 (rrE a)]) ∧ RrSt W0 B S km A kp n m W' := by
  obtain ⟨σ, hs, hd, hn, hm, hk⟩ := h
  have hkl := hd.lt64 hs.ok
  have hz := Den.zero hs.ok
  have ho := Den.one hs.ok
  by_cases hc : a = 0 ∨ a = 1
  · have he : rrE a = 0 := if_pos hc
    rw [he]
    rcases hc with rfl | rfl
    · exact (relWhere_yes hs hd hz (SetF.const false) (gro hz hs.ok fun s => (Bool.and_false _).symm) (by omega)).mono fun e W' hr => rr_yes hd hs hn hm hk hr (by omega)
    · exact (relWhere_yes hs hd ho (SetF.const true) (gro hd hs.ok fun s => (Bool.and_true _).symm) (by omega)).mono fun e W' hr => rr_yes hd hs hn hm hk hr (by omega)
  · have he : rrE a = 1 := if_neg hc
    rw [he]
    have hi := ha.i64 hkl.2
    exact (relWhere_no hs kp a (by unfold I64; omega) hi (noL1 (by simp) (noset hd ha hc))).mono fun e W' hr => rr_no hd hn hm hk hr
theorem rr_where1 (h : RrSt W0 B S km A kp n m W) (ha : RrA kp a) (hnn : n ≤ 1000000) (hmm : m ≤ 4194304) :
    Calls Tryz.prog 33 #[.pointer (some ⟨S, 0, none⟩), .int .i64 a, .int .i64 1] W fun e W' => ∃ q : Int, e = .returned (.tuple #[.int .i64 q, .int .i64 (rrL kp a)]) ∧ RrSt W0 B S km A kp n m W' := by
  obtain ⟨σ, hs, hd, hn, hm, hk⟩ := h
  have hkl := hd.lt64 hs.ok
  have hz := Den.zero hs.ok
  have ho := Den.one hs.ok
  by_cases hc : a = 0 ∨ a = 1 ∨ a = kp
  · have he : rrL kp a = 0 := if_pos hc
    rw [he]
    rcases hc with rfl | rfl | rfl
    · exact (relWhere_yes hs hz ho (SetF.const true) (gro hz hs.ok fun _ => rfl) (by omega)).mono fun e W' hr => rr_yes hd hs hn hm hk hr (by omega)
    · exact (relWhere_yes hs ho ho (SetF.const true) (gro ho hs.ok fun _ => rfl) (by omega)).mono fun e W' hr => rr_yes hd hs hn hm hk hr (by omega)
    · exact (relWhere_yes hs hd ho (SetF.const true) (gro hd hs.ok fun s => (Bool.and_true _).symm) (by omega)).mono fun e W' hr => rr_yes hd hs hn hm hk hr (by omega)
  · have he : rrL kp a = 1 := if_neg hc
    rw [he]
    have hi := ha.i64 hkl.2
    exact (relWhere_no hs a 1 hi (by unfold I64; omega) (noL2 (by simp) (nonode ha hc))).mono fun e W' hr => rr_no hd hn hm hk hr
theorem rr_either (h : RrSt W0 B S km A kp n m W) (ha : RrA kp a) (hnn : n ≤ 1000000) (hmm : m ≤ 4194304) :
    Calls Tryz.prog 34 #[.pointer (some ⟨S, 0, none⟩), .int .i64 a, .int .i64 kp] W fun e W' => ∃ q : Int, e = .returned (.tuple #[.int .i64 q, .int .i64 (rrL kp a)]) ∧ RrSt W0 B S km A kp n m W' := by
  obtain ⟨σ, hs, hd, hn, hm, hk⟩ := h
  have hkl := hd.lt64 hs.ok
  have hz := Den.zero hs.ok
  have ho := Den.one hs.ok
  by_cases hc : a = 0 ∨ a = 1 ∨ a = kp
  · have he : rrL kp a = 0 := if_pos hc
    rw [he]
    rcases hc with rfl | rfl | rfl
    · exact (relEither_yes hs hz hd (gro hd hs.ok fun s => (Bool.false_or _).symm) (by omega)).mono fun e W' hr => rr_yes hd hs hn hm hk hr (by omega)
    · exact (relEither_yes hs ho hd (gro ho hs.ok fun s => (Bool.true_or _).symm) (by omega)).mono fun e W' hr => rr_yes hd hs hn hm hk hr (by omega)
    · exact (relEither_yes hs hd hd (gro hd hs.ok fun s => (Bool.or_self _).symm) (by omega)).mono fun e W' hr => rr_yes hd hs hn hm hk hr (by omega)
  · have he : rrL kp a = 1 := if_neg hc
    rw [he]
    have hi := ha.i64 hkl.2
    exact (relEither_no hs a kp hi (by unfold I64; omega) (noL2 (by simp) (nonode ha hc))).mono fun e W' hr => rr_no hd hn hm hk hr
theorem rr_has (h : RrSt W0 B S km A kp n m W) (ha : RrA kp a) (hd : Hd) (hdo : hd.ok) :
    Calls Tryz.prog 26 #[.pointer (some ⟨S, 0, none⟩), .int .i64 a, .agg #[.int .u32 hd.src, .int .u32 hd.dst, .int .u8 hd.proto, .int .u16 hd.sp, .int .u16 hd.dp]] W fun e W' => ∃ b : Bool, e = .returned (.tuple #[.bool b, .int .i64 (rrE a)]) ∧ RrSt W0 B S km A kp n m W' := by
  obtain ⟨σ, hs, hkd, hn, hm, hk⟩ := h
  have hkl := hkd.lt64 hs.ok
  by_cases hc : a = 0 ∨ a = 1
  · have he : rrE a = 0 := if_pos hc
    rw [he]
    rcases hc with rfl | rfl
    · exact (has_yes hs (Den.zero hs.ok) (SetF.const false) hd hdo).mono fun e W' hr => ⟨_, rr_ask hkd hn hm hk hr⟩
    · exact (has_yes hs (Den.one hs.ok) (SetF.const true) hd hdo).mono fun e W' hr => ⟨_, rr_ask hkd hn hm hk hr⟩
  · have he : rrE a = 1 := if_neg hc
    rw [he]
    exact (has_no hs a (ha.i64 hkl.2) (noL1 (by simp) (noset hkd ha hc)) hd).mono fun e W' hr => ⟨_, rr_ask hkd hn hm hk hr⟩
theorem rr_leads (h : RrSt W0 B S km A kp n m W) (ha : RrA kp a) (hd : Hd) (hdo : hd.ok) :
    Calls Tryz.prog 35 #[.pointer (some ⟨S, 0, none⟩), .int .i64 a, .agg #[.int .u32 hd.src, .int .u32 hd.dst, .int .u8 hd.proto, .int .u16 hd.sp, .int .u16 hd.dp], .agg #[.int .u32 hd.src, .int .u32 hd.dst, .int .u8 hd.proto, .int .u16 hd.sp, .int .u16 hd.dp]] W fun e W' => ∃ b : Bool, e = .returned (.tuple #[.bool b, .int .i64 (rrL kp a)]) ∧ RrSt W0 B S km A kp n m W' := by
  obtain ⟨σ, hs, hkd, hn, hm, hk⟩ := h
  have hkl := hkd.lt64 hs.ok
  by_cases hc : a = 0 ∨ a = 1 ∨ a = kp
  · have he : rrL kp a = 0 := if_pos hc
    rw [he]
    rcases hc with rfl | rfl | rfl
    · exact (leads_yes hs (Den.zero hs.ok) hd hd hdo hdo).mono fun e W' hr => ⟨_, rr_ask hkd hn hm hk hr⟩
    · exact (leads_yes hs (Den.one hs.ok) hd hd hdo hdo).mono fun e W' hr => ⟨_, rr_ask hkd hn hm hk hr⟩
    · exact (leads_yes hs hkd hd hd hdo hdo).mono fun e W' hr => ⟨_, rr_ask hkd hn hm hk hr⟩
  · have he : rrL kp a = 1 := if_neg hc
    rw [he]
    exact (leads_no hs a (ha.i64 hkl.2) (noL2 (by simp) (nonode ha hc)) hd hd).mono fun e W' hr => ⟨_, rr_ask hkd hn hm hk hr⟩
theorem rr_count (h : RrSt W0 B S km A kp n m W) (ha : RrA kp a) :
    Calls Tryz.prog 24 #[.pointer (some ⟨S, 0, none⟩), .int .i64 a] W fun e W' => ∃ x y : Int, e = .returned (.tuple #[.agg #[.int .u64 x, .int .u64 y], .int .i64 (rrE a)]) ∧ RrSt W0 B S km A kp n m W' := by
  obtain ⟨σ, hs, hkd, hn, hm, hk⟩ := h
  have hkl := hkd.lt64 hs.ok
  by_cases hc : a = 0 ∨ a = 1
  · have he : rrE a = 0 := if_pos hc
    rw [he]
    rcases hc with rfl | rfl
    · exact (relCount_any hs (Den.zero hs.ok) (SetF.const false)).mono fun e W' hr => ⟨_, _, rr_ask hkd hn hm hk hr⟩
    · exact (relCount_any hs (Den.one hs.ok) (SetF.const true)).mono fun e W' hr => ⟨_, _, rr_ask hkd hn hm hk hr⟩
  · have he : rrE a = 1 := if_neg hc
    rw [he]
    exact (relCount_no hs a (ha.i64 hkl.2) (noL1 (by simp) (noset hkd ha hc))).mono fun e W' hr => ⟨_, _, rr_ask hkd hn hm hk hr⟩
theorem rr_least (h : RrSt W0 B S km A kp n m W) (ha : RrA kp a) :
    Calls Tryz.prog 25 #[.pointer (some ⟨S, 0, none⟩), .int .i64 a] W fun e W' => ∃ hd : Hd, e = .returned (.tuple #[.agg #[.int .u32 hd.src, .int .u32 hd.dst, .int .u8 hd.proto, .int .u16 hd.sp, .int .u16 hd.dp], .int .i64 (rrM a)]) ∧ RrSt W0 B S km A kp n m W' := by
  obtain ⟨σ, hs, hkd, hn, hm, hk⟩ := h
  have hkl := hkd.lt64 hs.ok
  by_cases hc : a = 0 ∨ a = 1
  · rcases hc with rfl | rfl
    · exact (relLeast_zero hs).mono fun e W' hr => ⟨_, rr_ask hkd hn hm hk hr⟩
    · exact (relLeast_yes hs (Den.one hs.ok) (SetF.const true) (by omega)).mono fun e W' hr => ⟨_, rr_ask hkd hn hm hk hr⟩
  · have he : rrM a = 1 := by unfold rrM rrE; rw [if_neg (fun h => hc (.inl h)), if_neg hc]
    rw [he]
    exact (relLeast_no hs a (ha.i64 hkl.2) (noL1 (by simp) (noset hkd ha hc))).mono fun e W' hr => ⟨_, rr_ask hkd hn hm hk hr⟩
theorem rr_flat {k j : Nat} {e : Ending} (hd : Den σ kp (sameF 0 0 104)) (hs : SpOk W B S km A 4194304 σ) (hm : σ.H.length ≤ m) (hk : KeptS A km W0 W) (hr : (∃ q : Nat, e = .returned (.tuple #[.int .i64 q, .int .i64 0])) ∧ KeptS A km W W' ∧ ∃ τ, SpOk W' B S km A 4194304 τ ∧ To k j σ τ) {n' : Nat} (h' : σ.N.length + k ≤ n') (hj : j = 0) :
    ∃ q : Int, e = .returned (.tuple #[.int .i64 q, .int .i64 0]) ∧ RrSt W0 B S km A kp n' m W' := by
  obtain ⟨⟨q, he⟩, h2, τ, h3, h4⟩ := hr
  exact ⟨q, he, τ, h3, hd.to h4 hs.ok h3.ok, by have := h4.nl; omega, by have := h4.hl; omega, hk.trans h2⟩
theorem rr_image (h : RrSt W0 B S km A kp n m W) (ha : RrA kp a) (hnn : n ≤ 1000000) (hmm : m ≤ 4194304) :
    Calls Tryz.prog 36 #[.pointer (some ⟨S, 0, none⟩), .int .i64 kp, .int .i64 a] W fun e W' => ∃ q : Int, e = .returned (.tuple #[.int .i64 q, .int .i64 (rrE a)]) ∧ RrSt W0 B S km A kp (n + 2 * n) m W' := by
  obtain ⟨σ, hs, hd, hn, hm, hk⟩ := h
  have hkl := hd.lt64 hs.ok
  have hz := Den.zero hs.ok
  have ho := Den.one hs.ok
  by_cases hc : a = 0 ∨ a = 1
  · have he : rrE a = 0 := if_pos hc
    rw [he]
    rcases hc with rfl | rfl
    · have e0 : (fun s => sameF 0 0 104 s && (fun _ => false : Fun) s) = fun _ => false := funext fun s => Bool.and_false _
      refine (relImage_flat hs hd hz (SetF.const false) (k0 := 0) (m0 := 0) (c := 2) (gro hz hs.ok fun s => (Bool.and_false _).symm) (by omega) false (by rw [e0]; exact exF_const 0 false) (fun v s => ?_) (by omega) (by omega)).mono fun e W' hr => rr_flat hd hs hm hk hr (by omega) rfl
      rw [e0]
      rw [show exF 0 (fun t => (fun _ => false : Fun) (mixS v s t)) = fun _ => false from exF_const 0 false]
      exact (const_wid false).mono (by omega)
    · have e1 : (fun s => sameF 0 0 104 s && (fun _ => true : Fun) s) = sameF 0 0 104 := funext fun s => Bool.and_true _
      refine (relImage_flat hs hd ho (SetF.const true) (k0 := 0) (m0 := 0) (c := 2) (gro hd hs.ok fun s => (Bool.and_true _).symm) (by omega) true (by rw [e1]; exact keepEx_all) (fun v s => ?_) (by omega) (by omega)).mono fun e W' hr => rr_flat hd hs hm hk hr (by omega) rfl
      rw [e1]
      exact keep_wid v s
  · have he : rrE a = 1 := if_neg hc
    rw [he]
    have hi := ha.i64 hkl.2
    exact (relImage_no hs kp a (by unfold I64; omega) hi (noL1 (by simp) (noset hd ha hc))).mono fun e W' hr => rr_no hd (by omega) hm hk hr
theorem rr_preimage (h : RrSt W0 B S km A kp n m W) (ha : RrA kp a) (hnn : n ≤ 1000000) :
    Calls Tryz.prog 37 #[.pointer (some ⟨S, 0, none⟩), .int .i64 a, .int .i64 0] W fun e W' => ∃ q : Int, e = .returned (.tuple #[.int .i64 q, .int .i64 (rrL kp a)]) ∧ RrSt W0 B S km A kp (n + n) m W' := by
  obtain ⟨σ, hs, hd, hn, hm, hk⟩ := h
  have hkl := hd.lt64 hs.ok
  by_cases hc : a = 0 ∨ a = 1 ∨ a = kp
  · have he : rrL kp a = 0 := if_pos hc
    rw [he]
    rcases hc with rfl | rfl | rfl
    · exact (relPreimage_zero hs (Den.zero hs.ok) (by omega)).mono fun e W' hr => rr_flat hd hs hm hk hr (by omega) rfl
    · exact (relPreimage_zero hs (Den.one hs.ok) (by omega)).mono fun e W' hr => rr_flat hd hs hm hk hr (by omega) rfl
    · exact (relPreimage_zero hs hd (by omega)).mono fun e W' hr => rr_flat hd hs hm hk hr (by omega) rfl
  · have he : rrL kp a = 1 := if_neg hc
    rw [he]
    have hi := ha.i64 hkl.2
    exact (relPreimage_no hs a 0 hi (by unfold I64; omega) (noL2 (by simp) (nonode ha hc))).mono fun e W' hr => rr_no hd (by omega) hm hk hr
def rrP (f a n : Int) : Int := if f ≠ 0 ∧ f ≠ 1 then 1 else chk a n
theorem chkZ_n {a n : Int} (h : chk a n = 0) : 0 ≤ n ∧ n ≤ 32 := by
  unfold chk at h
  split at h
  · cases h
  · omega
theorem rr_prefix (h : RrSt W0 B S km A kp n m W) (hnn : n ≤ 1000000) (hmm : m + 96 ≤ 4194304) (f x y : Int) (hx0 : 0 ≤ x) (hx1 : x < 4294967296) :
    Calls Tryz.prog 38 #[.pointer (some ⟨S, 0, none⟩), .int .i64 f, .agg #[.int .u32 x, .int .i64 y]] W fun e W' => ∃ q : Int, e = .returned (.tuple #[.int .i64 q, .int .i64 (rrP f x y)]) ∧ RrSt W0 B S km A kp (n + 96) (m + 96) W' := by
  obtain ⟨σ, hs, hd, hn, hm, hk⟩ := h
  have low : ∀ W', Below W.heap.size W W' → RrSt W0 B S km A kp (n + 96) (m + 96) W' := fun W' hb => ⟨σ, hs.below hb, hd, by omega, by omega, hk.trans (hs.kept hb)⟩
  by_cases hf : f ≠ 0 ∧ f ≠ 1
  · have he : rrP f x y = 1 := if_pos hf
    rw [he]
    exact (prefix_arg W S f x y hf.1 hf.2).mono fun e W' hr => ⟨0, hr.1, low W' hr.2⟩
  · have he : rrP f x y = chk x y := if_neg hf
    rw [he]
    obtain ⟨g, hg, rfl⟩ : ∃ g : Nat, g < 2 ∧ f = (g : Int) := by
      rcases (show f = 0 ∨ f = 1 by omega) with rfl | rfl
      · exact ⟨0, by omega, rfl⟩
      · exact ⟨1, by omega, rfl⟩
    by_cases hc : chk x y = 0
    · obtain ⟨h1, h2⟩ := chkZ_n hc
      obtain ⟨x, rfl⟩ := Int.eq_ofNat_of_zero_le hx0
      obtain ⟨y, rfl⟩ := Int.eq_ofNat_of_zero_le h1
      have hc' : chk (x : Int) (y : Int) = 0 := hc
      rw [hc]
      refine (prefix_yes hs g x y hg (by omega) (by omega) hc' (by omega)).mono fun e W' hr => ?_
      obtain ⟨q, h3, τ, t1, t2, t3, t4, t5⟩ := rr_yes hd hs hn hm hk hr (by omega)
      exact ⟨q, h3, τ, t1, t2, by omega, by omega, t5⟩
    · exact (prefix_bad W S g x y hg hx0 hx1 hc).mono fun e W' hr => ⟨0, hr.1, low W' hr.2⟩
theorem nil_rd (W : World) : Rd W W.heap.size 2 (.slice none 0 0) ([] : List SpanV).length (scells []) := ⟨none, 0, rfl, by simp, by simp [scells], fun h => absurd h (by simp)⟩
theorem rrForm_nil : formOf [] = [] := theSet_eq trivial (fun _ => rfl)
def rrF (f : Int) : Int := if f < 0 ∨ 4 < f then 1 else 0
theorem rr_numbers (h : RrSt W0 B S km A kp n m W) (hnn : n ≤ 1000000) (hmm : m ≤ 4194304) (f : Int) :
    Calls Tryz.prog 39 #[.pointer (some ⟨S, 0, none⟩), .int .i64 f, .slice none 0 0] W fun e W' => ∃ q : Int, e = .returned (.tuple #[.int .i64 q, .int .i64 (rrF f)]) ∧ RrSt W0 B S km A kp n m W' := by
  obtain ⟨σ, hs, hd, hn, hm, hk⟩ := h
  by_cases hf : f < 0 ∨ 4 < f
  · have he : rrF f = 1 := if_pos hf
    rw [he]
    exact (numbers_arg W S f _ hf).mono fun e W' hr => ⟨0, hr.1, σ, hs.below hr.2, hd, hn, hm, hk.trans (hs.kept hr.2)⟩
  · have he : rrF f = 0 := if_neg hf
    rw [he]
    rcases (show f = 0 ∨ f = 1 ∨ f = 2 ∨ f = 3 ∨ f = 4 by omega) with rfl | rfl | rfl | rfl | rfl
    · exact (numbers0_yes hs [] (.slice none 0 0) (nil_rd W) (by simp) [] [] rrForm_nil (by simp) (.inl rfl) 0 (fun k _ => by rw [List.take_nil]; exact const_wid false) (by simp; omega)).mono fun e W' hr => by
        obtain ⟨q, h3, τ, t1, t2, t3, t4, t5⟩ := rr_yes hd hs hn hm hk hr (by simp; omega)
        exact ⟨q, h3, τ, t1, t2, by simpa using t3, by simpa using t4, t5⟩
    · exact (numbers1_yes hs [] (.slice none 0 0) (nil_rd W) (by simp) [] [] rrForm_nil (by simp) (.inl rfl) 0 (fun k _ => by rw [List.take_nil]; exact const_wid false) (by simp; omega)).mono fun e W' hr => by
        obtain ⟨q, h3, τ, t1, t2, t3, t4, t5⟩ := rr_yes hd hs hn hm hk hr (by simp; omega)
        exact ⟨q, h3, τ, t1, t2, by simpa using t3, by simpa using t4, t5⟩
    · exact (numbers2_yes hs [] (.slice none 0 0) (nil_rd W) (by simp) [] [] rrForm_nil (by simp) (.inl rfl) 0 (fun k _ => by rw [List.take_nil]; exact const_wid false) (by simp; omega)).mono fun e W' hr => by
        obtain ⟨q, h3, τ, t1, t2, t3, t4, t5⟩ := rr_yes hd hs hn hm hk hr (by simp; omega)
        exact ⟨q, h3, τ, t1, t2, by simpa using t3, by simpa using t4, t5⟩
    · exact (numbers3_yes hs [] (.slice none 0 0) (nil_rd W) (by simp) [] [] rrForm_nil (by simp) (.inl rfl) 0 (fun k _ => by rw [List.take_nil]; exact const_wid false) (by simp; omega)).mono fun e W' hr => by
        obtain ⟨q, h3, τ, t1, t2, t3, t4, t5⟩ := rr_yes hd hs hn hm hk hr (by simp; omega)
        exact ⟨q, h3, τ, t1, t2, by simpa using t3, by simpa using t4, t5⟩
    · exact (numbers4_yes hs [] (.slice none 0 0) (nil_rd W) (by simp) [] [] rrForm_nil (by simp) (.inl rfl) 0 (fun k _ => by rw [List.take_nil]; exact const_wid false) (by simp; omega)).mono fun e W' hr => by
        obtain ⟨q, h3, τ, t1, t2, t3, t4, t5⟩ := rr_yes hd hs hn hm hk hr (by simp; omega)
        exact ⟨q, h3, τ, t1, t2, by simpa using t3, by simpa using t4, t5⟩
def rrMost (f : Int) : Int := if f = 2 then 255 else if f = 3 ∨ f = 4 then 65535 else 4294967295
def rrU (f v : Int) : Int := if f < 0 ∨ 4 < f then 1 else if rrMost f < v then 1 else 0
theorem rr_put (h : RrSt W0 B S km A kp n m W) (hnn : n ≤ 1000000) (hmm : m + 2280 ≤ 4194304) (f v : Int) (hv0 : 0 ≤ v) (hv1 : v ≤ 4294967295) :
    Calls Tryz.prog 40 #[.pointer (some ⟨S, 0, none⟩), .int .i64 f, .int .u32 v] W fun e W' => ∃ q : Int, e = .returned (.tuple #[.int .i64 q, .int .i64 (rrU f v)]) ∧ RrSt W0 B S km A kp (n + 2280) (m + 2280) W' := by
  obtain ⟨σ, hs, hd, hn, hm, hk⟩ := h
  have low : ∀ W', Below W.heap.size W W' → RrSt W0 B S km A kp (n + 2280) (m + 2280) W' := fun W' hb => ⟨σ, hs.below hb, hd, by omega, by omega, hk.trans (hs.kept hb)⟩
  obtain ⟨v, rfl⟩ := Int.eq_ofNat_of_zero_le hv0
  have hvn : (v : Int) ≤ 4294967295 := hv1
  by_cases hf : f < 0 ∨ 4 < f
  · have he : rrU f v = 1 := if_pos hf
    rw [he]
    exact (put_arg W S f _ hf).mono fun e W' hr => ⟨0, hr.1, low W' hr.2⟩
  · rcases (show f = 0 ∨ f = 1 ∨ f = 2 ∨ f = 3 ∨ f = 4 by omega) with rfl | rfl | rfl | rfl | rfl
    · have he : rrU 0 (v : Int) = 0 := by
        show (if ((4294967295 : Int) < (v : Int)) then (1 : Int) else 0) = 0
        rw [if_neg (by omega)]
      rw [he]
      exact (put0_yes hs v (by omega) (by omega)).mono fun e W' hr => rr_yes hd hs hn hm hk hr hmm
    · have he : rrU 1 (v : Int) = 0 := by
        show (if ((4294967295 : Int) < (v : Int)) then (1 : Int) else 0) = 0
        rw [if_neg (by omega)]
      rw [he]
      exact (put1_yes hs v (by omega) (by omega)).mono fun e W' hr => rr_yes hd hs hn hm hk hr hmm
    · by_cases hv : 255 < v
      · have he : rrU 2 (v : Int) = 1 := by
          show (if ((255 : Int) < (v : Int)) then (1 : Int) else 0) = 1
          rw [if_pos (by omega)]
        rw [he]
        exact (put2_over W S v hv hvn).mono fun e W' hr => ⟨0, hr.1, low W' hr.2⟩
      · have he : rrU 2 (v : Int) = 0 := by
          show (if ((255 : Int) < (v : Int)) then (1 : Int) else 0) = 0
          rw [if_neg (by omega)]
        rw [he]
        exact (put2_yes hs v (by omega) (by omega)).mono fun e W' hr => rr_yes hd hs hn hm hk hr hmm
    · by_cases hv : 65535 < v
      · have he : rrU 3 (v : Int) = 1 := by
          show (if ((65535 : Int) < (v : Int)) then (1 : Int) else 0) = 1
          rw [if_pos (by omega)]
        rw [he]
        exact (put3_over W S v hv hvn).mono fun e W' hr => ⟨0, hr.1, low W' hr.2⟩
      · have he : rrU 3 (v : Int) = 0 := by
          show (if ((65535 : Int) < (v : Int)) then (1 : Int) else 0) = 0
          rw [if_neg (by omega)]
        rw [he]
        exact (put3_yes hs v (by omega) (by omega)).mono fun e W' hr => rr_yes hd hs hn hm hk hr hmm
    · by_cases hv : 65535 < v
      · have he : rrU 4 (v : Int) = 1 := by
          show (if ((65535 : Int) < (v : Int)) then (1 : Int) else 0) = 1
          rw [if_pos (by omega)]
        rw [he]
        exact (put4_over W S v hv hvn).mono fun e W' hr => ⟨0, hr.1, low W' hr.2⟩
      · have he : rrU 4 (v : Int) = 0 := by
          show (if ((65535 : Int) < (v : Int)) then (1 : Int) else 0) = 0
          rw [if_neg (by omega)]
        rw [he]
        exact (put4_yes hs v (by omega) (by omega)).mono fun e W' hr => rr_yes hd hs hn hm hk hr hmm
end
end Go.Proofs.YtbahehmfhjkgeaaGreat

/-
  RelRefuses: the law's own questions about numbers.
-/
namespace Go.Proofs.YtbahehmfhjkgeaaGreat
open Go Go.RowKit Go.ChangeMaps Go.MapKept Go.Maps Go.Lib Go.Sort

section
set_option maxRecDepth 100000
set_option maxHeartbeats 2000000
theorem rrSet_any (w : World) (a : Int) : Calls Tryz.prog 28 #[.int .i64 a] w fun e w' => ∃ b : Bool, e = .returned (.bool b) ∧ (b = true ↔ a = 0 ∨ a = 1) ∧ Below w.heap.size w w' := by
  by_cases h0 : a = 0
  · subst h0
    go_enter Tryz.func28, Tryz.ntmps28
    go_wp2
    go_ret
    exact ⟨true, rfl, by simp, Below.refl _ _⟩
  · by_cases h1 : a = 1
    · subst h1
      go_enter Tryz.func28, Tryz.ntmps28
      go_wp2
      go_ret
      exact ⟨true, rfl, by simp, Below.refl _ _⟩
    · have e0 : (a == 0) = false := by simpa using h0
      have e1 : (a == 1) = false := by simpa using h1
      have HH := Lib.hid (And.intro h0 h1)
      clear h0 h1
      go_enter Tryz.func28, Tryz.ntmps28
      go_wp2
      go_ret
      exact ⟨false, rfl, by have := HH.out; simp [this.1, this.2], Below.refl _ _⟩
theorem rrNode_any (w : World) (a : Int) (kp bs bk : Nat) (cs : w.cell? ⟨bs, 0, none⟩ = some (.func (.func 28) #[] #[])) (ck : w.heap[bk]? = some (.cells #[.int .i64 kp] 3 (0, 0))) :
    Calls Tryz.prog 29 #[.int .i64 a, .pointer (some ⟨bs, 0, none⟩), .pointer (some ⟨bk, 0, none⟩)] w fun e w' => ∃ b : Bool, e = .returned (.bool b) ∧ (b = true ↔ a = 0 ∨ a = 1 ∨ a = kp) ∧ Below w.heap.size w w' := by
  have HS := Lib.hid (rrSet_any w a)
  have HK := Lib.hid ck
  clear ck
  go_enter Tryz.func29, Tryz.ntmps29
  go_wp2_with ((with_reducible refine HS.out.mono ?_); rintro e w1 ⟨b, rfl, hb, hw⟩; have HB := Lib.hid hb; have HW := Lib.hid hw; have ck := cell0 (blk_below hw HK.out); clear hb hw; cases b)
  · go_ret
    refine ⟨(a == (kp : Int)), rfl, ?_, HW.out⟩
    have hb := HB.out
    rw [beq_iff_eq]
    constructor
    · exact fun h => .inr (.inr h)
    · rintro (h | h | h)
      · exact absurd (hb.2 (.inl h)) (by simp)
      · exact absurd (hb.2 (.inr h)) (by simp)
      · exact h
  · go_ret
    refine ⟨true, rfl, ?_, HW.out⟩
    have hb : a = 0 ∨ a = 1 := HB.out.1 trivial
    refine ⟨fun _ => ?_, fun _ => rfl⟩
    rcases hb with h | h
    · exact .inl h
    · exact .inr (.inl h)
end
end Go.Proofs.YtbahehmfhjkgeaaGreat

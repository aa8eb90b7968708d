/-
  Joined texts: Filt6, Filt7, Filt8, OrS, OrT, LrM, OrP, OrU, OrV, LrS, Ln3, Ln4, Ln5, LnAw.
-/
import Derived.Test.YtbahehmfhjkgeaaGreatMLintRules4
import Derived.Laws.StructEq
import Derived.Test.YtbahehmfhjkgeaaGreatMLintRules11
import Derived.Test.YtbahehmfhjkgeaaGreatMLintRules10
import Derived.Test.YtbahehmfhjkgeaaGreatMLintRules1
import Derived.Test.YtbahehmfhjkgeaaGreatMLintRules9
import Derived.Deep.MidRow
/-
  Walks over the filter's layer: Decides; the program's and the reference's (written by wip/gen/genfilt6.py).
-/
namespace Go.Proofs.YtbahehmfhjkgeaaGreat
open Go Go.RowKit Go.Sort

/-- Which rule decides. -/
def decN (L : List RuleV) (h : HeaderV) : Int := idxP (fun r => fitsB r h) L
/-- .. 0 of a filter that is refused. -/
def decR (L : List RuleV) (h : HeaderV) : Int := if filtE L = 0 then decN L h else 0
end Go.Proofs.YtbahehmfhjkgeaaGreat

/-
  Walks over the filter's layer: Permits, the rules held against each other, the law's own probe (written by wip/gen/genfilt7.py).
-/
namespace Go.Proofs.YtbahehmfhjkgeaaGreat
open Go Go.RowKit Go.Sort

/-- What rule i says; false of none. -/
def permAt (L : List RuleV) (i : Int) : Bool := if 0 ≤ i then (L[i.toNat]?.map (·.permit)).getD false else false
def permN (L : List RuleV) (h : HeaderV) : Bool := permAt L (decN L h)
def permB (L : List RuleV) (h : HeaderV) : Bool := if filtE L = 0 then permN L h else false
theorem eqPref (a n : Int) (d : Nat) (w : World) : (Op.equalIn (d + 1 + 1) 39 (.agg #[.int .u32 a, .int .i64 n]) (.agg #[.int .u32 a, .int .i64 n])).run Tryz.prog w = .ok true w := by
  have hS : Tryz.prog.underlying 39 = some (.struct (Tryz.prog.fieldsOf 39)) := by kernel_rfl
  have hp : Tryz.prog.stoodInHeld 39 = false := by kernel_rfl
  have a1 := Tryz.underlying37
  have a2 := Tryz.isAgg37
  have a3 := Tryz.sizeOf37
  have b1 := Tryz.underlying3
  have b2 := Tryz.isAgg3
  have b3 := Tryz.sizeOf3
  rw [run_equalIn_agg w (d + 1) 39 _ _ hS hp]
  simp only [Program.fieldsOf, Tryz.underlying39]
  go_simp
theorem eqSpan (a n : Int) (d : Nat) (w : World) : (Op.equalIn (d + 1 + 1) 41 (.agg #[.int .u32 a, .int .u32 n]) (.agg #[.int .u32 a, .int .u32 n])).run Tryz.prog w = .ok true w := by
  have hS : Tryz.prog.underlying 41 = some (.struct (Tryz.prog.fieldsOf 41)) := by kernel_rfl
  have hp : Tryz.prog.stoodInHeld 41 = false := by kernel_rfl
  have a1 := Tryz.underlying36
  have a2 := Tryz.isAgg36
  have a3 := Tryz.sizeOf36
  rw [run_equalIn_agg w (d + 1) 41 _ _ hS hp]
  simp only [Program.fieldsOf, Tryz.underlying41]
  go_simp
/-- '!=' says false of a rule and itself. -/
@[go_sem] theorem neqRule (r : RuleV) (w : World) : (binOp .neq 43 (.agg #[.bool r.permit, .int .i64 r.proto, .int .u32 r.sa, .int .i64 r.sn, .int .u32 r.da, .int .i64 r.dn, .int .u32 r.sl, .int .u32 r.sh, .int .u32 r.dl, .int .u32 r.dh]) (.agg #[.bool r.permit, .int .i64 r.proto, .int .u32 r.sa, .int .i64 r.sn, .int .u32 r.da, .int .i64 r.dn, .int .u32 r.sl, .int .u32 r.sh, .int .u32 r.dl, .int .u32 r.dh])).run Tryz.prog w = .ok (.bool false) w := by
  have hS : Tryz.prog.underlying 43 = some (.struct (Tryz.prog.fieldsOf 43)) := by kernel_rfl
  have hp : Tryz.prog.stoodInHeld 43 = false := by kernel_rfl
  have b1 := Tryz.underlying3
  have b2 := Tryz.isAgg3
  have b3 := Tryz.sizeOf3
  have c1 := Tryz.underlying4
  have c2 := Tryz.isAgg4
  have c3 := Tryz.sizeOf4
  have d2 := Tryz.isAgg39
  have d3 := Tryz.sizeOf39
  have e2 := Tryz.isAgg41
  have e3 := Tryz.sizeOf41
  rw [run_neq_struct, show (10000 : Nat) = 9997 + 1 + 1 + 1 from rfl, run_equalIn_agg w (9997 + 1 + 1) 43 _ _ hS hp]
  generalize 9997 = d
  have E1 := fun a n w => eqPref a n d w
  have E2 := fun a n w => eqSpan a n d w
  simp only [Program.fieldsOf, Tryz.underlying43]
  go_simp

end Go.Proofs.YtbahehmfhjkgeaaGreat

/-
  Walks over the filter's layer: the rules held against each other, the law's own probe (written by wip/gen/genfilt8.py).
-/
namespace Go.Proofs.YtbahehmfhjkgeaaGreat
open Go Go.RowKit Go.Sort

def pr0 : RuleV := ⟨true, 6, 0, 0, 0, 0, 0, 65535, 80, 80, by omega, by omega, by omega, by omega, by omega, by omega, by omega⟩
def pr1 : RuleV := ⟨false, -1, 0, 0, 0, 0, 0, 65535, 0, 65535, by omega, by omega, by omega, by omega, by omega, by omega, by omega⟩
def ph0 : HeaderV := ⟨0, 0, 6, 0, 80, by omega, by omega, by omega, by omega, by omega⟩
def ph1 : HeaderV := ⟨0, 0, 6, 0, 81, by omega, by omega, by omega, by omega, by omega⟩
end Go.Proofs.YtbahehmfhjkgeaaGreat

/-
  What the law FilterOrder has laid: two boxes with rows of rules that grow.
-/
namespace Go.Proofs.YtbahehmfhjkgeaaGreat
open Go Go.RowKit Go.ChangeMaps Go.MapKept Go.Maps Go.Lib Go.Sort

/-- Two rows in blocks of their own, apart. -/
def ApartO (v u : Value) : Prop := ∀ g, v.ownBlock = some g → u.ownBlock ≠ some g
theorem ApartO.symm {v u : Value} (h : ApartO v u) : ApartO u v := fun g h1 h2 => h g h2 h1
theorem ApartO.moved {v u v' : Value} {k : Nat} (h : ApartO v u) (hm : Moved v v' k) (hu : ∀ g, u.ownBlock = some g → g < k) : ApartO v' u := fun g h1 h2 => by
  rcases hm with hm | hm
  · exact h g (hm ▸ h1) h2
  · have := hm g h1; have := hu g h2; omega
theorem owns_setO {w : World} {base g i n : Nat} {e : TypeId} {k : Nat} {v u : Value} {xs : List Value} (h : w.ownsRow base e k v n xs) (hg : g < base) : (w.setCell ⟨g, i, none⟩ u).ownsRow base e k v n xs := by
  obtain ⟨hl, h2⟩ := h
  rcases h2 with h2 | ⟨g', cap, cur, rfl, hb, hh, r⟩
  · exact ⟨hl, .inl h2⟩
  · exact ⟨hl, .inr ⟨g', cap, cur, rfl, hb, set_far hh (by show g' ≠ g; omega), r⟩⟩
structure OrSt (w5 W : World) (vq vt : Value) (Q T : List RuleV) : Prop where
  bel : Below w5.heap.size w5 W
  bq : W.heap[w5.heap.size]? = some (.cells #[.string ⟨#[]⟩, vq] 24 (0, 0))
  bt : W.heap[w5.heap.size + 1]? = some (.cells #[.string ⟨#[]⟩, vt] 24 (0, 0))
  qr : W.ownsRow (w5.heap.size + 2) 43 10 vq Q.length (rcells Q)
  tr : W.ownsRow (w5.heap.size + 2) 43 10 vt T.length (rcells T)
  ap : ApartO vq vt
section
variable {w5 W W' : World} {vq vt v' : Value} {Q T : List RuleV}
theorem OrSt.next (h : OrSt w5 W vq vt Q T) (hb : Below W.heap.size W W') : OrSt w5 W' vq vt Q T :=
  ⟨h.bel.trans (hb.mono h.bel.size), blk_below hb h.bq, blk_below hb h.bt, owns_kept_none h.qr (only_of_below hb none), owns_kept_none h.tr (only_of_below hb none), h.ap⟩
theorem OrSt.lt (h : OrSt w5 W vq vt Q T) : w5.heap.size + 2 ≤ W.heap.size := lt_of_block h.bt
theorem renc_oneO (r : RuleV) : ∀ u ∈ r.enc, u.oneCell' = true := fun u hu => by
  simp only [RuleV.enc, List.mem_cons, List.not_mem_nil, or_false] at hu
  rcases hu with rfl | rfl | rfl | rfl | rfl | rfl | rfl | rfl | rfl | rfl <;> rfl
end
end Go.Proofs.YtbahehmfhjkgeaaGreat

/-
  What the law FilterOrder knows of its space: the calls on it, each with room.
-/
namespace Go.Proofs.YtbahehmfhjkgeaaGreat
open Go Go.RowKit Go.ChangeMaps Go.MapKept Go.Maps Go.Lib Go.Sort

theorem filtE_may {L : List RuleV} (he : filtE L = 0) : ∀ r ∈ L, mayB r = true := fun r hr => by
  unfold filtE at he
  split at he
  · cases he
  · split at he
    · cases he
    · rename_i h1 h2
      simp only [List.any_eq_true, not_exists, not_and, Bool.not_eq_true'] at h2
      have := h2 r hr
      simpa using this
theorem filtE_of {L : List RuleV} (hl : L.length ≤ 256) (h : ∀ r ∈ L, mayB r = true) : filtE L = 0 := filtE_3 (by omega) (by
  rw [List.any_eq_false]
  intro x hx
  rw [h x hx]
  simp)
theorem may_flip {r : RuleV} (h : mayB r = true) : mayB (flipR r) = true := h
theorem may_perm {r : RuleV} (h : mayB r = true) : mayB (permR r) = true := h
/-- What is known of the space, of the filter, of what was there. -/
structure FoB (w : World) (B : Nat) (nm : ByteArray) (Ad : Option Addr) (c : Nat) (M : List RuleV) (S km : Nat) (A : Blks) (k : Nat) (σ : Sg) (W : World) : Prop where
  sp : SpOk W B S km A 4194304 σ
  nl : σ.N.length ≤ 2 + k
  hl : σ.H.length ≤ k
  row : W.heap[w.heap.size]? = some (.cells #[.string nm, .slice Ad M.length c] 24 (0, 0))
  rd : Rd W w.heap.size 10 (.slice Ad M.length c) M.length (rcells M)
  bel : Below w.heap.size w W
  lo : w.heap.size < B
  km : B ≤ km
/-- The nodes that are known. -/
structure FoK (σ : Sg) (M : List RuleV) (a : Nat) : Prop where
  a : Den σ a (setF M M.length)
  d : ∀ i, i < M.length → ∃ g, Den σ g (decF M i)
  l : ∀ i, i ≤ M.length → ∃ g, Den σ g (leftF M i)
  s : ∀ i, i ≤ M.length → ∃ g, Den σ g (setF M i)
theorem FoK.to {σ τ : Sg} {M : List RuleV} {a k m : Nat} (h : FoK σ M a) (t : To k m σ τ) (o : SgOk 4194304 σ) (p : SgOk 4194304 τ) : FoK τ M a :=
  ⟨h.a.to t o p, fun i hi => (h.d i hi).imp fun _ g => g.to t o p, fun i hi => (h.l i hi).imp fun _ g => g.to t o p, fun i hi => (h.s i hi).imp fun _ g => g.to t o p⟩
section
variable {w W W' : World} {B : Nat} {nm : ByteArray} {Ad : Option Addr} {c : Nat} {M : List RuleV} {S km : Nat} {A : Blks} {k m a : Nat} {σ τ : Sg}
theorem FoB.next (h : FoB w B nm Ad c M S km A k σ W) (hb : Below W.heap.size W W') : FoB w B nm Ad c M S km A k σ W' :=
  ⟨h.sp.below hb, h.nl, h.hl, blk_below hb h.row, h.rd.below (hb.mono h.bel.size), h.bel.trans (hb.mono h.bel.size), h.lo, h.km⟩
theorem FoB.set (h : FoB w B nm Ad c M S km A k σ W) (hk : KeptS A km W W') (hs : SpOk W' B S km A 4194304 τ) (t : To m m σ τ) : FoB w B nm Ad c M S km A (k + m) τ W' := by
  have hb := h.sp.low h.km hk
  have hl := h.lo
  refine ⟨hs, ?_, ?_, (hb.block _ hl).trans h.row, h.rd.below (hb.mono (by omega)), h.bel.trans (hb.mono (by omega)), hl, h.km⟩
  · have := t.nl; have := h.nl; omega
  · have := t.hl; have := h.hl; omega
theorem FoB.rdf (h : FoB w B nm Ad c M S km A k σ W) : RdF A km W 10 (.slice Ad M.length c) M.length (rcells M) := by
  obtain ⟨Q, c', hv, hc, hl10, hp⟩ := h.rd
  injection hv with e1 e2 e3
  subst e1 e3
  have hl := h.lo
  have hkm := h.km
  refine ⟨Ad, c, rfl, hc, hl10, fun h0 => ?_⟩
  obtain ⟨b, off, hA, hlt, hcell⟩ := hp h0
  exact ⟨b, off, hA, h.sp.foreign_low (by omega), by omega, hcell⟩
/-- A row that was laid behind the space. -/
theorem FoB.rdo (h : FoB w B nm Ad c M S km A k σ W) (hb : Below W.heap.size W W') {v : Value} {L : List RuleV} {base : Nat} {e : TypeId} (ho : W'.ownsRow base e 10 v L.length (rcells L)) (hbs : W.heap.size ≤ base) : RdF A km W' 10 v L.length (rcells L) := by
  have hkm := h.sp.sp.fk.1
  rcases ho.2 with ⟨rfl, hn⟩ | ⟨g, cap, cur, rfl, hbg, hg, _⟩
  · rw [hn]
    exact ⟨none, 0, rfl, Nat.le_refl _, by rw [ho.1, hn], fun h0 => absurd h0 (by omega)⟩
  · obtain ⟨P, cc, hv, hc, hl, hp⟩ := Rd.of_own ho
    refine ⟨P, cc, hv, hc, hl, fun h0 => ?_⟩
    obtain ⟨b, off, hP, hlt, hcell⟩ := hp h0
    subst hP
    injection hv with hv1 _ _
    injection hv1 with hv1
    injection hv1 with hv1 _
    subst hv1
    exact ⟨g, off, rfl, h.sp.sp.ar.foreign_new hb (by omega) hlt, by omega, hcell⟩
/-- Set, where there is room. -/
theorem FoB.setC (h : FoB w B nm Ad c M S km A k σ W) (n1 : ByteArray) (L : List RuleV) (vL : Value) (hL : RdF A km W 10 vL L.length (rcells L)) (he : filtE L = 0) (cd cl cs : Nat → Nat) (hK : ∀ (k : Nat) (r : RuleV), L[k]? = some r → Fits σ (decF L k) (cd k) ∧ Fits σ (leftF L (k + 1)) (cl k)) (hKs : ∀ k, k < L.length → Fits σ (setF L (k + 1)) (cs k)) (m : Nat) (hm : sumTo (rcst cd cl) L.length + sumTo cs L.length ≤ m) (hr : k + m ≤ 4194304) :
    Calls Tryz.prog 10 #[.pointer (some ⟨S, 0, none⟩), .agg #[.string n1, vL]] W fun e W' => ∃ (r : Nat) (τ : Sg), e = .returned (.tuple #[.int .i64 r, .int .i64 0]) ∧ FoB w B nm Ad c M S km A (k + m) τ W' ∧ KeptS A km W W' ∧ To m m σ τ ∧ Den τ r (setF L L.length) ∧ (∀ i, i < L.length → ∃ g, Den τ g (decF L i)) ∧ (∀ i, i ≤ L.length → ∃ g, Den τ g (leftF L i)) ∧ ∀ i, i ≤ L.length → ∃ g, Den τ g (setF L i) := by
  have hn := h.nl
  have hh := h.hl
  refine (set_c h.sp n1 L vL hL he cd cl cs hK hKs (by omega)).mono fun e W' hx => ?_
  obtain ⟨r, τ, rfl, hs, ht, hd, h1, h2, h3⟩ := hx.room (by omega)
  have ht' := ht.mono hm hm
  exact ⟨r, τ, rfl, h.set hx.1 hs ht', hx.1, ht', hd, h1, h2, h3⟩
theorem FoB.first (h : FoB w B nm Ad c M S km A 0 σ W) (he : filtE M = 0) (hM : M.length ≤ 12) :
    Calls Tryz.prog 10 #[.pointer (some ⟨S, 0, none⟩), .agg #[.string nm, .slice Ad M.length c]] W fun e W' => ∃ (r : Nat) (τ : Sg), e = .returned (.tuple #[.int .i64 r, .int .i64 0]) ∧ FoB w B nm Ad c M S km A 1822968 τ W' ∧ FoK τ M r := by
  have ok := (rule_may he).2
  refine (h.setC nm M _ h.rdf he bS bS bS (fun k r hr => ⟨.inl (dec_w ok (List.getElem?_eq_some_iff.1 hr).1), .inl (left_w ok (List.getElem?_eq_some_iff.1 hr).1)⟩) (fun k hk => .inl (set_w ok hk)) 1822968 (cost_set hM) (by omega)).mono fun e W' hx => ?_
  obtain ⟨r, τ, rfl, hb, _, _, hd, h1, h2, h3⟩ := hx
  rw [Nat.zero_add] at hb
  exact ⟨r, τ, rfl, hb, hd, h1, h2, h3⟩
theorem sumTo_nul (n : Nat) : sumTo (fun _ => 0) n = 0 := by
  have := sumTo_const 0 n
  simpa using this
theorem FoB.rules (h : FoB w B nm Ad c M S km A k σ W) (K : FoK σ M a) (he : filtE M = 0) (hM : M.length ≤ 12) (hr : k + 81120 ≤ 4194304) :
    Calls Tryz.prog 11 #[.pointer (some ⟨S, 0, none⟩), .agg #[.string nm, .slice Ad M.length c]] W fun e W' => ∃ (v : Value) (ns : List Nat) (τ : Sg), e = .returned (.tuple #[v, .int .i64 0]) ∧ FoB w B nm Ad c M S km A (k + 81120) τ W' ∧ FoK τ M a ∧ ns.length = M.length ∧ (∀ i n, ns[i]? = some n → Den τ n (decF M i)) ∧ W'.ownsRow W.heap.size 3 1 v ns.length (ncl ns) := by
  have hn := h.nl
  have hh := h.hl
  have hc := sumTo_rz M.length
  refine (rules_c h.sp nm M _ h.rdf he (fun _ => 0) (fun _ => 0) (fun k r hr => ⟨.inr (K.d k (List.getElem?_eq_some_iff.1 hr).1), .inr (K.l (k + 1) (List.getElem?_eq_some_iff.1 hr).1)⟩) (by omega)).mono fun e W' hx => ?_
  obtain ⟨hk, hx⟩ := hx
  rcases hx with ⟨_, h2, _⟩ | ⟨v, ns, τ, rfl, hs, ht, hl, hd, _, ho, _⟩
  · omega
  · have ht' := ht.mono (show _ ≤ 81120 by omega) (show _ ≤ 81120 by omega)
    exact ⟨v, ns, τ, rfl, h.set hk hs ht', K.to ht' h.sp.ok hs.ok, hl, hd, ho⟩
theorem FoB.less (h : FoB w B nm Ad c M S km A k σ W) (K : FoK σ M a) (he : filtE M = 0) (hM : M.length ≤ 12) (hr : k + 81120 ≤ 4194304) {D : Nat → Bool} (hD : ∀ k, k < M.length → D k = false → decF M k = fun _ => false) (n1 : ByteArray) (vQ : Value) (hQ : RdF A km W 10 vQ (keepR D M M.length).length (rcells (keepR D M M.length))) :
    Calls Tryz.prog 10 #[.pointer (some ⟨S, 0, none⟩), .agg #[.string n1, vQ]] W fun e W' => ∃ τ : Sg, e = .returned (.tuple #[.int .i64 a, .int .i64 0]) ∧ FoB w B nm Ad c M S km A (k + 81120) τ W' ∧ KeptS A km W W' ∧ FoK τ M a := by
  obtain ⟨e1, e2, e3⟩ := keepR_ok hD M.length (Nat.le_refl _)
  have hl := keepR_len D M M.length
  have hq : filtE (keepR D M M.length) = 0 := filtE_of (by omega) fun r hr => filtE_may he r (keepR_mem hr)
  have hc := sumTo_rz (keepR D M M.length).length
  have hz := sumTo_nul (keepR D M M.length).length
  refine (h.setC n1 _ vQ hQ hq (fun _ => 0) (fun _ => 0) (fun _ => 0) (fun j r hj => ?_) (fun j hj => ?_) 81120 (by omega) hr).mono fun e W' hx => ?_
  · obtain ⟨i, hi, _, a1, a2, _⟩ := e3 j (List.getElem?_eq_some_iff.1 hj).1
    rw [a1, a2]
    exact ⟨.inr (K.d i hi), .inr (K.l (i + 1) hi)⟩
  · obtain ⟨i, hi, _, _, _, a3⟩ := e3 j hj
    rw [a3]
    exact .inr (K.s (i + 1) hi)
  · obtain ⟨r, τ, rfl, hb, hk, ht, hd, _⟩ := hx
    have K' := K.to ht h.sp.ok hb.sp.ok
    rw [e2] at hd
    obtain rfl := hd.same K'.a hb.sp.ok
    exact ⟨τ, rfl, hb, hk, K'⟩
theorem FoB.turned (h : FoB w B nm Ad c M S km A k σ W) (K : FoK σ M a) (he : filtE M = 0) (hM : M.length ≤ 12) (hr : k + 936008 ≤ 4194304) (n1 : ByteArray) (vT : Value) (hT : RdF A km W 10 vT (M.map flipR ++ [openR]).length (rcells (M.map flipR ++ [openR]))) :
    Calls Tryz.prog 10 #[.pointer (some ⟨S, 0, none⟩), .agg #[.string n1, vT]] W fun e W' => ∃ (r : Nat) (τ : Sg), e = .returned (.tuple #[.int .i64 r, .int .i64 0]) ∧ FoB w B nm Ad c M S km A (k + 936008) τ W' ∧ FoK τ M a ∧ Den τ r (fun s => !setF M M.length s) := by
  have hl : (M.map flipR).length = M.length := List.length_map ..
  have hl1 : (M.map flipR ++ [openR]).length = M.length + 1 := by simp
  have hq : filtE (M.map flipR ++ [openR]) = 0 := filtE_of (by omega) fun r hr => by
    rcases List.mem_append.1 hr with hr | hr
    · obtain ⟨x, hx, rfl⟩ := List.mem_map.1 hr
      exact may_flip (filtE_may he x hx)
    · rw [List.mem_singleton.1 hr]
      exact openR_may
  have ok := (rule_may hq).2
  have hc := sumTo_rz (M.map flipR ++ [openR]).length
  have hz := cost_turn (n := (M.map flipR ++ [openR]).length) (by omega)
  refine (h.setC n1 _ vT hT hq (fun _ => 0) (fun _ => 0) bS (fun j r hj => ?_) (fun j hj => .inl (set_w ok hj)) 936008 (by omega) hr).mono fun e W' hx => ?_
  · have hj1 := (List.getElem?_eq_some_iff.1 hj).1
    rcases Nat.lt_or_ge j M.length with h1 | h1
    · rw [dec_app (by omega), left_app (by omega), dec_flip, left_flip]
      exact ⟨.inr (K.d j h1), .inr (K.l (j + 1) h1)⟩
    · obtain rfl : j = M.length := by omega
      have d1 := dec_last (M.map flipR) openR
      have d2 := left_last (M.map flipR) openR
      rw [hl, openR_F, left_flip] at d1 d2
      rw [d1, d2]
      refine ⟨.inr ?_, .inr ?_⟩
      · obtain ⟨g, hg⟩ := K.l M.length (Nat.le_refl _)
        exact ⟨g, hg.1, fun s => by rw [hg.2 s]; simp⟩
      · have z := Den.zero h.sp.ok
        exact ⟨0, z.1, fun s => by rw [z.2 s]; simp⟩
  · obtain ⟨r, τ, rfl, hb, _, ht, hd, _⟩ := hx
    rw [hl1, openR_one openR_F M rfl] at hd
    exact ⟨r, τ, rfl, hb, K.to ht h.sp.ok hb.sp.ok, hd⟩
theorem SpRes.roomO {F : Fun} {p q : Nat} {e : Ending} (h : SpRes W B S km A 4194304 σ F p q e W') (hr : σ.H.length + q ≤ 4194304) :
    ∃ (r : Nat) (τ : Sg), e = .returned (.tuple #[.int .i64 (r : Nat), .int .i64 0]) ∧ SpOk W' B S km A 4194304 τ ∧ To p q σ τ ∧ Den τ r F := by
  rcases h.2 with ⟨_, h2, _⟩ | ⟨r, τ, h1, h2⟩
  · omega
  · exact ⟨r, τ, h1, h2⟩
theorem FoB.inv (h : FoB w B nm Ad c M S km A k σ W) (K : FoK σ M a) (hr : k ≤ 4194304) {r : Nat} (hd : Den σ r (fun s => !setF M M.length s)) :
    Calls Tryz.prog 12 #[.pointer (some ⟨S, 0, none⟩), .int .i64 a] W fun e W' => ∃ τ : Sg, e = .returned (.tuple #[.int .i64 r, .int .i64 0]) ∧ FoB w B nm Ad c M S km A k τ W' ∧ FoK τ M a := by
  have hn := h.nl
  have hh := h.hl
  refine (relNot_yes h.sp K.a (setF_set M _) (hd.grow h.sp.ok) (by omega)).mono fun e W' hx => ?_
  obtain ⟨q, τ, rfl, hs, ht, hq⟩ := hx.roomO (by omega)
  have hb := h.set (m := 0) hx.1 hs ht
  obtain rfl := hq.same (hd.to ht h.sp.ok hs.ok) hs.ok
  exact ⟨τ, rfl, hb, K.to ht h.sp.ok hs.ok⟩
theorem set_oneF (x : RuleV) : setF [permR x] 1 = ruleF x ∧ decF [permR x] 0 = ruleF x ∧ leftF [permR x] 1 = fun s => !ruleF x s := by
  have d1 := dec_last [] (permR x)
  have d2 := left_last [] (permR x)
  have d3 := set_last [] (permR x)
  simp only [List.nil_append, List.length_nil] at d1 d2 d3
  rw [ruleF_perm] at d1 d2 d3
  have l0 : leftF ([] : List RuleV) 0 = fun _ => true := rfl
  have s0 : setF ([] : List RuleV) 0 = fun _ => false := rfl
  rw [l0] at d1 d2 d3
  rw [s0, if_pos (show (permR x).permit = true from rfl)] at d3
  refine ⟨d3.trans ?_, d1.trans ?_, d2.trans ?_⟩
  all_goals (funext s; simp)
theorem FoB.one (h : FoB w B nm Ad c M S km A k σ W) (K : FoK σ M a) (hr : k + 7168 ≤ 4194304) {x : RuleV} (hx : mayB x = true) (n1 : ByteArray) {v : Value} (hv : RdF A km W 10 v 1 (rcells [permR x])) :
    Calls Tryz.prog 10 #[.pointer (some ⟨S, 0, none⟩), .agg #[.string n1, v]] W fun e W' => ∃ (r : Nat) (τ : Sg), e = .returned (.tuple #[.int .i64 r, .int .i64 0]) ∧ FoB w B nm Ad c M S km A (k + 7168) τ W' ∧ FoK τ M a ∧ Den τ r (ruleF x) ∧ To 7168 7168 σ τ := by
  have hq : filtE [permR x] = 0 := filtE_of (by simp) fun r hr => by rw [List.mem_singleton.1 hr]; exact may_perm hx
  have ok := (rule_may hq).2
  have c1 : sumTo (rcst bS bS) 1 + sumTo bS 1 = 7168 := by decide +kernel
  refine (h.setC n1 [permR x] v hv hq bS bS bS (fun j r hj => ⟨.inl (dec_w ok (List.getElem?_eq_some_iff.1 hj).1), .inl (left_w ok (List.getElem?_eq_some_iff.1 hj).1)⟩) (fun j hj => .inl (set_w ok hj)) 7168 (by rw [List.length_singleton, c1]; exact Nat.le_refl _) hr).mono fun e W' hx => ?_
  obtain ⟨r, τ, rfl, hb, _, ht, hd, _⟩ := hx
  rw [List.length_singleton, (set_oneF x).1] at hd
  exact ⟨r, τ, rfl, hb, K.to ht h.sp.ok hb.sp.ok, hd, ht⟩
theorem FoB.both (h : FoB w B nm Ad c M S km A k σ W) (K : FoK σ M a) (he : filtE M = 0) (hr : k + 576 ≤ 4194304) {i j : Nat} {x y : RuleV} (hx : M[i]? = some x) (hy : M[j]? = some y) {f g : Nat} (hf : Den σ f (ruleF x)) (hg : Den σ g (ruleF y)) :
    Calls Tryz.prog 14 #[.pointer (some ⟨S, 0, none⟩), .int .i64 f, .int .i64 g] W fun e W' => ∃ (r : Nat) (τ : Sg), e = .returned (.tuple #[.int .i64 r, .int .i64 0]) ∧ FoB w B nm Ad c M S km A (k + 576) τ W' ∧ FoK τ M a ∧ Den τ r (fun s => ruleF x s && ruleF y s) := by
  have hn := h.nl
  have hh := h.hl
  have hw := two_w (rule_may he).2 hx hy
  rw [bW_2] at hw
  have hgr := Fits.grow (.inl hw) (To.refl σ) h.sp.ok h.sp.ok
  have sx : SetF (ruleF x) := (set_oneF x).1 ▸ setF_set [permR x] 1
  have sy : SetF (ruleF y) := (set_oneF y).1 ▸ setF_set [permR y] 1
  refine (relAnd_yes h.sp hf hg sx sy hgr (by omega)).mono fun e W' hx => ?_
  obtain ⟨q, τ, rfl, hs, ht, hq⟩ := hx.roomO (by omega)
  exact ⟨q, τ, rfl, h.set hx.1 hs ht, K.to ht h.sp.ok hs.ok, hq⟩
end
end Go.Proofs.YtbahehmfhjkgeaaGreat

/-
  What LintRules says, without the program: what decides nothing is left out, one by one and all together.
-/
namespace Go.Proofs.YtbahehmfhjkgeaaGreat
open Go Go.RowKit Go.ChangeMaps Go.MapKept Go.Maps Go.Lib Go.Sort

/-- Is a place in a list? -/
def hasZ (L : List Nat) (n : Nat) : Bool := L.any fun x => x == n
theorem hasZ_zeros (L : List RuleV) {i : Nat} (hi : i < L.length) : hasZ (zerosP L L.length) i = zF (decF L i) := by
  unfold hasZ zerosP
  rw [Bool.eq_iff_iff, List.any_eq_true]
  constructor
  · rintro ⟨x, hx, he⟩
    obtain rfl : x = i := by simpa using he
    exact (List.mem_filter.1 hx).2
  · intro h
    exact ⟨i, List.mem_filter.2 ⟨List.mem_range.2 hi, h⟩, by simp⟩
theorem zF_dec {L : List RuleV} {i : Nat} (h : zF (decF L i) = true) : decF L i = fun _ => false := funext ((zF_iff _).1 h)
/-- All but one. -/
def notAt (i : Nat) : Nat → Bool := fun k => !(k == i)
theorem keepR_head {D : Nat → Bool} {L : List RuleV} : ∀ k, k ≤ L.length → (∀ j, j < k → D j = true) → keepR D L k = L.take k
  | 0, _, _ => by simp [keepR]
  | k + 1, hk, h => by
    obtain ⟨r, hr⟩ : ∃ r, L[k]? = some r := ⟨_, List.getElem?_eq_getElem hk⟩
    rw [keepR_yes hr (h k (Nat.lt_succ_self k)), keepR_head k (by omega) (fun j hj => h j (by omega)), take_snocR hr]
theorem keepR_not {L : List RuleV} {i : Nat} (hi : i < L.length) : ∀ k, i < k → k ≤ L.length → keepR (notAt i) L k = L.take i ++ (L.take k).drop (i + 1)
  | 0, h, _ => absurd h (by omega)
  | k + 1, h, hk => by
    obtain ⟨r, hr⟩ : ∃ r, L[k]? = some r := ⟨_, List.getElem?_eq_getElem hk⟩
    rcases Nat.eq_or_lt_of_le (Nat.le_of_lt_succ h) with e | e
    · subst e
      rw [keepR_no (by simp [notAt]), keepR_head i (by omega) (fun j hj => by simp [notAt]; omega), List.drop_eq_nil_of_le (by rw [List.length_take]; omega), List.append_nil]
    · rw [keepR_yes hr (by simp [notAt]; omega), keepR_not hi k e (by omega), take_snocR hr, List.append_assoc, List.drop_append_of_le_length (by rw [List.length_take]; omega)]
theorem keepR_one {L : List RuleV} {i : Nat} (hi : i < L.length) : keepR (notAt i) L L.length = L.take i ++ L.drop (i + 1) := by
  rw [keepR_not hi L.length hi (Nat.le_refl _), List.take_length]
theorem keepR_one_len {L : List RuleV} {i : Nat} (hi : i < L.length) : (keepR (notAt i) L L.length).length = L.length - 1 := by
  rw [keepR_one hi, List.length_append, List.length_take, List.length_drop]
  omega
/-- What is left decides something. -/
theorem zeros_keep {D : Nat → Bool} {L : List RuleV} (hD : ∀ k, k < L.length → D k = !zF (decF L k)) : zerosP (keepR D L L.length) (keepR D L L.length).length = [] := by
  obtain ⟨_, _, e3⟩ := keepR_ok (D := D) (L := L) (fun k hk h => zF_dec (by rw [hD k hk] at h; simpa using h)) L.length (Nat.le_refl _)
  unfold zerosP
  refine List.filter_eq_nil_iff.2 fun j hj => ?_
  obtain ⟨i, hi, h1, h2, _⟩ := e3 j (List.mem_range.1 hj)
  rw [h2]
  rw [hD i hi] at h1
  simpa using h1
section
set_option maxRecDepth 100000
set_option maxHeartbeats 4000000
theorem lrHas_any (P : List Nat) (v : Value) (y : Nat) (w : World) (h : Rd w w.heap.size 1 v P.length (ncl P)) (hlen : P.length ≤ 1099511627776) :
    Calls Tryz.prog 17 #[v, .int .i64 y] w fun e w' => e = .returned (.bool (hasZ P y)) ∧ w' = w := by
  obtain ⟨A, c, rfl, hc⟩ := h.form
  have HR := Lib.hid h
  clear h
  go_enter Tryz.func17, Tryz.ntmps17
  go_wp2
  go_loopw [5] (fun i wr => ∃ k : Nat, i = .int .i64 k ∧ k ≤ P.length ∧ Hid (∀ (j x : Nat), j < k → P[j]? = some x → (x == y) = false) ∧ wr = w) (fun i _ => P.length - (intOf i).toNat)
  case atStart => exact ⟨0, rfl, by omega, Lib.hid (fun j x hj _ => by omega), rfl⟩
  case round =>
    obtain ⟨k, rfl, hk, HN, rfl⟩ := hrel
    by_cases hlt : k < P.length
    · have hI : (k : Int) < (P.length : Int) := by omega
      obtain ⟨x, hx⟩ : ∃ x, P[k]? = some x := ⟨_, List.getElem?_eq_getElem hlt⟩
      obtain ⟨b, off, c', hv, _, hbB, hcell⟩ := HR.out.pos (by omega)
      injection hv with hv1 hvl hv3
      subst hv1 hv3
      clear hvl
      have c0 : wr.cell? ⟨b, off + k, none⟩ = some (.int .i64 (x : Int)) := hcell k _ (by simp [ncl, hx])
      have HX := Lib.hid hx
      clear hcell hx
      by_cases hq : x = y
      · subst hq
        go_wp2
        go_ret
        exact ⟨by rw [show hasZ P x = true from List.any_eq_true.2 ⟨x, List.mem_of_getElem? HX.out, by simp⟩]; rfl, rfl⟩
      · have hq2 : ((x : Int) == (y : Int)) = false := by simp; omega
        go_wp2
        exact ⟨⟨k + 1, by go_num, by omega, Lib.hid (fun j z hj hz => by
          rcases Nat.lt_or_ge j k with h1 | h1
          · exact HN.out j z h1 hz
          · obtain rfl : j = k := by omega
            rw [HX.out] at hz
            injection hz with hz
            subst hz
            simpa using hq), (by first | trivial | rfl)⟩, by simp only [intOf]; omega⟩
    · obtain rfl : k = P.length := by omega
      have hI : ¬ (P.length : Int) < (P.length : Int) := by omega
      have HFIN : Hid (hasZ P y = false) := Lib.hid (List.any_eq_false.2 fun x hx => by
        obtain ⟨j, hj⟩ := List.mem_iff_getElem?.1 hx
        rw [HN.out j x (List.getElem?_eq_some_iff.1 hj).1 hj]
        simp)
      go_wp2
      go_ret
      exact ⟨by rw [HFIN.out]; rfl, rfl⟩
end
end Go.Proofs.YtbahehmfhjkgeaaGreat

/-
  waymarklaw10.permit.
-/
namespace Go.Proofs.YtbahehmfhjkgeaaGreat
open Go Go.RowKit Go.ChangeMaps Go.MapKept Go.Maps Go.Lib Go.Sort

section
set_option maxRecDepth 100000
set_option maxHeartbeats 4000000
end
end Go.Proofs.YtbahehmfhjkgeaaGreat

/-
  FilterOrder: two neighbours; a filter of one rule; a list that is copied and turned about.
-/
namespace Go.Proofs.YtbahehmfhjkgeaaGreat
open Go Go.RowKit Go.ChangeMaps Go.MapKept Go.Maps Go.Lib Go.Sort

section
variable {w W W' : World} {B : Nat} {nm : ByteArray} {Ad : Option Addr} {c : Nat} {M : List RuleV} {S km : Nat} {A : Blks} {k m a : Nat} {σ τ : Sg}
end
end Go.Proofs.YtbahehmfhjkgeaaGreat

/-
  Two rules of a row change places; no program.
-/
namespace Go.Proofs.YtbahehmfhjkgeaaGreat
open Go Go.RowKit Go.ChangeMaps Go.MapKept Go.Maps Go.Lib Go.Sort

section
variable {W : World} {g k : Nat} {P Q : List RuleV} {x y : RuleV}
end
end Go.Proofs.YtbahehmfhjkgeaaGreat

/-
  What the law on the rules that may be left out keeps in its loop: the space with its nodes, the rules that are left, the two lists.
-/
namespace Go.Proofs.YtbahehmfhjkgeaaGreat
open Go Go.RowKit Go.ChangeMaps Go.MapKept Go.Maps Go.Lib Go.Sort

section
variable {w W W' : World} {B : Nat} {nm : ByteArray} {Ad : Option Addr} {c : Nat} {M : List RuleV} {S km : Nat} {A : Blks} {k m a : Nat} {σ τ : Sg}
theorem FoB.more (h : FoB w B nm Ad c M S km A k σ W) (hk : k ≤ m) : FoB w B nm Ad c M S km A m σ W :=
  ⟨h.sp, by have := h.nl; omega, by have := h.hl; omega, h.row, h.rd, h.bel, h.lo, h.km⟩
theorem FoB.firstK (h : FoB w B nm Ad c M S km A 0 σ W) (he : filtE M = 0) (hM : M.length ≤ 12) :
    Calls Tryz.prog 10 #[.pointer (some ⟨S, 0, none⟩), .agg #[.string nm, .slice Ad M.length c]] W fun e W' => ∃ (r : Nat) (τ : Sg), e = .returned (.tuple #[.int .i64 r, .int .i64 0]) ∧ FoB w B nm Ad c M S km A 1822968 τ W' ∧ FoK τ M r ∧ KeptS A km W W' := by
  have ok := (rule_may he).2
  refine (h.setC nm M _ h.rdf he bS bS bS (fun k r hr => ⟨.inl (dec_w ok (List.getElem?_eq_some_iff.1 hr).1), .inl (left_w ok (List.getElem?_eq_some_iff.1 hr).1)⟩) (fun k hk => .inl (set_w ok hk)) 1822968 (cost_set hM) (by omega)).mono fun e W' hx => ?_
  obtain ⟨r, τ, rfl, hb, hk, _, hd, h1, h2, h3⟩ := hx
  rw [Nat.zero_add] at hb
  exact ⟨r, τ, rfl, hb, ⟨hd, h1, h2, h3⟩, hk⟩
theorem FoB.rulesK (h : FoB w B nm Ad c M S km A k σ W) (K : FoK σ M a) (he : filtE M = 0) (hM : M.length ≤ 12) (hr : k + 81120 ≤ 4194304) :
    Calls Tryz.prog 11 #[.pointer (some ⟨S, 0, none⟩), .agg #[.string nm, .slice Ad M.length c]] W fun e W' => ∃ (v : Value) (ns : List Nat) (τ : Sg), e = .returned (.tuple #[v, .int .i64 0]) ∧ FoB w B nm Ad c M S km A (k + 81120) τ W' ∧ FoK τ M a ∧ ns.length = M.length ∧ (∀ i n, ns[i]? = some n → Den τ n (decF M i)) ∧ W'.ownsRow W.heap.size 3 1 v ns.length (ncl ns) ∧ KeptS A km W W' ∧ OwnF A km S W' v := by
  have hn := h.nl
  have hh := h.hl
  have hc := sumTo_rz M.length
  refine (rules_c h.sp nm M _ h.rdf he (fun _ => 0) (fun _ => 0) (fun k r hr => ⟨.inr (K.d k (List.getElem?_eq_some_iff.1 hr).1), .inr (K.l (k + 1) (List.getElem?_eq_some_iff.1 hr).1)⟩) (by omega)).mono fun e W' hx => ?_
  obtain ⟨hk, hx⟩ := hx
  rcases hx with ⟨_, h2, _⟩ | ⟨v, ns, τ, rfl, hs, ht, hl, hd, _, ho, hf⟩
  · omega
  · have ht' := ht.mono (show _ ≤ 81120 by omega) (show _ ≤ 81120 by omega)
    exact ⟨v, ns, τ, rfl, h.set hk hs ht', K.to ht' h.sp.ok hs.ok, hl, hd, ho, hk, hf⟩
/-- Where a block of others turned. -/
theorem FoB.others (h : FoB w B nm Ad c M S km A k σ W) {r : Option Nat} (hg : W.grownBy W' r) (hr : ∀ g, r = some g → Foreign A W g ∧ g ≠ km ∧ g ≠ S) (hlo : ∀ g, r = some g → w.heap.size < g) :
    FoB w B nm Ad c M S km A k σ W' ∧ (∀ k, Foreign A W k → Foreign A W' k) ∧ ∀ k, W.heap.size ≤ k → k < W'.heap.size → Foreign A W' k ∧ k ≠ km ∧ k ≠ S := by
  obtain ⟨s1, s2, s3⟩ := h.sp.others hg hr
  have hl := lt_of_block h.row
  have hb : Below w.heap.size W W' := ⟨hg.os, hg.tape, hg.output, hg.size, fun i hi => hg.block i (by omega) fun e => by have := hlo i e.symm; omega⟩
  exact ⟨⟨s1, h.nl, h.hl, (hg.block _ hl fun e => by have := hlo _ e.symm; omega).trans h.row, h.rd.below hb, h.bel.trans hb, h.lo, h.km⟩, s2, s3⟩
/-- A list that is read: in a block of others, ahead of a place. -/
def RdL (A : Blks) (km lim : Nat) (w : World) (v : Value) (n : Nat) (xs : List Value) : Prop := RdF A km w 1 v n xs ∧ ∀ g, v.ownBlock = some g → g < lim
theorem RdL.kept {lim n : Nat} {v : Value} {xs : List Value} (h : RdL A km lim W v n xs) (hk : KeptS A km W W') : RdL A km lim W' v n xs := ⟨h.1.kept hk, h.2⟩
theorem RdL.others {lim n : Nat} {v : Value} {xs : List Value} (h : RdL A km lim W v n xs) {r : Option Nat} (hg : W.grownBy W' r) (hf : ∀ k, Foreign A W k → Foreign A W' k) (hr : ∀ g, r = some g → lim ≤ g) : RdL A km lim W' v n xs := by
  obtain ⟨⟨P, c, rfl, h2, h3, h4⟩, hl⟩ := h
  refine ⟨⟨P, c, rfl, h2, h3, fun hn => ?_⟩, hl⟩
  obtain ⟨b, off, rfl, f, f2, g⟩ := h4 hn
  have hb := hl b rfl
  exact ⟨b, off, rfl, hf b f, f2, fun j u hu => (World.cell?_of_block (hg.block b f.1 fun e => by have := hr b e.symm; omega)).trans (g j u hu)⟩
theorem RdL.of_own {lim n base : Nat} {v : Value} {xs : List Value} {e : TypeId} (ho : W.ownsRow base e 1 v n xs) (hf : OwnF A km S W v) (hl : W.heap.size ≤ lim) : RdL A km lim W v n xs := by
  refine ⟨?_, fun g hg => by have := (ho.lt g hg).2; omega⟩
  rcases ho.2 with ⟨rfl, hn⟩ | ⟨g, cap, cur, rfl, hbg, hg, _⟩
  · rw [hn]
    exact ⟨none, 0, rfl, Nat.le_refl _, by rw [ho.1, hn], fun h0 => absurd h0 (by omega)⟩
  · obtain ⟨P, cc, hv, hc, hl, hp⟩ := Rd.of_own ho
    refine ⟨P, cc, hv, hc, hl, fun h0 => ?_⟩
    obtain ⟨b, off, hP, hlt, hcell⟩ := hp h0
    subst hP
    injection hv with hv1 _ _
    injection hv1 with hv1
    injection hv1 with hv1 _
    subst hv1
    exact ⟨g, off, rfl, (hf g rfl).1, (hf g rfl).2.1, hcell⟩
theorem RdF.of_ownR {n base sz : Nat} {v : Value} {xs : List Value} {e : TypeId} (ho : W.ownsRow base e sz v n xs) (hf : OwnF A km S W v) : RdF A km W sz v n xs := by
  rcases ho.2 with ⟨rfl, hn⟩ | ⟨g, cap, cur, rfl, hbg, hg, _⟩
  · rw [hn]
    exact ⟨Option.none, 0, rfl, Nat.le_refl _, by rw [ho.1, hn], fun h0 => absurd h0 (by omega)⟩
  · obtain ⟨P, cc, hv, hc, hl, hp⟩ := Rd.of_own ho
    refine ⟨P, cc, hv, hc, hl, fun h0 => ?_⟩
    obtain ⟨b, off, hP, hlt, hcell⟩ := hp h0
    subst hP
    injection hv with hv1 _ _
    injection hv1 with hv1
    injection hv1 with hv1 _
    subst hv1
    exact ⟨g, off, rfl, (hf g rfl).1, (hf g rfl).2.1, hcell⟩
/-- Of a row that was laid behind the space. -/
theorem FoB.newF (h : FoB w B nm Ad c M S km A k σ W) (hb : Below W.heap.size W W') {v : Value} {xs : List Value} {base n sz : Nat} {e : TypeId} (ho : W'.ownsRow base e sz v n xs) (hbs : W.heap.size ≤ base) : OwnF A km S W' v := fun g hg => by
  have hkm := h.sp.sp.fk.1
  have hS := lt_of_block h.sp.sp.cells
  have hl := ho.lt g hg
  exact ⟨h.sp.sp.ar.foreign_new hb (by omega) hl.2, by omega, by omega⟩
end
/-- The loop's state. -/
structure LrSt (w : World) (B : Nat) (nm : ByteArray) (Ad : Option Addr) (c : Nat) (M : List RuleV) (S km : Nat) (A : Blks) (bq : Nat) (vN : Value) (ns : List Nat) (vZ : Value) (zs : List Nat) (k : Nat) (σ : Sg) (vq : Value) (Q : List RuleV) (W : World) : Prop where
  f : FoB w B nm Ad c M S km A k σ W
  row : W.heap[bq]? = some (.cells #[.string ⟨#[]⟩, vq] 24 (0, 0))
  rf : Foreign A W bq ∧ bq ≠ km ∧ bq ≠ S
  lo : w.heap.size < bq
  own : W.ownsRow (bq + 1) 43 10 vq Q.length (rcells Q)
  of : OwnF A km S W vq
  ns : RdL A km bq W vN ns.length (ncl ns)
  zs : RdL A km bq W vZ zs.length (ncl zs)
section
variable {w W W' : World} {B : Nat} {nm : ByteArray} {Ad : Option Addr} {c : Nat} {M : List RuleV} {S km : Nat} {A : Blks} {k m a : Nat} {σ τ : Sg} {bq : Nat} {vN vZ vq v' : Value} {ns zs : List Nat} {Q : List RuleV}
theorem RdL.mono {lim lim' n : Nat} {v : Value} {xs : List Value} (h : RdL A km lim W v n xs) (hl : lim ≤ lim') : RdL A km lim' W v n xs := ⟨h.1, fun g e => by have := h.2 g e; omega⟩
theorem LrSt.start (h : FoB w B nm Ad c M S km A k σ W) (hn : RdL A km W.heap.size W vN ns.length (ncl ns)) (hz : RdL A km W.heap.size W vZ zs.length (ncl zs)) :
    LrSt w B nm Ad c M S km A W.heap.size vN ns vZ zs k σ (.slice none 0 0) [] (W.alloc (.cells #[.string ⟨#[]⟩, .slice none 0 0] 24)) := by
  have hb := below1 W (.cells #[.string ⟨#[]⟩, .slice none 0 0] 24)
  have hk := blk1 W (.cells #[.string ⟨#[]⟩, .slice none 0 0] 24)
  have hkm := h.sp.sp.fk.1
  have hS := lt_of_block h.sp.sp.cells
  have hks := h.sp.kept hb
  exact ⟨h.next hb, hk, ⟨h.sp.sp.ar.foreign_new hb (Nat.le_refl _) (lt_of_block hk), by omega, by omega⟩, lt_of_block h.row, World.ownsRow_nil _ _ _ _, fun g hg => by simp [Value.ownBlock] at hg, hn.kept hks, hz.kept hks⟩
/-- The rules that decide something. -/
noncomputable def dz (M : List RuleV) (k : Nat) : Bool := !zF (decF M k)
theorem dz_none {M : List RuleV} : ∀ k, k < M.length → dz M k = false → decF M k = fun _ => false := fun k _ h => zF_dec (by unfold dz at h; simpa using h)
theorem LrSt.space (h : LrSt w B nm Ad c M S km A bq vN ns vZ zs k σ vq Q W) (hk : KeptS A km W W') (hf : FoB w B nm Ad c M S km A m τ W') : LrSt w B nm Ad c M S km A bq vN ns vZ zs m τ vq Q W' :=
  ⟨hf, (hk.same bq h.rf.1 h.rf.2.1).1.trans h.row, ⟨(hk.same bq h.rf.1 h.rf.2.1).2, h.rf.2⟩, h.lo, owns_like h.own fun g hg => (hk.same g (h.of g hg).1 (h.of g hg).2.1).1, fun g hg => ⟨(hk.same g (h.of g hg).1 (h.of g hg).2.1).2, (h.of g hg).2⟩, h.ns.kept hk, h.zs.kept hk⟩
theorem LrSt.next (h : LrSt w B nm Ad c M S km A bq vN ns vZ zs k σ vq Q W) (hb : Below W.heap.size W W') : LrSt w B nm Ad c M S km A bq vN ns vZ zs k σ vq Q W' := h.space (h.f.sp.kept hb) (h.f.next hb)
theorem LrSt.lt (h : LrSt w B nm Ad c M S km A bq vN ns vZ zs k σ vq Q W) : bq + 1 ≤ W.heap.size := lt_of_block h.row
/-- Behind an append to the rules, ahead of the store. -/
theorem LrSt.grow (h : LrSt w B nm Ad c M S km A bq vN ns vZ zs k σ vq Q W) (hg : W.grownBy W' vq.ownBlock) : Below (bq + 1) W W' :=
  ⟨hg.os, hg.tape, hg.output, hg.size, fun i hi => hg.block i (by have := h.lt; omega) fun e => by have := (h.own.lt i e.symm).1; omega⟩
theorem LrSt.push (h : LrSt w B nm Ad c M S km A bq vN ns vZ zs k σ vq Q W) {x : RuleV} (ho : W'.ownsRow (bq + 1) 43 10 v' (Q.length + 1) (rcells Q ++ x.enc)) (hg : W.grownBy W' vq.ownBlock) (hm : Moved vq v' W.heap.size) :
    LrSt w B nm Ad c M S km A bq vN ns vZ zs k σ v' (Q ++ [x]) (W'.setCell ⟨bq, 1, none⟩ v') := by
  have hlo := h.lo
  obtain ⟨f1, f2, f3⟩ := h.f.others hg h.of (fun g e => by have := (h.own.lt g e).1; omega)
  have hrow : W'.heap[bq]? = _ := ((h.grow hg).block bq (Nat.lt_succ_self _)).trans h.row
  have hof : OwnF A km S W' v' := h.of.pushed f2 f3 hm (fun g e => (ho.lt g e).2)
  have hns := h.ns.others hg f2 (fun g e => by have := (h.own.lt g e).1; omega)
  have hzs := h.zs.others hg f2 (fun g e => by have := (h.own.lt g e).1; omega)
  have hg2 : W'.grownBy (W'.setCell ⟨bq, 1, none⟩ v') (some bq) := only_setCell (World.grownBy.refl _ _) (.inl rfl) v'
  have hrf : Foreign A W' bq := f2 bq h.rf.1
  obtain ⟨g1, g2, _⟩ := f1.others hg2 (fun g e => by injection e with e; subst e; exact ⟨hrf, h.rf.2⟩) (fun g e => by injection e with e; omega)
  refine ⟨g1, set_at (i := 1) (u := v') hrow, ⟨g2 bq hrf, h.rf.2⟩, hlo, ?_, fun g e => ⟨g2 g (hof g e).1, (hof g e).2⟩, hns.others hg2 g2 (fun g e => by injection e with e; omega), hzs.others hg2 g2 (fun g e => by injection e with e; omega)⟩
  have e1 : rcells (Q ++ [x]) = rcells Q ++ x.enc := by simp [rcells]
  rw [List.length_append, e1]
  exact owns_setO ho (Nat.lt_succ_self _)
end
end Go.Proofs.YtbahehmfhjkgeaaGreat

/-
  The places of which it is so: lint.places.
-/
namespace Go.Proofs.YtbahehmfhjkgeaaGreat
open Go Go.RowKit Go.ChangeMaps Go.MapKept Go.Maps Go.Lib Go.Sort

def plL (p : Nat → Bool) (m : Nat) : List Nat := (List.range m).filter p
theorem plL_succ (p : Nat → Bool) (m : Nat) : plL p (m + 1) = if p m then plL p m ++ [m] else plL p m := by
  unfold plL
  rw [List.range_succ, List.filter_append]
  by_cases h : p m = true
  · rw [if_pos h]; simp [h]
  · rw [if_neg h]; simp [h]
theorem plL_len (p : Nat → Bool) (m : Nat) : (plL p m).length ≤ m := by
  have := List.length_filter_le p (List.range m)
  rw [List.length_range] at this
  exact this
section
set_option maxRecDepth 100000
set_option maxHeartbeats 4000000
theorem places_any (n : Nat) (fid : FuncId) (caps : Array Value) (p : Nat → Bool) (w : World) (en : ∀ (args : Array Value) (W : World), (callFunc fid args).run Tryz.prog W = .ok (.enter fid args) W)
    (hp : ∀ i W, i < n → Below w.heap.size w W → Calls Tryz.prog fid (#[.int .i64 i] ++ caps) W fun e W' => e = .returned (.bool (p i)) ∧ Below W.heap.size W W') (hn : n ≤ 1099511627776) :
    Calls Tryz.prog 115 #[.int .i64 n, .func (.func fid) #[] caps] w fun e w' => ∃ v, e = .returned v ∧ w'.ownsRow w.heap.size 3 1 v (plL p n).length (ncl (plL p n)) ∧ Below w.heap.size w w' := by
  obtain ⟨i0, hif, hz0, hz1, hz2⟩ := info_parts Tryz.infoInt
  have HP := Lib.hid hp
  clear hp
  go_enter Tryz.func115, Tryz.ntmps115
  go_wp2
  go_loopw [5, 8] (fun r i wr => ∃ m : Nat, i = .int .i64 m ∧ m ≤ n ∧ Hid (wr.ownsRow w.heap.size 3 1 r (plL p m).length (ncl (plL p m))) ∧ Hid (Below w.heap.size w wr)) (fun _ i _ => n - (intOf i).toNat)
  case atStart => exact ⟨0, rfl, by omega, Lib.hid (World.ownsRow_nil _ _ _ _), Lib.hid (Below.refl _ _)⟩
  case round =>
    obtain ⟨m, rfl, hm, HO, HB⟩ := hrel
    obtain ⟨Ar, cr, hr, _⟩ := owns_form HO.out
    subst hr
    by_cases hlt : m < n
    · have hI : (m : Int) < (n : Int) := by omega
      have HC := Lib.hid (HP.out m wr hlt HB.out)
      have hzl : (plL p m).length ≤ 1099511627776 := by have := plL_len p m; omega
      have HS := Lib.hid (plL_succ p m)
      obtain ⟨q, hq⟩ : ∃ q, p m = q := ⟨_, rfl⟩
      rw [hq] at HC HS
      clear hq
      cases q
      · have HS2 : Hid (plL p (m + 1) = plL p m) := Lib.hid HS.out
        clear HS
        go_wp2_with ((with_reducible refine HC.out.mono ?_); rintro e w2 ⟨rfl, hb2⟩; have HB2 := Lib.hid (HB.out.trans (hb2.mono HB.out.size)); have HO2 := Lib.hid (owns_kept_none HO.out (only_of_below hb2 none)); have hbs := HB2.out.size; clear hb2)
        exact ⟨⟨m + 1, by go_num, by omega, Lib.hid (by rw [HS2.out]; exact HO2.out), HB2⟩, by simp only [intOf]; omega⟩
      · have HS2 : Hid (plL p (m + 1) = plL p m ++ [m]) := Lib.hid HS.out
        clear HS
        go_wp2_with (first
          | ((with_reducible refine HC.out.mono ?_); rintro e w2 ⟨rfl, hb2⟩; have HB2 := Lib.hid (HB.out.trans (hb2.mono HB.out.size)); have HO2 := Lib.hid (owns_kept_none HO.out (only_of_below hb2 none)); have hbs := HB2.out.size; clear hb2)
          | (at_builtin; refine wpList_push2 (v := .slice Ar (plL p m).length cr) rfl _ _ 33 rfl 3 i0 _ 1 8 Tryz.underlying33 hif hz0 hz1 hz2 rfl (by decide) (by decide) [.int .i64 m] rfl rfl rfl HO2.out rfl (one_i64 _) hzl hbs ?_; intro v3 w3 hown3 hg3 hm3; have HO3 := Lib.hid hown3; have HB3 := Lib.hid (below_grown HB2.out hbs hg3 (fun g hg => (HO2.out.lt g hg).1)); clear hown3 hg3 hm3))
        exact ⟨⟨m + 1, by go_num, by omega, Lib.hid (by rw [HS2.out, List.length_append, ncl_app]; exact HO3.out), HB3⟩, by simp only [intOf]; omega⟩
    · obtain rfl : m = n := by omega
      have hI : ¬ (m : Int) < (m : Int) := by omega
      go_wp2
      go_ret
      exact ⟨_, rfl, HO.out, HB.out⟩
end
end Go.Proofs.YtbahehmfhjkgeaaGreat

/-
  slices.IndexFunc, ContainsFunc, Index, Contains at the lists' kinds (written by wip/gen/genln4.py).
-/
namespace Go.Proofs.YtbahehmfhjkgeaaGreat
open Go Go.RowKit Go.Sort

/-- A community list's member: what it lets, where its communities lie, these. -/
structure MemV where
  permit : Bool
  v : Value
  L : List Int
instance : Inhabited MemV := ⟨⟨false, .slice none 0 0, []⟩⟩
def MemV.enc (x : MemV) : List Value := [.bool x.permit, x.v]
theorem mem_len (x : MemV) : x.enc.length = 2 := rfl
def mcells (L : List MemV) : List Value := L.flatMap MemV.enc
theorem mcell {L : List MemV} {k i : Nat} {x : MemV} {v : Value} (hr : L[k]? = some x) (hv : x.enc[i]? = some v) : (mcells L)[k * 2 + i]? = some v := flat_get MemV.enc 2 mem_len L k i x v hr hv
/-- A prefix list's entry. -/
structure EntV where
  permit : Bool
  a : Int
  n : Int
  ge : Int
  le : Int
instance : Inhabited EntV := ⟨⟨false, 0, 0, 0, 0⟩⟩
def EntV.enc (x : EntV) : List Value := [.bool x.permit, .int .u32 x.a, .int .i64 x.n, .int .i64 x.ge, .int .i64 x.le]
def ecells (L : List EntV) : List Value := L.flatMap EntV.enc
def u32c (L : List Int) : List Value := L.map (Value.int .u32)
theorem u32c_get {L : List Int} {k : Nat} {x : Int} (h : L[k]? = some x) : (u32c L)[k]? = some (.int .u32 x) := by simp [u32c, h]
theorem any_idx {α : Type} [Inhabited α] (p : α → Bool) (L : List α) : (0 ≤ idxP p L) = (L.any p = true) := by
  rcases idxP_cases p L with ⟨h1, h2⟩ | ⟨k, x, h1, h2, h3, _⟩
  · rw [h1]
    have : L.any p = false := by
      rw [List.any_eq_false]
      intro x hx
      obtain ⟨j, hj⟩ := List.mem_iff_getElem?.1 hx
      simp [h2 j x hj]
    rw [this]
    simp
  · rw [h1]
    have : L.any p = true := List.any_eq_true.2 ⟨x, List.mem_of_getElem? h2, h3⟩
    rw [this]
    simp
theorem any_dec {α : Type} [Inhabited α] (p : α → Bool) (L : List α) : decide ((0 : Int) ≤ idxP p L) = L.any p := by
  have := any_idx p L
  by_cases h : (0 : Int) ≤ idxP p L
  · rw [decide_eq_true h]; exact (this ▸ h : L.any p = true).symm
  · rw [decide_eq_false h]
    cases h2 : L.any p with
    | false => rfl
    | true => exact absurd (this ▸ h2 : (0 : Int) ≤ idxP p L) h

set_option maxRecDepth 100000 in
set_option maxHeartbeats 2000000 in
theorem indexFnU_any (L : List Int) (v : Value) (p : Int → Bool) (fid : FuncId) (caps : Array Value) (w : World) (en : ∀ (args : Array Value) (W : World), (callFunc fid args).run Tryz.prog W = .ok (.enter fid args) W) (hp : ∀ (x : Int) W, x ∈ L → Below w.heap.size w W → Calls Tryz.prog fid (#[.int .u32 x] ++ caps) W fun e W' => e = .returned (.bool (p x)) ∧ Below W.heap.size W W') (h : Rd w w.heap.size 1 v L.length (u32c L)) (hlen : L.length ≤ 9223372036854775807) :
    Calls Tryz.prog 201 #[v, .func (.func fid) #[] caps] w fun e w' => e = .returned (.int .i64 (idxP p L)) ∧ Below w.heap.size w w' := by
  obtain ⟨A, c, rfl, hc⟩ := h.form
  have HR := Lib.hid h
  have HP := Lib.hid hp
  clear h hp
  go_enter Tryz.func201, Tryz.ntmps201
  go_wp2
  go_loopw [8] (fun i wr => ∃ k : Nat, i = .int .i64 k ∧ k ≤ L.length ∧ Hid (∀ (j : Nat) (x : Int), j < k → L[j]? = some x → p x = false) ∧ Hid (Below w.heap.size w wr)) (fun i _ => L.length - (intOf i).toNat)
  case atStart => exact ⟨0, rfl, by omega, Lib.hid (fun j x hj _ => by omega), Lib.hid (Below.refl _ _)⟩
  case round =>
    obtain ⟨k, rfl, hk, HN, HB⟩ := hrel
    by_cases hlt : k < L.length
    · have hI : (k : Int) < (L.length : Int) := by omega
      obtain ⟨x, hx⟩ : ∃ x, L[k]? = some x := ⟨_, List.getElem?_eq_getElem hlt⟩
      obtain ⟨b, off, c', hv, _, hbB, hcell⟩ := HR.out.pos (by omega)
      injection hv with hv1 hvl hv3
      subst hv1 hv3
      clear hvl
      have c0 : wr.cell? ⟨b, off + k, none⟩ = some (.int .u32 x) := (HB.out.cell (p := ⟨b, off + k, none⟩) hbB).trans (hcell k _ (u32c_get hx))
      have HX := Lib.hid hx
      have HCALL := Lib.hid (HP.out x wr (List.mem_of_getElem? hx) HB.out)
      clear hcell hx
      go_wp2_with ((with_reducible refine HCALL.out.mono ?_); rintro e w2 ⟨rfl, hb2⟩; have HB2 := Lib.hid (HB.out.trans (hb2.mono HB.out.size)); clear hb2; obtain ⟨q, hq⟩ : ∃ q, p x = q := ⟨_, rfl⟩; have HQ := Lib.hid hq; rw [hq]; clear hq; cases q)
      · exact ⟨⟨k + 1, by go_num, by omega, Lib.hid (fun j y hj hy => by
          rcases Nat.lt_or_ge j k with h1 | h1
          · exact HN.out j y h1 hy
          · obtain rfl : j = k := by omega
            rw [HX.out] at hy
            injection hy with hy
            subst hy
            exact HQ.out), HB2⟩, by simp only [intOf]; omega⟩
      · go_ret
        exact ⟨by rw [idxP_hit p L k x HX.out HQ.out HN.out]; rfl, HB2.out⟩
    · obtain rfl : k = L.length := by omega
      have hI : ¬ (L.length : Int) < (L.length : Int) := by omega
      have HFIN := Lib.hid (idxP_miss p L fun j x hx => HN.out j x (List.getElem?_eq_some_iff.1 hx).1 hx)
      go_wp2
      go_ret
      exact ⟨by rw [HFIN.out]; rfl, HB.out⟩
set_option maxRecDepth 100000 in
set_option maxHeartbeats 2000000 in
theorem containsFnU_any (L : List Int) (v : Value) (p : Int → Bool) (fid : FuncId) (caps : Array Value) (w : World) (en : ∀ (args : Array Value) (W : World), (callFunc fid args).run Tryz.prog W = .ok (.enter fid args) W) (hp : ∀ (x : Int) W, x ∈ L → Below w.heap.size w W → Calls Tryz.prog fid (#[.int .u32 x] ++ caps) W fun e W' => e = .returned (.bool (p x)) ∧ Below W.heap.size W W') (h : Rd w w.heap.size 1 v L.length (u32c L)) (hlen : L.length ≤ 9223372036854775807) :
    Calls Tryz.prog 119 #[v, .func (.func fid) #[] caps] w fun e w' => e = .returned (.bool (L.any p)) ∧ Below w.heap.size w w' := by
  have HI := Lib.hid (indexFnU_any L v p fid caps w en hp h hlen)
  obtain ⟨A, c, rfl, hc⟩ := h.form
  clear h hp en
  have hd := any_dec p L
  generalize idxP p L = q at *
  go_enter Tryz.func119, Tryz.ntmps119
  go_wp2_with ((with_reducible refine HI.out.mono ?_); rintro e w2 ⟨rfl, hb2⟩; have HB2 := Lib.hid hb2; clear hb2)
  go_ret
  exact ⟨by rw [← hd]; rfl, HB2.out⟩

set_option maxRecDepth 100000 in
set_option maxHeartbeats 2000000 in
theorem indexFnM_any (L : List MemV) (v : Value) (p : MemV → Bool) (fid : FuncId) (caps : Array Value) (w : World) (en : ∀ (args : Array Value) (W : World), (callFunc fid args).run Tryz.prog W = .ok (.enter fid args) W) (hp : ∀ (x : MemV) W, x ∈ L → Below w.heap.size w W → Calls Tryz.prog fid (#[.agg #[.bool x.permit, x.v]] ++ caps) W fun e W' => e = .returned (.bool (p x)) ∧ Below W.heap.size W W') (h : Rd w w.heap.size 2 v L.length (mcells L)) (hlen : L.length ≤ 9223372036854775807) :
    Calls Tryz.prog 200 #[v, .func (.func fid) #[] caps] w fun e w' => e = .returned (.int .i64 (idxP p L)) ∧ Below w.heap.size w w' := by
  obtain ⟨A, c, rfl, hc⟩ := h.form
  have HR := Lib.hid h
  have HP := Lib.hid hp
  clear h hp
  go_enter Tryz.func200, Tryz.ntmps200
  go_wp2
  go_loopw [8] (fun i wr => ∃ k : Nat, i = .int .i64 k ∧ k ≤ L.length ∧ Hid (∀ (j : Nat) (x : MemV), j < k → L[j]? = some x → p x = false) ∧ Hid (Below w.heap.size w wr)) (fun i _ => L.length - (intOf i).toNat)
  case atStart => exact ⟨0, rfl, by omega, Lib.hid (fun j x hj _ => by omega), Lib.hid (Below.refl _ _)⟩
  case round =>
    obtain ⟨k, rfl, hk, HN, HB⟩ := hrel
    by_cases hlt : k < L.length
    · have hI : (k : Int) < (L.length : Int) := by omega
      obtain ⟨x, hx⟩ : ∃ x, L[k]? = some x := ⟨_, List.getElem?_eq_getElem hlt⟩
      obtain ⟨b, off, c', hv, _, hbB, hcell⟩ := HR.out.posAt (by omega)
      injection hv with hv1 hvl hv3
      subst hv1 hv3
      clear hvl
      have c0 : wr.cell? ⟨b, off + k * 2, none⟩ = some (.bool x.permit) := (HB.out.cell (p := ⟨b, off + k * 2, none⟩) hbB).trans (hcell k 0 _ (mcell hx rfl))
      have c1 : wr.cell? ⟨b, off + k * 2 + 1, none⟩ = some (x.v) := (HB.out.cell (p := ⟨b, off + k * 2 + 1, none⟩) hbB).trans (hcell k 1 _ (mcell hx rfl))
      have HX := Lib.hid hx
      have HCALL := Lib.hid (HP.out x wr (List.mem_of_getElem? hx) HB.out)
      clear hcell hx
      go_wp2_with ((with_reducible refine HCALL.out.mono ?_); rintro e w2 ⟨rfl, hb2⟩; have HB2 := Lib.hid (HB.out.trans (hb2.mono HB.out.size)); clear hb2; obtain ⟨q, hq⟩ : ∃ q, p x = q := ⟨_, rfl⟩; have HQ := Lib.hid hq; rw [hq]; clear hq; cases q)
      · exact ⟨⟨k + 1, by go_num, by omega, Lib.hid (fun j y hj hy => by
          rcases Nat.lt_or_ge j k with h1 | h1
          · exact HN.out j y h1 hy
          · obtain rfl : j = k := by omega
            rw [HX.out] at hy
            injection hy with hy
            subst hy
            exact HQ.out), HB2⟩, by simp only [intOf]; omega⟩
      · go_ret
        exact ⟨by rw [idxP_hit p L k x HX.out HQ.out HN.out]; rfl, HB2.out⟩
    · obtain rfl : k = L.length := by omega
      have hI : ¬ (L.length : Int) < (L.length : Int) := by omega
      have HFIN := Lib.hid (idxP_miss p L fun j x hx => HN.out j x (List.getElem?_eq_some_iff.1 hx).1 hx)
      go_wp2
      go_ret
      exact ⟨by rw [HFIN.out]; rfl, HB.out⟩
set_option maxRecDepth 100000 in
set_option maxHeartbeats 2000000 in
theorem containsFnM_any (L : List MemV) (v : Value) (p : MemV → Bool) (fid : FuncId) (caps : Array Value) (w : World) (en : ∀ (args : Array Value) (W : World), (callFunc fid args).run Tryz.prog W = .ok (.enter fid args) W) (hp : ∀ (x : MemV) W, x ∈ L → Below w.heap.size w W → Calls Tryz.prog fid (#[.agg #[.bool x.permit, x.v]] ++ caps) W fun e W' => e = .returned (.bool (p x)) ∧ Below W.heap.size W W') (h : Rd w w.heap.size 2 v L.length (mcells L)) (hlen : L.length ≤ 9223372036854775807) :
    Calls Tryz.prog 117 #[v, .func (.func fid) #[] caps] w fun e w' => e = .returned (.bool (L.any p)) ∧ Below w.heap.size w w' := by
  have HI := Lib.hid (indexFnM_any L v p fid caps w en hp h hlen)
  obtain ⟨A, c, rfl, hc⟩ := h.form
  clear h hp en
  have hd := any_dec p L
  generalize idxP p L = q at *
  go_enter Tryz.func117, Tryz.ntmps117
  go_wp2_with ((with_reducible refine HI.out.mono ?_); rintro e w2 ⟨rfl, hb2⟩; have HB2 := Lib.hid hb2; clear hb2)
  go_ret
  exact ⟨by rw [← hd]; rfl, HB2.out⟩

set_option maxRecDepth 100000 in
set_option maxHeartbeats 2000000 in
theorem indexU_any (L : List Int) (v : Value) (y : Int) (w : World) (h : Rd w w.heap.size 1 v L.length (u32c L)) (hlen : L.length ≤ 9223372036854775807) :
    Calls Tryz.prog 202 #[v, .int .u32 y] w fun e w' => e = .returned (.int .i64 (idxP (fun x => x == y) L)) ∧ w' = w := by
  obtain ⟨A, c, rfl, hc⟩ := h.form
  have HR := Lib.hid h
  clear h
  go_enter Tryz.func202, Tryz.ntmps202
  go_wp2
  go_loopw [8] (fun i wr => ∃ k : Nat, i = .int .i64 k ∧ k ≤ L.length ∧ Hid (∀ (j : Nat) (x : Int), j < k → L[j]? = some x → (x == y) = false) ∧ wr = w) (fun i _ => L.length - (intOf i).toNat)
  case atStart => exact ⟨0, rfl, by omega, Lib.hid (fun j x hj _ => by omega), rfl⟩
  case round =>
    obtain ⟨k, rfl, hk, HN, rfl⟩ := hrel
    by_cases hlt : k < L.length
    · have hI : (k : Int) < (L.length : Int) := by omega
      obtain ⟨x, hx⟩ : ∃ x, L[k]? = some x := ⟨_, List.getElem?_eq_getElem hlt⟩
      obtain ⟨b, off, c', hv, _, hbB, hcell⟩ := HR.out.pos (by omega)
      injection hv with hv1 hvl hv3
      subst hv1 hv3
      clear hvl
      have c0 : wr.cell? ⟨b, off + k, none⟩ = some (.int .u32 x) := hcell k _ (u32c_get hx)
      have HX := Lib.hid hx
      clear hcell hx
      by_cases hq : y = x
      · subst hq
        go_wp2
        go_ret
        exact ⟨by rw [idxP_hit (fun x => x == y) L k y HX.out (by simp) HN.out]; rfl, rfl⟩
      · have hq2 : (y == x) = false := by simpa using hq
        go_wp2
        exact ⟨⟨k + 1, by go_num, by omega, Lib.hid (fun j z hj hz => by
          rcases Nat.lt_or_ge j k with h1 | h1
          · exact HN.out j z h1 hz
          · obtain rfl : j = k := by omega
            rw [HX.out] at hz
            injection hz with hz
            subst hz
            simpa using fun e : x = y => hq e.symm), (by first | trivial | rfl)⟩, by simp only [intOf]; omega⟩
    · obtain rfl : k = L.length := by omega
      have hI : ¬ (L.length : Int) < (L.length : Int) := by omega
      have HFIN := Lib.hid (idxP_miss (fun x => x == y) L fun j x hx => HN.out j x (List.getElem?_eq_some_iff.1 hx).1 hx)
      go_wp2
      go_ret
      exact ⟨by rw [HFIN.out]; rfl, rfl⟩
set_option maxRecDepth 100000 in
set_option maxHeartbeats 2000000 in
theorem containsU_any (L : List Int) (v : Value) (y : Int) (w : World) (h : Rd w w.heap.size 1 v L.length (u32c L)) (hlen : L.length ≤ 9223372036854775807) :
    Calls Tryz.prog 121 #[v, .int .u32 y] w fun e w' => e = .returned (.bool (L.any (fun x => x == y))) ∧ w' = w := by
  have HI := Lib.hid (indexU_any L v y w h hlen)
  obtain ⟨A, c, rfl, hc⟩ := h.form
  clear h
  have hd := any_dec (fun x => x == y) L
  generalize idxP (fun x => x == y) L = q at *
  go_enter Tryz.func121, Tryz.ntmps121
  go_wp2_with ((with_reducible refine HI.out.mono ?_); rintro e _ ⟨rfl, rfl⟩)
  go_ret
  exact ⟨by rw [← hd]; rfl, rfl⟩
end Go.Proofs.YtbahehmfhjkgeaaGreat

/-
  The members that decide nothing: lint.Members.
-/
namespace Go.Proofs.YtbahehmfhjkgeaaGreat
open Go Go.RowKit Go.ChangeMaps Go.MapKept Go.Maps Go.Lib Go.Sort

/-- The members of a slice, in a world. -/
def MsAt (W : World) (B : Nat) (v : Value) (Ms : List MemV) : Prop := Rd W B 2 v Ms.length (mcells Ms) ∧ ∀ m ∈ Ms, Rd W B 1 m.v m.L.length (u32c m.L) ∧ m.L.length ≤ 9223372036854775807
theorem MsAt.below {W W' : World} {B : Nat} {v : Value} {Ms : List MemV} (h : MsAt W B v Ms) (hb : Below B W W') : MsAt W' B v Ms := ⟨h.1.below hb, fun m hm => ⟨(h.2 m hm).1.below hb, (h.2 m hm).2⟩⟩
theorem MsAt.mono {W : World} {B B' : Nat} {v : Value} {Ms : List MemV} (h : MsAt W B v Ms) (hb : B ≤ B') : MsAt W B' v Ms := ⟨h.1.mono hb, fun m hm => ⟨(h.2 m hm).1.mono hb, (h.2 m hm).2⟩⟩
theorem MsAt.next {W W' : World} {v : Value} {Ms : List MemV} (h : MsAt W W.heap.size v Ms) (hb : Below W.heap.size W W') : MsAt W' W'.heap.size v Ms := (h.below hb).mono hb.size
theorem Rd.takeS {W : World} {B k n m c : Nat} {A : Option Addr} {xs : List Value} (h : Rd W B k (.slice A n c) n xs) (hm : m ≤ n) : Rd W B k (.slice A m c) m (xs.take (m * k)) := by
  obtain ⟨P, c', hv, hc, hlen, hp⟩ := h
  injection hv with e1 _ e3
  subst e1 e3
  refine ⟨A, c, rfl, by omega, ?_, fun h0 => ?_⟩
  · rw [List.length_take, hlen]
    exact Nat.min_eq_left (Nat.mul_le_mul_right k hm)
  · obtain ⟨b, off, hA, hlt, hcell⟩ := hp (by omega)
    refine ⟨b, off, hA, hlt, fun j u hu => hcell j u ?_⟩
    have hj : j < (xs.take (m * k)).length := (List.getElem?_eq_some_iff.1 hu).1
    rw [List.length_take] at hj
    rw [List.getElem?_take_of_lt (by omega)] at hu
    exact hu
theorem mcells_take (Ms : List MemV) (i : Nat) (hi : i ≤ Ms.length) : mcells (Ms.take i) = (mcells Ms).take (i * 2) := by
  have e : mcells Ms = mcells (Ms.take i) ++ mcells (Ms.drop i) := by
    have h := congrArg mcells (List.take_append_drop i Ms)
    exact h.symm.trans List.flatMap_append
  have hl : (mcells (Ms.take i)).length = i * 2 := (flat_len MemV.enc 2 mem_len _).trans (by rw [List.length_take, Nat.min_eq_left hi])
  rw [e, ← hl, List.take_left']
  rfl
/-- Are all of the one among the other's? -/
def hasAll (a b : List Int) : Bool := !(a.any fun c => !(b.any fun x => x == c))
/-- Is a member ahead that asks no more? -/
def memP (Ms : List MemV) (i : Nat) : Bool := (Ms.take i).any fun m => hasAll m.L ((Ms[i]?.getD default).L)
section
set_option maxRecDepth 100000
set_option maxHeartbeats 4000000
variable {W : World} {nm : ByteArray} {v : Value} {Ms : List MemV} {bl bi i : Nat} {x : MemV}
theorem mem3_any (hl : W.heap[bl]? = some (.cells #[.string nm, v] 125 (0, 0))) (hi : W.heap[bi]? = some (.cells #[.int .i64 i] 3 (0, 0))) (hM : MsAt W W.heap.size v Ms) (hx : Ms[i]? = some x) (hn : Ms.length ≤ 1099511627776) (c : Int) :
    Calls Tryz.prog 120 #[.int .u32 c, .pointer (some ⟨bl, 0, none⟩), .pointer (some ⟨bi, 0, none⟩)] W fun e W' => e = .returned (.bool (!(x.L.any fun y => y == c))) ∧ Below W.heap.size W W' := by
  have hil : i < Ms.length := (List.getElem?_eq_some_iff.1 hx).1
  have hI : (i : Int) < (Ms.length : Int) := by omega
  have hxm := hM.2 x (List.mem_of_getElem? hx)
  obtain ⟨A, cc, hxv, _⟩ := hxm.1.form
  obtain ⟨b, off, c', hv, _, hbB, hcell⟩ := hM.1.posAt (by omega)
  subst hv
  have c0 : W.cell? ⟨bl, 1, none⟩ = some (.slice (some ⟨b, off, none⟩) Ms.length c') := cell_of_row _ _ 1 _ _ (0, 0) hl
  have c1 := cell0 hi
  have c2 : W.cell? ⟨b, off + i * 2 + 1, none⟩ = some x.v := hcell i 1 _ (mcell hx rfl)
  rw [hxv] at c2
  have hcc := containsU_any x.L x.v c W hxm.1 hxm.2
  rw [hxv] at hcc
  have HCC := Lib.hid hcc
  have HB := Lib.hid (Below.refl W.heap.size W)
  clear hxm hcell hl hi hM hx hcc
  go_enter Tryz.func120, Tryz.ntmps120
  generalize (x.L.any fun y => y == c) = q at *
  go_wp2_with ((with_reducible refine HCC.out.mono ?_); rintro e _ ⟨rfl, rfl⟩)
  go_ret
  exact ⟨rfl, HB.out⟩
theorem mem2_any (hl : W.heap[bl]? = some (.cells #[.string nm, v] 125 (0, 0))) (hi : W.heap[bi]? = some (.cells #[.int .i64 i] 3 (0, 0))) (hM : MsAt W W.heap.size v Ms) (hx : Ms[i]? = some x) (hn : Ms.length ≤ 1099511627776) (m : MemV) (hm : m ∈ Ms) :
    Calls Tryz.prog 118 #[.agg #[.bool m.permit, m.v], .pointer (some ⟨bl, 0, none⟩), .pointer (some ⟨bi, 0, none⟩)] W fun e W' => e = .returned (.bool (hasAll m.L x.L)) ∧ Below W.heap.size W W' := by
  have hb := below1 W (.cells #[.bool m.permit, m.v] 122)
  have hmm := (hM.next hb).2 m hm
  obtain ⟨A, cc, hmv, _⟩ := hmm.1.form
  have c0 : (W.alloc (.cells #[.bool m.permit, m.v] 122)).cell? ⟨W.heap.size, 1, none⟩ = some m.v := cell_of_row _ _ 1 _ _ (0, 0) (blk1 W (.cells #[.bool m.permit, m.v] 122))
  have hcf := containsFnU_any m.L m.v (fun c => !(x.L.any fun y => y == c)) 120 #[.pointer (some ⟨bl, 0, none⟩), .pointer (some ⟨bi, 0, none⟩)] (W.alloc (.cells #[.bool m.permit, m.v] 122)) (enters_of Tryz.func120 (by kernel_rfl) rfl)
    (fun c W' _ hb' => mem3_any (blk_below hb' (blk_below hb hl)) (blk_below hb' (blk_below hb hi)) ((hM.next hb).next hb') hx hn c) hmm.1 hmm.2
  rw [hmv] at hcf
  have HCF := Lib.hid hcf
  have HB := Lib.hid hb
  rw [hmv] at HB
  clear hmm hcf hb hl hi hM hx
  rw [hmv] at c0 ⊢
  have HD : Hid (hasAll m.L x.L = !(m.L.any fun c => !(x.L.any fun y => y == c))) := Lib.hid rfl
  rw [HD.out]
  generalize (m.L.any fun c => !(x.L.any fun y => y == c)) = q at *
  go_enter Tryz.func118, Tryz.ntmps118
  go_upto_region 1 with fail
  generalize W.alloc (.cells #[.bool m.permit, .slice A m.L.length cc] 122) = W1 at *
  go_wp2_with ((with_reducible refine HCF.out.mono ?_); rintro e W2 ⟨rfl, hb2⟩; have HB2 := Lib.hid (HB.out.trans (hb2.mono HB.out.size)); clear hb2)
  go_ret
  exact ⟨rfl, HB2.out⟩
theorem mem1_any (hl : W.heap[bl]? = some (.cells #[.string nm, v] 125 (0, 0))) (hM : MsAt W W.heap.size v Ms) (hil : i < Ms.length) (hn : Ms.length ≤ 1099511627776) :
    Calls Tryz.prog 116 #[.int .i64 i, .pointer (some ⟨bl, 0, none⟩)] W fun e W' => e = .returned (.bool (memP Ms i)) ∧ Below W.heap.size W W' := by
  obtain ⟨x, hx⟩ : ∃ x, Ms[i]? = some x := ⟨_, List.getElem?_eq_getElem hil⟩
  have hb := below1 W (.cells #[.int .i64 i] 3)
  have hbi := blk1 W (.cells #[.int .i64 i] 3)
  have hM1 := hM.next hb
  obtain ⟨A, cc, rfl, hcc⟩ := hM.1.form
  have htl : (Ms.take i).length = i := by rw [List.length_take]; omega
  have hrd : Rd (W.alloc (.cells #[.int .i64 i] 3)) (W.alloc (.cells #[.int .i64 i] 3)).heap.size 2 (.slice A i cc) (Ms.take i).length (mcells (Ms.take i)) := by
    rw [htl, mcells_take Ms i (by omega)]
    exact hM1.1.takeS (by omega)
  have hcf := containsFnM_any (Ms.take i) (.slice A i cc) (fun m => hasAll m.L x.L) 118 #[.pointer (some ⟨bl, 0, none⟩), .pointer (some ⟨W.heap.size, 0, none⟩)] (W.alloc (.cells #[.int .i64 i] 3)) (enters_of Tryz.func118 (by kernel_rfl) rfl)
    (fun m W' hm hb' => mem2_any (blk_below hb' (blk_below hb hl)) (blk_below hb' hbi) (hM1.next hb') hx hn m (List.mem_of_mem_take hm)) hrd (by rw [htl]; omega)
  have HCF := Lib.hid hcf
  have HB := Lib.hid hb
  have c0 : (W.alloc (.cells #[.int .i64 i] 3)).cell? ⟨bl, 1, none⟩ = some (.slice A Ms.length cc) := cell_of_row _ _ 1 _ _ (0, 0) (blk_below hb hl)
  have c1 := cell0 hbi
  have HP : Hid (memP Ms i = (Ms.take i).any fun m => hasAll m.L x.L) := Lib.hid (by unfold memP; rw [hx]; rfl)
  rw [HP.out]
  have hI : (i : Int) ≤ (cc : Int) := by omega
  clear hcf hb hbi hM1 hrd hl hM hx htl HP
  generalize ((Ms.take i).any fun m => hasAll m.L x.L) = q at *
  go_enter Tryz.func116, Tryz.ntmps116
  go_upto_region 1 with fail
  generalize W.alloc (.cells #[.int .i64 i] 3) = W1 at *
  go_wp2_with ((with_reducible refine HCF.out.mono ?_); rintro e W2 ⟨rfl, hb2⟩; have HB2 := Lib.hid (HB.out.trans (hb2.mono HB.out.size)); clear hb2)
  go_ret
  exact ⟨rfl, HB2.out⟩
theorem members_any (w : World) (nm : ByteArray) (v : Value) (Ms : List MemV) (hM : MsAt w w.heap.size v Ms) (hn : Ms.length ≤ 1099511627776) :
    Calls Tryz.prog 56 #[.agg #[.string nm, v]] w fun e w' => ∃ u, e = .returned u ∧ w'.ownsRow w.heap.size 3 1 u (plL (memP Ms) Ms.length).length (ncl (plL (memP Ms) Ms.length)) ∧ Below w.heap.size w w' := by
  obtain ⟨A, cc, rfl, hcc⟩ := hM.1.form
  have hb := below1 w (.cells #[.string nm, .slice A Ms.length cc] 125)
  have hk := blk1 w (.cells #[.string nm, .slice A Ms.length cc] 125)
  have c0 : (w.alloc (.cells #[.string nm, .slice A Ms.length cc] 125)).cell? ⟨w.heap.size, 1, none⟩ = some (.slice A Ms.length cc) := cell_of_row _ _ 1 _ _ (0, 0) hk
  have hpl := places_any Ms.length 116 #[.pointer (some ⟨w.heap.size, 0, none⟩)] (memP Ms) (w.alloc (.cells #[.string nm, .slice A Ms.length cc] 125)) (enters_of Tryz.func116 (by kernel_rfl) rfl)
    (fun i W' hi hb' => mem1_any (blk_below hb' hk) ((hM.next hb).next hb') hi hn) hn
  have HPL := Lib.hid hpl
  have HB := Lib.hid hb
  clear hb hk hpl hM
  go_enter Tryz.func56, Tryz.ntmps56
  go_upto_region 1 with fail
  generalize w.alloc (.cells #[.string nm, .slice A Ms.length cc] 125) = w1 at *
  go_wp2_with ((with_reducible refine HPL.out.mono ?_); rintro e w2 ⟨u, rfl, ho, hb2⟩; have HO := Lib.hid (owns_base ho HB.out.size); have HB2 := Lib.hid (HB.out.trans (hb2.mono HB.out.size)); clear ho hb2)
  go_ret
  exact ⟨_, rfl, HO.out, HB2.out⟩
end
end Go.Proofs.YtbahehmfhjkgeaaGreat

/-
  The linter's small example: awake.
-/
namespace Go.Proofs.YtbahehmfhjkgeaaGreat
open Go Go.RowKit Go.ChangeMaps Go.MapKept Go.Maps Go.Lib Go.Sort

theorem zF_no {F : Fun} (h : F ≠ fun _ => false) : zF F = false := by
  cases hz : zF F with
  | false => rfl
  | true => exact absurd (funext ((zF_iff F).1 hz)) h
theorem ln_zeros : zerosP lnL 3 = [2] := by
  rw [zerosP_succ, zerosP_succ, zerosP_succ, zF_no ln_dec0_ne, zF_no ln_dec1_ne, (zF_iff _).2 (fun s => by rw [ln_dec2_eq])]
  rfl
def lnMs (a b c : Value) : List MemV := [⟨false, a, [1, 2]⟩, ⟨false, b, [1]⟩, ⟨false, c, [1, 2, 3]⟩]
theorem ln_mem (a b c : Value) : plL (memP (lnMs a b c)) 3 = [2] := by
  rw [plL_succ, plL_succ, plL_succ]
  rw [show memP (lnMs a b c) 0 = false from rfl, show memP (lnMs a b c) 1 = false from rfl, show memP (lnMs a b c) 2 = true from rfl]
  rfl
theorem own_one {W : World} {B : Nat} {v : Value} {n : Nat} (h : W.ownsRow B 3 1 v [n].length (ncl [n])) : ∃ g c, v = .slice (some ⟨g, 0, none⟩) 1 c ∧ W.cell? ⟨g, 0, none⟩ = some (.int .i64 n) ∧ g < W.heap.size := by
  obtain ⟨A, c, rfl, hA⟩ := owns_form h
  obtain ⟨g, rfl⟩ := hA (by show 0 < 1; omega)
  refine ⟨g, c, rfl, ?_, (h.lt g rfl).2⟩
  have := h.cellAt 0 (by show 0 < 1 * 1; omega)
  simpa [ncl] using this
section
set_option maxRecDepth 100000
set_option maxHeartbeats 4000000
theorem lawAwake30_any (w : World) : Calls Tryz.prog 15 #[] w fun e w' => e = .returned (.bool true) ∧ Below w.heap.size w w' := by
  have HB1 := Lib.hid (below1 w (.cells #[.int .u32 0, .int .u32 65535] 41))
  have HS1 := Lib.hid (blk1 w (.cells #[.int .u32 0, .int .u32 65535] 41))
  go_enter Tryz.func15, Tryz.ntmps15
  go_upto_region 2 with fail
  generalize w.alloc (.cells #[.int .u32 0, .int .u32 65535] 41) = w1 at *
  have s0 := cell_of_row _ _ 0 _ _ (0, 0) HS1.out
  have s1 := cell_of_row _ _ 1 _ _ (0, 0) HS1.out
  simp only [List.getElem?_toArray, List.getElem?_cons_zero, List.getElem?_cons_succ] at s0 s1
  have HB2 := Lib.hid (HB1.out.trans ((below1 w1 (.cells #[.bool true, .int .i64 6, .int .u32 0, .int .i64 0, .int .u32 0, .int .i64 0, .int .u32 0, .int .u32 65535, .int .u32 0, .int .u32 65535, .bool false, .int .i64 (-1), .int .u32 0, .int .i64 0, .int .u32 0, .int .i64 0, .int .u32 0, .int .u32 65535, .int .u32 0, .int .u32 65535, .bool true, .int .i64 17, .int .u32 0, .int .i64 0, .int .u32 0, .int .i64 0, .int .u32 0, .int .u32 65535, .int .u32 0, .int .u32 65535] 43)).mono HB1.out.size))
  have HLR := Lib.hid (lintRules_any (w1.alloc (.cells #[.bool true, .int .i64 6, .int .u32 0, .int .i64 0, .int .u32 0, .int .i64 0, .int .u32 0, .int .u32 65535, .int .u32 0, .int .u32 65535, .bool false, .int .i64 (-1), .int .u32 0, .int .i64 0, .int .u32 0, .int .i64 0, .int .u32 0, .int .u32 65535, .int .u32 0, .int .u32 65535, .bool true, .int .i64 17, .int .u32 0, .int .i64 0, .int .u32 0, .int .i64 0, .int .u32 0, .int .u32 65535, .int .u32 0, .int .u32 65535] 43)) ⟨#[]⟩ lnL (.slice (some ⟨w1.heap.size, 0, none⟩) 3 3) (Rd.of_blk (k := 10) (n := 3) (c := 3) (blk1 w1 (.cells #[.bool true, .int .i64 6, .int .u32 0, .int .i64 0, .int .u32 0, .int .i64 0, .int .u32 0, .int .u32 65535, .int .u32 0, .int .u32 65535, .bool false, .int .i64 (-1), .int .u32 0, .int .i64 0, .int .u32 0, .int .i64 0, .int .u32 0, .int .u32 65535, .int .u32 0, .int .u32 65535, .bool true, .int .i64 17, .int .u32 0, .int .i64 0, .int .u32 0, .int .i64 0, .int .u32 0, .int .u32 65535, .int .u32 0, .int .u32 65535] 43)) (Nat.le_refl _) rfl) ln_e 16848 ln_filt (by show 3 * (6080 + 7 * 16848) ≤ 4194304; omega))
  go_upto_region 3 with ((with_reducible refine HLR.out.mono ?_); rintro e w2 ⟨v2, rfl, ho2, hb2⟩; rw [show zerosP lnL lnL.length = [2] from ln_zeros] at ho2; obtain ⟨g2, c2, rfl, hc2, hg2⟩ := own_one ho2; have HC2 := Lib.hid (And.intro hc2 hg2); have HB3 := Lib.hid (HB2.out.trans (hb2.mono HB2.out.size)); clear ho2 hb2 hc2 hg2)
  clear s0 s1 HLR HB1 HS1 HB2
  have hb3 := below3 w2 (.cells #[.int .u32 1, .int .u32 2] 36) (.cells #[.int .u32 1] 36) (.cells #[.int .u32 1, .int .u32 2, .int .u32 3] 36)
  obtain ⟨u0, u1, u2⟩ := blk3 w2 (.cells #[.int .u32 1, .int .u32 2] 36) (.cells #[.int .u32 1] 36) (.cells #[.int .u32 1, .int .u32 2, .int .u32 3] 36)
  have hs3 : (((w2.alloc (.cells #[.int .u32 1, .int .u32 2] 36)).alloc (.cells #[.int .u32 1] 36)).alloc (.cells #[.int .u32 1, .int .u32 2, .int .u32 3] 36)).heap.size = w2.heap.size + 1 + 1 + 1 := by simp
  have hb4 := below1 (((w2.alloc (.cells #[.int .u32 1, .int .u32 2] 36)).alloc (.cells #[.int .u32 1] 36)).alloc (.cells #[.int .u32 1, .int .u32 2, .int .u32 3] 36)) (.cells #[.bool false, (.slice (some ⟨w2.heap.size, 0, none⟩) 2 2), .bool false, (.slice (some ⟨w2.heap.size + 1, 0, none⟩) 1 1), .bool false, (.slice (some ⟨w2.heap.size + 1 + 1, 0, none⟩) 3 3)] 122)
  have km := blk1 (((w2.alloc (.cells #[.int .u32 1, .int .u32 2] 36)).alloc (.cells #[.int .u32 1] 36)).alloc (.cells #[.int .u32 1, .int .u32 2, .int .u32 3] 36)) (.cells #[.bool false, (.slice (some ⟨w2.heap.size, 0, none⟩) 2 2), .bool false, (.slice (some ⟨w2.heap.size + 1, 0, none⟩) 1 1), .bool false, (.slice (some ⟨w2.heap.size + 1 + 1, 0, none⟩) 3 3)] 122)
  rw [hs3] at km
  have hb5 : Below w2.heap.size w2 ((((w2.alloc (.cells #[.int .u32 1, .int .u32 2] 36)).alloc (.cells #[.int .u32 1] 36)).alloc (.cells #[.int .u32 1, .int .u32 2, .int .u32 3] 36)).alloc (.cells #[.bool false, (.slice (some ⟨w2.heap.size, 0, none⟩) 2 2), .bool false, (.slice (some ⟨w2.heap.size + 1, 0, none⟩) 1 1), .bool false, (.slice (some ⟨w2.heap.size + 1 + 1, 0, none⟩) 3 3)] 122)) := hb3.trans (hb4.mono hb3.size)
  have hM : MsAt ((((w2.alloc (.cells #[.int .u32 1, .int .u32 2] 36)).alloc (.cells #[.int .u32 1] 36)).alloc (.cells #[.int .u32 1, .int .u32 2, .int .u32 3] 36)).alloc (.cells #[.bool false, (.slice (some ⟨w2.heap.size, 0, none⟩) 2 2), .bool false, (.slice (some ⟨w2.heap.size + 1, 0, none⟩) 1 1), .bool false, (.slice (some ⟨w2.heap.size + 1 + 1, 0, none⟩) 3 3)] 122)) ((((w2.alloc (.cells #[.int .u32 1, .int .u32 2] 36)).alloc (.cells #[.int .u32 1] 36)).alloc (.cells #[.int .u32 1, .int .u32 2, .int .u32 3] 36)).alloc (.cells #[.bool false, (.slice (some ⟨w2.heap.size, 0, none⟩) 2 2), .bool false, (.slice (some ⟨w2.heap.size + 1, 0, none⟩) 1 1), .bool false, (.slice (some ⟨w2.heap.size + 1 + 1, 0, none⟩) 3 3)] 122)).heap.size (.slice (some ⟨w2.heap.size + 1 + 1 + 1, 0, none⟩) 3 3) (lnMs (.slice (some ⟨w2.heap.size, 0, none⟩) 2 2) (.slice (some ⟨w2.heap.size + 1, 0, none⟩) 1 1) (.slice (some ⟨w2.heap.size + 1 + 1, 0, none⟩) 3 3)) := by
    refine ⟨Rd.of_blk (k := 2) (n := 3) (c := 3) km (Nat.le_refl _) rfl, fun m hm => ?_⟩
    simp only [lnMs, List.mem_cons, List.not_mem_nil, or_false] at hm
    rcases hm with rfl | rfl | rfl
    · exact ⟨Rd.of_blk (k := 1) (n := 2) (c := 2) (blk_below hb4 u0) (Nat.le_refl _) rfl, by show 2 ≤ _; omega⟩
    · exact ⟨Rd.of_blk (k := 1) (n := 1) (c := 1) (blk_below hb4 u1) (Nat.le_refl _) rfl, by show 1 ≤ _; omega⟩
    · exact ⟨Rd.of_blk (k := 1) (n := 3) (c := 3) (blk_below hb4 u2) (Nat.le_refl _) rfl, by show 3 ≤ _; omega⟩
  have HMB := Lib.hid (members_any ((((w2.alloc (.cells #[.int .u32 1, .int .u32 2] 36)).alloc (.cells #[.int .u32 1] 36)).alloc (.cells #[.int .u32 1, .int .u32 2, .int .u32 3] 36)).alloc (.cells #[.bool false, (.slice (some ⟨w2.heap.size, 0, none⟩) 2 2), .bool false, (.slice (some ⟨w2.heap.size + 1, 0, none⟩) 1 1), .bool false, (.slice (some ⟨w2.heap.size + 1 + 1, 0, none⟩) 3 3)] 122)) ⟨#[]⟩ _ _ hM (by show 3 ≤ _; omega))
  have HB5 := Lib.hid (HB3.out.trans (hb5.mono HB3.out.size))
  have HC5 := Lib.hid ((hb5.cell (p := ⟨g2, 0, none⟩) HC2.out.2).trans HC2.out.1)
  have HG5 : Hid (g2 < ((((w2.alloc (.cells #[.int .u32 1, .int .u32 2] 36)).alloc (.cells #[.int .u32 1] 36)).alloc (.cells #[.int .u32 1, .int .u32 2, .int .u32 3] 36)).alloc (.cells #[.bool false, (.slice (some ⟨w2.heap.size, 0, none⟩) 2 2), .bool false, (.slice (some ⟨w2.heap.size + 1, 0, none⟩) 1 1), .bool false, (.slice (some ⟨w2.heap.size + 1 + 1, 0, none⟩) 3 3)] 122)).heap.size) := Lib.hid (Nat.lt_of_lt_of_le HC2.out.2 hb5.size)
  clear hb3 u0 u1 u2 hs3 hb4 km hb5 hM HB3 HC2
  go_upto_region 4 with ((with_reducible refine HMB.out.mono ?_); rintro e w6 ⟨v6, rfl, ho6, hb6⟩; rw [show plL (memP (lnMs (.slice (some ⟨w2.heap.size, 0, none⟩) 2 2) (.slice (some ⟨w2.heap.size + 1, 0, none⟩) 1 1) (.slice (some ⟨w2.heap.size + 1 + 1, 0, none⟩) 3 3))) (lnMs (.slice (some ⟨w2.heap.size, 0, none⟩) 2 2) (.slice (some ⟨w2.heap.size + 1, 0, none⟩) 1 1) (.slice (some ⟨w2.heap.size + 1 + 1, 0, none⟩) 3 3)).length = [2] from ln_mem _ _ _] at ho6; obtain ⟨g6, c6, rfl, hc6, _⟩ := own_one ho6; have HC6 := Lib.hid hc6; have HC7 := Lib.hid ((hb6.cell (p := ⟨g2, 0, none⟩) HG5.out).trans HC5.out); have HB6 := Lib.hid (HB5.out.trans (hb6.mono HB5.out.size)); clear ho6 hb6 hc6)
  clear HMB HB5 HC5 HG5
  have c6' : w6.cell? ⟨g6, 0, none⟩ = some (.int .i64 2) := HC6.out
  have c7' : w6.cell? ⟨g2, 0, none⟩ = some (.int .i64 2) := HC7.out
  go_wp2
  go_ret
  exact ⟨rfl, HB6.out⟩
end
end Go.Proofs.YtbahehmfhjkgeaaGreat

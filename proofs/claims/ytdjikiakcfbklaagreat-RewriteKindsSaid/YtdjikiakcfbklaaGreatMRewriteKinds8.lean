/-
  Joined texts: Sg, Rb1, Wid2, Rb3, MixS, Rb4, Rb2, Wid3, Rb5, SpMath, Sp1.
-/
import Derived.Test.YtdjikiakcfbklaaGreatMRewriteKinds7
import Derived.Deep.CutBlock
import Derived.IntWalk
import Derived.Laws.BitsAllLaws
import Derived.Deep.RegionHeld3
import Derived.Deep.DeepCutAuto
import Derived.Test.YtdjikiakcfbklaaGreatMRewriteKinds6
import Derived.Test.YtdjikiakcfbklaaGreatMRewriteKinds1
import Derived.Test.YtdjikiakcfbklaaGreatMRewriteKinds4
import Derived.Test.YtdjikiakcfbklaaGreatMRewriteKinds5
import Derived.Test.YtdjikiakcfbklaaGreatShelf4
/-
  A space and what its nodes say.
-/
namespace Go.Proofs.YtdjikiakcfbklaaGreat
open Go Go.RowKit Go.ChangeMaps Go.MapKept Go.Maps Go.Lib Go.Sort

/-- What a space has: nodes, the held, the given, what is known. -/
structure Sg where
  N : List Nd
  H : List Nat
  G : List Nat
  K : List (Value × Value)
def IsSet (N : List Nd) (g : Nat) : Prop := ∀ v, v % 2 = 1 → Free (fun s => ev N s g) v
structure SgOk (Mo : Nat) (σ : Sg) : Prop where
  wf : WF σ.N
  hok : FOk σ.N σ.H
  cl : Cl σ.N σ.H
  g : ∀ g ∈ σ.G, g < σ.N.length ∧ (g < 2 ∨ g ∈ σ.H) ∧ Hangs (fun s => ev σ.N s g) 0 208
  g0 : 0 ∈ σ.G
  g1 : 1 ∈ σ.G
  k : ∀ p ∈ σ.K, ∃ g ∈ σ.G, p.1 = .int .i64 (g : Int) ∧ (p.2 = .int .i64 1 ∨ p.2 = .int .i64 2 ∧ IsSet σ.N g)
  mo : σ.H.length ≤ Mo
  le : σ.N.length ≤ 2147483647
structure SpOk (w : World) (B S km : Nat) (A : Blks) (Mo : Nat) (σ : Sg) : Prop where
  sp : SpAt w B S km A Mo σ.N σ.H σ.G σ.K
  ok : SgOk Mo σ
/-- The space went on: at most k nodes more, at most m more held. -/
structure To (k m : Nat) (σ τ : Sg) : Prop where
  ext : Ext σ.N τ.N
  nl : τ.N.length ≤ σ.N.length + k
  hl : τ.H.length ≤ σ.H.length + m
  g : ∀ g ∈ σ.G, g ∈ τ.G
  h : ∀ g ∈ σ.H, g ∈ τ.H
theorem To.refl (σ : Sg) : To 0 0 σ σ := ⟨Ext.refl _, Nat.le_refl _, Nat.le_refl _, fun _ h => h, fun _ h => h⟩
theorem To.trans {k m k' m' : Nat} {a b c : Sg} (h : To k m a b) (g : To k' m' b c) : To (k + k') (m + m') a c :=
  ⟨h.ext.trans g.ext, by have := h.nl; have := g.nl; omega, by have := h.hl; have := g.hl; omega, fun x hx => g.g x (h.g x hx), fun x hx => g.h x (h.h x hx)⟩
theorem To.mono {k m k' m' : Nat} {a b : Sg} (h : To k m a b) (hk : k ≤ k') (hm : m ≤ m') : To k' m' a b :=
  ⟨h.ext, by have := h.nl; omega, by have := h.hl; omega, h.g, h.h⟩
/-- A given node says F. -/
def Den (σ : Sg) (g : Nat) (F : Fun) : Prop := g ∈ σ.G ∧ ∀ s, ev σ.N s g = F s
theorem Den.to {k m Mo Mo' : Nat} {σ τ : Sg} {g : Nat} {F : Fun} (h : Den σ g F) (t : To k m σ τ) (o : SgOk Mo σ) (p : SgOk Mo' τ) : Den τ g F :=
  ⟨t.g g h.1, fun s => (t.ext.ev o.wf p.wf s (o.g g h.1).1).trans (h.2 s)⟩
theorem Den.zero {Mo : Nat} {σ : Sg} (o : SgOk Mo σ) : Den σ 0 (fun _ => false) := ⟨o.g0, fun _ => rfl⟩
theorem Den.one {Mo : Nat} {σ : Sg} (o : SgOk Mo σ) : Den σ 1 (fun _ => true) := ⟨o.g1, fun _ => rfl⟩
theorem Den.hangs {Mo : Nat} {σ : Sg} {g : Nat} {F : Fun} (h : Den σ g F) (o : SgOk Mo σ) : Hangs F 0 208 := by
  have := (o.g g h.1).2.2
  rw [show (fun s => ev σ.N s g) = F from funext h.2] at this
  exact this
/-- One node for one function. -/
theorem Den.same {Mo : Nat} {σ : Sg} {g h : Nat} {F : Fun} (a : Den σ g F) (b : Den σ h F) (o : SgOk Mo σ) : g = h :=
  o.wf.canon (g + h) g h (by omega) (by omega) (o.g g a.1).1 (o.g h b.1).1 fun s => (a.2 s).trans (b.2 s).symm
theorem Den.level {Mo : Nat} {σ : Sg} {g v : Nat} {F : Fun} (h : Den σ g F) (o : SgOk Mo σ) (hF : Hangs F (v + 1) 256) (hv : v < 256) : v < (nd σ.N g).v :=
  o.wf.level (o.g g h.1).1 (m := v + 1) (by omega) fun s t e => by
    rw [h.2, h.2]
    exact hF s t fun u h1 _ => e u h1
theorem Den.grow {Mo : Nat} {σ : Sg} {g : Nat} {F : Fun} (h : Den σ g F) (o : SgOk Mo σ) : Grow σ.N σ.H F 0 0 := by
  have := Grow.old (H := σ.H) o.wf (o.g g h.1).1 (o.g g h.1).2.1
  rw [show (fun s => ev σ.N s g) = F from funext h.2] at this
  exact this
theorem Den.step {Mo : Nat} {σ : Sg} {g h v : Nat} {F G : Fun} (a : Den σ g F) (b : Den σ h G) (o : SgOk Mo σ) (hv : v < 208) (hF : Hangs F (v + 1) 256) (hG : Hangs G (v + 1) 256) : Grow σ.N σ.H (fun s => if s v then F s else G s) 1 1 := by
  have := Grow.step (H := σ.H) o.wf (by omega : v < 256) (o.g g a.1).1 (o.g h b.1).1 (a.level o hF (by omega)) (b.level o hG (by omega)) (o.g g a.1).2.1 (o.g h b.1).2.1
  rw [show (fun s : Nat → Bool => if s v then ev σ.N s g else ev σ.N s h) = fun s => if s v then F s else G s from funext fun s => by rw [a.2, b.2]] at this
  exact this
/-- A node that is the answer F of an operation. -/
structure Ans (N : List Nd) (F : Fun) (r : Nat) (N' : List Nd) : Prop where
  ext : Ext N N'
  wf : WF N'
  lt : r < N'.length
  sem : ∀ s, ev N' s r = F s
  new : ∀ i, N.length ≤ i → i < N'.length → Rch N' r i
theorem IteTo.ans {N N' : List Nd} {f g h r : Nat} (t : IteTo N f g h r N') : Ans N (fun s => if ev N s f then ev N s g else ev N s h) r N' := ⟨t.ext, t.wf, t.lt, t.sem, t.new⟩
/-- Nothing but the space has turned. -/
structure KeptS (A : Blks) (km : Nat) (w w' : World) : Prop where
  os : w'.os = w.os
  tape : w'.tape = w.tape
  output : w'.output = w.output
  size : w.heap.size ≤ w'.heap.size
  same : ∀ k, Foreign A w k → k ≠ km → w'.heap[k]? = w.heap[k]? ∧ Foreign A w' k
theorem KeptS.refl (A : Blks) (km : Nat) (w : World) : KeptS A km w w := ⟨rfl, rfl, rfl, Nat.le_refl _, fun _ h _ => ⟨rfl, h⟩⟩
theorem KeptS.trans {A : Blks} {km : Nat} {a b c : World} (h : KeptS A km a b) (g : KeptS A km b c) : KeptS A km a c :=
  ⟨g.os.trans h.os, g.tape.trans h.tape, g.output.trans h.output, Nat.le_trans h.size g.size, fun k hk hn => ⟨(g.same k (h.same k hk hn).2 hn).1.trans (h.same k hk hn).1, (g.same k (h.same k hk hn).2 hn).2⟩⟩
theorem Kept.space {A : Blks} {w w' : World} (h : Kept A w w') (km : Nat) : KeptS A km w w' := ⟨h.os, h.tape, h.output, h.size, fun k hk _ => h.same k hk⟩
theorem SpOk.below {w w' : World} {B S km : Nat} {A : Blks} {Mo : Nat} {σ : Sg} (h : SpOk w B S km A Mo σ) (hb : Below w.heap.size w w') : SpOk w' B S km A Mo σ := ⟨h.sp.below hb, h.ok⟩
theorem SpOk.kept {w w' : World} {B S km : Nat} {A : Blks} {Mo : Nat} {σ : Sg} (h : SpOk w B S km A Mo σ) (hb : Below w.heap.size w w') : KeptS A km w w' := (Kept.of_below h.sp.ar.a_lt hb).space km
/-- What a call on a space comes to: F's node, or no room. -/
def SpRes (w : World) (B S km : Nat) (A : Blks) (Mo : Nat) (σ : Sg) (F : Fun) (k m : Nat) (e : Ending) (w' : World) : Prop :=
  KeptS A km w w' ∧ ((e = .returned (.tuple #[.int .i64 0, .int .i64 3]) ∧ Mo < σ.H.length + m ∧ ∃ τ, SpOk w' B S km A Mo τ ∧ To k m σ τ) ∨
    ∃ (r : Nat) (τ : Sg), e = .returned (.tuple #[.int .i64 r, .int .i64 0]) ∧ SpOk w' B S km A Mo τ ∧ To k m σ τ ∧ Den τ r F)
theorem SpOk.op' {w : World} {B S km : Nat} {A : Blks} {Mo : Nat} {σ : Sg} (h : SpOk w B S km A Mo σ) {T : Nat → List Nd → Prop} {e : Ending} {w' : World} {F : Fun} {k m : Nat} (ho : OpRes w B A 208 Mo σ.H σ.G T e w')
    (hT : ∀ r N', T r N' → (Ext σ.N N' ∧ ∀ s, ev N' s r = F s) ∧ N'.length ≤ σ.N.length + k ∧ (newL N' σ.H r).length ≤ m) (hF : Hangs F 0 208) : SpRes w B S km A Mo σ F k m e w' := by
  obtain ⟨r, N', w1, t, wf', rlt, hk, hgv⟩ := ho
  obtain ⟨⟨aext, asem⟩, g1, g2⟩ := hT r N' t
  have hcl := h.ok.cl.ext aext fun i hi => (h.ok.hok.2 i hi).2
  have hhok := ext_ok aext h.ok.hok
  have hgd : ∀ g ∈ σ.G, g < N'.length ∧ (g < 2 ∨ g ∈ σ.H) ∧ Hangs (fun s => ev N' s g) 0 208 := fun g hg => by
    obtain ⟨p1, p2, p3⟩ := h.ok.g g hg
    refine ⟨Nat.lt_of_lt_of_le p1 aext.len, p2, ?_⟩
    rw [show (fun s => ev N' s g) = fun s => ev σ.N s g from funext fun s => aext.ev h.ok.wf wf' s p1]
    exact p3
  have hkd : ∀ p ∈ σ.K, ∃ g ∈ σ.G, p.1 = .int .i64 (g : Int) ∧ (p.2 = .int .i64 1 ∨ p.2 = .int .i64 2 ∧ IsSet N' g) := fun p hp => by
    obtain ⟨g, q1, q2, q3⟩ := h.ok.k p hp
    refine ⟨g, q1, q2, q3.imp id fun q => ⟨q.1, ?_⟩⟩
    unfold IsSet
    rw [show (fun s => ev N' s g) = fun s => ev σ.N s g from funext fun s => aext.ev h.ok.wf wf' s (h.ok.g g q1).1]
    exact q.2
  have hle : ∀ {H' G'} {w'' : World}, ArAt w'' B A 208 Mo N' H' G' → N'.length ≤ 2147483647 := fun ha => by obtain ⟨_, x⟩ := ha; exact x.le
  rcases hgv with ⟨f1, rfl, ha, hk2⟩ | ⟨f1, rfl, ha, hk2⟩
  · refine ⟨(hk.trans hk2).space km, .inl ⟨rfl, by omega, ⟨N', σ.H, σ.G, σ.K⟩, ⟨h.sp.step ha (hk.trans hk2), wf', hhok, hcl, hgd, h.ok.g0, h.ok.g1, hkd, h.ok.mo, hle ha⟩, aext, g1, Nat.le_add_right _ _, fun _ x => x, fun _ x => x⟩⟩
  · obtain ⟨c1, c2⟩ := newL_cl wf' hcl rlt
    have hG : ∀ g ∈ σ.G, g ∈ addL σ.G r := fun g hg => by unfold addL; split; exact hg; exact List.mem_append_left _ hg
    have hr : r ∈ addL σ.G r := by unfold addL; split; assumption; simp
    have hG2 : ∀ g ∈ addL σ.G r, g ∈ σ.G ∨ g = r := fun g hg => by
      unfold addL at hg
      split at hg
      · exact .inl hg
      · simpa using hg
    refine ⟨(hk.trans hk2).space km, .inr ⟨r, ⟨N', σ.H ++ newL N' σ.H r, addL σ.G r, σ.K⟩, rfl, ⟨h.sp.step ha (hk.trans hk2), wf', ⟨?_, fun i hi => ?_⟩, c1, fun g hg => ?_, hG 0 h.ok.g0, hG 1 h.ok.g1, fun p hp => ?_, by simpa using f1, hle ha⟩, ⟨aext, g1, by simp; omega, hG, fun _ x => List.mem_append_left _ x⟩, hr, asem⟩⟩
    · exact List.nodup_append.2 ⟨hhok.1, (newL_ok wf' σ.H rlt).1, fun x hx y hy e => newL_off N' σ.H r y hy (e ▸ hx)⟩
    · rcases List.mem_append.1 hi with hi | hi
      · exact hhok.2 i hi
      · exact (newL_ok wf' σ.H rlt).2 i hi
    · rcases hG2 g hg with hg | rfl
      · obtain ⟨p1, p2, p3⟩ := hgd g hg
        exact ⟨p1, p2.imp id fun x => List.mem_append_left _ x, p3⟩
      · refine ⟨rlt, ?_, ?_⟩
        · rcases Nat.lt_or_ge g 2 with x | x
          · exact .inl x
          · exact .inr (c2 x)
        · show Hangs (fun s => ev N' s g) 0 208
          rw [show (fun s => ev N' s g) = F from funext asem]
          exact hF
    · obtain ⟨g, q1, q2⟩ := hkd p hp
      exact ⟨g, hG g q1, q2⟩
theorem SpOk.op {w : World} {B S km : Nat} {A : Blks} {Mo : Nat} {σ : Sg} (h : SpOk w B S km A Mo σ) {T : Nat → List Nd → Prop} {e : Ending} {w' : World} {F : Fun} {k m : Nat} (ho : OpRes w B A 208 Mo σ.H σ.G T e w')
    (hT : ∀ r N', T r N' → Ans σ.N F r N') (hF : Hangs F 0 208) (hg : Grow σ.N σ.H F k m) : SpRes w B S km A Mo σ F k m e w' :=
  h.op' ho (fun r N' t => ⟨⟨(hT r N' t).ext, (hT r N' t).sem⟩, hg r N' (hT r N' t).ext (hT r N' t).wf (hT r N' t).lt (hT r N' t).sem (hT r N' t).new⟩) hF
section
variable {w : World} {B S km : Nat} {A : Blks} {Mo : Nat} {σ : Sg}
theorem SpRes.form {F : Fun} {k m : Nat} {e : Ending} {w' : World} (h : SpRes w B S km A Mo σ F k m e w') : ∃ q c : Int, e = .returned (.tuple #[.int .i64 q, .int .i64 c]) := by
  rcases h.2 with ⟨rfl, _⟩ | ⟨_, _, rfl, _⟩
  · exact ⟨_, _, rfl⟩
  · exact ⟨_, _, rfl⟩
theorem Ans.same {N N' : List Nd} {F G : Fun} {r : Nat} (a : Ans N F r N') (h : ∀ s, F s = G s) : Ans N G r N' := ⟨a.ext, a.wf, a.lt, fun s => (a.sem s).trans (h s), a.new⟩
theorem MkTo.ans {N N' : List Nd} {v lo hi r : Nat} (m : MkTo N v lo hi r N') (h : WF N) (hlo : lo < N.length) (hhi : hi < N.length) (hvl : v < (nd N lo).v) (hvh : v < (nd N hi).v) : Ans N (fun s => if s v then ev N s hi else ev N s lo) r N' := by
  obtain ⟨a, b, c, d⟩ := m.good h hlo hhi hvl hvh
  refine ⟨a, b, c, d, fun i h1 h2 => ?_⟩
  rcases m with ⟨rfl, rfl, rfl⟩ | ⟨hne, _, hr, hn, rfl⟩ | ⟨hne, hnew, rfl, rfl⟩
  · omega
  · omega
  · have : i = N.length := by simp at h2; omega
    rw [this]
    exact .refl _
theorem SpOk.var (h : SpOk w B S km A Mo σ) (i : Nat) (hi : i < 208) (hl : σ.N.length + 1 ≤ 2147483647) :
    Calls Tryz.prog 81 #[.pointer (some ⟨A.a, 0, none⟩), .int .i64 i] w (SpRes w B S km A Mo σ (fun s => s i) 1 1) := by
  have two := h.ok.wf.two
  have e0 : (nd σ.N 0).v = 256 := by rw [h.ok.wf.ends 0 (by omega)]
  have e1 : (nd σ.N 1).v = 256 := by rw [h.ok.wf.ends 1 (by omega)]
  have hgr := (Den.one h.ok).step (Den.zero h.ok) h.ok hi (Hangs.const true _ _) (Hangs.const false _ _)
  rw [show (fun s : Nat → Bool => if s i then true else false) = fun s => s i from funext fun s => by cases s i <;> rfl] at hgr
  refine (Var_any i h.sp.ar hi (by omega) h.ok.hok fun r N' m => ?_).mono fun e w' ho => h.op ho (fun r N' m => ?_) ((Hangs.var i).mono (by omega) (by omega)) hgr
  · rcases m with ⟨_, _, rfl⟩ | ⟨_, _, _, _, rfl⟩ | ⟨_, _, _, rfl⟩
    · omega
    · omega
    · simpa using hl
  · exact (m.ans h.ok.wf (by omega) (by omega) (by omega) (by omega)).same fun s => by rw [ev_zero, ev_one]; cases s i <;> rfl
theorem SpOk.ite (h : SpOk w B S km A Mo σ) {f g k : Nat} {F G K : Fun} (hf : Den σ f F) (hg : Den σ g G) (hk : Den σ k K) {a b : Nat} (hgr : Grow σ.N σ.H (fun s => if F s then G s else K s) a b) (hl : σ.N.length + a ≤ 2147483647) :
    Calls Tryz.prog 46 #[.pointer (some ⟨A.a, 0, none⟩), .int .i64 f, .int .i64 g, .int .i64 k] w (SpRes w B S km A Mo σ (fun s => if F s then G s else K s) a b) := by
  have e : (fun s => if ev σ.N s f then ev σ.N s g else ev σ.N s k) = fun s => if F s then G s else K s := funext fun s => by rw [hf.2, hg.2, hk.2]
  have hgr' := hgr
  rw [← e] at hgr'
  refine (Ite_any f g k h.sp.ar ⟨hf.1, (h.ok.g f hf.1).1⟩ ⟨hg.1, (h.ok.g g hg.1).1⟩ ⟨hk.1, (h.ok.g k hk.1).1⟩ h.ok.hok (hgr'.cap hl)).mono fun e' w' ho => h.op ho (fun r N' t => ?_) ((hf.hangs h.ok).op (fun x y z => if x then y else z) (hg.hangs h.ok) (hk.hangs h.ok)) hgr
  exact t.ans.same fun s => congrFun e s
theorem SpOk.not (h : SpOk w B S km A Mo σ) {f : Nat} {F : Fun} (hf : Den σ f F) {a b : Nat} (hgr : Grow σ.N σ.H (fun s => !F s) a b) (hl : σ.N.length + a ≤ 2147483647) :
    Calls Tryz.prog 48 #[.pointer (some ⟨A.a, 0, none⟩), .int .i64 f] w (SpRes w B S km A Mo σ (fun s => !F s) a b) := by
  have e : (fun s => if ev σ.N s f then ev σ.N s 0 else ev σ.N s 1) = fun s => !F s := funext fun s => by rw [hf.2, ev_zero, ev_one]; cases F s <;> rfl
  have hgr' := hgr
  rw [← e] at hgr'
  refine (Not_any f h.sp.ar ⟨hf.1, (h.ok.g f hf.1).1⟩ h.ok.g0 h.ok.g1 h.ok.hok (hgr'.cap hl)).mono fun e' w' ho => h.op ho (fun r N' t => ?_) ((hf.hangs h.ok).op1 (fun x => !x)) hgr
  exact t.ans.same fun s => congrFun e s
theorem SpOk.and (h : SpOk w B S km A Mo σ) {f g : Nat} {F G : Fun} (hf : Den σ f F) (hg : Den σ g G) {a b : Nat} (hgr : Grow σ.N σ.H (fun s => F s && G s) a b) (hl : σ.N.length + a ≤ 2147483647) :
    Calls Tryz.prog 43 #[.pointer (some ⟨A.a, 0, none⟩), .int .i64 f, .int .i64 g] w (SpRes w B S km A Mo σ (fun s => F s && G s) a b) := by
  have e : (fun s => if ev σ.N s f then ev σ.N s g else ev σ.N s 0) = fun s => F s && G s := funext fun s => by rw [hf.2, hg.2, ev_zero]; cases F s <;> rfl
  have hgr' := hgr
  rw [← e] at hgr'
  refine (And_any f g h.sp.ar ⟨hf.1, (h.ok.g f hf.1).1⟩ ⟨hg.1, (h.ok.g g hg.1).1⟩ h.ok.g0 h.ok.hok (hgr'.cap hl)).mono fun e' w' ho => h.op ho (fun r N' t => ?_) ((hf.hangs h.ok).op2 (fun x y => x && y) (hg.hangs h.ok)) hgr
  exact t.ans.same fun s => congrFun e s
theorem SpOk.or (h : SpOk w B S km A Mo σ) {f g : Nat} {F G : Fun} (hf : Den σ f F) (hg : Den σ g G) {a b : Nat} (hgr : Grow σ.N σ.H (fun s => F s || G s) a b) (hl : σ.N.length + a ≤ 2147483647) :
    Calls Tryz.prog 44 #[.pointer (some ⟨A.a, 0, none⟩), .int .i64 f, .int .i64 g] w (SpRes w B S km A Mo σ (fun s => F s || G s) a b) := by
  have e : (fun s => if ev σ.N s f then ev σ.N s 1 else ev σ.N s g) = fun s => F s || G s := funext fun s => by rw [hf.2, hg.2, ev_one]; cases F s <;> rfl
  have hgr' := hgr
  rw [← e] at hgr'
  refine (Or_any f g h.sp.ar ⟨hf.1, (h.ok.g f hf.1).1⟩ ⟨hg.1, (h.ok.g g hg.1).1⟩ h.ok.g1 h.ok.hok (hgr'.cap hl)).mono fun e' w' ho => h.op ho (fun r N' t => ?_) ((hf.hangs h.ok).op2 (fun x y => x || y) (hg.hangs h.ok)) hgr
  exact t.ans.same fun s => congrFun e s
end
end Go.Proofs.YtdjikiakcfbklaaGreat

/-
  A number's bits laid in a space.
-/
namespace Go.Proofs.YtdjikiakcfbklaaGreat
open Go Go.RowKit Go.ChangeMaps Go.MapKept Go.Maps Go.Lib Go.Sort

def litF (x : Nat) (b : Bool) (F : Fun) : Fun := fun s => (s x == b) && F s
/-- The last m bits of a field's n, read from the last one up, are v's. -/
def bitsF (a o n v : Nat) : Nat → Fun
  | 0 => fun _ => true
  | m + 1 => litF (2 * (a + (n - 1 - m)) + o) (v.testBit m) (bitsF a o n v m)
theorem Hangs.lit {F : Fun} {x a b : Nat} (c : Bool) (h : Hangs F a b) (h1 : x ≤ a) (h2 : x < b) : Hangs (litF x c F) x b := fun s t e => by
  unfold litF
  rw [e x (Nat.le_refl _) h2, h s t fun u h3 h4 => e u (by omega) h4]
theorem bitsF_hangs (a o n v : Nat) (ho : o < 2) : ∀ m, m ≤ n → Hangs (bitsF a o n v m) (2 * (a + (n - m)) + o) (2 * (a + n) + o)
  | 0, _ => Hangs.const true _ _
  | m + 1, hm => by
    have := bitsF_hangs a o n v ho m (by omega)
    rw [show n - (m + 1) = n - 1 - m from by omega]
    exact this.lit _ (by omega) (by omega)
theorem SpRes.after {w w1 w' : World} {B S km : Nat} {A : Blks} {Mo : Nat} {σ τ : Sg} {F : Fun} {k m k' m' : Nat} {e : Ending} (t : To k m σ τ) (hk : KeptS A km w w1) (h : SpRes w1 B S km A Mo τ F k' m' e w') : SpRes w B S km A Mo σ F (k + k') (m + m') e w' := by
  refine ⟨hk.trans h.1, ?_⟩
  rcases h.2 with ⟨h1, h2, τ', h3, h4⟩ | ⟨r, τ', h1, h2, h3, h4⟩
  · exact .inl ⟨h1, by have := t.hl; omega, τ', h3, t.trans h4⟩
  · exact .inr ⟨r, τ', h1, h2, t.trans h3, h4⟩
theorem SpRes.mono {w w' : World} {B S km : Nat} {A : Blks} {Mo : Nat} {σ : Sg} {F : Fun} {k m k' m' : Nat} {e : Ending} (h : SpRes w B S km A Mo σ F k m e w') (hk : k ≤ k') (hm : m ≤ m') : SpRes w B S km A Mo σ F k' m' e w' := by
  refine ⟨h.1, ?_⟩
  rcases h.2 with ⟨h1, h2, τ', h3, h4⟩ | ⟨r, τ', h1, h2, h3, h4⟩
  · exact .inl ⟨h1, by omega, τ', h3, h4.mono hk hm⟩
  · exact .inr ⟨r, τ', h1, h2, h3.mono hk hm, h4⟩
/-- No room: whatever was asked. -/
theorem SpRes.full {w w' : World} {B S km : Nat} {A : Blks} {Mo : Nat} {σ τ : Sg} {F : Fun} {k m : Nat} {e : Ending} (hk : KeptS A km w w') (h1 : e = .returned (.tuple #[.int .i64 0, .int .i64 3])) (h2 : Mo < σ.H.length + m) (h3 : SpOk w' B S km A Mo τ) (h4 : To k m σ τ) : SpRes w B S km A Mo σ F k m e w' :=
  ⟨hk, .inl ⟨h1, h2, τ, h3, h4⟩⟩
theorem Den.lit {Mo : Nat} {σ : Sg} {g x : Nat} {F : Fun} (a : Den σ g F) (o : SgOk Mo σ) (hx : x < 208) (hF : Hangs F (x + 1) 256) (b : Bool) : Grow σ.N σ.H (litF x b F) 1 1 := by
  cases b
  · have := (Den.zero o).step a o hx (Hangs.const false _ _) hF
    rw [show (fun s : Nat → Bool => if s x then false else F s) = litF x false F from funext fun s => by unfold litF; cases s x <;> rfl] at this
    exact this
  · have := a.step (Den.zero o) o hx hF (Hangs.const false _ _)
    rw [show (fun s : Nat → Bool => if s x then F s else false) = litF x true F from funext fun s => by unfold litF; cases s x <;> rfl] at this
    exact this
theorem Den.notvar {Mo : Nat} {σ : Sg} {x : Nat} (o : SgOk Mo σ) (hx : x < 208) : Grow σ.N σ.H (fun s => !s x) 1 1 := by
  have := (Den.zero o).step (Den.one o) o hx (Hangs.const false _ _) (Hangs.const true _ _)
  rw [show (fun s : Nat → Bool => if s x then false else true) = fun s => !s x from funext fun s => by cases s x <;> rfl] at this
  exact this
set_option maxHeartbeats 400000 in
theorem now_any (i : Nat) (w : World) (hi : i < 1000) : Calls Tryz.prog 50 #[.int .i64 i] w fun e w' => e = .returned (.int .i64 ((2 * i + 0 : Nat) : Int)) ∧ w' = w := by
  go_enter Tryz.func50, Tryz.ntmps50
  go_wp2
  go_ret
  exact ⟨by go_num, rfl⟩
set_option maxHeartbeats 400000 in
theorem then_any (i : Nat) (w : World) (hi : i < 1000) : Calls Tryz.prog 56 #[.int .i64 i] w fun e w' => e = .returned (.int .i64 ((2 * i + 1 : Nat) : Int)) ∧ w' = w := by
  go_enter Tryz.func56, Tryz.ntmps56
  go_wp2
  go_ret
  exact ⟨by go_num, rfl⟩
/-- A function of bits: the bit's variable. -/
structure VarF (vf : FuncId) (o : Nat) : Prop where
  o2 : o < 2
  en : ∀ (args : Array Value) (w : World), (callFunc vf args).run Tryz.prog w = .ok (.enter vf args) w
  calls : ∀ (i : Nat) (w : World), i < 1000 → Calls Tryz.prog vf #[.int .i64 i] w fun e w' => e = .returned (.int .i64 ((2 * i + o : Nat) : Int)) ∧ w' = w
theorem nowF : VarF 50 0 := ⟨by omega, fun _ _ => by go_simp, now_any⟩
theorem thenF : VarF 56 1 := ⟨by omega, fun _ _ => by go_simp, then_any⟩
theorem bit_u64 (v m : Nat) (hv : v < 4294967296) : bits .and .u64 ((v : Int) / 2 ^ m) 1 = if v.testBit m then 1 else 0 := by
  have e : ((v : Int) / 2 ^ m) = ((v / 2 ^ m : Nat) : Int) := by
    simp
  have hlt : v / 2 ^ m ≤ v := Nat.div_le_self _ _
  rw [e, show (1 : Int) = ((1 : Nat) : Int) from rfl, u64_and_nat _ _ (by omega) (by omega), Nat.and_one_is_mod, Nat.testBit_eq_decide_div_mod_eq]
  have : v / 2 ^ m % 2 = 0 ∨ v / 2 ^ m % 2 = 1 := by omega
  rcases this with h | h <;> simp [h]
theorem SpRes.two {w w' : World} {B S km : Nat} {A : Blks} {Mo : Nat} {σ : Sg} {F : Fun} {k m : Nat} {q c : Int} (h : SpRes w B S km A Mo σ F k m (.returned (.tuple #[.int .i64 q, .int .i64 c])) w') :
    (q = 0 ∧ c = 3 ∧ Mo < σ.H.length + m ∧ ∃ τ, SpOk w' B S km A Mo τ ∧ To k m σ τ) ∨ ∃ (r : Nat) (τ : Sg), q = r ∧ c = 0 ∧ SpOk w' B S km A Mo τ ∧ To k m σ τ ∧ Den τ r F := by
  rcases h.2 with ⟨h1, h2⟩ | ⟨r, τ, h1, h2⟩
  · injection h1 with h1
    simp at h1
    exact .inl ⟨h1.1, h1.2, h2⟩
  · injection h1 with h1
    simp at h1
    exact .inr ⟨r, τ, h1.1, h1.2, h2⟩
theorem SpRes.c0 {w w' : World} {B S km : Nat} {A : Blks} {Mo : Nat} {σ : Sg} {F : Fun} {k m : Nat} {e : Ending} (h : SpRes w B S km A Mo σ F k m e w') : w'.cell? ⟨S, 0, none⟩ = some (.pointer (some ⟨A.a, 0, none⟩)) := by
  rcases h.2 with ⟨_, _, _, h, _⟩ | ⟨_, _, _, h, _⟩ <;> exact h.sp.c0
set_option maxRecDepth 100000 in
set_option maxHeartbeats 2000000 in
theorem bits_any {w : World} {B S km : Nat} {A : Blks} {Mo : Nat} {σ : Sg} (h : SpOk w B S km A Mo σ) {vf : FuncId} {o : Nat} (V : VarF vf o) (a n v : Nat) (hn : a + n ≤ 104) (hn32 : n ≤ 32) (hv : v < 4294967296) (hl : σ.N.length + 3 * n ≤ 2147483647) :
    Calls Tryz.prog 60 #[.pointer (some ⟨S, 0, none⟩), .int .i64 a, .int .i64 n, .int .u64 v, .func (.func vf) #[] #[]] w (SpRes w B S km A Mo σ (bitsF a o n v n) (3 * n) (3 * n)) := by
  have HS := Lib.hid h
  have hen := V.en
  have HV := Lib.hid V
  have hn1 : (n : Int) ≤ 104 := by omega
  have ha1 : (a : Int) ≤ 104 := by omega
  clear h V
  go_enter Tryz.func60, Tryz.ntmps60
  go_wp2
  go_loopw [12, 13] (fun f i wr => ∃ m : Nat, m ≤ n ∧ i = .int .i64 ((n : Int) - 1 - m) ∧ ∃ (r : Nat) (τ : Sg), f = .int .i64 r ∧ Hid (SpOk wr B S km A Mo τ) ∧ Hid (To (3 * m) (3 * m) σ τ) ∧ Hid (Den τ r (bitsF a o n v m)) ∧ Hid (KeptS A km w wr)) (fun _ i _ => (intOf i + 1).toNat)
  case atStart => exact ⟨0, by omega, by simp, 1, σ, rfl, HS, Lib.hid (To.refl σ), Lib.hid (Den.one HS.out.ok), Lib.hid (KeptS.refl _ _ _)⟩
  case round =>
    obtain ⟨m, hm, rfl, r, τ, rfl, HS1, HT1, HD1, HK1⟩ := hrel
    by_cases hlt : m < n
    · have hI : (n : Int) - 1 - m ≥ 0 := by omega
      have c0 := HS1.out.sp.c0
      obtain ⟨x, hx⟩ : ∃ x, x = 2 * (a + (n - 1 - m)) + o := ⟨_, rfl⟩
      have hxi : ((a + (n - 1 - m) : Nat) : Int) = (a : Int) + ((n : Int) - 1 - m) := by omega
      have ho := HV.out.o2
      have HN := Lib.hid (show ∀ W, Calls Tryz.prog vf #[.int .i64 ((a : Int) + ((n : Int) - 1 - m))] W (fun e w' => e = .returned (.int .i64 (x : Int)) ∧ w' = W) from fun W => by
        have := HV.out.calls (a + (n - 1 - m)) W (by omega)
        rw [hxi, ← hx] at this
        exact this)
      have hwd : Below wr.heap.size wr wr.drew := ⟨rfl, rfl, rfl, Nat.le_refl _, fun _ _ => rfl⟩
      have HSD := Lib.hid (HS1.out.below hwd)
      have HKD := Lib.hid (HK1.out.trans (HS1.out.kept hwd))
      have hnl := HT1.out.nl
      have hvar := Lib.hid (HSD.out.var x (by omega) (by omega))
      have hw1 : IntKind.i64.wrap ((a : Int) + ((n : Int) - 1 - m)) = (a : Int) + ((n : Int) - 1 - m) := IntWalk.i64_in _ (by omega)
      have HX := Lib.hid hx
      clear hxi hnl hwd ho hx
      go_upto_region 5 with fail
      go_region_held3 (fun w' => w'.cell? ⟨S, 0, none⟩ = some (.pointer (some ⟨A.a, 0, none⟩))) (first | exact hcs | go_keep) ((first
        | ((with_reducible refine (HN.out _).mono ?_); rintro e _ ⟨rfl, rfl⟩)
        | ((with_reducible refine hvar.out.mono ?_); rintro e W5 hr5; obtain ⟨q5, c5, he5⟩ := hr5.form; have HR5 := Lib.hid hr5; subst he5; have hcs : W5.cell? ⟨S, 0, none⟩ = some (.pointer (some ⟨A.a, 0, none⟩)) := hr5.c0; clear hr5)))
      have hfin5 := HR5.out.two
      clear hcs
      rcases hfin5 with ⟨rfl, rfl, hlt5, τ5, hs5, ht5⟩ | ⟨r5, τ5, rfl, rfl, hs5, ht5, hd5⟩
      · have HFIN := Lib.hid (SpRes.full (F := bitsF a o n v n) (HKD.out.trans HR5.out.1) rfl (by have := HT1.out.hl; omega) hs5 ((HT1.out.trans ht5).mono (show 3 * m + 1 ≤ 3 * n by omega) (show 3 * m + 1 ≤ 3 * n by omega)))
        clear hlt5 hs5 ht5
        go_wp2
        go_ret2
        exact HFIN.out
      · have HS5 := Lib.hid hs5
        have HT5 := Lib.hid (HT1.out.trans ht5)
        have HD5 := Lib.hid hd5
        have HK5 := Lib.hid (HKD.out.trans HR5.out.1)
        have c5 := hs5.sp.c0
        have HD5r := Lib.hid (HD1.out.to ht5 HS1.out.ok hs5.ok)
        clear hs5 ht5 hd5 HR5 hvar HN
        have hsh : (n : Int) - 1 - ((n : Int) - 1 - m) = m := by omega
        have hn5 := HT5.out.nl
        have hh5 := HT5.out.hl
        have hxl : x < 208 := by have := HX.out; have := HV.out.o2; omega
        have HLF : Hid (∀ (W : World) (q : Nat) (τ6 : Sg) (k : Nat), k ≤ 1 → SpOk W B S km A Mo τ6 → To k k τ5 τ6 → KeptS A km w W → Den τ6 q (fun s => s x == v.testBit m) → Calls Tryz.prog 43 #[.pointer (some ⟨A.a, 0, none⟩), .int .i64 q, .int .i64 r] W (fun e w' => ∃ Q C : Int, e = .returned (.tuple #[.int .i64 Q, .int .i64 C]) ∧ ((Q = 0 ∧ C = 3 ∧ SpRes w B S km A Mo σ (bitsF a o n v n) (3 * n) (3 * n) e w') ∨
            ∃ (r' : Nat) (τ' : Sg), Q = r' ∧ C = 0 ∧ SpOk w' B S km A Mo τ' ∧ To (3 * (m + 1)) (3 * (m + 1)) σ τ' ∧ Den τ' r' (bitsF a o n v (m + 1)) ∧ KeptS A km w w'))) := Lib.hid (by
          intro W q τ6 k hk h6 t6 k6 d6
          have hrd := HD5r.out.to t6 HS5.out.ok h6.ok
          have hgr := hrd.lit h6.ok hxl ((bitsF_hangs a o n v HV.out.o2 m hm).mono (show x + 1 ≤ 2 * (a + (n - m)) + o by have := HX.out; omega) (by have := HV.out.o2; omega)) (v.testBit m)
          have n6 := t6.nl
          have l6 := t6.hl
          have t7 := HT5.out.trans t6
          refine (h6.and d6 hrd (a := 1) (b := 1) hgr (by omega)).mono fun e w' hr => ?_
          obtain ⟨Q, C, rfl⟩ := hr.form
          refine ⟨Q, C, rfl, ?_⟩
          rcases hr.two with ⟨h1, h2, h3, τ', h4, h5⟩ | ⟨r', τ', h1, h2, h4, h5, h6⟩
          · subst h1 h2
            exact .inl ⟨rfl, rfl, SpRes.full (k6.trans hr.1) rfl (by omega) h4 ((t7.trans h5).mono (by omega) (by omega))⟩
          · refine .inr ⟨r', τ', h1, h2, h4, (t7.trans h5).mono (by omega) (by omega), ?_, k6.trans hr.1⟩
            have : bitsF a o n v (m + 1) = fun s => (s x == v.testBit m) && bitsF a o n v m s := by rw [HX.out]; rfl
            rw [this]
            exact h6)
        clear hn5 hh5 hxl HD5r
        cases hb : v.testBit m with
        | false =>
          have hbit : bits .and .u64 ((v : Int) / 2 ^ m) 1 = 0 := by rw [bit_u64 v m hv, hb]; rfl
          have hnot := Lib.hid (HS5.out.not HD5.out (a := 1) (b := 1) (Den.notvar HS5.out.ok (by have := HX.out; have := HV.out.o2; omega)) (by have := HT5.out.nl; omega))
          rw [hb] at HLF
          clear hb
          go_upto_region 10 with ((with_reducible refine hnot.out.mono ?_); rintro e W6 hr6; obtain ⟨q6, c6, he6⟩ := hr6.form; subst he6; have HR6 := Lib.hid hr6; clear hr6)
          rcases HR6.out.two with ⟨rfl, rfl, hlt6, τ6, hs6, ht6⟩ | ⟨r6, τ6, rfl, rfl, hs6, ht6, hd6⟩
          · have HFIN := Lib.hid (SpRes.full (F := bitsF a o n v n) (HK5.out.trans HR6.out.1) rfl (by have := HT5.out.hl; omega) hs6 ((HT5.out.trans ht6).mono (show 3 * m + 1 + 1 ≤ 3 * n by omega) (show 3 * m + 1 + 1 ≤ 3 * n by omega)))
            clear hlt6 hs6 ht6
            go_wp2
            go_ret2
            exact HFIN.out
          · have c6 := hs6.sp.c0
            have HAND := Lib.hid (HLF.out W6 r6 τ6 1 (by omega) hs6 ht6 (HK5.out.trans HR6.out.1) (by
              refine ⟨hd6.1, fun s => (hd6.2 s).trans ?_⟩
              show (!s x) = (s x == false)
              cases s x <;> rfl))
            clear hs6 ht6 hd6 HR6 hnot HLF c5
            go_upto_region 13 with ((with_reducible refine HAND.out.mono ?_); rintro e W7 ⟨q7, c7, he7, hr7⟩; subst he7; have HR7 := Lib.hid hr7; clear hr7)
            rcases HR7.out with ⟨rfl, rfl, hr⟩ | ⟨r7, τ7, rfl, rfl, hs7, ht7, hd7, hk7⟩
            · have HFIN := Lib.hid hr
              clear hr HR7
              go_wp2
              go_ret2
              exact HFIN.out
            · have HS7 := Lib.hid hs7
              have HT7 := Lib.hid ht7
              have HD7 := Lib.hid hd7
              have HK7 := Lib.hid hk7
              clear hs7 ht7 hd7 hk7 HR7 HAND
              go_wp2
              exact ⟨⟨m + 1, by omega, by go_num, r7, τ7, rfl, HS7, HT7, HD7, HK7⟩, by simp only [intOf]; omega⟩
        | true =>
          have hbit : bits .and .u64 ((v : Int) / 2 ^ m) 1 = 1 := by rw [bit_u64 v m hv, hb]; rfl
          rw [hb] at HLF
          have HAND := Lib.hid (HLF.out W5 r5 τ5 0 (by omega) HS5.out (To.refl _) HK5.out (by
              refine ⟨HD5.out.1, fun s => (HD5.out.2 s).trans ?_⟩
              show s x = (s x == true)
              cases s x <;> rfl))
          clear HLF hb
          go_upto_region 13 with ((with_reducible refine HAND.out.mono ?_); rintro e W7 ⟨q7, c7, he7, hr7⟩; subst he7; have HR7 := Lib.hid hr7; clear hr7)
          rcases HR7.out with ⟨rfl, rfl, hr⟩ | ⟨r7, τ7, rfl, rfl, hs7, ht7, hd7, hk7⟩
          · have HFIN := Lib.hid hr
            clear hr HR7
            go_wp2
            go_ret2
            exact HFIN.out
          · have HS7 := Lib.hid hs7
            have HT7 := Lib.hid ht7
            have HD7 := Lib.hid hd7
            have HK7 := Lib.hid hk7
            clear hs7 ht7 hd7 hk7 HR7 HAND
            go_wp2
            exact ⟨⟨m + 1, by omega, by go_num, r7, τ7, rfl, HS7, HT7, HD7, HK7⟩, by simp only [intOf]; omega⟩
    · obtain rfl : m = n := by omega
      have hI : ¬ (m : Int) - 1 - m ≥ 0 := by omega
      have HFIN : Hid (SpRes w B S km A Mo σ (bitsF a o m v m) (3 * m) (3 * m) (.returned (.tuple #[.int .i64 r, .int .i64 0])) wr) := Lib.hid ⟨HK1.out, .inr ⟨r, τ, rfl, HS1.out, HT1.out, HD1.out⟩⟩
      go_wp2
      go_ret2
      exact HFIN.out
end Go.Proofs.YtdjikiakcfbklaaGreat

/-
  Diagrams, plain: how many nodes stand ahead of nodes that are held already. No program in sight.
-/
namespace Go.Proofs.YtdjikiakcfbklaaGreat

/-- Between a node and one beneath it, behind the variable u: a node that is what is left there. -/
theorem Rch.cross {N : List Nd} (w : WF N) {u : Nat} {r i : Nat} (h : Rch N r i) (hr : r < N.length) (hu : u < (nd N i).v) : ∃ j s, Rch N r j ∧ Rch N j i ∧ ∀ t, ev N (mixS (u + 1) s t) r = ev N t j := by
  have here : ∀ r i, Rch N r i → r < N.length → u < (nd N r).v → ∃ j s, Rch N r j ∧ Rch N j i ∧ ∀ t, ev N (mixS (u + 1) s t) r = ev N t j := fun r i h hr hu =>
    ⟨r, fun _ => false, .refl r, h, fun t => ev_agree w r _ _ hr fun v hv => mixS_high _ _ (by omega)⟩
  induction h with
  | refl i => exact here i i (.refl i) hr hu
  | @lo r i a b h ih =>
    rcases Nat.lt_or_ge u (nd N r).v with hv | hv
    · exact here r i (.lo a b h) hr hv
    · have h1 := w.lo _ a b
      have h2 := w.vlo _ a b
      obtain ⟨j, s, j1, j2, hs⟩ := ih (by omega) hu
      refine ⟨j, put s (nd N r).v false, .lo a b j1, j2, fun t => ?_⟩
      rw [ev_node w _ a b, mixS_low _ _ (by omega), put_same, if_neg (by simp), ← hs t]
      refine ev_agree w _ _ _ (by omega) fun v hv => ?_
      unfold mixS
      split
      · exact put_other (by omega)
      · rfl
  | @hi r i a b h ih =>
    rcases Nat.lt_or_ge u (nd N r).v with hv | hv
    · exact here r i (.hi a b h) hr hv
    · have h1 := w.hi _ a b
      have h2 := w.vhi _ a b
      obtain ⟨j, s, j1, j2, hs⟩ := ih (by omega) hu
      refine ⟨j, put s (nd N r).v true, .hi a b j1, j2, fun t => ?_⟩
      rw [ev_node w _ a b, mixS_low _ _ (by omega), put_same, if_pos rfl, ← hs t]
      refine ev_agree w _ _ _ (by omega) fun v hv => ?_
      unfold mixS
      split
      · exact put_other (by omega)
      · rfl
/-- Behind u all that is left has nodes that are held: only the nodes up to u are new. -/
theorem Grow.top {N : List Nd} {H : List Nat} {F : Fun} {u : Nat} (w : WF N) (hH : Cl N H) (hHl : ∀ i ∈ H, i < N.length) (c : Nat → Nat) (hc : ∀ v, v ≤ u → Free F v ∨ CutLe F v (c v))
    (hu : ∀ s, ∃ g, g < N.length ∧ (g < 2 ∨ g ∈ H) ∧ ∀ t, F (mixS (u + 1) s t) = ev N t g) : Grow N H F (sumTo c (u + 1)) (sumTo c (u + 1)) := fun r N' e w' hr hs hn => by
  have hl := e.len
  have old : ∀ i, Rch N' r i → u < (nd N' i).v → i < N.length ∧ (i < 2 ∨ i ∈ H) := fun i hi hui => by
    obtain ⟨j, s, j1, j2, hj⟩ := hi.cross w' hr hui
    obtain ⟨g, g1, g2, g3⟩ := hu s
    have hjl := j1.lt w' hr
    have : j = g := w'.canon (j + g) j g (by omega) (by omega) hjl (by omega) fun t => by rw [← hj t, hs, g3, e.ev w w' t g1]
    subst this
    have hle := j2.le w' hjl
    refine ⟨by omega, ?_⟩
    rcases Nat.lt_or_ge i 2 with i2 | i2
    · exact .inl i2
    · rcases g2 with g2 | g2
      · omega
      · exact .inr ((hH.ext e hHl).rch j2 g2 i2)
  have bound : ∀ l : List Nat, l.Nodup → (∀ i ∈ l, 2 ≤ i ∧ Rch N' r i ∧ (nd N' i).v ≤ u) → l.length ≤ sumTo c (u + 1) := fun l hd hm => by
    refine by_label (fun i => (nd N' i).v) c (u + 1) l (fun i hi => by have := (hm i hi).2.2; show (nd N' i).v < u + 1; omega) fun v hv => ?_
    have hm' : ∀ i ∈ (l.filter fun i => decide ((nd N' i).v = v)), i ∈ l ∧ (nd N' i).v = v := fun i hi => by
      have := List.mem_filter.1 hi
      exact ⟨this.1, by simpa using this.2⟩
    rcases hc v (by omega) with hf | ⟨L, hL, hcc⟩
    · refine Nat.le_trans (Nat.le_of_eq ?_) (Nat.zero_le _)
      rw [List.length_eq_zero_iff, List.eq_nil_iff_forall_not_mem]
      intro i hi
      obtain ⟨h1, h2⟩ := hm' i hi
      refine not_free w' hr (hm i h1).2.1 (hm i h1).1 ?_
      rw [h2, show (fun s => ev N' s r) = F from funext hs]
      exact hf
    · refine Nat.le_trans (inj_len _ L (fun i s => ev N' s i) (hd.filter _) (fun i hi => ?_) fun i hi j hj e => ?_) hL
      · obtain ⟨h1, h2⟩ := hm' i hi
        obtain ⟨s, hs'⟩ := (hm i h1).2.1.path w' hr
        have := hcc s
        rw [show cof F v s = fun t => ev N' t i from funext fun t => by rw [← hs' t, h2]; exact (hs _).symm] at this
        exact this
      · have h1 := hm i (hm' i hi).1
        have h2 := hm j (hm' j hj).1
        have := h1.2.1.lt w' hr
        have := h2.2.1.lt w' hr
        exact w'.canon (i + j) i j (by omega) (by omega) (by omega) (by omega) fun s => congrFun e s
  constructor
  · have hd : ((List.range (N'.length - N.length)).map (· + N.length)).Nodup := by
      refine List.Pairwise.map _ (fun a b h => ?_) List.nodup_range
      omega
    have two := w.two
    have := bound _ hd (fun i hi => by
      simp only [List.mem_map, List.mem_range] at hi
      obtain ⟨a, ha, rfl⟩ := hi
      have hr' := hn (a + N.length) (by omega) (by omega)
      refine ⟨by omega, hr', ?_⟩
      rcases Nat.lt_or_ge u (nd N' (a + N.length)).v with h | h
      · have := (old _ hr' h).1
        omega
      · exact h)
    simp at this
    omega
  · refine bound _ (newL_ok w' H hr).1 fun i hi => ?_
    rcases dfs_rch w' H _ _ _ hr i hi with h | ⟨h2, h⟩
    · cases h
    · refine ⟨h2, h, ?_⟩
      rcases Nat.lt_or_ge u (nd N' i).v with h' | h'
      · rcases (old i h h').2 with h3 | h3
        · omega
        · exact absurd h3 (newL_off N' H r i hi)
      · exact h'
/-- All that is left is false, or one of k. -/
def CutF (F : Fun) (v k : Nat) : Prop := ∃ L : List Fun, L.length ≤ k ∧ ∀ s, cof F v s ∈ (fun _ => false) :: L
theorem CutF.le {F : Fun} {v k : Nat} (h : CutF F v k) : CutLe F v (k + 1) := by
  obtain ⟨L, a, b⟩ := h
  exact ⟨_, by simp; exact a, b⟩
theorem Hangs.aheadF {F : Fun} {a b v : Nat} (h : Hangs F a b) (hv : v ≤ a) : CutF F v 1 := by
  obtain ⟨L, h1, h2⟩ := h.ahead hv
  exact ⟨L, h1, fun s => List.mem_cons_of_mem _ (h2 s)⟩
/-- Two variables ahead of a function that has a node. -/
theorem sumTo_zero (c : Nat → Nat) : ∀ n, (∀ v, v < n → c v = 0) → sumTo c n = 0
  | 0, _ => rfl
  | n + 1, h => by
    show sumTo c n + c n = 0
    rw [sumTo_zero c n fun v hv => h v (by omega), h n (by omega)]
theorem cof_eq {F G : Fun} {v : Nat} {s : Nat → Bool} (h : ∀ t, F (mixS v s t) = G t) : cof F v s = G := funext h
end Go.Proofs.YtdjikiakcfbklaaGreat

/-
  From each header to those with the same bits, but for those of a part (written by wip/gen/genrb3.py).
-/
namespace Go.Proofs.YtdjikiakcfbklaaGreat
open Go Go.RowKit Go.ChangeMaps Go.MapKept Go.Maps Go.Lib Go.Sort

theorem sumTo_two (a p q : Nat) : ∀ n, sumTo (fun v => if v = a then p else if v = a + 1 then q else 0) n ≤ (if a < n then p else 0) + (if a + 1 < n then q else 0)
  | 0 => by simp [sumTo]
  | n + 1 => by
    have ih := sumTo_two a p q n
    show sumTo _ n + (if n = a then p else if n = a + 1 then q else 0) ≤ _
    by_cases h1 : n = a
    · subst h1
      rw [if_neg (by omega), if_neg (by omega)] at ih
      rw [if_pos rfl, if_pos (by omega), if_neg (by omega)]
      omega
    · rw [if_neg h1]
      by_cases h2 : n = a + 1
      · subst h2
        rw [if_pos (by omega), if_neg (by omega)] at ih
        rw [if_pos rfl, if_pos (by omega), if_pos (by omega)]
        omega
      · rw [if_neg h2]
        by_cases l1 : a < n
        · by_cases l2 : a + 1 < n
          · rw [if_pos l1, if_pos l2] at ih
            rw [if_pos (by omega), if_pos (by omega)]
            exact ih
          · omega
        · rw [if_neg l1, if_neg (by omega)] at ih
          rw [if_neg (by omega), if_neg (by omega)]
          exact ih
theorem Wid.two {F : Fun} {a p q : Nat} (ha : a + 1 < 256) (h : Hangs F a (a + 2)) (h1 : CutLe F a p) (h2 : CutLe F (a + 1) q) : Wid F (p + q) := by
  refine ⟨_, fun v hv => ?_, Nat.le_trans (sumTo_two a p q 256) (by rw [if_pos (by omega), if_pos ha]; exact Nat.le_refl _)⟩
  by_cases e1 : v = a
  · subst e1
    refine .inr ?_
    simp only [if_true]
    exact h1
  · by_cases e2 : v = a + 1
    · subst e2
      refine .inr ?_
      simp only [e1, if_false, if_true]
      exact h2
    · exact .inl (h.free (by omega))
/-- Two cofactors at the second of two variables. -/
theorem CutLe.second {F : Fun} {a b : Nat} (h : Hangs F a b) : CutLe F (a + 1) 2 := by
  refine ⟨[fun t => F (put t a false), fun t => F (put t a true)], Nat.le_refl _, fun s => ?_⟩
  have e : cof F (a + 1) s = fun t => F (put t a (s a)) := funext fun t => h _ _ fun u h1 h2 => by
    rcases Nat.eq_or_lt_of_le h1 with e | e
    · subst e
      rw [mixS_low _ _ (by omega), put_same]
    · rw [mixS_high _ _ (by omega), put_other (by omega)]
  rw [e]
  cases s a <;> simp
def xorF (a : Nat) : Fun := fun s => s a != s (a + 1)
theorem xorF_hangs (a : Nat) : Hangs (xorF a) a (a + 2) := fun s t e => by
  unfold xorF
  rw [e a (by omega) (by omega), e (a + 1) (by omega) (by omega)]
theorem xorF_wid {a : Nat} (ha : a + 1 < 256) : Wid (xorF a) 3 := Wid.two ha (xorF_hangs a) ((xorF_hangs a).ahead (Nat.le_refl _)) (CutLe.second (xorF_hangs a))
theorem not_wid {a : Nat} (ha : a + 1 < 256) : Wid (fun s => !s a) 1 := (Wid.two (p := 1) (q := 2) ha (((Hangs.var a).op1 (fun x => !x)).mono (by omega) (by omega)) (((Hangs.var a).op1 (fun x => !x)).ahead (by omega)) (((Hangs.var a).op1 (fun x => !x)).behind (by omega))) |> fun h => by
  refine ⟨fun v => if v = a then 1 else 0, fun v hv => ?_, ?_⟩
  · by_cases e : v = a
    · subst e
      refine .inr ?_
      simp only [if_true]
      exact ((Hangs.var v).op1 (fun x => !x)).ahead (Nat.le_refl _)
    · exact .inl (((Hangs.var a).op1 (fun x => !x)).free (by omega))
  · have := sumTo_two a 1 0 256
    simp at this
    split at this <;> omega
theorem SpOk.xor {w : World} {B S km : Nat} {A : Blks} {Mo : Nat} {σ : Sg} (h : SpOk w B S km A Mo σ) {f g : Nat} {F G : Fun} (hf : Den σ f F) (hg : Den σ g G) {k j : Nat} (wn : Wid (fun s => !G s) k) (wx : Wid (fun s => F s != G s) j) (hl : σ.N.length + (k + j) ≤ 2147483647) :
    Calls Tryz.prog 82 #[.pointer (some ⟨A.a, 0, none⟩), .int .i64 f, .int .i64 g] w (SpRes w B S km A Mo σ (fun s => F s != G s) (k + j) j) := by
  have two := h.ok.wf.two
  have fl := (h.ok.g f hf.1).1
  have gl := (h.ok.g g hg.1).1
  have wn' : Wid (fun s => if ev σ.N s g then ev σ.N s 0 else ev σ.N s 1) k := by
    rw [show (fun s => if ev σ.N s g then ev σ.N s 0 else ev σ.N s 1) = fun s => !G s from funext fun s => by rw [hg.2, ev_zero, ev_one]; cases G s <;> rfl]
    exact wn
  have wx' : ∀ q N1, IteTo σ.N g 0 1 q N1 → (fun s => if ev N1 s f then ev N1 s q else ev N1 s g) = fun s => F s != G s := fun q N1 t => funext fun s => by
    rw [t.sem, t.ext.ev h.ok.wf t.wf s fl, t.ext.ev h.ok.wf t.wf s gl, hf.2, hg.2, ev_zero, ev_one]
    cases F s <;> cases G s <;> rfl
  have cap2 : ∀ q N1, IteTo σ.N g 0 1 q N1 → Cap N1 f q g := fun q N1 t => by
    have := t.len two wn'
    refine Cap.of_wid (k := j) t.wf.two (by rw [wx' q N1 t]; exact wx) (by omega)
  refine (Xor_any f g h.sp.ar ⟨hf.1, fl⟩ ⟨hg.1, gl⟩ h.ok.hok (Cap.of_wid two wn' (by omega)) cap2).mono fun e' w' ho => h.op' ho (fun r N' t => ?_) ((hf.hangs h.ok).op2 (fun x y => x != y) (hg.hangs h.ok))
  obtain ⟨q, N1, t1, t2⟩ := t
  have l1 := t1.len two wn'
  have l2 := t2.len (k := j) t1.wf.two (by rw [wx' q N1 t1]; exact wx)
  have hs : ∀ s, ev N' s r = (F s != G s) := fun s => (t2.sem s).trans (congrFun (wx' q N1 t1) s)
  refine ⟨⟨t1.ext.trans t2.ext, hs⟩, by omega, newL_wid t2.wf σ.H t2.lt ?_⟩
  rw [show (fun s => ev N' s r) = fun s => F s != G s from funext hs]
  exact wx
/-- The bits i of 2 i and 2 i + 1 are the same, and more. -/
def eqF (a : Nat) (F : Fun) : Fun := fun s => (s a == s (a + 1)) && F s
def sameF (a nb : Nat) : Nat → Fun
  | 0 => fun _ => true
  | m + 1 => if a ≤ 103 - m ∧ 103 - m < a + nb then sameF a nb m else eqF (2 * (103 - m)) (sameF a nb m)
theorem Hangs.eqF {F : Fun} {x a b : Nat} (h : Hangs F a b) (h1 : x + 2 ≤ a) (h2 : x + 2 ≤ b) : Hangs (eqF x F) x b := fun s t e => by
  unfold Go.Proofs.YtdjikiakcfbklaaGreat.eqF
  rw [e x (by omega) (by omega), e (x + 1) (by omega) (by omega), h s t fun u h3 h4 => e u (by omega) h4]
theorem sameF_hangs (a nb : Nat) : ∀ m, m ≤ 104 → Hangs (sameF a nb m) (2 * (104 - m)) 208
  | 0, _ => Hangs.const true _ _
  | m + 1, hm => by
    have := sameF_hangs a nb m (by omega)
    unfold sameF
    split
    · exact this.mono (by omega) (Nat.le_refl _)
    · exact (this.eqF (x := 2 * (103 - m)) (by omega) (by omega)).mono (by omega) (Nat.le_refl _)
theorem sumTo_pair (a p q : Nat) : sumTo (fun v => if v = a then p else if v = a + 1 then q else 0) (a + 2) ≤ p + q := by
  have := sumTo_two a p q (a + 2)
  rw [if_pos (by omega), if_pos (by omega)] at this
  exact this
/-- Two variables ahead of a node that is held: three nodes more. -/
theorem Den.pair {Mo : Nat} {σ : Sg} {g a : Nat} {F G : Fun} (d : Den σ g F) (o : SgOk Mo σ) (ha : a + 2 ≤ 208) (hG : Hangs G a 208) (hc : ∀ s, (∀ t, G (mixS (a + 1 + 1) s t) = F t) ∨ (∀ t, G (mixS (a + 1 + 1) s t) = false)) : Grow σ.N σ.H G 3 3 := by
  refine (Grow.top (u := a + 1) o.wf o.cl (fun i hi => (o.hok.2 i hi).2) (fun v => if v = a then 1 else if v = a + 1 then 2 else 0) (fun v hv => ?_) fun s => ?_).mono (sumTo_pair a 1 2) (sumTo_pair a 1 2)
  · by_cases e1 : v = a
    · subst e1
      refine .inr ?_
      simp only [if_true]
      exact hG.ahead (Nat.le_refl _)
    · by_cases e2 : v = a + 1
      · subst e2
        refine .inr ?_
        simp only [e1, if_false, if_true]
        exact CutLe.second hG
      · exact .inl (hG.free (by omega))
  · rcases hc s with h | h
    · exact ⟨g, (o.g g d.1).1, (o.g g d.1).2.1, fun t => by rw [h t, d.2]⟩
    · exact ⟨0, by have := o.wf.two; omega, .inl (by omega), fun t => by rw [h t, ev_zero]⟩
theorem Den.eqG {Mo : Nat} {σ : Sg} {g a : Nat} {F : Fun} (d : Den σ g F) (o : SgOk Mo σ) (ha : a + 2 ≤ 208) (hF : Hangs F (a + 2) 208) : Grow σ.N σ.H (eqF a F) 3 3 := by
  refine d.pair o ha (hF.eqF (Nat.le_refl _) ha) fun s => ?_
  have e : ∀ t, eqF a F (mixS (a + 1 + 1) s t) = ((s a == s (a + 1)) && F t) := fun t => by
    unfold eqF
    rw [mixS_low _ _ (by omega), mixS_low _ _ (by omega), hF (mixS (a + 1 + 1) s t) t fun u h1 _ => mixS_high _ _ (by omega)]
  cases hs : (s a == s (a + 1))
  · exact .inr fun t => by rw [e, hs]; rfl
  · exact .inl fun t => by rw [e, hs]; rfl
set_option maxRecDepth 100000 in
set_option maxHeartbeats 4000000 in
theorem same_any {w : World} {B S km : Nat} {A : Blks} {Mo : Nat} {σ : Sg} (h : SpOk w B S km A Mo σ) (a nb : Nat) (ha : a ≤ 104) (hnb : nb ≤ 104) (hl : σ.N.length + 936 ≤ 2147483647) :
    Calls Tryz.prog 41 #[.pointer (some ⟨S, 0, none⟩), .agg #[.int .i64 a, .int .i64 nb]] w (SpRes w B S km A Mo σ (sameF a nb 104) 936 936) := by
  have hbw := below1 w (.cells #[.int .i64 a, .int .i64 nb] 89)
  have hbk := blk1 w (.cells #[.int .i64 a, .int .i64 nb] 89)
  have hfo := h.sp.ar.foreign_new hbw (Nat.le_refl _) (lt_of_block hbk)
  have hfk := h.sp.fk.1
  have HBX : Hid (∀ W, KeptS A km (w.alloc (.cells #[.int .i64 a, .int .i64 nb] 89)) W → W.cell? ⟨w.heap.size, 0, none⟩ = some (.int .i64 a) ∧ W.cell? ⟨w.heap.size, 1, none⟩ = some (.int .i64 nb)) := Lib.hid fun W hW => by
    have hk := (hW.same _ hfo (by omega)).1.trans hbk
    exact ⟨by rw [cell_of_row W _ 0 _ _ (0, 0) hk]; rfl, by rw [cell_of_row W _ 1 _ _ (0, 0) hk]; rfl⟩
  have HK0 := Lib.hid (h.kept hbw)
  have HS := Lib.hid (h.below hbw)
  have ha1 : (a : Int) ≤ 104 := by omega
  have hb1 : (nb : Int) ≤ 104 := by omega
  clear h hbw hfo hfk hbk
  go_enter Tryz.func41, Tryz.ntmps41
  go_upto_region 2 with fail
  generalize w.alloc (.cells #[.int .i64 a, .int .i64 nb] 89) = w0 at *
  go_wp2
  go_loopw [6, 7] (fun f i wr => ∃ m : Nat, m ≤ 104 ∧ i = .int .i64 ((103 : Int) - m) ∧ ∃ (r : Nat) (τ : Sg), f = .int .i64 r ∧ Hid (SpOk wr B S km A Mo τ) ∧ Hid (To (9 * m) (9 * m) σ τ) ∧ Hid (Den τ r (sameF a nb m)) ∧ Hid (KeptS A km w0 wr)) (fun _ i _ => (intOf i + 1).toNat)
  case atStart => exact ⟨0, by omega, by simp, 1, σ, rfl, HS, Lib.hid (To.refl σ), Lib.hid (Den.one HS.out.ok), Lib.hid (KeptS.refl _ _ _)⟩
  case round =>
    obtain ⟨m, hm, rfl, r, τ, rfl, HS1, HT1, HD1, HK1⟩ := hrel
    by_cases hlt : m < 104
    · have hI : (103 : Int) - m ≥ 0 := by omega
      have c0 := HS1.out.sp.c0
      obtain ⟨b0, b1⟩ := HBX.out wr HK1.out
      by_cases hin : a ≤ 103 - m ∧ 103 - m < a + nb
      · have hi1 : (103 : Int) - m ≥ a := by omega
        have hi2 : (103 : Int) - m < (a : Int) + nb := by omega
        have HD2 : Hid (Den τ r (sameF a nb (m + 1))) := Lib.hid (by unfold sameF; rw [if_pos hin]; exact HD1.out)
        have HT2 := Lib.hid (HT1.out.mono (show 9 * m ≤ 9 * (m + 1) by omega) (show 9 * m ≤ 9 * (m + 1) by omega))
        clear hin
        go_wp2
        exact ⟨⟨m + 1, by omega, by go_num, r, τ, rfl, HS1, HT2, HD2, HK1⟩, by simp only [intOf]; omega⟩
      · have hcond : ¬ (103 : Int) - m ≥ a ∨ ((103 : Int) - m ≥ a ∧ ¬ (103 : Int) - m < (a : Int) + nb) := by omega
        obtain ⟨x, hx⟩ : ∃ x, x = 2 * (103 - m) := ⟨_, rfl⟩
        obtain ⟨y, hy⟩ : ∃ y, y = x + 1 := ⟨_, rfl⟩
        have hxi : ((103 - m : Nat) : Int) = (103 : Int) - m := by omega
        have HN := Lib.hid (show ∀ W, Calls Tryz.prog 50 #[.int .i64 ((103 : Int) - m)] W (fun e w' => e = .returned (.int .i64 (x : Int)) ∧ w' = W) from fun W => by
          have := now_any (103 - m) W (by omega)
          rw [hxi, Nat.add_zero, ← hx] at this
          exact this)
        have HN2 := Lib.hid (show ∀ W, Calls Tryz.prog 56 #[.int .i64 ((103 : Int) - m)] W (fun e w' => e = .returned (.int .i64 (y : Int)) ∧ w' = W) from fun W => by
          have := then_any (103 - m) W (by omega)
          rw [hxi, ← hx, ← hy] at this
          exact this)
        have hwd : Below wr.heap.size wr wr.drew := ⟨rfl, rfl, rfl, Nat.le_refl _, fun _ _ => rfl⟩
        have HSD := Lib.hid (HS1.out.below hwd)
        have HKD := Lib.hid (HK1.out.trans (HS1.out.kept hwd))
        have hnl := HT1.out.nl
        have hvar := Lib.hid (HSD.out.var x (by omega) (by omega))
        have HEQ : Hid (sameF a nb (m + 1) = eqF x (sameF a nb m)) := Lib.hid (by rw [hx]; exact if_neg hin)
        have HX := Lib.hid hx
        have HY := Lib.hid hy
        have HHF := Lib.hid ((sameF_hangs a nb m (by omega)).mono (show x + 2 ≤ 2 * (104 - m) by omega) (Nat.le_refl _))
        have HCO := Lib.hid hcond
        clear hxi hnl hwd hx hy hin hcond
        rcases HCO.out with hi1 | ⟨hi1, hi2⟩
        · go_upto_region 6 with fail
          go_region_held3 (fun w' => w'.cell? ⟨S, 0, none⟩ = some (.pointer (some ⟨A.a, 0, none⟩))) (first | exact hcs | go_keep) ((first
            | ((with_reducible refine (HN.out _).mono ?_); rintro e _ ⟨rfl, rfl⟩)
            | ((with_reducible refine hvar.out.mono ?_); rintro e W5 hr5; obtain ⟨q5, c5, he5⟩ := hr5.form; have HR5 := Lib.hid hr5; subst he5; have hcs : W5.cell? ⟨S, 0, none⟩ = some (.pointer (some ⟨A.a, 0, none⟩)) := hr5.c0; clear hr5)))
          have hfin5 := HR5.out.two
          clear hcs
          rcases hfin5 with ⟨rfl, rfl, hlt5, τ5, hs5, ht5⟩ | ⟨r5, τ5, rfl, rfl, hs5, ht5, hd5⟩
          · have HFIN := Lib.hid (SpRes.full (F := sameF a nb 104) (HK0.out.trans (HKD.out.trans HR5.out.1)) rfl (by have := HT1.out.hl; omega) hs5 ((HT1.out.trans ht5).mono (show 9 * m + 1 ≤ 936 by omega) (show 9 * m + 1 ≤ 936 by omega)))
            clear hlt5 hs5 ht5
            go_wp2
            go_ret2
            exact HFIN.out
          · have HS5 := Lib.hid hs5
            have HT5 := Lib.hid (HT1.out.trans ht5)
            have HD5 := Lib.hid hd5
            have HK5 := Lib.hid (HKD.out.trans HR5.out.1)
            have c5 := hs5.sp.c0
            have HD5r := Lib.hid (HD1.out.to ht5 HS1.out.ok hs5.ok)
            have hwd5 : Below W5.heap.size W5 W5.drew := ⟨rfl, rfl, rfl, Nat.le_refl _, fun _ _ => rfl⟩
            have HSD5 := Lib.hid (hs5.below hwd5)
            have HKD5 := Lib.hid (HK5.out.trans (hs5.kept hwd5))
            have hn5 := HT5.out.nl
            have hx5 := HX.out
            have hy5 := HY.out
            have hvar2 := Lib.hid (HSD5.out.var y (by omega) (by omega))
            clear hs5 ht5 hd5 HR5 hvar HN c0 b0 b1 HSD HS1 HT1 HD1 HK1 hwd5 hn5 hx5 hy5
            go_upto_region 9 with fail
            go_region_held3 (fun w' => w'.cell? ⟨S, 0, none⟩ = some (.pointer (some ⟨A.a, 0, none⟩))) (first | exact hcs | go_keep) ((first
              | ((with_reducible refine (HN2.out _).mono ?_); rintro e _ ⟨rfl, rfl⟩)
              | ((with_reducible refine hvar2.out.mono ?_); rintro e W6 hr6; obtain ⟨q6, c6, he6⟩ := hr6.form; have HR6 := Lib.hid hr6; subst he6; have hcs : W6.cell? ⟨S, 0, none⟩ = some (.pointer (some ⟨A.a, 0, none⟩)) := hr6.c0; clear hr6)))
            have hfin6 := HR6.out.two
            clear hcs
            rcases hfin6 with ⟨rfl, rfl, hlt6, τ6, hs6, ht6⟩ | ⟨r6, τ6, rfl, rfl, hs6, ht6, hd6⟩
            · have HFIN := Lib.hid (SpRes.full (F := sameF a nb 104) (HK0.out.trans (HKD5.out.trans HR6.out.1)) rfl (by have := HT5.out.hl; omega) hs6 ((HT5.out.trans ht6).mono (show 9 * m + 1 + 1 ≤ 936 by omega) (show 9 * m + 1 + 1 ≤ 936 by omega)))
              clear hlt6 hs6 ht6
              go_wp2
              go_ret2
              exact HFIN.out
            · have HS6 := Lib.hid hs6
              have HT6 := Lib.hid (HT5.out.trans ht6)
              have HK6 := Lib.hid (HKD5.out.trans HR6.out.1)
              have c6 := hs6.sp.c0
              have HD6r := Lib.hid (HD5r.out.to ht6 HS5.out.ok hs6.ok)
              have hn6 := HT6.out.nl
              have hx6 := HX.out
              rw [HY.out] at hd6
              have HXOR := Lib.hid (show Calls Tryz.prog 82 #[.pointer (some ⟨A.a, 0, none⟩), .int .i64 r5, .int .i64 r6] W6 (SpRes W6 B S km A Mo τ6 (xorF x) 4 3) from hs6.xor (HD5.out.to ht6 HS5.out.ok hs6.ok) hd6 (k := 1) (j := 3) (not_wid (by omega)) (xorF_wid (by omega)) (by omega))
              clear hs6 ht6 hd6 HR6 hvar2 HN2 HSD5 HS5 HT5 HD5 HD5r HK5 hn6 hx6
              go_upto_region 13 with ((with_reducible refine HXOR.out.mono ?_); rintro e W7 hr7; obtain ⟨q7, c7, he7⟩ := hr7.form; have HR7 := Lib.hid hr7; subst he7; clear hr7)
              have hfin7 := HR7.out.two
              rcases hfin7 with ⟨rfl, rfl, hlt7, τ7, hs7, ht7⟩ | ⟨r7, τ7, rfl, rfl, hs7, ht7, hd7⟩
              · have HFIN := Lib.hid (SpRes.full (F := sameF a nb 104) (HK0.out.trans (HK6.out.trans HR7.out.1)) rfl (by have := HT6.out.hl; omega) hs7 ((HT6.out.trans ht7).mono (show 9 * m + 1 + 1 + 4 ≤ 936 by omega) (show 9 * m + 1 + 1 + 3 ≤ 936 by omega)))
                clear hlt7 hs7 ht7
                go_wp2
                go_ret2
                exact HFIN.out
              · have HS7 := Lib.hid hs7
                have HT7 := Lib.hid (HT6.out.trans ht7)
                have HK7 := Lib.hid (HK6.out.trans HR7.out.1)
                have c7 := hs7.sp.c0
                have hd7r := HD6r.out.to ht7 HS6.out.ok hs7.ok
                have hn7 := HT7.out.nl
                have hx7 := HX.out
                have he7 : (fun s => if xorF x s then false else sameF a nb m s) = eqF x (sameF a nb m) := funext fun s => by
                  unfold xorF eqF
                  cases s x <;> cases s (x + 1) <;> rfl
                have hgr := hd7r.eqG hs7.ok (show x + 2 ≤ 208 by omega) HHF.out
                rw [← he7] at hgr
                have hite := hs7.ite hd7 (Den.zero hs7.ok) hd7r (a := 3) (b := 3) hgr (by omega)
                rw [he7] at hite
                have HITE := Lib.hid (show Calls Tryz.prog 46 #[.pointer (some ⟨A.a, 0, none⟩), .int .i64 r7, .int .i64 0, .int .i64 r] W7 (SpRes W7 B S km A Mo τ7 (eqF x (sameF a nb m)) 3 3) from hite)
                clear hs7 ht7 hd7 hd7r HR7 HXOR HS6 HT6 HD6r HK6 hn7 hx7 he7 hgr hite
                go_upto_region 16 with ((with_reducible refine HITE.out.mono ?_); rintro e W8 hr8; obtain ⟨q8, c8, he8⟩ := hr8.form; have HR8 := Lib.hid hr8; subst he8; clear hr8)
                have hfin8 := HR8.out.two
                rcases hfin8 with ⟨rfl, rfl, hlt8, τ8, hs8, ht8⟩ | ⟨r8, τ8, rfl, rfl, hs8, ht8, hd8⟩
                · have HFIN := Lib.hid (SpRes.full (F := sameF a nb 104) (HK0.out.trans (HK7.out.trans HR8.out.1)) rfl (by have := HT7.out.hl; omega) hs8 ((HT7.out.trans ht8).mono (show 9 * m + 1 + 1 + 4 + 3 ≤ 936 by omega) (show 9 * m + 1 + 1 + 3 + 3 ≤ 936 by omega)))
                  clear hlt8 hs8 ht8
                  go_wp2
                  go_ret2
                  exact HFIN.out
                · have HS8 := Lib.hid hs8
                  have HT8 := Lib.hid ((HT7.out.trans ht8).mono (show 9 * m + 1 + 1 + 4 + 3 ≤ 9 * (m + 1) by omega) (show 9 * m + 1 + 1 + 3 + 3 ≤ 9 * (m + 1) by omega))
                  have HK8 := Lib.hid (HK7.out.trans HR8.out.1)
                  have HD8 : Hid (Den τ8 r8 (sameF a nb (m + 1))) := Lib.hid (by rw [HEQ.out]; exact hd8)
                  clear hs8 ht8 hd8 HR8 HITE HS7 HT7 HK7
                  go_wp2
                  exact ⟨⟨m + 1, by omega, by go_num, r8, τ8, rfl, HS8, HT8, HD8, HK8⟩, by simp only [intOf]; omega⟩
        · go_upto_region 6 with fail
          go_region_held3 (fun w' => w'.cell? ⟨S, 0, none⟩ = some (.pointer (some ⟨A.a, 0, none⟩))) (first | exact hcs | go_keep) ((first
            | ((with_reducible refine (HN.out _).mono ?_); rintro e _ ⟨rfl, rfl⟩)
            | ((with_reducible refine hvar.out.mono ?_); rintro e W5 hr5; obtain ⟨q5, c5, he5⟩ := hr5.form; have HR5 := Lib.hid hr5; subst he5; have hcs : W5.cell? ⟨S, 0, none⟩ = some (.pointer (some ⟨A.a, 0, none⟩)) := hr5.c0; clear hr5)))
          have hfin5 := HR5.out.two
          clear hcs
          rcases hfin5 with ⟨rfl, rfl, hlt5, τ5, hs5, ht5⟩ | ⟨r5, τ5, rfl, rfl, hs5, ht5, hd5⟩
          · have HFIN := Lib.hid (SpRes.full (F := sameF a nb 104) (HK0.out.trans (HKD.out.trans HR5.out.1)) rfl (by have := HT1.out.hl; omega) hs5 ((HT1.out.trans ht5).mono (show 9 * m + 1 ≤ 936 by omega) (show 9 * m + 1 ≤ 936 by omega)))
            clear hlt5 hs5 ht5
            go_wp2
            go_ret2
            exact HFIN.out
          · have HS5 := Lib.hid hs5
            have HT5 := Lib.hid (HT1.out.trans ht5)
            have HD5 := Lib.hid hd5
            have HK5 := Lib.hid (HKD.out.trans HR5.out.1)
            have c5 := hs5.sp.c0
            have HD5r := Lib.hid (HD1.out.to ht5 HS1.out.ok hs5.ok)
            have hwd5 : Below W5.heap.size W5 W5.drew := ⟨rfl, rfl, rfl, Nat.le_refl _, fun _ _ => rfl⟩
            have HSD5 := Lib.hid (hs5.below hwd5)
            have HKD5 := Lib.hid (HK5.out.trans (hs5.kept hwd5))
            have hn5 := HT5.out.nl
            have hx5 := HX.out
            have hy5 := HY.out
            have hvar2 := Lib.hid (HSD5.out.var y (by omega) (by omega))
            clear hs5 ht5 hd5 HR5 hvar HN c0 b0 b1 HSD HS1 HT1 HD1 HK1 hwd5 hn5 hx5 hy5
            go_upto_region 9 with fail
            go_region_held3 (fun w' => w'.cell? ⟨S, 0, none⟩ = some (.pointer (some ⟨A.a, 0, none⟩))) (first | exact hcs | go_keep) ((first
              | ((with_reducible refine (HN2.out _).mono ?_); rintro e _ ⟨rfl, rfl⟩)
              | ((with_reducible refine hvar2.out.mono ?_); rintro e W6 hr6; obtain ⟨q6, c6, he6⟩ := hr6.form; have HR6 := Lib.hid hr6; subst he6; have hcs : W6.cell? ⟨S, 0, none⟩ = some (.pointer (some ⟨A.a, 0, none⟩)) := hr6.c0; clear hr6)))
            have hfin6 := HR6.out.two
            clear hcs
            rcases hfin6 with ⟨rfl, rfl, hlt6, τ6, hs6, ht6⟩ | ⟨r6, τ6, rfl, rfl, hs6, ht6, hd6⟩
            · have HFIN := Lib.hid (SpRes.full (F := sameF a nb 104) (HK0.out.trans (HKD5.out.trans HR6.out.1)) rfl (by have := HT5.out.hl; omega) hs6 ((HT5.out.trans ht6).mono (show 9 * m + 1 + 1 ≤ 936 by omega) (show 9 * m + 1 + 1 ≤ 936 by omega)))
              clear hlt6 hs6 ht6
              go_wp2
              go_ret2
              exact HFIN.out
            · have HS6 := Lib.hid hs6
              have HT6 := Lib.hid (HT5.out.trans ht6)
              have HK6 := Lib.hid (HKD5.out.trans HR6.out.1)
              have c6 := hs6.sp.c0
              have HD6r := Lib.hid (HD5r.out.to ht6 HS5.out.ok hs6.ok)
              have hn6 := HT6.out.nl
              have hx6 := HX.out
              rw [HY.out] at hd6
              have HXOR := Lib.hid (show Calls Tryz.prog 82 #[.pointer (some ⟨A.a, 0, none⟩), .int .i64 r5, .int .i64 r6] W6 (SpRes W6 B S km A Mo τ6 (xorF x) 4 3) from hs6.xor (HD5.out.to ht6 HS5.out.ok hs6.ok) hd6 (k := 1) (j := 3) (not_wid (by omega)) (xorF_wid (by omega)) (by omega))
              clear hs6 ht6 hd6 HR6 hvar2 HN2 HSD5 HS5 HT5 HD5 HD5r HK5 hn6 hx6
              go_upto_region 13 with ((with_reducible refine HXOR.out.mono ?_); rintro e W7 hr7; obtain ⟨q7, c7, he7⟩ := hr7.form; have HR7 := Lib.hid hr7; subst he7; clear hr7)
              have hfin7 := HR7.out.two
              rcases hfin7 with ⟨rfl, rfl, hlt7, τ7, hs7, ht7⟩ | ⟨r7, τ7, rfl, rfl, hs7, ht7, hd7⟩
              · have HFIN := Lib.hid (SpRes.full (F := sameF a nb 104) (HK0.out.trans (HK6.out.trans HR7.out.1)) rfl (by have := HT6.out.hl; omega) hs7 ((HT6.out.trans ht7).mono (show 9 * m + 1 + 1 + 4 ≤ 936 by omega) (show 9 * m + 1 + 1 + 3 ≤ 936 by omega)))
                clear hlt7 hs7 ht7
                go_wp2
                go_ret2
                exact HFIN.out
              · have HS7 := Lib.hid hs7
                have HT7 := Lib.hid (HT6.out.trans ht7)
                have HK7 := Lib.hid (HK6.out.trans HR7.out.1)
                have c7 := hs7.sp.c0
                have hd7r := HD6r.out.to ht7 HS6.out.ok hs7.ok
                have hn7 := HT7.out.nl
                have hx7 := HX.out
                have he7 : (fun s => if xorF x s then false else sameF a nb m s) = eqF x (sameF a nb m) := funext fun s => by
                  unfold xorF eqF
                  cases s x <;> cases s (x + 1) <;> rfl
                have hgr := hd7r.eqG hs7.ok (show x + 2 ≤ 208 by omega) HHF.out
                rw [← he7] at hgr
                have hite := hs7.ite hd7 (Den.zero hs7.ok) hd7r (a := 3) (b := 3) hgr (by omega)
                rw [he7] at hite
                have HITE := Lib.hid (show Calls Tryz.prog 46 #[.pointer (some ⟨A.a, 0, none⟩), .int .i64 r7, .int .i64 0, .int .i64 r] W7 (SpRes W7 B S km A Mo τ7 (eqF x (sameF a nb m)) 3 3) from hite)
                clear hs7 ht7 hd7 hd7r HR7 HXOR HS6 HT6 HD6r HK6 hn7 hx7 he7 hgr hite
                go_upto_region 16 with ((with_reducible refine HITE.out.mono ?_); rintro e W8 hr8; obtain ⟨q8, c8, he8⟩ := hr8.form; have HR8 := Lib.hid hr8; subst he8; clear hr8)
                have hfin8 := HR8.out.two
                rcases hfin8 with ⟨rfl, rfl, hlt8, τ8, hs8, ht8⟩ | ⟨r8, τ8, rfl, rfl, hs8, ht8, hd8⟩
                · have HFIN := Lib.hid (SpRes.full (F := sameF a nb 104) (HK0.out.trans (HK7.out.trans HR8.out.1)) rfl (by have := HT7.out.hl; omega) hs8 ((HT7.out.trans ht8).mono (show 9 * m + 1 + 1 + 4 + 3 ≤ 936 by omega) (show 9 * m + 1 + 1 + 3 + 3 ≤ 936 by omega)))
                  clear hlt8 hs8 ht8
                  go_wp2
                  go_ret2
                  exact HFIN.out
                · have HS8 := Lib.hid hs8
                  have HT8 := Lib.hid ((HT7.out.trans ht8).mono (show 9 * m + 1 + 1 + 4 + 3 ≤ 9 * (m + 1) by omega) (show 9 * m + 1 + 1 + 3 + 3 ≤ 9 * (m + 1) by omega))
                  have HK8 := Lib.hid (HK7.out.trans HR8.out.1)
                  have HD8 : Hid (Den τ8 r8 (sameF a nb (m + 1))) := Lib.hid (by rw [HEQ.out]; exact hd8)
                  clear hs8 ht8 hd8 HR8 HITE HS7 HT7 HK7
                  go_wp2
                  exact ⟨⟨m + 1, by omega, by go_num, r8, τ8, rfl, HS8, HT8, HD8, HK8⟩, by simp only [intOf]; omega⟩
    · obtain rfl : m = 104 := by omega
      have hI : ¬ (103 : Int) - (104 : Nat) ≥ 0 := by omega
      have HFIN : Hid (SpRes w B S km A Mo σ (sameF a nb 104) 936 936 (.returned (.tuple #[.int .i64 r, .int .i64 0])) wr) := Lib.hid ⟨HK0.out.trans HK1.out, .inr ⟨r, τ, rfl, HS1.out, HT1.out, HD1.out⟩⟩
      go_wp2
      go_ret2
      exact HFIN.out
end Go.Proofs.YtdjikiakcfbklaaGreat

/-
  A region that draws its order, walked in the order of the text: the class of worlds is any that the prover names. No program in sight.
-/
namespace Go.Proofs.YtdjikiakcfbklaaGreat
open Go Go.RowKit Go.Sort

section
variable {P : Program} {ops : Array Oper} {Q : Exit → Act → World → Prop}
/-- The worlds that meet S. -/
structure InW (S : World → Prop) where
  w : World
  h : S w
@[reducible] def InS (S : World → Prop) : World → Prop := fun w' => ∃ p : InW S, w' = p.w
theorem inS {S : World → Prop} {w : World} (h : S w) : InS S w := ⟨⟨w, h⟩, rfl⟩
theorem inS_sub {S S' : World → Prop} (h : ∀ v, S' v → S v) : ∀ v, InS S' v → InS S v := by
  intro v hv
  obtain ⟨p, hp⟩ := hv
  exact ⟨⟨p.w, h _ p.h⟩, hp⟩
theorem wp_region_mixS {id : Nat} {a : Act} {w : World} {l : List Oper} (S : World → Prop) (m : List (Nat × Bool)) (hm : P.follows .mixedOrders = true) (hB : mixOk l m = true) (hS : S { w with drawn := w.drawn + 1 })
    (h : mixW P l.toArray (NoPanic Q) m (fun w' => ∃ p : InW S, w' = p.w) a { w with drawn := w.drawn + 1 }) : (Code.region id l.toArray true).wp P Q a w := by
  simp only [mixOk, Bool.and_eq_true, decide_eq_true_eq] at hB
  obtain ⟨⟨hs, hlen⟩, hmix⟩ := hB
  refine wp_region_noPanic (wp_region_held (S := InS S) hm ?_)
  have H := mix_sound (md := .any) hs (fun d v c a w hh => hh) m _ (Array.replicate l.length false) a { w with drawn := w.drawn + 1 } hmix (inS hS) h
  rw [hlen] at H
  simpa using H
/-- A barrier behind which the class may be narrower. -/
theorem mix_barS {m : List (Nat × Bool)} {k : Nat} {o : Oper} {a : Act} {S : World → Prop} {w : World} (ho : ops[k]? = some o) (hw : Region.wanted o (yielded ops a.tmps) = true)
    (h : o.wp P a w (fun a' w' => ∃ S' : World → Prop, S' w' ∧ (∀ v, S' v → S v) ∧ mixW P ops Q m (fun w' => ∃ p : InW S', w' = p.w) a' w') Q) : mixW P ops Q ((k, true) :: m) (fun w' => ∃ p : InW S, w' = p.w) a w := by
  simp only [mixW]
  refine ⟨o, ho, ?_⟩
  rw [if_pos hw]
  exact Oper.wp_mono (fun a' w' hh => by obtain ⟨S', h1, h2, h3⟩ := hh; exact ⟨_, inS h1, inS_sub h2, h3⟩) h
end
end Go.Proofs.YtdjikiakcfbklaaGreat

/-
  A space's fields' places; Keep, and Prefix.
-/
namespace Go.Proofs.YtdjikiakcfbklaaGreat
open Go Go.RowKit Go.ChangeMaps Go.MapKept Go.Maps Go.Lib Go.Sort

instance (A : Blks) (km : Nat) (V : World) : Nonempty (InW (KeptS A km V)) := ⟨⟨V, KeptS.refl A km V⟩⟩
def partsObj : Obj := .cells #[.int .i64 0, .int .i64 32, .int .i64 32, .int .i64 32, .int .i64 64, .int .i64 8, .int .i64 72, .int .i64 16, .int .i64 88, .int .i64 16] 89
set_option maxHeartbeats 400000 in
theorem parts_any (w : World) : Calls Tryz.prog 61 #[] w fun e w' => e = .returned (.slice (some ⟨w.heap.size, 0, none⟩) 5 5) ∧ w' = w.alloc partsObj := by
  unfold partsObj
  go_enter Tryz.func61, Tryz.ntmps61
  go_wp2
  go_ret
  exact ⟨rfl, rfl⟩
/-- Where a field's bits begin; how many there are. -/
def fAt : Nat → Nat
  | 0 => 0
  | 1 => 32
  | 2 => 64
  | 3 => 72
  | _ => 88
def fBits : Nat → Nat
  | 0 => 32
  | 1 => 32
  | 2 => 8
  | _ => 16
theorem parts_at (w : World) (f : Nat) (hf : f < 5) : (w.alloc partsObj).cell? ⟨w.heap.size, f * 2, none⟩ = some (.int .i64 (fAt f)) ∧ (w.alloc partsObj).cell? ⟨w.heap.size, f * 2 + 1, none⟩ = some (.int .i64 (fBits f)) := by
  have hb := blk1 w (.cells #[.int .i64 0, .int .i64 32, .int .i64 32, .int .i64 32, .int .i64 64, .int .i64 8, .int .i64 72, .int .i64 16, .int .i64 88, .int .i64 16] 89)
  unfold partsObj
  obtain rfl | rfl | rfl | rfl | rfl : f = 0 ∨ f = 1 ∨ f = 2 ∨ f = 3 ∨ f = 4 := by omega
  all_goals exact ⟨by rw [cell_of_row _ _ _ _ _ (0, 0) hb]; rfl, by rw [cell_of_row _ _ _ _ _ (0, 0) hb]; rfl⟩
section
variable {w : World} {B S km : Nat} {A : Blks} {Mo : Nat} {σ : Sg}
set_option maxRecDepth 100000
set_option maxHeartbeats 2000000
theorem keep_any (h : SpOk w B S km A Mo σ) (hl : σ.N.length + 936 ≤ 2147483647) :
    Calls Tryz.prog 11 #[.pointer (some ⟨S, 0, none⟩)] w (SpRes w B S km A Mo σ (sameF 0 0 104) 936 936) := by
  have hs := Lib.hid (show Calls Tryz.prog 41 #[.pointer (some ⟨S, 0, none⟩), .agg #[.int .i64 0, .int .i64 0]] w (SpRes w B S km A Mo σ (sameF 0 0 104) 936 936) from same_any h 0 0 (by omega) (by omega) hl)
  clear h
  go_enter Tryz.func11, Tryz.ntmps11
  go_wp2_with ((with_reducible refine hs.out.mono ?_); rintro e W2 hr; have HR := Lib.hid hr; obtain ⟨q, c, rfl⟩ := hr.form; clear hr)
  go_ret2
  exact HR.out
theorem prefix_yes (h : SpOk w B S km A Mo σ) (f a n : Nat) (hf : f < 2) (ha : a < 4294967296) (hn : n ≤ 32) (hc : chk a n = 0) (hl : σ.N.length + 96 ≤ 2147483647) :
    Calls Tryz.prog 27 #[.pointer (some ⟨S, 0, none⟩), .int .i64 f, .agg #[.int .u32 a, .int .i64 n]] w (SpRes w B S km A Mo σ (bitsF (32 * f) 0 n (a / 2 ^ (32 - n)) n) (3 * n) (3 * n)) := by
  have hbw := below1 w (.cells #[.int .u32 a, .int .i64 n] 40)
  have hbk := blk1 w (.cells #[.int .u32 a, .int .i64 n] 40)
  have hfo := h.sp.ar.foreign_new hbw (Nat.le_refl _) (lt_of_block hbk)
  have HCK := Lib.hid (fun W => addrCheck_any (a : Int) (n : Int) W (by omega) (by omega))
  rw [hc] at HCK
  have HK0 := Lib.hid (h.kept hbw)
  have HS := Lib.hid (h.below hbw)
  have HBK := Lib.hid hbk
  have b0 : (w.alloc (.cells #[.int .u32 a, .int .i64 n] 40)).cell? ⟨w.heap.size, 0, none⟩ = some (.int .u32 a) := by rw [cell_of_row _ _ 0 _ _ (0, 0) hbk]; rfl
  have b1 : (w.alloc (.cells #[.int .u32 a, .int .i64 n] 40)).cell? ⟨w.heap.size, 1, none⟩ = some (.int .i64 n) := by rw [cell_of_row _ _ 1 _ _ (0, 0) hbk]; rfl
  have hn1 : (n : Int) ≤ 32 := by omega
  have HNE : Hid (w.heap.size ≠ km) := Lib.hid (by have := h.sp.fk.1; omega)
  have HFK : Hid (∀ W, Below (w.alloc (.cells #[.int .u32 a, .int .i64 n] 40)).heap.size (w.alloc (.cells #[.int .u32 a, .int .i64 n] 40)) W → Foreign A W w.heap.size ∧ w.heap.size ≠ km) := Lib.hid fun W hb => ⟨((HS.out.kept hb).same _ hfo HNE.out).2, HNE.out⟩
  have f1 : ¬ (f : Int) ≠ 0 ∨ (f : Int) ≠ 0 ∧ ¬ (f : Int) ≠ 1 := by omega
  clear h hbw hfo hbk hc
  go_enter Tryz.func27, Tryz.ntmps27
  go_upto_region 1 with fail
  generalize w.alloc (.cells #[.int .u32 a, .int .i64 n] 40) = w0 at *
  obtain rfl | rfl : f = 0 ∨ f = 1 := by omega
  · go_upto_region 8 with ((with_reducible refine (HCK.out _).mono ?_); rintro e W2 ⟨rfl, hb2⟩; have HS2 := Lib.hid (HS.out.below hb2); have HK2 := Lib.hid (HK0.out.trans (HS.out.kept hb2)); have HB2 := Lib.hid hb2; clear hb2)
    have hk2 := blk_below HB2.out HBK.out
    have hwd : Below W2.heap.size W2 { W2 with drawn := W2.drawn + 1 } := ⟨rfl, rfl, rfl, Nat.le_refl _, fun _ _ => rfl⟩
    have HSV := Lib.hid (HS2.out.below hwd)
    have HKV := Lib.hid (HK2.out.trans (HS2.out.kept hwd))
    have hk3 := blk_below hwd hk2
    have HFO := Lib.hid ((KeptS.same (HS2.out.kept hwd) _ (HFK.out W2 HB2.out).1 (HFK.out W2 HB2.out).2).2)
    clear hk2 hwd b0 b1
    refine wp_region_mixS (KeptS A km { W2 with drawn := W2.drawn + 1 }) [(0, false), (2, false), (6, false), (7, false), (8, false), (9, false), (10, false), (11, false), (12, false), (13, false), (14, false), (1, true), (3, false), (4, false), (5, false), (15, true), (16, false), (17, false), (18, false), (19, false)] (by kernel_rfl) (by kernel_rfl) (KeptS.refl _ _ _) ?_
    generalize { W2 with drawn := W2.drawn + 1 } = V0 at *
    have d0 : ∀ p : InW (KeptS A km V0), p.w.cell? ⟨w.heap.size, 0, none⟩ = some (.int .u32 a) := fun p => by rw [cell_of_row _ _ 0 _ _ (0, 0) ((p.h.same _ HFO.out HNE.out).1.trans hk3)]; rfl
    have d1 : ∀ p : InW (KeptS A km V0), p.w.cell? ⟨w.heap.size, 1, none⟩ = some (.int .i64 n) := fun p => by rw [cell_of_row _ _ 1 _ _ (0, 0) ((p.h.same _ HFO.out HNE.out).1.trans hk3)]; rfl
    refine mix_take [0, 2, 6, 7, 8, 9, 10, 11, 12, 13, 14] [_, _, _, _, _, _, _, _, _, _, _] rfl rfl ?_
    simp only [List.getElem_toArray, List.getElem_cons_zero, List.getElem_cons_succ]
    repeat (go_big_quiet_step (fail))
    refine wpQuiet_nil ?_
    refine mix_barS rfl (by rfl) ?_
    simp only [List.getElem_toArray, List.getElem_cons_zero, List.getElem_cons_succ]
    go_simp
    have hbp := below1 V0 partsObj
    have HSP := Lib.hid (HSV.out.below hbp)
    have HKP := Lib.hid (HSV.out.kept hbp)
    have hpk := blk1 V0 partsObj
    have hpf := HSV.out.sp.ar.foreign_new hbp (Nat.le_refl _) (lt_of_block hpk)
    have hpn : V0.heap.size ≠ km := by have := HSV.out.sp.fk.1; omega
    have hpp := (parts_at V0 0 (by omega)).1
    refine (parts_any _).mono ?_
    rintro e _ ⟨rfl, rfl⟩
    refine ⟨KeptS A km (V0.alloc partsObj), KeptS.refl _ _ _, fun v hv => HKP.out.trans hv, ?_⟩
    have p0 : ∀ p : InW (KeptS A km (V0.alloc partsObj)), p.w.cell? ⟨V0.heap.size, 0, none⟩ = some (.int .i64 0) := fun p => (World.cell?_of_block (p.h.same _ hpf hpn).1).trans hpp
    clear hbp hpk hpf hpn hpp d0 d1 hk3
    generalize V0.alloc partsObj = V1 at *
    refine mix_take [3, 4, 5] [_, _, _] rfl rfl ?_
    simp only [List.getElem_toArray, List.getElem_cons_zero, List.getElem_cons_succ]
    repeat (go_big_quiet_step (fail))
    refine wpQuiet_nil ?_
    refine mix_barS rfl (by rfl) ?_
    simp only [List.getElem_toArray, List.getElem_cons_zero, List.getElem_cons_succ]
    go_simp
    have hdl : a / 2 ^ (32 - n) ≤ a := Nat.div_le_self _ _
    have hdv : ((a / 2 ^ (32 - n) : Nat) : Int) = (a : Int) / 2 ^ (32 - n) := by simp
    have hbits := bits_any HSP.out nowF (32 * 0) n (a / 2 ^ (32 - n)) (by omega) hn (by omega) (by omega)
    rw [hdv] at hbits
    have HBITS := Lib.hid (show Calls Tryz.prog 60 #[.pointer (some ⟨S, 0, none⟩), .int .i64 0, .int .i64 n, .int .u64 ((a : Int) / 2 ^ (32 - n)), .func (.func 50) #[] #[]] V1 _ from hbits)
    clear hdl hdv hbits
    refine HBITS.out.mono ?_
    rintro e W5 hr5
    have HR5 := Lib.hid (hr5.after (To.refl σ) (HKV.out.trans HKP.out))
    obtain ⟨q5, c5, rfl⟩ := hr5.form
    refine ⟨KeptS A km V1, hr5.1, fun _ h => h, ?_⟩
    clear hr5
    refine mix_take [16, 17, 18, 19] [_, _, _, _] rfl rfl ?_
    simp only [List.getElem_toArray, List.getElem_cons_zero, List.getElem_cons_succ]
    repeat (go_big_quiet_step (fail))
    refine wpQuiet_nil ?_
    refine mix_end ?_
    go_wp2
    go_ret2
    simpa using HR5.out
  · go_upto_region 8 with ((with_reducible refine (HCK.out _).mono ?_); rintro e W2 ⟨rfl, hb2⟩; have HS2 := Lib.hid (HS.out.below hb2); have HK2 := Lib.hid (HK0.out.trans (HS.out.kept hb2)); have HB2 := Lib.hid hb2; clear hb2)
    have hk2 := blk_below HB2.out HBK.out
    have hwd : Below W2.heap.size W2 { W2 with drawn := W2.drawn + 1 } := ⟨rfl, rfl, rfl, Nat.le_refl _, fun _ _ => rfl⟩
    have HSV := Lib.hid (HS2.out.below hwd)
    have HKV := Lib.hid (HK2.out.trans (HS2.out.kept hwd))
    have hk3 := blk_below hwd hk2
    have HFO := Lib.hid ((KeptS.same (HS2.out.kept hwd) _ (HFK.out W2 HB2.out).1 (HFK.out W2 HB2.out).2).2)
    clear hk2 hwd b0 b1
    refine wp_region_mixS (KeptS A km { W2 with drawn := W2.drawn + 1 }) [(0, false), (2, false), (6, false), (7, false), (8, false), (9, false), (10, false), (11, false), (12, false), (13, false), (14, false), (1, true), (3, false), (4, false), (5, false), (15, true), (16, false), (17, false), (18, false), (19, false)] (by kernel_rfl) (by kernel_rfl) (KeptS.refl _ _ _) ?_
    generalize { W2 with drawn := W2.drawn + 1 } = V0 at *
    have d0 : ∀ p : InW (KeptS A km V0), p.w.cell? ⟨w.heap.size, 0, none⟩ = some (.int .u32 a) := fun p => by rw [cell_of_row _ _ 0 _ _ (0, 0) ((p.h.same _ HFO.out HNE.out).1.trans hk3)]; rfl
    have d1 : ∀ p : InW (KeptS A km V0), p.w.cell? ⟨w.heap.size, 1, none⟩ = some (.int .i64 n) := fun p => by rw [cell_of_row _ _ 1 _ _ (0, 0) ((p.h.same _ HFO.out HNE.out).1.trans hk3)]; rfl
    refine mix_take [0, 2, 6, 7, 8, 9, 10, 11, 12, 13, 14] [_, _, _, _, _, _, _, _, _, _, _] rfl rfl ?_
    simp only [List.getElem_toArray, List.getElem_cons_zero, List.getElem_cons_succ]
    repeat (go_big_quiet_step (fail))
    refine wpQuiet_nil ?_
    refine mix_barS rfl (by rfl) ?_
    simp only [List.getElem_toArray, List.getElem_cons_zero, List.getElem_cons_succ]
    go_simp
    have hbp := below1 V0 partsObj
    have HSP := Lib.hid (HSV.out.below hbp)
    have HKP := Lib.hid (HSV.out.kept hbp)
    have hpk := blk1 V0 partsObj
    have hpf := HSV.out.sp.ar.foreign_new hbp (Nat.le_refl _) (lt_of_block hpk)
    have hpn : V0.heap.size ≠ km := by have := HSV.out.sp.fk.1; omega
    have hpp := (parts_at V0 1 (by omega)).1
    refine (parts_any _).mono ?_
    rintro e _ ⟨rfl, rfl⟩
    refine ⟨KeptS A km (V0.alloc partsObj), KeptS.refl _ _ _, fun v hv => HKP.out.trans hv, ?_⟩
    have p0 : ∀ p : InW (KeptS A km (V0.alloc partsObj)), p.w.cell? ⟨V0.heap.size, 2, none⟩ = some (.int .i64 32) := fun p => (World.cell?_of_block (p.h.same _ hpf hpn).1).trans hpp
    clear hbp hpk hpf hpn hpp d0 d1 hk3
    generalize V0.alloc partsObj = V1 at *
    refine mix_take [3, 4, 5] [_, _, _] rfl rfl ?_
    simp only [List.getElem_toArray, List.getElem_cons_zero, List.getElem_cons_succ]
    repeat (go_big_quiet_step (fail))
    refine wpQuiet_nil ?_
    refine mix_barS rfl (by rfl) ?_
    simp only [List.getElem_toArray, List.getElem_cons_zero, List.getElem_cons_succ]
    go_simp
    have hdl : a / 2 ^ (32 - n) ≤ a := Nat.div_le_self _ _
    have hdv : ((a / 2 ^ (32 - n) : Nat) : Int) = (a : Int) / 2 ^ (32 - n) := by simp
    have hbits := bits_any HSP.out nowF (32 * 1) n (a / 2 ^ (32 - n)) (by omega) hn (by omega) (by omega)
    rw [hdv] at hbits
    have HBITS := Lib.hid (show Calls Tryz.prog 60 #[.pointer (some ⟨S, 0, none⟩), .int .i64 32, .int .i64 n, .int .u64 ((a : Int) / 2 ^ (32 - n)), .func (.func 50) #[] #[]] V1 _ from hbits)
    clear hdl hdv hbits
    refine HBITS.out.mono ?_
    rintro e W5 hr5
    have HR5 := Lib.hid (hr5.after (To.refl σ) (HKV.out.trans HKP.out))
    obtain ⟨q5, c5, rfl⟩ := hr5.form
    refine ⟨KeptS A km V1, hr5.1, fun _ h => h, ?_⟩
    clear hr5
    refine mix_take [16, 17, 18, 19] [_, _, _, _] rfl rfl ?_
    simp only [List.getElem_toArray, List.getElem_cons_zero, List.getElem_cons_succ]
    repeat (go_big_quiet_step (fail))
    refine wpQuiet_nil ?_
    refine mix_end ?_
    go_wp2
    go_ret2
    simpa using HR5.out
end
end Go.Proofs.YtdjikiakcfbklaaGreat

/-
  A field's values from a number up, or up to a number (written by wip/gen/genrb2.py).
-/
namespace Go.Proofs.YtdjikiakcfbklaaGreat
open Go Go.RowKit Go.ChangeMaps Go.MapKept Go.Maps Go.Lib Go.Sort

def stepF (x : Nat) (up b : Bool) (F : Fun) : Fun := fun s => if s x then (if b then F s else up) else (if b then !up else F s)
/-- The last m bits of a field's n are not below (up), not above v's. -/
def reachF (a n v : Nat) (up : Bool) : Nat → Fun
  | 0 => fun _ => true
  | m + 1 => stepF (2 * (a + (n - 1 - m))) up (v.testBit m) (reachF a n v up m)
theorem Hangs.step {F : Fun} {x a b : Nat} (up c : Bool) (h : Hangs F a b) (h1 : x ≤ a) (h2 : x < b) : Hangs (stepF x up c F) x b := fun s t e => by
  unfold stepF
  rw [e x (Nat.le_refl _) h2, h s t fun u h3 h4 => e u (by omega) h4]
theorem reachF_hangs (a n v : Nat) (up : Bool) : ∀ m, m ≤ n → Hangs (reachF a n v up m) (2 * (a + (n - m))) (2 * (a + n))
  | 0, _ => Hangs.const true _ _
  | m + 1, hm => by
    have := reachF_hangs a n v up m (by omega)
    rw [show n - (m + 1) = n - 1 - m from by omega]
    exact this.step _ _ (by omega) (by omega)
theorem bit_u64' (v m : Nat) (hv : v < 4294967296) (b : Bool) (hb : v.testBit m = b) : bits .and .u64 ((v : Int) / 2 ^ m) 1 = if b then 1 else 0 := by rw [bit_u64 v m hv, hb]
set_option maxRecDepth 100000 in
set_option maxHeartbeats 4000000 in
theorem reach_any {w : World} {B S km : Nat} {A : Blks} {Mo : Nat} {σ : Sg} (h : SpOk w B S km A Mo σ) (a n v : Nat) (up : Bool) (hn : a + n ≤ 104) (hn32 : n ≤ 32) (hv : v < 4294967296) (hl : σ.N.length + 2 * n ≤ 2147483647) :
    Calls Tryz.prog 63 #[.pointer (some ⟨S, 0, none⟩), .agg #[.int .i64 a, .int .i64 n], .int .u64 v, .bool up] w (SpRes w B S km A Mo σ (reachF a n v up n) (2 * n) (2 * n)) := by
  have hbw := below1 w (.cells #[.int .i64 a, .int .i64 n] 89)
  have hbk := blk1 w (.cells #[.int .i64 a, .int .i64 n] 89)
  have hfo := h.sp.ar.foreign_new hbw (Nat.le_refl _) (lt_of_block hbk)
  have hfk := h.sp.fk.1
  have HBX : Hid (∀ W, KeptS A km (w.alloc (.cells #[.int .i64 a, .int .i64 n] 89)) W → W.cell? ⟨w.heap.size, 0, none⟩ = some (.int .i64 a) ∧ W.cell? ⟨w.heap.size, 1, none⟩ = some (.int .i64 n)) := Lib.hid fun W hW => by
    have hk := (hW.same _ hfo (by omega)).1.trans hbk
    exact ⟨by rw [cell_of_row W _ 0 _ _ (0, 0) hk]; rfl, by rw [cell_of_row W _ 1 _ _ (0, 0) hk]; rfl⟩
  have HK0 := Lib.hid (h.kept hbw)
  have HS := Lib.hid (h.below hbw)
  have HBK := Lib.hid hbk
  have hn1 : (n : Int) ≤ 104 := by omega
  have ha1 : (a : Int) ≤ 104 := by omega
  clear h hbw hfo hfk hbk
  go_enter Tryz.func63, Tryz.ntmps63
  obtain ⟨b0, b1⟩ := HBX.out _ (KeptS.refl _ _ _)
  go_upto_region 2 with fail
  generalize w.alloc (.cells #[.int .i64 a, .int .i64 n] 89) = w0 at *
  go_wp2
  clear b0 b1
  go_loopw [10, 11] (fun f i wr => ∃ m : Nat, m ≤ n ∧ i = .int .i64 ((n : Int) - 1 - m) ∧ ∃ (r : Nat) (τ : Sg), f = .int .i64 r ∧ Hid (SpOk wr B S km A Mo τ) ∧ Hid (To (2 * m) (2 * m) σ τ) ∧ Hid (Den τ r (reachF a n v up m)) ∧ Hid (KeptS A km w0 wr)) (fun _ i _ => (intOf i + 1).toNat)
  case atStart => exact ⟨0, by omega, by simp, 1, σ, rfl, HS, Lib.hid (To.refl σ), Lib.hid (Den.one HS.out.ok), Lib.hid (KeptS.refl _ _ _)⟩
  case round =>
    obtain ⟨m, hm, rfl, r, τ, rfl, HS1, HT1, HD1, HK1⟩ := hrel
    by_cases hlt : m < n
    · have hI : (n : Int) - 1 - m ≥ 0 := by omega
      have c0 := HS1.out.sp.c0
      obtain ⟨b0, b1⟩ := HBX.out wr HK1.out
      obtain ⟨x, hx⟩ : ∃ x, x = 2 * (a + (n - 1 - m)) := ⟨_, rfl⟩
      have hxi : ((a + (n - 1 - m) : Nat) : Int) = (a : Int) + ((n : Int) - 1 - m) := by omega
      have HN := Lib.hid (show ∀ W, Calls Tryz.prog 50 #[.int .i64 ((a : Int) + ((n : Int) - 1 - m))] W (fun e w' => e = .returned (.int .i64 (x : Int)) ∧ w' = W) from fun W => by
        have := now_any (a + (n - 1 - m)) W (by omega)
        rw [hxi, Nat.add_zero, ← hx] at this
        exact this)
      have hwd : Below wr.heap.size wr wr.drew := ⟨rfl, rfl, rfl, Nat.le_refl _, fun _ _ => rfl⟩
      have HSD := Lib.hid (HS1.out.below hwd)
      have HKD := Lib.hid (HK1.out.trans (HS1.out.kept hwd))
      have hnl := HT1.out.nl
      have hvar := Lib.hid (HSD.out.var x (by omega) (by omega))
      have hw1 : IntKind.i64.wrap ((a : Int) + ((n : Int) - 1 - m)) = (a : Int) + ((n : Int) - 1 - m) := IntWalk.i64_in _ (by omega)
      have HX := Lib.hid hx
      clear hxi hnl hwd hx
      go_upto_region 5 with fail
      go_region_held3 (fun w' => w'.cell? ⟨S, 0, none⟩ = some (.pointer (some ⟨A.a, 0, none⟩)) ∧ w'.cell? ⟨w.heap.size, 0, none⟩ = some (.int .i64 a)) (first | exact hcs | go_keep) ((first
        | ((with_reducible refine (HN.out _).mono ?_); rintro e _ ⟨rfl, rfl⟩)
        | ((with_reducible refine hvar.out.mono ?_); rintro e W5 hr5; obtain ⟨q5, c5, he5⟩ := hr5.form; have HR5 := Lib.hid hr5; subst he5; have hcs : W5.cell? ⟨S, 0, none⟩ = some (.pointer (some ⟨A.a, 0, none⟩)) ∧ W5.cell? ⟨w.heap.size, 0, none⟩ = some (.int .i64 a) := ⟨hr5.c0, (HBX.out _ (HKD.out.trans hr5.1)).1⟩; clear hr5)))
      have hfin5 := HR5.out.two
      clear hcs
      rcases hfin5 with ⟨rfl, rfl, hlt5, τ5, hs5, ht5⟩ | ⟨r5, τ5, rfl, rfl, hs5, ht5, hd5⟩
      · have HFIN := Lib.hid (SpRes.full (F := reachF a n v up n) (HK0.out.trans (HKD.out.trans HR5.out.1)) rfl (by have := HT1.out.hl; omega) hs5 ((HT1.out.trans ht5).mono (show 2 * m + 1 ≤ 2 * n by omega) (show 2 * m + 1 ≤ 2 * n by omega)))
        clear hlt5 hs5 ht5
        go_wp2
        go_ret2
        exact HFIN.out
      · have HS5 := Lib.hid hs5
        have HT5 := Lib.hid (HT1.out.trans ht5)
        have HD5 := Lib.hid hd5
        have HK5 := Lib.hid (HKD.out.trans HR5.out.1)
        have c5 := hs5.sp.c0
        have HD5r := Lib.hid (HD1.out.to ht5 HS1.out.ok hs5.ok)
        obtain ⟨d0, d1⟩ := HBX.out W5 HK5.out
        clear hs5 ht5 hd5 HR5 hvar HN c0 b0 b1 HSD HS1 HT1 HD1 HK1
        have hsh : (n : Int) - 1 - ((n : Int) - 1 - m) = m := by omega
        have hn5 := HT5.out.nl
        have hh5 := HT5.out.hl
        have hxl : x < 208 := by have := HX.out; omega
        have HLF : Hid (∀ (b : Bool) (hi lo : Nat) (F G : Fun), v.testBit m = b → Den τ5 hi F → Den τ5 lo G → Hangs F (x + 1) 256 → Hangs G (x + 1) 256 → stepF x up b (reachF a n v up m) = (fun s => if s x then F s else G s) → Calls Tryz.prog 46 #[.pointer (some ⟨A.a, 0, none⟩), .int .i64 r5, .int .i64 hi, .int .i64 lo] W5 (fun e w' => ∃ Q C : Int, e = .returned (.tuple #[.int .i64 Q, .int .i64 C]) ∧ ((Q = 0 ∧ C = 3 ∧ SpRes w B S km A Mo σ (reachF a n v up n) (2 * n) (2 * n) e w') ∨
            ∃ (r' : Nat) (τ' : Sg), Q = r' ∧ C = 0 ∧ SpOk w' B S km A Mo τ' ∧ To (2 * (m + 1)) (2 * (m + 1)) σ τ' ∧ Den τ' r' (reachF a n v up (m + 1)) ∧ KeptS A km w0 w'))) := Lib.hid (by
          intro b hi lo F G hb dh dl hF hG he
          have hgr := dh.step dl HS5.out.ok hxl hF hG
          refine (HS5.out.ite HD5.out dh dl (a := 1) (b := 1) hgr (by omega)).mono fun e w' hr => ?_
          obtain ⟨Q, C, rfl⟩ := hr.form
          refine ⟨Q, C, rfl, ?_⟩
          rcases hr.two with ⟨h1, h2, h3, τ', h4, h5⟩ | ⟨r', τ', h1, h2, h4, h5, h6⟩
          · subst h1 h2
            exact .inl ⟨rfl, rfl, SpRes.full (HK0.out.trans (HK5.out.trans hr.1)) rfl (by omega) h4 ((HT5.out.trans h5).mono (by omega) (by omega))⟩
          · refine .inr ⟨r', τ', h1, h2, h4, (HT5.out.trans h5).mono (by omega) (by omega), ?_, HK5.out.trans hr.1⟩
            have : reachF a n v up (m + 1) = fun s => if s x then F s else G s := by rw [← he, ← hb, HX.out]; rfl
            rw [this]
            exact h6)
        have HHF := Lib.hid ((reachF_hangs a n v up m hm).mono (show x + 1 ≤ 2 * (a + (n - m)) by have := HX.out; omega) (show 2 * (a + n) ≤ 256 by omega))
        have HD0 := Lib.hid (Den.zero HS5.out.ok)
        have HD1' := Lib.hid (Den.one HS5.out.ok)
        clear hn5 hh5 hxl
        cases up with
        | false =>
          cases hb : v.testBit m with
          | false =>
            have hbit : bits .and .u64 ((v : Int) / 2 ^ m) 1 = 0 := bit_u64' v m hv false hb
            have HITE := Lib.hid (show Calls Tryz.prog 46 #[.pointer (some ⟨A.a, 0, none⟩), .int .i64 r5, .int .i64 0, .int .i64 r] W5 _ from HLF.out false 0 r (fun _ => false) (reachF a n v false m) hb HD0.out HD5r.out (Hangs.const false _ _) HHF.out (funext fun s => by unfold stepF; cases s x <;> rfl))
            clear HLF hb
            go_upto_region 18 with ((with_reducible refine HITE.out.mono ?_); rintro e W7 ⟨q7, c7, he7, hr7⟩; subst he7; have HR7 := Lib.hid hr7; clear hr7)
            rcases HR7.out with ⟨rfl, rfl, hr⟩ | ⟨r7, τ7, rfl, rfl, hs7, ht7, hd7, hk7⟩
            · have HFIN := Lib.hid hr
              clear hr HR7
              go_wp2
              go_ret2
              exact HFIN.out
            · have HS7 := Lib.hid hs7
              have HT7 := Lib.hid ht7
              have HD7 := Lib.hid hd7
              have HK7 := Lib.hid hk7
              clear hs7 ht7 hd7 hk7 HR7 HITE
              go_wp2
              exact ⟨⟨m + 1, by omega, by go_num, r7, τ7, rfl, HS7, HT7, HD7, HK7⟩, by simp only [intOf]; omega⟩
          | true =>
            have hbit : bits .and .u64 ((v : Int) / 2 ^ m) 1 = 1 := bit_u64' v m hv true hb
            have HITE := Lib.hid (show Calls Tryz.prog 46 #[.pointer (some ⟨A.a, 0, none⟩), .int .i64 r5, .int .i64 r, .int .i64 1] W5 _ from HLF.out true r 1 (reachF a n v false m) (fun _ => true) hb HD5r.out HD1'.out HHF.out (Hangs.const true _ _) (funext fun s => by unfold stepF; cases s x <;> rfl))
            clear HLF hb
            go_upto_region 18 with ((with_reducible refine HITE.out.mono ?_); rintro e W7 ⟨q7, c7, he7, hr7⟩; subst he7; have HR7 := Lib.hid hr7; clear hr7)
            rcases HR7.out with ⟨rfl, rfl, hr⟩ | ⟨r7, τ7, rfl, rfl, hs7, ht7, hd7, hk7⟩
            · have HFIN := Lib.hid hr
              clear hr HR7
              go_wp2
              go_ret2
              exact HFIN.out
            · have HS7 := Lib.hid hs7
              have HT7 := Lib.hid ht7
              have HD7 := Lib.hid hd7
              have HK7 := Lib.hid hk7
              clear hs7 ht7 hd7 hk7 HR7 HITE
              go_wp2
              exact ⟨⟨m + 1, by omega, by go_num, r7, τ7, rfl, HS7, HT7, HD7, HK7⟩, by simp only [intOf]; omega⟩
        | true =>
          cases hb : v.testBit m with
          | false =>
            have hbit : bits .and .u64 ((v : Int) / 2 ^ m) 1 = 0 := bit_u64' v m hv false hb
            have HITE := Lib.hid (show Calls Tryz.prog 46 #[.pointer (some ⟨A.a, 0, none⟩), .int .i64 r5, .int .i64 1, .int .i64 r] W5 _ from HLF.out false 1 r (fun _ => true) (reachF a n v true m) hb HD1'.out HD5r.out (Hangs.const true _ _) HHF.out (funext fun s => by unfold stepF; cases s x <;> rfl))
            clear HLF hb
            go_upto_region 18 with ((with_reducible refine HITE.out.mono ?_); rintro e W7 ⟨q7, c7, he7, hr7⟩; subst he7; have HR7 := Lib.hid hr7; clear hr7)
            rcases HR7.out with ⟨rfl, rfl, hr⟩ | ⟨r7, τ7, rfl, rfl, hs7, ht7, hd7, hk7⟩
            · have HFIN := Lib.hid hr
              clear hr HR7
              go_wp2
              go_ret2
              exact HFIN.out
            · have HS7 := Lib.hid hs7
              have HT7 := Lib.hid ht7
              have HD7 := Lib.hid hd7
              have HK7 := Lib.hid hk7
              clear hs7 ht7 hd7 hk7 HR7 HITE
              go_wp2
              exact ⟨⟨m + 1, by omega, by go_num, r7, τ7, rfl, HS7, HT7, HD7, HK7⟩, by simp only [intOf]; omega⟩
          | true =>
            have hbit : bits .and .u64 ((v : Int) / 2 ^ m) 1 = 1 := bit_u64' v m hv true hb
            have HITE := Lib.hid (show Calls Tryz.prog 46 #[.pointer (some ⟨A.a, 0, none⟩), .int .i64 r5, .int .i64 r, .int .i64 0] W5 _ from HLF.out true r 0 (reachF a n v true m) (fun _ => false) hb HD5r.out HD0.out HHF.out (Hangs.const false _ _) (funext fun s => by unfold stepF; cases s x <;> rfl))
            clear HLF hb
            go_upto_region 18 with ((with_reducible refine HITE.out.mono ?_); rintro e W7 ⟨q7, c7, he7, hr7⟩; subst he7; have HR7 := Lib.hid hr7; clear hr7)
            rcases HR7.out with ⟨rfl, rfl, hr⟩ | ⟨r7, τ7, rfl, rfl, hs7, ht7, hd7, hk7⟩
            · have HFIN := Lib.hid hr
              clear hr HR7
              go_wp2
              go_ret2
              exact HFIN.out
            · have HS7 := Lib.hid hs7
              have HT7 := Lib.hid ht7
              have HD7 := Lib.hid hd7
              have HK7 := Lib.hid hk7
              clear hs7 ht7 hd7 hk7 HR7 HITE
              go_wp2
              exact ⟨⟨m + 1, by omega, by go_num, r7, τ7, rfl, HS7, HT7, HD7, HK7⟩, by simp only [intOf]; omega⟩
    · obtain rfl : m = n := by omega
      have hI : ¬ (m : Int) - 1 - m ≥ 0 := by omega
      have HFIN : Hid (SpRes w B S km A Mo σ (reachF a m v up m) (2 * m) (2 * m) (.returned (.tuple #[.int .i64 r, .int .i64 0])) wr) := Lib.hid ⟨HK0.out.trans HK1.out, .inr ⟨r, τ, rfl, HS1.out, HT1.out, HD1.out⟩⟩
      go_wp2
      go_ret2
      exact HFIN.out
end Go.Proofs.YtdjikiakcfbklaaGreat

/-
  How many nodes stand for what is made of bits.
-/
namespace Go.Proofs.YtdjikiakcfbklaaGreat

theorem CutF.mono {F : Fun} {v k m : Nat} (h : CutF F v k) (hk : k ≤ m) : CutF F v m := by
  obtain ⟨L, a, b⟩ := h
  exact ⟨L, by omega, b⟩
theorem CutF.const (b : Bool) (v : Nat) : CutF (fun _ => b) v 1 := ⟨[fun _ => b], Nat.le_refl _, fun _ => List.mem_cons_of_mem _ (List.mem_singleton.2 rfl)⟩
theorem CutF.lit {F : Fun} {x c v k : Nat} (b : Bool) (hF : Hangs F (x + 1) c) (hc : x < c) (h : CutF F v k) (hk : 1 ≤ k) : CutF (litF x b F) v k := by
  rcases Nat.lt_or_ge x v with hv | hv
  · obtain ⟨L, h1, h2⟩ := h
    refine ⟨L, h1, fun s => ?_⟩
    cases hs : (s x == b)
    · have : cof (litF x b F) v s = fun _ => false := funext fun t => by
        show ((mixS v s t x == b) && F (mixS v s t)) = false
        rw [mixS_low _ _ hv, hs]; rfl
      rw [this]
      exact List.mem_cons_self ..
    · have : cof (litF x b F) v s = cof F v s := funext fun t => by
        show ((mixS v s t x == b) && F (mixS v s t)) = F (mixS v s t)
        rw [mixS_low _ _ hv, hs]; rfl
      rw [this]
      exact h2 s
  · exact ((hF.lit b (by omega) hc).aheadF hv).mono hk
theorem CutF.eq {F : Fun} {x v k : Nat} (hF : Hangs F (x + 2) 208) (hx : x + 2 ≤ 208) (h : CutF F v k) (hk : 2 ≤ k) : CutF (eqF x F) v k := by
  rcases Nat.lt_or_ge x v with hv | hv
  · rcases Nat.lt_or_ge (x + 1) v with hv2 | hv2
    · obtain ⟨L, h1, h2⟩ := h
      refine ⟨L, h1, fun s => ?_⟩
      cases hs : (s x == s (x + 1))
      · have : cof (eqF x F) v s = fun _ => false := funext fun t => by
          show ((mixS v s t x == mixS v s t (x + 1)) && F (mixS v s t)) = false
          rw [mixS_low _ _ hv, mixS_low _ _ hv2, hs]; rfl
        rw [this]
        exact List.mem_cons_self ..
      · have : cof (eqF x F) v s = cof F v s := funext fun t => by
          show ((mixS v s t x == mixS v s t (x + 1)) && F (mixS v s t)) = F (mixS v s t)
          rw [mixS_low _ _ hv, mixS_low _ _ hv2, hs]; rfl
        rw [this]
        exact h2 s
    · obtain rfl : v = x + 1 := by omega
      obtain ⟨L, h1, h2⟩ := CutLe.second (hF.eqF (Nat.le_refl _) hx)
      exact ⟨L, by omega, fun s => List.mem_cons_of_mem _ (h2 s)⟩
  · exact ((hF.eqF (Nat.le_refl _) hx).aheadF hv).mono (by omega)
theorem bitsF_cut (a o n v u : Nat) (ho : o < 2) : ∀ m, m ≤ n → CutF (bitsF a o n v m) u 1
  | 0, _ => CutF.const true u
  | m + 1, hm => CutF.lit _ ((bitsF_hangs a o n v ho m (by omega)).mono (show 2 * (a + (n - 1 - m)) + o + 1 ≤ 2 * (a + (n - m)) + o by omega) (Nat.le_refl _)) (by omega) (bitsF_cut a o n v u ho m (by omega)) (Nat.le_refl _)
theorem sameF_cut (a nb u : Nat) : ∀ m, m ≤ 104 → CutF (sameF a nb m) u 2
  | 0, _ => (CutF.const true u).mono (by omega)
  | m + 1, hm => by
    unfold sameF
    split
    · exact sameF_cut a nb u m (by omega)
    · exact CutF.eq ((sameF_hangs a nb m (by omega)).mono (by omega) (Nat.le_refl _)) (by omega) (sameF_cut a nb u m (by omega)) (Nat.le_refl _)
/-- All that is left is true, false, or one more. -/
theorem reachF_cut (a n v u : Nat) (up : Bool) : ∀ m, m ≤ n → CutLe (reachF a n v up m) u 3
  | 0, _ => (CutLe.const true u).mono (by omega)
  | m + 1, hm => by
    have H : ∀ m, m ≤ n → ∃ G : Fun, ∀ s, cof (reachF a n v up m) u s = (fun _ => true) ∨ cof (reachF a n v up m) u s = (fun _ => false) ∨ cof (reachF a n v up m) u s = G := by
      intro m
      induction m with
      | zero => exact fun _ => ⟨fun _ => true, fun s => .inl rfl⟩
      | succ m ih =>
        intro hm
        have hh := (reachF_hangs a n v up m (by omega)).mono (show 2 * (a + (n - 1 - m)) + 1 ≤ 2 * (a + (n - m)) by omega) (Nat.le_refl _)
        rcases Nat.lt_or_ge (2 * (a + (n - 1 - m))) u with hv | hv
        · obtain ⟨G, hG⟩ := ih (by omega)
          refine ⟨G, fun s => ?_⟩
          have e : cof (reachF a n v up (m + 1)) u s = fun t => if s (2 * (a + (n - 1 - m))) then (if v.testBit m then reachF a n v up m (mixS u s t) else up) else (if v.testBit m then !up else reachF a n v up m (mixS u s t)) := funext fun t => by
            show stepF (2 * (a + (n - 1 - m))) up (v.testBit m) (reachF a n v up m) (mixS u s t) = _
            unfold stepF
            rw [mixS_low _ _ hv]
          rw [e]
          cases s (2 * (a + (n - 1 - m))) <;> cases v.testBit m <;> cases up
          all_goals first
            | exact hG s
            | exact .inl rfl
            | exact .inr (.inl rfl)
        · obtain ⟨L, h1, h2⟩ := (Hangs.step up (v.testBit m) hh (by omega) (by omega)).ahead hv
          refine ⟨reachF a n v up (m + 1), fun s => .inr (.inr ?_)⟩
          have hh2 := Hangs.step up (v.testBit m) hh (show 2 * (a + (n - 1 - m)) ≤ 2 * (a + (n - 1 - m)) + 1 by omega) (by omega)
          exact funext fun t => hh2 _ _ fun w h1 _ => mixS_high _ _ (by omega)
    obtain ⟨G, hG⟩ := H (m + 1) hm
    refine ⟨[fun _ => true, fun _ => false, G], Nat.le_refl _, fun s => ?_⟩
    rcases hG s with h | h | h <;> simp [h]
theorem sumTo_seg (k a b : Nat) : ∀ n, sumTo (fun v => if a ≤ v ∧ v < b then k else 0) n = (min n b - a) * k
  | 0 => by simp [sumTo]
  | n + 1 => by
    show sumTo _ n + (if a ≤ n ∧ n < b then k else 0) = _
    rw [sumTo_seg k a b n]
    by_cases h : a ≤ n ∧ n < b
    · rw [if_pos h, show min (n + 1) b - a = (min n b - a) + 1 by omega, Nat.add_mul, Nat.one_mul]
    · rw [if_neg h, show min (n + 1) b - a = min n b - a by omega, Nat.add_zero]
theorem Wid.seg {F : Fun} {a b k : Nat} (h : Hangs F a b) (hb : b ≤ 256) (hc : ∀ v, CutLe F v k) : Wid F ((b - a) * k) := by
  refine ⟨fun v => if a ≤ v ∧ v < b then k else 0, fun v hv => ?_, by rw [sumTo_seg, Nat.min_eq_right hb]; exact Nat.le_refl _⟩
  by_cases h1 : a ≤ v ∧ v < b
  · refine .inr ?_
    simp only [h1, and_self, if_true]
    exact hc v
  · exact .inl (h.free (by omega))
theorem Wid.all {F : Fun} {k : Nat} (h : Hangs F 0 208) (hc : ∀ v, CutLe F v k) : Wid F (208 * k) := Wid.of_hangs h (by omega) fun v _ _ => hc v
/-- With the value v in the field of n bits from a on. -/
def putF (a n v : Nat) : Fun := fun s => sameF a n 104 s && bitsF a 1 n v n s
/-- The bits' variables lie below 208. -/
theorem bitsF_208 (a o n v : Nat) (ho : o < 2) (h : a + n ≤ 104) : ∀ m, m ≤ n → Hangs (bitsF a o n v m) (2 * (a + (n - m)) + o) 208 ∨ m = 0
  | 0, _ => .inr rfl
  | m + 1, hm => .inl (by
    rcases bitsF_208 a o n v ho h m (by omega) with h' | rfl
    · rw [show n - (m + 1) = n - 1 - m from by omega]
      exact h'.lit _ (by omega) (by omega)
    · rw [show n - (0 + 1) = n - 1 - 0 from by omega]
      exact (Hangs.const true (2 * (a + (n - 1 - 0)) + o) 208).lit _ (Nat.le_refl _) (by omega))
theorem bitsF_hang (a o n v : Nat) (ho : o < 2) (h : a + n ≤ 104) : Hangs (bitsF a o n v n) 0 208 := by
  rcases bitsF_208 a o n v ho h n (Nat.le_refl _) with h' | rfl
  · exact h'.mono (by omega) (Nat.le_refl _)
  · exact Hangs.const true _ _
theorem reachF_hang (a n v : Nat) (up : Bool) (h : a + n ≤ 104) : Hangs (reachF a n v up n) 0 208 := (reachF_hangs a n v up n (Nat.le_refl _)).mono (by omega) (by omega)
theorem sameF_hang (a nb : Nat) : Hangs (sameF a nb 104) 0 208 := (sameF_hangs a nb 104 (Nat.le_refl _)).mono (by omega) (Nat.le_refl _)
theorem putF_hang (a n v : Nat) (h : a + n ≤ 104) : Hangs (putF a n v) 0 208 := (sameF_hang a n).op2 (fun x y => x && y) (bitsF_hang a 1 n v (by omega) h)
theorem putF_cut (a n v u : Nat) : CutLe (putF a n v) u 6 := (sameF_cut a n u 104 (Nat.le_refl _)).le.op2 (fun x y => x && y) (bitsF_cut a 1 n v u (by omega) n (Nat.le_refl _)).le
theorem putF_wid (a n v : Nat) (h : a + n ≤ 104) : Wid (putF a n v) 1248 := Wid.all (putF_hang a n v h) (putF_cut a n v)
end Go.Proofs.YtdjikiakcfbklaaGreat

/-
  A value put into a field of all headers (written by wip/gen/genrb5.py).
-/
namespace Go.Proofs.YtdjikiakcfbklaaGreat
open Go Go.RowKit Go.ChangeMaps Go.MapKept Go.Maps Go.Lib Go.Sort

section
variable {w : World} {B S km : Nat} {A : Blks} {Mo : Nat} {σ : Sg}
set_option maxRecDepth 100000
set_option maxHeartbeats 4000000
theorem put0_yes (h : SpOk w B S km A Mo σ) (v : Nat) (hv : v < 4294967296) (hl : σ.N.length + 2280 ≤ 2147483647) :
    Calls Tryz.prog 29 #[.pointer (some ⟨S, 0, none⟩), .int .i64 0, .int .u32 v] w (SpRes w B S km A Mo σ (putF 0 32 v) 2280 2280) := by
  have p0 : ∀ W : World, (W.alloc partsObj).cell? ⟨W.heap.size, 0, none⟩ = some (.int .i64 0) := fun W => (parts_at W 0 (by omega)).1
  have p1 : ∀ W : World, (W.alloc partsObj).cell? ⟨W.heap.size, 1, none⟩ = some (.int .i64 32) := fun W => (parts_at W 0 (by omega)).2
  have HS := Lib.hid h
  have hv1 : ¬ (v : Int) > 4294967295 := by omega
  have hv2 : (v : Int) ≤ 4294967295 := by omega
  clear h
  go_enter Tryz.func29, Tryz.ntmps29
  go_upto_region 5 with (go_at_call 61; (with_reducible refine (parts_any _).mono ?_); rintro e _ ⟨rfl, rfl⟩)
  have HB1 := Lib.hid (below1 w partsObj)
  have HS1 := Lib.hid (HS.out.below HB1.out)
  have HK1 := Lib.hid (HS.out.kept HB1.out)
  clear HS HB1
  generalize w.alloc partsObj = w1 at *
  go_upto_region 6 with (go_at_call 61; (with_reducible refine (parts_any _).mono ?_); rintro e _ ⟨rfl, rfl⟩)
  have HB2 := Lib.hid (below2 w1 partsObj (.cells #[.int .i64 0, .int .i64 32] 89))
  have hk2 := blk1 (w1.alloc partsObj) (.cells #[.int .i64 0, .int .i64 32] 89)
  have hs2 : (w1.alloc partsObj).heap.size = w1.heap.size + 1 := by simp
  rw [hs2] at hk2
  have HF2 := Lib.hid (HS1.out.sp.ar.foreign_new HB2.out (k := w1.heap.size + 1) (by omega) (lt_of_block hk2))
  have HNE : Hid (w1.heap.size + 1 ≠ km) := Lib.hid (by have := HS1.out.sp.fk.1; omega)
  have HS2 := Lib.hid (HS1.out.below HB2.out)
  have HK2 := Lib.hid (HK1.out.trans (HS1.out.kept HB2.out))
  have b0 := cell_of_row _ _ 0 _ _ (0, 0) hk2
  have b1 := cell_of_row _ _ 1 _ _ (0, 0) hk2
  have b0 : ((w1.alloc partsObj).alloc (.cells #[.int .i64 0, .int .i64 32] 89)).cell? ⟨w1.heap.size + 1, 0, none⟩ = some (.int .i64 0) := b0
  have b1 : ((w1.alloc partsObj).alloc (.cells #[.int .i64 0, .int .i64 32] 89)).cell? ⟨w1.heap.size + 1, 1, none⟩ = some (.int .i64 32) := b1
  have HK := Lib.hid hk2
  clear HB2 hk2 hs2 HS1 HK1 p0 p1
  generalize (w1.alloc partsObj).alloc (.cells #[.int .i64 0, .int .i64 32] 89) = w2 at *
  have HSM := Lib.hid (show Calls Tryz.prog 41 #[.pointer (some ⟨S, 0, none⟩), .agg #[.int .i64 0, .int .i64 32]] w2 (SpRes w2 B S km A Mo σ (sameF 0 32 104) 936 936) from same_any HS2.out 0 32 (by omega) (by omega) (by omega))
  go_upto_region 7 with ((with_reducible refine HSM.out.mono ?_); rintro e w3 hr3; obtain ⟨q3, c3, he3⟩ := hr3.form; have HR3 := Lib.hid hr3; subst he3; clear hr3)
  rcases HR3.out.two with ⟨rfl, rfl, hlt3, τ3, hs3, ht3⟩ | ⟨r3, τ3, rfl, rfl, hs3, ht3, hd3⟩
  · have HFIN := Lib.hid (SpRes.full (F := putF 0 32 v) (HK2.out.trans HR3.out.1) rfl (by omega) hs3 (ht3.mono (show 936 ≤ 2280 by omega) (show 936 ≤ 2280 by omega)))
    clear hlt3 hs3 ht3
    go_wp2
    go_ret2
    exact HFIN.out
  · have HS3 := Lib.hid hs3
    have HT3 := Lib.hid ht3
    have HD3 := Lib.hid hd3
    have HK3 := Lib.hid (HK2.out.trans HR3.out.1)
    have hk3 := (HR3.out.1.same _ HF2.out HNE.out).1.trans HK.out
    have d0 := cell_of_row _ _ 0 _ _ (0, 0) hk3
    have d1 := cell_of_row _ _ 1 _ _ (0, 0) hk3
    have d0 : w3.cell? ⟨w1.heap.size + 1, 0, none⟩ = some (.int .i64 0) := d0
    have d1 : w3.cell? ⟨w1.heap.size + 1, 1, none⟩ = some (.int .i64 32) := d1
    have hn3 := ht3.nl
    have HBT := Lib.hid (show Calls Tryz.prog 60 #[.pointer (some ⟨S, 0, none⟩), .int .i64 0, .int .i64 32, .int .u64 v, .func (.func 56) #[] #[]] w3 (SpRes w3 B S km A Mo τ3 (bitsF 0 1 32 v 32) (3 * 32) (3 * 32)) from bits_any hs3 thenF 0 32 v (by omega) (by omega) (by omega) (by omega))
    clear hs3 ht3 hd3 HR3 HSM HS2 HK2 hk3 b0 b1 hn3
    go_upto_region 10 with ((with_reducible refine HBT.out.mono ?_); rintro e w4 hr4; obtain ⟨q4, c4, he4⟩ := hr4.form; have HR4 := Lib.hid hr4; subst he4; clear hr4)
    rcases HR4.out.two with ⟨rfl, rfl, hlt4, τ4, hs4, ht4⟩ | ⟨r4, τ4, rfl, rfl, hs4, ht4, hd4⟩
    · have HFIN := Lib.hid (SpRes.full (F := putF 0 32 v) (HK3.out.trans HR4.out.1) rfl (by have := HT3.out.hl; omega) hs4 ((HT3.out.trans ht4).mono (show 936 + 3 * 32 ≤ 2280 by omega) (show 936 + 3 * 32 ≤ 2280 by omega)))
      clear hlt4 hs4 ht4
      go_wp2
      go_ret2
      exact HFIN.out
    · have HT4 := Lib.hid (HT3.out.trans ht4)
      have HK4 := Lib.hid (HK3.out.trans HR4.out.1)
      have c4 := hs4.sp.c0
      have hn4 := HT4.out.nl
      have HAND := Lib.hid (show Calls Tryz.prog 43 #[.pointer (some ⟨A.a, 0, none⟩), .int .i64 r3, .int .i64 r4] w4 (SpRes w4 B S km A Mo τ4 (putF 0 32 v) 1248 1248) from hs4.and (HD3.out.to ht4 HS3.out.ok hs4.ok) hd4 (a := 1248) (b := 1248) (Grow.wid hs4.ok.wf.two (putF_wid 0 32 v (by omega))) (by omega))
      clear hs4 ht4 hd4 HR4 HBT HS3 HT3 HD3 HK3 hn4
      go_wp2_with ((with_reducible refine HAND.out.mono ?_); rintro e w5 hr5; obtain ⟨q5, c5, he5⟩ := hr5.form; have HR5 := Lib.hid ((hr5.after HT4.out HK4.out).mono (show 936 + 3 * 32 + 1248 ≤ 2280 by omega) (show 936 + 3 * 32 + 1248 ≤ 2280 by omega)); subst he5; clear hr5)
      go_ret2
      exact HR5.out
theorem put1_yes (h : SpOk w B S km A Mo σ) (v : Nat) (hv : v < 4294967296) (hl : σ.N.length + 2280 ≤ 2147483647) :
    Calls Tryz.prog 29 #[.pointer (some ⟨S, 0, none⟩), .int .i64 1, .int .u32 v] w (SpRes w B S km A Mo σ (putF 32 32 v) 2280 2280) := by
  have p0 : ∀ W : World, (W.alloc partsObj).cell? ⟨W.heap.size, 2, none⟩ = some (.int .i64 32) := fun W => (parts_at W 1 (by omega)).1
  have p1 : ∀ W : World, (W.alloc partsObj).cell? ⟨W.heap.size, 3, none⟩ = some (.int .i64 32) := fun W => (parts_at W 1 (by omega)).2
  have HS := Lib.hid h
  have hv1 : ¬ (v : Int) > 4294967295 := by omega
  have hv2 : (v : Int) ≤ 4294967295 := by omega
  clear h
  go_enter Tryz.func29, Tryz.ntmps29
  go_upto_region 5 with (go_at_call 61; (with_reducible refine (parts_any _).mono ?_); rintro e _ ⟨rfl, rfl⟩)
  have HB1 := Lib.hid (below1 w partsObj)
  have HS1 := Lib.hid (HS.out.below HB1.out)
  have HK1 := Lib.hid (HS.out.kept HB1.out)
  clear HS HB1
  generalize w.alloc partsObj = w1 at *
  go_upto_region 6 with (go_at_call 61; (with_reducible refine (parts_any _).mono ?_); rintro e _ ⟨rfl, rfl⟩)
  have HB2 := Lib.hid (below2 w1 partsObj (.cells #[.int .i64 32, .int .i64 32] 89))
  have hk2 := blk1 (w1.alloc partsObj) (.cells #[.int .i64 32, .int .i64 32] 89)
  have hs2 : (w1.alloc partsObj).heap.size = w1.heap.size + 1 := by simp
  rw [hs2] at hk2
  have HF2 := Lib.hid (HS1.out.sp.ar.foreign_new HB2.out (k := w1.heap.size + 1) (by omega) (lt_of_block hk2))
  have HNE : Hid (w1.heap.size + 1 ≠ km) := Lib.hid (by have := HS1.out.sp.fk.1; omega)
  have HS2 := Lib.hid (HS1.out.below HB2.out)
  have HK2 := Lib.hid (HK1.out.trans (HS1.out.kept HB2.out))
  have b0 := cell_of_row _ _ 0 _ _ (0, 0) hk2
  have b1 := cell_of_row _ _ 1 _ _ (0, 0) hk2
  have b0 : ((w1.alloc partsObj).alloc (.cells #[.int .i64 32, .int .i64 32] 89)).cell? ⟨w1.heap.size + 1, 0, none⟩ = some (.int .i64 32) := b0
  have b1 : ((w1.alloc partsObj).alloc (.cells #[.int .i64 32, .int .i64 32] 89)).cell? ⟨w1.heap.size + 1, 1, none⟩ = some (.int .i64 32) := b1
  have HK := Lib.hid hk2
  clear HB2 hk2 hs2 HS1 HK1 p0 p1
  generalize (w1.alloc partsObj).alloc (.cells #[.int .i64 32, .int .i64 32] 89) = w2 at *
  have HSM := Lib.hid (show Calls Tryz.prog 41 #[.pointer (some ⟨S, 0, none⟩), .agg #[.int .i64 32, .int .i64 32]] w2 (SpRes w2 B S km A Mo σ (sameF 32 32 104) 936 936) from same_any HS2.out 32 32 (by omega) (by omega) (by omega))
  go_upto_region 7 with ((with_reducible refine HSM.out.mono ?_); rintro e w3 hr3; obtain ⟨q3, c3, he3⟩ := hr3.form; have HR3 := Lib.hid hr3; subst he3; clear hr3)
  rcases HR3.out.two with ⟨rfl, rfl, hlt3, τ3, hs3, ht3⟩ | ⟨r3, τ3, rfl, rfl, hs3, ht3, hd3⟩
  · have HFIN := Lib.hid (SpRes.full (F := putF 32 32 v) (HK2.out.trans HR3.out.1) rfl (by omega) hs3 (ht3.mono (show 936 ≤ 2280 by omega) (show 936 ≤ 2280 by omega)))
    clear hlt3 hs3 ht3
    go_wp2
    go_ret2
    exact HFIN.out
  · have HS3 := Lib.hid hs3
    have HT3 := Lib.hid ht3
    have HD3 := Lib.hid hd3
    have HK3 := Lib.hid (HK2.out.trans HR3.out.1)
    have hk3 := (HR3.out.1.same _ HF2.out HNE.out).1.trans HK.out
    have d0 := cell_of_row _ _ 0 _ _ (0, 0) hk3
    have d1 := cell_of_row _ _ 1 _ _ (0, 0) hk3
    have d0 : w3.cell? ⟨w1.heap.size + 1, 0, none⟩ = some (.int .i64 32) := d0
    have d1 : w3.cell? ⟨w1.heap.size + 1, 1, none⟩ = some (.int .i64 32) := d1
    have hn3 := ht3.nl
    have HBT := Lib.hid (show Calls Tryz.prog 60 #[.pointer (some ⟨S, 0, none⟩), .int .i64 32, .int .i64 32, .int .u64 v, .func (.func 56) #[] #[]] w3 (SpRes w3 B S km A Mo τ3 (bitsF 32 1 32 v 32) (3 * 32) (3 * 32)) from bits_any hs3 thenF 32 32 v (by omega) (by omega) (by omega) (by omega))
    clear hs3 ht3 hd3 HR3 HSM HS2 HK2 hk3 b0 b1 hn3
    go_upto_region 10 with ((with_reducible refine HBT.out.mono ?_); rintro e w4 hr4; obtain ⟨q4, c4, he4⟩ := hr4.form; have HR4 := Lib.hid hr4; subst he4; clear hr4)
    rcases HR4.out.two with ⟨rfl, rfl, hlt4, τ4, hs4, ht4⟩ | ⟨r4, τ4, rfl, rfl, hs4, ht4, hd4⟩
    · have HFIN := Lib.hid (SpRes.full (F := putF 32 32 v) (HK3.out.trans HR4.out.1) rfl (by have := HT3.out.hl; omega) hs4 ((HT3.out.trans ht4).mono (show 936 + 3 * 32 ≤ 2280 by omega) (show 936 + 3 * 32 ≤ 2280 by omega)))
      clear hlt4 hs4 ht4
      go_wp2
      go_ret2
      exact HFIN.out
    · have HT4 := Lib.hid (HT3.out.trans ht4)
      have HK4 := Lib.hid (HK3.out.trans HR4.out.1)
      have c4 := hs4.sp.c0
      have hn4 := HT4.out.nl
      have HAND := Lib.hid (show Calls Tryz.prog 43 #[.pointer (some ⟨A.a, 0, none⟩), .int .i64 r3, .int .i64 r4] w4 (SpRes w4 B S km A Mo τ4 (putF 32 32 v) 1248 1248) from hs4.and (HD3.out.to ht4 HS3.out.ok hs4.ok) hd4 (a := 1248) (b := 1248) (Grow.wid hs4.ok.wf.two (putF_wid 32 32 v (by omega))) (by omega))
      clear hs4 ht4 hd4 HR4 HBT HS3 HT3 HD3 HK3 hn4
      go_wp2_with ((with_reducible refine HAND.out.mono ?_); rintro e w5 hr5; obtain ⟨q5, c5, he5⟩ := hr5.form; have HR5 := Lib.hid ((hr5.after HT4.out HK4.out).mono (show 936 + 3 * 32 + 1248 ≤ 2280 by omega) (show 936 + 3 * 32 + 1248 ≤ 2280 by omega)); subst he5; clear hr5)
      go_ret2
      exact HR5.out
theorem put2_yes (h : SpOk w B S km A Mo σ) (v : Nat) (hv : v < 256) (hl : σ.N.length + 2280 ≤ 2147483647) :
    Calls Tryz.prog 29 #[.pointer (some ⟨S, 0, none⟩), .int .i64 2, .int .u32 v] w (SpRes w B S km A Mo σ (putF 64 8 v) 2280 2280) := by
  have p0 : ∀ W : World, (W.alloc partsObj).cell? ⟨W.heap.size, 4, none⟩ = some (.int .i64 64) := fun W => (parts_at W 2 (by omega)).1
  have p1 : ∀ W : World, (W.alloc partsObj).cell? ⟨W.heap.size, 5, none⟩ = some (.int .i64 8) := fun W => (parts_at W 2 (by omega)).2
  have HS := Lib.hid h
  have hv1 : ¬ (v : Int) > 255 := by omega
  have hv2 : (v : Int) ≤ 4294967295 := by omega
  clear h
  go_enter Tryz.func29, Tryz.ntmps29
  go_upto_region 5 with (go_at_call 61; (with_reducible refine (parts_any _).mono ?_); rintro e _ ⟨rfl, rfl⟩)
  have HB1 := Lib.hid (below1 w partsObj)
  have HS1 := Lib.hid (HS.out.below HB1.out)
  have HK1 := Lib.hid (HS.out.kept HB1.out)
  clear HS HB1
  generalize w.alloc partsObj = w1 at *
  go_upto_region 6 with (go_at_call 61; (with_reducible refine (parts_any _).mono ?_); rintro e _ ⟨rfl, rfl⟩)
  have HB2 := Lib.hid (below2 w1 partsObj (.cells #[.int .i64 64, .int .i64 8] 89))
  have hk2 := blk1 (w1.alloc partsObj) (.cells #[.int .i64 64, .int .i64 8] 89)
  have hs2 : (w1.alloc partsObj).heap.size = w1.heap.size + 1 := by simp
  rw [hs2] at hk2
  have HF2 := Lib.hid (HS1.out.sp.ar.foreign_new HB2.out (k := w1.heap.size + 1) (by omega) (lt_of_block hk2))
  have HNE : Hid (w1.heap.size + 1 ≠ km) := Lib.hid (by have := HS1.out.sp.fk.1; omega)
  have HS2 := Lib.hid (HS1.out.below HB2.out)
  have HK2 := Lib.hid (HK1.out.trans (HS1.out.kept HB2.out))
  have b0 := cell_of_row _ _ 0 _ _ (0, 0) hk2
  have b1 := cell_of_row _ _ 1 _ _ (0, 0) hk2
  have b0 : ((w1.alloc partsObj).alloc (.cells #[.int .i64 64, .int .i64 8] 89)).cell? ⟨w1.heap.size + 1, 0, none⟩ = some (.int .i64 64) := b0
  have b1 : ((w1.alloc partsObj).alloc (.cells #[.int .i64 64, .int .i64 8] 89)).cell? ⟨w1.heap.size + 1, 1, none⟩ = some (.int .i64 8) := b1
  have HK := Lib.hid hk2
  clear HB2 hk2 hs2 HS1 HK1 p0 p1
  generalize (w1.alloc partsObj).alloc (.cells #[.int .i64 64, .int .i64 8] 89) = w2 at *
  have HSM := Lib.hid (show Calls Tryz.prog 41 #[.pointer (some ⟨S, 0, none⟩), .agg #[.int .i64 64, .int .i64 8]] w2 (SpRes w2 B S km A Mo σ (sameF 64 8 104) 936 936) from same_any HS2.out 64 8 (by omega) (by omega) (by omega))
  go_upto_region 7 with ((with_reducible refine HSM.out.mono ?_); rintro e w3 hr3; obtain ⟨q3, c3, he3⟩ := hr3.form; have HR3 := Lib.hid hr3; subst he3; clear hr3)
  rcases HR3.out.two with ⟨rfl, rfl, hlt3, τ3, hs3, ht3⟩ | ⟨r3, τ3, rfl, rfl, hs3, ht3, hd3⟩
  · have HFIN := Lib.hid (SpRes.full (F := putF 64 8 v) (HK2.out.trans HR3.out.1) rfl (by omega) hs3 (ht3.mono (show 936 ≤ 2280 by omega) (show 936 ≤ 2280 by omega)))
    clear hlt3 hs3 ht3
    go_wp2
    go_ret2
    exact HFIN.out
  · have HS3 := Lib.hid hs3
    have HT3 := Lib.hid ht3
    have HD3 := Lib.hid hd3
    have HK3 := Lib.hid (HK2.out.trans HR3.out.1)
    have hk3 := (HR3.out.1.same _ HF2.out HNE.out).1.trans HK.out
    have d0 := cell_of_row _ _ 0 _ _ (0, 0) hk3
    have d1 := cell_of_row _ _ 1 _ _ (0, 0) hk3
    have d0 : w3.cell? ⟨w1.heap.size + 1, 0, none⟩ = some (.int .i64 64) := d0
    have d1 : w3.cell? ⟨w1.heap.size + 1, 1, none⟩ = some (.int .i64 8) := d1
    have hn3 := ht3.nl
    have HBT := Lib.hid (show Calls Tryz.prog 60 #[.pointer (some ⟨S, 0, none⟩), .int .i64 64, .int .i64 8, .int .u64 v, .func (.func 56) #[] #[]] w3 (SpRes w3 B S km A Mo τ3 (bitsF 64 1 8 v 8) (3 * 8) (3 * 8)) from bits_any hs3 thenF 64 8 v (by omega) (by omega) (by omega) (by omega))
    clear hs3 ht3 hd3 HR3 HSM HS2 HK2 hk3 b0 b1 hn3
    go_upto_region 10 with ((with_reducible refine HBT.out.mono ?_); rintro e w4 hr4; obtain ⟨q4, c4, he4⟩ := hr4.form; have HR4 := Lib.hid hr4; subst he4; clear hr4)
    rcases HR4.out.two with ⟨rfl, rfl, hlt4, τ4, hs4, ht4⟩ | ⟨r4, τ4, rfl, rfl, hs4, ht4, hd4⟩
    · have HFIN := Lib.hid (SpRes.full (F := putF 64 8 v) (HK3.out.trans HR4.out.1) rfl (by have := HT3.out.hl; omega) hs4 ((HT3.out.trans ht4).mono (show 936 + 3 * 8 ≤ 2280 by omega) (show 936 + 3 * 8 ≤ 2280 by omega)))
      clear hlt4 hs4 ht4
      go_wp2
      go_ret2
      exact HFIN.out
    · have HT4 := Lib.hid (HT3.out.trans ht4)
      have HK4 := Lib.hid (HK3.out.trans HR4.out.1)
      have c4 := hs4.sp.c0
      have hn4 := HT4.out.nl
      have HAND := Lib.hid (show Calls Tryz.prog 43 #[.pointer (some ⟨A.a, 0, none⟩), .int .i64 r3, .int .i64 r4] w4 (SpRes w4 B S km A Mo τ4 (putF 64 8 v) 1248 1248) from hs4.and (HD3.out.to ht4 HS3.out.ok hs4.ok) hd4 (a := 1248) (b := 1248) (Grow.wid hs4.ok.wf.two (putF_wid 64 8 v (by omega))) (by omega))
      clear hs4 ht4 hd4 HR4 HBT HS3 HT3 HD3 HK3 hn4
      go_wp2_with ((with_reducible refine HAND.out.mono ?_); rintro e w5 hr5; obtain ⟨q5, c5, he5⟩ := hr5.form; have HR5 := Lib.hid ((hr5.after HT4.out HK4.out).mono (show 936 + 3 * 8 + 1248 ≤ 2280 by omega) (show 936 + 3 * 8 + 1248 ≤ 2280 by omega)); subst he5; clear hr5)
      go_ret2
      exact HR5.out
theorem put3_yes (h : SpOk w B S km A Mo σ) (v : Nat) (hv : v < 65536) (hl : σ.N.length + 2280 ≤ 2147483647) :
    Calls Tryz.prog 29 #[.pointer (some ⟨S, 0, none⟩), .int .i64 3, .int .u32 v] w (SpRes w B S km A Mo σ (putF 72 16 v) 2280 2280) := by
  have p0 : ∀ W : World, (W.alloc partsObj).cell? ⟨W.heap.size, 6, none⟩ = some (.int .i64 72) := fun W => (parts_at W 3 (by omega)).1
  have p1 : ∀ W : World, (W.alloc partsObj).cell? ⟨W.heap.size, 7, none⟩ = some (.int .i64 16) := fun W => (parts_at W 3 (by omega)).2
  have HS := Lib.hid h
  have hv1 : ¬ (v : Int) > 65535 := by omega
  have hv2 : (v : Int) ≤ 4294967295 := by omega
  clear h
  go_enter Tryz.func29, Tryz.ntmps29
  go_upto_region 5 with (go_at_call 61; (with_reducible refine (parts_any _).mono ?_); rintro e _ ⟨rfl, rfl⟩)
  have HB1 := Lib.hid (below1 w partsObj)
  have HS1 := Lib.hid (HS.out.below HB1.out)
  have HK1 := Lib.hid (HS.out.kept HB1.out)
  clear HS HB1
  generalize w.alloc partsObj = w1 at *
  go_upto_region 6 with (go_at_call 61; (with_reducible refine (parts_any _).mono ?_); rintro e _ ⟨rfl, rfl⟩)
  have HB2 := Lib.hid (below2 w1 partsObj (.cells #[.int .i64 72, .int .i64 16] 89))
  have hk2 := blk1 (w1.alloc partsObj) (.cells #[.int .i64 72, .int .i64 16] 89)
  have hs2 : (w1.alloc partsObj).heap.size = w1.heap.size + 1 := by simp
  rw [hs2] at hk2
  have HF2 := Lib.hid (HS1.out.sp.ar.foreign_new HB2.out (k := w1.heap.size + 1) (by omega) (lt_of_block hk2))
  have HNE : Hid (w1.heap.size + 1 ≠ km) := Lib.hid (by have := HS1.out.sp.fk.1; omega)
  have HS2 := Lib.hid (HS1.out.below HB2.out)
  have HK2 := Lib.hid (HK1.out.trans (HS1.out.kept HB2.out))
  have b0 := cell_of_row _ _ 0 _ _ (0, 0) hk2
  have b1 := cell_of_row _ _ 1 _ _ (0, 0) hk2
  have b0 : ((w1.alloc partsObj).alloc (.cells #[.int .i64 72, .int .i64 16] 89)).cell? ⟨w1.heap.size + 1, 0, none⟩ = some (.int .i64 72) := b0
  have b1 : ((w1.alloc partsObj).alloc (.cells #[.int .i64 72, .int .i64 16] 89)).cell? ⟨w1.heap.size + 1, 1, none⟩ = some (.int .i64 16) := b1
  have HK := Lib.hid hk2
  clear HB2 hk2 hs2 HS1 HK1 p0 p1
  generalize (w1.alloc partsObj).alloc (.cells #[.int .i64 72, .int .i64 16] 89) = w2 at *
  have HSM := Lib.hid (show Calls Tryz.prog 41 #[.pointer (some ⟨S, 0, none⟩), .agg #[.int .i64 72, .int .i64 16]] w2 (SpRes w2 B S km A Mo σ (sameF 72 16 104) 936 936) from same_any HS2.out 72 16 (by omega) (by omega) (by omega))
  go_upto_region 7 with ((with_reducible refine HSM.out.mono ?_); rintro e w3 hr3; obtain ⟨q3, c3, he3⟩ := hr3.form; have HR3 := Lib.hid hr3; subst he3; clear hr3)
  rcases HR3.out.two with ⟨rfl, rfl, hlt3, τ3, hs3, ht3⟩ | ⟨r3, τ3, rfl, rfl, hs3, ht3, hd3⟩
  · have HFIN := Lib.hid (SpRes.full (F := putF 72 16 v) (HK2.out.trans HR3.out.1) rfl (by omega) hs3 (ht3.mono (show 936 ≤ 2280 by omega) (show 936 ≤ 2280 by omega)))
    clear hlt3 hs3 ht3
    go_wp2
    go_ret2
    exact HFIN.out
  · have HS3 := Lib.hid hs3
    have HT3 := Lib.hid ht3
    have HD3 := Lib.hid hd3
    have HK3 := Lib.hid (HK2.out.trans HR3.out.1)
    have hk3 := (HR3.out.1.same _ HF2.out HNE.out).1.trans HK.out
    have d0 := cell_of_row _ _ 0 _ _ (0, 0) hk3
    have d1 := cell_of_row _ _ 1 _ _ (0, 0) hk3
    have d0 : w3.cell? ⟨w1.heap.size + 1, 0, none⟩ = some (.int .i64 72) := d0
    have d1 : w3.cell? ⟨w1.heap.size + 1, 1, none⟩ = some (.int .i64 16) := d1
    have hn3 := ht3.nl
    have HBT := Lib.hid (show Calls Tryz.prog 60 #[.pointer (some ⟨S, 0, none⟩), .int .i64 72, .int .i64 16, .int .u64 v, .func (.func 56) #[] #[]] w3 (SpRes w3 B S km A Mo τ3 (bitsF 72 1 16 v 16) (3 * 16) (3 * 16)) from bits_any hs3 thenF 72 16 v (by omega) (by omega) (by omega) (by omega))
    clear hs3 ht3 hd3 HR3 HSM HS2 HK2 hk3 b0 b1 hn3
    go_upto_region 10 with ((with_reducible refine HBT.out.mono ?_); rintro e w4 hr4; obtain ⟨q4, c4, he4⟩ := hr4.form; have HR4 := Lib.hid hr4; subst he4; clear hr4)
    rcases HR4.out.two with ⟨rfl, rfl, hlt4, τ4, hs4, ht4⟩ | ⟨r4, τ4, rfl, rfl, hs4, ht4, hd4⟩
    · have HFIN := Lib.hid (SpRes.full (F := putF 72 16 v) (HK3.out.trans HR4.out.1) rfl (by have := HT3.out.hl; omega) hs4 ((HT3.out.trans ht4).mono (show 936 + 3 * 16 ≤ 2280 by omega) (show 936 + 3 * 16 ≤ 2280 by omega)))
      clear hlt4 hs4 ht4
      go_wp2
      go_ret2
      exact HFIN.out
    · have HT4 := Lib.hid (HT3.out.trans ht4)
      have HK4 := Lib.hid (HK3.out.trans HR4.out.1)
      have c4 := hs4.sp.c0
      have hn4 := HT4.out.nl
      have HAND := Lib.hid (show Calls Tryz.prog 43 #[.pointer (some ⟨A.a, 0, none⟩), .int .i64 r3, .int .i64 r4] w4 (SpRes w4 B S km A Mo τ4 (putF 72 16 v) 1248 1248) from hs4.and (HD3.out.to ht4 HS3.out.ok hs4.ok) hd4 (a := 1248) (b := 1248) (Grow.wid hs4.ok.wf.two (putF_wid 72 16 v (by omega))) (by omega))
      clear hs4 ht4 hd4 HR4 HBT HS3 HT3 HD3 HK3 hn4
      go_wp2_with ((with_reducible refine HAND.out.mono ?_); rintro e w5 hr5; obtain ⟨q5, c5, he5⟩ := hr5.form; have HR5 := Lib.hid ((hr5.after HT4.out HK4.out).mono (show 936 + 3 * 16 + 1248 ≤ 2280 by omega) (show 936 + 3 * 16 + 1248 ≤ 2280 by omega)); subst he5; clear hr5)
      go_ret2
      exact HR5.out
theorem put4_yes (h : SpOk w B S km A Mo σ) (v : Nat) (hv : v < 65536) (hl : σ.N.length + 2280 ≤ 2147483647) :
    Calls Tryz.prog 29 #[.pointer (some ⟨S, 0, none⟩), .int .i64 4, .int .u32 v] w (SpRes w B S km A Mo σ (putF 88 16 v) 2280 2280) := by
  have p0 : ∀ W : World, (W.alloc partsObj).cell? ⟨W.heap.size, 8, none⟩ = some (.int .i64 88) := fun W => (parts_at W 4 (by omega)).1
  have p1 : ∀ W : World, (W.alloc partsObj).cell? ⟨W.heap.size, 9, none⟩ = some (.int .i64 16) := fun W => (parts_at W 4 (by omega)).2
  have HS := Lib.hid h
  have hv1 : ¬ (v : Int) > 65535 := by omega
  have hv2 : (v : Int) ≤ 4294967295 := by omega
  clear h
  go_enter Tryz.func29, Tryz.ntmps29
  go_upto_region 5 with (go_at_call 61; (with_reducible refine (parts_any _).mono ?_); rintro e _ ⟨rfl, rfl⟩)
  have HB1 := Lib.hid (below1 w partsObj)
  have HS1 := Lib.hid (HS.out.below HB1.out)
  have HK1 := Lib.hid (HS.out.kept HB1.out)
  clear HS HB1
  generalize w.alloc partsObj = w1 at *
  go_upto_region 6 with (go_at_call 61; (with_reducible refine (parts_any _).mono ?_); rintro e _ ⟨rfl, rfl⟩)
  have HB2 := Lib.hid (below2 w1 partsObj (.cells #[.int .i64 88, .int .i64 16] 89))
  have hk2 := blk1 (w1.alloc partsObj) (.cells #[.int .i64 88, .int .i64 16] 89)
  have hs2 : (w1.alloc partsObj).heap.size = w1.heap.size + 1 := by simp
  rw [hs2] at hk2
  have HF2 := Lib.hid (HS1.out.sp.ar.foreign_new HB2.out (k := w1.heap.size + 1) (by omega) (lt_of_block hk2))
  have HNE : Hid (w1.heap.size + 1 ≠ km) := Lib.hid (by have := HS1.out.sp.fk.1; omega)
  have HS2 := Lib.hid (HS1.out.below HB2.out)
  have HK2 := Lib.hid (HK1.out.trans (HS1.out.kept HB2.out))
  have b0 := cell_of_row _ _ 0 _ _ (0, 0) hk2
  have b1 := cell_of_row _ _ 1 _ _ (0, 0) hk2
  have b0 : ((w1.alloc partsObj).alloc (.cells #[.int .i64 88, .int .i64 16] 89)).cell? ⟨w1.heap.size + 1, 0, none⟩ = some (.int .i64 88) := b0
  have b1 : ((w1.alloc partsObj).alloc (.cells #[.int .i64 88, .int .i64 16] 89)).cell? ⟨w1.heap.size + 1, 1, none⟩ = some (.int .i64 16) := b1
  have HK := Lib.hid hk2
  clear HB2 hk2 hs2 HS1 HK1 p0 p1
  generalize (w1.alloc partsObj).alloc (.cells #[.int .i64 88, .int .i64 16] 89) = w2 at *
  have HSM := Lib.hid (show Calls Tryz.prog 41 #[.pointer (some ⟨S, 0, none⟩), .agg #[.int .i64 88, .int .i64 16]] w2 (SpRes w2 B S km A Mo σ (sameF 88 16 104) 936 936) from same_any HS2.out 88 16 (by omega) (by omega) (by omega))
  go_upto_region 7 with ((with_reducible refine HSM.out.mono ?_); rintro e w3 hr3; obtain ⟨q3, c3, he3⟩ := hr3.form; have HR3 := Lib.hid hr3; subst he3; clear hr3)
  rcases HR3.out.two with ⟨rfl, rfl, hlt3, τ3, hs3, ht3⟩ | ⟨r3, τ3, rfl, rfl, hs3, ht3, hd3⟩
  · have HFIN := Lib.hid (SpRes.full (F := putF 88 16 v) (HK2.out.trans HR3.out.1) rfl (by omega) hs3 (ht3.mono (show 936 ≤ 2280 by omega) (show 936 ≤ 2280 by omega)))
    clear hlt3 hs3 ht3
    go_wp2
    go_ret2
    exact HFIN.out
  · have HS3 := Lib.hid hs3
    have HT3 := Lib.hid ht3
    have HD3 := Lib.hid hd3
    have HK3 := Lib.hid (HK2.out.trans HR3.out.1)
    have hk3 := (HR3.out.1.same _ HF2.out HNE.out).1.trans HK.out
    have d0 := cell_of_row _ _ 0 _ _ (0, 0) hk3
    have d1 := cell_of_row _ _ 1 _ _ (0, 0) hk3
    have d0 : w3.cell? ⟨w1.heap.size + 1, 0, none⟩ = some (.int .i64 88) := d0
    have d1 : w3.cell? ⟨w1.heap.size + 1, 1, none⟩ = some (.int .i64 16) := d1
    have hn3 := ht3.nl
    have HBT := Lib.hid (show Calls Tryz.prog 60 #[.pointer (some ⟨S, 0, none⟩), .int .i64 88, .int .i64 16, .int .u64 v, .func (.func 56) #[] #[]] w3 (SpRes w3 B S km A Mo τ3 (bitsF 88 1 16 v 16) (3 * 16) (3 * 16)) from bits_any hs3 thenF 88 16 v (by omega) (by omega) (by omega) (by omega))
    clear hs3 ht3 hd3 HR3 HSM HS2 HK2 hk3 b0 b1 hn3
    go_upto_region 10 with ((with_reducible refine HBT.out.mono ?_); rintro e w4 hr4; obtain ⟨q4, c4, he4⟩ := hr4.form; have HR4 := Lib.hid hr4; subst he4; clear hr4)
    rcases HR4.out.two with ⟨rfl, rfl, hlt4, τ4, hs4, ht4⟩ | ⟨r4, τ4, rfl, rfl, hs4, ht4, hd4⟩
    · have HFIN := Lib.hid (SpRes.full (F := putF 88 16 v) (HK3.out.trans HR4.out.1) rfl (by have := HT3.out.hl; omega) hs4 ((HT3.out.trans ht4).mono (show 936 + 3 * 16 ≤ 2280 by omega) (show 936 + 3 * 16 ≤ 2280 by omega)))
      clear hlt4 hs4 ht4
      go_wp2
      go_ret2
      exact HFIN.out
    · have HT4 := Lib.hid (HT3.out.trans ht4)
      have HK4 := Lib.hid (HK3.out.trans HR4.out.1)
      have c4 := hs4.sp.c0
      have hn4 := HT4.out.nl
      have HAND := Lib.hid (show Calls Tryz.prog 43 #[.pointer (some ⟨A.a, 0, none⟩), .int .i64 r3, .int .i64 r4] w4 (SpRes w4 B S km A Mo τ4 (putF 88 16 v) 1248 1248) from hs4.and (HD3.out.to ht4 HS3.out.ok hs4.ok) hd4 (a := 1248) (b := 1248) (Grow.wid hs4.ok.wf.two (putF_wid 88 16 v (by omega))) (by omega))
      clear hs4 ht4 hd4 HR4 HBT HS3 HT3 HD3 HK3 hn4
      go_wp2_with ((with_reducible refine HAND.out.mono ?_); rintro e w5 hr5; obtain ⟨q5, c5, he5⟩ := hr5.form; have HR5 := Lib.hid ((hr5.after HT4.out HK4.out).mono (show 936 + 3 * 16 + 1248 ≤ 2280 by omega) (show 936 + 3 * 16 + 1248 ≤ 2280 by omega)); subst he5; clear hr5)
      go_ret2
      exact HR5.out
end
end Go.Proofs.YtdjikiakcfbklaaGreat

/-
  Sets of numbers as spans: the normal form is told by its members. No program in sight.
-/
namespace Go.Proofs.YtdjikiakcfbklaaGreat

structure SpanV where
  lo : Int
  hi : Int
  hlo : 0 ≤ lo ∧ lo < 4294967296
  hhi : 0 ≤ hi ∧ hi < 4294967296
instance : Inhabited SpanV := ⟨⟨0, 0, by omega, by omega⟩⟩
theorem SpanV.eq {s t : SpanV} (h1 : s.lo = t.lo) (h2 : s.hi = t.hi) : s = t := by
  cases s; cases t; simp_all
def SpanV.inB (s : SpanV) (x : Int) : Bool := decide (s.lo ≤ x) && decide (x ≤ s.hi)
def hasB (L : List SpanV) (x : Int) : Bool := L.any fun s => s.inB x
theorem hasB_iff {L : List SpanV} {x : Int} : hasB L x = true ↔ ∃ s ∈ L, s.lo ≤ x ∧ x ≤ s.hi := by
  simp [hasB, SpanV.inB]
/-- The normal form: rising, none empty, none touching the next. -/
def NF : List SpanV → Prop
  | [] => True
  | s :: r => s.lo ≤ s.hi ∧ (∀ t ∈ r, s.hi + 1 < t.lo) ∧ NF r
theorem NF.ok {L : List SpanV} (h : NF L) : ∀ s ∈ L, s.lo ≤ s.hi := by
  induction L with
  | nil => intro s hs; simp at hs
  | cons t r ih =>
    intro s hs
    rcases List.mem_cons.1 hs with rfl | hs
    · exact h.1
    · exact ih h.2.2 s hs
theorem NF.head {s : SpanV} {r : List SpanV} (h : NF (s :: r)) {x : Int} (hx : hasB (s :: r) x = true) : s.lo ≤ x := by
  obtain ⟨t, ht, h1, h2⟩ := hasB_iff.1 hx
  rcases List.mem_cons.1 ht with rfl | ht
  · exact h1
  · have := h.2.1 t ht
    have := h.1
    omega
theorem NF.unique : ∀ {A B : List SpanV}, NF A → NF B → (∀ x, hasB A x = hasB B x) → A = B
  | [], [], _, _, _ => rfl
  | [], t :: q, _, hB, h => by
    have := h t.lo
    have h2 : hasB (t :: q) t.lo = true := hasB_iff.2 ⟨t, List.mem_cons_self .., by omega, hB.1⟩
    rw [h2] at this
    simp [hasB] at this
  | s :: r, [], hA, _, h => by
    have := h s.lo
    have h2 : hasB (s :: r) s.lo = true := hasB_iff.2 ⟨s, List.mem_cons_self .., by omega, hA.1⟩
    rw [h2] at this
    simp [hasB] at this
  | s :: r, t :: q, hA, hB, h => by
    have a1 : hasB (s :: r) s.lo = true := hasB_iff.2 ⟨s, List.mem_cons_self .., by omega, hA.1⟩
    have b1 : hasB (t :: q) t.lo = true := hasB_iff.2 ⟨t, List.mem_cons_self .., by omega, hB.1⟩
    have l1 := hB.head ((h s.lo).symm.trans a1)
    have l2 := hA.head ((h t.lo).trans b1)
    have hlo : s.lo = t.lo := by omega
    have key : ∀ {s t : SpanV} {r q : List SpanV}, NF (s :: r) → NF (t :: q) → s.lo = t.lo → (∀ x, hasB (s :: r) x = hasB (t :: q) x) → ¬ s.hi < t.hi := by
      intro s t r q hA hB hlo h hlt
      have h1 : hasB (t :: q) (s.hi + 1) = true := hasB_iff.2 ⟨t, List.mem_cons_self .., by have := hA.1; omega, by omega⟩
      obtain ⟨u, hu, h2, h3⟩ := hasB_iff.1 ((h _).trans h1)
      rcases List.mem_cons.1 hu with rfl | hu
      · omega
      · have := hA.2.1 u hu; omega
    have n1 := key hA hB hlo h
    have n2 := key hB hA hlo.symm (fun x => (h x).symm)
    have e : s = t := SpanV.eq hlo (by omega)
    subst e
    have rest : ∀ {s : SpanV} {r : List SpanV}, NF (s :: r) → ∀ x, hasB r x = (hasB (s :: r) x && decide (s.hi < x)) := by
      intro s r hA x
      rw [Bool.eq_iff_iff, Bool.and_eq_true, decide_eq_true_eq, hasB_iff, hasB_iff]
      constructor
      · rintro ⟨u, hu, h1, h2⟩
        have := hA.2.1 u hu
        exact ⟨⟨u, List.mem_cons_of_mem _ hu, h1, h2⟩, by omega⟩
      · rintro ⟨⟨u, hu, h1, h2⟩, h3⟩
        rcases List.mem_cons.1 hu with rfl | hu
        · omega
        · exact ⟨u, hu, h1, h2⟩
    rw [NF.unique hA.2.2 hB.2.2 (fun x => by rw [rest hA x, rest hB x, h x])]

end Go.Proofs.YtdjikiakcfbklaaGreat

/-
  Walks over the layer of spans: the closure of Form, the sort of spans.
-/
namespace Go.Proofs.YtdjikiakcfbklaaGreat
open Go Go.RowKit Go.Lib Go.Sort

def SpanV.enc (s : SpanV) : List Value := [.int .u32 s.lo, .int .u32 s.hi]
theorem span_len (s : SpanV) : s.enc.length = 2 := rfl
def cmpS (x y : SpanV) : Int := firstNZ [cmpI x.lo y.lo, cmpI x.hi y.hi]

set_option maxHeartbeats 1000000 in
theorem formClos_any (x y : SpanV) (w : World) :
    Calls Tryz.prog 106 #[.agg #[.int .u32 x.lo, .int .u32 x.hi], .agg #[.int .u32 y.lo, .int .u32 y.hi]] w fun e w' => e = .returned (.int .i64 (cmpS x y)) ∧ ∃ q os', w' = grow (w.drewN q) os' := by
  have hBX : ∃ os, (w.alloc (.cells #[.int .u32 x.lo, .int .u32 x.hi] 72)).alloc (.cells #[.int .u32 y.lo, .int .u32 y.hi] 72) = grow w os := ⟨_, by rw [alloc_eq_grow, alloc_eq_grow, grow_grow]⟩
  have HB := Lib.hid hBX
  clear hBX
  go_enter Tryz.func106, Tryz.ntmps106
  go_wp2
  obtain ⟨k0, k1⟩ := blk2 w (.cells #[.int .u32 x.lo, .int .u32 x.hi] 72) (.cells #[.int .u32 y.lo, .int .u32 y.hi] 72)
  obtain ⟨c0, c1, _, _⟩ := two_cells k0
  obtain ⟨c2, c3, _, _⟩ := two_cells k1
  have hsz := lt_of_block k1
  clear k0 k1
  obtain ⟨os0, hos⟩ := HB.out
  have HOS := Lib.hid hos
  clear hos HB
  generalize (w.alloc (.cells #[.int .u32 x.lo, .int .u32 x.hi] 72)).alloc (.cells #[.int .u32 y.lo, .int .u32 y.hi] 72) = W at *
  go_region_held3 (fun w' => w'.cell? ⟨w.heap.size, 0, none⟩ = some (.int .u32 x.lo) ∧ w'.cell? ⟨w.heap.size, 1, none⟩ = some (.int .u32 x.hi) ∧ w'.cell? ⟨w.heap.size + 1, 0, none⟩ = some (.int .u32 y.lo) ∧ w'.cell? ⟨w.heap.size + 1, 1, none⟩ = some (.int .u32 y.hi)) (go_keep)
    (first | (go_at_call 108; refine (cmpU32_any _ _ _).mono ?_; rintro e w' ⟨rfl, rfl⟩) | (go_at_call 107; refine (cmpOr_any [cmpI x.lo y.lo, cmpI x.hi y.hi] _ _ (Rd.of_blk (cs := #[.int .i64 (cmpI x.lo y.lo), .int .i64 (cmpI x.hi y.hi)]) (t := 3) (heap_drew (heap_alloc_new _ _)) (Nat.le_refl _) rfl) (by simp)).mono ?_; rintro e w' ⟨rfl, rfl⟩))
  all_goals go_wp2
  go_ret
  refine ⟨rfl, 1, os0 ++ #[.cells #[.int .i64 (cmpI x.lo y.lo), .int .i64 (cmpI x.hi y.hi)] 3], ?_⟩
  rw [HOS.out, alloc_eq_grow, grow_grow]
  rfl

end Go.Proofs.YtdjikiakcfbklaaGreat

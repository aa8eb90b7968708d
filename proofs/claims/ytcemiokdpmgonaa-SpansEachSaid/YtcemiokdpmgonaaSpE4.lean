/-
  A range over a function whose body may break: the rest walked once.
-/
import Derived.Test.YtcemiokdpmgonaaSpE3
import Derived.RangeFuncWrites
namespace Go.Proofs.Ytcemiokdpmgonaa
open Go Go.RowKit Go.Sort
attribute [local go_sem] Oper.semAt_some

theorem blk_keptG {A B : World} {row : Option Nat} {i : Nat} {o : Obj} (h : A.heap[i]? = some o) (ho : o.isCells = true) (hg : A.grownBy B row) (hr : ∀ r, row = some r → ∃ o' : Obj, A.heap[r]? = some o' ∧ o'.isCells = false) : B.heap[i]? = some o := by
  exact (grownBy_keeps_cells hg hr h ho).trans h
theorem rangeG_brk {α : Type} {F : Fence} {n : Nat} {P : Program} {g : Operand} {ps : Array Tmp} {body : Code} {id : Nat} {Q2 : Exit → Act → World → Prop} {a : Act} {w : World}
    (hro : F.round = none) (h1 : 1 ≤ n) {gf : Nat} {lb : Array Value} (hg : a.eval g = .func (.func gf) #[] lb) (hFg : F.fn gf) (eg : ∀ args w, (callFunc gf args).run P w = .ok (.enter gf args) w)
    {encs : α → Array Value} {Kp : World → World → Prop} {S Sp : List α → Prop} {N : Nat} {w0 : World} (hseq : SeqStopsK F (n - 1) P gf lb encs Kp S Sp N w0)
    (hKt : ∀ {A B C : World}, Kp A B → Kp B C → Kp A C) (hKb : ∀ (W : World) (l : Nat) (o o' : Obj), w.heap.size ≤ l → W.heap[l]? = some o → o.isCells = false → o.isWalk = false → Kp W (W.putObj l o')) (hb0 : Below w0.heap.size w0 w) (hps : ∀ x, (encs x).size = ps.size)
    (I Ix : List α → World → Prop) (hI : OwnFrom w.heap.size I) (hIx : OwnFrom w.heap.size Ix) (h0 : I [] w)
    (hbody : ∀ (l : Nat) (pre : List α) (x : α) (W : World), I pre W → pre.length < N → body.wpIn (F.inRound l) (n - 1 - 1) P (ownPostG w.heap.size Kp I (fun c pre W => c = .exit id ∧ Ix pre W) (pre ++ [x]) W) { tmps := (ps.zip (encs x)).foldl (fun t (p, v) => t.setIfInBounds p v) a.tmps, defers := [] } W)
    (hend : ∀ (D : Nat) (xs : List α) (W : World), w.heap.size ≤ D → I xs W ∨ Ix xs W → W.heap[D]? = some (.deferred (some [])) → Q2 .normal { a with defers := { target := .collected D, args := #[] } :: a.defers } W) :
    (Code.rangeFunc g ps .skip body).wpIn F n P (Exit.inBlock id Q2) a w := by
  refine wpIn_rangeFunc_ownG hro h1 hg hFg eg hseq hKt hKb hb0 hps I (fun c pre W => c = .exit id ∧ Ix pre W) hI (fun c => OwnFrom.and (ownFrom_pure _ _) hIx) h0 (fun x => { tmps := (ps.zip (encs x)).foldl (fun t (p, v) => t.setIfInBounds p v) a.tmps, defers := [] }) ?_ hbody ?_ ?_
  · intro l x W K hK
    gi_wp2
    have e : ps.size = (ps.zip (encs x)).size := by simp [hps x]
    rw [e]
    exact hK
  · intro D xs W hD _ hi hk
    exact hend D xs W hD (.inl hi) hk
  · rintro D c pre W hD _ ⟨rfl, hi⟩ hk
    gi_wp2
    exact hend D pre W hD (.inr hi) hk
theorem assign_var {F : Fence} {l n : Nat} {P : Program} {id d p : Nat} {ty : TypeId} {pos : String} (b : Act) (W : World) (K : Act → World → Prop) (hK : K { tmps := b.tmps.setIfInBounds d (b.tmps[p]?.getD undef), defers := b.defers } W) :
    (Code.region id #[{ dst := some d, op := .assign (.tmp p), type := ty, pos := pos, after := #[], guard := none }] false).wpIn (F.inRound l) n P (Exit.then K (fun _ _ _ => False)) b W := by
  gi_wp2
  exact hK
theorem rangeG_var {α : Type} {F : Fence} {n : Nat} {P : Program} {g : Operand} {p d idr : Nat} {ty : TypeId} {pos : String} {body : Code} {Q : Exit → Act → World → Prop} {a : Act} {w : World}
    (hro : F.round = none) (h1 : 1 ≤ n) {gf : Nat} {lb : Array Value} (hg : a.eval g = .func (.func gf) #[] lb) (hFg : F.fn gf) (eg : ∀ args w, (callFunc gf args).run P w = .ok (.enter gf args) w)
    {encs : α → Array Value} {Kp : World → World → Prop} {S Sp : List α → Prop} {N : Nat} {w0 : World} (hseq : SeqStopsK F (n - 1) P gf lb encs Kp S Sp N w0)
    (hKt : ∀ {A B C : World}, Kp A B → Kp B C → Kp A C) (hKb : ∀ (W : World) (l : Nat) (o o' : Obj), w.heap.size ≤ l → W.heap[l]? = some o → o.isCells = false → o.isWalk = false → Kp W (W.putObj l o')) (hb0 : Below w0.heap.size w0 w) (hps : ∀ x, (encs x).size = 1)
    (I : List α → World → Prop) (Ix : Code → List α → World → Prop) (hI : OwnFrom w.heap.size I) (hIx : ∀ c, OwnFrom w.heap.size (Ix c)) (h0 : I [] w)
    (hbody : ∀ (l : Nat) (pre : List α) (x : α) (W : World), I pre W → pre.length < N → body.wpIn (F.inRound l) (n - 1 - 1) P (ownPostG w.heap.size Kp I Ix (pre ++ [x]) W) { tmps := ((#[p].zip (encs x)).foldl (fun t (p, v) => t.setIfInBounds p v) a.tmps).setIfInBounds d (((#[p].zip (encs x)).foldl (fun t (p, v) => t.setIfInBounds p v) a.tmps)[p]?.getD undef), defers := [] } W)
    (hdone : ∀ (D : Nat) (xs : List α) (W : World), w.heap.size ≤ D → S xs → I xs W → W.heap[D]? = some (.deferred (some [])) → Q .normal { a with defers := { target := .collected D, args := #[] } :: a.defers } W)
    (hstop : ∀ (D : Nat) (c : Code) (pre : List α) (W : World), w.heap.size ≤ D → Sp pre → Ix c pre W → W.heap[D]? = some (.deferred (some [])) → c.wpIn F n P Q { a with defers := { target := .collected D, args := #[] } :: a.defers } W) :
    (Code.rangeFunc g #[p] (Code.region idr #[{ dst := some d, op := .assign (.tmp p), type := ty, pos := pos, after := #[], guard := none }] false) body).wpIn F n P Q a w :=
  wpIn_rangeFunc_ownG hro h1 hg hFg eg hseq hKt hKb hb0 hps I Ix hI hIx h0 (fun x => { tmps := ((#[p].zip (encs x)).foldl (fun t (p, v) => t.setIfInBounds p v) a.tmps).setIfInBounds d (((#[p].zip (encs x)).foldl (fun t (p, v) => t.setIfInBounds p v) a.tmps)[p]?.getD undef), defers := [] })
    (fun _ _ _ K hK => assign_var _ _ K hK) hbody hdone hstop
/-- Two marks on the way out. -/
theorem leave_two {F : Fence} {n : Nat} {P : Program} {fn : Func} {tmps : Array Value} {R : Ending → World → Prop} {W : World} {D D2 : Nat} (hK2 : W.heap[D2]? = some (.deferred (some []))) (hK : W.heap[D]? = some (.deferred (some []))) (hne : D ≠ D2)
    (h : LeavesInM F n P fn tmps R [] .returning ((W.putObj D2 (.deferred none)).putObj D (.deferred none))) : LeavesInM F n P fn tmps R [{ target := .collected D2, args := #[] }, { target := .collected D, args := #[] }] .returning W := by
  refine ⟨by simp, .inl ⟨_, _, rfl, run_takeDeferred hK2, ?_⟩⟩
  exact ⟨by simp, .inl ⟨_, _, rfl, run_takeDeferred ((World.putObj_heap_other hne).trans hK), h⟩⟩
end Go.Proofs.Ytcemiokdpmgonaa

/-
  append([]api.Span{}, l...): a new list that is alike.
-/
import Derived.Test.YtcemiokdpmgonaaSp13
import Derived.Test.YtcemiokdpmgonaaSpE
import Derived.Laws.AppendOwnNone
namespace Go.Proofs.Ytcemiokdpmgonaa
open Go Go.RowKit Go.Sort

theorem made_atS (W : World) (e : TypeId) (size : Nat) : (W.alloc (.cells #[] e)).ownsRow W.heap.size e size (.slice (some ⟨W.heap.size, 0, none⟩) 0 0) 0 [] :=
  World.ownsRow_made W #[] 0 (Nat.le_refl _) (Nat.zero_le _) (by simp)
/-- append of a list to a new empty one. -/
theorem wpList_twinS {P : Program} {ops : Array Oper} {rest : List Oper} {o : Oper} {a : Act} {Q : Exit → Act → World → Prop} (hgd : o.guard = none) (s x : Operand) (t : TypeId)
    (ho : o.op = .call { callee := .builtin .append, args := #[s, x], argTypes := #[t, t] })
    (e : TypeId) (i : TypeInfo) (z : Value) (ht : P.underlying t = some (.slice e)) (hi : P.info? e = some i) (hz : i.zero = some z)
    (hsize : i.size = 2) (hby : i.bytes = 8) (hzs : z.cells.size = 2)
    {w0 : World} {g0 : Nat} (hs : a.eval s = .slice (some ⟨g0, 0, none⟩) 0 0) (hg0 : g0 = w0.heap.size) (L : List SpanV) {A : Option Addr} {c : Nat} (hx : a.eval x = .slice A L.length c) (hnil : A = none → c = 0)
    (hrd : Rd w0 w0.heap.size 2 (.slice A L.length c) L.length (scells L)) (hlen : L.length ≤ 1000000)
    (h : ∀ v' w', w'.ownsRow w0.heap.size e 2 v' L.length (scells L) → Below w0.heap.size w0 w' → wpList P ops Q rest (a.put o.dst v') w') : wpList P ops Q (o :: rest) a (w0.alloc (.cells #[] e)) := by
  subst hg0
  have hb1 := below1 w0 (.cells #[] e)
  cases A with
  | none =>
    obtain rfl := hnil rfl
    have hl0 : L = [] := by
      cases L with
      | nil => rfl
      | cons y r => obtain ⟨b, off, c', hv, _⟩ := hrd.pos (by simp); cases hv
    subst hl0
    exact wpList_append_own_none hgd s x t ho w0.heap.size e i 2 ht hi _ 0 [] hs (made_atS w0 e 2) hx (h _ _ (made_atS w0 e 2) hb1)
  | some ad =>
    refine wpList_append_own _ hgd s x t ho w0.heap.size e i z 2 8 ht hi hz hsize hby hzs (by decide) _ 0 [] hs (made_atS w0 e 2) ad L.length c (scells L) hx (scells_len _) ?_ (scells_one _) (by unfold maxLen; omega) (by omega) (by simp) ?_
    · intro j u hu
      have hj : 0 < L.length := by
        have h1 := (List.getElem?_eq_some_iff.1 hu).1
        rw [scells_len] at h1
        omega
      obtain ⟨b, off, c', hv, _, hb, hcell⟩ := hrd.pos hj
      injection hv with hv1 _ hv3
      injection hv1 with hv1
      subst hv1
      exact (hb1.cell (p := ⟨b, off + j, none⟩) (by simpa using hb)).trans (hcell j u hu) |> fun hc => by
        by_cases hj0 : j = 0
        · subst hj0; simpa [Addr.add] using hc
        · simpa [Addr.add, hj0] using hc
    · intro v' w' h2 h3 _
      rw [Nat.zero_add, List.nil_append] at h2
      exact h v' w' h2 (hb1.grown h3 (by simp) (fun k hk => by simp [Value.ownBlock] at hk; omega))
end Go.Proofs.Ytcemiokdpmgonaa

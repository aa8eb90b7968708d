/-
  Joined texts: Ra5, Ra6, Ra8, Ra9, OpenS, Ra10, Ra11.
-/
import Derived.Test.YtbanbommgcjmjaaMRoutesAdverts7
import Derived.Deep.AppendLies
import Derived.Shelf.SlSortCmp.QuietGrown
import Derived.Test.YtbanbommgcjmjaaShelf8
import Derived.Laws.OwnMore
import Derived.Test.YtbanbommgcjmjaaMRoutesAdverts1
import Derived.Deep.Slices
import Derived.ChangeSame
import Derived.Lib.LaidU8
import Derived.OpenShut
import Derived.WideShapes
import Derived.ChangeMaps5
import Derived.Test.YtbanbommgcjmjaaShelf4
/-
  Adverts in memory; their order.
-/
namespace Go.Proofs.Ytbanbommgcjmjaa
open Go Go.RowKit Go.Lib Go.Sort

/-- An advert, and where its lists lie. -/
structure AdX where
  v : AvV
  pA : Option Addr
  pC : Nat
  oA : Option Addr
  oC : Nat
  lA : Option Addr
  lC : Nat
instance : Inhabited AdX := ⟨⟨default, none, 0, none, 0, none, 0⟩⟩
def AdX.p (x : AdX) : Value := .slice x.pA x.v.pa.length x.pC
def AdX.o (x : AdX) : Value := .slice x.oA x.v.co.length x.oC
def AdX.l (x : AdX) : Value := .slice x.lA x.v.cl.length x.lC
def AdX.enc (x : AdX) : List Value := [.int .u32 x.v.a, .int .i64 x.v.m, .int .u32 x.v.ho, .int .i64 x.v.pf, .int .i64 x.v.me, x.p, x.o, .int .u32 x.v.pe, .int .u32 x.v.id, .bool x.v.ex, .int .u32 x.v.og, x.l, .int .i64 x.v.ss]
theorem ad_len (x : AdX) : x.enc.length = 13 := rfl
def adcells (L : List AdX) : List Value := L.flatMap AdX.enc
theorem adcell {L : List AdX} {k i : Nat} {x : AdX} {v : Value} (hr : L[k]? = some x) (hv : x.enc[i]? = some v) : (adcells L)[k * 13 + i]? = some v := flat_get AdX.enc 13 ad_len L k i x v hr hv
theorem adcells_len (L : List AdX) : (adcells L).length = L.length * 13 := flat_len AdX.enc 13 ad_len L
theorem adcells_append (A B : List AdX) : adcells (A ++ B) = adcells A ++ adcells B := by simp [adcells]
theorem aenc_one (r : AdX) : ∀ u ∈ r.enc, u.oneCell' = true := by
  intro u hu
  simp only [AdX.enc, List.mem_cons, List.not_mem_nil, or_false] at hu
  rcases hu with rfl | rfl | rfl | rfl | rfl | rfl | rfl | rfl | rfl | rfl | rfl | rfl | rfl <;> rfl
theorem adcells_oneH (L : List AdX) : ∀ u ∈ adcells L, u.oneCell' = true := by
  intro u hu
  obtain ⟨x, _, hx⟩ := List.mem_flatMap.1 hu
  exact aenc_one x u hx
theorem adcells_snoc (A : List AdX) (s : AdX) : adcells (A ++ [s]) = adcells A ++ s.enc := by simp [adcells]
theorem Try.infoAdvert : (Try.prog.info? 36).map (fun i => (i.zero, i.size, i.bytes)) = some (some (.agg #[.int .u32 0, .int .i64 0, .int .u32 0, .int .i64 0, .int .i64 0, .slice none 0 0, .slice none 0 0, .int .u32 0, .int .u32 0, .bool false, .int .u32 0, .slice none 0 0, .int .i64 0]), 13, 136) := by kernel_rfl
/-- An advert's lists lie in memory. -/
structure AdOk (W : World) (lim : Nat) (x : AdX) : Prop where
  p : Rd W lim 1 x.p x.v.pa.length (x.v.pa.map (Value.int .u32))
  o : Rd W lim 1 x.o x.v.co.length (x.v.co.map (Value.int .u32))
  l : Rd W lim 1 x.l x.v.cl.length (x.v.cl.map (Value.int .u32))
  b : x.v.pa.length * 4 ≤ 140737488355328 ∧ x.v.co.length * 4 ≤ 140737488355328 ∧ x.v.cl.length * 4 ≤ 140737488355328
theorem AdOk.below {W W' : World} {lim : Nat} {x : AdX} (h : AdOk W lim x) (hb : Below lim W W') : AdOk W' lim x := ⟨h.p.below hb, h.o.below hb, h.l.below hb, h.b⟩
theorem AdOk.mono {W : World} {lim lim' : Nat} {x : AdX} (h : AdOk W lim x) (hl : lim ≤ lim') : AdOk W lim' x := ⟨h.p.mono hl, h.o.mono hl, h.l.mono hl, h.b⟩
theorem AdOk.next {W W' : World} {x : AdX} (h : AdOk W W.heap.size x) (hb : Below W.heap.size W W') : AdOk W' W'.heap.size x := (h.below hb).mono hb.size
theorem refAcmpX (x y : AdX) (W : World) (hx : AdOk W W.heap.size x) (hy : AdOk W W.heap.size y) :
    Calls Try.prog 17 #[.agg x.enc.toArray, .agg y.enc.toArray] W fun e w' => e = .returned (.int .i64 (cmpA x.v y.v)) ∧ Below W.heap.size W w' :=
  refAcmp_any x.v y.v x.p x.o x.l y.p y.o y.l W hx.p hy.p hx.o hy.o hx.l hy.l hx.b hy.b
/-- A nil list has no room. -/
structure AdNil (x : AdX) : Prop where
  p : x.pA = none → x.pC = 0
  o : x.oA = none → x.oC = 0
  l : x.lA = none → x.lC = 0
/-- A list of some length lies in another block. -/
def FarV0 (k : Nat) (v : Value) : Prop := ∀ b off n c, v = .slice (some ⟨b, off, none⟩) n c → 0 < n → b ≠ k
theorem FarVW.far0 {k : Nat} {v : Value} (h : FarVW k v) : FarV0 k v := fun b off n c hv _ => h b off n c hv
theorem Rd.far0 {W : World} {lim s k : Nat} {v : Value} {n : Nat} {xs : List Value} (h : Rd W lim s v n xs) (hk : lim ≤ k) : FarV0 k v := by
  rintro b off m c rfl hm
  obtain ⟨A, c', hv, _⟩ := h.form
  injection hv with _ h2 _
  subst h2
  obtain ⟨b', off', c'', hv, _, hb, _⟩ := h.pos hm
  injection hv with hv1 _ _
  injection hv1 with hv1
  injection hv1 with hv1 _ _
  omega
/-- .. and stays as it is while that one is turned. -/
theorem Rd.turned {W W' : World} {lim s n : Nat} {g : Option Nat} {v : Value} {xs : List Value} (h : Rd W lim s v n xs) (hl : lim ≤ W.heap.size) (hg : W.grownBy W' g) (hf : ∀ k, g = some k → FarV0 k v) : Rd W' lim s v n xs := by
  obtain ⟨A, c, hv, hc, hl', hq⟩ := h
  refine ⟨A, c, hv, hc, hl', fun hn => ?_⟩
  obtain ⟨b, off, hA, hB, hcell⟩ := hq hn
  refine ⟨b, off, hA, hB, fun j u hu => ?_⟩
  refine (World.cell?_of_block (a := ⟨b, off + j, none⟩) (hg.block b (by omega) (fun e => ?_))).trans (hcell j u hu)
  exact hf b e.symm b off n c (by rw [hv, hA]) hn rfl
def AdFar (k : Nat) (x : AdX) : Prop := FarV0 k x.p ∧ FarV0 k x.o ∧ FarV0 k x.l
theorem AdOk.far {W : World} {lim k : Nat} {x : AdX} (h : AdOk W lim x) (hk : lim ≤ k) : AdFar k x := ⟨h.p.far0 hk, h.o.far0 hk, h.l.far0 hk⟩
theorem AdOk.turned {W W' : World} {lim : Nat} {g : Option Nat} {x : AdX} (h : AdOk W lim x) (hl : lim ≤ W.heap.size) (hg : W.grownBy W' g) (hf : ∀ k, g = some k → AdFar k x) : AdOk W' lim x :=
  ⟨h.p.turned hl hg fun k hk => (hf k hk).1, h.o.turned hl hg fun k hk => (hf k hk).2.1, h.l.turned hl hg fun k hk => (hf k hk).2.2, h.b⟩
/-- An element of a row of the call's own: its lists lie in memory, not in the row, and in blocks that were not there at the call. -/
structure AdG (W : World) (g : Option Nat) (s : Nat) (x : AdX) : Prop where
  ok : AdOk W W.heap.size x
  far : ∀ k, g = some k → AdFar k x
  new : ∀ k, k < s → AdFar k x
theorem AdG.grown {W W' : World} {g : Option Nat} {s : Nat} {x : AdX} (h : AdG W g s x) (hg : W.grownBy W' g) : AdG W' g s x :=
  ⟨(h.ok.turned (Nat.le_refl _) hg h.far).mono hg.size, h.far, h.new⟩
theorem AdG.next {W W' : World} {g : Option Nat} {s : Nat} {x : AdX} (h : AdG W g s x) (hb : Below W.heap.size W W') : AdG W' g s x := h.grown (only_of_below hb g)
theorem AdG.push {W W' : World} {g : Option Nat} {s g' : Nat} {x : AdX} (h : AdG W g s x) (hg : W.grownBy W' g) (hl : g = some g' ∨ W.heap.size ≤ g') : AdG W' (some g') s x := by
  refine ⟨(h.grown hg).ok, fun k hk => ?_, h.new⟩
  injection hk with hk
  subst hk
  rcases hl with hl | hl
  · exact h.far _ hl
  · exact h.ok.far hl
theorem AdG.none {W : World} {s : Nat} {x : AdX} (h : AdOk W W.heap.size x) (hn : ∀ k, k < s → AdFar k x) : AdG W none s x := ⟨h, (fun _ e => nomatch e), hn⟩
theorem refTwinX (x : AdX) (W : World) (hx : AdOk W W.heap.size x) (hn : AdNil x) :
    Calls Try.prog 11 #[.agg x.enc.toArray] W fun e W' => ∃ y : AdX, y.v = x.v ∧ e = .returned (.agg y.enc.toArray) ∧ AdOk W' W'.heap.size y ∧ (∀ k, k < W.heap.size → AdFar k y) ∧ Below W.heap.size W W' := by
  refine (refTwin_anyW x.v x.pA x.oA x.lA x.pC x.oC x.lC W hx.p hx.o hx.l hn.p hn.o hn.l hx.b).mono ?_
  rintro e W' ⟨up, uo, ul, he, h1, h2, h3, hb, hf⟩
  obtain ⟨A1, C1, rfl, _⟩ := h1.form
  obtain ⟨A2, C2, rfl, _⟩ := h2.form
  obtain ⟨A3, C3, rfl, _⟩ := h3.form
  exact ⟨⟨x.v, A1, C1, A2, C2, A3, C3⟩, rfl, he, ⟨h1, h2, h3, hx.b⟩, fun k hk => ⟨(hf k hk).1.far0, (hf k hk).2.1.far0, (hf k hk).2.2.far0⟩, hb⟩
theorem cmpNs_zero : ∀ l m : List Int, cmpNs l m = 0 ↔ l = m
  | [], [] => by simp [cmpNs]
  | [], _ :: _ => by simp [cmpNs]
  | _ :: _, [] => by simp [cmpNs]
  | x :: l, y :: m => by
    rw [cmpNs]
    by_cases h : cmpI x y = 0
    · rw [if_pos h, cmpNs_zero l m]
      have := cmpI_zero.1 h
      simp [this]
    · rw [if_neg h]
      have hne : x ≠ y := fun e => h (cmpI_zero.2 e)
      simp [h, hne]
theorem cmpA_zero {r s : AvV} : cmpA r s = 0 ↔ r = s := by
  unfold cmpA
  rw [nz_cons, nz_cons, nz_cons, nz_cons, nz_cons, nz_cons, nz_cons, nz_cons, nz_cons, nz_cons, nz_cons, nz_cons, nz_cons, nz_cons]
  simp only [cmpI_zero, cmpB_zero, cmpNs_zero]
  constructor
  · rintro ⟨⟨h1, h2, _⟩, h3, h4, h5, h6, h7, h8, h9, h10, h11, h12, h13, _⟩
    cases r; cases s; simp_all
  · rintro rfl
    simp [firstNZ]
/-- In order, each once. -/
def UpA (L : List AvV) : Prop := L.Pairwise (fun x y => cmpA x y < 0)
theorem up_uniqueA : ∀ {L M : List AvV}, UpA L → UpA M → (∀ x, x ∈ L ↔ x ∈ M) → L = M
  | [], [], _, _, _ => rfl
  | [], y :: M, _, _, h => by have := (h y).2 (List.mem_cons_self ..); simp at this
  | x :: L, [], _, _, h => by have := (h x).1 (List.mem_cons_self ..); simp at this
  | x :: L, y :: M, hL, hM, h => by
    unfold UpA at *
    obtain ⟨hx, hL'⟩ := List.pairwise_cons.1 hL
    obtain ⟨hy, hM'⟩ := List.pairwise_cons.1 hM
    have e : x = y := by
      rcases List.mem_cons.1 ((h x).1 (List.mem_cons_self ..)) with e | e
      · exact e
      · rcases List.mem_cons.1 ((h y).2 (List.mem_cons_self ..)) with e2 | e2
        · exact e2.symm
        · have h1 := hy x e
          have h2 := hx y e2
          have := ord3_A.anti x y
          omega
    subst e
    rw [up_uniqueA hL' hM' (fun z => ?_)]
    have hz := h z
    constructor
    · intro hm
      rcases List.mem_cons.1 (hz.1 (List.mem_cons_of_mem _ hm)) with e | e
      · subst e
        have h1 := hx z hm
        have := ord3_A.self z
        omega
      · exact e
    · intro hm
      rcases List.mem_cons.1 (hz.2 (List.mem_cons_of_mem _ hm)) with e | e
      · subst e
        have h1 := hy z hm
        have := ord3_A.self z
        omega
      · exact e
/-- S is l in order, each once. -/
def SortedA (l S : List AvV) : Prop := UpA S ∧ ∀ x, x ∈ S ↔ x ∈ l
theorem SortedA.eq {l S T : List AvV} (h : SortedA l S) (k : SortedA l T) : S = T := up_uniqueA h.1 k.1 (fun x => (h.2 x).trans (k.2 x).symm)
theorem sorted_nilA : SortedA [] [] := ⟨List.Pairwise.nil, fun x => by simp⟩
theorem sorted_skipA {l R : List AvV} {x : AvV} (h : SortedA l R) (hx : x ∈ R) : SortedA (l ++ [x]) R := by
  refine ⟨h.1, fun y => ?_⟩
  rw [List.mem_append, ← h.2 y]
  constructor
  · exact .inl
  · rintro (h1 | h1)
    · exact h1
    · rw [List.mem_singleton] at h1; rw [h1]; exact hx
theorem sorted_insA {l R : List AvV} {x : AvV} {k : Nat} (h : SortedA l R) (hk : k ≤ R.length) (hg : ∀ (i : Nat) y, k ≤ i → R[i]? = some y → cmpA x y < 0) (hl : 0 < k → ∃ y, R[k - 1]? = some y ∧ 0 < cmpA x y) : SortedA (l ++ [x]) (R.take k ++ x :: R.drop k) := by
  have hU : (R.take k ++ R.drop k).Pairwise (fun x y => cmpA x y < 0) := by rw [List.take_append_drop]; exact h.1
  obtain ⟨hA, hB, hC⟩ := List.pairwise_append.1 hU
  have hd : ∀ y ∈ R.drop k, cmpA x y < 0 := by
    intro y hy
    obtain ⟨i, hi, e⟩ := List.getElem_of_mem hy
    rw [List.getElem_drop] at e
    exact hg (k + i) y (by omega) (by rw [← e]; exact List.getElem?_eq_getElem _)
  have ht : ∀ y ∈ R.take k, cmpA y x < 0 := by
    intro y hy
    obtain ⟨i, hi, e⟩ := List.getElem_of_mem hy
    have hik : i < k := by simp at hi; omega
    rw [List.getElem_take] at e
    obtain ⟨z, hz, hzx⟩ := hl (by omega)
    have h1 := ord3_A.anti x z
    obtain ⟨hz1, hz2⟩ := List.getElem?_eq_some_iff.1 hz
    rcases Nat.eq_or_lt_of_le (show i ≤ k - 1 by omega) with e2 | e2
    · have : y = z := by rw [← e, ← hz2]; congr 1
      rw [this]; omega
    · have := List.pairwise_iff_getElem.1 h.1 i (k - 1) (by omega) hz1 e2
      rw [e, hz2] at this
      exact ord3_A.lt this (by omega)
  refine ⟨List.pairwise_append.2 ⟨hA, List.pairwise_cons.2 ⟨hd, hB⟩, fun a ha b hb => ?_⟩, fun y => ?_⟩
  · rcases List.mem_cons.1 hb with rfl | hb
    · exact ht a ha
    · exact hC a ha b hb
  · have hm : y ∈ R ↔ y ∈ R.take k ∨ y ∈ R.drop k := by rw [← List.mem_append, List.take_append_drop]
    have h2 := h.2 y
    simp only [List.mem_append, List.mem_cons, List.not_mem_nil, or_false, ← h2, hm]
    constructor
    · rintro (h | h | h)
      · exact .inl (.inl h)
      · exact .inr h
      · exact .inl (.inr h)
    · rintro ((h | h) | h)
      · exact .inl h
      · exact .inr (.inr h)
      · exact .inr (.inl h)
theorem splice_lenA {α : Type} {A B C D : List α} (h : B.length = D.length) : splice (A ++ (B ++ C)) A.length D = A ++ (D ++ C) := by
  unfold splice
  rw [List.take_left', ← h, ← List.drop_drop, List.drop_left', List.drop_left'] <;> rfl
/-- The cells behind a copy one place up and a store into the gap. -/
theorem put_cells13 {cur : List Value} {R : List AdX} {k : Nat} (x : AdX) (hk : k ≤ R.length) (z : List Value) (hz : z.length = 13) (h : cur.take ((R.length + 1) * 13) = adcells R ++ z) :
    (splice (splice cur ((k + 1) * 13) (adcells (R.drop k))) (k * 13) x.enc).take ((R.length + 1) * 13) = adcells (R.take k ++ x :: R.drop k) := by
  obtain ⟨A, hA⟩ : ∃ A, A = adcells (R.take k) := ⟨_, rfl⟩
  obtain ⟨D, hD⟩ : ∃ D, D = adcells (R.drop k) := ⟨_, rfl⟩
  have lA : A.length = k * 13 := by rw [hA, adcells_len, List.length_take]; omega
  have lD : D.length = (R.length - k) * 13 := by rw [hD, adcells_len, List.length_drop]
  have hR : adcells R = A ++ D := by rw [hA, hD, ← adcells_append, List.take_append_drop]
  obtain ⟨Z, hZ⟩ : ∃ Z, Z = cur.drop ((R.length + 1) * 13) := ⟨_, rfl⟩
  have hc : cur = A ++ ((D ++ z) ++ Z) := by
    rw [← List.take_append_drop ((R.length + 1) * 13) cur, h, hR, ← hZ]; simp
  obtain ⟨Y, V, hYV, lY⟩ : ∃ Y V, D ++ z = Y ++ V ∧ Y.length = 13 := ⟨(D ++ z).take 13, (D ++ z).drop 13, (List.take_append_drop _ _).symm, by simp; omega⟩
  have lV : V.length = D.length := by
    have := congrArg List.length hYV
    simp only [List.length_append] at this
    omega
  have e1 : cur = (A ++ Y) ++ (V ++ Z) := by rw [hc, hYV]; simp
  have l1 : (k + 1) * 13 = (A ++ Y).length := by rw [List.length_append]; omega
  rw [← hD, e1, l1, splice_lenA lV, List.append_assoc, ← lA, splice_lenA (by rw [lY]; rfl), adcells_append, ← hA, show adcells (x :: R.drop k) = x.enc ++ D from by rw [hD]; rfl]
  have l2 : (R.length + 1) * 13 = (A ++ (x.enc ++ D)).length := by
    simp only [List.length_append, ad_len]; omega
  rw [show A ++ (x.enc ++ (D ++ Z)) = (A ++ (x.enc ++ D)) ++ Z by simp, List.take_left' l2.symm]
end Go.Proofs.Ytbanbommgcjmjaa

/-
  Rows of the call's own: an element is appended, stored, elements are copied: only the row's own block turns; no program.
-/
namespace Go.Proofs.Ytbanbommgcjmjaa
open Go Go.RowKit Go.Lib Go.Sort


theorem grown_refl (w : World) (g : Option Nat) : w.grownBy w g := ⟨rfl, rfl, rfl, Nat.le_refl _, fun _ _ _ => rfl⟩
theorem grown_trans {a b c : World} {row : Option Nat} (h : a.grownBy b row) (k : b.grownBy c row) : a.grownBy c row :=
  ⟨k.os.trans h.os, k.tape.trans h.tape, k.output.trans h.output, Nat.le_trans h.size k.size, fun i hi hne => (k.block i (Nat.lt_of_lt_of_le hi h.size) hne).trans (h.block i hi hne)⟩
theorem below_turned {B g : Nat} {a w w' : World} (h : Below B a w) (hg : w.grownBy w' (some g)) (hB : B ≤ w.heap.size) (hb : B ≤ g) : Below B a w' := h.grown hg hB (fun k hk => by injection hk with hk; omega)
/-- append of one element; where the new row lies. -/
theorem wpList_pushG {P : Program} {ops : Array Oper} {rest : List Oper} {o : Oper} {a : Act} {Q : Exit → Act → World → Prop} (hgd : o.guard = none) (s x : Operand) (t : TypeId)
    (ho : o.op = .call { callee := .builtin .append, args := #[s, x], argTypes := #[t, t] })
    (e : TypeId) (i : TypeInfo) (z : Value) (size bytes : Nat) (ht : P.underlying t = some (.slice e)) (hi : P.info? e = some i) (hz : i.zero = some z)
    (hsize : i.size = size) (hby : i.bytes = bytes) (hzs : z.cells.size = size) (hsz : 0 < size)
    {w0 : World} {base n : Nat} {v : Value} {xs : List Value} (es : List Value) (hs : a.eval s = v) {g0 : Nat} (hx : a.eval x = .slice (some ⟨g0, 0, none⟩) 1 1) (hg0 : g0 = w0.heap.size)
    (hown : w0.ownsRow base e size v n xs) (hes : es.length = size) (h1 : ∀ u ∈ es, u.oneCell' = true) (hn : (n + 1) * bytes ≤ 140737488355328) (hn2 : n ≤ 1099511627776000) (hbase : base ≤ w0.heap.size)
    {B : Nat} {a0 : World} (hb : Below B a0 w0) (hB : B ≤ base)
    (h : ∀ g cap w', w'.ownsRow base e size (.slice (some ⟨g, 0, none⟩) (n + 1) cap) (n + 1) (xs ++ es) → w0.grownBy w' v.ownBlock → (v.ownBlock = some g ∨ w0.heap.size ≤ g) → Below B a0 w' → wpList P ops Q rest (a.put o.dst (.slice (some ⟨g, 0, none⟩) (n + 1) cap)) w') : wpList P ops Q (o :: rest) a (w0.alloc (.cells es.toArray e)) := by
  subst hg0
  refine wpList_append_lies _ hgd s x t ho base e i z size bytes ht hi hz hsize hby hzs hsz v n xs hs (hown.alloc _) ⟨w0.heap.size, 0, none⟩ 1 1 es hx (by omega) (cells_new w0 es e) h1 (by omega) (by unfold maxLen; omega) hn (by simp; omega) _ rfl ?_
  intro g cap w' h2 h3 h4 _
  refine h g cap w' h2 (grown_trans (World.grownBy_alloc w0 _ _) h3) (h4.imp_right fun e => ?_) (below_row (hb.alloc (by omega) _) (hown.alloc _) h3 (by simp; omega) hB)
  rw [e]; simp
/-- .. a store .. -/
theorem wpList_store_G {P : Program} {w : World} {ops : Array Oper} {rest : List Oper} {o : Oper} {a : Act} {Q : Exit → Act → World → Prop} (hgd : o.guard = none) (p v : Operand) (t : TypeId)
    (ho : o.op = .store t p v) (k : Nat) (hsz : ∀ w, (Go.sizeOf t).run P w = .ok k w) (g off : Nat) (hp : a.eval p = .pointer (some ⟨g, off, none⟩)) (V : Value) (hv : a.eval v = V)
    (cur : List Value) (ty : TypeId) (hg : w.heap[g]? = some (.cells cur.toArray ty (0, 0))) (cs : List Value) (hcs : V.cells.toList = cs) (hk : cs.length = k) (hfit : off + cs.length ≤ cur.length) (h1 : ∀ v ∈ cs, v.oneCell' = true)
    (h : ∀ w', Hid (w'.heap[g]? = some (.cells (splice cur off cs).toArray ty (0, 0))) → w.grownBy w' (some g) → wpList P ops Q rest (a.put o.dst undef) w') : wpList P ops Q (o :: rest) a w := by
  refine wpList_plain hgd fun K hK => ?_
  have hst := run_storeCells_at P g off ty cs 0 cur.toArray w hg (by simpa using hfit) h1
  unfold Oper.wp
  have hz : V.cells.size = k := by rw [← Array.length_toList, hcs, hk]
  simp [execOp, ho, hp, hv, Instr.storeAt, Instr.sureAddr, storeVar, hsz, hz, hcs, hst, Result.andThen]
  exact hK _ _ (h _ (show _ = _ by simpa [splice] using setRow_heap w g _ _ ty _ hg) (grown_setRow _ _ _))
/-- .. a copy .. -/
theorem step_copy_G {P : Program} {ops : Array Oper} {o : Oper} {a : Act} {w : World} {K : Act → World → Prop} {Q : Exit → Act → World → Prop} {E : Prop} (hgd : o.guard = none) (d s : Operand) (dT sT : TypeId)
    (ho : o.op = .call { callee := .builtin .copy, args := #[d, s], argTypes := #[dT, sT] }) (elem : TypeId) (hu : P.underlying dT = some (.slice elem)) (k : Nat) (hk : 0 < k) (hsz : (P.info? elem).map (·.size) = some k)
    (dp sp : Option Addr) (dLen dCap sLen sCap : Nat) (hd : a.eval d = .slice dp dLen dCap) (hs : a.eval s = .slice sp sLen sCap)
    (g off : Nat) (cur : List Value) (t : TypeId) (hg : w.heap[g]? = some (.cells cur.toArray t (0, 0))) (cs : List Value) (hn : cs.length = Nat.min sLen dLen * k)
    (hpos : 0 < cs.length → dp = some ⟨g, off, none⟩ ∧ ∃ ad, sp = some ad ∧ ∀ j v, cs[j]? = some v → w.cell? (ad.add j) = some v)
    (hfit : off + cs.length ≤ cur.length) (h1 : ∀ v ∈ cs, v.oneCell' = true) {w0 : World} (hb : w0.grownBy w (some g))
    (h : ∀ w', Hid (w'.heap[g]? = some (.cells (splice cur off cs).toArray t (0, 0))) → w0.grownBy w' (some g) → K (a.put o.dst (goInt (Nat.min sLen dLen))) w') :
    if Region.wanted o (yielded ops a.tmps) = true then Oper.wp P o a w K Q else E := by
  rw [if_pos (by simp [Region.wanted, hgd])]
  unfold Oper.wp
  rcases Nat.eq_zero_or_pos cs.length with h0 | h0
  · obtain rfl : cs = [] := List.eq_nil_of_length_eq_zero h0
    have hz : Nat.min sLen dLen = 0 := by
      rcases Nat.eq_zero_or_pos (Nat.min sLen dLen) with e | e
      · exact e
      · have := Nat.mul_pos e hk
        simp only [List.length_nil] at hn
        omega
    have hr := run_copy_zero (P := P) w dT sT o.type elem k dp sp dLen dCap sLen sCap hu hsz hz
    simp [execOp, ho, resolve, invoke, builtin, hd, hs, hr, Result.andThen]
    have h2 := h w (by show _ = _; simpa [splice] using hg) hb
    rw [hz] at h2
    exact h2
  · obtain ⟨rfl, ad, rfl, hsrc⟩ := hpos h0
    have hr := run_copy_rowK (P := P) w dT sT o.type elem k g off dLen dCap ad sLen sCap cur.toArray t cs hu hsz hg hn hsrc (by simpa using hfit) h1
    simp [execOp, ho, resolve, invoke, builtin, hd, hs, hr, Result.andThen]
    exact h _ (by show _ = _; simpa [splice] using setRow_heap w g _ _ t _ hg) (grown_trans hb (grown_setRow _ _ _))
end Go.Proofs.Ytbanbommgcjmjaa

/-
  The program's CmpAdvert at any two adverts: the world is drawn and grown (written by wip/gen/genra8.py).
-/
namespace Go.Proofs.Ytbanbommgcjmjaa
open Go Go.RowKit Go.Lib Go.Sort

section
variable {P : Program}
theorem wp_region_tail_grown {id : Nat} {Q : Exit → Act → World → Prop} {a : Act} {w : World} {l : List Oper} (n : Nat) (hm : P.follows .mixedOrders = true) (hB : Region.lexTailB .any l.toArray n = true)
    (h : wpQuiet P l.toArray (fun w' => ∃ p : GrownBy, w' = grow (w.drewN p.n) p.os) (fun a' => ∀ w', (∃ p : GrownBy, w' = grow (w.drewN p.n) p.os) → wpList P l.toArray Q (l.drop n) a' w') (l.take n) a) : (Code.region id l.toArray true).wp P Q a w :=
  wp_region_quiet_tail (C := fun w' => ∃ p : GrownBy, w' = grow (w.drewN p.n) p.os) n hm hB ⟨⟨1, #[]⟩, by rw [grow_empty]; rfl⟩ h
end
theorem below_gr (w : World) (n : Nat) (os : Array Obj) : Below w.heap.size w (grow (w.drewN n) os) := GR.below ⟨n, os, rfl⟩
theorem grOf {P : Program} {f : FuncId} {args : Array Value} {w : World} {v : Value} (h : Calls P f args w fun e w' => e = .returned v ∧ w = w') : Calls P f args w fun e w' => e = .returned v ∧ ∃ q os', w' = grow (w.drewN q) os' := h.mono fun _ _ ⟨he, hw⟩ => ⟨he, by rw [← hw]; exact GR.refl w⟩
set_option maxRecDepth 100000 in
set_option maxHeartbeats 8000000 in
theorem cmpAdvert_anyG (r s : AvV) (vp vo vl up uo ul : Value) (w : World) (hp : Rd w w.heap.size 1 vp r.pa.length (r.pa.map (Value.int .u32))) (ho : Rd w w.heap.size 1 vo r.co.length (r.co.map (Value.int .u32))) (hl : Rd w w.heap.size 1 vl r.cl.length (r.cl.map (Value.int .u32)))
    (gp : Rd w w.heap.size 1 up s.pa.length (s.pa.map (Value.int .u32))) (go : Rd w w.heap.size 1 uo s.co.length (s.co.map (Value.int .u32))) (gl : Rd w w.heap.size 1 ul s.cl.length (s.cl.map (Value.int .u32))) (h1 : r.pa.length ≤ 4611686018427387904) (h2 : r.co.length ≤ 4611686018427387904) (h3 : r.cl.length ≤ 4611686018427387904) :
    Calls Try.prog 16 #[.agg #[.int .u32 r.a, .int .i64 r.m, .int .u32 r.ho, .int .i64 r.pf, .int .i64 r.me, vp, vo, .int .u32 r.pe, .int .u32 r.id, .bool r.ex, .int .u32 r.og, vl, .int .i64 r.ss], .agg #[.int .u32 s.a, .int .i64 s.m, .int .u32 s.ho, .int .i64 s.pf, .int .i64 s.me, up, uo, .int .u32 s.pe, .int .u32 s.id, .bool s.ex, .int .u32 s.og, ul, .int .i64 s.ss]] w fun e w' => e = .returned (.int .i64 (cmpA r s)) ∧ GR w w' := by
  have hb0 := below2 w (.cells #[.int .u32 r.a, .int .i64 r.m, .int .u32 r.ho, .int .i64 r.pf, .int .i64 r.me, vp, vo, .int .u32 r.pe, .int .u32 r.id, .bool r.ex, .int .u32 r.og, vl, .int .i64 r.ss] 36) (.cells #[.int .u32 s.a, .int .i64 s.m, .int .u32 s.ho, .int .i64 s.pf, .int .i64 s.me, up, uo, .int .u32 s.pe, .int .u32 s.id, .bool s.ex, .int .u32 s.og, ul, .int .i64 s.ss] 36)
  obtain ⟨k0, k1⟩ := blk2 w (.cells #[.int .u32 r.a, .int .i64 r.m, .int .u32 r.ho, .int .i64 r.pf, .int .i64 r.me, vp, vo, .int .u32 r.pe, .int .u32 r.id, .bool r.ex, .int .u32 r.og, vl, .int .i64 r.ss] 36) (.cells #[.int .u32 s.a, .int .i64 s.m, .int .u32 s.ho, .int .i64 s.pf, .int .i64 s.me, up, uo, .int .u32 s.pe, .int .u32 s.id, .bool s.ex, .int .u32 s.og, ul, .int .i64 s.ss] 36)
  obtain ⟨c0, c1, c2, c3, c4, c5, c6, c7, c8, c9, c10, c11, c12⟩ := cblk13 k0
  obtain ⟨d0, d1, d2, d3, d4, d5, d6, d7, d8, d9, d10, d11, d12⟩ := cblk13 k1
  have hB0 := lt_of_block k0
  have hB1 := lt_of_block k1
  have hBX : GR w ((w.alloc (.cells #[.int .u32 r.a, .int .i64 r.m, .int .u32 r.ho, .int .i64 r.pf, .int .i64 r.me, vp, vo, .int .u32 r.pe, .int .u32 r.id, .bool r.ex, .int .u32 r.og, vl, .int .i64 r.ss] 36)).alloc (.cells #[.int .u32 s.a, .int .i64 s.m, .int .u32 s.ho, .int .i64 s.pf, .int .i64 s.me, up, uo, .int .u32 s.pe, .int .u32 s.id, .bool s.ex, .int .u32 s.og, ul, .int .i64 s.ss] 36)) := ((GR.refl w).alloc _).alloc _
  have KO := Lib.hid (fun n v w h hn => cmpOr_any n v w h hn)
  go_enter Try.func16, Try.ntmps16
  go_upto_region 1 with fail
  clear k0 k1
  generalize (w.alloc (.cells #[.int .u32 r.a, .int .i64 r.m, .int .u32 r.ho, .int .i64 r.pf, .int .i64 r.me, vp, vo, .int .u32 r.pe, .int .u32 r.id, .bool r.ex, .int .u32 r.og, vl, .int .i64 r.ss] 36)).alloc (.cells #[.int .u32 s.a, .int .i64 s.m, .int .u32 s.ho, .int .i64 s.pf, .int .i64 s.me, up, uo, .int .u32 s.pe, .int .u32 s.id, .bool s.ex, .int .u32 s.og, ul, .int .i64 s.ss] 36) = W at *
  have KP := Lib.hid (show ∀ d os, Calls Try.prog 39 #[vp, up] (grow (W.drewN d) os) _ from fun d os => grOf (listU_any r.pa s.pa vp up _ ((hp.below (hb0.trans ((below_gr W d os).mono hb0.size))).mono (hb0.trans ((below_gr W d os).mono hb0.size)).size) ((gp.below (hb0.trans ((below_gr W d os).mono hb0.size))).mono (hb0.trans ((below_gr W d os).mono hb0.size)).size) h1))
  have KC := Lib.hid (show ∀ d os, Calls Try.prog 39 #[vo, uo] (grow (W.drewN d) os) _ from fun d os => grOf (listU_any r.co s.co vo uo _ ((ho.below (hb0.trans ((below_gr W d os).mono hb0.size))).mono (hb0.trans ((below_gr W d os).mono hb0.size)).size) ((go.below (hb0.trans ((below_gr W d os).mono hb0.size))).mono (hb0.trans ((below_gr W d os).mono hb0.size)).size) h2))
  have KL := Lib.hid (show ∀ d os, Calls Try.prog 40 #[vl, ul] (grow (W.drewN d) os) _ from fun d os => grOf (listA_any r.cl s.cl vl ul _ ((hl.below (hb0.trans ((below_gr W d os).mono hb0.size))).mono (hb0.trans ((below_gr W d os).mono hb0.size)).size) ((gl.below (hb0.trans ((below_gr W d os).mono hb0.size))).mono (hb0.trans ((below_gr W d os).mono hb0.size)).size) h3))
  have KQ := Lib.hid (show ∀ V : World, Calls Try.prog 23 #[.agg #[.int .u32 r.a, .int .i64 r.m], .agg #[.int .u32 s.a, .int .i64 s.m]] V _ from fun V => (cmpPrefix_any r.a s.a r.m s.m V).mono fun e w' (h : _ ∧ GR V w') => (⟨h.1, h.2⟩ : _ ∧ ∃ q os', w' = grow (V.drewN q) os'))
  clear hp ho hl gp go gl h1 h2 h3
  have F0 := cell_grown hB0 c0
  have G0 := cell_grown hB1 d0
  have F1 := cell_grown hB0 c1
  have G1 := cell_grown hB1 d1
  have F2 := cell_grown hB0 c2
  have G2 := cell_grown hB1 d2
  have F3 := cell_grown hB0 c3
  have G3 := cell_grown hB1 d3
  have F4 := cell_grown hB0 c4
  have G4 := cell_grown hB1 d4
  have F5 := cell_grown hB0 c5
  have G5 := cell_grown hB1 d5
  have F6 := cell_grown hB0 c6
  have G6 := cell_grown hB1 d6
  have F7 := cell_grown hB0 c7
  have G7 := cell_grown hB1 d7
  have F8 := cell_grown hB0 c8
  have G8 := cell_grown hB1 d8
  have F9 := cell_grown hB0 c9
  have G9 := cell_grown hB1 d9
  have F10 := cell_grown hB0 c10
  have G10 := cell_grown hB1 d10
  have F11 := cell_grown hB0 c11
  have G11 := cell_grown hB1 d11
  have F12 := cell_grown hB0 c12
  have G12 := cell_grown hB1 d12
  refine wp_region_tail_grown 60 (by kernel_rfl) (by kernel_rfl) ?_
  simp only [List.take_succ_cons, List.take_zero, List.drop_succ_cons, List.drop_zero]
  repeat (first | go_big_quiet_step ((first | (go_at_call 26; with_reducible exact Calls.grown_of (grOf (cmpAddr_any _ _ _))) | (go_at_call 25; with_reducible exact Calls.grown_of (grOf (cmpInt_any _ _ _))) | (go_at_call 23; with_reducible exact Calls.grown_of (KQ.out _)) | (go_at_call 28; with_reducible exact Calls.grown_of (grOf (cmpBool_any _ _ _))) | (go_at_call 39; with_reducible exact Calls.grown_of (KP.out _ _)) | (go_at_call 39; with_reducible exact Calls.grown_of (KC.out _ _)) | (go_at_call 40; with_reducible exact Calls.grown_of (KL.out _ _)))) | quiet_step ((first | (go_at_call 26; with_reducible exact Calls.grown_of (grOf (cmpAddr_any _ _ _))) | (go_at_call 25; with_reducible exact Calls.grown_of (grOf (cmpInt_any _ _ _))) | (go_at_call 23; with_reducible exact Calls.grown_of (KQ.out _)) | (go_at_call 28; with_reducible exact Calls.grown_of (grOf (cmpBool_any _ _ _))) | (go_at_call 39; with_reducible exact Calls.grown_of (KP.out _ _)) | (go_at_call 39; with_reducible exact Calls.grown_of (KC.out _ _)) | (go_at_call 40; with_reducible exact Calls.grown_of (KL.out _ _)))))
  refine wpQuiet_nil ?_
  intro W3 hw'
  obtain ⟨⟨nq, osq⟩, hw''⟩ := hw'
  have hb3 : GR W W3 := ⟨nq, osq, hw''⟩
  clear hw''
  have hb4 := hBX.trans hb3
  clear F0 G0 c0 d0 F1 G1 c1 d1 F2 G2 c2 d2 F3 G3 c3 d3 F4 G4 c4 d4 F5 G5 c5 d5 F6 G6 c6 d6 F7 G7 c7 d7 F8 G8 c8 d8 F9 G9 c9 d9 F10 G10 c10 d10 F11 G11 c11 d11 F12 G12 c12 d12 KP KC KL KQ
  go_wp2_with fail
  refine (KO.out [firstNZ [cmpI r.a s.a, cmpI r.m s.m], cmpI r.ss s.ss, cmpI r.pf s.pf, cmpI r.me s.me, cmpI r.ho s.ho, cmpI r.pe s.pe, cmpI r.id s.id, cmpB r.ex s.ex, cmpI r.og s.og, cmpNs r.pa s.pa, cmpNs r.co s.co, cmpNs r.cl s.cl] _ _ (Rd.of_blk (cs := #[.int .i64 (firstNZ [cmpI r.a s.a, cmpI r.m s.m]), .int .i64 (cmpI r.ss s.ss), .int .i64 (cmpI r.pf s.pf), .int .i64 (cmpI r.me s.me), .int .i64 (cmpI r.ho s.ho), .int .i64 (cmpI r.pe s.pe), .int .i64 (cmpI r.id s.id), .int .i64 (cmpB r.ex s.ex), .int .i64 (cmpI r.og s.og), .int .i64 (cmpNs r.pa s.pa), .int .i64 (cmpNs r.co s.co), .int .i64 (cmpNs r.cl s.cl)]) (t := 3) (heap_alloc_new _ _) (Nat.le_refl _) rfl) (by simp)).mono ?_
  rintro e w4 ⟨rfl, rfl⟩
  have hb5 := hb4.alloc (.cells #[.int .i64 (firstNZ [cmpI r.a s.a, cmpI r.m s.m]), .int .i64 (cmpI r.ss s.ss), .int .i64 (cmpI r.pf s.pf), .int .i64 (cmpI r.me s.me), .int .i64 (cmpI r.ho s.ho), .int .i64 (cmpI r.pe s.pe), .int .i64 (cmpI r.id s.id), .int .i64 (cmpB r.ex s.ex), .int .i64 (cmpI r.og s.og), .int .i64 (cmpNs r.pa s.pa), .int .i64 (cmpNs r.co s.co), .int .i64 (cmpNs r.cl s.cl)] 3)
  go_wp2
  go_ret
  exact ⟨rfl, hb5⟩
theorem cmpAX (x y : AdX) (W : World) (hx : AdOk W W.heap.size x) (hy : AdOk W W.heap.size y) :
    Calls Try.prog 16 #[.agg x.enc.toArray, .agg y.enc.toArray] W fun e w' => e = .returned (.int .i64 (cmpA x.v y.v)) ∧ GR W w' :=
  cmpAdvert_anyG x.v y.v x.p x.o x.l y.p y.o y.l W hx.p hx.o hx.l hy.p hy.o hy.l (by have := hx.b; omega) (by have := hx.b; omega) (by have := hx.b; omega)
end Go.Proofs.Ytbanbommgcjmjaa

/-
  slices.Clone at lists of numbers: a list of the call's own.
-/
namespace Go.Proofs.Ytbanbommgcjmjaa
open Go Go.RowKit Go.Lib Go.Sort

/-- What a clone is: a row of its own. -/
def CloneN (t : TypeId) (l : List Int) (w : World) (e : Ending) (w' : World) : Prop :=
  ∃ v', e = .returned v' ∧ w'.ownsRow w.heap.size t 1 v' l.length (l.map (Value.int .u32)) ∧ Below w.heap.size w w'
set_option maxRecDepth 100000 in
set_option maxHeartbeats 1000000 in
theorem cloneU32_any (l : List Int) (v : Value) (w : World) (h : Rd w w.heap.size 1 v l.length (l.map (Value.int .u32))) (hbig : l.length * 4 ≤ 140737488355328) :
    Calls Try.prog 32 #[v] w fun e w' => CloneN 23 l w e w' := by
  obtain ⟨i0, hi, hz0, hz1, hz2⟩ := info_parts Try.infoU32b
  rcases Nat.eq_zero_or_pos l.length with h0 | h0
  · obtain rfl : l = [] := List.eq_nil_of_length_eq_zero h0
    obtain ⟨A, c, rfl, hc⟩ := h.form
    rcases A with _ | ad
    · exact (AnyE.slices_Clone_nil Try.cloneU32 _ c w).mono fun e w' ⟨he, hw⟩ => ⟨_, he, by subst hw; exact owns_nil _ _ _ _, by subst hw; exact Below.refl _ _⟩
    · clear h
      go_enter Try.func32, Try.ntmps32
      have q : ∀ w, (binOp .eql 33 (.slice (some ad) 0 c) (.slice none 0 0)).run Try.prog w = .ok (.bool false) w := fun w => Lib.run_eql_slice_nil w _ _ (some ad) 0 c 0 0 Try.underlying33
      have hmade : (w.alloc (.cells #[] 23)).ownsRow w.heap.size 23 1 (.slice (some ⟨w.heap.size, 0, none⟩) 0 0) 0 [] := World.ownsRow_made w #[] 0 (Nat.le_refl _) (Nat.zero_le _) (by simp)
      have HM := Lib.hid hmade
      clear hmade
      go_wp2
      go_ret
      exact ⟨_, rfl, HM.out, below1 w _⟩
  · obtain ⟨b, off, c, rfl, hc, hbB, hcell⟩ := h.pos h0
    have := AnyE.slices_Clone Try.cloneU32 i0 _ 1 4 hi hz0 hz1 hz2 rfl (by decide) Try.sizeOf23 b off l.length c (l.map (Value.int .u32)) w (by simp) (by unfold maxLen; omega) (by omega) hcell u32_oneW
    exact this.mono fun e w' ⟨v', he, hown, _, hb⟩ => ⟨v', he, hown, hb⟩
set_option maxRecDepth 100000 in
set_option maxHeartbeats 1000000 in
theorem cloneAddr_any (l : List Int) (v : Value) (w : World) (h : Rd w w.heap.size 1 v l.length (l.map (Value.int .u32))) (hbig : l.length * 4 ≤ 140737488355328) :
    Calls Try.prog 33 #[v] w fun e w' => CloneN 24 l w e w' := by
  obtain ⟨i0, hi, hz0, hz1, hz2⟩ := info_parts Try.infoAddrB
  rcases Nat.eq_zero_or_pos l.length with h0 | h0
  · obtain rfl : l = [] := List.eq_nil_of_length_eq_zero h0
    obtain ⟨A, c, rfl, hc⟩ := h.form
    rcases A with _ | ad
    · exact (AnyE.slices_Clone_nil Try.cloneAddr _ c w).mono fun e w' ⟨he, hw⟩ => ⟨_, he, by subst hw; exact owns_nil _ _ _ _, by subst hw; exact Below.refl _ _⟩
    · clear h
      go_enter Try.func33, Try.ntmps33
      have q : ∀ w, (binOp .eql 34 (.slice (some ad) 0 c) (.slice none 0 0)).run Try.prog w = .ok (.bool false) w := fun w => Lib.run_eql_slice_nil w _ _ (some ad) 0 c 0 0 Try.underlying34
      have hmade : (w.alloc (.cells #[] 24)).ownsRow w.heap.size 24 1 (.slice (some ⟨w.heap.size, 0, none⟩) 0 0) 0 [] := World.ownsRow_made w #[] 0 (Nat.le_refl _) (Nat.zero_le _) (by simp)
      have HM := Lib.hid hmade
      clear hmade
      go_wp2
      go_ret
      exact ⟨_, rfl, HM.out, below1 w _⟩
  · obtain ⟨b, off, c, rfl, hc, hbB, hcell⟩ := h.pos h0
    have := AnyE.slices_Clone Try.cloneAddr i0 _ 1 4 hi hz0 hz1 hz2 rfl (by decide) Try.sizeOf24 b off l.length c (l.map (Value.int .u32)) w (by simp) (by unfold maxLen; omega) (by omega) hcell u32_oneW
    exact this.mono fun e w' ⟨v', he, hown, _, hb⟩ => ⟨v', he, hown, hb⟩
end Go.Proofs.Ytbanbommgcjmjaa

/-
  Arguments opened to cells: structs of any depth, slices of structs of any length; no program in sight.
-/
namespace Go.Proofs.Ytbanbommgcjmjaa
open Go Go.RowKit Go.ChangeShapes Go.WideShapes Go.Deep

theorem list_told {α : Type} {Q : Nat → α → Prop} : ∀ n, (∀ i, i < n → ∃ r, Q i r) → ∃ L : List α, L.length = n ∧ ∀ i x, L[i]? = some x → Q i x
  | 0, _ => ⟨[], rfl, fun i x h => by simp at h⟩
  | n + 1, h => by
    obtain ⟨L, hl, hq⟩ := list_told n (fun i hi => h i (by omega))
    obtain ⟨r, hr⟩ := h n (by omega)
    refine ⟨L ++ [r], by simp [hl], fun i x hx => ?_⟩
    by_cases hi : i < L.length
    · rw [List.getElem?_append_left hi] at hx; exact hq i x hx
    · rw [List.getElem?_append_right (by omega)] at hx
      have : i - L.length = 0 := by
        have := (List.getElem?_eq_some_iff.1 hx).1
        simp at this; omega
      rw [this] at hx
      simp at hx
      subst hx
      have : i = n := by omega
      rw [this]; exact hr
theorem flat_inv {α : Type} (enc : α → List Value) (k : Nat) (hk : ∀ x, (enc x).length = k) (L : List α) (j : Nat) (u : Value) (h : (L.flatMap enc)[j]? = some u) :
    ∃ (i jj : Nat) (x : α), j = i * k + jj ∧ jj < k ∧ L[i]? = some x ∧ (enc x)[jj]? = some u := by
  have hj := (List.getElem?_eq_some_iff.1 h).1
  rw [flat_len enc k hk] at hj
  have hk0 : 0 < k := by
    rcases Nat.eq_zero_or_pos k with h0 | h0
    · subst h0; simp at hj
    · exact h0
  have hd : j / k < L.length := Nat.div_lt_of_lt_mul (by rw [Nat.mul_comm]; exact hj)
  have hm := Nat.mod_lt j hk0
  have hdm : j = j / k * k + j % k := by rw [Nat.mul_comm]; exact (Nat.div_add_mod j k).symm
  have hx := List.getElem?_eq_getElem hd
  have hu : (enc L[j / k])[j % k]? = some ((enc L[j / k])[j % k]'(by rw [hk]; exact hm)) := List.getElem?_eq_getElem _
  have hg := flat_get enc k hk L _ _ _ _ hx hu
  rw [← hdm, h] at hg
  exact ⟨j / k, j % k, _, hdm, hm, hx, hu.trans hg.symm⟩

section
variable {H : Type} {enc : TypeId × Value → H} {P : Program} {w : World} {base : Nat} {spare : Nat → Bool} {held : Bool}
theorem sub_at {t : TypeId} {fs : Array Field} {n : Nat} {cs : List Value} {x : DataW H × List MemPlace} (ht : P.underlying t = some (.struct fs)) (h : DataW.trod enc P w base spare held n t cs = some x) :
    cs.length = P.cellsOf t ∧ ∃ m, ∀ (j : Nat) (f : Field) (off : Nat) (ty : TypeId) (k : Nat), fs[j]? = some f → f.offset = off → f.type = ty → P.cellsOf ty = k → ∃ y, DataW.trod enc P w base spare held m ty ((cs.drop off).take k) = some y := by
  obtain ⟨xs, m, _, _, hl, hlen, hf⟩ := DataW.trod_struct ht h
  refine ⟨hl, m, fun j f off ty k hj ho hty hk => ?_⟩
  have h1 := hf j f hj
  have hjl : j < xs.length := by rw [hlen]; exact (Array.getElem?_eq_some_iff.1 hj).1
  subst ho hty hk
  exact ⟨_, h1.trans (List.getElem?_eq_getElem hjl)⟩
/-- A slice as a parameter. -/
theorem open_sl {r : Reach} {b0 : Nat} {t e : TypeId} {v : Value} {d : DataW H} {p : List MemPlace} (hs : P.underlying t = some (.slice e)) (hv : Value.okWide P w r b0 t v) (h : DataW.Trod enc P w base spare held t v d p) :
    ∃ n, DataW.trod enc P w base spare held n t [v] = some (d, p) := by
  obtain ⟨a, len, cap, rfl⟩ := okWide_slice hs hv
  exact h
end

end Go.Proofs.Ytbanbommgcjmjaa

/-
  Rows of structs and the shelf's sort: cells told both ways; the sort of adverts.
-/
namespace Go.Proofs.Ytbanbommgcjmjaa
open Go Go.RowKit Go.Lib Go.Sort

section
variable {α : Type} [Inhabited α] {enc : α → List Value} {k : Nat}
theorem flatK_atG (hk : ∀ x, (enc x).length = k) {L : List α} {j : Nat} {u : Value} (h : (L.flatMap enc)[j]? = some u) : (flatK enc k L.toArray)[j]! = u := by
  have hj := (List.getElem?_eq_some_iff.1 h).1
  rw [flat_len enc k hk] at hj
  rw [get_flatK _ _ _ _ (by simpa using hj)]
  obtain ⟨i, jj, x, rfl, hjj, hx, hu⟩ := flat_inv enc k hk L j u h
  have e1 : (i * k + jj) / k = i := by
    rw [Nat.mul_comm, Nat.mul_add_div (by omega), Nat.div_eq_of_lt hjj, Nat.add_zero]
  have e2 : (i * k + jj) % k = jj := by
    rw [Nat.mul_comm, Nat.mul_add_mod, Nat.mod_eq_of_lt hjj]
  rw [e1, e2]
  have hi := (List.getElem?_eq_some_iff.1 hx)
  have e3 : L.toArray[i]! = x := by
    have := get_bang hi.1
    rw [hx] at this
    injection this with this
    rw [this]
    simp
  rw [e3]
  have := get_bang (List.getElem?_eq_some_iff.1 hu).1
  rw [hu] at this
  injection this with this
  exact this.symm
theorem holdsK_ofG (hk : ∀ x, (enc x).length = k) {L : List α} {w : World} {g off : Nat} (h : ∀ j u, (L.flatMap enc)[j]? = some u → w.cell? ⟨g, off + j, none⟩ = some u) (hf : ∀ j, w.frozen? ⟨g, j, none⟩ = false) : HoldsK enc k w g off L.toArray := by
  intro j hj
  rw [size_flatK] at hj
  have hj' : j < (L.flatMap enc).length := by rw [flat_len enc k hk]; simpa using hj
  refine ⟨?_, hf _⟩
  rw [flatK_atG hk (List.getElem?_eq_getElem hj')]
  exact h j _ (List.getElem?_eq_getElem hj')
theorem cells_of_holdsKG (hk : ∀ x, (enc x).length = k) {d : Array α} {w : World} {g off : Nat} (h : HoldsK enc k w g off d) : ∀ j u, (d.toList.flatMap enc)[j]? = some u → w.cell? ⟨g, off + j, none⟩ = some u := by
  intro j u hu
  have hj := (List.getElem?_eq_some_iff.1 hu).1
  rw [flat_len enc k hk] at hj
  have := (h j (by rw [size_flatK]; simpa using hj)).1
  have e := flatK_atG hk (L := d.toList) hu
  rw [show d.toList.toArray = d by simp] at e
  rw [e] at this
  exact this
theorem grown_sortWorldK {w : World} {g off m : Nat} {d : Array α} {os : Array Obj} : w.grownBy (sortWorldK enc k w g off m d os) (some g) := by
  refine ⟨rfl, rfl, rfl, ?_, fun i hi hne => ?_⟩
  · simp [sortWorldK, grow, putRowK, putRow, mapBlock]
  · have hne : i ≠ g := fun e => hne (by rw [e])
    simp only [sortWorldK, grow, putRowK, putRow, mapBlock]
    rw [Array.getElem?_append_left (by simp; omega), Array.getElem?_modify, if_neg (Ne.symm hne)]
    rfl
/-- The row behind the sort is the call's own still. -/
theorem owns_sortedK {w : World} {base g n c m : Nat} {t : TypeId} {L : List α} {d' : Array α} {os : Array Obj} (hk : ∀ x, (enc x).length = k) (hown : w.ownsRow base t k (.slice (some ⟨g, 0, none⟩) n c) n (L.flatMap enc)) (hH : HoldsK enc k w g 0 L.toArray) (hd : d'.size = n) (hL : L.length = n) :
    (sortWorldK enc k w g 0 m d' os).ownsRow base t k (.slice (some ⟨g, 0, none⟩) n c) n (d'.toList.flatMap enc) := by
  have hlt := (hown.lt g rfl).2
  obtain ⟨cur, hg, hnc, hcm, hcs, ht, hbg⟩ := owns_block hown
  have hK := holdsK_sortWorldK_c (enc := enc) (k := k) (w := w) (blk := g) (off := 0) L.toArray d' m os hH hlt (by simp [hd, hL])
  have hg2 : (sortWorldK enc k w g 0 m d' os).heap[g]? = some (.cells (putCells id 0 (flatK enc k d') cur) t (0, 0)) := by
    simp only [sortWorldK, grow, putRowK, putRow, mapBlock]
    rw [Array.getElem?_append_left (by simp; omega), Array.getElem?_modify, if_pos rfl]
    show Option.map _ w.heap[g]? = _
    rw [hg]
    rfl
  have hsz : (putCells id 0 (flatK enc k d') cur).size = cur.size := by simp [putCells]
  have el := flat_len enc k hk d'.toList
  refine owns_of_block hg2 hnc hcm (by rw [hsz, hcs]) ?_ (by rw [el]; simp [hd]) hbg
  apply List.ext_getElem?
  intro j
  by_cases hj : j < n * k
  · obtain ⟨u, hu⟩ : ∃ u, (d'.toList.flatMap enc)[j]? = some u := ⟨_, List.getElem?_eq_getElem (by rw [el]; simp [hd]; omega)⟩
    have h1 := cells_of_holdsKG hk hK j u hu
    rw [Nat.zero_add, cell_of_row _ g j _ _ (0, 0) hg2] at h1
    rw [List.getElem?_take_of_lt hj, hu, Array.getElem?_toList]
    exact h1
  · rw [List.getElem?_eq_none (Nat.le_trans (by rw [List.length_take]; exact Nat.min_le_left _ _) (by omega : n * k ≤ j)), List.getElem?_eq_none (by rw [el]; simp [hd]; omega)]
end

/-- An advert whose lists lie in memory, and in another block. -/
abbrev AdS (w : World) (g : Nat) := {x : AdX // AdOk w w.heap.size x ∧ AdFar g x}
theorem swoA {w : World} {g : Nat} : SWO (ltOf fun x y : AdS w g => cmpA x.1.v y.1.v) where
  irrefl x := by
    have := ord3_A.self x.1.v
    simp [ltOf, this]
  trans x y z h1 h2 := by
    simp only [ltOf, decide_eq_true_eq] at *
    exact ord3_A.lt h1 (by omega)
  ntrans x y z h1 h2 := by
    simp only [ltOf, decide_eq_false_iff_not] at *
    have a1 := ord3_A.anti x.1.v y.1.v
    have a2 := ord3_A.anti y.1.v z.1.v
    have a3 := ord3_A.anti x.1.v z.1.v
    intro h3
    have h4 := ord3_A.lt h3 (by omega : cmpA z.1.v y.1.v ≤ 0)
    omega
theorem adcellsS {w : World} {g : Nat} (L : List (AdS w g)) : L.flatMap (fun x => x.1.enc) = adcells (L.map Subtype.val) := by
  simp only [adcells, List.flatMap_map]
set_option maxRecDepth 100000 in
set_option maxHeartbeats 1000000 in
theorem sortA_any (R : List AdX) (v : Value) (base s : Nat) (w : World) (hown : w.ownsRow base 36 13 v R.length (adcells R)) (hA : ∀ y ∈ R, AdG w v.ownBlock s y) (hlen : R.length < 4611686018427387904) :
    Calls Try.prog 34 #[v, .func (.func 16) #[] #[]] w fun e w' =>
      e = .returned (.tuple #[]) ∧ ∃ D : List AdX, D.Perm R ∧ D.Pairwise (fun x y => cmpA x.v y.v ≤ 0) ∧ w'.ownsRow base 36 13 v D.length (adcells D) ∧ w.grownBy w' v.ownBlock := by
  rcases Nat.eq_zero_or_pos R.length with h0 | h0
  · obtain rfl : R = [] := List.eq_nil_of_length_eq_zero h0
    obtain ⟨A, c, rfl, _⟩ := owns_form hown
    refine (AnyF.slices_SortFunc_none Try.sortAdvert A c (.func (.func 16) #[] #[]) w).mono fun e w' ⟨he, hw⟩ => ⟨he, [], List.Perm.refl _, List.Pairwise.nil, ?_, ?_⟩
    · subst hw; exact hown
    · subst hw; exact grown_refl _ _
  · obtain ⟨A, c, rfl, hA0⟩ := owns_form hown
    obtain ⟨g, rfl⟩ := hA0 h0
    have hg := hown.lt g rfl
    let L : List (AdS w g) := R.attach.map fun x => ⟨x.1, (hA x.1 x.2).ok, (hA x.1 x.2).far g rfl⟩
    have hLR : L.map Subtype.val = R := by simp [L]
    have hLl : L.length = R.length := by simp [L]
    obtain ⟨x0, hx0⟩ : ∃ x0, L[0]? = some x0 := ⟨_, List.getElem?_eq_getElem (by omega)⟩
    haveI : Inhabited (AdS w g) := ⟨x0⟩
    have hk : ∀ x : AdS w g, ((fun x : AdS w g => x.1.enc) x).length = 13 := fun x => ad_len x.1
    have hcs : adcells R = L.flatMap (fun x => x.1.enc) := by rw [adcellsS, hLR]
    have hown2 : w.ownsRow base 36 13 (.slice (some ⟨g, 0, none⟩) R.length c) R.length (L.flatMap (fun x => x.1.enc)) := hcs ▸ hown
    clear_value L
    have hH : HoldsK (fun x : AdS w g => x.1.enc) 13 w g 0 L.toArray := holdsK_ofG hk (fun j u hu => by
      have := hown2.cells (g := g) rfl j u hu
      have e : (⟨g, 0, none⟩ : Addr).add j = ⟨g, 0 + j, none⟩ := by simp [Addr.add]; omega
      rw [← e]; exact this) (fun j => hown2.frozenAt j)
    have hcmp : CmpLays Try.prog 16 #[] (fun x : AdS w g => x.1.enc) 13 (fun x y => cmpA x.1.v y.1.v) g 0 L.toArray.size w := by
      intro m os dk _ x y
      have hgw : w.grownBy (sortWorldK (fun x : AdS w g => x.1.enc) 13 w g 0 m dk os) (some g) := grown_sortWorldK
      have ok : ∀ x : AdS w g, AdOk (sortWorldK (fun x : AdS w g => x.1.enc) 13 w g 0 m dk os) (sortWorldK (fun x : AdS w g => x.1.enc) 13 w g 0 m dk os).heap.size x.1 := fun x =>
        (x.2.1.turned (Nat.le_refl _) hgw (fun k hk => by injection hk with hk; subst hk; exact x.2.2)).mono hgw.size
      exact cmpAX x.1 y.1 _ (ok x) (ok y)
    have hcon := AnyQ.slices_SortFunc Try.sortAdvert 13 Try.isAgg36 Try.sizeOf36 (fun x : AdS w g => x.1.enc) hk (fun x v hv => aenc_one x.1 v hv) (fun x y => cmpA x.1.v y.1.v) swoA 16 #[] g 0 c L.toArray w (enters_of Try.func16 (by kernel_rfl) rfl) hcmp hH hg.2 (by simp [hLl]; exact hlen)
    rw [List.size_toArray, hLl] at hcon
    change Calls Try.prog 34 _ _ _ at hcon
    refine hcon.mono ?_
    rintro e w' ⟨he, d', n, os, hp, hs, hw⟩
    have hsz : d'.size = R.length := by
      have := hp.1
      simp at this
      omega
    subst hw
    refine ⟨he, d'.toList.map Subtype.val, ?_, ?_, ?_, grown_sortWorldK⟩
    · have := hp.2.2
      rw [← hsz] at this
      have e1 : (d'.extract 0 d'.size).toList = d'.toList := by simp
      have e2 : (L.toArray.extract 0 d'.size).toList = L := by rw [hsz, ← hLl]; simp
      rw [e1, e2] at this
      rw [← hLR]
      exact this.map _
    · rw [List.pairwise_map, List.pairwise_iff_getElem]
      intro i j hi hj hij
      have h1 := hs i j (Nat.zero_le _) hij (by simpa [hsz] using hj)
      have e1 : d'[i]! = d'.toList[i] := by
        have : i < d'.size := by simpa using hi
        simp [this]
      have e2 : d'[j]! = d'.toList[j] := by
        have : j < d'.size := by simpa using hj
        simp [this]
      rw [e1, e2] at h1
      unfold ltOf at h1
      rw [decide_eq_false_iff_not] at h1
      have h2 : ¬ cmpA d'.toList[j].1.v d'.toList[i].1.v < 0 := h1
      have := ord3_A.anti d'.toList[i].1.v d'.toList[j].1.v
      omega
    · have := owns_sortedK (m := n) (os := os) hk hown2 hH hsz hLl
      rw [adcellsS] at this
      rw [show (d'.toList.map Subtype.val).length = R.length by simpa using hsz]
      exact this
end Go.Proofs.Ytbanbommgcjmjaa

/-
  The two literals that ask whether two adverts are the same (written by wip/gen/genra11.py).
-/
namespace Go.Proofs.Ytbanbommgcjmjaa
open Go Go.RowKit Go.Lib Go.Sort

set_option maxRecDepth 100000 in
set_option maxHeartbeats 4000000 in
theorem eqL1 (x y : AdX) (w : World) (hx : AdOk w w.heap.size x) (hy : AdOk w w.heap.size y) :
    Calls Try.prog 36 #[.agg x.enc.toArray, .agg y.enc.toArray] w fun e w' => e = .returned (.bool (cmpA x.v y.v == 0)) ∧ Below w.heap.size w w' := by
  have hb0 := below2 w (.cells #[.int .u32 x.v.a, .int .i64 x.v.m, .int .u32 x.v.ho, .int .i64 x.v.pf, .int .i64 x.v.me, x.p, x.o, .int .u32 x.v.pe, .int .u32 x.v.id, .bool x.v.ex, .int .u32 x.v.og, x.l, .int .i64 x.v.ss] 36) (.cells #[.int .u32 y.v.a, .int .i64 y.v.m, .int .u32 y.v.ho, .int .i64 y.v.pf, .int .i64 y.v.me, y.p, y.o, .int .u32 y.v.pe, .int .u32 y.v.id, .bool y.v.ex, .int .u32 y.v.og, y.l, .int .i64 y.v.ss] 36)
  obtain ⟨k0, k1⟩ := blk2 w (.cells #[.int .u32 x.v.a, .int .i64 x.v.m, .int .u32 x.v.ho, .int .i64 x.v.pf, .int .i64 x.v.me, x.p, x.o, .int .u32 x.v.pe, .int .u32 x.v.id, .bool x.v.ex, .int .u32 x.v.og, x.l, .int .i64 x.v.ss] 36) (.cells #[.int .u32 y.v.a, .int .i64 y.v.m, .int .u32 y.v.ho, .int .i64 y.v.pf, .int .i64 y.v.me, y.p, y.o, .int .u32 y.v.pe, .int .u32 y.v.id, .bool y.v.ex, .int .u32 y.v.og, y.l, .int .i64 y.v.ss] 36)
  obtain ⟨c0, c1, c2, c3, c4, c5, c6, c7, c8, c9, c10, c11, c12⟩ := cblk13 k0
  obtain ⟨d0, d1, d2, d3, d4, d5, d6, d7, d8, d9, d10, d11, d12⟩ := cblk13 k1
  have hx2 := hx.next hb0
  have hy2 := hy.next hb0
  go_enter Try.func36, Try.ntmps36
  go_upto_region 1 with fail
  try rw [show (w.alloc (.cells x.enc.toArray 36)).alloc (.cells y.enc.toArray 36) = (w.alloc (.cells #[.int .u32 x.v.a, .int .i64 x.v.m, .int .u32 x.v.ho, .int .i64 x.v.pf, .int .i64 x.v.me, x.p, x.o, .int .u32 x.v.pe, .int .u32 x.v.id, .bool x.v.ex, .int .u32 x.v.og, x.l, .int .i64 x.v.ss] 36)).alloc (.cells #[.int .u32 y.v.a, .int .i64 y.v.m, .int .u32 y.v.ho, .int .i64 y.v.pf, .int .i64 y.v.me, y.p, y.o, .int .u32 y.v.pe, .int .u32 y.v.id, .bool y.v.ex, .int .u32 y.v.og, y.l, .int .i64 y.v.ss] 36) from rfl]
  generalize (w.alloc (.cells #[.int .u32 x.v.a, .int .i64 x.v.m, .int .u32 x.v.ho, .int .i64 x.v.pf, .int .i64 x.v.me, x.p, x.o, .int .u32 x.v.pe, .int .u32 x.v.id, .bool x.v.ex, .int .u32 x.v.og, x.l, .int .i64 x.v.ss] 36)).alloc (.cells #[.int .u32 y.v.a, .int .i64 y.v.m, .int .u32 y.v.ho, .int .i64 y.v.pf, .int .i64 y.v.me, y.p, y.o, .int .u32 y.v.pe, .int .u32 y.v.id, .bool y.v.ex, .int .u32 y.v.og, y.l, .int .i64 y.v.ss] 36) = W at *
  have HXY := Lib.hid (And.intro hx2 hy2)
  clear hx hy hx2 hy2 k0 k1
  go_wp2_with fail
  refine (cmpAX x y W HXY.out.1 HXY.out.2).mono ?_
  rintro e w1 ⟨rfl, hg⟩
  have hb1 := below_call hb0 hg.below
  clear c0 c1 c2 c3 c4 c5 c6 c7 c8 c9 c10 c11 c12 d0 d1 d2 d3 d4 d5 d6 d7 d8 d9 d10 d11 d12
  go_wp2
  go_ret
  exact ⟨rfl, hb1⟩
theorem eqL1_yes {x y : AdX} {w : World} (hx : AdOk w w.heap.size x) (hy : AdOk w w.heap.size y) (h : x.v = y.v) :
    Calls Try.prog 36 #[.agg x.enc.toArray, .agg y.enc.toArray] w fun e w' => e = .returned (.bool true) ∧ Below w.heap.size w w' :=
  (eqL1 x y w hx hy).mono fun e w' ⟨he, hb⟩ => ⟨by rw [he, cmpA_zero.2 h]; rfl, hb⟩
theorem eqL1_no {x y : AdX} {w : World} (hx : AdOk w w.heap.size x) (hy : AdOk w w.heap.size y) (h : x.v ≠ y.v) :
    Calls Try.prog 36 #[.agg x.enc.toArray, .agg y.enc.toArray] w fun e w' => e = .returned (.bool false) ∧ Below w.heap.size w w' :=
  (eqL1 x y w hx hy).mono fun e w' ⟨he, hb⟩ => ⟨by rw [he]; have h2 : cmpA x.v y.v ≠ 0 := fun e => h (cmpA_zero.1 e); simp [h2], hb⟩
set_option maxRecDepth 100000 in
set_option maxHeartbeats 4000000 in
theorem eqL2 (x y : AdX) (w : World) (hx : AdOk w w.heap.size x) (hy : AdOk w w.heap.size y) :
    Calls Try.prog 38 #[.agg x.enc.toArray, .agg y.enc.toArray] w fun e w' => e = .returned (.bool (cmpA x.v y.v == 0)) ∧ Below w.heap.size w w' := by
  have hb0 := below2 w (.cells #[.int .u32 x.v.a, .int .i64 x.v.m, .int .u32 x.v.ho, .int .i64 x.v.pf, .int .i64 x.v.me, x.p, x.o, .int .u32 x.v.pe, .int .u32 x.v.id, .bool x.v.ex, .int .u32 x.v.og, x.l, .int .i64 x.v.ss] 36) (.cells #[.int .u32 y.v.a, .int .i64 y.v.m, .int .u32 y.v.ho, .int .i64 y.v.pf, .int .i64 y.v.me, y.p, y.o, .int .u32 y.v.pe, .int .u32 y.v.id, .bool y.v.ex, .int .u32 y.v.og, y.l, .int .i64 y.v.ss] 36)
  obtain ⟨k0, k1⟩ := blk2 w (.cells #[.int .u32 x.v.a, .int .i64 x.v.m, .int .u32 x.v.ho, .int .i64 x.v.pf, .int .i64 x.v.me, x.p, x.o, .int .u32 x.v.pe, .int .u32 x.v.id, .bool x.v.ex, .int .u32 x.v.og, x.l, .int .i64 x.v.ss] 36) (.cells #[.int .u32 y.v.a, .int .i64 y.v.m, .int .u32 y.v.ho, .int .i64 y.v.pf, .int .i64 y.v.me, y.p, y.o, .int .u32 y.v.pe, .int .u32 y.v.id, .bool y.v.ex, .int .u32 y.v.og, y.l, .int .i64 y.v.ss] 36)
  obtain ⟨c0, c1, c2, c3, c4, c5, c6, c7, c8, c9, c10, c11, c12⟩ := cblk13 k0
  obtain ⟨d0, d1, d2, d3, d4, d5, d6, d7, d8, d9, d10, d11, d12⟩ := cblk13 k1
  have hx2 := hx.next hb0
  have hy2 := hy.next hb0
  go_enter Try.func38, Try.ntmps38
  go_upto_region 1 with fail
  try rw [show (w.alloc (.cells x.enc.toArray 36)).alloc (.cells y.enc.toArray 36) = (w.alloc (.cells #[.int .u32 x.v.a, .int .i64 x.v.m, .int .u32 x.v.ho, .int .i64 x.v.pf, .int .i64 x.v.me, x.p, x.o, .int .u32 x.v.pe, .int .u32 x.v.id, .bool x.v.ex, .int .u32 x.v.og, x.l, .int .i64 x.v.ss] 36)).alloc (.cells #[.int .u32 y.v.a, .int .i64 y.v.m, .int .u32 y.v.ho, .int .i64 y.v.pf, .int .i64 y.v.me, y.p, y.o, .int .u32 y.v.pe, .int .u32 y.v.id, .bool y.v.ex, .int .u32 y.v.og, y.l, .int .i64 y.v.ss] 36) from rfl]
  generalize (w.alloc (.cells #[.int .u32 x.v.a, .int .i64 x.v.m, .int .u32 x.v.ho, .int .i64 x.v.pf, .int .i64 x.v.me, x.p, x.o, .int .u32 x.v.pe, .int .u32 x.v.id, .bool x.v.ex, .int .u32 x.v.og, x.l, .int .i64 x.v.ss] 36)).alloc (.cells #[.int .u32 y.v.a, .int .i64 y.v.m, .int .u32 y.v.ho, .int .i64 y.v.pf, .int .i64 y.v.me, y.p, y.o, .int .u32 y.v.pe, .int .u32 y.v.id, .bool y.v.ex, .int .u32 y.v.og, y.l, .int .i64 y.v.ss] 36) = W at *
  have HXY := Lib.hid (And.intro hx2 hy2)
  clear hx hy hx2 hy2 k0 k1
  go_wp2_with fail
  refine (cmpAX x y W HXY.out.1 HXY.out.2).mono ?_
  rintro e w1 ⟨rfl, hg⟩
  have hb1 := below_call hb0 hg.below
  clear c0 c1 c2 c3 c4 c5 c6 c7 c8 c9 c10 c11 c12 d0 d1 d2 d3 d4 d5 d6 d7 d8 d9 d10 d11 d12
  go_wp2
  go_ret
  exact ⟨rfl, hb1⟩
theorem eqL2_yes {x y : AdX} {w : World} (hx : AdOk w w.heap.size x) (hy : AdOk w w.heap.size y) (h : x.v = y.v) :
    Calls Try.prog 38 #[.agg x.enc.toArray, .agg y.enc.toArray] w fun e w' => e = .returned (.bool true) ∧ Below w.heap.size w w' :=
  (eqL2 x y w hx hy).mono fun e w' ⟨he, hb⟩ => ⟨by rw [he, cmpA_zero.2 h]; rfl, hb⟩
theorem eqL2_no {x y : AdX} {w : World} (hx : AdOk w w.heap.size x) (hy : AdOk w w.heap.size y) (h : x.v ≠ y.v) :
    Calls Try.prog 38 #[.agg x.enc.toArray, .agg y.enc.toArray] w fun e w' => e = .returned (.bool false) ∧ Below w.heap.size w w' :=
  (eqL2 x y w hx hy).mono fun e w' ⟨he, hb⟩ => ⟨by rw [he]; have h2 : cmpA x.v y.v ≠ 0 := fun e => h (cmpA_zero.1 e); simp [h2], hb⟩
end Go.Proofs.Ytbanbommgcjmjaa

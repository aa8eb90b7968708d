/-
  Lemmas for the walk of the law RoutesSort: what its memory holds.
-/
import Derived.Test.YtlhafehhkjjchaaRo8
import Derived.Deep.CutBlock
namespace Go.Proofs.Ytlhafehhkjjchaa
open Go Go.RowKit Go.Lib Go.Sort

/-- As wpList_push2, at elements of at most 128 bytes. -/
theorem wpList_push3 {P : Program} {ops : Array Oper} {rest : List Oper} {o : Oper} {a : Act} {Q : Exit → Act → World → Prop} (hgd : o.guard = none) (s x : Operand) (t : TypeId)
    (ho : o.op = .call { callee := .builtin .append, args := #[s, x], argTypes := #[t, t] })
    (e : TypeId) (i : TypeInfo) (z : Value) (size bytes : Nat) (ht : P.underlying t = some (.slice e)) (hi : P.info? e = some i) (hz : i.zero = some z)
    (hsize : i.size = size) (hby : i.bytes = bytes) (hzs : z.cells.size = size) (hsz : 0 < size) (hb64 : bytes ≤ 128)
    {w0 : World} {base n : Nat} {v : Value} {xs : List Value} (es : List Value) (hs : a.eval s = v) {g0 : Nat} (hx : a.eval x = .slice (some ⟨g0, 0, none⟩) 1 1) (hg0 : g0 = w0.heap.size)
    (hown : w0.ownsRow base e size v n xs) (hes : es.length = size) (h1 : ∀ u ∈ es, u.oneCell' = true) (hn : n ≤ 549755813888) (hbase : base ≤ w0.heap.size)
    (h : ∀ v' w', w'.ownsRow base e size v' (n + 1) (xs ++ es) → w0.grownBy w' v.ownBlock → Moved v v' w0.heap.size → wpList P ops Q rest (a.put o.dst v') w') : wpList P ops Q (o :: rest) a (w0.alloc (.cells es.toArray e)) := by
  subst hg0
  have hb2 : (n + 1) * bytes ≤ 140737488355328 :=
    calc (n + 1) * bytes ≤ (549755813888 + 1) * 128 := Nat.mul_le_mul (by omega) hb64
      _ ≤ 140737488355328 := by decide
  have hownA := hown.alloc (.cells es.toArray e)
  have hgA : w0.grownBy (w0.alloc (.cells es.toArray e)) none := World.grownBy_alloc w0 _ none
  have hnew := cells_new w0 es e
  rcases hown.2 with ⟨rfl, rfl⟩ | ⟨g, cap, cur, rfl, hbg, hg, hnc, hcm, hcs, htake⟩
  · obtain rfl : xs = [] := List.eq_nil_of_length_eq_zero (by have := hown.1; omega)
    refine wpList_append_grows _ hgd s x t ho e i z size bytes ht hi hz hsize hby hzs hsz none 0 0 [] hs (fun _ => ⟨rfl, rfl⟩) (by simp) (fun b hb => by cases hb) ⟨w0.heap.size, 0, none⟩ 1 1 es hx (by omega) hnew h1 (by omega) (by unfold maxLen; omega) hb2 ?_
    intro v' w' h2 h3
    refine h v' w' (owns_base h2 (by simp; omega)) (grown_none (hgA.trans h3) _) (.inr fun g hg => ?_)
    have := (h2.lt g hg).1
    simp at this; omega
  · by_cases hroom : n + 1 ≤ cap
    · obtain ⟨w', hr, h2, h3⟩ := run_append_fits (P := P) _ base t o.type e i size ht hi hsize g n cap xs hownA ⟨w0.heap.size, 0, none⟩ 1 1 es (by omega) hnew h1 hroom
      refine wpList_plain hgd fun K hK => ?_
      unfold Oper.wp execOp
      simp only [ho, resolve, invoke, builtin, Sem.run_bind, Sem.run_pure, Result.andThen_ok, List.map_toArray, List.map_cons, List.map_nil, hs, hx, hr]
      exact hK _ _ (h _ w' h2 ((grown_none hgA _).trans h3) (.inl rfl))
    · refine wpList_append_grows _ hgd s x t ho e i z size bytes ht hi hz hsize hby hzs hsz (some ⟨g, 0, none⟩) n cap xs hs (fun hh => by cases hh) hown.1 (fun b hb j u hu => ?_) ⟨w0.heap.size, 0, none⟩ 1 1 es hx (by omega) hnew h1 (by omega) (by unfold maxLen; omega) hb2 ?_
      · injection hb with hb
        subst hb
        exact hownA.cells rfl j u hu
      · intro v' w' h2 h3
        refine h v' w' (owns_base h2 (by simp; omega)) (grown_none (hgA.trans h3) _) (.inr fun g hg => ?_)
        have := (h2.lt g hg).1
        simp at this; omega
def rt7 : RouteV := ⟨0, 0, 0, 7, 0, 0, ByteArray.empty, 0, false⟩
theorem made_rowR (W : World) (n : Nat) (hn : W.heap.size = n) (base : Nat) (hb : base ≤ n) : (W.alloc (.cells #[] 28)).ownsRow base 28 9 (.slice (some ⟨n, 0, none⟩) 0 0) 0 [] := by
  subst hn
  exact World.ownsRow_made W #[] 0 hb (Nat.zero_le _) (by simp)
theorem srcR_of {w W : World} {B n c k9 : Nat} {ad : Addr} {xs : List Value} (h : Rd w B k9 (.slice (some ad) n c) n xs) (hl : n ≠ 0) (hb : Below B w W) : ∀ (k : Nat) (u : Value), xs[k]? = some u → W.cell? (ad.add k) = some u := by
  intro k u hu
  obtain ⟨b2, o2, c2, hv, _, _, hcell⟩ := (h.below hb).pos (by omega)
  injection hv with hv _ _
  injection hv with hv
  subst hv
  have e : (⟨b2, o2, none⟩ : Addr).add k = ⟨b2, o2 + k, none⟩ := by simp [Addr.add]
  rw [e]; exact hcell k u hu
theorem own_cutR {W : World} {base gi ci n : Nat} {L : List RouteV} {s : RouteV} (h : W.ownsRow base 28 9 (.slice (some ⟨gi, 0, none⟩) (n + 1) ci) (n + 1) (rvcells (L ++ [s]))) (hn : n = L.length) : Rd W W.heap.size 9 (.slice (some ⟨gi, 0, none⟩) n ci) L.length (rvcells L) := by
  subst hn
  obtain ⟨cur, hh, hnc, _, _, ht, _⟩ := owns_block h
  refine ⟨_, ci, rfl, by omega, rvcells_len L, fun _ => ⟨gi, 0, rfl, lt_of_block hh, fun j u hu => ?_⟩⟩
  have hj := (List.getElem?_eq_some_iff.1 hu).1
  rw [rvcells_len] at hj
  rw [Nat.zero_add, h.cellAt j (by omega), rvcells_append, List.getElem?_append_left (by rw [rvcells_len]; exact hj)]
  exact hu
theorem own_roomR {W : World} {base gi ci n : Nat} {xs : List Value} (h : W.ownsRow base 28 9 (.slice (some ⟨gi, 0, none⟩) (n + 1) ci) (n + 1) xs) : n + 1 ≤ ci := by
  obtain ⟨cur, hh, hnc, _⟩ := owns_block h
  exact hnc
theorem own_segR {WG wr : World} {m m' lo hi n : Nat} {v : Value} {xs : List Value} (h : WG.ownsRow m 28 9 v n xs) (hlt : ∀ g, v.ownBlock = some g → g < m') (hm' : m' ≤ hi) (hs : Seg lo hi WG wr) (hlo : lo ≤ m) : wr.ownsRow m 28 9 v n xs := by
  obtain ⟨hl, h2⟩ := h
  rcases h2 with h2 | ⟨g, cap, cur, rfl, hg, hh, r⟩
  · exact ⟨hl, .inl h2⟩
  · have := hlt g rfl
    exact ⟨hl, .inr ⟨g, cap, cur, rfl, hg, (hs g (by omega) (by omega)).trans hh, r⟩⟩
theorem rd_upR {w w' : World} {k n : Nat} {v : Value} {xs : List Value} (h : Rd w w.heap.size k v n xs) (hb : Below w.heap.size w w') : Rd w' w'.heap.size k v n xs := (h.below hb).mono hb.size
/-- While the first answer is written over and grows: nothing below lo turns, nor what lies from lo2 up to hi. -/
def A1 (W1 : World) (lo lo2 hi : Nat) (v : Value) (n : Nat) (wx : World) : Prop :=
  (∃ xs, wx.ownsRow lo 28 9 v n xs) ∧ Off v lo2 hi ∧ Seg lo2 hi W1 wx ∧ Below lo W1 wx ∧ hi ≤ wx.heap.size
theorem A1.store {W1 wx : World} {lo lo2 hi g n c i : Nat} {u : Value} (h : A1 W1 lo lo2 hi (.slice (some ⟨g, 0, none⟩) n c) n wx) : A1 W1 lo lo2 hi (.slice (some ⟨g, 0, none⟩) n c) n (wx.setCell ⟨g, i, none⟩ u) := by
  obtain ⟨⟨xs, ho⟩, hoff, hs, hb, hsz⟩ := h
  have h1 := (ho.lt g rfl).1
  refine ⟨⟨_, (ho.stored i u).1⟩, hoff, fun b b1 b2 => (Below.heap_setCell wx ⟨g, i, none⟩ u b (by show b ≠ g; rcases hoff g rfl with h | h <;> omega)).trans (hs b b1 b2), hb.setCell (p := ⟨g, i, none⟩) h1 _, by simpa [World.setCell] using hsz⟩
theorem A1.push {W1 wx w3 : World} {lo lo2 hi n : Nat} {v v' : Value} {ys : List Value} (h : A1 W1 lo lo2 hi v n wx) (hmw : lo ≤ W1.heap.size)
    (ho : w3.ownsRow lo 28 9 v' (n + 1) ys) (hgr : wx.grownBy w3 v.ownBlock) (hmv : Moved v v' wx.heap.size) : A1 W1 lo lo2 hi v' (n + 1) w3 := by
  obtain ⟨⟨xs, ho1⟩, hoff, hs, hb, hlt⟩ := h
  exact ⟨⟨ys, ho⟩, hoff.moved hmv hlt, hs.grown hgr hoff hlt, below_row hb ho1 hgr (by have := hb.size; omega) (Nat.le_refl _), by have := hgr.size; omega⟩
theorem A1.up {W1 wx w' : World} {lo lo2 hi n : Nat} {v : Value} (h : A1 W1 lo lo2 hi v n wx) (hmw : lo ≤ W1.heap.size) (hb : Below wx.heap.size wx w') : A1 W1 lo lo2 hi v n w' := by
  obtain ⟨⟨xs, ho1⟩, hoff, hs, hb1, hlt⟩ := h
  exact ⟨⟨xs, owns_kept_none ho1 (only_of_below hb none)⟩, hoff, hs.below hb hlt, hb1.trans (hb.mono (by have := hb1.size; omega)), by have := hb.size; omega⟩
end Go.Proofs.Ytlhafehhkjjchaa

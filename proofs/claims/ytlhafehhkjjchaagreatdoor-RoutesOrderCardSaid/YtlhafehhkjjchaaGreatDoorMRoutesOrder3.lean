/-
  Joined texts: AvOrd, Kit3, Kit4, RowS, Ro4, SpMath, Sp1, OpenS, Sp2.
-/
import Derived.Test.YtlhafehhkjjchaaGreatDoorMRoutesOrder2
import Derived.Test.YtlhafehhkjjchaaGreatDoorMRoutesOrder1
import Derived.Laws.OwnMore
import Derived.ArgAppend
import Derived.Laws.CopyOwn
import Derived.Test.YtlhafehhkjjchaaGreatDoorShelf4
import Derived.Deep.RegionHeld3
import Derived.Deep.Slices
import Derived.ChangeSame
import Derived.Lib.LaidU8
import Derived.OpenShut
import Derived.WideShapes
import Derived.ChangeMaps5
/-
  The order of adverts: plain laws.
-/
namespace Go.Proofs.YtlhafehhkjjchaaGreatDoor
open Go Go.RowKit Go.Lib Go.Sort

/-- A comparison's answer. -/
def Sg (x : Int) : Prop := x = -1 ∨ x = 0 ∨ x = 1
theorem sg_I (x y : Int) : Sg (cmpI x y) := by
  rcases Int.lt_trichotomy x y with h | h | h
  · exact .inl (cmpI_lt h)
  · subst h; exact .inr (.inl (cmpI_eq x))
  · exact .inr (.inr (cmpI_gt h))
theorem sg_B (x y : Bool) : Sg (cmpB x y) := by cases x <;> cases y <;> simp [cmpB, Sg]
theorem sg_S (s t : ByteArray) : Sg (cmpSt s t) := by
  unfold cmpSt Sg
  split
  · exact .inl rfl
  · split
    · exact .inr (.inl rfl)
    · exact .inr (.inr rfl)
theorem sg_L : ∀ l m : List Int, Sg (cmpNs l m)
  | [], [] => .inr (.inl rfl)
  | [], _ :: _ => .inl rfl
  | _ :: _, [] => .inr (.inr rfl)
  | x :: l, y :: m => by
    rw [cmpNs]
    split
    · exact sg_L l m
    · exact sg_I x y
theorem sg_first : ∀ l : List Int, (∀ x ∈ l, Sg x) → Sg (firstNZ l)
  | [], _ => .inr (.inl rfl)
  | x :: l, h => by
    rw [firstNZ_cons]
    split
    · exact sg_first l fun y hy => h y (List.mem_cons_of_mem _ hy)
    · exact h x List.mem_cons_self
theorem sg_two {x y : Int} (hx : Sg x) (hy : Sg y) : Sg (firstNZ [x, y]) := sg_first _ (by
  intro z hz
  simp only [List.mem_cons, List.not_mem_nil, or_false] at hz
  rcases hz with rfl | rfl <;> assumption)
theorem sg_R (r s : RouteV) : Sg (cmpR r s) := by
  unfold cmpR
  refine sg_first _ fun x hx => ?_
  simp only [List.mem_cons, List.not_mem_nil, or_false] at hx
  rcases hx with rfl | rfl | rfl | rfl | rfl | rfl | rfl | rfl <;> first | exact sg_two (sg_I _ _) (sg_I _ _) | exact sg_I _ _ | exact sg_S _ _ | exact sg_B _ _
theorem sg_A (r s : AvV) : Sg (cmpA r s) := by
  unfold cmpA
  refine sg_first _ fun x hx => ?_
  simp only [List.mem_cons, List.not_mem_nil, or_false] at hx
  rcases hx with rfl | rfl | rfl | rfl | rfl | rfl | rfl | rfl | rfl | rfl | rfl | rfl | rfl <;> first | exact sg_two (sg_I _ _) (sg_I _ _) | exact sg_I _ _ | exact sg_L _ _ | exact sg_B _ _
theorem ord3_L : Ord3 cmpNs := by
  constructor
  · intro l
    induction l with
    | nil => intro m; cases m <;> rfl
    | cons x l ih =>
      intro m
      cases m with
      | nil => rfl
      | cons y m =>
        have h := ord3_I.anti x y
        rw [cmpNs, cmpNs]
        by_cases e : cmpI x y = 0
        · rw [if_pos e, if_pos (by omega)]; exact ih m
        · rw [if_neg e, if_neg (by omega)]; exact h
  · intro l
    induction l with
    | nil =>
      intro m n h1 h2
      cases n with
      | nil => exact Int.le_refl _
      | cons z n => show (-1 : Int) ≤ 0; omega
    | cons x l ih =>
      intro m n h1 h2
      cases m with
      | nil => exact absurd h1 (by show ¬ (1 : Int) ≤ 0; omega)
      | cons y m =>
        cases n with
        | nil => exact absurd h2 (by show ¬ (1 : Int) ≤ 0; omega)
        | cons z n =>
          rw [cmpNs] at h1 h2 ⊢
          by_cases e1 : cmpI x y = 0
          · rw [if_pos e1] at h1
            obtain rfl := cmpI_zero.1 e1
            by_cases e2 : cmpI x z = 0
            · rw [if_pos e2] at h2 ⊢
              exact ih m n h1 h2
            · rw [if_neg e2] at h2 ⊢
              exact h2
          · rw [if_neg e1] at h1
            by_cases e2 : cmpI y z = 0
            · obtain rfl := cmpI_zero.1 e2
              rw [if_neg e1]; exact h1
            · rw [if_neg e2] at h2
              have := ord3_I.lt (show cmpI x y < 0 by omega) h2
              rw [if_neg (by omega)]
              omega
theorem ord3_A : Ord3 cmpA := by
  have h0 := ord3_zero (α := AvV)
  have hp : Ord3 (fun (r s : AvV) => firstNZ [cmpI r.a s.a, cmpI r.m s.m]) := (ord3_I.on AvV.a).cons ((ord3_I.on AvV.m).cons h0)
  exact hp.cons ((ord3_I.on AvV.ss).cons ((ord3_I.on AvV.pf).cons ((ord3_I.on AvV.me).cons ((ord3_I.on AvV.ho).cons ((ord3_I.on AvV.pe).cons ((ord3_I.on AvV.id).cons ((ord3_B.on AvV.ex).cons ((ord3_I.on AvV.og).cons ((ord3_L.on AvV.pa).cons ((ord3_L.on AvV.co).cons ((ord3_L.on AvV.cl).cons h0)))))))))))
end Go.Proofs.YtlhafehhkjjchaaGreatDoor

/-
  Small general lemmas, the third text: one element appended to a row of the call's own; no program in sight.
-/
namespace Go.Proofs.YtlhafehhkjjchaaGreatDoor
open Go Go.RowKit

/-- One element (its cells have just been laid in a block of their own) is appended to a row of the call's own. -/
theorem wpList_push {P : Program} {ops : Array Oper} {rest : List Oper} {o : Oper} {a : Act} {Q : Exit → Act → World → Prop} (hgd : o.guard = none) (s x : Operand) (t : TypeId)
    (ho : o.op = .call { callee := .builtin .append, args := #[s, x], argTypes := #[t, t] })
    (e : TypeId) (i : TypeInfo) (z : Value) (size bytes : Nat) (ht : P.underlying t = some (.slice e)) (hi : P.info? e = some i) (hz : i.zero = some z)
    (hsize : i.size = size) (hby : i.bytes = bytes) (hzs : z.cells.size = size) (hsz : 0 < size) (hb64 : bytes ≤ 64)
    {w0 : World} {base n : Nat} {v : Value} {xs : List Value} (es : List Value) (hs : a.eval s = v) {g0 : Nat} (hx : a.eval x = .slice (some ⟨g0, 0, none⟩) 1 1) (hg0 : g0 = w0.heap.size)
    (hown : w0.ownsRow base e size v n xs) (hes : es.length = size) (h1 : ∀ u ∈ es, u.oneCell' = true) (hn : n ≤ 1099511627776) (hbase : base ≤ w0.heap.size)
    {B : Nat} {a0 : World} (hb : Below B a0 w0) (hB : B ≤ base)
    (h : ∀ v' w', w'.ownsRow base e size v' (n + 1) (xs ++ es) → Below B a0 w' → wpList P ops Q rest (a.put o.dst v') w') : wpList P ops Q (o :: rest) a (w0.alloc (.cells es.toArray e)) := by
  subst hg0
  refine wpList_append_own _ hgd s x t ho base e i z size bytes ht hi hz hsize hby hzs hsz v n xs hs (hown.alloc _) ⟨w0.heap.size, 0, none⟩ 1 1 es hx (by omega) (cells_new w0 es e) h1 (by unfold maxLen; omega) ?_ (by simp; omega) ?_
  · calc (n + 1) * bytes ≤ (1099511627776 + 1) * 64 := Nat.mul_le_mul (by omega) hb64
      _ ≤ 140737488355328 := by decide
  · intro v' w' h2 h3 _
    exact h v' w' h2 (below_row (hb.alloc (by omega) _) (hown.alloc _) h3 (by simp; omega) hB)
/-- What a row of the call's own is made of. -/
theorem owns_block {w : World} {base : Nat} {e : TypeId} {size n : Nat} {g c : Nat} {xs : List Value} (h : w.ownsRow base e size (.slice (some ⟨g, 0, none⟩) n c) n xs) :
    ∃ cur : Array Value, w.heap[g]? = some (.cells cur e (0, 0)) ∧ n ≤ c ∧ c ≤ maxLen ∧ cur.size = c * size ∧ cur.toList.take (n * size) = xs ∧ base ≤ g := by
  obtain ⟨_, h2⟩ := h
  rcases h2 with ⟨h2, _⟩ | ⟨g', cap, cur, hv, hg, hh, hnc, hcm, hcs, ht⟩
  · cases h2
  · injection hv with h1 _ h3
    injection h1 with h1
    injection h1 with h1
    subst h1 h3
    exact ⟨cur, hh, hnc, hcm, hcs, ht, hg⟩
theorem owns_of_block {w : World} {base : Nat} {e : TypeId} {size n : Nat} {g c : Nat} {cur : Array Value} {xs : List Value} (hh : w.heap[g]? = some (.cells cur e (0, 0))) (hnc : n ≤ c) (hcm : c ≤ maxLen) (hcs : cur.size = c * size) (ht : cur.toList.take (n * size) = xs) (hl : xs.length = n * size) (hg : base ≤ g) :
    w.ownsRow base e size (.slice (some ⟨g, 0, none⟩) n c) n xs := ⟨hl, .inr ⟨g, c, cur, rfl, hg, hh, hnc, hcm, hcs, ht⟩⟩
theorem owns_nil (w : World) (base : Nat) (e : TypeId) (size : Nat) : w.ownsRow base e size (.slice none 0 0) 0 [] := ⟨by simp, .inl ⟨rfl, rfl⟩⟩

end Go.Proofs.YtlhafehhkjjchaaGreatDoor

/-
  Small general lemmas, the fourth text: an append tells whether its row lies where it lay; no program in sight.
-/
namespace Go.Proofs.YtlhafehhkjjchaaGreatDoor
open Go Go.RowKit

theorem grown_none {w w' : World} (h : w.grownBy w' none) (r : Option Nat) : w.grownBy w' r := ⟨h.os, h.tape, h.output, h.size, fun i hi _ => h.block i hi (by simp)⟩
/-- The row lies where it lay, or in a block of its own laid since. -/
def Moved (v v' : Value) (k : Nat) : Prop := v'.ownBlock = v.ownBlock ∨ ∀ g, v'.ownBlock = some g → k ≤ g
theorem wpList_push2 {P : Program} {ops : Array Oper} {rest : List Oper} {o : Oper} {a : Act} {Q : Exit → Act → World → Prop} (hgd : o.guard = none) (s x : Operand) (t : TypeId)
    (ho : o.op = .call { callee := .builtin .append, args := #[s, x], argTypes := #[t, t] })
    (e : TypeId) (i : TypeInfo) (z : Value) (size bytes : Nat) (ht : P.underlying t = some (.slice e)) (hi : P.info? e = some i) (hz : i.zero = some z)
    (hsize : i.size = size) (hby : i.bytes = bytes) (hzs : z.cells.size = size) (hsz : 0 < size) (hb64 : bytes ≤ 64)
    {w0 : World} {base n : Nat} {v : Value} {xs : List Value} (es : List Value) (hs : a.eval s = v) {g0 : Nat} (hx : a.eval x = .slice (some ⟨g0, 0, none⟩) 1 1) (hg0 : g0 = w0.heap.size)
    (hown : w0.ownsRow base e size v n xs) (hes : es.length = size) (h1 : ∀ u ∈ es, u.oneCell' = true) (hn : n ≤ 1099511627776) (hbase : base ≤ w0.heap.size)
    (h : ∀ v' w', w'.ownsRow base e size v' (n + 1) (xs ++ es) → w0.grownBy w' v.ownBlock → Moved v v' w0.heap.size → wpList P ops Q rest (a.put o.dst v') w') : wpList P ops Q (o :: rest) a (w0.alloc (.cells es.toArray e)) := by
  subst hg0
  have hb2 : (n + 1) * bytes ≤ 140737488355328 :=
    calc (n + 1) * bytes ≤ (1099511627776 + 1) * 64 := Nat.mul_le_mul (by omega) hb64
      _ ≤ 140737488355328 := by decide
  have hownA := hown.alloc (.cells es.toArray e)
  have hgA : w0.grownBy (w0.alloc (.cells es.toArray e)) none := World.grownBy_alloc w0 _ none
  have hnew := cells_new w0 es e
  rcases hown.2 with ⟨rfl, rfl⟩ | ⟨g, cap, cur, rfl, hbg, hg, hnc, hcm, hcs, htake⟩
  · obtain rfl : xs = [] := List.eq_nil_of_length_eq_zero (by have := hown.1; omega)
    refine wpList_append_grows _ hgd s x t ho e i z size bytes ht hi hz hsize hby hzs hsz none 0 0 [] hs (fun _ => ⟨rfl, rfl⟩) (by simp) (fun b hb => by cases hb) ⟨w0.heap.size, 0, none⟩ 1 1 es hx (by omega) hnew h1 (by omega) (by unfold maxLen; omega) hb2 ?_
    intro v' w' h2 h3
    refine h v' w' (owns_base h2 (by simp; omega)) (grown_none (hgA.trans h3) _) (.inr fun g hg => ?_)
    have := (h2.lt g hg).1
    simp at this; omega
  · by_cases hroom : n + 1 ≤ cap
    · obtain ⟨w', hr, h2, h3⟩ := run_append_fits (P := P) _ base t o.type e i size ht hi hsize g n cap xs hownA ⟨w0.heap.size, 0, none⟩ 1 1 es (by omega) hnew h1 hroom
      refine wpList_plain hgd fun K hK => ?_
      unfold Oper.wp execOp
      simp only [ho, resolve, invoke, builtin, Sem.run_bind, Sem.run_pure, Result.andThen_ok, List.map_toArray, List.map_cons, List.map_nil, hs, hx, hr]
      exact hK _ _ (h _ w' h2 ((grown_none hgA _).trans h3) (.inl rfl))
    · refine wpList_append_grows _ hgd s x t ho e i z size bytes ht hi hz hsize hby hzs hsz (some ⟨g, 0, none⟩) n cap xs hs (fun hh => by cases hh) hown.1 (fun b hb j u hu => ?_) ⟨w0.heap.size, 0, none⟩ 1 1 es hx (by omega) hnew h1 (by omega) (by unfold maxLen; omega) hb2 ?_
      · injection hb with hb
        subst hb
        exact hownA.cells rfl j u hu
      · intro v' w' h2 h3
        refine h v' w' (owns_base h2 (by simp; omega)) (grown_none (hgA.trans h3) _) (.inr fun g hg => ?_)
        have := (h2.lt g hg).1
        simp at this; omega
theorem grown_setRow (w : World) (g : Nat) (cs : Array Value) : w.grownBy (w.setRow g cs) (some g) :=
  ⟨rfl, rfl, rfl, by simp, fun k _ hk => setRow_other w g k _ (fun e => hk (by simp [e]))⟩
/-- copy, as one step of a region that draws its order, into a known row: no other block turns. -/
theorem step_copy_grown {P : Program} {ops : Array Oper} {o : Oper} {a : Act} {w : World} {K : Act → World → Prop} {Q : Exit → Act → World → Prop} {E : Prop} (hgd : o.guard = none) (d s : Operand) (dT sT : TypeId)
    (ho : o.op = .call { callee := .builtin .copy, args := #[d, s], argTypes := #[dT, sT] }) (elem : TypeId) (hu : P.underlying dT = some (.slice elem)) (hsz : (P.info? elem).map (·.size) = some 1)
    (dp sp : Option Addr) (dLen dCap sLen sCap : Nat) (hd : a.eval d = .slice dp dLen dCap) (hs : a.eval s = .slice sp sLen sCap)
    (g off : Nat) (cur : List Value) (t : TypeId) (hg : w.heap[g]? = some (.cells cur.toArray t (0, 0))) (cs : List Value) (hn : cs.length = Nat.min sLen dLen)
    (hpos : 0 < cs.length → dp = some ⟨g, off, none⟩ ∧ ∃ ad, sp = some ad ∧ ∀ j v, cs[j]? = some v → w.cell? (ad.add j) = some v)
    (hfit : off + cs.length ≤ cur.length) (h1 : ∀ v ∈ cs, v.oneCell' = true)
    (h : ∀ w', Hid (w'.heap[g]? = some (.cells (splice cur off cs).toArray t (0, 0))) → w.grownBy w' (some g) → K (a.put o.dst (goInt cs.length)) w') :
    if Region.wanted o (yielded ops a.tmps) = true then Oper.wp P o a w K Q else E := by
  rw [if_pos (by simp [Region.wanted, hgd])]
  unfold Oper.wp
  rcases Nat.eq_zero_or_pos cs.length with h0 | h0
  · obtain rfl : cs = [] := List.eq_nil_of_length_eq_zero h0
    have hr := run_copy_none (P := P) w dT sT o.type elem dp sp dLen dCap sLen sCap hu hsz (by simpa using hn.symm)
    simp [execOp, ho, resolve, invoke, builtin, hd, hs, hr, Result.andThen]
    exact h w (by show _ = _; simpa [splice] using hg) (World.grownBy.refl w _)
  · obtain ⟨rfl, ad, rfl, hsrc⟩ := hpos h0
    have hr := run_copy_row (P := P) w dT sT o.type elem g off dLen dCap ad sLen sCap cur.toArray t cs hu hsz hg hn hsrc (by simpa using hfit) h1
    simp [execOp, ho, resolve, invoke, builtin, hd, hs, hr, Result.andThen]
    exact h _ (by show _ = _; simpa [splice] using setRow_heap w g _ _ t _ hg) (grown_setRow w g _)
/-- Behind an append that may have moved the row, and writes into it. -/
theorem grown_moved {v v' : Value} {w w1 w2 : World} {g : Nat} (h : w.grownBy w1 v.ownBlock) (hm : Moved v v' w.heap.size) (hv : v'.ownBlock = some g) (h2 : w1.grownBy w2 (some g)) : w.grownBy w2 v.ownBlock := by
  refine ⟨h2.os.trans h.os, h2.tape.trans h.tape, h2.output.trans h.output, Nat.le_trans h.size h2.size, fun i hi hne => ?_⟩
  refine (h2.block i (Nat.lt_of_lt_of_le hi h.size) (fun hh => ?_)).trans (h.block i hi hne)
  injection hh with hh
  rcases hm with hm | hm
  · exact hne (by rw [← hm, hv, hh])
  · have := hm g hv; omega
/-- The blocks from lo on below hi are as they were. -/
def Seg (lo hi : Nat) (a w : World) : Prop := ∀ b, lo ≤ b → b < hi → w.heap[b]? = a.heap[b]?
/-- The row lies below lo or from hi on. -/
def Off (v : Value) (lo hi : Nat) : Prop := ∀ g, v.ownBlock = some g → g < lo ∨ hi ≤ g
theorem Off.moved {v v' : Value} {lo hi k : Nat} (h : Off v lo hi) (hm : Moved v v' k) (hk : hi ≤ k) : Off v' lo hi := by
  intro g hg
  rcases hm with hm | hm
  · exact h g (hm ▸ hg)
  · exact .inr (Nat.le_trans hk (hm g hg))
theorem Seg.refl (lo hi : Nat) (a : World) : Seg lo hi a a := fun _ _ _ => rfl
theorem Seg.grown {v : Value} {lo hi : Nat} {a w w' : World} (h : Seg lo hi a w) (hg : w.grownBy w' v.ownBlock) (ho : Off v lo hi) (hs : hi ≤ w.heap.size) : Seg lo hi a w' := by
  intro b h1 h2
  refine (hg.block b (by omega) (fun hb => ?_)).trans (h b h1 h2)
  rcases ho b hb.symm with h3 | h3 <;> omega
theorem Seg.below {lo hi : Nat} {a w w' : World} (h : Seg lo hi a w) (hb : Below w.heap.size w w') (hs : hi ≤ w.heap.size) : Seg lo hi a w' :=
  fun b h1 h2 => (hb.block b (by omega)).trans (h b h1 h2)
theorem Seg.alloc {lo hi : Nat} {a w : World} (h : Seg lo hi a w) (hs : hi ≤ w.heap.size) (o : Obj) : Seg lo hi a (w.alloc o) := h.below (below1 w o) hs

end Go.Proofs.YtlhafehhkjjchaaGreatDoor

/-
  Stores, copies and clearings of rows whose elements have several cells; no program.
-/
namespace Go.Proofs.YtlhafehhkjjchaaGreatDoor
open Go Go.RowKit Go.Lib Go.Sort

/-- A store of several cells into a row that is known whole. -/
theorem wpList_store_splice {P : Program} {w : World} {ops : Array Oper} {rest : List Oper} {o : Oper} {a : Act} {Q : Exit → Act → World → Prop} (hgd : o.guard = none) (p v : Operand) (t : TypeId)
    (ho : o.op = .store t p v) (k : Nat) (hsz : ∀ w, (Go.sizeOf t).run P w = .ok k w) (g off : Nat) (hp : a.eval p = .pointer (some ⟨g, off, none⟩)) (V : Value) (hv : a.eval v = V)
    (cur : List Value) (ty : TypeId) (hg : w.heap[g]? = some (.cells cur.toArray ty (0, 0))) (cs : List Value) (hcs : V.cells.toList = cs) (hk : cs.length = k) (hfit : off + cs.length ≤ cur.length) (h1 : ∀ v ∈ cs, v.oneCell' = true) (B : Nat) (w0 : World) (hb : Below B w0 w) (hBg : B ≤ g)
    (h : ∀ w', Hid (w'.heap[g]? = some (.cells (splice cur off cs).toArray ty (0, 0))) → Below B w0 w' → wpList P ops Q rest (a.put o.dst undef) w') : wpList P ops Q (o :: rest) a w := by
  refine wpList_plain hgd fun K hK => ?_
  have hst := run_storeCells_at P g off ty cs 0 cur.toArray w hg (by simpa using hfit) h1
  unfold Oper.wp
  have hz : V.cells.size = k := by rw [← Array.length_toList, hcs, hk]
  simp [execOp, ho, hp, hv, Instr.storeAt, Instr.sureAddr, storeVar, hsz, hz, hcs, hst, Result.andThen]
  exact hK _ _ (h _ (show _ = _ by simpa [splice] using setRow_heap w g _ _ ty _ hg) (below_setRow hb hBg _))
/-- copy, at elements of k cells. -/
theorem run_copy_rowK {P : Program} (w : World) (dT sT ty elem : TypeId) (k g o dLen dCap : Nat) (a : Addr) (sLen sCap : Nat) (cur : Array Value) (t : TypeId) (cs : List Value)
    (hu : P.underlying dT = some (.slice elem)) (hs : (P.info? elem).map (·.size) = some k)
    (hg : w.heap[g]? = some (.cells cur t (0, 0))) (hn : cs.length = Nat.min sLen dLen * k)
    (hsrc : ∀ j v, cs[j]? = some v → w.cell? (a.add j) = some v) (hfit : o + cs.length ≤ cur.size) (h1 : ∀ v ∈ cs, v.oneCell' = true) :
    (Builtin.copy_ #[dT, sT] ty #[.slice (some ⟨g, o, none⟩) dLen dCap, .slice (some a) sLen sCap]).run P w =
      .ok (goInt (Nat.min sLen dLen)) (w.setRow g (cur.toList.take o ++ cs ++ cur.toList.drop (o + cs.length)).toArray) := by
  have hl := run_loadCells_list (P := P) w a cs hsrc
  have hst := run_storeCells_at P g o t cs 0 cur w hg (by simpa using hfit) h1
  cases hq : P.info? elem with
  | none => simp [hq] at hs
  | some i =>
    have hi : i.size = k := by simpa [hq] using hs
    simp [Builtin.copy_, run_underlying hu, Builtin.lenOf, Builtin.firstCells, sizeOf, typeInfo, hq, hi, ← hn, hl, hst]
/-- Nothing to copy. -/
theorem run_copy_zero {P : Program} (w : World) (dT sT ty elem : TypeId) (k : Nat) (d a : Option Addr) (dLen dCap sLen sCap : Nat) (hu : P.underlying dT = some (.slice elem)) (hs : (P.info? elem).map (·.size) = some k) (hn : Nat.min sLen dLen = 0) :
    (Builtin.copy_ #[dT, sT] ty #[.slice d dLen dCap, .slice a sLen sCap]).run P w = .ok (goInt 0) w := by
  cases hq : P.info? elem with
  | none => simp [hq] at hs
  | some i =>
    have hl : ∀ (x : Addr), (loadCells x 0).run P w = .ok #[] w := fun x => by simpa using run_loadCells_list (P := P) w x [] (by simp)
    cases d <;> cases a <;> simp [Builtin.copy_, run_underlying hu, Builtin.lenOf, Builtin.firstCells, sizeOf, typeInfo, hq, hn, storeCells, hl]
/-- copy, at elements of k cells, as one step of a region that draws its order, into a row that is known whole. -/
theorem step_copy_K {P : Program} {ops : Array Oper} {o : Oper} {a : Act} {w : World} {K : Act → World → Prop} {Q : Exit → Act → World → Prop} {E : Prop} (hgd : o.guard = none) (d s : Operand) (dT sT : TypeId)
    (ho : o.op = .call { callee := .builtin .copy, args := #[d, s], argTypes := #[dT, sT] }) (elem : TypeId) (hu : P.underlying dT = some (.slice elem)) (k : Nat) (hk : 0 < k) (hsz : (P.info? elem).map (·.size) = some k)
    (dp sp : Option Addr) (dLen dCap sLen sCap : Nat) (hd : a.eval d = .slice dp dLen dCap) (hs : a.eval s = .slice sp sLen sCap)
    (g off : Nat) (cur : List Value) (t : TypeId) (hg : w.heap[g]? = some (.cells cur.toArray t (0, 0))) (cs : List Value) (hn : cs.length = Nat.min sLen dLen * k)
    (hpos : 0 < cs.length → dp = some ⟨g, off, none⟩ ∧ ∃ ad, sp = some ad ∧ ∀ j v, cs[j]? = some v → w.cell? (ad.add j) = some v)
    (hfit : off + cs.length ≤ cur.length) (h1 : ∀ v ∈ cs, v.oneCell' = true) (B : Nat) (w0 : World) (hb : Below B w0 w) (hBg : B ≤ g)
    (h : ∀ w', Hid (w'.heap[g]? = some (.cells (splice cur off cs).toArray t (0, 0))) → Below B w0 w' → K (a.put o.dst (goInt (Nat.min sLen dLen))) w') :
    if Region.wanted o (yielded ops a.tmps) = true then Oper.wp P o a w K Q else E := by
  rw [if_pos (by simp [Region.wanted, hgd])]
  unfold Oper.wp
  rcases Nat.eq_zero_or_pos cs.length with h0 | h0
  · obtain rfl : cs = [] := List.eq_nil_of_length_eq_zero h0
    have hz : Nat.min sLen dLen = 0 := by
      rcases Nat.eq_zero_or_pos (Nat.min sLen dLen) with e | e
      · exact e
      · have := Nat.mul_pos e hk
        simp only [List.length_nil] at hn
        omega
    have hr := run_copy_zero (P := P) w dT sT o.type elem k dp sp dLen dCap sLen sCap hu hsz hz
    simp [execOp, ho, resolve, invoke, builtin, hd, hs, hr, Result.andThen]
    have h2 := h w (by show _ = _; simpa [splice] using hg) hb
    rw [hz] at h2
    exact h2
  · obtain ⟨rfl, ad, rfl, hsrc⟩ := hpos h0
    have hr := run_copy_rowK (P := P) w dT sT o.type elem k g off dLen dCap ad sLen sCap cur.toArray t cs hu hsz hg hn hsrc (by simpa using hfit) h1
    simp [execOp, ho, resolve, invoke, builtin, hd, hs, hr, Result.andThen]
    exact h _ (by show _ = _; simpa [splice] using setRow_heap w g _ _ t _ hg) (below_setRow hb hBg _)
/-- A slice is cleared, at elements of several cells. -/
theorem run_clear_row {P : Program} (w : World) (t e ty : TypeId) (z : Value) (ht : P.underlying t = some (.slice e)) (hv : ∀ w, (zeroValue e).run P w = .ok z w) (h1 : ∀ v ∈ z.cells.toList, v.oneCell' = true) (g o n c : Nat) (hn : 0 < n)
    (cur : Array Value) (tt : TypeId) (hg : w.heap[g]? = some (.cells cur tt (0, 0))) (hfit : o + (Builtin.zeroCells z.cells n).toList.length ≤ cur.size) :
    (Builtin.clear_ #[t] ty #[.slice (some ⟨g, o, none⟩) n c]).run P w = .ok (.tuple #[]) (w.setRow g (cur.toList.take o ++ (Builtin.zeroCells z.cells n).toList ++ cur.toList.drop (o + (Builtin.zeroCells z.cells n).toList.length)).toArray) := by
  have hst := run_storeCells_at P g o tt (Builtin.zeroCells z.cells n).toList 0 cur w hg (by simpa using hfit) (fun v hv' => ?_)
  · obtain ⟨m, rfl⟩ : ∃ m, n = m + 1 := ⟨n - 1, by omega⟩
    simp only [Nat.add_zero] at hst
    simp [Builtin.clear_, run_underlying ht, hv, hst]
  · simp only [Builtin.zeroCells, Array.toList_map, List.mem_map] at hv'
    obtain ⟨i, hi, rfl⟩ := hv'
    have hi' : i < n * z.cells.size := by simpa using hi
    have hz : 0 < z.cells.size := by
      rcases Nat.eq_zero_or_pos z.cells.size with e | e
      · rw [e] at hi'; omega
      · exact e
    have hm : i % z.cells.size < z.cells.size := Nat.mod_lt _ hz
    rw [getElem!_pos z.cells _ hm]
    exact h1 _ (by simp)
/-- clear, at elements of k cells, into a row that is known whole. -/
theorem wpList_clear_K {P : Program} {w : World} {ops : Array Oper} {rest : List Oper} {o : Oper} {a : Act} {Q : Exit → Act → World → Prop} (hgd : o.guard = none) (s : Operand) (T : TypeId)
    (ho : o.op = .call { callee := .builtin .clear, args := #[s], argTypes := #[T] }) (elem : TypeId) (ht : P.underlying T = some (.slice elem)) (z : Value) (hv : ∀ w, (zeroValue elem).run P w = .ok z w) (h1 : ∀ v ∈ z.cells.toList, v.oneCell' = true)
    (sp : Option Addr) (sLen sCap : Nat) (hs : a.eval s = .slice sp sLen sCap) (hp : 0 < sLen) (g off : Nat) (hsp : sp = some ⟨g, off, none⟩)
    (cur : List Value) (ty : TypeId) (hg : w.heap[g]? = some (.cells cur.toArray ty (0, 0))) (zs : List Value) (hzs : (Builtin.zeroCells z.cells sLen).toList = zs) (hfit : off + zs.length ≤ cur.length) (B : Nat) (w0 : World) (hb : Below B w0 w) (hBg : B ≤ g)
    (h : ∀ w', Hid (w'.heap[g]? = some (.cells (splice cur off zs).toArray ty (0, 0))) → Below B w0 w' → wpList P ops Q rest (a.put o.dst (.tuple #[])) w') : wpList P ops Q (o :: rest) a w := by
  subst hsp hzs
  refine wpList_plain hgd fun K hK => ?_
  have hr := run_clear_row (P := P) w T elem o.type z ht hv h1 g off sLen sCap hp cur.toArray ty hg (by simpa using hfit)
  unfold Oper.wp
  simp [execOp, ho, resolve, invoke, builtin, hs, hr, Result.andThen]
  exact hK _ _ (h _ (show _ = _ by simpa [splice] using setRow_heap w g _ _ ty _ hg) (below_setRow hb hBg _))
end Go.Proofs.YtlhafehhkjjchaaGreatDoor

/-
  '==' of routes; stores, copies and clearings of rows whose elements have several cells (written by a program).
-/
namespace Go.Proofs.YtlhafehhkjjchaaGreatDoor
open Go Go.RowKit Go.Lib Go.Sort

instance : DecidableEq RouteV := fun _ _ => decidable_of_iff _ cmpR_zero
set_option maxHeartbeats 4000000 in
theorem eqPrefR (a m b n : Int) (d : Nat) (w : World) : (Op.equalIn (d + 1 + 1) 25 (.agg #[.int .u32 a, .int .i64 m]) (.agg #[.int .u32 b, .int .i64 n])).run Tryz.prog w = .ok (a == b && m == n) w := by
  have hS : Tryz.prog.underlying 25 = some (.struct (Tryz.prog.fieldsOf 25)) := by kernel_rfl
  have hp : Tryz.prog.stoodInHeld 25 = false := by kernel_rfl
  have a1 := Tryz.underlying23
  have a2 := Tryz.isAgg23
  have a3 := Tryz.sizeOf23
  have b1 := Tryz.underlying3
  have b2 := Tryz.isAgg3
  have b3 := Tryz.sizeOf3
  rw [run_equalIn_agg w (d + 1) 25 _ _ hS hp]
  simp only [Program.fieldsOf, Tryz.underlying25]
  by_cases h : a = b
  · subst h
    have e : (a == a) = true := by simp
    by_cases k : m = n
    · subst k
      have e2 : (m == m) = true := by simp
      go_simp
    · have e2 : (m == n) = false := by simpa using k
      go_simp
  · have e : (a == b) = false := by simpa using h
    go_simp
set_option maxRecDepth 100000 in
set_option maxHeartbeats 4000000 in
theorem eqlR (r q : RouteV) (W : World) : (binOp .eql 27 (.agg #[.int .u32 r.a, .int .i64 r.m, .int .u8 r.fr, .int .i64 r.di, .int .i64 r.me, .int .i64 r.ta, .string r.nm, .int .u32 r.ho, .bool r.dc]) (.agg #[.int .u32 q.a, .int .i64 q.m, .int .u8 q.fr, .int .i64 q.di, .int .i64 q.me, .int .i64 q.ta, .string q.nm, .int .u32 q.ho, .bool q.dc])).run Tryz.prog W = .ok (.bool (decide (r = q))) W := by
  have b1 := Tryz.underlying3
  have b2 := Tryz.isAgg3
  have b3 := Tryz.sizeOf3
  have c1 := Tryz.underlying4
  have c2 := Tryz.isAgg4
  have c3 := Tryz.sizeOf4
  have f1 := Tryz.underlying9
  have f2 := Tryz.isAgg9
  have f3 := Tryz.sizeOf9
  have g1 := Tryz.underlying5
  have g2 := Tryz.isAgg5
  have g3 := Tryz.sizeOf5
  have h1 := Tryz.underlying23
  have h2 := Tryz.isAgg23
  have h3 := Tryz.sizeOf23
  have hS : Tryz.prog.underlying 27 = some (.struct (Tryz.prog.fieldsOf 27)) := by kernel_rfl
  have hp : Tryz.prog.stoodInHeld 27 = false := by kernel_rfl
  have d2 := Tryz.isAgg25
  have d3 := Tryz.sizeOf25
  by_cases k0 : (r.a == q.a && r.m == q.m) = true
  · skip
    by_cases k1 : (r.fr == q.fr) = true
    · skip
      by_cases k2 : (r.di == q.di) = true
      · skip
        by_cases k3 : (r.me == q.me) = true
        · skip
          by_cases k4 : (r.ta == q.ta) = true
          · skip
            by_cases k5 : (r.nm.toList == q.nm.toList) = true
            · skip
              by_cases k6 : (r.ho == q.ho) = true
              · skip
                by_cases k7 : (r.dc == q.dc) = true
                · skip
                  have e : decide (r = q) = true := by
                    simp only [Bool.and_eq_true, beq_iff_eq] at k0 k1 k2 k3 k4 k5 k6 k7
                    have k5' := str_eq_of k5
                    rw [decide_eq_true_eq]
                    cases r; cases q; simp_all
                  rw [e]; rw [run_eql_struct, show (10000 : Nat) = 9997 + 1 + 1 + 1 from rfl, run_equalIn_agg W (9997 + 1 + 1) 27 _ _ hS hp]; generalize 9997 = d; have E1 := fun a m b n w => eqPrefR a m b n d w; simp only [Program.fieldsOf, Tryz.underlying27]; go_simp
                · have e : decide (r = q) = false := by
                    rw [decide_eq_false_iff_not]
                    rintro rfl
                    simp at k7
                  replace k7 := Bool.eq_false_iff.2 k7
                  rw [e]; rw [run_eql_struct, show (10000 : Nat) = 9997 + 1 + 1 + 1 from rfl, run_equalIn_agg W (9997 + 1 + 1) 27 _ _ hS hp]; generalize 9997 = d; have E1 := fun a m b n w => eqPrefR a m b n d w; simp only [Program.fieldsOf, Tryz.underlying27]; go_simp
              · have e : decide (r = q) = false := by
                  rw [decide_eq_false_iff_not]
                  rintro rfl
                  simp at k6
                replace k6 := Bool.eq_false_iff.2 k6
                rw [e]; rw [run_eql_struct, show (10000 : Nat) = 9997 + 1 + 1 + 1 from rfl, run_equalIn_agg W (9997 + 1 + 1) 27 _ _ hS hp]; generalize 9997 = d; have E1 := fun a m b n w => eqPrefR a m b n d w; simp only [Program.fieldsOf, Tryz.underlying27]; go_simp
            · have e : decide (r = q) = false := by
                rw [decide_eq_false_iff_not]
                rintro rfl
                simp at k5
              replace k5 := Bool.eq_false_iff.2 k5
              rw [e]; rw [run_eql_struct, show (10000 : Nat) = 9997 + 1 + 1 + 1 from rfl, run_equalIn_agg W (9997 + 1 + 1) 27 _ _ hS hp]; generalize 9997 = d; have E1 := fun a m b n w => eqPrefR a m b n d w; simp only [Program.fieldsOf, Tryz.underlying27]; go_simp
          · have e : decide (r = q) = false := by
              rw [decide_eq_false_iff_not]
              rintro rfl
              simp at k4
            replace k4 := Bool.eq_false_iff.2 k4
            rw [e]; rw [run_eql_struct, show (10000 : Nat) = 9997 + 1 + 1 + 1 from rfl, run_equalIn_agg W (9997 + 1 + 1) 27 _ _ hS hp]; generalize 9997 = d; have E1 := fun a m b n w => eqPrefR a m b n d w; simp only [Program.fieldsOf, Tryz.underlying27]; go_simp
        · have e : decide (r = q) = false := by
            rw [decide_eq_false_iff_not]
            rintro rfl
            simp at k3
          replace k3 := Bool.eq_false_iff.2 k3
          rw [e]; rw [run_eql_struct, show (10000 : Nat) = 9997 + 1 + 1 + 1 from rfl, run_equalIn_agg W (9997 + 1 + 1) 27 _ _ hS hp]; generalize 9997 = d; have E1 := fun a m b n w => eqPrefR a m b n d w; simp only [Program.fieldsOf, Tryz.underlying27]; go_simp
      · have e : decide (r = q) = false := by
          rw [decide_eq_false_iff_not]
          rintro rfl
          simp at k2
        replace k2 := Bool.eq_false_iff.2 k2
        rw [e]; rw [run_eql_struct, show (10000 : Nat) = 9997 + 1 + 1 + 1 from rfl, run_equalIn_agg W (9997 + 1 + 1) 27 _ _ hS hp]; generalize 9997 = d; have E1 := fun a m b n w => eqPrefR a m b n d w; simp only [Program.fieldsOf, Tryz.underlying27]; go_simp
    · have e : decide (r = q) = false := by
        rw [decide_eq_false_iff_not]
        rintro rfl
        simp at k1
      replace k1 := Bool.eq_false_iff.2 k1
      rw [e]; rw [run_eql_struct, show (10000 : Nat) = 9997 + 1 + 1 + 1 from rfl, run_equalIn_agg W (9997 + 1 + 1) 27 _ _ hS hp]; generalize 9997 = d; have E1 := fun a m b n w => eqPrefR a m b n d w; simp only [Program.fieldsOf, Tryz.underlying27]; go_simp
  · have e : decide (r = q) = false := by
      rw [decide_eq_false_iff_not]
      rintro rfl
      simp at k0
    replace k0 := Bool.eq_false_iff.2 k0
    rw [e]; rw [run_eql_struct, show (10000 : Nat) = 9997 + 1 + 1 + 1 from rfl, run_equalIn_agg W (9997 + 1 + 1) 27 _ _ hS hp]; generalize 9997 = d; have E1 := fun a m b n w => eqPrefR a m b n d w; simp only [Program.fieldsOf, Tryz.underlying27]; go_simp
set_option maxRecDepth 100000 in
set_option maxHeartbeats 4000000 in
theorem neqR (r q : RouteV) (W : World) : (binOp .neq 27 (.agg #[.int .u32 r.a, .int .i64 r.m, .int .u8 r.fr, .int .i64 r.di, .int .i64 r.me, .int .i64 r.ta, .string r.nm, .int .u32 r.ho, .bool r.dc]) (.agg #[.int .u32 q.a, .int .i64 q.m, .int .u8 q.fr, .int .i64 q.di, .int .i64 q.me, .int .i64 q.ta, .string q.nm, .int .u32 q.ho, .bool q.dc])).run Tryz.prog W = .ok (.bool (!decide (r = q))) W := by
  have b1 := Tryz.underlying3
  have b2 := Tryz.isAgg3
  have b3 := Tryz.sizeOf3
  have c1 := Tryz.underlying4
  have c2 := Tryz.isAgg4
  have c3 := Tryz.sizeOf4
  have f1 := Tryz.underlying9
  have f2 := Tryz.isAgg9
  have f3 := Tryz.sizeOf9
  have g1 := Tryz.underlying5
  have g2 := Tryz.isAgg5
  have g3 := Tryz.sizeOf5
  have h1 := Tryz.underlying23
  have h2 := Tryz.isAgg23
  have h3 := Tryz.sizeOf23
  have hS : Tryz.prog.underlying 27 = some (.struct (Tryz.prog.fieldsOf 27)) := by kernel_rfl
  have hp : Tryz.prog.stoodInHeld 27 = false := by kernel_rfl
  have d2 := Tryz.isAgg25
  have d3 := Tryz.sizeOf25
  by_cases k0 : (r.a == q.a && r.m == q.m) = true
  · skip
    by_cases k1 : (r.fr == q.fr) = true
    · skip
      by_cases k2 : (r.di == q.di) = true
      · skip
        by_cases k3 : (r.me == q.me) = true
        · skip
          by_cases k4 : (r.ta == q.ta) = true
          · skip
            by_cases k5 : (r.nm.toList == q.nm.toList) = true
            · skip
              by_cases k6 : (r.ho == q.ho) = true
              · skip
                by_cases k7 : (r.dc == q.dc) = true
                · skip
                  have e : decide (r = q) = true := by
                    simp only [Bool.and_eq_true, beq_iff_eq] at k0 k1 k2 k3 k4 k5 k6 k7
                    have k5' := str_eq_of k5
                    rw [decide_eq_true_eq]
                    cases r; cases q; simp_all
                  rw [e]; rw [run_neq_struct, show (10000 : Nat) = 9997 + 1 + 1 + 1 from rfl, run_equalIn_agg W (9997 + 1 + 1) 27 _ _ hS hp]; generalize 9997 = d; have E1 := fun a m b n w => eqPrefR a m b n d w; simp only [Program.fieldsOf, Tryz.underlying27]; go_simp
                · have e : decide (r = q) = false := by
                    rw [decide_eq_false_iff_not]
                    rintro rfl
                    simp at k7
                  replace k7 := Bool.eq_false_iff.2 k7
                  rw [e]; rw [run_neq_struct, show (10000 : Nat) = 9997 + 1 + 1 + 1 from rfl, run_equalIn_agg W (9997 + 1 + 1) 27 _ _ hS hp]; generalize 9997 = d; have E1 := fun a m b n w => eqPrefR a m b n d w; simp only [Program.fieldsOf, Tryz.underlying27]; go_simp
              · have e : decide (r = q) = false := by
                  rw [decide_eq_false_iff_not]
                  rintro rfl
                  simp at k6
                replace k6 := Bool.eq_false_iff.2 k6
                rw [e]; rw [run_neq_struct, show (10000 : Nat) = 9997 + 1 + 1 + 1 from rfl, run_equalIn_agg W (9997 + 1 + 1) 27 _ _ hS hp]; generalize 9997 = d; have E1 := fun a m b n w => eqPrefR a m b n d w; simp only [Program.fieldsOf, Tryz.underlying27]; go_simp
            · have e : decide (r = q) = false := by
                rw [decide_eq_false_iff_not]
                rintro rfl
                simp at k5
              replace k5 := Bool.eq_false_iff.2 k5
              rw [e]; rw [run_neq_struct, show (10000 : Nat) = 9997 + 1 + 1 + 1 from rfl, run_equalIn_agg W (9997 + 1 + 1) 27 _ _ hS hp]; generalize 9997 = d; have E1 := fun a m b n w => eqPrefR a m b n d w; simp only [Program.fieldsOf, Tryz.underlying27]; go_simp
          · have e : decide (r = q) = false := by
              rw [decide_eq_false_iff_not]
              rintro rfl
              simp at k4
            replace k4 := Bool.eq_false_iff.2 k4
            rw [e]; rw [run_neq_struct, show (10000 : Nat) = 9997 + 1 + 1 + 1 from rfl, run_equalIn_agg W (9997 + 1 + 1) 27 _ _ hS hp]; generalize 9997 = d; have E1 := fun a m b n w => eqPrefR a m b n d w; simp only [Program.fieldsOf, Tryz.underlying27]; go_simp
        · have e : decide (r = q) = false := by
            rw [decide_eq_false_iff_not]
            rintro rfl
            simp at k3
          replace k3 := Bool.eq_false_iff.2 k3
          rw [e]; rw [run_neq_struct, show (10000 : Nat) = 9997 + 1 + 1 + 1 from rfl, run_equalIn_agg W (9997 + 1 + 1) 27 _ _ hS hp]; generalize 9997 = d; have E1 := fun a m b n w => eqPrefR a m b n d w; simp only [Program.fieldsOf, Tryz.underlying27]; go_simp
      · have e : decide (r = q) = false := by
          rw [decide_eq_false_iff_not]
          rintro rfl
          simp at k2
        replace k2 := Bool.eq_false_iff.2 k2
        rw [e]; rw [run_neq_struct, show (10000 : Nat) = 9997 + 1 + 1 + 1 from rfl, run_equalIn_agg W (9997 + 1 + 1) 27 _ _ hS hp]; generalize 9997 = d; have E1 := fun a m b n w => eqPrefR a m b n d w; simp only [Program.fieldsOf, Tryz.underlying27]; go_simp
    · have e : decide (r = q) = false := by
        rw [decide_eq_false_iff_not]
        rintro rfl
        simp at k1
      replace k1 := Bool.eq_false_iff.2 k1
      rw [e]; rw [run_neq_struct, show (10000 : Nat) = 9997 + 1 + 1 + 1 from rfl, run_equalIn_agg W (9997 + 1 + 1) 27 _ _ hS hp]; generalize 9997 = d; have E1 := fun a m b n w => eqPrefR a m b n d w; simp only [Program.fieldsOf, Tryz.underlying27]; go_simp
  · have e : decide (r = q) = false := by
      rw [decide_eq_false_iff_not]
      rintro rfl
      simp at k0
    replace k0 := Bool.eq_false_iff.2 k0
    rw [e]; rw [run_neq_struct, show (10000 : Nat) = 9997 + 1 + 1 + 1 from rfl, run_equalIn_agg W (9997 + 1 + 1) 27 _ _ hS hp]; generalize 9997 = d; have E1 := fun a m b n w => eqPrefR a m b n d w; simp only [Program.fieldsOf, Tryz.underlying27]; go_simp

theorem eqlR_same {r q : RouteV} (h : r = q) (W : World) : (binOp .eql 27 (.agg #[.int .u32 r.a, .int .i64 r.m, .int .u8 r.fr, .int .i64 r.di, .int .i64 r.me, .int .i64 r.ta, .string r.nm, .int .u32 r.ho, .bool r.dc]) (.agg #[.int .u32 q.a, .int .i64 q.m, .int .u8 q.fr, .int .i64 q.di, .int .i64 q.me, .int .i64 q.ta, .string q.nm, .int .u32 q.ho, .bool q.dc])).run Tryz.prog W = .ok (.bool true) W := by
  rw [eqlR, decide_eq_true h]
theorem eqlR_not {r q : RouteV} (h : r ≠ q) (W : World) : (binOp .eql 27 (.agg #[.int .u32 r.a, .int .i64 r.m, .int .u8 r.fr, .int .i64 r.di, .int .i64 r.me, .int .i64 r.ta, .string r.nm, .int .u32 r.ho, .bool r.dc]) (.agg #[.int .u32 q.a, .int .i64 q.m, .int .u8 q.fr, .int .i64 q.di, .int .i64 q.me, .int .i64 q.ta, .string q.nm, .int .u32 q.ho, .bool q.dc])).run Tryz.prog W = .ok (.bool false) W := by
  rw [eqlR, decide_eq_false h]
theorem neqR_same {r q : RouteV} (h : r = q) (W : World) : (binOp .neq 27 (.agg #[.int .u32 r.a, .int .i64 r.m, .int .u8 r.fr, .int .i64 r.di, .int .i64 r.me, .int .i64 r.ta, .string r.nm, .int .u32 r.ho, .bool r.dc]) (.agg #[.int .u32 q.a, .int .i64 q.m, .int .u8 q.fr, .int .i64 q.di, .int .i64 q.me, .int .i64 q.ta, .string q.nm, .int .u32 q.ho, .bool q.dc])).run Tryz.prog W = .ok (.bool false) W := by
  rw [neqR, decide_eq_true h]; rfl
theorem neqR_not {r q : RouteV} (h : r ≠ q) (W : World) : (binOp .neq 27 (.agg #[.int .u32 r.a, .int .i64 r.m, .int .u8 r.fr, .int .i64 r.di, .int .i64 r.me, .int .i64 r.ta, .string r.nm, .int .u32 r.ho, .bool r.dc]) (.agg #[.int .u32 q.a, .int .i64 q.m, .int .u8 q.fr, .int .i64 q.di, .int .i64 q.me, .int .i64 q.ta, .string q.nm, .int .u32 q.ho, .bool q.dc])).run Tryz.prog W = .ok (.bool true) W := by
  rw [neqR, decide_eq_false h]; rfl
end Go.Proofs.YtlhafehhkjjchaaGreatDoor

/-
  Sets of numbers as spans: the normal form is told by its members. No program in sight.
-/
namespace Go.Proofs.YtlhafehhkjjchaaGreatDoor

structure SpanV where
  lo : Int
  hi : Int
  hlo : 0 ≤ lo ∧ lo < 4294967296
  hhi : 0 ≤ hi ∧ hi < 4294967296
instance : Inhabited SpanV := ⟨⟨0, 0, by omega, by omega⟩⟩
theorem SpanV.eq {s t : SpanV} (h1 : s.lo = t.lo) (h2 : s.hi = t.hi) : s = t := by
  cases s; cases t; simp_all
def SpanV.inB (s : SpanV) (x : Int) : Bool := decide (s.lo ≤ x) && decide (x ≤ s.hi)
def hasB (L : List SpanV) (x : Int) : Bool := L.any fun s => s.inB x
theorem hasB_iff {L : List SpanV} {x : Int} : hasB L x = true ↔ ∃ s ∈ L, s.lo ≤ x ∧ x ≤ s.hi := by
  simp [hasB, SpanV.inB]
/-- The normal form: rising, none empty, none touching the next. -/
def NF : List SpanV → Prop
  | [] => True
  | s :: r => s.lo ≤ s.hi ∧ (∀ t ∈ r, s.hi + 1 < t.lo) ∧ NF r
theorem NF.ok {L : List SpanV} (h : NF L) : ∀ s ∈ L, s.lo ≤ s.hi := by
  induction L with
  | nil => intro s hs; simp at hs
  | cons t r ih =>
    intro s hs
    rcases List.mem_cons.1 hs with rfl | hs
    · exact h.1
    · exact ih h.2.2 s hs
theorem NF.head {s : SpanV} {r : List SpanV} (h : NF (s :: r)) {x : Int} (hx : hasB (s :: r) x = true) : s.lo ≤ x := by
  obtain ⟨t, ht, h1, h2⟩ := hasB_iff.1 hx
  rcases List.mem_cons.1 ht with rfl | ht
  · exact h1
  · have := h.2.1 t ht
    have := h.1
    omega
theorem NF.unique : ∀ {A B : List SpanV}, NF A → NF B → (∀ x, hasB A x = hasB B x) → A = B
  | [], [], _, _, _ => rfl
  | [], t :: q, _, hB, h => by
    have := h t.lo
    have h2 : hasB (t :: q) t.lo = true := hasB_iff.2 ⟨t, List.mem_cons_self .., by omega, hB.1⟩
    rw [h2] at this
    simp [hasB] at this
  | s :: r, [], hA, _, h => by
    have := h s.lo
    have h2 : hasB (s :: r) s.lo = true := hasB_iff.2 ⟨s, List.mem_cons_self .., by omega, hA.1⟩
    rw [h2] at this
    simp [hasB] at this
  | s :: r, t :: q, hA, hB, h => by
    have a1 : hasB (s :: r) s.lo = true := hasB_iff.2 ⟨s, List.mem_cons_self .., by omega, hA.1⟩
    have b1 : hasB (t :: q) t.lo = true := hasB_iff.2 ⟨t, List.mem_cons_self .., by omega, hB.1⟩
    have l1 := hB.head ((h s.lo).symm.trans a1)
    have l2 := hA.head ((h t.lo).trans b1)
    have hlo : s.lo = t.lo := by omega
    have key : ∀ {s t : SpanV} {r q : List SpanV}, NF (s :: r) → NF (t :: q) → s.lo = t.lo → (∀ x, hasB (s :: r) x = hasB (t :: q) x) → ¬ s.hi < t.hi := by
      intro s t r q hA hB hlo h hlt
      have h1 : hasB (t :: q) (s.hi + 1) = true := hasB_iff.2 ⟨t, List.mem_cons_self .., by have := hA.1; omega, by omega⟩
      obtain ⟨u, hu, h2, h3⟩ := hasB_iff.1 ((h _).trans h1)
      rcases List.mem_cons.1 hu with rfl | hu
      · omega
      · have := hA.2.1 u hu; omega
    have n1 := key hA hB hlo h
    have n2 := key hB hA hlo.symm (fun x => (h x).symm)
    have e : s = t := SpanV.eq hlo (by omega)
    subst e
    have rest : ∀ {s : SpanV} {r : List SpanV}, NF (s :: r) → ∀ x, hasB r x = (hasB (s :: r) x && decide (s.hi < x)) := by
      intro s r hA x
      rw [Bool.eq_iff_iff, Bool.and_eq_true, decide_eq_true_eq, hasB_iff, hasB_iff]
      constructor
      · rintro ⟨u, hu, h1, h2⟩
        have := hA.2.1 u hu
        exact ⟨⟨u, List.mem_cons_of_mem _ hu, h1, h2⟩, by omega⟩
      · rintro ⟨⟨u, hu, h1, h2⟩, h3⟩
        rcases List.mem_cons.1 hu with rfl | hu
        · omega
        · exact ⟨u, hu, h1, h2⟩
    rw [NF.unique hA.2.2 hB.2.2 (fun x => by rw [rest hA x, rest hB x, h x])]

end Go.Proofs.YtlhafehhkjjchaaGreatDoor

/-
  Walks over the layer of spans: the closure of Form, the sort of spans.
-/
namespace Go.Proofs.YtlhafehhkjjchaaGreatDoor
open Go Go.RowKit Go.Lib Go.Sort

def SpanV.enc (s : SpanV) : List Value := [.int .u32 s.lo, .int .u32 s.hi]
theorem span_len (s : SpanV) : s.enc.length = 2 := rfl
def cmpS (x y : SpanV) : Int := firstNZ [cmpI x.lo y.lo, cmpI x.hi y.hi]

end Go.Proofs.YtlhafehhkjjchaaGreatDoor

/-
  Arguments opened to cells: structs of any depth, slices of structs of any length; no program in sight.
-/
namespace Go.Proofs.YtlhafehhkjjchaaGreatDoor
open Go Go.RowKit Go.ChangeShapes Go.WideShapes Go.Deep

theorem list_told {α : Type} {Q : Nat → α → Prop} : ∀ n, (∀ i, i < n → ∃ r, Q i r) → ∃ L : List α, L.length = n ∧ ∀ i x, L[i]? = some x → Q i x
  | 0, _ => ⟨[], rfl, fun i x h => by simp at h⟩
  | n + 1, h => by
    obtain ⟨L, hl, hq⟩ := list_told n (fun i hi => h i (by omega))
    obtain ⟨r, hr⟩ := h n (by omega)
    refine ⟨L ++ [r], by simp [hl], fun i x hx => ?_⟩
    by_cases hi : i < L.length
    · rw [List.getElem?_append_left hi] at hx; exact hq i x hx
    · rw [List.getElem?_append_right (by omega)] at hx
      have : i - L.length = 0 := by
        have := (List.getElem?_eq_some_iff.1 hx).1
        simp at this; omega
      rw [this] at hx
      simp at hx
      subst hx
      have : i = n := by omega
      rw [this]; exact hr
theorem flat_inv {α : Type} (enc : α → List Value) (k : Nat) (hk : ∀ x, (enc x).length = k) (L : List α) (j : Nat) (u : Value) (h : (L.flatMap enc)[j]? = some u) :
    ∃ (i jj : Nat) (x : α), j = i * k + jj ∧ jj < k ∧ L[i]? = some x ∧ (enc x)[jj]? = some u := by
  have hj := (List.getElem?_eq_some_iff.1 h).1
  rw [flat_len enc k hk] at hj
  have hk0 : 0 < k := by
    rcases Nat.eq_zero_or_pos k with h0 | h0
    · subst h0; simp at hj
    · exact h0
  have hd : j / k < L.length := Nat.div_lt_of_lt_mul (by rw [Nat.mul_comm]; exact hj)
  have hm := Nat.mod_lt j hk0
  have hdm : j = j / k * k + j % k := by rw [Nat.mul_comm]; exact (Nat.div_add_mod j k).symm
  have hx := List.getElem?_eq_getElem hd
  have hu : (enc L[j / k])[j % k]? = some ((enc L[j / k])[j % k]'(by rw [hk]; exact hm)) := List.getElem?_eq_getElem _
  have hg := flat_get enc k hk L _ _ _ _ hx hu
  rw [← hdm, h] at hg
  exact ⟨j / k, j % k, _, hdm, hm, hx, hu.trans hg.symm⟩

section
variable {H : Type} {enc : TypeId × Value → H} {P : Program} {w : World} {base : Nat} {spare : Nat → Bool} {held : Bool}
theorem sub_at {t : TypeId} {fs : Array Field} {n : Nat} {cs : List Value} {x : DataW H × List MemPlace} (ht : P.underlying t = some (.struct fs)) (h : DataW.trod enc P w base spare held n t cs = some x) :
    cs.length = P.cellsOf t ∧ ∃ m, ∀ (j : Nat) (f : Field) (off : Nat) (ty : TypeId) (k : Nat), fs[j]? = some f → f.offset = off → f.type = ty → P.cellsOf ty = k → ∃ y, DataW.trod enc P w base spare held m ty ((cs.drop off).take k) = some y := by
  obtain ⟨xs, m, _, _, hl, hlen, hf⟩ := DataW.trod_struct ht h
  refine ⟨hl, m, fun j f off ty k hj ho hty hk => ?_⟩
  have h1 := hf j f hj
  have hjl : j < xs.length := by rw [hlen]; exact (Array.getElem?_eq_some_iff.1 hj).1
  subst ho hty hk
  exact ⟨_, h1.trans (List.getElem?_eq_getElem hjl)⟩
/-- A struct as a parameter. -/
theorem open_agg {r : Reach} {b0 : Nat} {t : TypeId} {fs : Array Field} {v : Value} {d : DataW H} {p : List MemPlace} (hs : P.underlying t = some (.struct fs)) (hv : Value.okWide P w r b0 t v) (h : DataW.Trod enc P w base spare held t v d p) :
    ∃ (cs : List Value) (n : Nat), v = .agg cs.toArray ∧ DataW.trod enc P w base spare held n t cs = some (d, p) := by
  obtain ⟨cs, rfl, _⟩ := okWide_struct hs hv
  obtain ⟨n, hf⟩ := h
  exact ⟨cs.toList, n, by simp, hf⟩
/-- A slice as a parameter. -/
theorem open_sl {r : Reach} {b0 : Nat} {t e : TypeId} {v : Value} {d : DataW H} {p : List MemPlace} (hs : P.underlying t = some (.slice e)) (hv : Value.okWide P w r b0 t v) (h : DataW.Trod enc P w base spare held t v d p) :
    ∃ n, DataW.trod enc P w base spare held n t [v] = some (d, p) := by
  obtain ⟨a, len, cap, rfl⟩ := okWide_slice hs hv
  exact h
/-- A slice whose elements' cells are told by one list each. -/
theorem open_rd {α : Type} {encV : α → List Value} {k : Nat} (hk : ∀ x, (encV x).length = k) (hk0 : 0 < k) {t e : TypeId} {n : Nat} {cs : List Value} {x : DataW H × List MemPlace} (ht : P.underlying t = some (.slice e)) (hC : P.cellsOf e = k)
    (hel : ∀ n cs y, DataW.trod enc P w base spare held n e cs = some y → ∃ r, cs = encV r) (h : DataW.trod enc P w base spare held n t cs = some x) :
    ∃ (v : Value) (L : List α), cs = [v] ∧ Rd w w.heap.size k v L.length (L.flatMap encV) ∧ L.length ≤ maxLen := by
  rcases open_slice ht h with ⟨h0, _⟩ | ⟨a, len, cap, m, n', D, Pl, hcs, _, hl, hm, hmm, _, hi⟩
  · exact ⟨_, [], h0, ⟨none, 0, rfl, by simp, by simp, fun h => absurd h (by simp)⟩, by simp⟩
  · have hlm : len ≤ m := by rw [hmm]; split <;> omega
    obtain ⟨L, hL, hq⟩ := list_told (Q := fun i r => w.cells? base (a.add (i * k)) k = some (encV r)) len (fun i hi' => by
      obtain ⟨cs', hc, ht'⟩ := hi i (by omega)
      obtain ⟨r, hr⟩ := hel _ _ _ ht'
      rw [hC] at hc
      exact ⟨r, by rw [hc, hr]⟩)
    refine ⟨_, L, hcs, ⟨some a, cap, by rw [hL], by omega, flat_len encV k hk L, fun hpos => ?_⟩, by omega⟩
    obtain ⟨b, off, sp⟩ := a
    have hz : ∃ u, w.cell? ⟨b, off, sp⟩ = some u := by
      obtain ⟨r, hr⟩ : ∃ r, L[0]? = some r := ⟨_, List.getElem?_eq_getElem hpos⟩
      obtain ⟨_, _, hat⟩ := World.cells?_some (hq 0 r hr)
      have h1 := hat 0 hk0
      have h2 : (encV r)[0]? = some ((encV r)[0]'(by rw [hk]; exact hk0)) := List.getElem?_eq_getElem _
      rw [h2] at h1
      refine ⟨_, Eq.trans ?_ h1⟩
      simp [Addr.add]
    obtain ⟨u0, hu0⟩ := hz
    obtain rfl := Go.Proofs.cell_spot hu0
    refine ⟨b, off, rfl, ?_, fun j u hu => ?_⟩
    · rcases Nat.lt_or_ge b w.heap.size with h | h
      · exact h
      · have hn : w.heap[b]? = none := by simp [h]
        simp [World.cell?, hn] at hu0
    · obtain ⟨i, jj, r, hj, hjj, hr, hu'⟩ := flat_inv encV k hk L j u hu
      obtain ⟨_, _, hat⟩ := World.cells?_some (hq i r hr)
      have h1 := hat jj hjj
      rw [hu'] at h1
      have e : (Addr.add ⟨b, off, none⟩ (i * k)).add jj = ⟨b, off + j, none⟩ := by
        rw [hj]; simp only [Addr.add]
        split <;> split <;> simp_all <;> omega
      rw [← e]; exact h1
end

end Go.Proofs.YtlhafehhkjjchaaGreatDoor

/-
  Rows of structs and the shelf's sort: cells told both ways; the sort of spans.
-/
namespace Go.Proofs.YtlhafehhkjjchaaGreatDoor
open Go Go.RowKit Go.Lib Go.Sort

section
variable {α : Type} [Inhabited α] {enc : α → List Value} {k : Nat}
theorem flatK_at (hk : ∀ x, (enc x).length = k) {L : List α} {j : Nat} {u : Value} (h : (L.flatMap enc)[j]? = some u) : (flatK enc k L.toArray)[j]! = u := by
  have hj := (List.getElem?_eq_some_iff.1 h).1
  rw [flat_len enc k hk] at hj
  rw [get_flatK _ _ _ _ (by simpa using hj)]
  obtain ⟨i, jj, x, rfl, hjj, hx, hu⟩ := flat_inv enc k hk L j u h
  have e1 : (i * k + jj) / k = i := by
    rw [Nat.mul_comm, Nat.mul_add_div (by omega), Nat.div_eq_of_lt hjj, Nat.add_zero]
  have e2 : (i * k + jj) % k = jj := by
    rw [Nat.mul_comm, Nat.mul_add_mod, Nat.mod_eq_of_lt hjj]
  rw [e1, e2]
  have hi := (List.getElem?_eq_some_iff.1 hx)
  have e3 : L.toArray[i]! = x := by
    have := get_bang hi.1
    rw [hx] at this
    injection this with this
    rw [this]
    simp
  rw [e3]
  have := get_bang (List.getElem?_eq_some_iff.1 hu).1
  rw [hu] at this
  injection this with this
  exact this.symm
theorem holdsK_of (hk : ∀ x, (enc x).length = k) {L : List α} {w : World} {g off : Nat} (h : ∀ j u, (L.flatMap enc)[j]? = some u → w.cell? ⟨g, off + j, none⟩ = some u) (hf : ∀ j, w.frozen? ⟨g, j, none⟩ = false) : HoldsK enc k w g off L.toArray := by
  intro j hj
  rw [size_flatK] at hj
  have hj' : j < (L.flatMap enc).length := by rw [flat_len enc k hk]; simpa using hj
  refine ⟨?_, hf _⟩
  rw [flatK_at hk (List.getElem?_eq_getElem hj')]
  exact h j _ (List.getElem?_eq_getElem hj')
theorem cells_of_holdsK (hk : ∀ x, (enc x).length = k) {d : Array α} {w : World} {g off : Nat} (h : HoldsK enc k w g off d) : ∀ j u, (d.toList.flatMap enc)[j]? = some u → w.cell? ⟨g, off + j, none⟩ = some u := by
  intro j u hu
  have hj := (List.getElem?_eq_some_iff.1 hu).1
  rw [flat_len enc k hk] at hj
  have := (h j (by rw [size_flatK]; simpa using hj)).1
  have e := flatK_at hk (L := d.toList) hu
  rw [show d.toList.toArray = d by simp] at e
  rw [e] at this
  exact this
theorem below_sortWorldK {w : World} {B g off m : Nat} {d : Array α} {os : Array Obj} (hg : B ≤ g) (hB : B ≤ w.heap.size) : RowKit.Below B w (sortWorldK enc k w g off m d os) := by
  refine ⟨rfl, rfl, rfl, ?_, fun i hi => ?_⟩
  · simp [sortWorldK, grow, putRowK, putRow, mapBlock]
  · have hne : i ≠ g := by omega
    simp only [sortWorldK, grow, putRowK, putRow, mapBlock]
    rw [Array.getElem?_append_left (by simp; omega), Array.getElem?_modify, if_neg (Ne.symm hne)]
    rfl
end

theorem ltS (x y : SpanV) : ltOf cmpS x y = decide (x.lo < y.lo ∨ (x.lo = y.lo ∧ x.hi < y.hi)) := by
  unfold ltOf cmpS
  rcases Int.lt_trichotomy x.lo y.lo with h | h | h
  · rw [cmpI_lt h]
    simp [firstNZ, h]
  · rw [h, cmpI_eq]
    rcases Int.lt_trichotomy x.hi y.hi with h2 | h2 | h2
    · rw [cmpI_lt h2]; simp [firstNZ, h2]
    · rw [h2, cmpI_eq]; simp [firstNZ]
    · rw [cmpI_gt h2]; simp [firstNZ]; omega
  · rw [cmpI_gt h]
    simp [firstNZ]; omega
theorem swoS : SWO (ltOf cmpS) where
  irrefl x := by rw [ltS]; simp
  trans x y z h1 h2 := by rw [ltS] at *; simp at *; omega
  ntrans x y z h1 h2 := by rw [ltS] at *; simp at *; omega

def scells (L : List SpanV) : List Value := L.flatMap SpanV.enc
theorem scell {L : List SpanV} {k i : Nat} {x : SpanV} {v : Value} (hr : L[k]? = some x) (hv : x.enc[i]? = some v) : (scells L)[k * 2 + i]? = some v := flat_get SpanV.enc 2 span_len L k i x v hr hv
def SortPost (L : List SpanV) (v : Value) (base : Nat) (w : World) (e : Ending) (w' : World) : Prop :=
  e = .returned (.tuple #[]) ∧ ∃ L' : List SpanV, L'.Perm L ∧ L'.Pairwise (fun x y => x.lo ≤ y.lo) ∧ Rd w' w'.heap.size 2 v L'.length (scells L') ∧ ∀ B, B ≤ base → B ≤ w.heap.size → RowKit.Below B w w'

end Go.Proofs.YtlhafehhkjjchaaGreatDoor

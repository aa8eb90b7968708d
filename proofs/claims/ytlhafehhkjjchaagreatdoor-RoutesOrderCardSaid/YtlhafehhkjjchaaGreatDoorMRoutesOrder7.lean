/-
  Joined texts: Ro8, Ro9, LawRtSort, Math, A1, Bits, Addr, Addr2.
-/
import Derived.Test.YtlhafehhkjjchaaGreatDoorMRoutesOrder6
import Derived.Deep.Onto
import Derived.Laws.OwnMore
import Derived.Deep.CutBlock
import Derived.Below
import Derived.Test.YtlhafehhkjjchaaGreatDoorProg
import Derived.WalkKit
import Derived.WalkSpells
import Derived.WalkLawsBesides
import Derived.Lib.Hide
import Derived.Test.YtlhafehhkjjchaaGreatDoorMRoutesOrder1
import Derived.Test.YtlhafehhkjjchaaGreatDoorShelf
/-
  slices.Clone at routes, routes.Sort.
-/
namespace Go.Proofs.YtlhafehhkjjchaaGreatDoor
open Go Go.RowKit Go.Lib Go.Sort

/-- What a clone is: a row of its own. -/
def CloneRt (L : List RouteV) (w : World) (e : Ending) (w' : World) : Prop :=
  ∃ v', e = .returned v' ∧ w'.ownsRow w.heap.size 27 9 v' L.length (rvcells L) ∧ Below w.heap.size w w'
set_option maxRecDepth 100000 in
set_option maxHeartbeats 1000000 in
theorem cloneRoute_any (L : List RouteV) (v : Value) (w : World) (h : Rd w w.heap.size 9 v L.length (rvcells L)) (hbig : L.length ≤ 549755813888) :
    Calls Tryz.prog 20 #[v] w fun e w' => CloneRt L w e w' := by
  obtain ⟨i0, hi, hz0, hz1, hz2⟩ := info_parts Tryz.infoRoute
  rcases Nat.eq_zero_or_pos L.length with h0 | h0
  · obtain rfl : L = [] := List.eq_nil_of_length_eq_zero h0
    obtain ⟨A, c, rfl, hc⟩ := h.form
    rcases A with _ | ad
    · exact (AnyE.slices_Clone_nil Tryz.cloneRoute _ c w).mono fun e w' ⟨he, hw⟩ => ⟨_, he, by subst hw; exact owns_nil _ _ _ _, by subst hw; exact Below.refl _ _⟩
    · clear h
      go_enter Tryz.func20, Tryz.ntmps20
      have q : ∀ w, (binOp .eql 28 (.slice (some ad) 0 c) (.slice none 0 0)).run Tryz.prog w = .ok (.bool false) w := fun w => Lib.run_eql_slice_nil w _ _ (some ad) 0 c 0 0 Tryz.underlying28
      have hmade : (w.alloc (.cells #[] 27)).ownsRow w.heap.size 27 9 (.slice (some ⟨w.heap.size, 0, none⟩) 0 0) 0 [] := World.ownsRow_made w #[] 0 (Nat.le_refl _) (Nat.zero_le _) (by simp)
      have HM := Lib.hid hmade
      clear hmade
      go_wp2
      go_ret
      exact ⟨_, rfl, HM.out, below1 w _⟩
  · obtain ⟨b, off, c, rfl, hc, hbB, hcell⟩ := h.pos h0
    have := AnyE.slices_Clone Tryz.cloneRoute i0 _ 9 72 hi hz0 hz1 hz2 rfl (by decide) Tryz.sizeOf27 b off L.length c (rvcells L) w (flat_len RouteV.enc 9 route_len L) (by unfold maxLen; omega) (by omega) hcell (rvcells_one L)
    exact this.mono fun e w' ⟨v', he, hown, _, hb⟩ => ⟨v', he, hown, hb⟩
theorem sorted_dd {L D : List RouteV} (hp : D.Perm L) (hs : D.Pairwise (fun x y => cmpR x y ≤ 0)) : Sorted L (ddTo D D.length) := by
  obtain ⟨h1, h2⟩ := dd_sorted hs D.length (Nat.le_refl _)
  exact ⟨h1, fun x => by rw [h2, List.take_length]; exact hp.mem_iff⟩
set_option maxRecDepth 100000 in
set_option maxHeartbeats 1000000 in
theorem sortR_any (L : List RouteV) (v : Value) (w : World) (h : Rd w w.heap.size 9 v L.length (rvcells L)) (hlen : L.length ≤ 549755813888) :
    Calls Tryz.prog 7 #[v] w (SortRes L w) := by
  have HL := Lib.hid h
  clear h
  go_enter Tryz.func7, Tryz.ntmps7
  go_wp2_with fail
  refine (cloneRoute_any L v w HL.out hlen).mono ?_
  rintro e w1 ⟨v1, rfl, own1, hb1⟩
  go_wp2_with fail
  refine (sortRoute_any L v1 w.heap.size w1 own1 (by omega)).mono ?_
  rintro e w2 ⟨rfl, D, hp, hs, own2, hb2⟩
  have hD := hp.length_eq
  have hb12 := hb1.trans (hb2 w.heap.size (Nat.le_refl _) hb1.size)
  go_wp2_with fail
  refine (compactR_any D v1 w.heap.size w.heap.size w2 own2 (by omega) (Nat.le_refl _) hb12.size).mono ?_
  rintro e w3 ⟨v3, rfl, own3, hb3⟩
  go_wp2
  go_ret
  have hdl := dd_len D D.length
  exact ⟨_, _, rfl, sorted_dd hp hs, by omega, own3, hb12.trans hb3⟩
end Go.Proofs.YtlhafehhkjjchaaGreatDoor

/-
  Lemmas for the walk of the law RoutesSort: what its memory holds.
-/
namespace Go.Proofs.YtlhafehhkjjchaaGreatDoor
open Go Go.RowKit Go.Lib Go.Sort

/-- As wpList_push2, at elements of at most 128 bytes. -/
theorem wpList_push3 {P : Program} {ops : Array Oper} {rest : List Oper} {o : Oper} {a : Act} {Q : Exit → Act → World → Prop} (hgd : o.guard = none) (s x : Operand) (t : TypeId)
    (ho : o.op = .call { callee := .builtin .append, args := #[s, x], argTypes := #[t, t] })
    (e : TypeId) (i : TypeInfo) (z : Value) (size bytes : Nat) (ht : P.underlying t = some (.slice e)) (hi : P.info? e = some i) (hz : i.zero = some z)
    (hsize : i.size = size) (hby : i.bytes = bytes) (hzs : z.cells.size = size) (hsz : 0 < size) (hb64 : bytes ≤ 128)
    {w0 : World} {base n : Nat} {v : Value} {xs : List Value} (es : List Value) (hs : a.eval s = v) {g0 : Nat} (hx : a.eval x = .slice (some ⟨g0, 0, none⟩) 1 1) (hg0 : g0 = w0.heap.size)
    (hown : w0.ownsRow base e size v n xs) (hes : es.length = size) (h1 : ∀ u ∈ es, u.oneCell' = true) (hn : n ≤ 549755813888) (hbase : base ≤ w0.heap.size)
    (h : ∀ v' w', w'.ownsRow base e size v' (n + 1) (xs ++ es) → w0.grownBy w' v.ownBlock → Moved v v' w0.heap.size → wpList P ops Q rest (a.put o.dst v') w') : wpList P ops Q (o :: rest) a (w0.alloc (.cells es.toArray e)) := by
  subst hg0
  have hb2 : (n + 1) * bytes ≤ 140737488355328 :=
    calc (n + 1) * bytes ≤ (549755813888 + 1) * 128 := Nat.mul_le_mul (by omega) hb64
      _ ≤ 140737488355328 := by decide
  have hownA := hown.alloc (.cells es.toArray e)
  have hgA : w0.grownBy (w0.alloc (.cells es.toArray e)) none := World.grownBy_alloc w0 _ none
  have hnew := cells_new w0 es e
  rcases hown.2 with ⟨rfl, rfl⟩ | ⟨g, cap, cur, rfl, hbg, hg, hnc, hcm, hcs, htake⟩
  · obtain rfl : xs = [] := List.eq_nil_of_length_eq_zero (by have := hown.1; omega)
    refine wpList_append_grows _ hgd s x t ho e i z size bytes ht hi hz hsize hby hzs hsz none 0 0 [] hs (fun _ => ⟨rfl, rfl⟩) (by simp) (fun b hb => by cases hb) ⟨w0.heap.size, 0, none⟩ 1 1 es hx (by omega) hnew h1 (by omega) (by unfold maxLen; omega) hb2 ?_
    intro v' w' h2 h3
    refine h v' w' (owns_base h2 (by simp; omega)) (grown_none (hgA.trans h3) _) (.inr fun g hg => ?_)
    have := (h2.lt g hg).1
    simp at this; omega
  · by_cases hroom : n + 1 ≤ cap
    · obtain ⟨w', hr, h2, h3⟩ := run_append_fits (P := P) _ base t o.type e i size ht hi hsize g n cap xs hownA ⟨w0.heap.size, 0, none⟩ 1 1 es (by omega) hnew h1 hroom
      refine wpList_plain hgd fun K hK => ?_
      unfold Oper.wp execOp
      simp only [ho, resolve, invoke, builtin, Sem.run_bind, Sem.run_pure, Result.andThen_ok, List.map_toArray, List.map_cons, List.map_nil, hs, hx, hr]
      exact hK _ _ (h _ w' h2 ((grown_none hgA _).trans h3) (.inl rfl))
    · refine wpList_append_grows _ hgd s x t ho e i z size bytes ht hi hz hsize hby hzs hsz (some ⟨g, 0, none⟩) n cap xs hs (fun hh => by cases hh) hown.1 (fun b hb j u hu => ?_) ⟨w0.heap.size, 0, none⟩ 1 1 es hx (by omega) hnew h1 (by omega) (by unfold maxLen; omega) hb2 ?_
      · injection hb with hb
        subst hb
        exact hownA.cells rfl j u hu
      · intro v' w' h2 h3
        refine h v' w' (owns_base h2 (by simp; omega)) (grown_none (hgA.trans h3) _) (.inr fun g hg => ?_)
        have := (h2.lt g hg).1
        simp at this; omega
def rt7 : RouteV := ⟨0, 0, 0, 7, 0, 0, ByteArray.empty, 0, false⟩
theorem made_rowR (W : World) (n : Nat) (hn : W.heap.size = n) (base : Nat) (hb : base ≤ n) : (W.alloc (.cells #[] 27)).ownsRow base 27 9 (.slice (some ⟨n, 0, none⟩) 0 0) 0 [] := by
  subst hn
  exact World.ownsRow_made W #[] 0 hb (Nat.zero_le _) (by simp)
theorem srcR_of {w W : World} {B n c k9 : Nat} {ad : Addr} {xs : List Value} (h : Rd w B k9 (.slice (some ad) n c) n xs) (hl : n ≠ 0) (hb : Below B w W) : ∀ (k : Nat) (u : Value), xs[k]? = some u → W.cell? (ad.add k) = some u := by
  intro k u hu
  obtain ⟨b2, o2, c2, hv, _, _, hcell⟩ := (h.below hb).pos (by omega)
  injection hv with hv _ _
  injection hv with hv
  subst hv
  have e : (⟨b2, o2, none⟩ : Addr).add k = ⟨b2, o2 + k, none⟩ := by simp [Addr.add]
  rw [e]; exact hcell k u hu
theorem own_cutR {W : World} {base gi ci n : Nat} {L : List RouteV} {s : RouteV} (h : W.ownsRow base 27 9 (.slice (some ⟨gi, 0, none⟩) (n + 1) ci) (n + 1) (rvcells (L ++ [s]))) (hn : n = L.length) : Rd W W.heap.size 9 (.slice (some ⟨gi, 0, none⟩) n ci) L.length (rvcells L) := by
  subst hn
  obtain ⟨cur, hh, hnc, _, _, ht, _⟩ := owns_block h
  refine ⟨_, ci, rfl, by omega, rvcells_len L, fun _ => ⟨gi, 0, rfl, lt_of_block hh, fun j u hu => ?_⟩⟩
  have hj := (List.getElem?_eq_some_iff.1 hu).1
  rw [rvcells_len] at hj
  rw [Nat.zero_add, h.cellAt j (by omega), rvcells_append, List.getElem?_append_left (by rw [rvcells_len]; exact hj)]
  exact hu
theorem own_roomR {W : World} {base gi ci n : Nat} {xs : List Value} (h : W.ownsRow base 27 9 (.slice (some ⟨gi, 0, none⟩) (n + 1) ci) (n + 1) xs) : n + 1 ≤ ci := by
  obtain ⟨cur, hh, hnc, _⟩ := owns_block h
  exact hnc
theorem own_segR {WG wr : World} {m m' lo hi n : Nat} {v : Value} {xs : List Value} (h : WG.ownsRow m 27 9 v n xs) (hlt : ∀ g, v.ownBlock = some g → g < m') (hm' : m' ≤ hi) (hs : Seg lo hi WG wr) (hlo : lo ≤ m) : wr.ownsRow m 27 9 v n xs := by
  obtain ⟨hl, h2⟩ := h
  rcases h2 with h2 | ⟨g, cap, cur, rfl, hg, hh, r⟩
  · exact ⟨hl, .inl h2⟩
  · have := hlt g rfl
    exact ⟨hl, .inr ⟨g, cap, cur, rfl, hg, (hs g (by omega) (by omega)).trans hh, r⟩⟩
theorem rd_upR {w w' : World} {k n : Nat} {v : Value} {xs : List Value} (h : Rd w w.heap.size k v n xs) (hb : Below w.heap.size w w') : Rd w' w'.heap.size k v n xs := (h.below hb).mono hb.size
/-- While the first answer is written over and grows: nothing below lo turns, nor what lies from lo2 up to hi. -/
def A1 (W1 : World) (lo lo2 hi : Nat) (v : Value) (n : Nat) (wx : World) : Prop :=
  (∃ xs, wx.ownsRow lo 27 9 v n xs) ∧ Off v lo2 hi ∧ Seg lo2 hi W1 wx ∧ Below lo W1 wx ∧ hi ≤ wx.heap.size
theorem A1.store {W1 wx : World} {lo lo2 hi g n c i : Nat} {u : Value} (h : A1 W1 lo lo2 hi (.slice (some ⟨g, 0, none⟩) n c) n wx) : A1 W1 lo lo2 hi (.slice (some ⟨g, 0, none⟩) n c) n (wx.setCell ⟨g, i, none⟩ u) := by
  obtain ⟨⟨xs, ho⟩, hoff, hs, hb, hsz⟩ := h
  have h1 := (ho.lt g rfl).1
  refine ⟨⟨_, (ho.stored i u).1⟩, hoff, fun b b1 b2 => (Below.heap_setCell wx ⟨g, i, none⟩ u b (by show b ≠ g; rcases hoff g rfl with h | h <;> omega)).trans (hs b b1 b2), hb.setCell (p := ⟨g, i, none⟩) h1 _, by simpa [World.setCell] using hsz⟩
theorem A1.push {W1 wx w3 : World} {lo lo2 hi n : Nat} {v v' : Value} {ys : List Value} (h : A1 W1 lo lo2 hi v n wx) (hmw : lo ≤ W1.heap.size)
    (ho : w3.ownsRow lo 27 9 v' (n + 1) ys) (hgr : wx.grownBy w3 v.ownBlock) (hmv : Moved v v' wx.heap.size) : A1 W1 lo lo2 hi v' (n + 1) w3 := by
  obtain ⟨⟨xs, ho1⟩, hoff, hs, hb, hlt⟩ := h
  exact ⟨⟨ys, ho⟩, hoff.moved hmv hlt, hs.grown hgr hoff hlt, below_row hb ho1 hgr (by have := hb.size; omega) (Nat.le_refl _), by have := hgr.size; omega⟩
theorem A1.up {W1 wx w' : World} {lo lo2 hi n : Nat} {v : Value} (h : A1 W1 lo lo2 hi v n wx) (hmw : lo ≤ W1.heap.size) (hb : Below wx.heap.size wx w') : A1 W1 lo lo2 hi v n w' := by
  obtain ⟨⟨xs, ho1⟩, hoff, hs, hb1, hlt⟩ := h
  exact ⟨⟨xs, owns_kept_none ho1 (only_of_below hb none)⟩, hoff, hs.below hb hlt, hb1.trans (hb.mono (by have := hb1.size; omega)), by have := hb.size; omega⟩
end Go.Proofs.YtlhafehhkjjchaaGreatDoor

/-
  The walk of the law RoutesSort (written by wip/gen/genrtsort.py).
-/
namespace Go.Proofs.YtlhafehhkjjchaaGreatDoor
open Go Go.RowKit Go.Lib Go.Sort

theorem rd_takeR {w : World} {B : Nat} {A : Option Addr} {c n m : Nat} {L : List RouteV} (h : Rd w B 9 (.slice A n c) n (rvcells L)) (hn : L.length = n) (hm : m ≤ n) : Rd w B 9 (.slice A m c) m (rvcells (L.take m)) := by
  obtain ⟨A', c', hv, hc, hl, hp⟩ := h
  injection hv with h1 h2 h3
  subst h1 h3
  have hlen : (L.take m).length = m := by simp; omega
  refine ⟨A, c, rfl, by omega, by rw [rvcells_len, hlen], fun hm0 => ?_⟩
  obtain ⟨b, off, hA, hB, hcell⟩ := hp (by omega)
  refine ⟨b, off, hA, hB, fun j u hu => hcell j u ?_⟩
  have e : rvcells L = rvcells (L.take m) ++ rvcells (L.drop m) := by rw [← rvcells_append, List.take_append_drop]
  rw [e, List.getElem?_append_left (List.getElem?_eq_some_iff.1 hu).1]
  exact hu
/-- A slice without memory is empty. -/
def NilR (v : Value) : Prop := ∀ n c, v = .slice none n c → n = 0 ∧ c = 0
def rt0 : RouteV := ⟨0, 0, 0, 0, 0, 0, ByteArray.empty, 0, false⟩
end Go.Proofs.YtlhafehhkjjchaaGreatDoor

/-
  Plain lemmas on numbers that the walks of this seat use; no program in sight.
-/
namespace Go.Proofs.YtlhafehhkjjchaaGreatDoor
open Go.RowKit

/-- Two to the k, as an integer, behind a name. -/
def p2 (k : Nat) : Int := 2 ^ k
theorem p2_zero : p2 0 = 1 := rfl
theorem p2_succ (k : Nat) : p2 (k + 1) = 2 * p2 k := by unfold p2; rw [Int.pow_succ]; omega
theorem p2_pos (k : Nat) : 1 ≤ p2 k := by
  induction k with
  | zero => simp [p2_zero]
  | succ k ih => rw [p2_succ]; omega
theorem p2_mono {j k : Nat} (h : j ≤ k) : p2 j ≤ p2 k := by
  induction k with
  | zero => have : j = 0 := by omega
            subst this; exact Int.le_refl _
  | succ k ih =>
    rcases Nat.lt_or_ge j (k + 1) with h1 | h1
    · have := ih (by omega); have := p2_pos k; rw [p2_succ]; omega
    · have : j = k + 1 := by omega
      subst this; exact Int.le_refl _
theorem p2_32 : p2 32 = 4294967296 := by decide
theorem p2_le32 {k : Nat} (h : k ≤ 32) : p2 k ≤ 4294967296 := by have := p2_mono h; rw [p2_32] at this; exact this


/-- How many addresses are in a prefix of n bits. -/
def sz (n : Int) : Int := p2 (32 - n.toNat)
theorem sz_pos (n : Int) : 1 ≤ sz n := p2_pos _
theorem sz_le (n : Int) : sz n ≤ 4294967296 := p2_le32 (by omega)
theorem sz_dvd (n : Int) : sz n ∣ 4294967296 := by
  refine ⟨p2 (32 - (32 - n.toNat)), ?_⟩
  rw [← p2_32]; unfold sz p2
  rw [← Int.pow_add]; congr 1; omega
/-- The refusal of a prefix: 0, 1 (bits out of range), 10 (bits behind the mask). -/
def chk (a n : Int) : Int := if n < 0 ∨ 32 < n then 1 else if a % sz n = 0 then 0 else 10
theorem chk_range (a n : Int) (h : n < 0 ∨ 32 < n) : chk a n = 1 := by unfold chk; rw [if_pos h]
theorem chk_zero (a n : Int) (h0 : 0 ≤ n) (h1 : n ≤ 32) (h : a % sz n = 0) : chk a n = 0 := by unfold chk; rw [if_neg (by omega), if_pos h]
theorem chk_mask (a n : Int) (h0 : 0 ≤ n) (h1 : n ≤ 32) (h : ¬ a % sz n = 0) : chk a n = 10 := by unfold chk; rw [if_neg (by omega), if_neg h]
theorem chk_ok {a n : Int} (h : chk a n = 0) : 0 ≤ n ∧ n ≤ 32 ∧ a % sz n = 0 := by
  unfold chk at h
  split at h
  · simp at h
  · split at h
    · rename_i h1 h2; exact ⟨by omega, by omega, h2⟩
    · simp at h
/-- Is an address in a prefix? -/
def inB (x a n : Int) : Bool := decide (chk a n = 0 ∧ a ≤ x ∧ x < a + sz n)


/-- The exponent of the greatest power of two, at most 2^k, that divides the place and does not go beyond the end. -/
def pick (a e : Int) : Nat → Nat
  | 0 => 0
  | k + 1 => if a % p2 (k + 1) = 0 ∧ a + p2 (k + 1) ≤ e then k + 1 else pick a e k
theorem pick_le (a e : Int) (k : Nat) : pick a e k ≤ k := by
  induction k with
  | zero => exact Nat.le_refl _
  | succ k ih => unfold pick; split <;> omega
theorem pick_hit (a e : Int) (k : Nat) (h : a % p2 k = 0) (h' : a + p2 k ≤ e) : pick a e k = k := by
  cases k with
  | zero => rfl
  | succ k => unfold pick; rw [if_pos ⟨h, h'⟩]
theorem pick_miss (a e : Int) (k : Nat) (h : ¬ (a % p2 (k + 1) = 0 ∧ a + p2 (k + 1) ≤ e)) : pick a e (k + 1) = pick a e k := by
  conv => lhs; unfold pick
  rw [if_neg h]
theorem pick_ok (a e : Int) (k : Nat) (h : a < e) : a % p2 (pick a e k) = 0 ∧ a + p2 (pick a e k) ≤ e := by
  induction k with
  | zero => simp [pick, p2_zero]; omega
  | succ k ih =>
    unfold pick
    split
    · rename_i h; exact h
    · exact ih
/-- The prefixes of the places from a up to (not with) e. -/
def cutL (e : Int) : Nat → Int → List (Int × Int)
  | 0, _ => []
  | f + 1, a => if a < e then (a, 32 - (pick a e 32 : Int)) :: cutL e f (a + p2 (pick a e 32)) else []
theorem cutL_done (e a : Int) (f : Nat) (h : e ≤ a) : cutL e f a = [] := by
  cases f with
  | zero => rfl
  | succ f => unfold cutL; rw [if_neg (by omega)]
theorem cutL_step (e a : Int) (f : Nat) (h : a < e) : cutL e (f + 1) a = (a, 32 - (pick a e 32 : Int)) :: cutL e f (a + p2 (pick a e 32)) := by
  conv => lhs; unfold cutL
  rw [if_pos h]

end Go.Proofs.YtlhafehhkjjchaaGreatDoor

/-
  Walks over the leaves of the addresses' layer: the reference's size, the program's behind.
-/
namespace Go.Proofs.YtlhafehhkjjchaaGreatDoor
open Go.RowKit

end Go.Proofs.YtlhafehhkjjchaaGreatDoor

/-
  Plain lemmas on bits and powers of two, in the words of the model's operations on numbers; no program in sight.
-/
namespace Go.Proofs.YtlhafehhkjjchaaGreatDoor
open Go Go.RowKit

theorem p2_cast (k : Nat) : p2 k = ((2 ^ k : Nat) : Int) := by unfold p2; simp
theorem sz_nat (n : Int) : sz n = ((2 ^ (32 - n.toNat) : Nat) : Int) := p2_cast _

theorem nat_high (a k : Nat) (hk : k ≤ 32) (ha : a < 2 ^ 32) : a &&& (2 ^ 32 - 1 - (2 ^ k - 1)) = a - a % 2 ^ k := by
  have h1 : a - a % 2 ^ k = (a >>> k) <<< k := by
    rw [Nat.shiftLeft_eq, Nat.shiftRight_eq_div_pow]
    have := Nat.div_add_mod a (2 ^ k)
    rw [Nat.mul_comm] at this
    omega
  rw [h1]
  apply Nat.eq_of_testBit_eq
  intro i
  rw [Nat.testBit_and, Nat.testBit_shiftLeft, Nat.testBit_shiftRight]
  have hm : 2 ^ 32 - 1 - (2 ^ k - 1) = 2 ^ 32 - 2 ^ k := by
    have := Nat.two_pow_pos k; omega
  have hs : 2 ^ 32 - 2 ^ k = (2 ^ (32 - k) - 1) <<< k := by
    rw [Nat.shiftLeft_eq, Nat.sub_mul, ← Nat.pow_add]; congr 1
    · congr 1; omega
    · omega
  rw [hm, hs, Nat.testBit_shiftLeft, Nat.testBit_two_pow_sub_one]
  by_cases hi : k ≤ i
  · have e : k + (i - k) = i := by omega
    rw [e]
    by_cases h32 : i < 32
    · simp [hi]; omega
    · have : a.testBit i = false := Nat.testBit_lt_two_pow (Nat.lt_of_lt_of_le ha (Nat.pow_le_pow_right (by omega) (by omega)))
      simp [this]
  · simp [hi]

theorem and_sz (a n : Int) (ha : 0 ≤ a) (hb : a < 4294967296) : bits .and .u32 a (sz n - 1) = a % sz n := by
  obtain ⟨a, rfl⟩ := Int.eq_ofNat_of_zero_le ha
  have hp := sz_pos n
  have hq := sz_le n
  rw [u32_and _ _ ha hb (by omega) (by omega), sz_nat]
  have e : (((2 ^ (32 - n.toNat) : Nat) : Int) - 1).toNat = 2 ^ (32 - n.toNat) - 1 := by omega
  rw [e, Int.toNat_natCast, Nat.and_two_pow_sub_one_eq_mod]
  exact Int.natCast_emod _ _

theorem andNot_sz (a n : Int) (ha : 0 ≤ a) (hb : a < 4294967296) : bits .andNot .u32 a (sz n - 1) = a - a % sz n := by
  obtain ⟨a, rfl⟩ := Int.eq_ofNat_of_zero_le ha
  have hp := sz_pos n
  have hq := sz_le n
  rw [u32_andNot _ _ ha hb (by omega) (by omega), sz_nat]
  have e : (((2 ^ (32 - n.toNat) : Nat) : Int) - 1).toNat = 2 ^ (32 - n.toNat) - 1 := by omega
  rw [e, Int.toNat_natCast]
  have h := nat_high a (32 - n.toNat) (by omega) (by omega)
  rw [show (4294967295 : Nat) = 2 ^ 32 - 1 by decide, h, ← Int.natCast_emod]
  have := Nat.mod_le a (2 ^ (32 - n.toNat))
  omega


theorem not32 (x : Int) (h0 : 0 ≤ x) (h1 : x < 4294967296) : bits .xor .u32 IntKind.u32.max x = 4294967295 - x := by
  obtain ⟨x, rfl⟩ := Int.eq_ofNat_of_zero_le h0
  have e : IntKind.u32.max = 4294967295 := by decide
  rw [e, u32_xor _ _ (by omega) (by omega) h0 h1]
  have hx : x < 2 ^ 32 := by omega
  have e2 : (4294967295 : Int).toNat = 2 ^ 32 - 1 := by decide
  have e3 : (2 ^ 32 - 1) ^^^ x = 2 ^ 32 - (x + 1) := by
    apply Nat.eq_of_testBit_eq
    intro i
    rw [Nat.testBit_xor, Nat.testBit_two_pow_sub_one, Nat.testBit_two_pow_sub_succ hx]
    by_cases hi : i < 32
    · simp [hi]
    · have : x.testBit i = false := Nat.testBit_lt_two_pow (Nat.lt_of_lt_of_le hx (Nat.pow_le_pow_right (by omega) (by omega)))
      simp [hi, this]
  rw [e2, Int.toNat_natCast, e3]
  omega
theorem bitLen_pred (j : Nat) (h : j ≤ 63) : Lib.bitLen (2 ^ j - 1) = j := by
  induction j with
  | zero => decide
  | succ j ih =>
    have h2 : 2 ^ (j + 1) < 2 ^ 64 := Nat.pow_lt_pow_right (by omega) (by omega)
    have h3 := Nat.two_pow_pos j
    have h4 : 2 ^ (j + 1) = 2 * 2 ^ j := by rw [Nat.pow_succ]; omega
    rw [Lib.bitLen_half _ (by omega) (by omega)]
    have : (2 ^ (j + 1) - 1) / 2 = 2 ^ j - 1 := by omega
    rw [this, ih (by omega)]; omega
/-- The leading zeros of a number of 32 bits. -/
def lz32 (x : Int) : Int := 32 - (Lib.bitLen x.toNat : Int)
theorem lz32_range (x : Int) (h1 : x < 4294967296) : 0 ≤ lz32 x ∧ lz32 x ≤ 32 := by
  unfold lz32
  have := Lib.bitLen_le x.toNat 32 (by omega) (by have : (2 : Nat) ^ 32 = 4294967296 := by decide
                                                  omega)
  omega
theorem lz32_mask (n : Int) (h0 : 0 ≤ n) (h1 : n ≤ 32) : lz32 (sz n - 1) = n := by
  unfold lz32
  rw [sz_nat]
  have e : (((2 ^ (32 - n.toNat) : Nat) : Int) - 1).toNat = 2 ^ (32 - n.toNat) - 1 := by omega
  rw [e, bitLen_pred _ (by omega)]
  omega
theorem bitLen_p2 (j : Nat) (h : j ≤ 63) : Lib.bitLen (p2 j).toNat = j + 1 := by
  rw [p2_cast, Int.toNat_natCast]
  induction j with
  | zero => decide
  | succ j ih =>
    have h2 : 2 ^ (j + 1) < 2 ^ 64 := Nat.pow_lt_pow_right (by omega) (by omega)
    rw [Lib.bitLen_half _ (by have := Nat.two_pow_pos (j + 1); omega) h2]
    have : 2 ^ (j + 1) / 2 = 2 ^ j := by rw [Nat.pow_succ]; omega
    rw [this, ih (by omega)]; omega
theorem p2_lt64 {j : Nat} (h : j ≤ 63) : p2 j ≤ 18446744073709551615 := by
  rw [p2_cast]
  have h2 : 2 ^ j < 2 ^ 64 := Nat.pow_lt_pow_right (by omega) (by omega)
  have e : (2 : Nat) ^ 64 = 18446744073709551616 := by decide
  omega
end Go.Proofs.YtlhafehhkjjchaaGreatDoor

/-
  Walks over the addresses' layer: behind, Check, In, Within; the program's and the reference's.
-/
namespace Go.Proofs.YtlhafehhkjjchaaGreatDoor
open Go Go.RowKit Go.Sort

theorem behind_val (n : Int) (h0 : 0 ≤ n) (h1 : n ≤ 32) : IntKind.u64.wrap (IntKind.u64.wrap (2 ^ (32 - n).toNat) - 1) % 4294967296 = sz n - 1 := by
  have e : (32 - n).toNat = 32 - n.toNat := by omega
  have hp := p2_pos (32 - n.toNat)
  have hq := p2_le32 (k := 32 - n.toNat) (by omega)
  rw [e]
  show IntKind.u64.wrap (IntKind.u64.wrap (p2 (32 - n.toNat)) - 1) % 4294967296 = p2 (32 - n.toNat) - 1
  simp only [IntKind.wrap, IntKind.bits, IntKind.signed]
  omega
set_option maxHeartbeats 400000 in
theorem behind_any (n : Int) (w : World) (h0 : 0 ≤ n) (h1 : n ≤ 32) :
    Calls Tryz.prog 44 #[.int .i64 n] w fun e w' => e = .returned (.int .u32 (sz n - 1)) ∧ w = w' := by
  have hv := Lib.hid (behind_val n h0 h1)
  go_enter Tryz.func44, Tryz.ntmps44
  go_wp2
  go_ret
  exact ⟨ret_int hv.out, rfl⟩

set_option maxHeartbeats 400000 in
theorem addrCheck_any (a n : Int) (w : World) (ha : 0 ≤ a) (hb : a < 4294967296) :
    Calls Tryz.prog 23 #[.agg #[.int .u32 a, .int .i64 n]] w fun e w' => e = .returned (.int .i64 (chk a n)) ∧ Below w.heap.size w w' := by
  by_cases hr : n < 0 ∨ 32 < n
  · have hc := Lib.hid (chk_range a n hr)
    rcases hr with hr | hr
    · go_enter Tryz.func23, Tryz.ntmps23
      go_wp2
      go_ret
      exact ⟨ret_int hc.out.symm, (Below.refl _ _).alloc (Nat.le_refl _) _⟩
    · have hr' : ¬ n < 0 := by omega
      go_enter Tryz.func23, Tryz.ntmps23
      go_wp2
      go_ret
      exact ⟨ret_int hc.out.symm, (Below.refl _ _).alloc (Nat.le_refl _) _⟩
  · have h0 : 0 ≤ n := by omega
    have h1 : n ≤ 32 := by omega
    clear hr
    have ea := and_sz a n ha hb
    by_cases hm : a % sz n = 0
    · have hc := Lib.hid (chk_zero a n h0 h1 hm)
      have hd : (bits .and .u32 a (sz n - 1) != 0) = false := by rw [ea, hm]; rfl
      clear ea hm
      go_enter Tryz.func23, Tryz.ntmps23
      go_wp2
      go_quiet ((go_at_call 44; exact quiet_left (behind_any _ _ (by omega) (by omega))))
      go_wp2
      go_ret
      exact ⟨ret_int hc.out.symm, below_drewN ((Below.refl _ _).alloc (Nat.le_refl _) _) _⟩
    · have hc := Lib.hid (chk_mask a n h0 h1 hm)
      have hd : (bits .and .u32 a (sz n - 1) != 0) = true := by rw [ea]; simp [hm]
      clear ea hm
      go_enter Tryz.func23, Tryz.ntmps23
      go_wp2
      go_quiet ((go_at_call 44; exact quiet_left (behind_any _ _ (by omega) (by omega))))
      go_wp2
      go_ret
      exact ⟨ret_int hc.out.symm, below_drewN ((Below.refl _ _).alloc (Nat.le_refl _) _) _⟩

end Go.Proofs.YtlhafehhkjjchaaGreatDoor

/-
  Walks over the addresses' layer: In; the program's and the reference's.
-/
namespace Go.Proofs.YtlhafehhkjjchaaGreatDoor
open Go Go.RowKit Go.Sort

theorem in_no (x a n : Int) (h : ¬ chk a n = 0) : false = inB x a n := by unfold inB; simp [h]
theorem in_low (x a n : Int) (h : ¬ a ≤ x) : false = inB x a n := by unfold inB; simp [h]
theorem in_sub (x a n : Int) (hr : chk a n = 0) (h : a ≤ x) : decide (x - a < sz n) = inB x a n := by
  unfold inB
  rw [decide_eq_decide]
  constructor
  · intro h1; exact ⟨hr, h, by omega⟩
  · intro h1; omega
theorem in_andNot (x a n : Int) (hx : 0 ≤ x) (hx' : x < 4294967296) (hr : chk a n = 0) : (bits .andNot .u32 x (sz n - 1) == a) = inB x a n := by
  obtain ⟨_, _, h2⟩ := chk_ok hr
  rw [andNot_sz x n hx hx']
  unfold inB
  rw [Bool.eq_iff_iff, beq_iff_eq, decide_eq_true_iff]
  have hp := sz_pos n
  have e1 := Int.emod_add_mul_ediv x (sz n)
  have l1 := Int.emod_nonneg x (by omega : sz n ≠ 0)
  have l2 := Int.emod_lt_of_pos x (by omega : 0 < sz n)
  constructor
  · intro h
    exact ⟨hr, by omega, by omega⟩
  · intro ⟨_, h3, h4⟩
    have e2 := Int.emod_add_mul_ediv a (sz n)
    rw [h2] at e2
    have h5 : x % sz n = x - a := by
      have : (x - a + sz n * (a / sz n)) % sz n = (x - a) % sz n := Int.add_mul_emod_self_left ..
      rw [show x - a + sz n * (a / sz n) = x by omega, Int.emod_eq_of_lt (a := x - a) (by omega) (by omega)] at this
      exact this
    omega

end Go.Proofs.YtlhafehhkjjchaaGreatDoor

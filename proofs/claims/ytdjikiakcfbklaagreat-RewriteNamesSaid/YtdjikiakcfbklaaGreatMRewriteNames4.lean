/-
  Joined texts: Kit2, Filt4, Filt5, Filt6, Filt7, Filt8, LawFD, Addr3, Addr4, Addr5, Addr6.
-/
import Derived.Test.YtdjikiakcfbklaaGreatMRewriteNames1
import Derived.Lib.SlBy
import Derived.Test.YtdjikiakcfbklaaGreatMRewriteNames2
import Derived.Test.YtdjikiakcfbklaaGreatMRewriteNames3
import Derived.Test.YtdjikiakcfbklaaGreatShelf2
import Derived.Laws.StructEq
import Derived.Deep.DeepCutAuto
import Derived.Deep.RegionLawGrows
import Derived.Deep.RegionHeldLaw
import Derived.Deep.RegionHeld3
import Derived.StillTailTactics
import Derived.RegionTactic
import Derived.BigRegion
/-
  Small general lemmas, the second text: lists of structs as cells, the first place at which a predicate holds.
-/
namespace Go.Proofs.YtdjikiakcfbklaaGreat
open Go Go.RowKit

theorem flat_get {α : Type} (enc : α → List Value) (k : Nat) (hk : ∀ x, (enc x).length = k) : ∀ (L : List α) (j i : Nat) (x : α) (v : Value), L[j]? = some x → (enc x)[i]? = some v → (L.flatMap enc)[j * k + i]? = some v
  | [], j, i, x, v, h, _ => by simp at h
  | y :: L, 0, i, x, v, h, hv => by
    simp at h; subst h
    have hi : i < (enc y).length := (List.getElem?_eq_some_iff.1 hv).1
    rw [List.flatMap_cons, Nat.zero_mul, Nat.zero_add, List.getElem?_append_left hi]
    exact hv
  | y :: L, j + 1, i, x, v, h, hv => by
    rw [List.flatMap_cons, List.getElem?_append_right (by rw [hk]; rw [Nat.add_mul]; omega), hk]
    have := flat_get enc k hk L j i x v (by simpa using h) hv
    rw [show (j + 1) * k + i - k = j * k + i by rw [Nat.add_mul]; omega]
    exact this
theorem flat_len {α : Type} (enc : α → List Value) (k : Nat) (hk : ∀ x, (enc x).length = k) (L : List α) : (L.flatMap enc).length = L.length * k := by
  induction L with
  | nil => simp
  | cons y L ih => rw [List.flatMap_cons, List.length_append, ih, hk, List.length_cons, Nat.add_mul]; omega
theorem get_bang {α : Type} [Inhabited α] {L : List α} {j : Nat} (h : j < L.length) : L[j]? = some L[j]! := by
  rw [List.getElem!_eq_getElem?_getD, List.getElem?_eq_getElem h]; rfl
/-- The cells of a slice of structs, as the shelf's contracts ask them. -/
theorem Rd.cells {α : Type} [Inhabited α] {enc : α → List Value} {k : Nat} (hk : ∀ x, (enc x).length = k) {w : World} {L : List α} {b off : Nat}
    (hcell : ∀ j u, (L.flatMap enc)[j]? = some u → w.cell? ⟨b, off + j, none⟩ = some u) :
    ∀ j, j < L.length → ∀ i v, (enc L[j]!)[i]? = some v → w.cell? ⟨b, off + j * k + i, none⟩ = some v := by
  intro j hj i v hv
  have := hcell _ _ (flat_get enc k hk L j i _ v (get_bang hj) hv)
  rw [Nat.add_assoc]; exact this

theorem rt2 {v v' u u' : Value} (h : v = v' ∧ u = u') : Ending.returned (.tuple #[v, u]) = .returned (.tuple #[v', u']) := by rw [h.1, h.2]
theorem vi {k : IntKind} {a b : Int} (h : a = b) : Value.int k a = .int k b := by rw [h]
theorem vb {a b : Bool} (h : a = b) : Value.bool a = .bool b := by rw [h]
/-- The first place at which p holds; -1: there is none. -/
def idxP {α : Type} [Inhabited α] (p : α → Bool) (L : List α) : Int := Lib.idxBy (fun _ y => p y) L default
theorem idxP_nil {α : Type} [Inhabited α] (p : α → Bool) : idxP p [] = -1 := rfl
theorem idxP_miss {α : Type} [Inhabited α] (p : α → Bool) (L : List α) (h : ∀ (j : Nat) (x : α), L[j]? = some x → p x = false) : idxP p L = -1 := by
  have := Lib.idxBy_miss (fun _ y => p y) L L.length default (fun j hj => h j _ (get_bang hj))
  rw [List.take_length] at this
  exact this
theorem idxP_hit {α : Type} [Inhabited α] (p : α → Bool) (L : List α) (k : Nat) (x : α) (hx : L[k]? = some x) (h : p x = true) (hne : ∀ (j : Nat) (y : α), j < k → L[j]? = some y → p y = false) : idxP p L = k := by
  have hk : k < L.length := (List.getElem?_eq_some_iff.1 hx).1
  have e : L[k]! = x := by
    have := get_bang hk
    rw [hx] at this
    injection this with this
    exact this.symm
  have := Lib.idxBy_hit (fun _ y => p y) L L.length k default hk (Nat.le_refl _) (by rw [e]; exact h) (fun j hj => hne j _ hj (get_bang (by omega)))
  rw [List.take_length] at this
  exact this
theorem idxP_cases {α : Type} [Inhabited α] (p : α → Bool) (L : List α) : (idxP p L = -1 ∧ ∀ (j : Nat) (x : α), L[j]? = some x → p x = false) ∨ ∃ (k : Nat) (x : α), idxP p L = k ∧ L[k]? = some x ∧ p x = true ∧ ∀ (j : Nat) (y : α), j < k → L[j]? = some y → p y = false := by
  by_cases h : ∃ (k : Nat) (x : α), L[k]? = some x ∧ p x = true
  · obtain ⟨k, hk⟩ := h
    have : ∃ (k : Nat) (x : α), L[k]? = some x ∧ p x = true ∧ ∀ (j : Nat) (y : α), j < k → L[j]? = some y → p y = false := by
      induction k using Nat.strongRecOn with
      | ind k ih =>
        by_cases h2 : ∃ j : Nat, j < k ∧ ∃ y, L[j]? = some y ∧ p y = true
        · obtain ⟨j, hj, hy⟩ := h2
          exact ih j hj hy
        · obtain ⟨x, hx, hp⟩ := hk
          refine ⟨k, x, hx, hp, fun j y hj hy => ?_⟩
          cases hpy : p y with
          | false => rfl
          | true => exact absurd ⟨j, hj, y, hy, hpy⟩ h2
    obtain ⟨k, x, hx, hp, hne⟩ := this
    exact .inr ⟨k, x, idxP_hit p L k x hx hp hne, hx, hp, hne⟩
  · refine .inl ⟨?_, ?_⟩
    · exact idxP_miss p L (fun j x hx => by
        cases hp : p x with
        | false => rfl
        | true => exact absurd ⟨j, x, hx, hp⟩ h)
    · intro j x hx
      cases hp : p x with
      | false => rfl
      | true => exact absurd ⟨j, x, hx, hp⟩ h

end Go.Proofs.YtdjikiakcfbklaaGreat

/-
  Walks over the filter's layer: whole filters: Check.
-/
namespace Go.Proofs.YtdjikiakcfbklaaGreat
open Go Go.RowKit

instance : Inhabited RuleV := ⟨⟨false, 0, 0, 0, 0, 0, 0, 0, 0, 0, by omega, by omega, by omega, by omega, by omega, by omega, by omega⟩⟩
/-- A rule's ten cells. -/
def RuleV.enc (r : RuleV) : List Value := [.bool r.permit, .int .i64 r.proto, .int .u32 r.sa, .int .i64 r.sn, .int .u32 r.da, .int .i64 r.dn, .int .u32 r.sl, .int .u32 r.sh, .int .u32 r.dl, .int .u32 r.dh]
theorem rule_len (r : RuleV) : r.enc.length = 10 := rfl
def rcells (L : List RuleV) : List Value := L.flatMap RuleV.enc

set_option maxHeartbeats 400000 in
theorem notMay_any (r : RuleV) (w : World) :
    Calls Tryz.prog 79 #[.agg #[.bool r.permit, .int .i64 r.proto, .int .u32 r.sa, .int .i64 r.sn, .int .u32 r.da, .int .i64 r.dn, .int .u32 r.sl, .int .u32 r.sh, .int .u32 r.dl, .int .u32 r.dh]] w fun e w' => e = .returned (.bool (!mayB r)) ∧ Below w.heap.size w w' := by
  go_enter Tryz.func79, Tryz.ntmps79
  go_wp2_with fail
  refine (may_any r _).mono ?_
  rintro e w1 ⟨rfl, hb⟩
  have hbw := below_call (below1 w _) hb
  go_wp2
  go_ret
  exact ⟨rfl, hbw⟩
theorem notMay_pred (w : World) : PredBelow Tryz.prog 79 #[] (fun x : RuleV => .agg x.enc.toArray) (fun r => !mayB r) w := fun W r hb =>
  (notMay_any r W).mono fun _ _ ⟨he, hb'⟩ => ⟨he, hb.trans (hb'.mono hb.size)⟩

/-- slices.IndexFunc over rules, at any length. -/
theorem indexRule_any (L : List RuleV) (v : Value) (p : RuleV → Bool) (g : Nat) (lb : Array Value) (w : World) (eg : ∀ args w, (callFunc g args).run Tryz.prog w = .ok (.enter g args) w)
    (hp : PredBelow Tryz.prog g lb (fun x : RuleV => .agg x.enc.toArray) p w) (h : Rd w w.heap.size 10 v L.length (rcells L)) (hlen : L.length ≤ 9223372036854775807) :
    Calls Tryz.prog 112 #[v, .func (.func g) #[] lb] w fun e w' => e = .returned (.int .i64 (idxP p L)) ∧ Below w.heap.size w w' := by
  by_cases h0 : L.length = 0
  · obtain ⟨A, c, rfl, hc⟩ := h.form
    have e1 : L = [] := List.eq_nil_of_length_eq_zero h0
    subst e1
    clear hp h eg
    go_enter Tryz.func112, Tryz.ntmps112
    go_wp2
    refine wp_loop_rounds 1 ?_
    rw [rounds_succ]
    go_wp2
    go_ret
    exact ⟨rfl, Below.refl _ _⟩
  · obtain ⟨b, off, c, rfl, hc, hbB, hcell⟩ := h.pos (by omega)
    have := AnyQ.slices_IndexFunc Tryz.indexRule 10 Tryz.isAgg74 Tryz.sizeOf74 RuleV.enc rule_len p g lb eg b off L.length c L w hp (Nat.le_refl _) hlen hbB (Rd.cells rule_len hcell)
    rw [List.take_length] at this
    exact this
/-- slices.ContainsFunc over rules, at any length. -/
theorem containsRule_any (L : List RuleV) (v : Value) (p : RuleV → Bool) (g : Nat) (lb : Array Value) (w : World) (eg : ∀ args w, (callFunc g args).run Tryz.prog w = .ok (.enter g args) w)
    (hp : PredBelow Tryz.prog g lb (fun x : RuleV => .agg x.enc.toArray) p w) (h : Rd w w.heap.size 10 v L.length (rcells L)) (hlen : L.length ≤ 9223372036854775807) :
    Calls Tryz.prog 78 #[v, .func (.func g) #[] lb] w fun e w' => e = .returned (.bool (L.any p)) ∧ Below w.heap.size w w' := by
  by_cases h0 : L.length = 0
  · obtain ⟨A, c, rfl, hc⟩ := h.form
    have e1 : L = [] := List.eq_nil_of_length_eq_zero h0
    subst e1
    have hi := indexRule_any [] _ p g lb w eg hp h (by simp)
    have HI := Lib.hid hi
    clear hi hp h eg
    go_enter Tryz.func78, Tryz.ntmps78
    go_wp2_with fail
    refine HI.out.mono ?_
    rintro e w1 ⟨rfl, hb⟩
    have hm : (0 : Int) ≤ idxP p [] ↔ False := by rw [idxP_nil]; decide
    go_wp2
    go_ret
    exact ⟨ret_bool (by simp), hb⟩
  · obtain ⟨b, off, c, rfl, hc, hbB, hcell⟩ := h.pos (by omega)
    have := AnyQ.slices_ContainsFunc Tryz.containsRule 10 Tryz.isAgg74 Tryz.sizeOf74 RuleV.enc rule_len p g lb eg b off L.length c L w hp (Nat.le_refl _) hlen hbB (Rd.cells rule_len hcell)
    rw [List.take_length] at this
    exact this

/-- The refusal of a filter. -/
def filtE (L : List RuleV) : Int := if 256 < L.length then 121 else if L.any (fun r => !mayB r) then 121 else 0
theorem filtE_1 {L : List RuleV} (h : 256 < L.length) : filtE L = 121 := if_pos h
theorem filtE_2 {L : List RuleV} (h : ¬ 256 < L.length) (h1 : L.any (fun r => !mayB r) = true) : filtE L = 121 := by unfold filtE; rw [if_neg h, if_pos h1]
theorem filtE_3 {L : List RuleV} (h : ¬ 256 < L.length) (h1 : L.any (fun r => !mayB r) = false) : filtE L = 0 := by unfold filtE; rw [if_neg h, if_neg (by simp [h1])]

set_option maxHeartbeats 400000 in
theorem filtCheck_any (nm : ByteArray) (L : List RuleV) (v : Value) (w : World) (h : Rd w w.heap.size 10 v L.length (rcells L)) :
    Calls Tryz.prog 39 #[.agg #[.string nm, v]] w fun e w' => e = .returned (.int .i64 (filtE L)) ∧ Below w.heap.size w w' := by
  have hW : Below w.heap.size w (w.alloc (.cells #[.string nm, v] 77)) := below1 w _
  have h' := (h.below hW).mono hW.size
  obtain ⟨A, c, rfl, hc⟩ := h.form
  by_cases h1 : 256 < L.length
  · have hE := Lib.hid (filtE_1 h1)
    have h2 : (256 : Int) < (L.length : Int) := by omega
    clear h h'
    go_enter Tryz.func39, Tryz.ntmps39
    go_wp2
    go_ret
    exact ⟨ret_int hE.out.symm, hW⟩
  · have h2 : ¬ (256 : Int) < (L.length : Int) := by omega
    have hcon := Lib.hid (containsRule_any L _ (fun r => !mayB r) 79 #[] _ (enters_of Tryz.func79 (by kernel_rfl) rfl) (notMay_pred _) h' (by omega))
    clear h h'
    by_cases h3 : L.any (fun r => !mayB r) = true
    · have hE := Lib.hid (filtE_2 h1 h3)
      have H3 := Lib.hid h3
      clear h3 h1
      generalize L.any (fun r => !mayB r) = B at *
      go_enter Tryz.func39, Tryz.ntmps39
      go_wp2_with fail
      refine hcon.out.mono ?_
      rintro e w1 ⟨rfl, hb⟩
      have hB := H3.out
      have hbw := below_call hW hb
      go_wp2
      go_ret
      exact ⟨ret_int hE.out.symm, hbw⟩
    · have h3' : L.any (fun r => !mayB r) = false := by simpa using h3
      have hE := Lib.hid (filtE_3 h1 h3')
      have H3 := Lib.hid h3'
      clear h3 h3' h1
      generalize L.any (fun r => !mayB r) = B at *
      go_enter Tryz.func39, Tryz.ntmps39
      go_wp2_with fail
      refine hcon.out.mono ?_
      rintro e w1 ⟨rfl, hb⟩
      have hB := H3.out
      have hbw := below_call hW hb
      go_wp2
      go_ret
      exact ⟨ret_int hE.out.symm, hbw⟩

end Go.Proofs.YtdjikiakcfbklaaGreat

/-
  Walks over the filter's layer: whole filters: the reference's Check, Decides.
-/
namespace Go.Proofs.YtdjikiakcfbklaaGreat
open Go Go.RowKit Go.Sort

theorem rcell {L : List RuleV} {k i : Nat} {r : RuleV} {v : Value} (h : L[k]? = some r) (hv : r.enc[i]? = some v) : (rcells L)[k * 10 + i]? = some v := flat_get RuleV.enc 10 rule_len L k i r v h hv

end Go.Proofs.YtdjikiakcfbklaaGreat

/-
  Walks over the filter's layer: Decides; the program's and the reference's (written by wip/gen/genfilt6.py).
-/
namespace Go.Proofs.YtdjikiakcfbklaaGreat
open Go Go.RowKit Go.Sort

/-- Which rule decides. -/
def decN (L : List RuleV) (h : HeaderV) : Int := idxP (fun r => fitsB r h) L
/-- .. 0 of a filter that is refused. -/
def decR (L : List RuleV) (h : HeaderV) : Int := if filtE L = 0 then decN L h else 0
theorem decR_ok {L : List RuleV} (h : HeaderV) (h1 : filtE L = 0) : decR L h = decN L h := if_pos h1
theorem decR_no {L : List RuleV} (h : HeaderV) (h1 : ¬ filtE L = 0) : decR L h = 0 := if_neg h1

set_option maxHeartbeats 400000 in
theorem fitsClos_any (r : RuleV) (h : HeaderV) (B : Nat) (w : World) (hB : w.heap[B]? = some (.cells #[.int .u32 h.src, .int .u32 h.dst, .int .u8 h.proto, .int .u16 h.sp, .int .u16 h.dp] 28 (0, 0))) :
    Calls Tryz.prog 132 #[.agg #[.bool r.permit, .int .i64 r.proto, .int .u32 r.sa, .int .i64 r.sn, .int .u32 r.da, .int .i64 r.dn, .int .u32 r.sl, .int .u32 r.sh, .int .u32 r.dl, .int .u32 r.dh], .pointer (some ⟨B, 0, none⟩)] w fun e w' => e = .returned (.bool (fitsB r h)) ∧ Below w.heap.size w w' := by
  have hlt := lt_of_block hB
  have hne : B ≠ w.heap.size := Nat.ne_of_lt hlt
  have e0 : w.cell? ⟨B, 0, none⟩ = some (.int .u32 h.src) := cell_of_row w (B) 0 _ _ (0, 0) hB
  have e1 : w.cell? ⟨B, 1, none⟩ = some (.int .u32 h.dst) := cell_of_row w (B) 1 _ _ (0, 0) hB
  have e2 : w.cell? ⟨B, 2, none⟩ = some (.int .u8 h.proto) := cell_of_row w (B) 2 _ _ (0, 0) hB
  have e3 : w.cell? ⟨B, 3, none⟩ = some (.int .u16 h.sp) := cell_of_row w (B) 3 _ _ (0, 0) hB
  have e4 : w.cell? ⟨B, 4, none⟩ = some (.int .u16 h.dp) := cell_of_row w (B) 4 _ _ (0, 0) hB
  clear hB
  go_enter Tryz.func132, Tryz.ntmps132
  go_wp2_with fail
  refine (fits_any r h _).mono ?_
  rintro e w1 ⟨rfl, hb⟩
  have hbw := below_call (below1 w _) hb
  go_wp2
  go_ret
  exact ⟨rfl, hbw⟩
theorem fitsClos_pred (h : HeaderV) (B : Nat) (w : World) (hB : w.heap[B]? = some (.cells #[.int .u32 h.src, .int .u32 h.dst, .int .u8 h.proto, .int .u16 h.sp, .int .u16 h.dp] 28 (0, 0))) : PredBelow Tryz.prog 132 #[.pointer (some ⟨B, 0, none⟩)] (fun x : RuleV => .agg x.enc.toArray) (fun r => fitsB r h) w := fun W r hb =>
  (fitsClos_any r h B W (blk_below hb hB)).mono fun _ _ ⟨he, hb'⟩ => ⟨he, hb.trans (hb'.mono hb.size)⟩

set_option maxHeartbeats 1000000 in
theorem decides_any (nm : ByteArray) (L : List RuleV) (v : Value) (h : HeaderV) (w : World) (hr : Rd w w.heap.size 10 v L.length (rcells L)) :
    Calls Tryz.prog 110 #[.agg #[.string nm, v], .agg #[.int .u32 h.src, .int .u32 h.dst, .int .u8 h.proto, .int .u16 h.sp, .int .u16 h.dp]] w fun e w' => e = .returned (.tuple #[.int .i64 (decR L h), .int .i64 (filtE L)]) ∧ Below w.heap.size w w' := by
  have hW : Below w.heap.size w ((w.alloc (.cells #[.string nm, v] 77)).alloc (.cells #[.int .u32 h.src, .int .u32 h.dst, .int .u8 h.proto, .int .u16 h.sp, .int .u16 h.dp] 28)) := below2 w _ _
  have h' := (hr.below hW).mono hW.size
  obtain ⟨A, c, rfl, hc⟩ := hr.form
  have HR := Lib.hid h'
  clear hr h'
  by_cases h1 : filtE L = 0
  · have hd : (filtE L != 0) = false := by simp [h1]
    have H1 := Lib.hid h1
    have hE := Lib.hid (decR_ok h h1).symm
    have hlen : L.length ≤ 256 := by
      rcases Nat.lt_or_ge 256 L.length with h2 | h2
      · rw [filtE_1 h2] at h1; omega
      · exact h2
    clear h1
    go_enter Tryz.func110, Tryz.ntmps110
    go_wp2_with fail
    refine (filtCheck_any nm L _ _ HR.out).mono ?_
    rintro e w1 ⟨rfl, hb⟩
    have J0 := blk_below hb (blk2 w _ _).1
    have J1 := blk_below hb (blk2 w _ _).2
    have hbw := below_call hW hb
    have hcon := Lib.hid (indexRule_any L _ (fun r => fitsB r h) 132 #[.pointer (some ⟨w.heap.size + 1, 0, none⟩)] _ (enters_of Tryz.func132 (by kernel_rfl) rfl) (fitsClos_pred h _ _ J1) ((HR.out.below hb).mono hb.size) (by omega))
    obtain ⟨ca, cb, _, _⟩ := two_cells J0
    have l0 := lt_of_block J0
    clear hb J0 J1 hW HR
    have hdec : Hid (idxP (fun r => fitsB r h) L = decN L h) := rfl
    generalize idxP (fun r => fitsB r h) L = D at *
    go_wp2_with fail
    refine hcon.out.mono ?_
    rintro e w2 ⟨rfl, hb2⟩
    have hbw2 := below_call hbw hb2
    go_wp2
    go_ret2
    exact ⟨rt2 ⟨vi (by rw [hdec.out]; exact hE.out), vi H1.out.symm⟩, hbw2⟩
  · have hd : (filtE L != 0) = true := by simp [h1]
    have hE := Lib.hid (decR_no h h1).symm
    clear h1
    go_enter Tryz.func110, Tryz.ntmps110
    go_wp2_with fail
    refine (filtCheck_any nm L _ _ HR.out).mono ?_
    rintro e w1 ⟨rfl, hb⟩
    have hbw := below_call hW hb
    go_wp2
    go_ret2
    exact ⟨rt2 ⟨vi hE.out, rfl⟩, hbw⟩

end Go.Proofs.YtdjikiakcfbklaaGreat

/-
  Walks over the filter's layer: Permits, the rules held against each other, the law's own probe (written by wip/gen/genfilt7.py).
-/
namespace Go.Proofs.YtdjikiakcfbklaaGreat
open Go Go.RowKit Go.Sort

/-- What rule i says; false of none. -/
def permAt (L : List RuleV) (i : Int) : Bool := if 0 ≤ i then (L[i.toNat]?.map (·.permit)).getD false else false
def permN (L : List RuleV) (h : HeaderV) : Bool := permAt L (decN L h)
def permB (L : List RuleV) (h : HeaderV) : Bool := if filtE L = 0 then permN L h else false
theorem permB_ok {L : List RuleV} (h : HeaderV) (h1 : filtE L = 0) : permB L h = permN L h := if_pos h1
theorem permB_no {L : List RuleV} (h : HeaderV) (h1 : ¬ filtE L = 0) : permB L h = false := if_neg h1
theorem permN_miss {L : List RuleV} {h : HeaderV} (h2 : decN L h = -1) : permN L h = false := by unfold permN permAt; rw [h2, if_neg (by omega)]
theorem permN_hit {L : List RuleV} {h : HeaderV} {k : Nat} {r : RuleV} (h2 : decN L h = k) (h3 : L[k]? = some r) : permN L h = r.permit := by
  unfold permN permAt
  rw [h2, if_pos (by omega), Int.toNat_natCast, h3]; rfl

set_option maxHeartbeats 1000000 in
theorem permits_any (nm : ByteArray) (L : List RuleV) (v : Value) (h : HeaderV) (w : World) (hr : Rd w w.heap.size 10 v L.length (rcells L)) :
    Calls Tryz.prog 76 #[.agg #[.string nm, v], .agg #[.int .u32 h.src, .int .u32 h.dst, .int .u8 h.proto, .int .u16 h.sp, .int .u16 h.dp]] w fun e w' => e = .returned (.tuple #[.bool (permB L h), .int .i64 (filtE L)]) ∧ Below w.heap.size w w' := by
  have hW : Below w.heap.size w ((w.alloc (.cells #[.string nm, v] 77)).alloc (.cells #[.int .u32 h.src, .int .u32 h.dst, .int .u8 h.proto, .int .u16 h.sp, .int .u16 h.dp] 28)) := below2 w _ _
  have h' := (hr.below hW).mono hW.size
  have hcon := decides_any nm L v h _ h'
  by_cases h1 : filtE L = 0
  · rw [decR_ok h h1, h1] at hcon
    rw [permB_ok h h1, h1]
    rcases idxP_cases (fun r => fitsB r h) L with ⟨hD, _⟩ | ⟨k, r, hD, hk, _, _⟩
    · have hD' : decN L h = -1 := hD
      rw [hD'] at hcon
      rw [permN_miss hD']
      obtain ⟨A, c, rfl, hc⟩ := hr.form
      have hcon := Lib.hid hcon
      clear hr h' h1 hD hD'
      go_enter Tryz.func76, Tryz.ntmps76
      go_wp2_with fail
      refine hcon.out.mono ?_
      rintro e w1 ⟨rfl, hb⟩
      have hbw := below_call hW hb
      go_wp2
      go_ret2
      exact ⟨rfl, hbw⟩
    · have hD' : decN L h = k := hD
      have hlt := (List.getElem?_eq_some_iff.1 hk).1
      rw [hD'] at hcon
      rw [permN_hit hD' hk]
      obtain ⟨b, off, c, rfl, hc, hbB, hcell⟩ := hr.posAt (by omega)
      have e0 := hW.cell (p := ⟨b, off + k * 10 + 0, none⟩) hbB
      rw [hcell k 0 _ (rcell hk (v := .bool r.permit) rfl)] at e0
      have hbl : b < ((w.alloc (.cells #[.string nm, .slice (some ⟨b, off, none⟩) L.length c] 77)).alloc (.cells #[.int .u32 h.src, .int .u32 h.dst, .int .u8 h.proto, .int .u16 h.sp, .int .u16 h.dp] 28)).heap.size := by have := hW.size; omega
      have hkl : (k : Int) < (L.length : Int) := by omega
      have E0 := Lib.hid e0
      have HBL := Lib.hid hbl
      have hcon := Lib.hid hcon
      clear hr h' h1 hD hD' hcell e0 hbl hk
      go_enter Tryz.func76, Tryz.ntmps76
      go_wp2_with fail
      refine hcon.out.mono ?_
      rintro e w1 ⟨rfl, hb⟩
      have hbw := below_call hW hb
      have J0 := blk_below hb (blk2 w _ _).1
      obtain ⟨ca, cb, _, _⟩ := two_cells J0
      have c0 : w1.cell? ⟨b, off + k * 10, none⟩ = some (.bool r.permit) := (hb.cell (p := ⟨b, off + k * 10, none⟩) HBL.out).trans E0.out
      go_wp2
      go_ret2
      exact ⟨rfl, hbw⟩
  · have hd : (filtE L == 0) = false := by simp [h1]
    rw [decR_no h h1] at hcon
    rw [permB_no h h1]
    obtain ⟨A, c, rfl, hc⟩ := hr.form
    have hcon := Lib.hid hcon
    clear hr h' h1
    go_enter Tryz.func76, Tryz.ntmps76
    go_wp2_with fail
    refine hcon.out.mono ?_
    rintro e w1 ⟨rfl, hb⟩
    have hbw := below_call hW hb
    go_wp2
    go_ret2
    exact ⟨rfl, hbw⟩

theorem eqPref (a n : Int) (d : Nat) (w : World) : (Op.equalIn (d + 1 + 1) 40 (.agg #[.int .u32 a, .int .i64 n]) (.agg #[.int .u32 a, .int .i64 n])).run Tryz.prog w = .ok true w := by
  have hS : Tryz.prog.underlying 40 = some (.struct (Tryz.prog.fieldsOf 40)) := by kernel_rfl
  have hp : Tryz.prog.stoodInHeld 40 = false := by kernel_rfl
  have a1 := Tryz.underlying25
  have a2 := Tryz.isAgg25
  have a3 := Tryz.sizeOf25
  have b1 := Tryz.underlying3
  have b2 := Tryz.isAgg3
  have b3 := Tryz.sizeOf3
  rw [run_equalIn_agg w (d + 1) 40 _ _ hS hp]
  simp only [Program.fieldsOf, Tryz.underlying40]
  go_simp
theorem eqSpan (a n : Int) (d : Nat) (w : World) : (Op.equalIn (d + 1 + 1) 72 (.agg #[.int .u32 a, .int .u32 n]) (.agg #[.int .u32 a, .int .u32 n])).run Tryz.prog w = .ok true w := by
  have hS : Tryz.prog.underlying 72 = some (.struct (Tryz.prog.fieldsOf 72)) := by kernel_rfl
  have hp : Tryz.prog.stoodInHeld 72 = false := by kernel_rfl
  have a1 := Tryz.underlying24
  have a2 := Tryz.isAgg24
  have a3 := Tryz.sizeOf24
  rw [run_equalIn_agg w (d + 1) 72 _ _ hS hp]
  simp only [Program.fieldsOf, Tryz.underlying72]
  go_simp
/-- '!=' says false of a rule and itself. -/
@[go_sem] theorem neqRule (r : RuleV) (w : World) : (binOp .neq 74 (.agg #[.bool r.permit, .int .i64 r.proto, .int .u32 r.sa, .int .i64 r.sn, .int .u32 r.da, .int .i64 r.dn, .int .u32 r.sl, .int .u32 r.sh, .int .u32 r.dl, .int .u32 r.dh]) (.agg #[.bool r.permit, .int .i64 r.proto, .int .u32 r.sa, .int .i64 r.sn, .int .u32 r.da, .int .i64 r.dn, .int .u32 r.sl, .int .u32 r.sh, .int .u32 r.dl, .int .u32 r.dh])).run Tryz.prog w = .ok (.bool false) w := by
  have hS : Tryz.prog.underlying 74 = some (.struct (Tryz.prog.fieldsOf 74)) := by kernel_rfl
  have hp : Tryz.prog.stoodInHeld 74 = false := by kernel_rfl
  have b1 := Tryz.underlying3
  have b2 := Tryz.isAgg3
  have b3 := Tryz.sizeOf3
  have c1 := Tryz.underlying4
  have c2 := Tryz.isAgg4
  have c3 := Tryz.sizeOf4
  have d2 := Tryz.isAgg40
  have d3 := Tryz.sizeOf40
  have e2 := Tryz.isAgg72
  have e3 := Tryz.sizeOf72
  rw [run_neq_struct, show (10000 : Nat) = 9997 + 1 + 1 + 1 from rfl, run_equalIn_agg w (9997 + 1 + 1) 74 _ _ hS hp]
  generalize 9997 = d
  have E1 := fun a n w => eqPref a n d w
  have E2 := fun a n w => eqSpan a n d w
  simp only [Program.fieldsOf, Tryz.underlying74]
  go_simp

end Go.Proofs.YtdjikiakcfbklaaGreat

/-
  Walks over the filter's layer: the rules held against each other, the law's own probe (written by wip/gen/genfilt8.py).
-/
namespace Go.Proofs.YtdjikiakcfbklaaGreat
open Go Go.RowKit Go.Sort

def pr0 : RuleV := ⟨true, 6, 0, 0, 0, 0, 0, 65535, 80, 80, by omega, by omega, by omega, by omega, by omega, by omega, by omega⟩
def pr1 : RuleV := ⟨false, -1, 0, 0, 0, 0, 0, 65535, 0, 65535, by omega, by omega, by omega, by omega, by omega, by omega, by omega⟩
def ph0 : HeaderV := ⟨0, 0, 6, 0, 80, by omega, by omega, by omega, by omega, by omega⟩
def ph1 : HeaderV := ⟨0, 0, 6, 0, 81, by omega, by omega, by omega, by omega, by omega⟩
theorem pr_e : filtE [pr0, pr1] = 0 := by decide +kernel
theorem pr_p : permB [pr0, pr1] ph0 = true := by decide +kernel
theorem pr_d : decR [pr0, pr1] ph1 = 1 := by decide +kernel
theorem pr_cells : rcells [pr0, pr1] = (#[.bool true, .int .i64 6, .int .u32 0, .int .i64 0, .int .u32 0, .int .i64 0, .int .u32 0, .int .u32 65535, .int .u32 80, .int .u32 80, .bool false, .int .i64 (-1), .int .u32 0, .int .i64 0, .int .u32 0, .int .i64 0, .int .u32 0, .int .u32 65535, .int .u32 0, .int .u32 65535] : Array Value).toList := rfl

end Go.Proofs.YtdjikiakcfbklaaGreat

/-
  The walk of the law FilterDecides (written by wip/gen/genlawfd.py).
-/
namespace Go.Proofs.YtdjikiakcfbklaaGreat
open Go Go.RowKit Go.Sort

def HeaderV.enc (h : HeaderV) : List Value := [.int .u32 h.src, .int .u32 h.dst, .int .u8 h.proto, .int .u16 h.sp, .int .u16 h.dp]
theorem header_len (h : HeaderV) : h.enc.length = 5 := rfl
def hcells (L : List HeaderV) : List Value := L.flatMap HeaderV.enc
theorem hcell {L : List HeaderV} {k i : Nat} {h : HeaderV} {v : Value} (hr : L[k]? = some h) (hv : h.enc[i]? = some v) : (hcells L)[k * 5 + i]? = some v := flat_get HeaderV.enc 5 header_len L k i h v hr hv
/-- A slice cut at its end. -/
theorem Rd.take {α : Type} {enc : α → List Value} {k : Nat} (hk : ∀ x, (enc x).length = k) {w : World} {B : Nat} {A : Option Addr} {c n m : Nat} {L : List α} (h : Rd w B k (.slice A n c) n (L.flatMap enc)) (hn : L.length = n) (hm : m ≤ n) :
    Rd w B k (.slice A m c) m ((L.take m).flatMap enc) := by
  obtain ⟨A', c', hv, hc, hl, hp⟩ := h
  injection hv with h1 h2 h3
  subst h1 h3
  have hlen : (L.take m).length = m := by simp; omega
  refine ⟨A, c, rfl, by omega, by rw [flat_len enc k hk, hlen], fun hm0 => ?_⟩
  obtain ⟨b, off, hA, hB, hcell⟩ := hp (by omega)
  refine ⟨b, off, hA, hB, fun j u hu => hcell j u ?_⟩
  have e : L.flatMap enc = (L.take m).flatMap enc ++ (L.drop m).flatMap enc := by rw [← List.flatMap_append, List.take_append_drop]
  rw [e, List.getElem?_append_left (List.getElem?_eq_some_iff.1 hu).1]
  exact hu

theorem src_cells {w W : World} {B b off k n c : Nat} {xs : List Value} (h : Rd w B k (.slice (some ⟨b, off, none⟩) n c) n xs) (hn : 0 < n) (hb : Below B w W) :
    ∀ j u, xs[j]? = some u → W.cell? ((⟨b, off, none⟩ : Addr).add j) = some u := by
  obtain ⟨b', off', c', hv, _, hB, hcell⟩ := h.pos hn
  injection hv with h1 _ _
  injection h1 with h1
  injection h1 with h1 h2
  subst h1 h2
  intro j u hu
  have e : (⟨b, off, none⟩ : Addr).add j = ⟨b, off + j, none⟩ := by simp [Addr.add]
  rw [e]
  exact (hb.cell (p := ⟨b, off + j, none⟩) hB).trans (hcell j u hu)
theorem new_at0 (w : World) (o : Obj) : (w.alloc o).drew.heap[w.heap.size]? = some o := heap_alloc_new w o
theorem new_at1 (w : World) (o p : Obj) : ((w.alloc o).alloc p).drew.heap[w.heap.size + 1]? = some p := (blk2 w o p).2
theorem new_at2 (w : World) (o p : Obj) : ((w.alloc o).alloc p).drew.heap[w.heap.size]? = some o := (blk2 w o p).1
theorem below_drewL {B : Nat} {a w : World} (h : Below B a w) : Below B a w.drew := ⟨h.os, h.tape, h.output, h.size, h.block⟩
theorem below_grown0 {B : Nat} {a w w' : World} (h : Below B a w) (hB : B ≤ w.heap.size) (hg : w.grownBy w' none) : Below B a w' := h.grown hg hB (fun k hk => by cases hk)
theorem Tryz.infoRule : (Tryz.prog.info? 74).map (fun i => (i.zero, i.size, i.bytes)) = some (some (.agg #[.bool false, .int .i64 0, .int .u32 0, .int .i64 0, .int .u32 0, .int .i64 0, .int .u32 0, .int .u32 0, .int .u32 0, .int .u32 0]), 10, 64) := by kernel_rfl
theorem leafAfter {wc w2 : World} {base n : Nat} {xs : List Value} {nm : ByteArray} {v : Value} (hO : w2.ownsRow base 74 10 v n xs) (hb2 : Below wc.heap.size wc w2) :
    ∃ (g : Nat) (v2 : Value), Value.pointer (some ⟨w2.heap.size, 0, none⟩) = .pointer (some ⟨g, 0, none⟩) ∧ (w2.alloc (.cells #[.string nm, v] 77)).heap[g]? = some (.cells #[.string nm, v2] 77 (0, 0)) ∧ Rd (w2.alloc (.cells #[.string nm, v] 77)) (w2.alloc (.cells #[.string nm, v] 77)).heap.size 10 v2 n xs ∧ Hid (Below wc.heap.size wc (w2.alloc (.cells #[.string nm, v] 77))) :=
  ⟨w2.heap.size, v, rfl, blk1 w2 _, ((Rd.of_own hO).below (below1 w2 _)).mono (by simp), hb2.alloc hb2.size _⟩
theorem leafBefore {wc w2 : World} {base n G : Nat} {xs : List Value} {nm : ByteArray} {v a b : Value} (hO : w2.ownsRow base 74 10 v n xs) (hq : w2.heap[G]? = some (.cells #[a, b] 77 (0, 0))) (hG : G < base) (hGw : wc.heap.size ≤ G) (hb2 : Below wc.heap.size wc w2) :
    ∃ (g : Nat) (v2 : Value), Value.pointer (some ⟨G, 0, none⟩) = .pointer (some ⟨g, 0, none⟩) ∧ ((w2.setCell ⟨G, 0, none⟩ (.string nm)).setCell ⟨G, 1, none⟩ v).heap[g]? = some (.cells #[.string nm, v2] 77 (0, 0)) ∧ Rd ((w2.setCell ⟨G, 0, none⟩ (.string nm)).setCell ⟨G, 1, none⟩ v) ((w2.setCell ⟨G, 0, none⟩ (.string nm)).setCell ⟨G, 1, none⟩ v).heap.size 10 v2 n xs ∧ Hid (Below wc.heap.size wc ((w2.setCell ⟨G, 0, none⟩ (.string nm)).setCell ⟨G, 1, none⟩ v)) :=
  ⟨G, v, rfl, set_1 (set_0 hq), Rd.of_own (owns_kept_lt hO (only_setCell (only_setCell (World.grownBy.refl w2 (some G)) (.inl rfl) _) (.inl rfl) _) hG), (hb2.setCell hGw _).setCell hGw _⟩
theorem far2 {w : World} {G a j : Nat} {u v x : Value} (h : a ≠ G) (hx : w.cell? ⟨a, j, none⟩ = some x) : ((w.setCell ⟨G, 0, none⟩ u).setCell ⟨G, 1, none⟩ v).cell? ⟨a, j, none⟩ = some x :=
  (World.cell?_of_block (w := w.setCell ⟨G, 0, none⟩ u) (Below.heap_setCell _ _ _ _ h)).trans ((World.cell?_of_block (w := w) (Below.heap_setCell _ _ _ _ h)).trans hx)
theorem liftLeaf {w wc wx : World} {n : Nat} {p : Value} {q : ByteArray} {xs : List Value} {u : Value}
    (h : ∃ (g : Nat) (v2 : Value), p = .pointer (some ⟨g, 0, none⟩) ∧ wx.heap[g]? = some (.cells #[.string q, v2] 77 (0, 0)) ∧ Rd wx wx.heap.size 10 v2 n xs ∧ Hid (Below wc.heap.size wc wx))
    {A B : Obj} (h0 : wc.heap[w.heap.size]? = some A) (h1 : wc.heap[w.heap.size + 1]? = some B) (hR : Rd wc w.heap.size 10 u n xs) (hb : Hid (Below w.heap.size w wc)) :
    ∃ (g : Nat) (v2 : Value), p = .pointer (some ⟨g, 0, none⟩) ∧ wx.heap[g]? = some (.cells #[.string q, v2] 77 (0, 0)) ∧ Rd wx wx.heap.size 10 v2 n xs ∧ wx.heap[w.heap.size]? = some A ∧ wx.heap[w.heap.size + 1]? = some B ∧ Rd wx w.heap.size 10 u n xs ∧ Hid (Below w.heap.size w wx) := by
  obtain ⟨g, v2, h2, h3, h4, h5⟩ := h
  have hx := h5.out
  exact ⟨g, v2, h2, h3, h4, blk_below hx h0, blk_below hx h1, hR.below (hx.mono hb.out.size), hb.out.trans (hx.mono hb.out.size)⟩
theorem fixO {w : World} {base n c : Nat} {A : Option Addr} {xs : List Value} (h : w.ownsRow base 74 10 (.slice A (0 + n) c) (0 + n) ([] ++ xs)) : w.ownsRow base 74 10 (.slice A n c) n xs := by
  rw [Nat.zero_add] at h; exact h
theorem blt0 (w : World) (o p : Obj) : w.heap.size < ((w.alloc o).alloc p).drew.heap.size := by
  have h : ((w.alloc o).alloc p).drew.heap.size = w.heap.size + 1 + 1 := by show ((w.alloc o).alloc p).heap.size = _; simp
  omega
theorem blt1 (w : World) (o p : Obj) : w.heap.size + 1 < ((w.alloc o).alloc p).drew.heap.size := by
  have h : ((w.alloc o).alloc p).drew.heap.size = w.heap.size + 1 + 1 := by show ((w.alloc o).alloc p).heap.size = _; simp
  omega
theorem rcells_one (L : List RuleV) : ∀ u ∈ rcells L, u.oneCell' = true := by
  intro u hu
  obtain ⟨r, _, hr⟩ := List.mem_flatMap.1 hu
  simp only [RuleV.enc, List.mem_cons, List.not_mem_nil, or_false] at hr
  rcases hr with rfl | rfl | rfl | rfl | rfl | rfl | rfl | rfl | rfl | rfl <;> rfl

theorem decides_ok (nm : ByteArray) (L : List RuleV) (v : Value) (h : HeaderV) (w : World) (hr : Rd w w.heap.size 10 v L.length (rcells L)) (h1 : filtE L = 0) :
    Calls Tryz.prog 110 #[.agg #[.string nm, v], .agg #[.int .u32 h.src, .int .u32 h.dst, .int .u8 h.proto, .int .u16 h.sp, .int .u16 h.dp]] w fun e w' => e = .returned (.tuple #[.int .i64 (decN L h), .int .i64 0]) ∧ Below w.heap.size w w' := by
  have := decides_any nm L v h w hr
  rw [decR_ok h h1, h1] at this
  exact this
theorem decides_no (nm : ByteArray) (L : List RuleV) (v : Value) (h : HeaderV) (w : World) (hr : Rd w w.heap.size 10 v L.length (rcells L)) (h1 : ¬ filtE L = 0) :
    Calls Tryz.prog 110 #[.agg #[.string nm, v], .agg #[.int .u32 h.src, .int .u32 h.dst, .int .u8 h.proto, .int .u16 h.sp, .int .u16 h.dp]] w fun e w' => e = .returned (.tuple #[.int .i64 0, .int .i64 (filtE L)]) ∧ Below w.heap.size w w' := by
  have := decides_any nm L v h w hr
  rw [decR_no h h1] at this
  exact this
theorem permits_ok (nm : ByteArray) (L : List RuleV) (v : Value) (h : HeaderV) (w : World) (hr : Rd w w.heap.size 10 v L.length (rcells L)) (h1 : filtE L = 0) :
    Calls Tryz.prog 76 #[.agg #[.string nm, v], .agg #[.int .u32 h.src, .int .u32 h.dst, .int .u8 h.proto, .int .u16 h.sp, .int .u16 h.dp]] w fun e w' => e = .returned (.tuple #[.bool (permN L h), .int .i64 0]) ∧ Below w.heap.size w w' := by
  have := permits_any nm L v h w hr
  rw [permB_ok h h1, h1] at this
  exact this
theorem permits_no (nm : ByteArray) (L : List RuleV) (v : Value) (h : HeaderV) (w : World) (hr : Rd w w.heap.size 10 v L.length (rcells L)) (h1 : ¬ filtE L = 0) :
    Calls Tryz.prog 76 #[.agg #[.string nm, v], .agg #[.int .u32 h.src, .int .u32 h.dst, .int .u8 h.proto, .int .u16 h.sp, .int .u16 h.dp]] w fun e w' => e = .returned (.tuple #[.bool false, .int .i64 (filtE L)]) ∧ Below w.heap.size w w' := by
  have := permits_any nm L v h w hr
  rw [permB_no h h1] at this
  exact this

/-- What the law's own memory holds behind its first statements: the filter as it was handed in (cut), its copy, the rule. -/
def FDst (nm : ByteArray) (M : List RuleV) (A2 : Option Addr) (c0 : Nat) (A3 : Option Addr) (c3 : Nat) (r : RuleV) (w : World) (g : Nat) (W : World) : Prop :=
  W.heap[g]? = some (.cells #[.string nm, .slice A3 M.length c3] 77 (0, 0)) ∧ Rd W W.heap.size 10 (.slice A3 M.length c3) M.length (rcells M) ∧ W.heap[w.heap.size]? = some (.cells #[.string nm, .slice A2 M.length c0] 77 (0, 0)) ∧ W.heap[w.heap.size + 1]? = some (.cells #[.bool r.permit, .int .i64 r.proto, .int .u32 r.sa, .int .i64 r.sn, .int .u32 r.da, .int .i64 r.dn, .int .u32 r.sl, .int .u32 r.sh, .int .u32 r.dl, .int .u32 r.dh] 74 (0, 0)) ∧ Rd W w.heap.size 10 (.slice A2 M.length c0) M.length (rcells M) ∧ Below w.heap.size w W
section
variable {nm : ByteArray} {M : List RuleV} {A2 : Option Addr} {c0 : Nat} {A3 : Option Addr} {c3 : Nat} {r : RuleV} {w : World} {g : Nat} {W W' : World}
theorem FDst.next (h : FDst nm M A2 c0 A3 c3 r w g W) (hb : Below W.heap.size W W') : FDst nm M A2 c0 A3 c3 r w g W' := by
  obtain ⟨h1, h2, h3, h4, h5, h6⟩ := h
  exact ⟨blk_below hb h1, (h2.below hb).mono hb.size, blk_below hb h3, blk_below hb h4, h5.below (hb.mono h6.size), h6.trans (hb.mono h6.size)⟩
theorem FDst.own (h : FDst nm M A2 c0 A3 c3 r w g W) : W.cell? ⟨g, 0, none⟩ = some (.string nm) ∧ W.cell? ⟨g, 1, none⟩ = some (.slice A3 M.length c3) := ⟨(two_cells h.1).1, (two_cells h.1).2.1⟩
theorem FDst.its (h : FDst nm M A2 c0 A3 c3 r w g W) : W.cell? ⟨w.heap.size, 0, none⟩ = some (.string nm) ∧ W.cell? ⟨w.heap.size, 1, none⟩ = some (.slice A2 M.length c0) := ⟨(two_cells h.2.2.1).1, (two_cells h.2.2.1).2.1⟩
theorem FDst.rule (h : FDst nm M A2 c0 A3 c3 r w g W) : W.cell? ⟨w.heap.size + 1, 0, none⟩ = some (.bool r.permit) ∧ W.cell? ⟨w.heap.size + 1, 1, none⟩ = some (.int .i64 r.proto) ∧ W.cell? ⟨w.heap.size + 1, 2, none⟩ = some (.int .u32 r.sa) ∧ W.cell? ⟨w.heap.size + 1, 3, none⟩ = some (.int .i64 r.sn) ∧ W.cell? ⟨w.heap.size + 1, 4, none⟩ = some (.int .u32 r.da) ∧ W.cell? ⟨w.heap.size + 1, 5, none⟩ = some (.int .i64 r.dn) ∧ W.cell? ⟨w.heap.size + 1, 6, none⟩ = some (.int .u32 r.sl) ∧ W.cell? ⟨w.heap.size + 1, 7, none⟩ = some (.int .u32 r.sh) ∧ W.cell? ⟨w.heap.size + 1, 8, none⟩ = some (.int .u32 r.dl) ∧ W.cell? ⟨w.heap.size + 1, 9, none⟩ = some (.int .u32 r.dh) :=
  ⟨cell_of_row W (w.heap.size + 1) 0 _ _ (0, 0) h.2.2.2.1, cell_of_row W (w.heap.size + 1) 1 _ _ (0, 0) h.2.2.2.1, cell_of_row W (w.heap.size + 1) 2 _ _ (0, 0) h.2.2.2.1, cell_of_row W (w.heap.size + 1) 3 _ _ (0, 0) h.2.2.2.1, cell_of_row W (w.heap.size + 1) 4 _ _ (0, 0) h.2.2.2.1, cell_of_row W (w.heap.size + 1) 5 _ _ (0, 0) h.2.2.2.1, cell_of_row W (w.heap.size + 1) 6 _ _ (0, 0) h.2.2.2.1, cell_of_row W (w.heap.size + 1) 7 _ _ (0, 0) h.2.2.2.1, cell_of_row W (w.heap.size + 1) 8 _ _ (0, 0) h.2.2.2.1, cell_of_row W (w.heap.size + 1) 9 _ _ (0, 0) h.2.2.2.1⟩
theorem FDst.rd (h : FDst nm M A2 c0 A3 c3 r w g W) : Rd W W.heap.size 10 (.slice A3 M.length c3) M.length (rcells M) := h.2.1
theorem FDst.rdf (h : FDst nm M A2 c0 A3 c3 r w g W) : Rd W W.heap.size 10 (.slice A2 M.length c0) M.length (rcells M) := h.2.2.2.2.1.mono h.2.2.2.2.2.size
theorem FDst.bel (h : FDst nm M A2 c0 A3 c3 r w g W) : Below w.heap.size w W := h.2.2.2.2.2
theorem FDst.lt (h : FDst nm M A2 c0 A3 c3 r w g W) : g < W.heap.size ∧ w.heap.size < W.heap.size ∧ w.heap.size + 1 < W.heap.size := ⟨lt_of_block h.1, lt_of_block h.2.2.1, lt_of_block h.2.2.2.1⟩
theorem ask_cell {A : List HeaderV} {b1 o1 k i : Nat} {h : HeaderV} {v : Value} (hb : Below w.heap.size w W) (hbl : b1 < w.heap.size) (hc : ∀ i j u, (hcells A)[i * 5 + j]? = some u → w.cell? ⟨b1, o1 + i * 5 + j, none⟩ = some u) (hk : A[k]? = some h) (hv : h.enc[i]? = some v) : W.cell? ⟨b1, o1 + k * 5 + i, none⟩ = some v :=
  (hb.cell (p := ⟨b1, o1 + k * 5 + i, none⟩) hbl).trans (hc k i v (hcell hk hv))
end

end Go.Proofs.YtdjikiakcfbklaaGreat

/-
  Walks over the addresses' layer: Mask, Bits, Subnet; the program's and the reference's.
-/
namespace Go.Proofs.YtdjikiakcfbklaaGreat
open Go Go.RowKit Go.Sort

/-- The mask of so many bits, and the refusal. -/
def maskA (n : Int) : Int := if n < 0 ∨ 32 < n then 0 else 4294967296 - sz n
def argE (n : Int) : Int := if n < 0 ∨ 32 < n then 1 else 0
theorem mask_no {n : Int} (h : n < 0 ∨ 32 < n) : maskA n = 0 ∧ argE n = 1 := ⟨if_pos h, if_pos h⟩
theorem mask_yes {n : Int} (h0 : 0 ≤ n) (h1 : n ≤ 32) : maskA n = 4294967296 - sz n ∧ argE n = 0 := ⟨if_neg (by omega), if_neg (by omega)⟩
theorem ret2 {v v' u u' : Value} (h : v = v' ∧ u = u') : Ending.returned (.tuple #[v, u]) = .returned (.tuple #[v', u']) := by rw [h.1, h.2]
theorem vint {k : IntKind} {a b : Int} (h : a = b) : Value.int k a = .int k b := by rw [h]

theorem mask_range (n : Int) : 0 ≤ maskA n ∧ maskA n < 4294967296 := by
  unfold maskA
  have hp := sz_pos n
  have hq := sz_le n
  split <;> omega
/-- Of how many bits a mask is, and the refusal. -/
def bitsN (m : Int) : Int := if maskA (lz32 (4294967295 - m)) = m then lz32 (4294967295 - m) else 0
def bitsE (m : Int) : Int := if maskA (lz32 (4294967295 - m)) = m then 0 else 10
theorem bits_yes {m : Int} (h : maskA (lz32 (4294967295 - m)) = m) : bitsN m = lz32 (4294967295 - m) ∧ bitsE m = 0 := ⟨if_pos h, if_pos h⟩
theorem bits_no {m : Int} (h : ¬ maskA (lz32 (4294967295 - m)) = m) : bitsN m = 0 ∧ bitsE m = 10 := ⟨if_neg h, if_neg h⟩
theorem mask_lz (n : Int) (h0 : 0 ≤ n) (h1 : n ≤ 32) : lz32 (4294967295 - maskA n) = n := by
  rw [(mask_yes h0 h1).1, show 4294967295 - (4294967296 - sz n) = sz n - 1 by omega]
  exact lz32_mask n h0 h1

end Go.Proofs.YtdjikiakcfbklaaGreat

/-
  Walks over the addresses' layer: Subnet, Ends; the program's and the reference's.
-/
namespace Go.Proofs.YtdjikiakcfbklaaGreat
open Go Go.RowKit Go.Sort

/-- The first address of a subnet of so many bits. -/
def subA (a n : Int) : Int := if n < 0 ∨ 32 < n then 0 else a - a % sz n
def subN (n : Int) : Int := if n < 0 ∨ 32 < n then 0 else n
theorem sub_no {n : Int} (a : Int) (h : n < 0 ∨ 32 < n) : subA a n = 0 ∧ subN n = 0 ∧ argE n = 1 := ⟨if_pos h, if_pos h, if_pos h⟩
theorem sub_yes {n : Int} (a : Int) (h0 : 0 ≤ n) (h1 : n ≤ 32) : subA a n = a - a % sz n ∧ subN n = n ∧ argE n = 0 := ⟨if_neg (by omega), if_neg (by omega), if_neg (by omega)⟩
theorem mod_le (a n : Int) (h0 : 0 ≤ a) : 0 ≤ a % sz n ∧ a % sz n ≤ a ∧ a % sz n < sz n ∧ a / sz n * sz n = a - a % sz n ∧ 0 ≤ a / sz n := by
  have hp := sz_pos n
  have l1 := Int.emod_nonneg a (by omega : sz n ≠ 0)
  have l2 := Int.emod_lt_of_pos a (by omega : 0 < sz n)
  have e1 := Int.emod_add_mul_ediv a (sz n)
  have e3 := Int.ediv_nonneg h0 (by omega : 0 ≤ sz n)
  have e2 := Int.mul_nonneg (by omega : 0 ≤ sz n) e3
  rw [Int.mul_comm (a / sz n)]
  omega
theorem sub_range (a n : Int) (h0 : 0 ≤ a) (h1 : a < 4294967296) : 0 ≤ subA a n ∧ subA a n < 4294967296 := by
  unfold subA
  obtain ⟨m1, m2, _⟩ := mod_le a n h0
  split <;> omega
theorem sub_val (a n : Int) (h0 : 0 ≤ a) (h1 : a < 4294967296) : IntKind.u32.wrap (IntKind.u64.wrap (IntKind.u64.wrap ((IntKind.u64.wrap a).tdiv (sz n)) * sz n)) = a - a % sz n := by
  have hp := sz_pos n
  obtain ⟨m1, m2, m3, m4, m5⟩ := mod_le a n h0
  have e1 : IntKind.u64.wrap a = a := by rw [IntKind.wrap_u64]; omega
  have m6 : a / sz n ≤ a := Int.ediv_le_self _ h0
  rw [e1, Int.tdiv_eq_ediv_of_nonneg h0]
  have e2 : IntKind.u64.wrap (a / sz n) = a / sz n := by rw [IntKind.wrap_u64]; omega
  rw [e2, m4, IntKind.wrap_u64, IntKind.wrap_u32']
  omega
theorem ret_p2 {a a' n n' e e' : Int} (h : a = a' ∧ n = n' ∧ e = e') : Ending.returned (.tuple #[.agg #[.int .u32 a, .int .i64 n], .int .i64 e]) = .returned (.tuple #[.agg #[.int .u32 a', .int .i64 n'], .int .i64 e']) := by rw [h.1, h.2.1, h.2.2]

/-- The last address of a prefix that may be. -/
def endA (a n : Int) : Int := if chk a n = 0 then a else 0
def endB (a n : Int) : Int := if chk a n = 0 then a + sz n - 1 else 0
theorem end_yes {a n : Int} (h : chk a n = 0) : endA a n = a ∧ endB a n = a + sz n - 1 := ⟨if_pos h, if_pos h⟩
theorem end_no {a n : Int} (h : ¬ chk a n = 0) : endA a n = 0 ∧ endB a n = 0 := ⟨if_neg h, if_neg h⟩
theorem ret3 {v v' u u' x x' : Value} (h : v = v' ∧ u = u' ∧ x = x') : Ending.returned (.tuple #[v, u, x]) = .returned (.tuple #[v', u', x']) := by rw [h.1, h.2.1, h.2.2]
theorem or_sz (a n : Int) (ha : 0 ≤ a) (hb : a < 4294967296) (h : a % sz n = 0) : bits .or .u32 a (sz n - 1) = a + sz n - 1 := by
  obtain ⟨a, rfl⟩ := Int.eq_ofNat_of_zero_le ha
  have hp := sz_pos n
  have hq := sz_le n
  rw [u32_or _ _ ha hb (by omega) (by omega), sz_nat]
  have e : (((2 ^ (32 - n.toNat) : Nat) : Int) - 1).toNat = 2 ^ (32 - n.toNat) - 1 := by omega
  have hm : a % 2 ^ (32 - n.toNat) = 0 := by rw [sz_nat] at h; omega
  have h2 := Nat.two_pow_pos (32 - n.toNat)
  rw [e, Int.toNat_natCast, nat_join (32 - n.toNat) a _ hm (by omega)]
  omega
theorem end_le (a n : Int) (hb : a < 4294967296) (h : a % sz n = 0) : a + sz n - 1 < 4294967296 := by
  obtain ⟨c, hc⟩ := sz_dvd n
  have hp := sz_pos n
  have e1 := Int.emod_add_mul_ediv a (sz n)
  rw [h] at e1
  have : sz n * (a / sz n) < sz n * c := by omega
  have h3 : a / sz n < c := Int.lt_of_mul_lt_mul_left this (by omega)
  have h4 : sz n * (a / sz n + 1) ≤ sz n * c := Int.mul_le_mul_of_nonneg_left (by omega) (by omega)
  rw [Int.mul_add] at h4
  omega

end Go.Proofs.YtdjikiakcfbklaaGreat

/-
  Walks over the addresses' layer: Halves; the program's and the reference's.
-/
namespace Go.Proofs.YtdjikiakcfbklaaGreat
open Go Go.RowKit Go.Sort

/-- The halves of a prefix: the refusal, where they begin, their bits. -/
def halfE (a n : Int) : Int := if chk a n = 0 then (if n = 32 then 5 else 0) else chk a n
def halfL (a n : Int) : Int := if halfE a n = 0 then a else 0
def halfH (a n : Int) : Int := if halfE a n = 0 then a + sz (n + 1) else 0
def halfN (a n : Int) : Int := if halfE a n = 0 then n + 1 else 0
theorem half_no {a n : Int} (h : ¬ halfE a n = 0) : halfL a n = 0 ∧ halfH a n = 0 ∧ halfN a n = 0 := ⟨if_neg h, if_neg h, if_neg h⟩
theorem half_yes {a n : Int} (h : halfE a n = 0) : halfL a n = a ∧ halfH a n = a + sz (n + 1) ∧ halfN a n = n + 1 := ⟨if_pos h, if_pos h, if_pos h⟩
theorem halfE_chk {a n : Int} (h : ¬ chk a n = 0) : halfE a n = chk a n := if_neg h
theorem halfE_32 {a n : Int} (h : chk a n = 0) (h1 : n = 32) : halfE a n = 5 := by unfold halfE; rw [if_pos h, if_pos h1]
theorem halfE_ok {a n : Int} (h : chk a n = 0) (h1 : ¬ n = 32) : halfE a n = 0 := by unfold halfE; rw [if_pos h, if_neg h1]
theorem ret_pp {a a' b b' n n' e e' : Int} (h : a = a' ∧ b = b' ∧ n = n' ∧ e = e') : Ending.returned (.tuple #[.agg #[.int .u32 a, .int .i64 n], .agg #[.int .u32 b, .int .i64 n], .int .i64 e]) = .returned (.tuple #[.agg #[.int .u32 a', .int .i64 n'], .agg #[.int .u32 b', .int .i64 n'], .int .i64 e']) := by rw [h.1, h.2.1, h.2.2.1, h.2.2.2]

theorem half_le (a n : Int) (hb : a < 4294967296) (hn0 : 0 ≤ n) (hn : n < 32) (h : a % sz n = 0) : sz n = 2 * sz (n + 1) ∧ a + sz (n + 1) < 4294967296 := by
  have e : sz n = 2 * sz (n + 1) := by
    unfold sz
    rw [← p2_succ]
    congr 1; omega
  have h1 := end_le a n hb h
  have := sz_pos (n + 1)
  omega
theorem or_half (a n : Int) (ha : 0 ≤ a) (hb : a < 4294967296) (hn0 : 0 ≤ n) (hn : n < 32) (h : a % sz n = 0) : bits .or .u32 a (2 ^ (31 - n).toNat % 4294967296) = a + sz (n + 1) := by
  obtain ⟨a, rfl⟩ := Int.eq_ofNat_of_zero_le ha
  have e1 : (31 - n).toNat = 32 - (n + 1).toNat := by omega
  have e2 : (2 : Int) ^ (31 - n).toNat = sz (n + 1) := by rw [e1]; rfl
  have hp := sz_pos (n + 1)
  have e3 : sz (n + 1) < 4294967296 := by
    have := p2_succ (32 - (n + 1).toNat)
    have h3 := p2_le32 (k := 32 - (n + 1).toNat + 1) (by omega)
    unfold sz at *
    omega
  rw [e2, Int.emod_eq_of_lt (by omega) e3, u32_or _ _ ha hb (by omega) e3, sz_nat]
  have h2 := Nat.two_pow_pos (32 - (n + 1).toNat)
  have hm : a % 2 ^ (32 - n.toNat) = 0 := by rw [sz_nat] at h; omega
  rw [Int.toNat_natCast, Int.toNat_natCast, nat_join (32 - n.toNat) a _ hm (by
    rw [show 32 - n.toNat = (32 - (n + 1).toNat) + 1 by omega, Nat.pow_succ]; omega)]
  omega

theorem half_val (a n : Int) (ha : 0 ≤ a) (hb : a < 4294967296) (hn0 : 0 ≤ n) (hn : n < 32) (h : a % sz n = 0) : IntKind.u32.wrap (IntKind.u64.wrap (IntKind.u64.wrap a + sz (n + 1))) = a + sz (n + 1) := by
  have h1 := half_le a n hb hn0 hn h
  have := sz_pos (n + 1)
  simp only [IntKind.wrap_u64, IntKind.wrap_u32']
  omega
theorem results_pp {fn : Func} {tmps : Array Value} {w : World} {g1 g2 : Nat} {a b c d e : Value} {t1 t2 t3 : Nat} (hf : fn.results = #[.cell t1 40, .cell t2 40, .tmp t3]) (h1 : tmps.getD t1 undef = .pointer (some ⟨g1, 0, none⟩)) (h2 : tmps.getD t2 undef = .pointer (some ⟨g2, 0, none⟩)) (h3 : tmps.getD t3 undef = e)
    (k1 : w.heap[g1]? = some (.cells #[a, b] 40 (0, 0))) (k2 : w.heap[g2]? = some (.cells #[c, d] 40 (0, 0))) :
    (results fn tmps).run Tryz.prog w = .ok (.tuple #[.agg #[a, b], .agg #[c, d], e]) w := by
  obtain ⟨c0, c1, _, _⟩ := two_cells k1
  obtain ⟨c2, c3, _, _⟩ := two_cells k2
  have h1' : tmps[t1]?.getD undef = .pointer (some ⟨g1, 0, none⟩) := by simpa using h1
  have h2' : tmps[t2]?.getD undef = .pointer (some ⟨g2, 0, none⟩) := by simpa using h2
  have h3' : tmps[t3]?.getD undef = e := by simpa using h3
  simp [results, hf, h1', h2', h3', go_sem, c0, c1, c2, c3]

def HalfRes (a n : Int) (w : World) (en : Ending) (w' : World) : Prop :=
  en = .returned (.tuple #[.agg #[.int .u32 (halfL a n), .int .i64 (halfN a n)], .agg #[.int .u32 (halfH a n), .int .i64 (halfN a n)], .int .i64 (halfE a n)]) ∧ Below w.heap.size w w'

end Go.Proofs.YtdjikiakcfbklaaGreat

/-
  Walks over the addresses' layer: Within, Cmp, and the law's same; the program's and the reference's.
-/
namespace Go.Proofs.YtdjikiakcfbklaaGreat
open Go Go.RowKit Go.Sort

/-- Is a prefix in another one? -/
def withinB (a n b m : Int) : Bool := decide (chk a n = 0 ∧ m ≤ n) && inB a b m
theorem within_1 {a n : Int} (b m : Int) (h : ¬ chk a n = 0) : false = withinB a n b m := by unfold withinB; simp [h]
theorem within_2 {n m : Int} (a b : Int) (h : ¬ m ≤ n) : false = withinB a n b m := by unfold withinB; simp [h]
theorem within_3 {a n b m : Int} (h : ¬ chk b m = 0) : false = withinB a n b m := by unfold withinB; rw [← in_no a b m h]; simp
theorem within_4 {a n b m : Int} (h : chk a n = 0) (h1 : m ≤ n) : inB a b m = withinB a n b m := by unfold withinB; simp [h, h1]

end Go.Proofs.YtdjikiakcfbklaaGreat

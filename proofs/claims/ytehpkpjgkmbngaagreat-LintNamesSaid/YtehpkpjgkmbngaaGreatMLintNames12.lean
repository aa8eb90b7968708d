/-
  Joined texts: Ln3, Ln4, Ln5, Re1, Dec, Ad1, Ad2, Addr3, Addr4, Ad3, Addr5.
-/
import Derived.Test.YtehpkpjgkmbngaaGreatMLintNames11
import Derived.Test.YtehpkpjgkmbngaaGreatMLintNames1
import Derived.Test.YtehpkpjgkmbngaaGreatMLintNames3
import Derived.Lib.AtoiTie
import Derived.Lib.AtoiAllCases
import Derived.Lib.ItoaLen
import Derived.Lib.SplitLaws
import Derived.Lib.Join
import Derived.Test.YtehpkpjgkmbngaaGreatShelf
import Derived.Lib.AppendIntMem
import Derived.Lib.AtoiErrMem
import Derived.Lib.SmallJoins
import Derived.Test.YtehpkpjgkmbngaaGreatMLintNames4
import Derived.Deep.RegionHeld3
import Derived.StillTailTactics
import Derived.Lib.JoinLaws
import Derived.RegionTactic
import Derived.BigRegion
/-
  The places of which it is so: lint.places.
-/
namespace Go.Proofs.YtehpkpjgkmbngaaGreat
open Go Go.RowKit Go.ChangeMaps Go.MapKept Go.Maps Go.Lib Go.Sort

def plL (p : Nat → Bool) (m : Nat) : List Nat := (List.range m).filter p
theorem plL_succ (p : Nat → Bool) (m : Nat) : plL p (m + 1) = if p m then plL p m ++ [m] else plL p m := by
  unfold plL
  rw [List.range_succ, List.filter_append]
  by_cases h : p m = true
  · rw [if_pos h]; simp [h]
  · rw [if_neg h]; simp [h]
theorem plL_len (p : Nat → Bool) (m : Nat) : (plL p m).length ≤ m := by
  have := List.length_filter_le p (List.range m)
  rw [List.length_range] at this
  exact this
section
set_option maxRecDepth 100000
set_option maxHeartbeats 4000000
theorem places_any (n : Nat) (fid : FuncId) (caps : Array Value) (p : Nat → Bool) (w : World) (en : ∀ (args : Array Value) (W : World), (callFunc fid args).run Tryz.prog W = .ok (.enter fid args) W)
    (hp : ∀ i W, i < n → Below w.heap.size w W → Calls Tryz.prog fid (#[.int .i64 i] ++ caps) W fun e W' => e = .returned (.bool (p i)) ∧ Below W.heap.size W W') (hn : n ≤ 1099511627776) :
    Calls Tryz.prog 20 #[.int .i64 n, .func (.func fid) #[] caps] w fun e w' => ∃ v, e = .returned v ∧ w'.ownsRow w.heap.size 3 1 v (plL p n).length (ncl (plL p n)) ∧ Below w.heap.size w w' := by
  obtain ⟨i0, hif, hz0, hz1, hz2⟩ := info_parts Tryz.infoInt
  have HP := Lib.hid hp
  clear hp
  go_enter Tryz.func20, Tryz.ntmps20
  go_wp2
  go_loopw [5, 8] (fun r i wr => ∃ m : Nat, i = .int .i64 m ∧ m ≤ n ∧ Hid (wr.ownsRow w.heap.size 3 1 r (plL p m).length (ncl (plL p m))) ∧ Hid (Below w.heap.size w wr)) (fun _ i _ => n - (intOf i).toNat)
  case atStart => exact ⟨0, rfl, by omega, Lib.hid (World.ownsRow_nil _ _ _ _), Lib.hid (Below.refl _ _)⟩
  case round =>
    obtain ⟨m, rfl, hm, HO, HB⟩ := hrel
    obtain ⟨Ar, cr, hr, _⟩ := owns_form HO.out
    subst hr
    by_cases hlt : m < n
    · have hI : (m : Int) < (n : Int) := by omega
      have HC := Lib.hid (HP.out m wr hlt HB.out)
      have hzl : (plL p m).length ≤ 1099511627776 := by have := plL_len p m; omega
      have HS := Lib.hid (plL_succ p m)
      obtain ⟨q, hq⟩ : ∃ q, p m = q := ⟨_, rfl⟩
      rw [hq] at HC HS
      clear hq
      cases q
      · have HS2 : Hid (plL p (m + 1) = plL p m) := Lib.hid HS.out
        clear HS
        go_wp2_with ((with_reducible refine HC.out.mono ?_); rintro e w2 ⟨rfl, hb2⟩; have HB2 := Lib.hid (HB.out.trans (hb2.mono HB.out.size)); have HO2 := Lib.hid (owns_kept_none HO.out (only_of_below hb2 none)); have hbs := HB2.out.size; clear hb2)
        exact ⟨⟨m + 1, by go_num, by omega, Lib.hid (by rw [HS2.out]; exact HO2.out), HB2⟩, by simp only [intOf]; omega⟩
      · have HS2 : Hid (plL p (m + 1) = plL p m ++ [m]) := Lib.hid HS.out
        clear HS
        go_wp2_with (first
          | ((with_reducible refine HC.out.mono ?_); rintro e w2 ⟨rfl, hb2⟩; have HB2 := Lib.hid (HB.out.trans (hb2.mono HB.out.size)); have HO2 := Lib.hid (owns_kept_none HO.out (only_of_below hb2 none)); have hbs := HB2.out.size; clear hb2)
          | (at_builtin; refine wpList_push2 (v := .slice Ar (plL p m).length cr) rfl _ _ 30 rfl 3 i0 _ 1 8 Tryz.underlying30 hif hz0 hz1 hz2 rfl (by decide) (by decide) [.int .i64 m] rfl rfl rfl HO2.out rfl (one_i64 _) hzl hbs ?_; intro v3 w3 hown3 hg3 hm3; have HO3 := Lib.hid hown3; have HB3 := Lib.hid (below_grown HB2.out hbs hg3 (fun g hg => (HO2.out.lt g hg).1)); clear hown3 hg3 hm3))
        exact ⟨⟨m + 1, by go_num, by omega, Lib.hid (by rw [HS2.out, List.length_append, ncl_app]; exact HO3.out), HB3⟩, by simp only [intOf]; omega⟩
    · obtain rfl : m = n := by omega
      have hI : ¬ (m : Int) < (m : Int) := by omega
      go_wp2
      go_ret
      exact ⟨_, rfl, HO.out, HB.out⟩
end
end Go.Proofs.YtehpkpjgkmbngaaGreat

/-
  slices.IndexFunc, ContainsFunc, Index, Contains at the lists' kinds (written by wip/gen/genln4.py).
-/
namespace Go.Proofs.YtehpkpjgkmbngaaGreat
open Go Go.RowKit Go.Sort

/-- A community list's member: what it lets, where its communities lie, these. -/
structure MemV where
  permit : Bool
  v : Value
  L : List Int
instance : Inhabited MemV := ⟨⟨false, .slice none 0 0, []⟩⟩
def MemV.enc (x : MemV) : List Value := [.bool x.permit, x.v]
theorem mem_len (x : MemV) : x.enc.length = 2 := rfl
def mcells (L : List MemV) : List Value := L.flatMap MemV.enc
theorem mcell {L : List MemV} {k i : Nat} {x : MemV} {v : Value} (hr : L[k]? = some x) (hv : x.enc[i]? = some v) : (mcells L)[k * 2 + i]? = some v := flat_get MemV.enc 2 mem_len L k i x v hr hv
/-- A prefix list's entry. -/
structure EntV where
  permit : Bool
  a : Int
  n : Int
  ge : Int
  le : Int
instance : Inhabited EntV := ⟨⟨false, 0, 0, 0, 0⟩⟩
def EntV.enc (x : EntV) : List Value := [.bool x.permit, .int .u32 x.a, .int .i64 x.n, .int .i64 x.ge, .int .i64 x.le]
theorem ent_len (x : EntV) : x.enc.length = 5 := rfl
def ecells (L : List EntV) : List Value := L.flatMap EntV.enc
theorem ecell {L : List EntV} {k i : Nat} {x : EntV} {v : Value} (hr : L[k]? = some x) (hv : x.enc[i]? = some v) : (ecells L)[k * 5 + i]? = some v := flat_get EntV.enc 5 ent_len L k i x v hr hv
def u32c (L : List Int) : List Value := L.map (Value.int .u32)
theorem u32c_get {L : List Int} {k : Nat} {x : Int} (h : L[k]? = some x) : (u32c L)[k]? = some (.int .u32 x) := by simp [u32c, h]
theorem any_idx {α : Type} [Inhabited α] (p : α → Bool) (L : List α) : (0 ≤ idxP p L) = (L.any p = true) := by
  rcases idxP_cases p L with ⟨h1, h2⟩ | ⟨k, x, h1, h2, h3, _⟩
  · rw [h1]
    have : L.any p = false := by
      rw [List.any_eq_false]
      intro x hx
      obtain ⟨j, hj⟩ := List.mem_iff_getElem?.1 hx
      simp [h2 j x hj]
    rw [this]
    simp
  · rw [h1]
    have : L.any p = true := List.any_eq_true.2 ⟨x, List.mem_of_getElem? h2, h3⟩
    rw [this]
    simp
theorem any_dec {α : Type} [Inhabited α] (p : α → Bool) (L : List α) : decide ((0 : Int) ≤ idxP p L) = L.any p := by
  have := any_idx p L
  by_cases h : (0 : Int) ≤ idxP p L
  · rw [decide_eq_true h]; exact (this ▸ h : L.any p = true).symm
  · rw [decide_eq_false h]
    cases h2 : L.any p with
    | false => rfl
    | true => exact absurd (this ▸ h2 : (0 : Int) ≤ idxP p L) h

set_option maxRecDepth 100000 in
set_option maxHeartbeats 2000000 in
theorem indexFnU_any (L : List Int) (v : Value) (p : Int → Bool) (fid : FuncId) (caps : Array Value) (w : World) (en : ∀ (args : Array Value) (W : World), (callFunc fid args).run Tryz.prog W = .ok (.enter fid args) W) (hp : ∀ (x : Int) W, x ∈ L → Below w.heap.size w W → Calls Tryz.prog fid (#[.int .u32 x] ++ caps) W fun e W' => e = .returned (.bool (p x)) ∧ Below W.heap.size W W') (h : Rd w w.heap.size 1 v L.length (u32c L)) (hlen : L.length ≤ 9223372036854775807) :
    Calls Tryz.prog 53 #[v, .func (.func fid) #[] caps] w fun e w' => e = .returned (.int .i64 (idxP p L)) ∧ Below w.heap.size w w' := by
  obtain ⟨A, c, rfl, hc⟩ := h.form
  have HR := Lib.hid h
  have HP := Lib.hid hp
  clear h hp
  go_enter Tryz.func53, Tryz.ntmps53
  go_wp2
  go_loopw [8] (fun i wr => ∃ k : Nat, i = .int .i64 k ∧ k ≤ L.length ∧ Hid (∀ (j : Nat) (x : Int), j < k → L[j]? = some x → p x = false) ∧ Hid (Below w.heap.size w wr)) (fun i _ => L.length - (intOf i).toNat)
  case atStart => exact ⟨0, rfl, by omega, Lib.hid (fun j x hj _ => by omega), Lib.hid (Below.refl _ _)⟩
  case round =>
    obtain ⟨k, rfl, hk, HN, HB⟩ := hrel
    by_cases hlt : k < L.length
    · have hI : (k : Int) < (L.length : Int) := by omega
      obtain ⟨x, hx⟩ : ∃ x, L[k]? = some x := ⟨_, List.getElem?_eq_getElem hlt⟩
      obtain ⟨b, off, c', hv, _, hbB, hcell⟩ := HR.out.pos (by omega)
      injection hv with hv1 hvl hv3
      subst hv1 hv3
      clear hvl
      have c0 : wr.cell? ⟨b, off + k, none⟩ = some (.int .u32 x) := (HB.out.cell (p := ⟨b, off + k, none⟩) hbB).trans (hcell k _ (u32c_get hx))
      have HX := Lib.hid hx
      have HCALL := Lib.hid (HP.out x wr (List.mem_of_getElem? hx) HB.out)
      clear hcell hx
      go_wp2_with ((with_reducible refine HCALL.out.mono ?_); rintro e w2 ⟨rfl, hb2⟩; have HB2 := Lib.hid (HB.out.trans (hb2.mono HB.out.size)); clear hb2; obtain ⟨q, hq⟩ : ∃ q, p x = q := ⟨_, rfl⟩; have HQ := Lib.hid hq; rw [hq]; clear hq; cases q)
      · exact ⟨⟨k + 1, by go_num, by omega, Lib.hid (fun j y hj hy => by
          rcases Nat.lt_or_ge j k with h1 | h1
          · exact HN.out j y h1 hy
          · obtain rfl : j = k := by omega
            rw [HX.out] at hy
            injection hy with hy
            subst hy
            exact HQ.out), HB2⟩, by simp only [intOf]; omega⟩
      · go_ret
        exact ⟨by rw [idxP_hit p L k x HX.out HQ.out HN.out]; rfl, HB2.out⟩
    · obtain rfl : k = L.length := by omega
      have hI : ¬ (L.length : Int) < (L.length : Int) := by omega
      have HFIN := Lib.hid (idxP_miss p L fun j x hx => HN.out j x (List.getElem?_eq_some_iff.1 hx).1 hx)
      go_wp2
      go_ret
      exact ⟨by rw [HFIN.out]; rfl, HB.out⟩
set_option maxRecDepth 100000 in
set_option maxHeartbeats 2000000 in
theorem containsFnU_any (L : List Int) (v : Value) (p : Int → Bool) (fid : FuncId) (caps : Array Value) (w : World) (en : ∀ (args : Array Value) (W : World), (callFunc fid args).run Tryz.prog W = .ok (.enter fid args) W) (hp : ∀ (x : Int) W, x ∈ L → Below w.heap.size w W → Calls Tryz.prog fid (#[.int .u32 x] ++ caps) W fun e W' => e = .returned (.bool (p x)) ∧ Below W.heap.size W W') (h : Rd w w.heap.size 1 v L.length (u32c L)) (hlen : L.length ≤ 9223372036854775807) :
    Calls Tryz.prog 25 #[v, .func (.func fid) #[] caps] w fun e w' => e = .returned (.bool (L.any p)) ∧ Below w.heap.size w w' := by
  have HI := Lib.hid (indexFnU_any L v p fid caps w en hp h hlen)
  obtain ⟨A, c, rfl, hc⟩ := h.form
  clear h hp en
  have hd := any_dec p L
  generalize idxP p L = q at *
  go_enter Tryz.func25, Tryz.ntmps25
  go_wp2_with ((with_reducible refine HI.out.mono ?_); rintro e w2 ⟨rfl, hb2⟩; have HB2 := Lib.hid hb2; clear hb2)
  go_ret
  exact ⟨by rw [← hd]; rfl, HB2.out⟩

set_option maxRecDepth 100000 in
set_option maxHeartbeats 2000000 in
theorem indexFnM_any (L : List MemV) (v : Value) (p : MemV → Bool) (fid : FuncId) (caps : Array Value) (w : World) (en : ∀ (args : Array Value) (W : World), (callFunc fid args).run Tryz.prog W = .ok (.enter fid args) W) (hp : ∀ (x : MemV) W, x ∈ L → Below w.heap.size w W → Calls Tryz.prog fid (#[.agg #[.bool x.permit, x.v]] ++ caps) W fun e W' => e = .returned (.bool (p x)) ∧ Below W.heap.size W W') (h : Rd w w.heap.size 2 v L.length (mcells L)) (hlen : L.length ≤ 9223372036854775807) :
    Calls Tryz.prog 52 #[v, .func (.func fid) #[] caps] w fun e w' => e = .returned (.int .i64 (idxP p L)) ∧ Below w.heap.size w w' := by
  obtain ⟨A, c, rfl, hc⟩ := h.form
  have HR := Lib.hid h
  have HP := Lib.hid hp
  clear h hp
  go_enter Tryz.func52, Tryz.ntmps52
  go_wp2
  go_loopw [8] (fun i wr => ∃ k : Nat, i = .int .i64 k ∧ k ≤ L.length ∧ Hid (∀ (j : Nat) (x : MemV), j < k → L[j]? = some x → p x = false) ∧ Hid (Below w.heap.size w wr)) (fun i _ => L.length - (intOf i).toNat)
  case atStart => exact ⟨0, rfl, by omega, Lib.hid (fun j x hj _ => by omega), Lib.hid (Below.refl _ _)⟩
  case round =>
    obtain ⟨k, rfl, hk, HN, HB⟩ := hrel
    by_cases hlt : k < L.length
    · have hI : (k : Int) < (L.length : Int) := by omega
      obtain ⟨x, hx⟩ : ∃ x, L[k]? = some x := ⟨_, List.getElem?_eq_getElem hlt⟩
      obtain ⟨b, off, c', hv, _, hbB, hcell⟩ := HR.out.posAt (by omega)
      injection hv with hv1 hvl hv3
      subst hv1 hv3
      clear hvl
      have c0 : wr.cell? ⟨b, off + k * 2, none⟩ = some (.bool x.permit) := (HB.out.cell (p := ⟨b, off + k * 2, none⟩) hbB).trans (hcell k 0 _ (mcell hx rfl))
      have c1 : wr.cell? ⟨b, off + k * 2 + 1, none⟩ = some (x.v) := (HB.out.cell (p := ⟨b, off + k * 2 + 1, none⟩) hbB).trans (hcell k 1 _ (mcell hx rfl))
      have HX := Lib.hid hx
      have HCALL := Lib.hid (HP.out x wr (List.mem_of_getElem? hx) HB.out)
      clear hcell hx
      go_wp2_with ((with_reducible refine HCALL.out.mono ?_); rintro e w2 ⟨rfl, hb2⟩; have HB2 := Lib.hid (HB.out.trans (hb2.mono HB.out.size)); clear hb2; obtain ⟨q, hq⟩ : ∃ q, p x = q := ⟨_, rfl⟩; have HQ := Lib.hid hq; rw [hq]; clear hq; cases q)
      · exact ⟨⟨k + 1, by go_num, by omega, Lib.hid (fun j y hj hy => by
          rcases Nat.lt_or_ge j k with h1 | h1
          · exact HN.out j y h1 hy
          · obtain rfl : j = k := by omega
            rw [HX.out] at hy
            injection hy with hy
            subst hy
            exact HQ.out), HB2⟩, by simp only [intOf]; omega⟩
      · go_ret
        exact ⟨by rw [idxP_hit p L k x HX.out HQ.out HN.out]; rfl, HB2.out⟩
    · obtain rfl : k = L.length := by omega
      have hI : ¬ (L.length : Int) < (L.length : Int) := by omega
      have HFIN := Lib.hid (idxP_miss p L fun j x hx => HN.out j x (List.getElem?_eq_some_iff.1 hx).1 hx)
      go_wp2
      go_ret
      exact ⟨by rw [HFIN.out]; rfl, HB.out⟩
set_option maxRecDepth 100000 in
set_option maxHeartbeats 2000000 in
theorem containsFnM_any (L : List MemV) (v : Value) (p : MemV → Bool) (fid : FuncId) (caps : Array Value) (w : World) (en : ∀ (args : Array Value) (W : World), (callFunc fid args).run Tryz.prog W = .ok (.enter fid args) W) (hp : ∀ (x : MemV) W, x ∈ L → Below w.heap.size w W → Calls Tryz.prog fid (#[.agg #[.bool x.permit, x.v]] ++ caps) W fun e W' => e = .returned (.bool (p x)) ∧ Below W.heap.size W W') (h : Rd w w.heap.size 2 v L.length (mcells L)) (hlen : L.length ≤ 9223372036854775807) :
    Calls Tryz.prog 23 #[v, .func (.func fid) #[] caps] w fun e w' => e = .returned (.bool (L.any p)) ∧ Below w.heap.size w w' := by
  have HI := Lib.hid (indexFnM_any L v p fid caps w en hp h hlen)
  obtain ⟨A, c, rfl, hc⟩ := h.form
  clear h hp en
  have hd := any_dec p L
  generalize idxP p L = q at *
  go_enter Tryz.func23, Tryz.ntmps23
  go_wp2_with ((with_reducible refine HI.out.mono ?_); rintro e w2 ⟨rfl, hb2⟩; have HB2 := Lib.hid hb2; clear hb2)
  go_ret
  exact ⟨by rw [← hd]; rfl, HB2.out⟩

set_option maxRecDepth 100000 in
set_option maxHeartbeats 2000000 in
theorem indexFnE_any (L : List EntV) (v : Value) (p : EntV → Bool) (fid : FuncId) (caps : Array Value) (w : World) (en : ∀ (args : Array Value) (W : World), (callFunc fid args).run Tryz.prog W = .ok (.enter fid args) W) (hp : ∀ (x : EntV) W, x ∈ L → Below w.heap.size w W → Calls Tryz.prog fid (#[.agg #[.bool x.permit, .int .u32 x.a, .int .i64 x.n, .int .i64 x.ge, .int .i64 x.le]] ++ caps) W fun e W' => e = .returned (.bool (p x)) ∧ Below W.heap.size W W') (h : Rd w w.heap.size 5 v L.length (ecells L)) (hlen : L.length ≤ 9223372036854775807) :
    Calls Tryz.prog 59 #[v, .func (.func fid) #[] caps] w fun e w' => e = .returned (.int .i64 (idxP p L)) ∧ Below w.heap.size w w' := by
  obtain ⟨A, c, rfl, hc⟩ := h.form
  have HR := Lib.hid h
  have HP := Lib.hid hp
  clear h hp
  go_enter Tryz.func59, Tryz.ntmps59
  go_wp2
  go_loopw [8] (fun i wr => ∃ k : Nat, i = .int .i64 k ∧ k ≤ L.length ∧ Hid (∀ (j : Nat) (x : EntV), j < k → L[j]? = some x → p x = false) ∧ Hid (Below w.heap.size w wr)) (fun i _ => L.length - (intOf i).toNat)
  case atStart => exact ⟨0, rfl, by omega, Lib.hid (fun j x hj _ => by omega), Lib.hid (Below.refl _ _)⟩
  case round =>
    obtain ⟨k, rfl, hk, HN, HB⟩ := hrel
    by_cases hlt : k < L.length
    · have hI : (k : Int) < (L.length : Int) := by omega
      obtain ⟨x, hx⟩ : ∃ x, L[k]? = some x := ⟨_, List.getElem?_eq_getElem hlt⟩
      obtain ⟨b, off, c', hv, _, hbB, hcell⟩ := HR.out.posAt (by omega)
      injection hv with hv1 hvl hv3
      subst hv1 hv3
      clear hvl
      have c0 : wr.cell? ⟨b, off + k * 5, none⟩ = some (.bool x.permit) := (HB.out.cell (p := ⟨b, off + k * 5, none⟩) hbB).trans (hcell k 0 _ (ecell hx rfl))
      have c1 : wr.cell? ⟨b, off + k * 5 + 1, none⟩ = some (.int .u32 x.a) := (HB.out.cell (p := ⟨b, off + k * 5 + 1, none⟩) hbB).trans (hcell k 1 _ (ecell hx rfl))
      have c2 : wr.cell? ⟨b, off + k * 5 + 2, none⟩ = some (.int .i64 x.n) := (HB.out.cell (p := ⟨b, off + k * 5 + 2, none⟩) hbB).trans (hcell k 2 _ (ecell hx rfl))
      have c3 : wr.cell? ⟨b, off + k * 5 + 3, none⟩ = some (.int .i64 x.ge) := (HB.out.cell (p := ⟨b, off + k * 5 + 3, none⟩) hbB).trans (hcell k 3 _ (ecell hx rfl))
      have c4 : wr.cell? ⟨b, off + k * 5 + 4, none⟩ = some (.int .i64 x.le) := (HB.out.cell (p := ⟨b, off + k * 5 + 4, none⟩) hbB).trans (hcell k 4 _ (ecell hx rfl))
      have HX := Lib.hid hx
      have HCALL := Lib.hid (HP.out x wr (List.mem_of_getElem? hx) HB.out)
      clear hcell hx
      go_wp2_with ((with_reducible refine HCALL.out.mono ?_); rintro e w2 ⟨rfl, hb2⟩; have HB2 := Lib.hid (HB.out.trans (hb2.mono HB.out.size)); clear hb2; obtain ⟨q, hq⟩ : ∃ q, p x = q := ⟨_, rfl⟩; have HQ := Lib.hid hq; rw [hq]; clear hq; cases q)
      · exact ⟨⟨k + 1, by go_num, by omega, Lib.hid (fun j y hj hy => by
          rcases Nat.lt_or_ge j k with h1 | h1
          · exact HN.out j y h1 hy
          · obtain rfl : j = k := by omega
            rw [HX.out] at hy
            injection hy with hy
            subst hy
            exact HQ.out), HB2⟩, by simp only [intOf]; omega⟩
      · go_ret
        exact ⟨by rw [idxP_hit p L k x HX.out HQ.out HN.out]; rfl, HB2.out⟩
    · obtain rfl : k = L.length := by omega
      have hI : ¬ (L.length : Int) < (L.length : Int) := by omega
      have HFIN := Lib.hid (idxP_miss p L fun j x hx => HN.out j x (List.getElem?_eq_some_iff.1 hx).1 hx)
      go_wp2
      go_ret
      exact ⟨by rw [HFIN.out]; rfl, HB.out⟩
set_option maxRecDepth 100000 in
set_option maxHeartbeats 2000000 in
theorem indexU_any (L : List Int) (v : Value) (y : Int) (w : World) (h : Rd w w.heap.size 1 v L.length (u32c L)) (hlen : L.length ≤ 9223372036854775807) :
    Calls Tryz.prog 54 #[v, .int .u32 y] w fun e w' => e = .returned (.int .i64 (idxP (fun x => x == y) L)) ∧ w' = w := by
  obtain ⟨A, c, rfl, hc⟩ := h.form
  have HR := Lib.hid h
  clear h
  go_enter Tryz.func54, Tryz.ntmps54
  go_wp2
  go_loopw [8] (fun i wr => ∃ k : Nat, i = .int .i64 k ∧ k ≤ L.length ∧ Hid (∀ (j : Nat) (x : Int), j < k → L[j]? = some x → (x == y) = false) ∧ wr = w) (fun i _ => L.length - (intOf i).toNat)
  case atStart => exact ⟨0, rfl, by omega, Lib.hid (fun j x hj _ => by omega), rfl⟩
  case round =>
    obtain ⟨k, rfl, hk, HN, rfl⟩ := hrel
    by_cases hlt : k < L.length
    · have hI : (k : Int) < (L.length : Int) := by omega
      obtain ⟨x, hx⟩ : ∃ x, L[k]? = some x := ⟨_, List.getElem?_eq_getElem hlt⟩
      obtain ⟨b, off, c', hv, _, hbB, hcell⟩ := HR.out.pos (by omega)
      injection hv with hv1 hvl hv3
      subst hv1 hv3
      clear hvl
      have c0 : wr.cell? ⟨b, off + k, none⟩ = some (.int .u32 x) := hcell k _ (u32c_get hx)
      have HX := Lib.hid hx
      clear hcell hx
      by_cases hq : y = x
      · subst hq
        go_wp2
        go_ret
        exact ⟨by rw [idxP_hit (fun x => x == y) L k y HX.out (by simp) HN.out]; rfl, rfl⟩
      · have hq2 : (y == x) = false := by simpa using hq
        go_wp2
        exact ⟨⟨k + 1, by go_num, by omega, Lib.hid (fun j z hj hz => by
          rcases Nat.lt_or_ge j k with h1 | h1
          · exact HN.out j z h1 hz
          · obtain rfl : j = k := by omega
            rw [HX.out] at hz
            injection hz with hz
            subst hz
            simpa using fun e : x = y => hq e.symm), (by first | trivial | rfl)⟩, by simp only [intOf]; omega⟩
    · obtain rfl : k = L.length := by omega
      have hI : ¬ (L.length : Int) < (L.length : Int) := by omega
      have HFIN := Lib.hid (idxP_miss (fun x => x == y) L fun j x hx => HN.out j x (List.getElem?_eq_some_iff.1 hx).1 hx)
      go_wp2
      go_ret
      exact ⟨by rw [HFIN.out]; rfl, rfl⟩
set_option maxRecDepth 100000 in
set_option maxHeartbeats 2000000 in
theorem containsU_any (L : List Int) (v : Value) (y : Int) (w : World) (h : Rd w w.heap.size 1 v L.length (u32c L)) (hlen : L.length ≤ 9223372036854775807) :
    Calls Tryz.prog 27 #[v, .int .u32 y] w fun e w' => e = .returned (.bool (L.any (fun x => x == y))) ∧ w' = w := by
  have HI := Lib.hid (indexU_any L v y w h hlen)
  obtain ⟨A, c, rfl, hc⟩ := h.form
  clear h
  have hd := any_dec (fun x => x == y) L
  generalize idxP (fun x => x == y) L = q at *
  go_enter Tryz.func27, Tryz.ntmps27
  go_wp2_with ((with_reducible refine HI.out.mono ?_); rintro e _ ⟨rfl, rfl⟩)
  go_ret
  exact ⟨by rw [← hd]; rfl, rfl⟩
end Go.Proofs.YtehpkpjgkmbngaaGreat

/-
  The members that decide nothing: lint.Members.
-/
namespace Go.Proofs.YtehpkpjgkmbngaaGreat
open Go Go.RowKit Go.ChangeMaps Go.MapKept Go.Maps Go.Lib Go.Sort

/-- The members of a slice, in a world. -/
def MsAt (W : World) (B : Nat) (v : Value) (Ms : List MemV) : Prop := Rd W B 2 v Ms.length (mcells Ms) ∧ ∀ m ∈ Ms, Rd W B 1 m.v m.L.length (u32c m.L) ∧ m.L.length ≤ 9223372036854775807
theorem MsAt.below {W W' : World} {B : Nat} {v : Value} {Ms : List MemV} (h : MsAt W B v Ms) (hb : Below B W W') : MsAt W' B v Ms := ⟨h.1.below hb, fun m hm => ⟨(h.2 m hm).1.below hb, (h.2 m hm).2⟩⟩
theorem MsAt.mono {W : World} {B B' : Nat} {v : Value} {Ms : List MemV} (h : MsAt W B v Ms) (hb : B ≤ B') : MsAt W B' v Ms := ⟨h.1.mono hb, fun m hm => ⟨(h.2 m hm).1.mono hb, (h.2 m hm).2⟩⟩
theorem MsAt.next {W W' : World} {v : Value} {Ms : List MemV} (h : MsAt W W.heap.size v Ms) (hb : Below W.heap.size W W') : MsAt W' W'.heap.size v Ms := (h.below hb).mono hb.size
theorem Rd.takeS {W : World} {B k n m c : Nat} {A : Option Addr} {xs : List Value} (h : Rd W B k (.slice A n c) n xs) (hm : m ≤ n) : Rd W B k (.slice A m c) m (xs.take (m * k)) := by
  obtain ⟨P, c', hv, hc, hlen, hp⟩ := h
  injection hv with e1 _ e3
  subst e1 e3
  refine ⟨A, c, rfl, by omega, ?_, fun h0 => ?_⟩
  · rw [List.length_take, hlen]
    exact Nat.min_eq_left (Nat.mul_le_mul_right k hm)
  · obtain ⟨b, off, hA, hlt, hcell⟩ := hp (by omega)
    refine ⟨b, off, hA, hlt, fun j u hu => hcell j u ?_⟩
    have hj : j < (xs.take (m * k)).length := (List.getElem?_eq_some_iff.1 hu).1
    rw [List.length_take] at hj
    rw [List.getElem?_take_of_lt (by omega)] at hu
    exact hu
theorem mcells_take (Ms : List MemV) (i : Nat) (hi : i ≤ Ms.length) : mcells (Ms.take i) = (mcells Ms).take (i * 2) := by
  have e : mcells Ms = mcells (Ms.take i) ++ mcells (Ms.drop i) := by
    have h := congrArg mcells (List.take_append_drop i Ms)
    exact h.symm.trans List.flatMap_append
  have hl : (mcells (Ms.take i)).length = i * 2 := (flat_len MemV.enc 2 mem_len _).trans (by rw [List.length_take, Nat.min_eq_left hi])
  rw [e, ← hl, List.take_left']
  rfl
/-- Are all of the one among the other's? -/
def hasAll (a b : List Int) : Bool := !(a.any fun c => !(b.any fun x => x == c))
/-- Is a member ahead that asks no more? -/
def memP (Ms : List MemV) (i : Nat) : Bool := (Ms.take i).any fun m => hasAll m.L ((Ms[i]?.getD default).L)
section
set_option maxRecDepth 100000
set_option maxHeartbeats 4000000
variable {W : World} {nm : ByteArray} {v : Value} {Ms : List MemV} {bl bi i : Nat} {x : MemV}
theorem mem3_any (hl : W.heap[bl]? = some (.cells #[.string nm, v] 27 (0, 0))) (hi : W.heap[bi]? = some (.cells #[.int .i64 i] 3 (0, 0))) (hM : MsAt W W.heap.size v Ms) (hx : Ms[i]? = some x) (hn : Ms.length ≤ 1099511627776) (c : Int) :
    Calls Tryz.prog 26 #[.int .u32 c, .pointer (some ⟨bl, 0, none⟩), .pointer (some ⟨bi, 0, none⟩)] W fun e W' => e = .returned (.bool (!(x.L.any fun y => y == c))) ∧ Below W.heap.size W W' := by
  have hil : i < Ms.length := (List.getElem?_eq_some_iff.1 hx).1
  have hI : (i : Int) < (Ms.length : Int) := by omega
  have hxm := hM.2 x (List.mem_of_getElem? hx)
  obtain ⟨A, cc, hxv, _⟩ := hxm.1.form
  obtain ⟨b, off, c', hv, _, hbB, hcell⟩ := hM.1.posAt (by omega)
  subst hv
  have c0 : W.cell? ⟨bl, 1, none⟩ = some (.slice (some ⟨b, off, none⟩) Ms.length c') := cell_of_row _ _ 1 _ _ (0, 0) hl
  have c1 := cell0 hi
  have c2 : W.cell? ⟨b, off + i * 2 + 1, none⟩ = some x.v := hcell i 1 _ (mcell hx rfl)
  rw [hxv] at c2
  have hcc := containsU_any x.L x.v c W hxm.1 hxm.2
  rw [hxv] at hcc
  have HCC := Lib.hid hcc
  have HB := Lib.hid (Below.refl W.heap.size W)
  clear hxm hcell hl hi hM hx hcc
  go_enter Tryz.func26, Tryz.ntmps26
  generalize (x.L.any fun y => y == c) = q at *
  go_wp2_with ((with_reducible refine HCC.out.mono ?_); rintro e _ ⟨rfl, rfl⟩)
  go_ret
  exact ⟨rfl, HB.out⟩
theorem mem2_any (hl : W.heap[bl]? = some (.cells #[.string nm, v] 27 (0, 0))) (hi : W.heap[bi]? = some (.cells #[.int .i64 i] 3 (0, 0))) (hM : MsAt W W.heap.size v Ms) (hx : Ms[i]? = some x) (hn : Ms.length ≤ 1099511627776) (m : MemV) (hm : m ∈ Ms) :
    Calls Tryz.prog 24 #[.agg #[.bool m.permit, m.v], .pointer (some ⟨bl, 0, none⟩), .pointer (some ⟨bi, 0, none⟩)] W fun e W' => e = .returned (.bool (hasAll m.L x.L)) ∧ Below W.heap.size W W' := by
  have hb := below1 W (.cells #[.bool m.permit, m.v] 48)
  have hmm := (hM.next hb).2 m hm
  obtain ⟨A, cc, hmv, _⟩ := hmm.1.form
  have c0 : (W.alloc (.cells #[.bool m.permit, m.v] 48)).cell? ⟨W.heap.size, 1, none⟩ = some m.v := cell_of_row _ _ 1 _ _ (0, 0) (blk1 W (.cells #[.bool m.permit, m.v] 48))
  have hcf := containsFnU_any m.L m.v (fun c => !(x.L.any fun y => y == c)) 26 #[.pointer (some ⟨bl, 0, none⟩), .pointer (some ⟨bi, 0, none⟩)] (W.alloc (.cells #[.bool m.permit, m.v] 48)) (enters_of Tryz.func26 (by kernel_rfl) rfl)
    (fun c W' _ hb' => mem3_any (blk_below hb' (blk_below hb hl)) (blk_below hb' (blk_below hb hi)) ((hM.next hb).next hb') hx hn c) hmm.1 hmm.2
  rw [hmv] at hcf
  have HCF := Lib.hid hcf
  have HB := Lib.hid hb
  rw [hmv] at HB
  clear hmm hcf hb hl hi hM hx
  rw [hmv] at c0 ⊢
  have HD : Hid (hasAll m.L x.L = !(m.L.any fun c => !(x.L.any fun y => y == c))) := Lib.hid rfl
  rw [HD.out]
  generalize (m.L.any fun c => !(x.L.any fun y => y == c)) = q at *
  go_enter Tryz.func24, Tryz.ntmps24
  go_upto_region 1 with fail
  generalize W.alloc (.cells #[.bool m.permit, .slice A m.L.length cc] 48) = W1 at *
  go_wp2_with ((with_reducible refine HCF.out.mono ?_); rintro e W2 ⟨rfl, hb2⟩; have HB2 := Lib.hid (HB.out.trans (hb2.mono HB.out.size)); clear hb2)
  go_ret
  exact ⟨rfl, HB2.out⟩
theorem mem1_any (hl : W.heap[bl]? = some (.cells #[.string nm, v] 27 (0, 0))) (hM : MsAt W W.heap.size v Ms) (hil : i < Ms.length) (hn : Ms.length ≤ 1099511627776) :
    Calls Tryz.prog 22 #[.int .i64 i, .pointer (some ⟨bl, 0, none⟩)] W fun e W' => e = .returned (.bool (memP Ms i)) ∧ Below W.heap.size W W' := by
  obtain ⟨x, hx⟩ : ∃ x, Ms[i]? = some x := ⟨_, List.getElem?_eq_getElem hil⟩
  have hb := below1 W (.cells #[.int .i64 i] 3)
  have hbi := blk1 W (.cells #[.int .i64 i] 3)
  have hM1 := hM.next hb
  obtain ⟨A, cc, rfl, hcc⟩ := hM.1.form
  have htl : (Ms.take i).length = i := by rw [List.length_take]; omega
  have hrd : Rd (W.alloc (.cells #[.int .i64 i] 3)) (W.alloc (.cells #[.int .i64 i] 3)).heap.size 2 (.slice A i cc) (Ms.take i).length (mcells (Ms.take i)) := by
    rw [htl, mcells_take Ms i (by omega)]
    exact hM1.1.takeS (by omega)
  have hcf := containsFnM_any (Ms.take i) (.slice A i cc) (fun m => hasAll m.L x.L) 24 #[.pointer (some ⟨bl, 0, none⟩), .pointer (some ⟨W.heap.size, 0, none⟩)] (W.alloc (.cells #[.int .i64 i] 3)) (enters_of Tryz.func24 (by kernel_rfl) rfl)
    (fun m W' hm hb' => mem2_any (blk_below hb' (blk_below hb hl)) (blk_below hb' hbi) (hM1.next hb') hx hn m (List.mem_of_mem_take hm)) hrd (by rw [htl]; omega)
  have HCF := Lib.hid hcf
  have HB := Lib.hid hb
  have c0 : (W.alloc (.cells #[.int .i64 i] 3)).cell? ⟨bl, 1, none⟩ = some (.slice A Ms.length cc) := cell_of_row _ _ 1 _ _ (0, 0) (blk_below hb hl)
  have c1 := cell0 hbi
  have HP : Hid (memP Ms i = (Ms.take i).any fun m => hasAll m.L x.L) := Lib.hid (by unfold memP; rw [hx]; rfl)
  rw [HP.out]
  have hI : (i : Int) ≤ (cc : Int) := by omega
  clear hcf hb hbi hM1 hrd hl hM hx htl HP
  generalize ((Ms.take i).any fun m => hasAll m.L x.L) = q at *
  go_enter Tryz.func22, Tryz.ntmps22
  go_upto_region 1 with fail
  generalize W.alloc (.cells #[.int .i64 i] 3) = W1 at *
  go_wp2_with ((with_reducible refine HCF.out.mono ?_); rintro e W2 ⟨rfl, hb2⟩; have HB2 := Lib.hid (HB.out.trans (hb2.mono HB.out.size)); clear hb2)
  go_ret
  exact ⟨rfl, HB2.out⟩
theorem members_any (w : World) (nm : ByteArray) (v : Value) (Ms : List MemV) (hM : MsAt w w.heap.size v Ms) (hn : Ms.length ≤ 1099511627776) :
    Calls Tryz.prog 7 #[.agg #[.string nm, v]] w fun e w' => ∃ u, e = .returned u ∧ w'.ownsRow w.heap.size 3 1 u (plL (memP Ms) Ms.length).length (ncl (plL (memP Ms) Ms.length)) ∧ Below w.heap.size w w' := by
  obtain ⟨A, cc, rfl, hcc⟩ := hM.1.form
  have hb := below1 w (.cells #[.string nm, .slice A Ms.length cc] 27)
  have hk := blk1 w (.cells #[.string nm, .slice A Ms.length cc] 27)
  have c0 : (w.alloc (.cells #[.string nm, .slice A Ms.length cc] 27)).cell? ⟨w.heap.size, 1, none⟩ = some (.slice A Ms.length cc) := cell_of_row _ _ 1 _ _ (0, 0) hk
  have hpl := places_any Ms.length 22 #[.pointer (some ⟨w.heap.size, 0, none⟩)] (memP Ms) (w.alloc (.cells #[.string nm, .slice A Ms.length cc] 27)) (enters_of Tryz.func22 (by kernel_rfl) rfl)
    (fun i W' hi hb' => mem1_any (blk_below hb' hk) ((hM.next hb).next hb') hi hn) hn
  have HPL := Lib.hid hpl
  have HB := Lib.hid hb
  clear hb hk hpl hM
  go_enter Tryz.func7, Tryz.ntmps7
  go_upto_region 1 with fail
  generalize w.alloc (.cells #[.string nm, .slice A Ms.length cc] 27) = w1 at *
  go_wp2_with ((with_reducible refine HPL.out.mono ?_); rintro e w2 ⟨u, rfl, ho, hb2⟩; have HO := Lib.hid (owns_base ho HB.out.size); have HB2 := Lib.hid (HB.out.trans (hb2.mono HB.out.size)); clear ho hb2)
  go_ret
  exact ⟨_, rfl, HO.out, HB2.out⟩
end
end Go.Proofs.YtehpkpjgkmbngaaGreat

/-
  All variables of the bits, in a list.
-/
namespace Go.Proofs.YtehpkpjgkmbngaaGreat
open Go Go.RowKit Go.ChangeMaps Go.MapKept Go.Maps Go.Lib Go.Sort

/-- The variables of the bits from 0 to n - 1. -/
def varsL (o n : Nat) : List Int := (List.range n).map fun i => ((2 * i + o : Nat) : Int)
theorem varsL_len (o n : Nat) : (varsL o n).length = n := by simp [varsL]
theorem varsL_snoc (o n : Nat) : varsL o (n + 1) = varsL o n ++ [((2 * n + o : Nat) : Int)] := by simp [varsL, List.range_succ]
theorem varsL_get (o n : Nat) {i : Nat} (h : i < n) : (varsL o n)[i]? = some ((2 * i + o : Nat) : Int) := by simp [varsL, h]
end Go.Proofs.YtehpkpjgkmbngaaGreat

/-
  Numbers in their one form (plain; no program in sight): what the program's 'number' and the document's 'Read' read.
-/
namespace Go.Proofs.YtehpkpjgkmbngaaGreat
open Go

def isDig (c : UInt8) : Bool := decide (48 ≤ c.toNat) && decide (c.toNat ≤ 57)
def valD (acc : Nat) (l : List UInt8) : Nat := l.foldl (fun n c => 10 * n + (c.toNat - 48)) acc
/-- The number of a text in its one form, at most m. -/
def readB (l : List UInt8) (m : Nat) : Option Nat :=
  if l = [] ∨ (1 < l.length ∧ l.head? = some 48) ∨ l.all isDig = false then none else if valD 0 l ≤ m then some (valD 0 l) else none

theorem valD_append (acc : Nat) (l r : List UInt8) : valD acc (l ++ r) = valD (valD acc l) r := by simp [valD]
theorem dig_of (k : Nat) (h : k < 10) : isDig (UInt8.ofNat (48 + k)) = true ∧ (UInt8.ofNat (48 + k)).toNat - 48 = k := by
  have e : (UInt8.ofNat (48 + k)).toNat = 48 + k := by simp; omega
  unfold isDig
  rw [e]
  exact ⟨by simp; omega, by omega⟩
theorem of_dig (c : UInt8) (h : isDig c = true) : c = UInt8.ofNat (48 + (c.toNat - 48)) ∧ c.toNat - 48 < 10 := by
  unfold isDig at h
  simp at h
  refine ⟨?_, by omega⟩
  apply UInt8.toNat_inj.1
  simp
  omega
theorem decDigits_small {n : Nat} (h : n < 10) : Lib.decDigits n = [UInt8.ofNat (48 + n)] := Lib.decDigits_one h
theorem decDigits_big {n : Nat} (h : ¬ n < 10) : Lib.decDigits n = Lib.decDigits (n / 10) ++ [UInt8.ofNat (48 + n % 10)] := by rw [Lib.decDigits, dif_neg h]
theorem decDigits_ne_nil (n : Nat) : Lib.decDigits n ≠ [] := by
  by_cases h : n < 10
  · rw [decDigits_small h]; simp
  · rw [decDigits_big h]; simp
theorem decDigits_facts : ∀ (k n : Nat), n ≤ k → (Lib.decDigits n).all isDig = true ∧ valD 0 (Lib.decDigits n) = n ∧ (0 < n → (Lib.decDigits n).head? ≠ some 48) := by
  intro k
  induction k with
  | zero =>
    intro n hn
    obtain rfl : n = 0 := by omega
    rw [decDigits_small (by omega)]
    exact ⟨by decide, by decide, fun h => absurd h (by omega)⟩
  | succ k ih =>
    intro n hn
    by_cases h : n < 10
    · rw [decDigits_small h]
      obtain ⟨a, b⟩ := dig_of n h
      generalize UInt8.ofNat (48 + n) = x at a b
      refine ⟨by simp [a], by simp [valD, b], fun h0 => ?_⟩
      intro e
      simp at e
      subst e
      have : (48 : UInt8).toNat - 48 = 0 := by decide
      omega
    · rw [decDigits_big h]
      obtain ⟨a, b, c⟩ := ih (n / 10) (by omega)
      obtain ⟨d, e⟩ := dig_of (n % 10) (by omega)
      generalize UInt8.ofNat (48 + n % 10) = x at d e
      refine ⟨by rw [List.all_append, a]; simp [d], ?_, fun _ => ?_⟩
      · rw [valD_append, b]
        simp only [valD, List.foldl_cons, List.foldl_nil, e]
        omega
      · rw [List.head?_append]
        cases hh : (Lib.decDigits (n / 10)).head? with
        | none => exact absurd (List.head?_eq_none_iff.1 hh) (decDigits_ne_nil _)
        | some x =>
          have := c (by omega)
          rw [hh] at this
          simpa using this
theorem decDigits_all (n : Nat) : (Lib.decDigits n).all isDig = true := (decDigits_facts n n (Nat.le_refl _)).1
theorem decDigits_val (n : Nat) : valD 0 (Lib.decDigits n) = n := (decDigits_facts n n (Nat.le_refl _)).2.1
theorem decDigits_head (n : Nat) (h : 0 < n) : (Lib.decDigits n).head? ≠ some 48 := (decDigits_facts n n (Nat.le_refl _)).2.2 h
theorem decDigits_inj {m n : Nat} (h : Lib.decDigits m = Lib.decDigits n) : m = n := by rw [← decDigits_val m, h, decDigits_val]
theorem decDigits_len (n : Nat) (h : 1 < (Lib.decDigits n).length) : 0 < n := by
  rcases Nat.eq_zero_or_pos n with rfl | h0
  · rw [decDigits_small (by omega)] at h; simp at h
  · exact h0
/-- A text of digits, the first not 0 (or alone), is its number's numeral. -/
theorem decDigits_of : ∀ (k : Nat) (l : List UInt8), l.length ≤ k → l ≠ [] → ¬ (1 < l.length ∧ l.head? = some 48) → l.all isDig = true → Lib.decDigits (valD 0 l) = l := by
  intro k
  induction k with
  | zero => intro l hl hne; exact absurd (List.length_eq_zero_iff.1 (by omega)) hne
  | succ k ih =>
    intro l hl hne hz hall
    obtain ⟨r, c, rfl⟩ : ∃ r c, l = r ++ [c] := ⟨l.dropLast, l.getLast hne, (List.dropLast_concat_getLast hne).symm⟩
    have hc : isDig c = true := by simp at hall; exact hall.2
    have hr : r.all isDig = true := by simp at hall ⊢; exact hall.1
    obtain ⟨e1, e2⟩ := of_dig c hc
    have ev : valD 0 (r ++ [c]) = 10 * valD 0 r + (c.toNat - 48) := by rw [valD_append]; rfl
    by_cases hrn : r = []
    · subst hrn
      rw [ev]
      have : valD 0 [] = 0 := rfl
      rw [this, decDigits_small (by omega), Nat.mul_zero, Nat.zero_add, ← e1]
      rfl
    · have hr0 : r.head? ≠ some 48 := by
        intro h0
        apply hz
        refine ⟨?_, by rw [List.head?_append, h0]; rfl⟩
        have := List.length_pos_iff.2 hrn
        simp; omega
      have hi := ih r (by simp at hl; omega) hrn (fun h => hr0 h.2) hr
      have hp : 0 < valD 0 r := by
        rcases Nat.eq_zero_or_pos (valD 0 r) with h0 | h0
        · exfalso
          rw [h0, decDigits_small (by omega)] at hi
          exact hr0 (by rw [← hi]; rfl)
        · exact h0
      rw [decDigits_big (by rw [ev]; omega)]
      have d1 : valD 0 (r ++ [c]) / 10 = valD 0 r := by rw [ev]; omega
      have d2 : valD 0 (r ++ [c]) % 10 = c.toNat - 48 := by rw [ev]; omega
      rw [d1, d2, hi, ← e1]
theorem readB_some {l : List UInt8} {m n : Nat} : readB l m = some n ↔ Lib.decDigits n = l ∧ n ≤ m := by
  unfold readB
  constructor
  · intro h
    split at h
    · cases h
    · rename_i hn
      split at h
      · rename_i hm
        injection h with h
        subst h
        have h1 : l ≠ [] := fun e => hn (Or.inl e)
        have h2 : ¬ (1 < l.length ∧ l.head? = some 48) := fun e => hn (Or.inr (Or.inl e))
        have h3 : l.all isDig = true := by
          cases e : l.all isDig
          · exact absurd (Or.inr (Or.inr e)) hn
          · rfl
        exact ⟨decDigits_of _ l (Nat.le_refl _) h1 h2 h3, hm⟩
      · cases h
  · rintro ⟨rfl, hm⟩
    rw [if_neg, decDigits_val, if_pos hm]
    rintro (h | h | h)
    · exact decDigits_ne_nil _ h
    · exact decDigits_head n (decDigits_len n h.1) h.2
    · rw [decDigits_all] at h; cases h
theorem readB_le {l : List UInt8} {m n : Nat} (h : readB l m = some n) : n ≤ m := (readB_some.1 h).2

theorem valD_ge : ∀ (l : List UInt8) (acc : Nat), acc ≤ valD acc l
  | [], acc => Nat.le_refl _
  | c :: r, acc => Nat.le_trans (by omega) (valD_ge r (10 * acc + (c.toNat - 48)))
theorem parse_digits : ∀ (l : List UInt8) (acc : Nat), l.all isDig = true → valD acc l < 18446744073709551616 → Lib.parseUint10 acc l = .ok (valD acc l)
  | [], acc, _, _ => rfl
  | c :: r, acc, h, hv => by
    simp only [List.all_cons, Bool.and_eq_true] at h
    have hc := h.1
    unfold isDig at hc
    simp at hc
    have e : valD acc (c :: r) = valD (10 * acc + (c.toNat - 48)) r := rfl
    have hg := valD_ge r (10 * acc + (c.toNat - 48))
    rw [e] at hv
    unfold Lib.parseUint10
    rw [if_pos (by omega), if_neg (by omega), if_neg (by omega), e, show acc * 10 + (c.toNat - 48) = 10 * acc + (c.toNat - 48) by omega]
    exact parse_digits r _ h.2 hv
theorem atoi_digits (n : Nat) (h : n < 9223372036854775808) : Lib.atoiAll (Lib.decDigits n) = .ok (n : Int) := by
  have hp : Lib.parseMag (Lib.decDigits n) = .ok n := by
    unfold Lib.parseMag
    rw [if_neg (decDigits_ne_nil n), parse_digits _ _ (decDigits_all n) (by rw [decDigits_val]; omega), decDigits_val]
  cases e : Lib.decDigits n with
  | nil => exact absurd e (decDigits_ne_nil n)
  | cons c r =>
    have hall := decDigits_all n
    rw [e] at hall hp
    simp only [List.all_cons, Bool.and_eq_true] at hall
    have hc := hall.1
    unfold isDig at hc
    simp at hc
    rw [Lib.atoiAll_plain c r (by omega) (by omega), hp]
    unfold Lib.signless
    simp
    omega
theorem readB_atoi {l : List UInt8} {m n : Nat} (hm : m < 9223372036854775808) (h : readB l m = some n) : Lib.atoiAll l = .ok (n : Int) := by
  obtain ⟨rfl, hn⟩ := readB_some.1 h
  exact atoi_digits n (by omega)
theorem readB_no {l : List UInt8} {m : Nat} (hm : m < 9223372036854775808) (h : ∀ v, Lib.atoiAll l ≠ .ok v) : readB l m = none := by
  cases e : readB l m with
  | none => rfl
  | some n => exact absurd (readB_atoi hm e) (h _)
theorem readB_neg {l : List UInt8} {m : Nat} {v : Int} (hm : m < 9223372036854775808) (ha : Lib.atoiAll l = .ok v) (h : ¬ (0 ≤ v ∧ v ≤ m ∧ Lib.decDigits v.toNat = l)) : readB l m = none := by
  cases e : readB l m with
  | none => rfl
  | some n =>
    have := readB_atoi hm e
    rw [ha] at this
    injection this with this
    subst this
    have := readB_some.1 e
    exact absurd ⟨by omega, by omega, by simpa using this.1⟩ h
theorem readB_yes {l : List UInt8} {m : Nat} {v : Int} (h0 : 0 ≤ v) (h1 : v ≤ m) (h : Lib.decDigits v.toNat = l) : readB l m = some v.toNat := readB_some.2 ⟨h, by omega⟩

/-- A text cut at each byte c. -/
def pieces (c : UInt8) : List UInt8 → List (List UInt8)
  | [] => [[]]
  | x :: r => if x = c then [] :: pieces c r else (x :: (pieces c r).headD []) :: (pieces c r).tail
theorem pieces_ne (c : UInt8) (l : List UInt8) : pieces c l ≠ [] := by cases l <;> simp [pieces]; split <;> simp
theorem index_one (c x : UInt8) (r : List UInt8) : Lib.index (x :: r) [c] = if x = c then 0 else if Lib.index r [c] = -1 then -1 else Lib.index r [c] + 1 := by
  rw [Lib.index]
  have e : [c].isPrefixOf (x :: r) = (c == x) := by simp [List.isPrefixOf]
  rw [e]
  by_cases h : x = c
  · simp [h]
  · have : (c == x) = false := by simp; exact fun e => h e.symm
    simp [this, h]
theorem pieces_miss (c : UInt8) : ∀ (l : List UInt8), Lib.index l [c] = -1 → pieces c l = [l]
  | [], _ => rfl
  | x :: r, h => by
    rw [index_one] at h
    have hg := Lib.index_ge r [c]
    split at h
    · omega
    · rename_i hx
      split at h
      · rename_i hr
        rw [pieces, if_neg hx, pieces_miss c r hr]
        rfl
      · omega
theorem pieces_hit (c : UInt8) : ∀ (l : List UInt8) (i : Nat), Lib.index l [c] = i → pieces c l = l.take i :: pieces c (l.drop (i + 1))
  | [], i, h => by simp [Lib.index] at h
  | x :: r, i, h => by
    rw [index_one] at h
    have hg := Lib.index_ge r [c]
    split at h
    · rename_i hx
      obtain rfl : i = 0 := by omega
      rw [pieces, if_pos hx]
      rfl
    · rename_i hx
      split at h
      · omega
      · obtain ⟨j, rfl⟩ : ∃ j, i = j + 1 := ⟨i - 1, by omega⟩
        rw [pieces, if_neg hx, pieces_hit c r j (by omega)]
        rfl
theorem split_pieces (c : UInt8) : ∀ (k : Nat) (s : List UInt8), s.length ≤ k → Lib.splitK [c] 0 (Lib.count s [c]) s = pieces c s := by
  intro k
  induction k with
  | zero =>
    intro s hs
    obtain rfl := List.length_eq_zero_iff.1 (Nat.le_zero.1 hs)
    rfl
  | succ k ih =>
    intro s hs
    rcases Lib.index_spec s [c] with ⟨h1, _⟩ | ⟨i, h1, h2, _, _⟩
    · rw [Lib.count_miss h1, pieces_miss c s h1]
      rfl
    · have hroom := Lib.index_room s [c] (by omega)
      simp at hroom
      rw [Lib.count_hit (by simp) h1, pieces_hit c s i h1, Nat.add_comm 1, Lib.splitK, if_neg (by rw [h1]; simp), h1]
      simp only [Int.toNat_natCast, Nat.add_zero, List.length_cons, List.length_nil, Nat.zero_add]
      rw [ih (s.drop (i + 1)) (by simp; omega)]
theorem splitB_pieces (c : UInt8) (s : ByteArray) : (Lib.splitB ⟨#[c]⟩ 0 (Lib.countB s ⟨#[c]⟩) s).map (·.data.toList) = pieces c s.data.toList := by
  rw [Lib.splitB_data]
  exact split_pieces c _ _ (Nat.le_refl _)
theorem countB_pieces (c : UInt8) (s : ByteArray) : Lib.countB s ⟨#[c]⟩ + 1 = (pieces c s.data.toList).length := by
  have h := Lib.splitB_all ⟨#[c]⟩ (Nat.le_refl 1) 0 _ s rfl
  rw [← splitB_pieces, List.length_map, h]

theorem pieces_len (c : UInt8) : ∀ (l p : List UInt8), p ∈ pieces c l → p.length ≤ l.length
  | [], p, h => by simp [pieces] at h; subst h; simp
  | x :: r, p, h => by
    rw [pieces] at h
    split at h
    · rcases List.mem_cons.1 h with rfl | h
      · simp
      · have := pieces_len c r p h; simp; omega
    · rcases List.mem_cons.1 h with rfl | h
      · have hne := pieces_ne c r
        cases hp : pieces c r with
        | nil => exact absurd hp hne
        | cons y ys =>
          have := pieces_len c r y (by rw [hp]; simp)
          simp; omega
      · have := pieces_len c r p (List.mem_of_mem_tail h); simp; omega
/-- The address of a text. -/
def parseB (l : List UInt8) : Option Nat :=
  match pieces 46 l with
  | [a, b, c, d] =>
    match readB a 255, readB b 255, readB c 255, readB d 255 with
    | some a, some b, some c, some d => some (((a * 256 + b) * 256 + c) * 256 + d)
    | _, _, _, _ => none
  | _ => none
theorem parseB_lt {l : List UInt8} {n : Nat} (h : parseB l = some n) : n < 4294967296 := by
  unfold parseB at h
  split at h
  · split at h
    · rename_i h1 h2 h3 h4
      have := readB_le h1; have := readB_le h2; have := readB_le h3; have := readB_le h4
      injection h with h
      omega
    · cases h
  · cases h
example : parseB [49, 48, 46, 49, 46, 50, 46, 51] = some 0x0A010203 := by decide
example : Lib.cut [49, 48, 46, 48, 46, 48, 46, 48, 47, 56] [47] = ([49, 48, 46, 48, 46, 48, 46, 48], [56], true) := by decide
/-- An address's text. -/
def textB (a : Nat) : List UInt8 := Lib.join [Lib.decDigits (a / 16777216 % 256), Lib.decDigits (a / 65536 % 256), Lib.decDigits (a / 256 % 256), Lib.decDigits (a % 256)] [46]
end Go.Proofs.YtehpkpjgkmbngaaGreat

/-
  Walks over the addresses' texts: what the library's tables and errors are asked for; number.
-/
namespace Go.Proofs.YtehpkpjgkmbngaaGreat
open Go Go.RowKit Go.Sort

theorem below_of_atoi {w w' : World} {t : TypeId} (h : w' = w ∨ ∃ s, w' = Lib.bytesWorld w t s) : Below w.heap.size w w' := by
  rcases h with rfl | ⟨s, rfl⟩
  · exact Below.refl _ _
  · exact Lib.bytesWorld_below _ _ _
theorem below_of_grow {w w' : World} (h : ∃ k os, w' = grow (w.drewN k) os) : Below w.heap.size w w' := by
  obtain ⟨q, os, rfl⟩ := h
  refine ⟨rfl, rfl, rfl, by simp [grow, World.drewN], fun i hi => ?_⟩
  show ((w.heap ++ os)[i]?) = w.heap[i]?
  rw [Array.getElem?_append_left hi]
theorem str_mk (s : ByteArray) : (⟨s.data.toList.toArray⟩ : ByteArray) = s := by cases s; rfl
theorem list_of (s : ByteArray) : s.toList = s.data.toList := Go.ByteArray.toList_eq s

/-- The address's numbers so far. -/
def accB (p : List (List UInt8)) : Nat → Option Nat
  | 0 => some 0
  | k + 1 => match accB p k, (p[k]?).bind (readB · 255) with
    | some a, some n => some (a * 256 + n)
    | _, _ => none
theorem accB_step {p : List (List UInt8)} {k a n : Nat} {l : List UInt8} (h : accB p k = some a) (hl : p[k]? = some l) (hn : readB l 255 = some n) : accB p (k + 1) = some (a * 256 + n) := by
  rw [accB, h, hl, Option.bind_some, hn]
theorem accB_lt {p : List (List UInt8)} : ∀ {k a : Nat}, accB p k = some a → k ≤ 4 → a < 256 ^ k
  | 0, a, h, _ => by injection h with h; omega
  | k + 1, a, h, hk => by
    rw [accB] at h
    split at h
    · rename_i b n h1 h2
      obtain ⟨l, hl, h3⟩ := Option.bind_eq_some_iff.1 h2
      have := accB_lt h1 (by omega)
      have := readB_le h3
      injection h with h
      rw [Nat.pow_succ]
      omega
    · cases h
theorem parseB_four {l : List UInt8} (h : (pieces 46 l).length = 4) : parseB l = accB (pieces 46 l) 4 := by
  unfold parseB
  match hp : pieces 46 l, h with
  | [a, b, c, d], _ =>
    simp only [accB, List.getElem?_cons_zero, List.getElem?_cons_succ, Option.bind_some]
    cases readB a 255 <;> cases readB b 255 <;> cases readB c 255 <;> cases readB d 255 <;> simp
theorem parseB_not {l : List UInt8} (h : (pieces 46 l).length ≠ 4) : parseB l = none := by
  unfold parseB
  split
  · rename_i hp; rw [hp] at h; exact absurd rfl h
  · rfl
theorem accB_none {p : List (List UInt8)} {k : Nat} {l : List UInt8} (hl : p[k]? = some l) (hn : readB l 255 = none) : ∀ j, k < j → accB p j = none
  | 0, h => by omega
  | j + 1, h => by
    rw [accB]
    rcases (show k = j ∨ k < j by omega) with rfl | h1
    · rw [hl, Option.bind_some, hn]
      cases accB p k <;> rfl
    · rw [accB_none hl hn j h1]
/-- What Parse hands back. -/
def adE (o : Option Nat) : Int := if o.isSome then 0 else 4
def adV (o : Option Nat) : Int := ((o.getD 0 : Nat) : Int)
end Go.Proofs.YtehpkpjgkmbngaaGreat

/-
  Walks over the addresses' texts: Parse.
-/
namespace Go.Proofs.YtehpkpjgkmbngaaGreat
open Go Go.RowKit Go.Sort

theorem cells_str {w : World} {g : Nat} {L : List ByteArray} {t : TypeId} {p} (h : w.heap[g]? = some (.cells (L.map Value.string).toArray t p)) {k : Nat} {x : ByteArray} (hk : L[k]? = some x) : w.cell? ⟨g, k, none⟩ = some (.string x) := by
  rw [cell_of_row w g k _ _ _ h]
  simp [hk]

theorem u32_orN (a b : Nat) (ha : a < 4294967296) (hb : b < 4294967296) : bits .or .u32 (a : Int) (b : Int) = ((a ||| b : Nat) : Int) := by
  rw [u32_or _ _ (by omega) (by omega) (by omega) (by omega), Int.toNat_natCast, Int.toNat_natCast]
theorem or_byte (n v : Nat) (hn : n < 16777216) (hv : v < 256) : bits .or .u32 ((n : Int) * 256 % 4294967296) ((v : Int) % 4294967296) = ((n * 256 + v : Nat) : Int) := by
  have e1 : (n : Int) * 256 % 4294967296 = ((n * 256 : Nat) : Int) := by rw [Int.emod_eq_of_lt (by omega) (by omega)]; simp
  have e2 : (v : Int) % 4294967296 = (v : Int) := by omega
  have h := Nat.shiftLeft_add_eq_or_of_lt (b := v) (i := 8) (by omega) n
  rw [Nat.shiftLeft_eq, show (2 : Nat) ^ 8 = 256 from rfl] at h
  rw [e1, e2, h]
  exact u32_orN (n * 256) v (by omega) (by omega)
theorem or_byte' (n v : Nat) (hn : n < 16777216) (hv : v < 256) : bits .or .u32 ((n : Int) * 256) (v : Int) = ((n * 256 + v : Nat) : Int) := by
  have h := or_byte n v hn hv
  rwa [Int.emod_eq_of_lt (by omega) (by omega), Int.emod_eq_of_lt (by omega) (by omega)] at h
theorem or_byte_le (n v : Nat) (hn : n < 16777216) (hv : v < 256) : n * 256 + v < 4294967296 := by omega
end Go.Proofs.YtehpkpjgkmbngaaGreat

/-
  Walks over the addresses' layer: Mask, Bits, Subnet; the program's and the reference's.
-/
namespace Go.Proofs.YtehpkpjgkmbngaaGreat
open Go Go.RowKit Go.Sort

/-- The mask of so many bits, and the refusal. -/
def maskA (n : Int) : Int := if n < 0 ∨ 32 < n then 0 else 4294967296 - sz n
def argE (n : Int) : Int := if n < 0 ∨ 32 < n then 1 else 0
theorem mask_no {n : Int} (h : n < 0 ∨ 32 < n) : maskA n = 0 ∧ argE n = 1 := ⟨if_pos h, if_pos h⟩
theorem mask_yes {n : Int} (h0 : 0 ≤ n) (h1 : n ≤ 32) : maskA n = 4294967296 - sz n ∧ argE n = 0 := ⟨if_neg (by omega), if_neg (by omega)⟩
theorem ret2 {v v' u u' : Value} (h : v = v' ∧ u = u') : Ending.returned (.tuple #[v, u]) = .returned (.tuple #[v', u']) := by rw [h.1, h.2]
theorem vint {k : IntKind} {a b : Int} (h : a = b) : Value.int k a = .int k b := by rw [h]

theorem mask_range (n : Int) : 0 ≤ maskA n ∧ maskA n < 4294967296 := by
  unfold maskA
  have hp := sz_pos n
  have hq := sz_le n
  split <;> omega
/-- Of how many bits a mask is, and the refusal. -/
def bitsN (m : Int) : Int := if maskA (lz32 (4294967295 - m)) = m then lz32 (4294967295 - m) else 0
def bitsE (m : Int) : Int := if maskA (lz32 (4294967295 - m)) = m then 0 else 10
theorem bits_yes {m : Int} (h : maskA (lz32 (4294967295 - m)) = m) : bitsN m = lz32 (4294967295 - m) ∧ bitsE m = 0 := ⟨if_pos h, if_pos h⟩
theorem bits_no {m : Int} (h : ¬ maskA (lz32 (4294967295 - m)) = m) : bitsN m = 0 ∧ bitsE m = 10 := ⟨if_neg h, if_neg h⟩
theorem mask_lz (n : Int) (h0 : 0 ≤ n) (h1 : n ≤ 32) : lz32 (4294967295 - maskA n) = n := by
  rw [(mask_yes h0 h1).1, show 4294967295 - (4294967296 - sz n) = sz n - 1 by omega]
  exact lz32_mask n h0 h1

end Go.Proofs.YtehpkpjgkmbngaaGreat

/-
  Walks over the addresses' layer: Subnet, Ends; the program's and the reference's.
-/
namespace Go.Proofs.YtehpkpjgkmbngaaGreat
open Go Go.RowKit Go.Sort

/-- The first address of a subnet of so many bits. -/
def subA (a n : Int) : Int := if n < 0 ∨ 32 < n then 0 else a - a % sz n
def subN (n : Int) : Int := if n < 0 ∨ 32 < n then 0 else n
theorem sub_no {n : Int} (a : Int) (h : n < 0 ∨ 32 < n) : subA a n = 0 ∧ subN n = 0 ∧ argE n = 1 := ⟨if_pos h, if_pos h, if_pos h⟩
theorem sub_yes {n : Int} (a : Int) (h0 : 0 ≤ n) (h1 : n ≤ 32) : subA a n = a - a % sz n ∧ subN n = n ∧ argE n = 0 := ⟨if_neg (by omega), if_neg (by omega), if_neg (by omega)⟩
theorem mod_le (a n : Int) (h0 : 0 ≤ a) : 0 ≤ a % sz n ∧ a % sz n ≤ a ∧ a % sz n < sz n ∧ a / sz n * sz n = a - a % sz n ∧ 0 ≤ a / sz n := by
  have hp := sz_pos n
  have l1 := Int.emod_nonneg a (by omega : sz n ≠ 0)
  have l2 := Int.emod_lt_of_pos a (by omega : 0 < sz n)
  have e1 := Int.emod_add_mul_ediv a (sz n)
  have e3 := Int.ediv_nonneg h0 (by omega : 0 ≤ sz n)
  have e2 := Int.mul_nonneg (by omega : 0 ≤ sz n) e3
  rw [Int.mul_comm (a / sz n)]
  omega
theorem sub_range (a n : Int) (h0 : 0 ≤ a) (h1 : a < 4294967296) : 0 ≤ subA a n ∧ subA a n < 4294967296 := by
  unfold subA
  obtain ⟨m1, m2, _⟩ := mod_le a n h0
  split <;> omega
theorem sub_val (a n : Int) (h0 : 0 ≤ a) (h1 : a < 4294967296) : IntKind.u32.wrap (IntKind.u64.wrap (IntKind.u64.wrap ((IntKind.u64.wrap a).tdiv (sz n)) * sz n)) = a - a % sz n := by
  have hp := sz_pos n
  obtain ⟨m1, m2, m3, m4, m5⟩ := mod_le a n h0
  have e1 : IntKind.u64.wrap a = a := by rw [IntKind.wrap_u64]; omega
  have m6 : a / sz n ≤ a := Int.ediv_le_self _ h0
  rw [e1, Int.tdiv_eq_ediv_of_nonneg h0]
  have e2 : IntKind.u64.wrap (a / sz n) = a / sz n := by rw [IntKind.wrap_u64]; omega
  rw [e2, m4, IntKind.wrap_u64, IntKind.wrap_u32']
  omega
theorem ret_p2 {a a' n n' e e' : Int} (h : a = a' ∧ n = n' ∧ e = e') : Ending.returned (.tuple #[.agg #[.int .u32 a, .int .i64 n], .int .i64 e]) = .returned (.tuple #[.agg #[.int .u32 a', .int .i64 n'], .int .i64 e']) := by rw [h.1, h.2.1, h.2.2]

/-- The last address of a prefix that may be. -/
def endA (a n : Int) : Int := if chk a n = 0 then a else 0
def endB (a n : Int) : Int := if chk a n = 0 then a + sz n - 1 else 0
theorem end_yes {a n : Int} (h : chk a n = 0) : endA a n = a ∧ endB a n = a + sz n - 1 := ⟨if_pos h, if_pos h⟩
theorem end_no {a n : Int} (h : ¬ chk a n = 0) : endA a n = 0 ∧ endB a n = 0 := ⟨if_neg h, if_neg h⟩
theorem ret3 {v v' u u' x x' : Value} (h : v = v' ∧ u = u' ∧ x = x') : Ending.returned (.tuple #[v, u, x]) = .returned (.tuple #[v', u', x']) := by rw [h.1, h.2.1, h.2.2]
theorem or_sz (a n : Int) (ha : 0 ≤ a) (hb : a < 4294967296) (h : a % sz n = 0) : bits .or .u32 a (sz n - 1) = a + sz n - 1 := by
  obtain ⟨a, rfl⟩ := Int.eq_ofNat_of_zero_le ha
  have hp := sz_pos n
  have hq := sz_le n
  rw [u32_or _ _ ha hb (by omega) (by omega), sz_nat]
  have e : (((2 ^ (32 - n.toNat) : Nat) : Int) - 1).toNat = 2 ^ (32 - n.toNat) - 1 := by omega
  have hm : a % 2 ^ (32 - n.toNat) = 0 := by rw [sz_nat] at h; omega
  have h2 := Nat.two_pow_pos (32 - n.toNat)
  rw [e, Int.toNat_natCast, nat_join (32 - n.toNat) a _ hm (by omega)]
  omega
theorem end_le (a n : Int) (hb : a < 4294967296) (h : a % sz n = 0) : a + sz n - 1 < 4294967296 := by
  obtain ⟨c, hc⟩ := sz_dvd n
  have hp := sz_pos n
  have e1 := Int.emod_add_mul_ediv a (sz n)
  rw [h] at e1
  have : sz n * (a / sz n) < sz n * c := by omega
  have h3 : a / sz n < c := Int.lt_of_mul_lt_mul_left this (by omega)
  have h4 : sz n * (a / sz n + 1) ≤ sz n * c := Int.mul_le_mul_of_nonneg_left (by omega) (by omega)
  rw [Int.mul_add] at h4
  omega

set_option maxHeartbeats 400000 in
theorem addrEnds_any (a n : Int) (w : World) (h0 : 0 ≤ a) (h1 : a < 4294967296) :
    Calls Tryz.prog 17 #[.agg #[.int .u32 a, .int .i64 n]] w fun e w' => e = .returned (.tuple #[.int .u32 (endA a n), .int .u32 (endB a n), .int .i64 (chk a n)]) ∧ Below w.heap.size w w' := by
  by_cases hr : chk a n = 0
  · have hm := Lib.hid (end_yes hr)
    obtain ⟨hn0, hn1, h2⟩ := chk_ok hr
    have hd : (chk a n != 0) = false := by simp [hr]
    have hR := Lib.hid hr
    have ho := Lib.hid (or_sz a n h0 h1 h2)
    clear hr h2
    go_enter Tryz.func17, Tryz.ntmps17
    go_wp2_with fail
    refine (addrCheck_any _ _ _ h0 h1).mono ?_
    rintro e w1 ⟨rfl, hb⟩
    have c0 : w1.cell? ⟨w.heap.size, 0, none⟩ = some (.int .u32 a) := (hb.cell (p := ⟨w.heap.size, 0, none⟩) (by simp)).trans (by simp)
    have c1 : w1.cell? ⟨w.heap.size, 1, none⟩ = some (.int .i64 n) := (hb.cell (p := ⟨w.heap.size, 1, none⟩) (by simp)).trans (by simp)
    have hbw := ((Below.refl w.heap.size w).alloc (Nat.le_refl _) (.cells #[.int .u32 a, .int .i64 n] 38)).trans (hb.mono (by simp))
    go_wp2
    go_quiet ((go_at_call 47; exact quiet_left (behind_any _ _ (by omega) (by omega))))
    go_wp2
    go_ret3
    exact ⟨ret3 ⟨vint hm.out.1.symm, vint (by rw [ho.out]; exact hm.out.2.symm), vint hR.out.symm⟩, below_drewN hbw _⟩
  · have hm := Lib.hid (end_no hr)
    have hd : (chk a n != 0) = true := by simp [hr]
    clear hr
    go_enter Tryz.func17, Tryz.ntmps17
    go_wp2_with fail
    refine (addrCheck_any _ _ _ h0 h1).mono ?_
    rintro e w1 ⟨rfl, hb⟩
    have hbw := ((Below.refl w.heap.size w).alloc (Nat.le_refl _) (.cells #[.int .u32 a, .int .i64 n] 38)).trans (hb.mono (by simp))
    go_wp2
    go_ret3
    exact ⟨ret3 ⟨vint hm.out.1.symm, vint hm.out.2.symm, rfl⟩, hbw⟩

set_option maxHeartbeats 400000 in
theorem refEnds_any (a n : Int) (w : World) (h0 : 0 ≤ a) (h1 : a < 4294967296) :
    Calls Tryz.prog 28 #[.agg #[.int .u32 a, .int .i64 n]] w fun e w' => e = .returned (.tuple #[.int .u32 (endA a n), .int .u32 (endB a n), .int .i64 (chk a n)]) ∧ Below w.heap.size w w' := by
  by_cases hr : chk a n = 0
  · have hm := Lib.hid (end_yes hr)
    obtain ⟨hn0, hn1, h2⟩ := chk_ok hr
    have hd : (chk a n != 0) = false := by simp [hr]
    have hR := Lib.hid hr
    have hl := end_le a n h1 h2
    have hp := sz_pos n
    clear hr h2
    go_enter Tryz.func28, Tryz.ntmps28
    go_wp2_with fail
    refine (refCheck_any _ _ _ h0 h1).mono ?_
    rintro e w1 ⟨rfl, hb⟩
    have c0 : w1.cell? ⟨w.heap.size, 0, none⟩ = some (.int .u32 a) := (hb.cell (p := ⟨w.heap.size, 0, none⟩) (by simp)).trans (by simp)
    have c1 : w1.cell? ⟨w.heap.size, 1, none⟩ = some (.int .i64 n) := (hb.cell (p := ⟨w.heap.size, 1, none⟩) (by simp)).trans (by simp)
    have hbw := ((Below.refl w.heap.size w).alloc (Nat.le_refl _) (.cells #[.int .u32 a, .int .i64 n] 38)).trans (hb.mono (by simp))
    go_wp2
    go_quiet ((go_at_call 56; exact quiet_left (size_any _ _ (by omega) (by omega))))
    go_wp2
    go_ret3
    exact ⟨ret3 ⟨vint hm.out.1.symm, vint hm.out.2.symm, vint hR.out.symm⟩, below_drewN hbw _⟩
  · have hm := Lib.hid (end_no hr)
    have hd : (chk a n != 0) = true := by simp [hr]
    clear hr
    go_enter Tryz.func28, Tryz.ntmps28
    go_wp2_with fail
    refine (refCheck_any _ _ _ h0 h1).mono ?_
    rintro e w1 ⟨rfl, hb⟩
    have hbw := ((Below.refl w.heap.size w).alloc (Nat.le_refl _) (.cells #[.int .u32 a, .int .i64 n] 38)).trans (hb.mono (by simp))
    go_wp2
    go_ret3
    exact ⟨ret3 ⟨vint hm.out.1.symm, vint hm.out.2.symm, rfl⟩, hbw⟩

end Go.Proofs.YtehpkpjgkmbngaaGreat

/-
  Walks over the addresses' texts: Text, PrefixText, ParsePrefix.
-/
namespace Go.Proofs.YtehpkpjgkmbngaaGreat
open Go Go.RowKit Go.Sort

/-- The four numbers of an address. -/
def octet (a k : Nat) : Nat := a / 256 ^ (3 - k) % 256
theorem octet_lt (a k : Nat) : octet a k < 256 := Nat.mod_lt _ (by decide)
/-- The cells of the array while it is filled. -/
def octs (a k : Nat) : List ByteArray := (List.range 4).map fun i => if i < k then ⟨(Lib.decDigits (octet a i)).toArray⟩ else ByteArray.empty
theorem octs_len (a k : Nat) : (octs a k).length = 4 := by simp [octs]
theorem octs_full (a : Nat) : (octs a 4).map (·.data.toList) = [Lib.decDigits (octet a 0), Lib.decDigits (octet a 1), Lib.decDigits (octet a 2), Lib.decDigits (octet a 3)] := rfl
theorem octs_set (a k : Nat) (hk : k < 4) : (((octs a k).map Value.string).toArray).setIfInBounds k (.string ⟨(Lib.decDigits (octet a k)).toArray⟩) = ((octs a (k + 1)).map Value.string).toArray := by
  match k, hk with
  | 0, _ => rfl
  | 1, _ => rfl
  | 2, _ => rfl
  | 3, _ => rfl
/-- An address's text. -/
def textA (a : Nat) : ByteArray := ⟨(Lib.join [Lib.decDigits (octet a 0), Lib.decDigits (octet a 1), Lib.decDigits (octet a 2), Lib.decDigits (octet a 3)] [46]).toArray⟩

theorem frozen_row {w : World} {g : Nat} {cs : Array Value} {t : TypeId} (h : w.heap[g]? = some (.cells cs t (0, 0))) (k : Nat) : w.frozen? ⟨g, k, none⟩ = false := by
  unfold World.frozen?
  simp [h]
theorem and_255 (x : Int) (h0 : 0 ≤ x) (h1 : x < 4294967296) : bits .and .u32 x 255 = x % 256 := by
  obtain ⟨x, rfl⟩ := Int.eq_ofNat_of_zero_le h0
  rw [u32_and _ _ h0 h1 (by omega) (by omega), Int.toNat_natCast]
  have := Nat.and_two_pow_sub_one_eq_mod x 8
  rw [show (255 : Int).toNat = 2 ^ 8 - 1 from rfl, this]
  rfl
theorem wrap_small {x : Int} (h0 : 0 ≤ x) (h1 : x < 256) : wrap64 x = x := by
  unfold wrap64; omega
/-- A numeral of a number below 1000, written out. -/
def dec3 (n : Nat) : List UInt8 := if n < 10 then [UInt8.ofNat (48 + n)] else if n < 100 then [UInt8.ofNat (48 + n / 10), UInt8.ofNat (48 + n % 10)] else [UInt8.ofNat (48 + n / 100), UInt8.ofNat (48 + n / 10 % 10), UInt8.ofNat (48 + n % 10)]
theorem dec3_eq {n : Nat} (h : n < 1000) : Lib.decDigits n = dec3 n := by
  unfold dec3
  split
  · rename_i h1; exact decDigits_small h1
  · split
    · rename_i h1 h2; exact Lib.decDigits_two h1 h2
    · rename_i h1 h2
      rw [decDigits_big h1, Lib.decDigits_two (by omega) (by omega), Nat.div_div_eq_div_mul]
      rfl
theorem dec3_len (n : Nat) : (dec3 n).length ≤ 3 := by unfold dec3; split; · simp
                                                       · split <;> simp
theorem join_four (a b c d : List UInt8) : Lib.join [a, b, c, d] [46] = a ++ (46 :: (b ++ (46 :: (c ++ (46 :: d))))) := by
  rw [Lib.join_cons]
  simp [Lib.joinTail]
theorem join_oct (a : Nat) : (Lib.join ((octs a 4).map (·.data.toList)) [46]).length ≤ 15 := by
  rw [octs_full, join_four, dec3_eq (Nat.lt_trans (octet_lt a 0) (by decide)), dec3_eq (Nat.lt_trans (octet_lt a 1) (by decide)), dec3_eq (Nat.lt_trans (octet_lt a 2) (by decide)), dec3_eq (Nat.lt_trans (octet_lt a 3) (by decide))]
  have := dec3_len (octet a 0); have := dec3_len (octet a 1); have := dec3_len (octet a 2); have := dec3_len (octet a 3)
  simp only [List.length_append, List.length_cons]
  omega
theorem textA_eq (a : Nat) : textA a = ⟨(dec3 (octet a 0) ++ (46 :: (dec3 (octet a 1) ++ (46 :: (dec3 (octet a 2) ++ (46 :: dec3 (octet a 3)))))) : List UInt8).toArray⟩ := by
  unfold textA
  rw [join_four, dec3_eq (Nat.lt_trans (octet_lt a 0) (by decide)), dec3_eq (Nat.lt_trans (octet_lt a 1) (by decide)), dec3_eq (Nat.lt_trans (octet_lt a 2) (by decide)), dec3_eq (Nat.lt_trans (octet_lt a 3) (by decide))]
theorem textA_size (a : Nat) : (textA a).size ≤ 15 := join_oct a
/-- A prefix's text. -/
def textP (a : Nat) (n : Int) : ByteArray := textA a ++ ⟨#[47]⟩ ++ ⟨(Lib.itoa n).toArray⟩
end Go.Proofs.YtehpkpjgkmbngaaGreat

/-
  Walks over the addresses' layer: Halves; the program's and the reference's.
-/
namespace Go.Proofs.YtehpkpjgkmbngaaGreat
open Go Go.RowKit Go.Sort

/-- The halves of a prefix: the refusal, where they begin, their bits. -/
def halfE (a n : Int) : Int := if chk a n = 0 then (if n = 32 then 5 else 0) else chk a n
def halfL (a n : Int) : Int := if halfE a n = 0 then a else 0
def halfH (a n : Int) : Int := if halfE a n = 0 then a + sz (n + 1) else 0
def halfN (a n : Int) : Int := if halfE a n = 0 then n + 1 else 0
theorem half_no {a n : Int} (h : ¬ halfE a n = 0) : halfL a n = 0 ∧ halfH a n = 0 ∧ halfN a n = 0 := ⟨if_neg h, if_neg h, if_neg h⟩
theorem half_yes {a n : Int} (h : halfE a n = 0) : halfL a n = a ∧ halfH a n = a + sz (n + 1) ∧ halfN a n = n + 1 := ⟨if_pos h, if_pos h, if_pos h⟩
theorem halfE_chk {a n : Int} (h : ¬ chk a n = 0) : halfE a n = chk a n := if_neg h
theorem halfE_32 {a n : Int} (h : chk a n = 0) (h1 : n = 32) : halfE a n = 5 := by unfold halfE; rw [if_pos h, if_pos h1]
theorem halfE_ok {a n : Int} (h : chk a n = 0) (h1 : ¬ n = 32) : halfE a n = 0 := by unfold halfE; rw [if_pos h, if_neg h1]
theorem ret_pp {a a' b b' n n' e e' : Int} (h : a = a' ∧ b = b' ∧ n = n' ∧ e = e') : Ending.returned (.tuple #[.agg #[.int .u32 a, .int .i64 n], .agg #[.int .u32 b, .int .i64 n], .int .i64 e]) = .returned (.tuple #[.agg #[.int .u32 a', .int .i64 n'], .agg #[.int .u32 b', .int .i64 n'], .int .i64 e']) := by rw [h.1, h.2.1, h.2.2.1, h.2.2.2]

theorem half_le (a n : Int) (hb : a < 4294967296) (hn0 : 0 ≤ n) (hn : n < 32) (h : a % sz n = 0) : sz n = 2 * sz (n + 1) ∧ a + sz (n + 1) < 4294967296 := by
  have e : sz n = 2 * sz (n + 1) := by
    unfold sz
    rw [← p2_succ]
    congr 1; omega
  have h1 := end_le a n hb h
  have := sz_pos (n + 1)
  omega
theorem or_half (a n : Int) (ha : 0 ≤ a) (hb : a < 4294967296) (hn0 : 0 ≤ n) (hn : n < 32) (h : a % sz n = 0) : bits .or .u32 a (2 ^ (31 - n).toNat % 4294967296) = a + sz (n + 1) := by
  obtain ⟨a, rfl⟩ := Int.eq_ofNat_of_zero_le ha
  have e1 : (31 - n).toNat = 32 - (n + 1).toNat := by omega
  have e2 : (2 : Int) ^ (31 - n).toNat = sz (n + 1) := by rw [e1]; rfl
  have hp := sz_pos (n + 1)
  have e3 : sz (n + 1) < 4294967296 := by
    have := p2_succ (32 - (n + 1).toNat)
    have h3 := p2_le32 (k := 32 - (n + 1).toNat + 1) (by omega)
    unfold sz at *
    omega
  rw [e2, Int.emod_eq_of_lt (by omega) e3, u32_or _ _ ha hb (by omega) e3, sz_nat]
  have h2 := Nat.two_pow_pos (32 - (n + 1).toNat)
  have hm : a % 2 ^ (32 - n.toNat) = 0 := by rw [sz_nat] at h; omega
  rw [Int.toNat_natCast, Int.toNat_natCast, nat_join (32 - n.toNat) a _ hm (by
    rw [show 32 - n.toNat = (32 - (n + 1).toNat) + 1 by omega, Nat.pow_succ]; omega)]
  omega

theorem half_val (a n : Int) (ha : 0 ≤ a) (hb : a < 4294967296) (hn0 : 0 ≤ n) (hn : n < 32) (h : a % sz n = 0) : IntKind.u32.wrap (IntKind.u64.wrap (IntKind.u64.wrap a + sz (n + 1))) = a + sz (n + 1) := by
  have h1 := half_le a n hb hn0 hn h
  have := sz_pos (n + 1)
  simp only [IntKind.wrap_u64, IntKind.wrap_u32']
  omega
theorem results_pp {fn : Func} {tmps : Array Value} {w : World} {g1 g2 : Nat} {a b c d e : Value} {t1 t2 t3 : Nat} (hf : fn.results = #[.cell t1 38, .cell t2 38, .tmp t3]) (h1 : tmps.getD t1 undef = .pointer (some ⟨g1, 0, none⟩)) (h2 : tmps.getD t2 undef = .pointer (some ⟨g2, 0, none⟩)) (h3 : tmps.getD t3 undef = e)
    (k1 : w.heap[g1]? = some (.cells #[a, b] 38 (0, 0))) (k2 : w.heap[g2]? = some (.cells #[c, d] 38 (0, 0))) :
    (results fn tmps).run Tryz.prog w = .ok (.tuple #[.agg #[a, b], .agg #[c, d], e]) w := by
  obtain ⟨c0, c1, _, _⟩ := two_cells k1
  obtain ⟨c2, c3, _, _⟩ := two_cells k2
  have h1' : tmps[t1]?.getD undef = .pointer (some ⟨g1, 0, none⟩) := by simpa using h1
  have h2' : tmps[t2]?.getD undef = .pointer (some ⟨g2, 0, none⟩) := by simpa using h2
  have h3' : tmps[t3]?.getD undef = e := by simpa using h3
  simp [results, hf, h1', h2', h3', go_sem, c0, c1, c2, c3]

def HalfRes (a n : Int) (w : World) (en : Ending) (w' : World) : Prop :=
  en = .returned (.tuple #[.agg #[.int .u32 (halfL a n), .int .i64 (halfN a n)], .agg #[.int .u32 (halfH a n), .int .i64 (halfN a n)], .int .i64 (halfE a n)]) ∧ Below w.heap.size w w'

end Go.Proofs.YtehpkpjgkmbngaaGreat

/-
  Joined texts: Ln4, Ln5, SpMath4, Sp6, Sp7, Sp8, Sp9, Sp4, Sp5, Sp10, Sp11.
-/
import Derived.Test.YtehpkpjgkmbngaaGreatMLintLists1
import Derived.Test.YtehpkpjgkmbngaaGreatMLintLists3
import Derived.Test.YtehpkpjgkmbngaaGreatMLintLists10
import Derived.Test.YtehpkpjgkmbngaaGreatMLintLists4
import Derived.Test.YtehpkpjgkmbngaaGreatMLintLists5
import Derived.Test.YtehpkpjgkmbngaaGreatShelf2
import Derived.Test.YtehpkpjgkmbngaaGreatProg
import Derived.Deep.DeepCutAuto
import Derived.Deep.RegionLaw
import Derived.Deep.CutBlock
/-
  slices.IndexFunc, ContainsFunc, Index, Contains at the lists' kinds (written by wip/gen/genln4.py).
-/
namespace Go.Proofs.YtehpkpjgkmbngaaGreat
open Go Go.RowKit Go.Sort

/-- A community list's member: what it lets, where its communities lie, these. -/
structure MemV where
  permit : Bool
  v : Value
  L : List Int
instance : Inhabited MemV := ⟨⟨false, .slice none 0 0, []⟩⟩
def MemV.enc (x : MemV) : List Value := [.bool x.permit, x.v]
theorem mem_len (x : MemV) : x.enc.length = 2 := rfl
def mcells (L : List MemV) : List Value := L.flatMap MemV.enc
theorem mcell {L : List MemV} {k i : Nat} {x : MemV} {v : Value} (hr : L[k]? = some x) (hv : x.enc[i]? = some v) : (mcells L)[k * 2 + i]? = some v := flat_get MemV.enc 2 mem_len L k i x v hr hv
/-- A prefix list's entry. -/
structure EntV where
  permit : Bool
  a : Int
  n : Int
  ge : Int
  le : Int
instance : Inhabited EntV := ⟨⟨false, 0, 0, 0, 0⟩⟩
def EntV.enc (x : EntV) : List Value := [.bool x.permit, .int .u32 x.a, .int .i64 x.n, .int .i64 x.ge, .int .i64 x.le]
theorem ent_len (x : EntV) : x.enc.length = 5 := rfl
def ecells (L : List EntV) : List Value := L.flatMap EntV.enc
theorem ecell {L : List EntV} {k i : Nat} {x : EntV} {v : Value} (hr : L[k]? = some x) (hv : x.enc[i]? = some v) : (ecells L)[k * 5 + i]? = some v := flat_get EntV.enc 5 ent_len L k i x v hr hv
def u32c (L : List Int) : List Value := L.map (Value.int .u32)
theorem u32c_get {L : List Int} {k : Nat} {x : Int} (h : L[k]? = some x) : (u32c L)[k]? = some (.int .u32 x) := by simp [u32c, h]
theorem any_idx {α : Type} [Inhabited α] (p : α → Bool) (L : List α) : (0 ≤ idxP p L) = (L.any p = true) := by
  rcases idxP_cases p L with ⟨h1, h2⟩ | ⟨k, x, h1, h2, h3, _⟩
  · rw [h1]
    have : L.any p = false := by
      rw [List.any_eq_false]
      intro x hx
      obtain ⟨j, hj⟩ := List.mem_iff_getElem?.1 hx
      simp [h2 j x hj]
    rw [this]
    simp
  · rw [h1]
    have : L.any p = true := List.any_eq_true.2 ⟨x, List.mem_of_getElem? h2, h3⟩
    rw [this]
    simp
theorem any_dec {α : Type} [Inhabited α] (p : α → Bool) (L : List α) : decide ((0 : Int) ≤ idxP p L) = L.any p := by
  have := any_idx p L
  by_cases h : (0 : Int) ≤ idxP p L
  · rw [decide_eq_true h]; exact (this ▸ h : L.any p = true).symm
  · rw [decide_eq_false h]
    cases h2 : L.any p with
    | false => rfl
    | true => exact absurd (this ▸ h2 : (0 : Int) ≤ idxP p L) h

set_option maxRecDepth 100000 in
set_option maxHeartbeats 2000000 in
theorem indexFnU_any (L : List Int) (v : Value) (p : Int → Bool) (fid : FuncId) (caps : Array Value) (w : World) (en : ∀ (args : Array Value) (W : World), (callFunc fid args).run Tryz.prog W = .ok (.enter fid args) W) (hp : ∀ (x : Int) W, x ∈ L → Below w.heap.size w W → Calls Tryz.prog fid (#[.int .u32 x] ++ caps) W fun e W' => e = .returned (.bool (p x)) ∧ Below W.heap.size W W') (h : Rd w w.heap.size 1 v L.length (u32c L)) (hlen : L.length ≤ 9223372036854775807) :
    Calls Tryz.prog 53 #[v, .func (.func fid) #[] caps] w fun e w' => e = .returned (.int .i64 (idxP p L)) ∧ Below w.heap.size w w' := by
  obtain ⟨A, c, rfl, hc⟩ := h.form
  have HR := Lib.hid h
  have HP := Lib.hid hp
  clear h hp
  go_enter Tryz.func53, Tryz.ntmps53
  go_wp2
  go_loopw [8] (fun i wr => ∃ k : Nat, i = .int .i64 k ∧ k ≤ L.length ∧ Hid (∀ (j : Nat) (x : Int), j < k → L[j]? = some x → p x = false) ∧ Hid (Below w.heap.size w wr)) (fun i _ => L.length - (intOf i).toNat)
  case atStart => exact ⟨0, rfl, by omega, Lib.hid (fun j x hj _ => by omega), Lib.hid (Below.refl _ _)⟩
  case round =>
    obtain ⟨k, rfl, hk, HN, HB⟩ := hrel
    by_cases hlt : k < L.length
    · have hI : (k : Int) < (L.length : Int) := by omega
      obtain ⟨x, hx⟩ : ∃ x, L[k]? = some x := ⟨_, List.getElem?_eq_getElem hlt⟩
      obtain ⟨b, off, c', hv, _, hbB, hcell⟩ := HR.out.pos (by omega)
      injection hv with hv1 hvl hv3
      subst hv1 hv3
      clear hvl
      have c0 : wr.cell? ⟨b, off + k, none⟩ = some (.int .u32 x) := (HB.out.cell (p := ⟨b, off + k, none⟩) hbB).trans (hcell k _ (u32c_get hx))
      have HX := Lib.hid hx
      have HCALL := Lib.hid (HP.out x wr (List.mem_of_getElem? hx) HB.out)
      clear hcell hx
      go_wp2_with ((with_reducible refine HCALL.out.mono ?_); rintro e w2 ⟨rfl, hb2⟩; have HB2 := Lib.hid (HB.out.trans (hb2.mono HB.out.size)); clear hb2; obtain ⟨q, hq⟩ : ∃ q, p x = q := ⟨_, rfl⟩; have HQ := Lib.hid hq; rw [hq]; clear hq; cases q)
      · exact ⟨⟨k + 1, by go_num, by omega, Lib.hid (fun j y hj hy => by
          rcases Nat.lt_or_ge j k with h1 | h1
          · exact HN.out j y h1 hy
          · obtain rfl : j = k := by omega
            rw [HX.out] at hy
            injection hy with hy
            subst hy
            exact HQ.out), HB2⟩, by simp only [intOf]; omega⟩
      · go_ret
        exact ⟨by rw [idxP_hit p L k x HX.out HQ.out HN.out]; rfl, HB2.out⟩
    · obtain rfl : k = L.length := by omega
      have hI : ¬ (L.length : Int) < (L.length : Int) := by omega
      have HFIN := Lib.hid (idxP_miss p L fun j x hx => HN.out j x (List.getElem?_eq_some_iff.1 hx).1 hx)
      go_wp2
      go_ret
      exact ⟨by rw [HFIN.out]; rfl, HB.out⟩
set_option maxRecDepth 100000 in
set_option maxHeartbeats 2000000 in
theorem containsFnU_any (L : List Int) (v : Value) (p : Int → Bool) (fid : FuncId) (caps : Array Value) (w : World) (en : ∀ (args : Array Value) (W : World), (callFunc fid args).run Tryz.prog W = .ok (.enter fid args) W) (hp : ∀ (x : Int) W, x ∈ L → Below w.heap.size w W → Calls Tryz.prog fid (#[.int .u32 x] ++ caps) W fun e W' => e = .returned (.bool (p x)) ∧ Below W.heap.size W W') (h : Rd w w.heap.size 1 v L.length (u32c L)) (hlen : L.length ≤ 9223372036854775807) :
    Calls Tryz.prog 25 #[v, .func (.func fid) #[] caps] w fun e w' => e = .returned (.bool (L.any p)) ∧ Below w.heap.size w w' := by
  have HI := Lib.hid (indexFnU_any L v p fid caps w en hp h hlen)
  obtain ⟨A, c, rfl, hc⟩ := h.form
  clear h hp en
  have hd := any_dec p L
  generalize idxP p L = q at *
  go_enter Tryz.func25, Tryz.ntmps25
  go_wp2_with ((with_reducible refine HI.out.mono ?_); rintro e w2 ⟨rfl, hb2⟩; have HB2 := Lib.hid hb2; clear hb2)
  go_ret
  exact ⟨by rw [← hd]; rfl, HB2.out⟩

set_option maxRecDepth 100000 in
set_option maxHeartbeats 2000000 in
theorem indexFnM_any (L : List MemV) (v : Value) (p : MemV → Bool) (fid : FuncId) (caps : Array Value) (w : World) (en : ∀ (args : Array Value) (W : World), (callFunc fid args).run Tryz.prog W = .ok (.enter fid args) W) (hp : ∀ (x : MemV) W, x ∈ L → Below w.heap.size w W → Calls Tryz.prog fid (#[.agg #[.bool x.permit, x.v]] ++ caps) W fun e W' => e = .returned (.bool (p x)) ∧ Below W.heap.size W W') (h : Rd w w.heap.size 2 v L.length (mcells L)) (hlen : L.length ≤ 9223372036854775807) :
    Calls Tryz.prog 52 #[v, .func (.func fid) #[] caps] w fun e w' => e = .returned (.int .i64 (idxP p L)) ∧ Below w.heap.size w w' := by
  obtain ⟨A, c, rfl, hc⟩ := h.form
  have HR := Lib.hid h
  have HP := Lib.hid hp
  clear h hp
  go_enter Tryz.func52, Tryz.ntmps52
  go_wp2
  go_loopw [8] (fun i wr => ∃ k : Nat, i = .int .i64 k ∧ k ≤ L.length ∧ Hid (∀ (j : Nat) (x : MemV), j < k → L[j]? = some x → p x = false) ∧ Hid (Below w.heap.size w wr)) (fun i _ => L.length - (intOf i).toNat)
  case atStart => exact ⟨0, rfl, by omega, Lib.hid (fun j x hj _ => by omega), Lib.hid (Below.refl _ _)⟩
  case round =>
    obtain ⟨k, rfl, hk, HN, HB⟩ := hrel
    by_cases hlt : k < L.length
    · have hI : (k : Int) < (L.length : Int) := by omega
      obtain ⟨x, hx⟩ : ∃ x, L[k]? = some x := ⟨_, List.getElem?_eq_getElem hlt⟩
      obtain ⟨b, off, c', hv, _, hbB, hcell⟩ := HR.out.posAt (by omega)
      injection hv with hv1 hvl hv3
      subst hv1 hv3
      clear hvl
      have c0 : wr.cell? ⟨b, off + k * 2, none⟩ = some (.bool x.permit) := (HB.out.cell (p := ⟨b, off + k * 2, none⟩) hbB).trans (hcell k 0 _ (mcell hx rfl))
      have c1 : wr.cell? ⟨b, off + k * 2 + 1, none⟩ = some (x.v) := (HB.out.cell (p := ⟨b, off + k * 2 + 1, none⟩) hbB).trans (hcell k 1 _ (mcell hx rfl))
      have HX := Lib.hid hx
      have HCALL := Lib.hid (HP.out x wr (List.mem_of_getElem? hx) HB.out)
      clear hcell hx
      go_wp2_with ((with_reducible refine HCALL.out.mono ?_); rintro e w2 ⟨rfl, hb2⟩; have HB2 := Lib.hid (HB.out.trans (hb2.mono HB.out.size)); clear hb2; obtain ⟨q, hq⟩ : ∃ q, p x = q := ⟨_, rfl⟩; have HQ := Lib.hid hq; rw [hq]; clear hq; cases q)
      · exact ⟨⟨k + 1, by go_num, by omega, Lib.hid (fun j y hj hy => by
          rcases Nat.lt_or_ge j k with h1 | h1
          · exact HN.out j y h1 hy
          · obtain rfl : j = k := by omega
            rw [HX.out] at hy
            injection hy with hy
            subst hy
            exact HQ.out), HB2⟩, by simp only [intOf]; omega⟩
      · go_ret
        exact ⟨by rw [idxP_hit p L k x HX.out HQ.out HN.out]; rfl, HB2.out⟩
    · obtain rfl : k = L.length := by omega
      have hI : ¬ (L.length : Int) < (L.length : Int) := by omega
      have HFIN := Lib.hid (idxP_miss p L fun j x hx => HN.out j x (List.getElem?_eq_some_iff.1 hx).1 hx)
      go_wp2
      go_ret
      exact ⟨by rw [HFIN.out]; rfl, HB.out⟩
set_option maxRecDepth 100000 in
set_option maxHeartbeats 2000000 in
theorem containsFnM_any (L : List MemV) (v : Value) (p : MemV → Bool) (fid : FuncId) (caps : Array Value) (w : World) (en : ∀ (args : Array Value) (W : World), (callFunc fid args).run Tryz.prog W = .ok (.enter fid args) W) (hp : ∀ (x : MemV) W, x ∈ L → Below w.heap.size w W → Calls Tryz.prog fid (#[.agg #[.bool x.permit, x.v]] ++ caps) W fun e W' => e = .returned (.bool (p x)) ∧ Below W.heap.size W W') (h : Rd w w.heap.size 2 v L.length (mcells L)) (hlen : L.length ≤ 9223372036854775807) :
    Calls Tryz.prog 23 #[v, .func (.func fid) #[] caps] w fun e w' => e = .returned (.bool (L.any p)) ∧ Below w.heap.size w w' := by
  have HI := Lib.hid (indexFnM_any L v p fid caps w en hp h hlen)
  obtain ⟨A, c, rfl, hc⟩ := h.form
  clear h hp en
  have hd := any_dec p L
  generalize idxP p L = q at *
  go_enter Tryz.func23, Tryz.ntmps23
  go_wp2_with ((with_reducible refine HI.out.mono ?_); rintro e w2 ⟨rfl, hb2⟩; have HB2 := Lib.hid hb2; clear hb2)
  go_ret
  exact ⟨by rw [← hd]; rfl, HB2.out⟩

set_option maxRecDepth 100000 in
set_option maxHeartbeats 2000000 in
theorem indexFnE_any (L : List EntV) (v : Value) (p : EntV → Bool) (fid : FuncId) (caps : Array Value) (w : World) (en : ∀ (args : Array Value) (W : World), (callFunc fid args).run Tryz.prog W = .ok (.enter fid args) W) (hp : ∀ (x : EntV) W, x ∈ L → Below w.heap.size w W → Calls Tryz.prog fid (#[.agg #[.bool x.permit, .int .u32 x.a, .int .i64 x.n, .int .i64 x.ge, .int .i64 x.le]] ++ caps) W fun e W' => e = .returned (.bool (p x)) ∧ Below W.heap.size W W') (h : Rd w w.heap.size 5 v L.length (ecells L)) (hlen : L.length ≤ 9223372036854775807) :
    Calls Tryz.prog 59 #[v, .func (.func fid) #[] caps] w fun e w' => e = .returned (.int .i64 (idxP p L)) ∧ Below w.heap.size w w' := by
  obtain ⟨A, c, rfl, hc⟩ := h.form
  have HR := Lib.hid h
  have HP := Lib.hid hp
  clear h hp
  go_enter Tryz.func59, Tryz.ntmps59
  go_wp2
  go_loopw [8] (fun i wr => ∃ k : Nat, i = .int .i64 k ∧ k ≤ L.length ∧ Hid (∀ (j : Nat) (x : EntV), j < k → L[j]? = some x → p x = false) ∧ Hid (Below w.heap.size w wr)) (fun i _ => L.length - (intOf i).toNat)
  case atStart => exact ⟨0, rfl, by omega, Lib.hid (fun j x hj _ => by omega), Lib.hid (Below.refl _ _)⟩
  case round =>
    obtain ⟨k, rfl, hk, HN, HB⟩ := hrel
    by_cases hlt : k < L.length
    · have hI : (k : Int) < (L.length : Int) := by omega
      obtain ⟨x, hx⟩ : ∃ x, L[k]? = some x := ⟨_, List.getElem?_eq_getElem hlt⟩
      obtain ⟨b, off, c', hv, _, hbB, hcell⟩ := HR.out.posAt (by omega)
      injection hv with hv1 hvl hv3
      subst hv1 hv3
      clear hvl
      have c0 : wr.cell? ⟨b, off + k * 5, none⟩ = some (.bool x.permit) := (HB.out.cell (p := ⟨b, off + k * 5, none⟩) hbB).trans (hcell k 0 _ (ecell hx rfl))
      have c1 : wr.cell? ⟨b, off + k * 5 + 1, none⟩ = some (.int .u32 x.a) := (HB.out.cell (p := ⟨b, off + k * 5 + 1, none⟩) hbB).trans (hcell k 1 _ (ecell hx rfl))
      have c2 : wr.cell? ⟨b, off + k * 5 + 2, none⟩ = some (.int .i64 x.n) := (HB.out.cell (p := ⟨b, off + k * 5 + 2, none⟩) hbB).trans (hcell k 2 _ (ecell hx rfl))
      have c3 : wr.cell? ⟨b, off + k * 5 + 3, none⟩ = some (.int .i64 x.ge) := (HB.out.cell (p := ⟨b, off + k * 5 + 3, none⟩) hbB).trans (hcell k 3 _ (ecell hx rfl))
      have c4 : wr.cell? ⟨b, off + k * 5 + 4, none⟩ = some (.int .i64 x.le) := (HB.out.cell (p := ⟨b, off + k * 5 + 4, none⟩) hbB).trans (hcell k 4 _ (ecell hx rfl))
      have HX := Lib.hid hx
      have HCALL := Lib.hid (HP.out x wr (List.mem_of_getElem? hx) HB.out)
      clear hcell hx
      go_wp2_with ((with_reducible refine HCALL.out.mono ?_); rintro e w2 ⟨rfl, hb2⟩; have HB2 := Lib.hid (HB.out.trans (hb2.mono HB.out.size)); clear hb2; obtain ⟨q, hq⟩ : ∃ q, p x = q := ⟨_, rfl⟩; have HQ := Lib.hid hq; rw [hq]; clear hq; cases q)
      · exact ⟨⟨k + 1, by go_num, by omega, Lib.hid (fun j y hj hy => by
          rcases Nat.lt_or_ge j k with h1 | h1
          · exact HN.out j y h1 hy
          · obtain rfl : j = k := by omega
            rw [HX.out] at hy
            injection hy with hy
            subst hy
            exact HQ.out), HB2⟩, by simp only [intOf]; omega⟩
      · go_ret
        exact ⟨by rw [idxP_hit p L k x HX.out HQ.out HN.out]; rfl, HB2.out⟩
    · obtain rfl : k = L.length := by omega
      have hI : ¬ (L.length : Int) < (L.length : Int) := by omega
      have HFIN := Lib.hid (idxP_miss p L fun j x hx => HN.out j x (List.getElem?_eq_some_iff.1 hx).1 hx)
      go_wp2
      go_ret
      exact ⟨by rw [HFIN.out]; rfl, HB.out⟩
set_option maxRecDepth 100000 in
set_option maxHeartbeats 2000000 in
theorem indexU_any (L : List Int) (v : Value) (y : Int) (w : World) (h : Rd w w.heap.size 1 v L.length (u32c L)) (hlen : L.length ≤ 9223372036854775807) :
    Calls Tryz.prog 54 #[v, .int .u32 y] w fun e w' => e = .returned (.int .i64 (idxP (fun x => x == y) L)) ∧ w' = w := by
  obtain ⟨A, c, rfl, hc⟩ := h.form
  have HR := Lib.hid h
  clear h
  go_enter Tryz.func54, Tryz.ntmps54
  go_wp2
  go_loopw [8] (fun i wr => ∃ k : Nat, i = .int .i64 k ∧ k ≤ L.length ∧ Hid (∀ (j : Nat) (x : Int), j < k → L[j]? = some x → (x == y) = false) ∧ wr = w) (fun i _ => L.length - (intOf i).toNat)
  case atStart => exact ⟨0, rfl, by omega, Lib.hid (fun j x hj _ => by omega), rfl⟩
  case round =>
    obtain ⟨k, rfl, hk, HN, rfl⟩ := hrel
    by_cases hlt : k < L.length
    · have hI : (k : Int) < (L.length : Int) := by omega
      obtain ⟨x, hx⟩ : ∃ x, L[k]? = some x := ⟨_, List.getElem?_eq_getElem hlt⟩
      obtain ⟨b, off, c', hv, _, hbB, hcell⟩ := HR.out.pos (by omega)
      injection hv with hv1 hvl hv3
      subst hv1 hv3
      clear hvl
      have c0 : wr.cell? ⟨b, off + k, none⟩ = some (.int .u32 x) := hcell k _ (u32c_get hx)
      have HX := Lib.hid hx
      clear hcell hx
      by_cases hq : y = x
      · subst hq
        go_wp2
        go_ret
        exact ⟨by rw [idxP_hit (fun x => x == y) L k y HX.out (by simp) HN.out]; rfl, rfl⟩
      · have hq2 : (y == x) = false := by simpa using hq
        go_wp2
        exact ⟨⟨k + 1, by go_num, by omega, Lib.hid (fun j z hj hz => by
          rcases Nat.lt_or_ge j k with h1 | h1
          · exact HN.out j z h1 hz
          · obtain rfl : j = k := by omega
            rw [HX.out] at hz
            injection hz with hz
            subst hz
            simpa using fun e : x = y => hq e.symm), (by first | trivial | rfl)⟩, by simp only [intOf]; omega⟩
    · obtain rfl : k = L.length := by omega
      have hI : ¬ (L.length : Int) < (L.length : Int) := by omega
      have HFIN := Lib.hid (idxP_miss (fun x => x == y) L fun j x hx => HN.out j x (List.getElem?_eq_some_iff.1 hx).1 hx)
      go_wp2
      go_ret
      exact ⟨by rw [HFIN.out]; rfl, rfl⟩
set_option maxRecDepth 100000 in
set_option maxHeartbeats 2000000 in
theorem containsU_any (L : List Int) (v : Value) (y : Int) (w : World) (h : Rd w w.heap.size 1 v L.length (u32c L)) (hlen : L.length ≤ 9223372036854775807) :
    Calls Tryz.prog 27 #[v, .int .u32 y] w fun e w' => e = .returned (.bool (L.any (fun x => x == y))) ∧ w' = w := by
  have HI := Lib.hid (indexU_any L v y w h hlen)
  obtain ⟨A, c, rfl, hc⟩ := h.form
  clear h
  have hd := any_dec (fun x => x == y) L
  generalize idxP (fun x => x == y) L = q at *
  go_enter Tryz.func27, Tryz.ntmps27
  go_wp2_with ((with_reducible refine HI.out.mono ?_); rintro e _ ⟨rfl, rfl⟩)
  go_ret
  exact ⟨by rw [← hd]; rfl, rfl⟩
end Go.Proofs.YtehpkpjgkmbngaaGreat

/-
  The members that decide nothing: lint.Members.
-/
namespace Go.Proofs.YtehpkpjgkmbngaaGreat
open Go Go.RowKit Go.ChangeMaps Go.MapKept Go.Maps Go.Lib Go.Sort

/-- The members of a slice, in a world. -/
def MsAt (W : World) (B : Nat) (v : Value) (Ms : List MemV) : Prop := Rd W B 2 v Ms.length (mcells Ms) ∧ ∀ m ∈ Ms, Rd W B 1 m.v m.L.length (u32c m.L) ∧ m.L.length ≤ 9223372036854775807
theorem MsAt.below {W W' : World} {B : Nat} {v : Value} {Ms : List MemV} (h : MsAt W B v Ms) (hb : Below B W W') : MsAt W' B v Ms := ⟨h.1.below hb, fun m hm => ⟨(h.2 m hm).1.below hb, (h.2 m hm).2⟩⟩
theorem MsAt.mono {W : World} {B B' : Nat} {v : Value} {Ms : List MemV} (h : MsAt W B v Ms) (hb : B ≤ B') : MsAt W B' v Ms := ⟨h.1.mono hb, fun m hm => ⟨(h.2 m hm).1.mono hb, (h.2 m hm).2⟩⟩
theorem MsAt.next {W W' : World} {v : Value} {Ms : List MemV} (h : MsAt W W.heap.size v Ms) (hb : Below W.heap.size W W') : MsAt W' W'.heap.size v Ms := (h.below hb).mono hb.size
theorem Rd.takeS {W : World} {B k n m c : Nat} {A : Option Addr} {xs : List Value} (h : Rd W B k (.slice A n c) n xs) (hm : m ≤ n) : Rd W B k (.slice A m c) m (xs.take (m * k)) := by
  obtain ⟨P, c', hv, hc, hlen, hp⟩ := h
  injection hv with e1 _ e3
  subst e1 e3
  refine ⟨A, c, rfl, by omega, ?_, fun h0 => ?_⟩
  · rw [List.length_take, hlen]
    exact Nat.min_eq_left (Nat.mul_le_mul_right k hm)
  · obtain ⟨b, off, hA, hlt, hcell⟩ := hp (by omega)
    refine ⟨b, off, hA, hlt, fun j u hu => hcell j u ?_⟩
    have hj : j < (xs.take (m * k)).length := (List.getElem?_eq_some_iff.1 hu).1
    rw [List.length_take] at hj
    rw [List.getElem?_take_of_lt (by omega)] at hu
    exact hu
theorem mcells_take (Ms : List MemV) (i : Nat) (hi : i ≤ Ms.length) : mcells (Ms.take i) = (mcells Ms).take (i * 2) := by
  have e : mcells Ms = mcells (Ms.take i) ++ mcells (Ms.drop i) := by
    have h := congrArg mcells (List.take_append_drop i Ms)
    exact h.symm.trans List.flatMap_append
  have hl : (mcells (Ms.take i)).length = i * 2 := (flat_len MemV.enc 2 mem_len _).trans (by rw [List.length_take, Nat.min_eq_left hi])
  rw [e, ← hl, List.take_left']
  rfl
/-- Are all of the one among the other's? -/
def hasAll (a b : List Int) : Bool := !(a.any fun c => !(b.any fun x => x == c))
/-- Is a member ahead that asks no more? -/
def memP (Ms : List MemV) (i : Nat) : Bool := (Ms.take i).any fun m => hasAll m.L ((Ms[i]?.getD default).L)
section
set_option maxRecDepth 100000
set_option maxHeartbeats 4000000
variable {W : World} {nm : ByteArray} {v : Value} {Ms : List MemV} {bl bi i : Nat} {x : MemV}
theorem mem3_any (hl : W.heap[bl]? = some (.cells #[.string nm, v] 27 (0, 0))) (hi : W.heap[bi]? = some (.cells #[.int .i64 i] 3 (0, 0))) (hM : MsAt W W.heap.size v Ms) (hx : Ms[i]? = some x) (hn : Ms.length ≤ 1099511627776) (c : Int) :
    Calls Tryz.prog 26 #[.int .u32 c, .pointer (some ⟨bl, 0, none⟩), .pointer (some ⟨bi, 0, none⟩)] W fun e W' => e = .returned (.bool (!(x.L.any fun y => y == c))) ∧ Below W.heap.size W W' := by
  have hil : i < Ms.length := (List.getElem?_eq_some_iff.1 hx).1
  have hI : (i : Int) < (Ms.length : Int) := by omega
  have hxm := hM.2 x (List.mem_of_getElem? hx)
  obtain ⟨A, cc, hxv, _⟩ := hxm.1.form
  obtain ⟨b, off, c', hv, _, hbB, hcell⟩ := hM.1.posAt (by omega)
  subst hv
  have c0 : W.cell? ⟨bl, 1, none⟩ = some (.slice (some ⟨b, off, none⟩) Ms.length c') := cell_of_row _ _ 1 _ _ (0, 0) hl
  have c1 := cell0 hi
  have c2 : W.cell? ⟨b, off + i * 2 + 1, none⟩ = some x.v := hcell i 1 _ (mcell hx rfl)
  rw [hxv] at c2
  have hcc := containsU_any x.L x.v c W hxm.1 hxm.2
  rw [hxv] at hcc
  have HCC := Lib.hid hcc
  have HB := Lib.hid (Below.refl W.heap.size W)
  clear hxm hcell hl hi hM hx hcc
  go_enter Tryz.func26, Tryz.ntmps26
  generalize (x.L.any fun y => y == c) = q at *
  go_wp2_with ((with_reducible refine HCC.out.mono ?_); rintro e _ ⟨rfl, rfl⟩)
  go_ret
  exact ⟨rfl, HB.out⟩
theorem mem2_any (hl : W.heap[bl]? = some (.cells #[.string nm, v] 27 (0, 0))) (hi : W.heap[bi]? = some (.cells #[.int .i64 i] 3 (0, 0))) (hM : MsAt W W.heap.size v Ms) (hx : Ms[i]? = some x) (hn : Ms.length ≤ 1099511627776) (m : MemV) (hm : m ∈ Ms) :
    Calls Tryz.prog 24 #[.agg #[.bool m.permit, m.v], .pointer (some ⟨bl, 0, none⟩), .pointer (some ⟨bi, 0, none⟩)] W fun e W' => e = .returned (.bool (hasAll m.L x.L)) ∧ Below W.heap.size W W' := by
  have hb := below1 W (.cells #[.bool m.permit, m.v] 48)
  have hmm := (hM.next hb).2 m hm
  obtain ⟨A, cc, hmv, _⟩ := hmm.1.form
  have c0 : (W.alloc (.cells #[.bool m.permit, m.v] 48)).cell? ⟨W.heap.size, 1, none⟩ = some m.v := cell_of_row _ _ 1 _ _ (0, 0) (blk1 W (.cells #[.bool m.permit, m.v] 48))
  have hcf := containsFnU_any m.L m.v (fun c => !(x.L.any fun y => y == c)) 26 #[.pointer (some ⟨bl, 0, none⟩), .pointer (some ⟨bi, 0, none⟩)] (W.alloc (.cells #[.bool m.permit, m.v] 48)) (enters_of Tryz.func26 (by kernel_rfl) rfl)
    (fun c W' _ hb' => mem3_any (blk_below hb' (blk_below hb hl)) (blk_below hb' (blk_below hb hi)) ((hM.next hb).next hb') hx hn c) hmm.1 hmm.2
  rw [hmv] at hcf
  have HCF := Lib.hid hcf
  have HB := Lib.hid hb
  rw [hmv] at HB
  clear hmm hcf hb hl hi hM hx
  rw [hmv] at c0 ⊢
  have HD : Hid (hasAll m.L x.L = !(m.L.any fun c => !(x.L.any fun y => y == c))) := Lib.hid rfl
  rw [HD.out]
  generalize (m.L.any fun c => !(x.L.any fun y => y == c)) = q at *
  go_enter Tryz.func24, Tryz.ntmps24
  go_upto_region 1 with fail
  generalize W.alloc (.cells #[.bool m.permit, .slice A m.L.length cc] 48) = W1 at *
  go_wp2_with ((with_reducible refine HCF.out.mono ?_); rintro e W2 ⟨rfl, hb2⟩; have HB2 := Lib.hid (HB.out.trans (hb2.mono HB.out.size)); clear hb2)
  go_ret
  exact ⟨rfl, HB2.out⟩
theorem mem1_any (hl : W.heap[bl]? = some (.cells #[.string nm, v] 27 (0, 0))) (hM : MsAt W W.heap.size v Ms) (hil : i < Ms.length) (hn : Ms.length ≤ 1099511627776) :
    Calls Tryz.prog 22 #[.int .i64 i, .pointer (some ⟨bl, 0, none⟩)] W fun e W' => e = .returned (.bool (memP Ms i)) ∧ Below W.heap.size W W' := by
  obtain ⟨x, hx⟩ : ∃ x, Ms[i]? = some x := ⟨_, List.getElem?_eq_getElem hil⟩
  have hb := below1 W (.cells #[.int .i64 i] 3)
  have hbi := blk1 W (.cells #[.int .i64 i] 3)
  have hM1 := hM.next hb
  obtain ⟨A, cc, rfl, hcc⟩ := hM.1.form
  have htl : (Ms.take i).length = i := by rw [List.length_take]; omega
  have hrd : Rd (W.alloc (.cells #[.int .i64 i] 3)) (W.alloc (.cells #[.int .i64 i] 3)).heap.size 2 (.slice A i cc) (Ms.take i).length (mcells (Ms.take i)) := by
    rw [htl, mcells_take Ms i (by omega)]
    exact hM1.1.takeS (by omega)
  have hcf := containsFnM_any (Ms.take i) (.slice A i cc) (fun m => hasAll m.L x.L) 24 #[.pointer (some ⟨bl, 0, none⟩), .pointer (some ⟨W.heap.size, 0, none⟩)] (W.alloc (.cells #[.int .i64 i] 3)) (enters_of Tryz.func24 (by kernel_rfl) rfl)
    (fun m W' hm hb' => mem2_any (blk_below hb' (blk_below hb hl)) (blk_below hb' hbi) (hM1.next hb') hx hn m (List.mem_of_mem_take hm)) hrd (by rw [htl]; omega)
  have HCF := Lib.hid hcf
  have HB := Lib.hid hb
  have c0 : (W.alloc (.cells #[.int .i64 i] 3)).cell? ⟨bl, 1, none⟩ = some (.slice A Ms.length cc) := cell_of_row _ _ 1 _ _ (0, 0) (blk_below hb hl)
  have c1 := cell0 hbi
  have HP : Hid (memP Ms i = (Ms.take i).any fun m => hasAll m.L x.L) := Lib.hid (by unfold memP; rw [hx]; rfl)
  rw [HP.out]
  have hI : (i : Int) ≤ (cc : Int) := by omega
  clear hcf hb hbi hM1 hrd hl hM hx htl HP
  generalize ((Ms.take i).any fun m => hasAll m.L x.L) = q at *
  go_enter Tryz.func22, Tryz.ntmps22
  go_upto_region 1 with fail
  generalize W.alloc (.cells #[.int .i64 i] 3) = W1 at *
  go_wp2_with ((with_reducible refine HCF.out.mono ?_); rintro e W2 ⟨rfl, hb2⟩; have HB2 := Lib.hid (HB.out.trans (hb2.mono HB.out.size)); clear hb2)
  go_ret
  exact ⟨rfl, HB2.out⟩
theorem members_any (w : World) (nm : ByteArray) (v : Value) (Ms : List MemV) (hM : MsAt w w.heap.size v Ms) (hn : Ms.length ≤ 1099511627776) :
    Calls Tryz.prog 7 #[.agg #[.string nm, v]] w fun e w' => ∃ u, e = .returned u ∧ w'.ownsRow w.heap.size 3 1 u (plL (memP Ms) Ms.length).length (ncl (plL (memP Ms) Ms.length)) ∧ Below w.heap.size w w' := by
  obtain ⟨A, cc, rfl, hcc⟩ := hM.1.form
  have hb := below1 w (.cells #[.string nm, .slice A Ms.length cc] 27)
  have hk := blk1 w (.cells #[.string nm, .slice A Ms.length cc] 27)
  have c0 : (w.alloc (.cells #[.string nm, .slice A Ms.length cc] 27)).cell? ⟨w.heap.size, 1, none⟩ = some (.slice A Ms.length cc) := cell_of_row _ _ 1 _ _ (0, 0) hk
  have hpl := places_any Ms.length 22 #[.pointer (some ⟨w.heap.size, 0, none⟩)] (memP Ms) (w.alloc (.cells #[.string nm, .slice A Ms.length cc] 27)) (enters_of Tryz.func22 (by kernel_rfl) rfl)
    (fun i W' hi hb' => mem1_any (blk_below hb' hk) ((hM.next hb).next hb') hi hn) hn
  have HPL := Lib.hid hpl
  have HB := Lib.hid hb
  clear hb hk hpl hM
  go_enter Tryz.func7, Tryz.ntmps7
  go_upto_region 1 with fail
  generalize w.alloc (.cells #[.string nm, .slice A Ms.length cc] 27) = w1 at *
  go_wp2_with ((with_reducible refine HPL.out.mono ?_); rintro e w2 ⟨u, rfl, ho, hb2⟩; have HO := Lib.hid (owns_base ho HB.out.size); have HB2 := Lib.hid (HB.out.trans (hb2.mono HB.out.size)); clear ho hb2)
  go_ret
  exact ⟨_, rfl, HO.out, HB2.out⟩
end
end Go.Proofs.YtehpkpjgkmbngaaGreat

/-
  The document's sets: numbers put in their place, the cuts, the set that is made from cut to cut; numbers counted. No program in sight.
-/
namespace Go.Proofs.YtehpkpjgkmbngaaGreat

/-- Rising, each once. -/
def Rising (l : List Int) : Prop := l.Pairwise (· < ·)
/-- A number's place: all before it are not greater, all from it on are. -/
theorem rising_put {l : List Int} (h : Rising l) {x : Int} {k : Nat} (h1 : ∀ y ∈ l.take k, y < x) (h2 : ∀ y ∈ l.drop k, x < y) :
    Rising (l.take k ++ x :: l.drop k) ∧ ∀ y, y ∈ l.take k ++ x :: l.drop k ↔ y ∈ l ∨ y = x := by
  constructor
  · unfold Rising at *
    rw [← List.take_append_drop k l, List.pairwise_append] at h
    refine List.pairwise_append.2 ⟨h.1, List.pairwise_cons.2 ⟨h2, h.2.1⟩, fun a ha b hb => ?_⟩
    rcases List.mem_cons.1 hb with rfl | hb
    · exact h1 a ha
    · exact h.2.2 a ha b hb
  · intro y
    have : y ∈ l ↔ y ∈ l.take k ∨ y ∈ l.drop k := by
      rw [← List.mem_append, List.take_append_drop]
    rw [this, List.mem_append, List.mem_cons]
    constructor
    · rintro (h | rfl | h)
      · exact .inl (.inl h)
      · exact .inr rfl
      · exact .inl (.inr h)
    · rintro ((h | h) | rfl)
      · exact .inl h
      · exact .inr (.inr h)
      · exact .inr (.inl rfl)
def isMark (most : Int) (s : SpanV) (y : Int) : Prop := s.lo ≤ s.hi ∧ (y = s.lo ∨ y = s.hi + 1) ∧ y ≤ most
/-- The cuts of sets: 0, and each mark. -/
def CutsOf (most : Int) (S : List SpanV) (C : List Int) : Prop := Rising C ∧ (∀ y ∈ C, 0 ≤ y ∧ y < 4294967296) ∧ ∀ y, y ∈ C ↔ y = 0 ∨ ∃ s ∈ S, isMark most s y
theorem CutsOf.head {most : Int} {S : List SpanV} {C : List Int} (h : CutsOf most S C) : ∃ r, C = 0 :: r := by
  have h0 : (0 : Int) ∈ C := (h.2.2 0).2 (.inl rfl)
  cases C with
  | nil => simp at h0
  | cons c r =>
    refine ⟨r, ?_⟩
    have hc := (h.2.1 c (List.mem_cons_self ..)).1
    rcases List.mem_cons.1 h0 with rfl | h0
    · rfl
    · have := (List.pairwise_cons.1 h.1).1 0 h0
      omega
/-- The end of the part that begins at the i-th cut. -/
def cutEnd (most : Int) (C : List Int) (i : Nat) : Int := match C[i]? with | some y => y | none => most + 1
theorem CutsOf.le {most : Int} (hm : 0 ≤ most) {S : List SpanV} {C : List Int} (h : CutsOf most S C) {y : Int} (hy : y ∈ C) : y ≤ most := by
  rcases (h.2.2 y).1 hy with rfl | ⟨s, _, hs⟩
  · exact hm
  · exact hs.2.2
theorem CutsOf.lt_end {most : Int} (hm : 0 ≤ most) {S : List SpanV} {C : List Int} (h : CutsOf most S C) {i : Nat} {c : Int} (hc : C[i]? = some c) : c < cutEnd most C (i + 1) := by
  unfold cutEnd
  cases hn : C[i + 1]? with
  | none => have := h.le hm (List.mem_of_getElem? hc); show c < most + 1; omega
  | some y =>
    obtain ⟨hi, e⟩ := List.getElem?_eq_some_iff.1 hc
    obtain ⟨hi2, e2⟩ := List.getElem?_eq_some_iff.1 hn
    have := List.pairwise_iff_getElem.1 h.1 i (i + 1) hi hi2 (by omega)
    show c < y
    omega
theorem CutsOf.none_between {most : Int} {S : List SpanV} {C : List Int} (h : CutsOf most S C) {i : Nat} {c y : Int} (hc : C[i]? = some c) (h1 : c < y) (h2 : y < cutEnd most C (i + 1)) : y ∉ C := by
  intro hy
  obtain ⟨j, hj, e⟩ := List.getElem_of_mem hy
  obtain ⟨hi, ei⟩ := List.getElem?_eq_some_iff.1 hc
  have hij : i < j := by
    rcases Nat.lt_trichotomy i j with h' | h' | h'
    · exact h'
    · subst h'; omega
    · have := List.pairwise_iff_getElem.1 h.1 j i hj hi h'; omega
  unfold cutEnd at h2
  have hn : C[i + 1]? = some C[i + 1] := List.getElem?_eq_getElem (by omega)
  rw [hn] at h2
  change y < C[i + 1] at h2
  rcases Nat.eq_or_lt_of_le (show i + 1 ≤ j from hij) with h' | h'
  · subst h'; omega
  · have := List.pairwise_iff_getElem.1 h.1 (i + 1) j (by omega) hj h'; omega
/-- From one cut to the next nothing begins and nothing ends. -/
theorem CutsOf.same {most : Int} (hm : 0 ≤ most) {S : List SpanV} {C : List Int} (h : CutsOf most S C) {L : List SpanV} (hL : ∀ s ∈ L, s ∈ S) {i : Nat} {c x : Int} (hc : C[i]? = some c) (h1 : c ≤ x) (h2 : x < cutEnd most C (i + 1)) :
    hasB L x = hasB L c := by
  have hxm : x ≤ most := by
    unfold cutEnd at h2
    cases hn : C[i + 1]? with
    | none => rw [hn] at h2; change x < most + 1 at h2; omega
    | some y => rw [hn] at h2; change x < y at h2; have := h.le hm (List.mem_of_getElem? hn); omega
  have key : ∀ s ∈ L, s.inB x = s.inB c := by
    intro s hs
    have n1 : s.lo ≤ s.hi → c < s.lo → x < s.lo := by
      intro hv hlo
      rcases Int.lt_or_le x s.lo with h' | h'
      · exact h'
      · exact absurd ((h.2.2 s.lo).2 (.inr ⟨s, hL s hs, hv, .inl rfl, by omega⟩)) (h.none_between hc hlo (by omega))
    have n2 : s.lo ≤ s.hi → c ≤ s.hi → x ≤ s.hi := by
      intro hv hhi
      rcases Int.lt_or_le s.hi x with h' | h'
      · exact absurd ((h.2.2 (s.hi + 1)).2 (.inr ⟨s, hL s hs, hv, .inr rfl, by omega⟩)) (h.none_between hc (by omega) (by omega))
      · exact h'
    rw [Bool.eq_iff_iff, inB_iff, inB_iff]
    rcases Int.lt_or_le s.hi s.lo with hv | hv
    · omega
    · have := n1 hv; have := n2 hv; omega
  have : ∀ M : List SpanV, (∀ s ∈ M, s.inB x = s.inB c) → hasB M x = hasB M c := by
    intro M
    induction M with
    | nil => intro _; rfl
    | cons s M ih =>
      intro hM
      have e1 := hM s (List.mem_cons_self ..)
      have e2 := ih (fun s hs => hM s (List.mem_cons_of_mem _ hs))
      simp only [hasB, List.any_cons] at *
      rw [e1, e2]
  exact this L key
/-- Is a number in what is made? -/
def soB (how : Int) (a b : List SpanV) (x : Int) : Bool :=
  if how = 1 then hasB a x || hasB b x else if how = 2 then hasB a x && hasB b x else if how = 3 then hasB a x && !hasB b x else !hasB a x
theorem CutsOf.so {most : Int} (hm : 0 ≤ most) {a b : List SpanV} {C : List Int} (h : CutsOf most (a ++ b) C) (how : Int) {i : Nat} {c x : Int} (hc : C[i]? = some c) (h1 : c ≤ x) (h2 : x < cutEnd most C (i + 1)) :
    soB how a b x = soB how a b c := by
  unfold soB
  rw [h.same hm (fun s hs => List.mem_append_left _ hs) hc h1 h2, h.same hm (L := b) (fun s hs => List.mem_append_right _ hs) hc h1 h2]
def soP (how most : Int) (a b : List SpanV) (x : Int) : Bool := decide (0 ≤ x) && decide (x ≤ most) && soB how a b x
/-- What has been made up to the i-th cut. -/
def MadeTo (how most : Int) (a b : List SpanV) (C : List Int) (i : Nat) (O : List SpanV) : Prop :=
  NF O ∧ (∀ t ∈ O, t.hi < cutEnd most C i) ∧ ∀ x, hasB O x = (decide (0 ≤ x) && decide (x < cutEnd most C i) && soB how a b x)
theorem MadeTo.zero {how most : Int} {a b : List SpanV} {C : List Int} (h : CutsOf most (a ++ b) C) : MadeTo how most a b C 0 [] := by
  obtain ⟨r, rfl⟩ := h.head
  refine ⟨trivial, fun t ht => by simp at ht, fun x => ?_⟩
  rw [hasB_nil]
  simp [cutEnd]
  omega
theorem MadeTo.skip {how most : Int} (hm : 0 ≤ most) {a b : List SpanV} {C : List Int} (h : CutsOf most (a ++ b) C) {i : Nat} {c : Int} (hc : C[i]? = some c) {O : List SpanV} (hO : MadeTo how most a b C i O) (hs : soB how a b c = false) : MadeTo how most a b C (i + 1) O := by
  obtain ⟨h1, h2, h3⟩ := hO
  have hlt := h.lt_end hm hc
  have e0 : cutEnd most C i = c := by unfold cutEnd; rw [hc]
  rw [e0] at h2 h3
  refine ⟨h1, fun t ht => by have := h2 t ht; omega, fun x => ?_⟩
  rw [h3]
  rcases Int.lt_or_le x c with hx | hx
  · have : x < cutEnd most C (i + 1) := by omega
    simp [hx, this]
  · rcases Int.lt_or_le x (cutEnd most C (i + 1)) with hx2 | hx2
    · rw [h.so hm how hc hx hx2, hs]; simp
    · have e1 : ¬ x < c := by omega
      have e2 : ¬ x < cutEnd most C (i + 1) := by omega
      simp [e1, e2]
theorem made_mem {how most : Int} (hm : 0 ≤ most) {a b : List SpanV} {C : List Int} (h : CutsOf most (a ++ b) C) {i : Nat} {c : Int} (hc : C[i]? = some c) (hs : soB how a b c = true) (hc0 : 0 ≤ c) (x : Int) :
    ((decide (0 ≤ x) && decide (x < c) && soB how a b x) || (decide (c ≤ x) && decide (x ≤ cutEnd most C (i + 1) - 1))) = (decide (0 ≤ x) && decide (x < cutEnd most C (i + 1)) && soB how a b x) := by
  have hlt := h.lt_end hm hc
  rcases Int.lt_or_le x c with hx | hx
  · have h1 : x < cutEnd most C (i + 1) := by omega
    have h2 : ¬ c ≤ x := by omega
    simp [hx, h1, h2]
  · have h2 : ¬ x < c := by omega
    rcases Int.lt_or_le x (cutEnd most C (i + 1)) with hx2 | hx2
    · have h3 : x ≤ cutEnd most C (i + 1) - 1 := by omega
      have h4 : 0 ≤ x := by omega
      rw [h.so hm how hc hx hx2, hs]
      simp [h2, hx, h3, hx2, h4]
    · have h3 : ¬ x ≤ cutEnd most C (i + 1) - 1 := by omega
      have h4 : ¬ x < cutEnd most C (i + 1) := by omega
      simp [h2, h3, h4]
theorem MadeTo.new {how most : Int} (hm : 0 ≤ most) {a b : List SpanV} {C : List Int} (h : CutsOf most (a ++ b) C) {i : Nat} {c : Int} (hc : C[i]? = some c) {O : List SpanV} (hO : MadeTo how most a b C i O) (hs : soB how a b c = true)
    (s : SpanV) (e1 : s.lo = c) (e2 : s.hi = cutEnd most C (i + 1) - 1) (hn : ∀ t ∈ O, t.hi + 1 ≠ c) : MadeTo how most a b C (i + 1) (O ++ [s]) := by
  obtain ⟨h1, h2, h3⟩ := hO
  have hlt := h.lt_end hm hc
  have hc0 := (h.2.1 c (List.mem_of_getElem? hc)).1
  have e0 : cutEnd most C i = c := by unfold cutEnd; rw [hc]
  rw [e0] at h2 h3
  refine ⟨NF.snoc.2 ⟨h1, by omega, fun t ht => by have := h2 t ht; have := hn t ht; omega⟩, fun t ht => ?_, fun x => ?_⟩
  · rcases List.mem_append.1 ht with ht | ht
    · have := h2 t ht; omega
    · obtain rfl := List.mem_singleton.1 ht; omega
  · rw [hasB_append, hasB_one, h3]
    have e : s.inB x = (decide (c ≤ x) && decide (x ≤ cutEnd most C (i + 1) - 1)) := by unfold SpanV.inB; rw [e1, e2]
    rw [e]
    exact made_mem hm h hc hs hc0 x
theorem MadeTo.more {how most : Int} (hm : 0 ≤ most) {a b : List SpanV} {C : List Int} (h : CutsOf most (a ++ b) C) {i : Nat} {c : Int} (hc : C[i]? = some c) {A : List SpanV} {t : SpanV} (hO : MadeTo how most a b C i (A ++ [t])) (hs : soB how a b c = true)
    (s : SpanV) (e1 : s.lo = t.lo) (e2 : s.hi = cutEnd most C (i + 1) - 1) (hn : t.hi + 1 = c) : MadeTo how most a b C (i + 1) (A ++ [s]) := by
  obtain ⟨h1, h2, h3⟩ := hO
  have hlt := h.lt_end hm hc
  have hc0 := (h.2.1 c (List.mem_of_getElem? hc)).1
  have e0 : cutEnd most C i = c := by unfold cutEnd; rw [hc]
  rw [e0] at h2 h3
  obtain ⟨k1, k2, k3⟩ := NF.snoc.1 h1
  refine ⟨NF.snoc.2 ⟨k1, by omega, fun u hu => by have := k3 u hu; omega⟩, fun u hu => ?_, fun x => ?_⟩
  · rcases List.mem_append.1 hu with hu | hu
    · have := h2 u (List.mem_append_left _ hu); omega
    · obtain rfl := List.mem_singleton.1 hu; omega
  · rw [← made_mem hm h hc hs hc0 x, ← h3, hasB_append, hasB_append, hasB_one, hasB_one, Bool.or_assoc]
    congr 1
    unfold SpanV.inB
    rw [e1, e2, Bool.eq_iff_iff]
    simp
    omega
theorem MadeTo.last {how most : Int} {a b : List SpanV} {C : List Int} {O : List SpanV} (hO : MadeTo how most a b C C.length O) : O = theSet (soP how most a b) := by
  obtain ⟨h1, _, h3⟩ := hO
  have e0 : cutEnd most C C.length = most + 1 := by unfold cutEnd; simp
  rw [e0] at h3
  symm
  refine theSet_eq h1 (fun x => ?_)
  rw [h3]
  unfold soP
  congr 2
  rw [Bool.eq_iff_iff]; simp; omega

/-- How many numbers there are. -/
def cnt (F : List SpanV) : Int := (F.map fun s => s.hi - s.lo + 1).sum
theorem cnt_append (A B : List SpanV) : cnt (A ++ B) = cnt A + cnt B := by simp [cnt]
theorem cnt_succ {F : List SpanV} {k : Nat} {s : SpanV} (h : F[k]? = some s) : cnt (F.take (k + 1)) = cnt (F.take k) + (s.hi - s.lo + 1) := by
  rw [List.take_add_one, h, cnt_append]; simp [cnt]
/-- The members below n. -/
def cntP (P : Int → Bool) (n : Nat) : Int := ((List.range n).countP fun x : Nat => P x : Nat)
theorem cntP_succ (P : Int → Bool) (n : Nat) : cntP P (n + 1) = cntP P n + (if P n then 1 else 0) := by
  unfold cntP
  rw [List.range_succ, List.countP_append]
  simp [List.countP_cons]
  split <;> simp
theorem cntP_one (s : SpanV) (hs : s.lo ≤ s.hi) : ∀ n : Nat, cntP s.inB n = if (n : Int) ≤ s.lo then 0 else if (n : Int) ≤ s.hi then n - s.lo else s.hi - s.lo + 1 := by
  intro n
  have := s.hlo
  induction n with
  | zero => simp [cntP]; omega
  | succ n ih =>
    rw [cntP_succ, ih]
    have e : (s.inB n = true) ↔ s.lo ≤ n ∧ (n : Int) ≤ s.hi := inB_iff
    by_cases h : s.inB n = true
    · rw [if_pos h]
      have := e.1 h
      repeat' split
      all_goals omega
    · rw [if_neg h]
      have h' : ¬ (s.lo ≤ n ∧ (n : Int) ≤ s.hi) := fun x => h (e.2 x)
      repeat' split
      all_goals omega
theorem cntP_add {P Q R : Int → Bool} (n : Nat) (h : ∀ x : Nat, x < n → R x = (P x || Q x) ∧ ¬ (P x = true ∧ Q x = true)) : cntP R n = cntP P n + cntP Q n := by
  induction n with
  | zero => simp [cntP]
  | succ n ih =>
    rw [cntP_succ, cntP_succ, cntP_succ, ih (fun x hx => h x (by omega))]
    obtain ⟨h1, h2⟩ := h n (by omega)
    rw [h1]
    cases hp : P n <;> cases hq : Q n <;> simp_all <;> omega
theorem cntP_le (P : Int → Bool) (n : Nat) : 0 ≤ cntP P n ∧ cntP P n ≤ n := by
  unfold cntP
  have := List.countP_le_length (p := fun x : Nat => P x) (l := List.range n)
  simp at this
  omega
theorem cntP_nil (n : Nat) : cntP (hasB []) n = 0 := by
  unfold cntP
  have : (List.range n).countP (fun x : Nat => hasB [] x) = 0 := by
    rw [List.countP_eq_zero]; intro x _; simp [hasB]
  rw [this]; rfl
theorem cnt_members {n : Nat} (hn : (n : Int) = 4294967296) : ∀ {F : List SpanV}, NF F → cnt F = cntP (hasB F) n
  | [], _ => (cntP_nil n).symm
  | s :: r, h => by
    have hs := s.hhi
    have h1 := cntP_one s h.1 n
    rw [if_neg (by have := h.1; omega), if_neg (by omega)] at h1
    have e : cnt (s :: r) = (s.hi - s.lo + 1) + cnt r := by simp [cnt]
    rw [e, cnt_members hn h.2.2, ← h1]
    symm
    refine cntP_add _ (fun x _ => ⟨rfl, ?_⟩)
    rintro ⟨h3, h4⟩
    obtain ⟨u, hu, h5, h6⟩ := hasB_iff.1 h4
    have := inB_iff.1 h3
    have := h.2.1 u hu
    omega
theorem big32 : ∃ n : Nat, (n : Int) = 4294967296 := ⟨4294967296, rfl⟩
theorem cnt_range {F : List SpanV} (h : NF F) : 0 ≤ cnt F ∧ cnt F ≤ 4294967296 := by
  obtain ⟨n, hn⟩ := big32
  rw [cnt_members hn h, ← hn]; exact cntP_le _ _
theorem cnt_take_le {F : List SpanV} (h : NF F) (k : Nat) : 0 ≤ cnt (F.take k) ∧ cnt (F.take k) ≤ 4294967296 := cnt_range (h.take k)

end Go.Proofs.YtehpkpjgkmbngaaGreat

/-
  The walks of spans.Has, and of the document's Has and so.
-/
namespace Go.Proofs.YtehpkpjgkmbngaaGreat
open Go Go.RowKit Go.Lib Go.Sort

theorem hasB_hit {L : List SpanV} {j : Nat} {s : SpanV} {x : Int} (h : L[j]? = some s) (h1 : s.lo ≤ x) (h2 : x ≤ s.hi) : hasB L x = true := hasB_iff.2 ⟨s, List.mem_of_getElem? h, h1, h2⟩

set_option maxRecDepth 100000 in
set_option maxHeartbeats 1000000 in
theorem refHas_any (L : List SpanV) (vl : Value) (x : Int) (w : World) (hl : Rd w w.heap.size 2 vl L.length (scells L)) (hlen : L.length ≤ 1099511627776) :
    Calls Tryz.prog 58 #[vl, .int .u32 x] w fun e w' => e = .returned (.bool (hasB L x)) ∧ w = w' := by
  obtain ⟨A0, c0, rfl, hc0⟩ := hl.form
  have HL := Lib.hid hl
  clear hl
  go_enter Tryz.func58, Tryz.ntmps58
  go_wp2
  go_loop [5] (fun i => ∃ j : Nat, i = .int .i64 j ∧ j ≤ L.length ∧ Hid (hasB L x = hasB (L.drop j) x)) (fun i => L.length - (intOf i).toNat)
  case atStart => exact ⟨0, rfl, by omega, rfl⟩
  case round =>
    obtain ⟨j, rfl, hj, hno⟩ := hrel
    by_cases hlt : j < L.length
    · have hI : (j : Int) < (L.length : Int) := by omega
      obtain ⟨s, hs⟩ : ∃ s, L[j]? = some s := ⟨_, List.getElem?_eq_getElem hlt⟩
      obtain ⟨b, off, c', hv, _, hbB, hcell⟩ := HL.out.posAt (by omega)
      injection hv with hv1 _ hv3
      subst hv1 hv3
      have f0 : w.cell? ⟨b, off + j * 2, none⟩ = some (.int .u32 s.lo) := hcell j 0 _ (scell hs rfl)
      have f1 : w.cell? ⟨b, off + j * 2 + 1, none⟩ = some (.int .u32 s.hi) := hcell j 1 _ (scell hs rfl)
      have hd : L.drop j = s :: L.drop (j + 1) := by
        obtain ⟨hj', e⟩ := List.getElem?_eq_some_iff.1 hs
        rw [List.drop_eq_getElem_cons hj', e]
      have HD := Lib.hid hd
      have HS := Lib.hid hs
      clear hcell hd hs
      by_cases h1 : s.lo ≤ x
      · by_cases h2 : x ≤ s.hi
        · go_wp2
          go_ret
          exact ⟨ret_bool (hasB_hit HS.out h1 h2).symm, rfl⟩
        · go_wp2
          refine ⟨⟨j + 1, by go_num, by omega, ?_⟩, by simp only [intOf]; omega⟩
          show _ = _
          rw [hno.out, HD.out]
          simp [hasB, SpanV.inB]
          omega
      · go_wp2
        refine ⟨⟨j + 1, by go_num, by omega, ?_⟩, by simp only [intOf]; omega⟩
        show _ = _
        rw [hno.out, HD.out]
        simp [hasB, SpanV.inB]
        omega
    · obtain rfl : j = L.length := by omega
      go_wp2
      go_ret
      refine ⟨ret_bool ?_, rfl⟩
      rw [hno.out, List.drop_length]
      rfl

end Go.Proofs.YtehpkpjgkmbngaaGreat

/-
  The walk of the document's put: a number put in its place, once.
-/
namespace Go.Proofs.YtehpkpjgkmbngaaGreat
open Go Go.RowKit Go.Lib Go.Sort

theorem Tryz.infoU32s : (Tryz.prog.info? 35).map (fun i => (i.zero, i.size, i.bytes)) = some (some (.int .u32 0), 1, 4) := by kernel_rfl
def encU (l : List Int) : List Value := l.map (Value.int .u32 ·)
theorem encU_len (l : List Int) : (encU l).length = l.length := by simp [encU]
theorem encU_at {l : List Int} {i : Nat} {x : Int} (h : l[i]? = some x) : (encU l)[i]? = some (.int .u32 x) := by simp [encU, h]
theorem encU_append (a b : List Int) : encU (a ++ b) = encU a ++ encU b := by simp [encU]
theorem encU_one (l : List Int) : ∀ u ∈ encU l, u.oneCell' = true := by
  intro u hu
  obtain ⟨x, _, rfl⟩ := List.mem_map.1 hu
  rfl
theorem below_drew7 {B : Nat} {a w : World} (h : Below B a w) : Below B a w.drew := ⟨h.os, h.tape, h.output, h.size, h.block⟩
theorem put_cells {l : List Int} {k : Nat} (hk : k ≤ l.length) {x : Int} {cur : List Value} {z : Value} (h : cur.take ((l.length + 1) * 1) = encU l ++ [z]) :
    ((splice cur (k + 1) (encU (l.drop k))).take (l.length + 1)).set k (.int .u32 x) = encU (l.take k ++ x :: l.drop k) := by
  rw [Nat.mul_one] at h
  obtain ⟨v, hv⟩ : ∃ v, cur.take (k + 1) = encU (l.take k) ++ [v] := by
    have e : cur.take (k + 1) = (encU l ++ [z]).take (k + 1) := by
      rw [← h, List.take_take]; congr 1; omega
    obtain ⟨v, hv⟩ : ∃ v, (encU l ++ [z])[k]? = some v := ⟨_, List.getElem?_eq_getElem (by simp [encU]; omega)⟩
    refine ⟨v, ?_⟩
    rw [e, List.take_add_one, hv, List.take_append_of_le_length (by rw [encU_len]; exact hk)]
    simp [encU, List.map_take]
  have hl : (encU (l.take k) ++ [v]).length = k + 1 := by simp [encU]; omega
  unfold splice
  rw [hv, ← List.append_assoc, List.take_append_of_le_length (by simp [encU]; omega), List.take_of_length_le (by simp [encU]; omega), encU_append]
  rw [List.append_assoc, List.set_append_right _ _ (by simp [encU]; omega)]
  have e0 : k - (encU (l.take k)).length = 0 := by simp [encU]; omega
  rw [e0]
  rfl
def PutRes (V : Value) (l : List Int) (x most : Int) (base : Nat) (w : World) (e : Ending) (w' : World) : Prop :=
  ∃ (v : Value) (m : List Int), e = .returned v ∧ w'.ownsRow base 35 1 v m.length (encU m) ∧ Rising m ∧ (∀ y, y ∈ m ↔ y ∈ l ∨ (y = x ∧ x ≤ most)) ∧ m.length ≤ l.length + 1 ∧ w.grownBy w' V.ownBlock

set_option maxRecDepth 100000 in
set_option maxHeartbeats 4000000 in
theorem put_any (l : List Int) (v : Value) (x most : Int) (base : Nat) (w : World) (hown : w.ownsRow base 35 1 v l.length (encU l)) (hr : Rising l) (hb : ∀ y ∈ l, 0 ≤ y ∧ y < 4294967296) (hx : 0 ≤ x ∧ x < 4294967296) (hbase : base ≤ w.heap.size) (hlen : l.length ≤ 1099511627776) :
    Calls Tryz.prog 84 #[v, .int .u32 x, .int .u32 most] w (PutRes v l x most base w) := by
  obtain ⟨i0, hi, hz0, hz1, hz2⟩ := info_parts Tryz.infoU32s
  obtain ⟨A0, c0, rfl, hA0⟩ := owns_form hown
  go_enter Tryz.func84, Tryz.ntmps84
  by_cases hxm : x ≤ most
  · have HB := Lib.hid hb
    have HR := Lib.hid hr
    clear hb hr
    go_upto_block 0 with fail
    go_cut [7] (fun s7 wx => wx = w ∧ ∃ k : Nat, s7 = .int .i64 k ∧ k ≤ l.length ∧ (∀ j y, k ≤ j → l[j]? = some y → x < y) ∧ (0 < k → ∃ y, l[k - 1]? = some y ∧ y ≤ x))
    case first =>
      go_wp2_with fail
      go_loop [7] (fun i => ∃ k : Nat, i = .int .i64 k ∧ k ≤ l.length ∧ ∀ j y, k ≤ j → l[j]? = some y → x < y) (fun i => (intOf i).toNat)
      case atStart => exact ⟨l.length, rfl, by omega, fun j y hj h => by have := (List.getElem?_eq_some_iff.1 h).1; omega⟩
      case round =>
        obtain ⟨k, rfl, hk, hgt⟩ := hrel
        rcases k with _ | k
        · have HG := Lib.hid hgt
          clear hgt
          go_wp2
          go_meet
          exact ⟨rfl, 0, rfl, by omega, HG.out, fun h => absurd h (by omega)⟩
        · obtain ⟨y, hy⟩ : ∃ y, l[k]? = some y := ⟨_, List.getElem?_eq_getElem (by omega)⟩
          obtain ⟨g, rfl⟩ := hA0 (by omega)
          have e0 : w.cell? ⟨g, k, none⟩ = some (.int .u32 y) := (hown.cellAt k (by omega)).trans (encU_at hy)
          have HG := Lib.hid hgt
          have HY := Lib.hid hy
          clear hgt hy
          by_cases hxy : x < y
          · go_wp2
            go_roundw
            case rel =>
              refine ⟨k, by go_num, by omega, fun j z hj hz => ?_⟩
              rcases Nat.eq_or_lt_of_le hj with rfl | hj
              · rw [HY.out] at hz
                injection hz with hz
                omega
              · exact HG.out j z hj hz
            case measure => simp only [intOf]; omega
          · go_wp2
            go_meet
            exact ⟨rfl, k + 1, rfl, by omega, HG.out, fun _ => ⟨y, HY.out, by omega⟩⟩
    case rest =>
      obtain ⟨rfl, k, rfl, hk, hgt, hle⟩ := hcut
      have HG := Lib.hid hgt
      clear hgt
      go_upto_region 6 with fail
      go_cut [37] (fun s37 wx => wx = wc ∧ ((s37 = .bool true ∧ x ∈ l) ∨ (s37 = .bool false ∧ ∀ y ∈ l.take k, y < x)))
      case first =>
        rcases k with _ | m
        · go_wp2
          go_meet
          exact ⟨rfl, .inr ⟨rfl, by simp⟩⟩
        · obtain ⟨y, hy, hyx⟩ := hle (by omega)
          have hy' : l[m]? = some y := hy
          obtain ⟨g, rfl⟩ := hA0 (by omega)
          have e0 : wc.cell? ⟨g, m, none⟩ = some (.int .u32 y) := (hown.cellAt m (by omega)).trans (encU_at hy')
          have HY := Lib.hid hy'
          clear hy hy' hle
          by_cases hxy : y = x
          · subst hxy
            go_wp2
            go_meet
            exact ⟨rfl, .inl ⟨rfl, List.mem_of_getElem? HY.out⟩⟩
          · have hb1 : (y == x) = false := by simp [hxy]
            go_wp2
            go_meet
            refine ⟨rfl, .inr ⟨rfl, fun z hz => ?_⟩⟩
            obtain ⟨j, hj, e⟩ := List.getElem_of_mem hz
            have hj' : j < m + 1 := by simp at hj; omega
            rw [List.getElem_take] at e
            obtain ⟨hm, em⟩ := List.getElem?_eq_some_iff.1 HY.out
            rcases Nat.lt_or_ge j m with h | h
            · have := List.pairwise_iff_getElem.1 HR.out j m (by omega) hm h
              omega
            · obtain rfl : j = m := by omega
              omega
      case rest =>
        obtain ⟨rfl, hres⟩ := hcut
        rcases hres with ⟨rfl, hin⟩ | ⟨rfl, hlt⟩
        · have HI := Lib.hid hin
          clear hin hle
          go_wp2
          go_ret
          exact ⟨_, l, rfl, hown, HR.out, fun y => ⟨.inl, fun h => h.elim id (fun h => by rw [h.1]; exact HI.out)⟩, by omega, World.grownBy.refl _ _⟩
        · have hgt : ∀ y ∈ l.drop k, x < y := by
            intro y hy
            obtain ⟨j, hj, e⟩ := List.getElem_of_mem hy
            rw [List.getElem_drop] at e
            exact HG.out (k + j) y (by omega) (by rw [← e]; exact List.getElem?_eq_getElem _)
          have HP := Lib.hid (rising_put HR.out hlt hgt)
          clear hlt hgt hle
          go_wp2_with (at_builtin; refine wpList_push2 (v := .slice A0 l.length c0) rfl _ _ 46 rfl 35 i0 _ 1 4 Tryz.underlying46 hi hz0 hz1 hz2 rfl (by decide) (by decide) [.int .u32 0] rfl rfl (by simp) hown rfl (encU_one [0]) (by omega) hbase ?_; intro v2 w2 hown2 hgr hmv)
          obtain ⟨A2, c2, rfl, hA2⟩ := owns_form hown2
          obtain ⟨g2, rfl⟩ := hA2 (by omega)
          obtain ⟨cur, hg2, hc2, hcm, hcs, htk, hbg⟩ := owns_block hown2
          have hsrc : ∀ j u, (encU (l.drop k))[j]? = some u → w2.cell? ((⟨g2, k, none⟩ : Addr).add j) = some u := by
            intro j u hu
            have e : (⟨g2, k, none⟩ : Addr).add j = ⟨g2, k + j, none⟩ := by simp [Addr.add]
            have hj := (List.getElem?_eq_some_iff.1 hu).1
            rw [encU_len, List.length_drop] at hj
            rw [e, hown2.cellAt (k + j) (by omega), List.getElem?_append_left (by rw [encU_len]; omega)]
            simpa [encU] using hu
          have hcap : k + 1 + (encU (l.drop k)).length ≤ cur.toList.length := by
            rw [encU_len]; simp; omega
          have HTK := Lib.hid htk
          have HGR := Lib.hid hgr
          have HMV := Lib.hid hmv
          clear hown2 hown htk hgr hmv
          have hwr : IntKind.i64.wrap ((k : Int) + 1) = (k : Int) + 1 := by
            simp only [IntKind.wrap, IntKind.bits, IntKind.signed]
            simp
            omega
          have hi3 : (k : Int) ≤ (l.length : Int) + 1 := by omega
          have hi0 : (0 : Int) ≤ (k : Int) + 1 := by omega
          have hne : ¬ c2 = k := by omega
          go_upto_region 9 with fail
          go_cut [] (fun wx => Hid (wx.heap[g2]? = some (.cells (splice cur.toList (k + 1) (encU (l.drop k))).toArray 35 (0, 0))) ∧ w2.grownBy wx (some g2))
          case first =>
            by_cases hck : c2 = k + 1
            · subst hck
              obtain rfl : k = l.length := by omega
              have hpos : ¬ 0 < (encU (l.drop l.length)).length := by simp [encU]
              go_region_law (refine step_copy_grown rfl (.tmp 45) (.tmp 48) 46 46 rfl 35 Tryz.underlying46 (by kernel_rfl) (some ⟨g2, 0, none⟩) (some ⟨g2, l.length, none⟩) 0 0 1 1 (by go_simp) (by go_simp) g2 (l.length + 1) cur.toList 35 hg2 (encU (l.drop l.length)) (by simp [encU]) (fun h => absurd h hpos) hcap (encU_one _) ?_; intro w4 hg4 hb4)
              all_goals (go_wp2_with fail; go_meet; exact ⟨hg4, (only_drew (World.grownBy.refl w2 (some g2))).trans hb4⟩)
            · go_region_law (refine step_copy_grown rfl (.tmp 45) (.tmp 48) 46 46 rfl 35 Tryz.underlying46 (by kernel_rfl) (some ⟨g2, k + 1, none⟩) (some ⟨g2, k, none⟩) (l.length - k) (c2 - (k + 1)) (l.length + 1 - k) (c2 - k) (by go_simp) (by go_simp) g2 (k + 1) cur.toList 35 hg2 (encU (l.drop k)) (by rw [encU_len, List.length_drop]; show _ = min (l.length + 1 - k) (l.length - k); omega) (fun _ => ⟨rfl, _, rfl, hsrc⟩) hcap (encU_one _) ?_; intro w4 hg4 hb4)
              all_goals (go_wp2_with fail; go_meet; exact ⟨hg4, (only_drew (World.grownBy.refl w2 (some g2))).trans hb4⟩)
          case rest =>
            obtain ⟨hg4, hb4⟩ := hcut
            have hlen4 : (splice cur.toList (k + 1) (encU (l.drop k))).length = cur.toList.length := length_splice _ _ _ hcap
            have hcl : cur.toList.length = cur.size := Array.length_toList
            have own4 := owns_of_block (size := 1) (n := l.length + 1) (xs := (splice cur.toList (k + 1) (encU (l.drop k))).take (l.length + 1)) hg4.out hc2 hcm (by rw [List.size_toArray, hlen4, hcl, hcs]) (by simp) (by rw [List.length_take, hlen4, hcl, hcs]; omega) hbg
            have hcur := put_cells hk (x := x) HTK.out
            have s1 := own4.stored k (.int .u32 x)
            rw [hcur] at s1
            have c1 : (l.take k ++ x :: l.drop k).length = l.length + 1 := by simp; omega
            have z1 := own4.frozenAt k
            obtain ⟨u, hu⟩ : ∃ u, wc.cell? ⟨g2, k, none⟩ = some u := by
              refine ⟨_, (own4.cellAt k (by omega)).trans (List.getElem?_eq_getElem (by rw [List.length_take, hlen4, hcl, hcs]; omega))⟩
            have HS := Lib.hid s1
            have HB4 := Lib.hid hb4
            clear s1 own4 hb4 hsrc hcur hg2
            have hi5 : (k : Int) < (l.length : Int) + 1 := by omega
            go_wp2
            go_ret
            refine ⟨_, l.take k ++ x :: l.drop k, rfl, ?_, HP.out.1, fun y => (HP.out.2 y).trans ⟨fun h => h.imp id (fun h => ⟨h, hxm⟩), fun h => h.imp id (fun h => h.1)⟩, by omega, grown_moved HGR.out HMV.out rfl (HB4.out.trans HS.out.2)⟩
            rw [c1]
            exact HS.out.1
  · go_wp2
    go_ret
    exact ⟨_, l, rfl, hown, hr, fun y => ⟨.inl, fun h => h.elim id (fun h => by omega)⟩, by omega, World.grownBy.refl _ _⟩

end Go.Proofs.YtehpkpjgkmbngaaGreat

/-
  The walk of the document's cuts.
-/
namespace Go.Proofs.YtehpkpjgkmbngaaGreat
open Go Go.RowKit Go.Lib Go.Sort

/-- Sets in memory: a slice of slices of spans, all below B. -/
structure SetV where
  v : Value
  L : List SpanV
instance : Inhabited SetV := ⟨⟨.slice none 0 0, []⟩⟩
def svals (S : List SetV) : List Value := S.map (·.v)
def SetsAt (w : World) (B : Nat) (v : Value) (S : List SetV) : Prop :=
  Rd w B 1 v S.length (svals S) ∧ ∀ x ∈ S, Rd w B 2 x.v x.L.length (scells x.L)
theorem SetsAt.below {w w' : World} {B : Nat} {v : Value} {S : List SetV} (h : SetsAt w B v S) (hb : Below B w w') : SetsAt w' B v S := ⟨h.1.below hb, fun x hx => (h.2 x hx).below hb⟩
theorem SetsAt.mono {w : World} {B B' : Nat} {v : Value} {S : List SetV} (h : SetsAt w B v S) (hb : B ≤ B') : SetsAt w B' v S := ⟨h.1.mono hb, fun x hx => (h.2 x hx).mono hb⟩
def allS (S : List SetV) : List SpanV := S.flatMap (·.L)
theorem allS_succ {S : List SetV} {i : Nat} {x : SetV} (h : S[i]? = some x) : allS (S.take (i + 1)) = allS (S.take i) ++ x.L := by
  unfold allS
  rw [List.take_add_one, h, List.flatMap_append]
  simp
def CutsRes (most : Int) (S : List SpanV) (w : World) (e : Ending) (w' : World) : Prop :=
  ∃ v C, e = .returned v ∧ w'.ownsRow w.heap.size 35 1 v C.length (encU C) ∧ CutsOf most S C ∧ C.length ≤ 2 * S.length + 1 ∧ Below w.heap.size w w'
theorem CutsOf.zero (most : Int) : CutsOf most [] [0] := ⟨List.pairwise_singleton _ _, fun y hy => by simp at hy; omega, fun y => by simp⟩
theorem take_snoc {L : List SpanV} {k : Nat} {s : SpanV} (h : L[k]? = some s) : L.take (k + 1) = L.take k ++ [s] := by rw [List.take_add_one, h]; rfl
theorem CutsOf.skip {most : Int} {S : List SpanV} {C : List Int} (h : CutsOf most S C) {s : SpanV} (hs : ¬ s.lo ≤ s.hi) : CutsOf most (S ++ [s]) C := by
  refine ⟨h.1, h.2.1, fun y => (h.2.2 y).trans ⟨fun hh => hh.imp id (fun ⟨t, ht, hm⟩ => ⟨t, List.mem_append_left _ ht, hm⟩), fun hh => hh.imp id (fun ⟨t, ht, hm⟩ => ?_)⟩⟩
  rcases List.mem_append.1 ht with ht | ht
  · exact ⟨t, ht, hm⟩
  · obtain rfl := List.mem_singleton.1 ht
    exact absurd hm.1 hs
/-- Behind the two puts of a span. -/
theorem CutsOf.puts {most : Int} {S : List SpanV} {C C1 C2 : List Int} (h : CutsOf most S C) {s : SpanV} (hs : s.lo ≤ s.hi) (hm : most < 4294967296)
    (h1 : Rising C1 ∧ ∀ y, y ∈ C1 ↔ y ∈ C ∨ (y = s.lo ∧ s.lo ≤ most)) (h2 : Rising C2 ∧ ∀ y, y ∈ C2 ↔ y ∈ C1 ∨ (y = s.hi + 1 ∧ s.hi + 1 ≤ most)) : CutsOf most (S ++ [s]) C2 := by
  have hlo := s.hlo
  have hhi := s.hhi
  refine ⟨h2.1, fun y hy => ?_, fun y => ?_⟩
  · rcases (h2.2 y).1 hy with hy | ⟨rfl, _⟩
    · rcases (h1.2 y).1 hy with hy | ⟨rfl, _⟩
      · exact h.2.1 y hy
      · omega
    · omega
  · rw [h2.2, h1.2, h.2.2]
    constructor
    · rintro (((rfl | ⟨t, ht, hk⟩) | ⟨rfl, hk⟩) | ⟨rfl, hk⟩)
      · exact .inl rfl
      · exact .inr ⟨t, List.mem_append_left _ ht, hk⟩
      · exact .inr ⟨s, List.mem_append_right _ (List.mem_singleton.2 rfl), hs, .inl rfl, hk⟩
      · exact .inr ⟨s, List.mem_append_right _ (List.mem_singleton.2 rfl), hs, .inr rfl, hk⟩
    · rintro (rfl | ⟨t, ht, hk⟩)
      · exact .inl (.inl (.inl rfl))
      · rcases List.mem_append.1 ht with ht | ht
        · exact .inl (.inl (.inr ⟨t, ht, hk⟩))
        · obtain rfl := List.mem_singleton.1 ht
          rcases hk.2.1 with rfl | rfl
          · exact .inl (.inr ⟨rfl, hk.2.2⟩)
          · exact .inr ⟨rfl, hk.2.2⟩
theorem CutsOf.puts1 {most : Int} {S : List SpanV} {C C1 : List Int} (h : CutsOf most S C) {s : SpanV} (hs : s.lo ≤ s.hi) (hm : most < 4294967296)
    (h1 : Rising C1 ∧ ∀ y, y ∈ C1 ↔ y ∈ C ∨ (y = s.lo ∧ s.lo ≤ most)) (hn : ¬ s.hi < most) : CutsOf most (S ++ [s]) C1 :=
  h.puts hs hm h1 ⟨h1.1, fun y => ⟨.inl, fun hh => hh.elim id (fun hh => by omega)⟩⟩

set_option maxRecDepth 100000 in
set_option maxHeartbeats 4000000 in
theorem cuts_any (most : Int) (S : List SetV) (vs : Value) (w : World) (hS : SetsAt w w.heap.size vs S) (hm : 0 ≤ most ∧ most < 4294967296) (hlen : (allS S).length ≤ 1073741824) (hlen2 : S.length ≤ 1099511627776) :
    Calls Tryz.prog 57 #[.int .u32 most, vs] w (CutsRes most (allS S) w) := by
  obtain ⟨A0, c0, rfl, hc0⟩ := hS.1.form
  have HS := Lib.hid hS
  clear hS
  go_enter Tryz.func57, Tryz.ntmps57
  go_wp2
  go_loopw [5, 6] (fun v i wr => ∃ (j : Nat) (C : List Int), i = .int .i64 j ∧ j ≤ S.length ∧ wr.ownsRow w.heap.size 35 1 v C.length (encU C) ∧ CutsOf most (allS (S.take j)) C ∧ C.length ≤ 2 * (allS (S.take j)).length + 1 ∧ Below w.heap.size w wr) (fun _ i _ => S.length - (intOf i).toNat)
  case atStart => exact ⟨0, [0], rfl, by omega, World.ownsRow_lit (base := w.heap.size) (size := 1) w #[.int .u32 0] 1 (Nat.le_refl _) (by decide) rfl, CutsOf.zero most, by simp, below1 w _⟩
  case round =>
    obtain ⟨j, C, rfl, hj, hown, hC, hCl, hnx⟩ := hrel
    have hsz := hnx.size
    by_cases hlt : j < S.length
    · have hI : (j : Int) < (S.length : Int) := by omega
      obtain ⟨x, hx⟩ : ∃ x, S[j]? = some x := ⟨_, List.getElem?_eq_getElem hlt⟩
      have hxr := HS.out.2 x (List.mem_of_getElem? hx)
      obtain ⟨Ax, cx, hxv, hcx⟩ := hxr.form
      have HX := Lib.hid hx
      have HXR := Lib.hid hxr
      have HXV := Lib.hid hxv
      have HSTEP := Lib.hid (allS_succ hx)
      have hle : (allS (S.take (j + 1))).length ≤ (allS S).length := by
        have e : allS S = allS (S.take (j + 1)) ++ allS (S.drop (j + 1)) := by unfold allS; rw [← List.flatMap_append, List.take_append_drop]
        rw [e, List.length_append]; omega
      rw [HSTEP.out, List.length_append] at hle
      have hv0 : ∀ W, Below w.heap.size w W → ∃ b off, A0 = some ⟨b, off, none⟩ ∧ W.cell? ⟨b, off + j, none⟩ = some (.slice Ax x.L.length cx) := by
        intro W hW
        obtain ⟨b, off, c', hv, _, _, hcell⟩ := (HS.out.1.below hW).pos (by omega)
        injection hv with hv1 _ _
        exact ⟨b, off, hv1, hcell j _ (by simp [svals, HX.out, HXV.out])⟩
      obtain ⟨b, off, rfl, _⟩ := hv0 w (Below.refl _ _)
      have HV0 := Lib.hid hv0
      clear hv0 hx hxr hxv
      generalize allS (S.take j) = T at *
      go_wp2
      go_loopw [5, 7] (fun v i wx => ∃ (k : Nat) (D : List Int), i = .int .i64 k ∧ k ≤ x.L.length ∧ wx.ownsRow w.heap.size 35 1 v D.length (encU D) ∧ CutsOf most (T ++ x.L.take k) D ∧ D.length ≤ 2 * (T.length + k) + 1 ∧ Below w.heap.size w wx) (fun _ i _ => x.L.length - (intOf i).toNat)
      case atStart => exact ⟨0, C, rfl, by omega, hown, by simpa using hC, by omega, hnx⟩
      case round =>
        clear hown hC hCl hnx hsz
        obtain ⟨k, D, rfl, hk, hown, hD, hDl, hnx⟩ := hrel
        have hsz := hnx.size
        obtain ⟨b', off', hv, g0⟩ := HV0.out _ hnx
        injection hv with hv
        injection hv with hv1 hv2
        subst hv1 hv2
        by_cases hlt2 : k < x.L.length
        · have hI2 : (k : Int) < (x.L.length : Int) := by omega
          obtain ⟨s, hs⟩ : ∃ s, x.L[k]? = some s := ⟨_, List.getElem?_eq_getElem hlt2⟩
          obtain ⟨b2, o2, c', hv, _, hbB, hcell⟩ := (HXR.out.below hnx).posAt (by omega)
          rw [HXV.out] at hv
          injection hv with hv1 _ hv3
          subst hv1 hv3
          have f0 : wr.cell? ⟨b2, o2 + k * 2, none⟩ = some (.int .u32 s.lo) := hcell k 0 _ (scell hs rfl)
          have f1 : wr.cell? ⟨b2, o2 + k * 2 + 1, none⟩ = some (.int .u32 s.hi) := hcell k 1 _ (scell hs rfl)
          have HST2 := Lib.hid (take_snoc hs)
          have hlo := s.hlo
          have hhi := s.hhi
          clear hcell hs
          generalize x.L.take k = T2 at *
          by_cases hok : s.lo ≤ s.hi
          · have hKB := Lib.hid (blk1 wr (.cells #[.int .u32 s.lo, .int .u32 s.hi] 78))
            have hoff : ∀ g, u5.ownBlock = some g → g < wr.heap.size := fun g hg => (hown.lt g hg).2
            have hDl2 : D.length ≤ 1099511627776 := by omega
            have hput := put_any D u5 s.lo most w.heap.size (wr.alloc (.cells #[.int .u32 s.lo, .int .u32 s.hi] 78)) (hown.alloc _) hD.1 hD.2.1 hlo (by simp; omega) hDl2
            have HP := Lib.hid hput
            have HO := Lib.hid hown
            have HN := Lib.hid hnx
            have HD := Lib.hid hD
            have HOFF := Lib.hid hoff
            clear hput hown hnx hD hoff
            go_wp2_with fail
            refine HP.out.mono ?_
            rintro e w2 ⟨v2, D1, rfl, hown2, hr2, hm2, hl2, hgr2⟩
            have kb2 : w2.heap[wr.heap.size]? = some _ := (hgr2.block wr.heap.size (by simp) (fun hh => by have := HOFF.out _ hh.symm; omega)).trans hKB.out
            obtain ⟨y0, y1, _, _⟩ := two_cells kb2
            have nx2 := below_row (HN.out.alloc hsz (.cells #[.int .u32 s.lo, .int .u32 s.hi] 78)) (HO.out.alloc _) hgr2 (by simp; omega) (Nat.le_refl _)
            have hsz2 := nx2.size
            have HM2 := Lib.hid hm2
            have HR2 := Lib.hid hr2
            clear kb2 hgr2 HO HN HP f0 f1 hm2 hr2
            by_cases hhm : s.hi < most
            · have he1 : (s.hi + 1) % 4294967296 = s.hi + 1 := by omega
              have hput := put_any D1 v2 (s.hi + 1) most w.heap.size w2 hown2 HR2.out (fun y hy => by
                rcases (HM2.out y).1 hy with hy | ⟨rfl, _⟩
                · exact HD.out.2.1 y hy
                · exact hlo) (by omega) (by omega) (by omega)
              have HP := Lib.hid hput
              have HO := Lib.hid hown2
              have HN := Lib.hid nx2
              clear hput hown2 nx2
              go_wp2_with fail
              refine HP.out.mono ?_
              rintro e w3 ⟨v3, D2, rfl, hown3, hr3, hm3, hl3, hgr3⟩
              have nx3 := below_row HN.out HO.out hgr3 hsz2 (Nat.le_refl _)
              have HM3 := Lib.hid hm3
              have HR3 := Lib.hid hr3
              clear hm3 hr3 hgr3
              go_wp2
              refine ⟨⟨k + 1, D2, by go_num, by omega, hown3, ?_, by omega, nx3⟩, by simp only [intOf]; omega⟩
              rw [HST2.out, ← List.append_assoc]
              exact HD.out.puts hok hm.2 ⟨HR2.out, HM2.out⟩ ⟨HR3.out, HM3.out⟩
            · go_wp2
              refine ⟨⟨k + 1, D1, by go_num, by omega, hown2, ?_, by omega, nx2⟩, by simp only [intOf]; omega⟩
              rw [HST2.out, ← List.append_assoc]
              exact HD.out.puts1 hok hm.2 ⟨HR2.out, HM2.out⟩ (by omega)
          · go_wp2
            refine ⟨⟨k + 1, D, by go_num, by omega, hown.alloc _, ?_, by omega, hnx.alloc hsz _⟩, by simp only [intOf]; omega⟩
            rw [HST2.out, ← List.append_assoc]
            exact hD.skip hok
        · obtain rfl : k = x.L.length := by omega
          rw [List.take_length] at hD
          go_wp2
          exact ⟨⟨j + 1, D, by go_num, by omega, hown, by rw [HSTEP.out]; exact hD, by rw [HSTEP.out, List.length_append]; exact hDl, hnx⟩, by simp only [intOf]; omega⟩
    · obtain rfl : j = S.length := by omega
      rw [List.take_length] at hC hCl
      go_wp2
      go_ret
      exact ⟨_, C, rfl, hown, hC, hCl, hnx⟩

end Go.Proofs.YtehpkpjgkmbngaaGreat

/-
  The walk of the document's made, and of its five callers.
-/
namespace Go.Proofs.YtehpkpjgkmbngaaGreat
open Go Go.RowKit Go.Lib Go.Sort

end Go.Proofs.YtehpkpjgkmbngaaGreat

/-
  The walk of spans.And.
-/
namespace Go.Proofs.YtehpkpjgkmbngaaGreat
open Go Go.RowKit Go.Lib Go.Sort

theorem meet1_yes {s t : SpanV} (h : max s.lo t.lo ≤ min s.hi t.hi) : ∃ x : SpanV, meet1 s t = [x] ∧ x.lo = max s.lo t.lo ∧ x.hi = min s.hi t.hi := by
  unfold meet1
  rw [if_pos h]
  exact ⟨_, rfl, rfl, rfl⟩
theorem meet1_no {s t : SpanV} (h : ¬ max s.lo t.lo ≤ min s.hi t.hi) : meet1 s t = [] := by
  unfold meet1
  rw [if_neg h]

set_option maxRecDepth 100000 in
set_option maxHeartbeats 4000000 in
theorem and_any (L M : List SpanV) (vl vm : Value) (w : World) (hl : Rd w w.heap.size 2 vl L.length (scells L)) (hm : Rd w w.heap.size 2 vm M.length (scells M)) (hlen : L.length ≤ 1048576) (hlen2 : M.length ≤ 1048575) :
    Calls Tryz.prog 48 #[vl, vm] w (SetRes (theSet (fun x => hasB L x && hasB M x)) w) := by
  obtain ⟨i0, hi, hz0, hz1, hz2⟩ := info_parts Tryz.infoSpan
  have hF := formOf_ok L
  have hFl := formOf_len L
  have hG := formOf_ok M
  have hGl := formOf_len M
  have hE : theSet (fun x => hasB L x && hasB M x) = formOf (meetAll (formOf L) (formOf M)) := theSet_form (fun x => by rw [hasB_meetAll, hF.2, hG.2])
  have HE := Lib.hid hE
  clear hE
  generalize hFF : formOf L = F at *
  generalize hGG : formOf M = G at *
  have hbig : ∀ j, j ≤ F.length → (meetAll (F.take j) G).length ≤ 1048576 * 1048575 := fun j hj => by
    have h1 := meetAll_len (F.take j) G
    have h2 : (F.take j).length ≤ 1048576 := by simp; omega
    exact Nat.le_trans h1 (Nat.mul_le_mul h2 (by omega))
  have HBIG := Lib.hid hbig
  have HFF := Lib.hid hFF
  have HGG := Lib.hid hGG
  clear hFF hGG hbig hF hG
  have HM := Lib.hid hm
  clear hm
  go_enter Tryz.func48, Tryz.ntmps48
  go_wp2_with fail
  refine (form_any L vl w hl (by omega)).mono ?_
  rintro e w1 ⟨v1, rfl, hown1, hb1⟩
  rw [HFF.out] at hown1
  have rd1 := Rd.of_own hown1
  obtain ⟨A1, c1, rfl, hc1⟩ := rd1.form
  have HR := Lib.hid rd1
  have HB1 := Lib.hid hb1
  have hsz1 := hb1.size
  clear rd1 hown1 hb1 hl
  go_wp2_with fail
  go_loopw [5, 14] (fun v i wr => ∃ j : Nat, i = .int .i64 j ∧ j ≤ F.length ∧ wr.ownsRow w1.heap.size 78 2 v (meetAll (F.take j) G).length (scells (meetAll (F.take j) G)) ∧ Below w1.heap.size w1 wr) (fun _ i _ => F.length - (intOf i).toNat)
  case atStart => exact ⟨0, rfl, by omega, World.ownsRow_nil _ _ _ _, Below.refl _ _⟩
  case round =>
    obtain ⟨j, rfl, hj, hown, hnx⟩ := hrel
    have hsz := hnx.size
    have hbj := HBIG.out j hj
    by_cases hlt : j < F.length
    · have hI : (j : Int) < (F.length : Int) := by omega
      obtain ⟨s, hs⟩ : ∃ s, F[j]? = some s := ⟨_, List.getElem?_eq_getElem hlt⟩
      obtain ⟨b, off, c', hv, _, hbB, hcell⟩ := (HR.out.below hnx).posAt (by omega)
      injection hv with hv1 _ hv3
      subst hv1 hv3
      have f0 : wr.cell? ⟨b, off + j * 2, none⟩ = some (.int .u32 s.lo) := hcell j 0 _ (scell hs rfl)
      have f1 : wr.cell? ⟨b, off + j * 2 + 1, none⟩ = some (.int .u32 s.hi) := hcell j 1 _ (scell hs rfl)
      have HSTEP := Lib.hid (meetAll_succ (B := G) hs)
      clear hcell hs
      generalize meetAll (F.take j) G = O at *
      have hbw : Below w.heap.size w (wr.alloc (.cells #[.int .u32 s.lo, .int .u32 s.hi] 78)) := (HB1.out.trans (hnx.mono hsz1)).alloc (by omega) _
      have hm0 : Rd (wr.alloc (.cells #[.int .u32 s.lo, .int .u32 s.hi] 78)) (wr.alloc (.cells #[.int .u32 s.lo, .int .u32 s.hi] 78)).heap.size 2 vm M.length (scells M) := (HM.out.below hbw).mono hbw.size
      have HB := Lib.hid (blk1 wr (.cells #[.int .u32 s.lo, .int .u32 s.hi] 78))
      have hownA := hown.alloc (.cells #[.int .u32 s.lo, .int .u32 s.hi] 78)
      have hnxA := hnx.alloc hsz (.cells #[.int .u32 s.lo, .int .u32 s.hi] 78)
      have hszA : (wr.alloc (.cells #[.int .u32 s.lo, .int .u32 s.hi] 78)).heap.size = wr.heap.size + 1 := by simp
      have hoff : ∀ g, u5.ownBlock = some g → g < wr.heap.size := fun g hg => (hown.lt g hg).2
      have HOFF := Lib.hid hoff
      have HO := Lib.hid hownA
      have HN := Lib.hid hnxA
      clear hown hnx hownA hnxA hbw hoff
      go_wp2_with fail
      refine (form_any M vm _ hm0 (by omega)).mono ?_
      rintro e w2 ⟨v2, rfl, hown2, hb2⟩
      rw [HGG.out] at hown2
      have own1 := owns_kept_none HO.out (only_of_below hb2 none)
      have hsz2 := hb2.size
      rw [hszA] at hsz2
      have nx1 : Below w1.heap.size w1 w2 := HN.out.trans (hb2.mono (by rw [hszA]; omega))
      have kb := blk_below hb2 HB.out
      have hform := owns_form hown2
      obtain ⟨A2, c2, rfl, hA2⟩ := hform
      have hoff2 : Off u5 wr.heap.size w2.heap.size := fun g hg => .inl (HOFF.out g hg)
      have hg2 : ∀ k t, G[k]? = some t → ∃ g2, A2 = some ⟨g2, 0, none⟩ ∧ wr.heap.size ≤ g2 ∧ g2 < w2.heap.size ∧ w2.cell? ⟨g2, k * 2, none⟩ = some (.int .u32 t.lo) ∧ w2.cell? ⟨g2, k * 2 + 1, none⟩ = some (.int .u32 t.hi) := by
        intro k t hk
        have hkl := (List.getElem?_eq_some_iff.1 hk).1
        obtain ⟨g2, rfl⟩ := hA2 (by omega)
        have h1 := hown2.lt g2 rfl
        rw [hszA] at h1
        exact ⟨g2, rfl, by omega, h1.2, (hown2.cellAt (k * 2) (by omega)).trans (by have := scell (i := 0) hk rfl; simpa using this), (hown2.cellAt (k * 2 + 1) (by omega)).trans (scell (i := 1) hk rfl)⟩
      have HG2 := Lib.hid hg2
      have KB := Lib.hid kb
      clear hown2 hb2 hg2 HO HN HB hm0 HOFF kb hA2 f0 f1
      generalize wr.heap.size = p0 at *
      go_wp2_with fail
      go_loopw [5, 21] (fun v i wx => ∃ k : Nat, i = .int .i64 k ∧ k ≤ G.length ∧ wx.ownsRow w1.heap.size 78 2 v (O ++ meetRow s (G.take k)).length (scells (O ++ meetRow s (G.take k))) ∧ Off v p0 w2.heap.size ∧ Seg p0 w2.heap.size w2 wx ∧ Below w1.heap.size w1 wx ∧ w2.heap.size ≤ wx.heap.size) (fun _ i _ => G.length - (intOf i).toNat)
      case atStart => exact ⟨0, rfl, by omega, by simpa [meetRow] using own1, hoff2, Seg.refl _ _ _, nx1, Nat.le_refl _⟩
      case round =>
        obtain ⟨k, rfl, hk, hown, hoff, hseg, hnx, hszx⟩ := hrel
        have hml := meetRow_len s (G.take k)
        have hmk : (G.take k).length ≤ k := by simp; omega
        by_cases hlt2 : k < G.length
        · have hI2 : (k : Int) < (G.length : Int) := by omega
          obtain ⟨t, ht⟩ : ∃ t, G[k]? = some t := ⟨_, List.getElem?_eq_getElem hlt2⟩
          obtain ⟨g2, rfl, hg1, hg2, e0, e1⟩ := HG2.out k t ht
          have HST2 := Lib.hid (meetRow_succ (s := s) ht)
          clear ht
          have d0 : wr.cell? ⟨g2, k * 2, none⟩ = some (.int .u32 t.lo) := (World.cell?_of_block (a := ⟨g2, k * 2, none⟩) (hseg g2 hg1 hg2)).trans e0
          have d1 : wr.cell? ⟨g2, k * 2 + 1, none⟩ = some (.int .u32 t.hi) := (World.cell?_of_block (a := ⟨g2, k * 2 + 1, none⟩) (hseg g2 hg1 hg2)).trans e1
          have kb2 : wr.heap[p0]? = some _ := (hseg p0 (Nat.le_refl _) (by omega)).trans KB.out
          obtain ⟨s0, s1, _, _⟩ := two_cells (blk_below (below1 wr (.cells #[.int .u32 t.lo, .int .u32 t.hi] 78)) kb2)
          generalize meetRow s (G.take k) = O2 at *
          have hl3 : (O ++ O2).length ≤ 1099511627776 := by rw [List.length_append]; omega
          have hsz3 := hnx.size
          clear e0 e1 kb2
          by_cases hmt : max s.lo t.lo ≤ min s.hi t.hi
          · obtain ⟨x, hx1, hx2, hx3⟩ := meet1_yes hmt
            have HX := Lib.hid (And.intro hx1 (And.intro hx2 hx3))
            have HMT := Lib.hid hmt
            have hd : decide (max s.lo t.lo ≤ min s.hi t.hi) = true := by simpa using hmt
            clear hx1 hx2 hx3 hmt
            go_wp2_with (at_builtin; refine wpList_push2 (v := u5) rfl _ _ 81 rfl 78 i0 _ 2 8 Tryz.underlying81 hi hz0 hz1 hz2 rfl (by decide) (by decide) [.int .u32 (max s.lo t.lo), .int .u32 (min s.hi t.hi)] rfl rfl (by simp) ((hown.alloc _).alloc _) rfl (enc_one ⟨_, _, by have := s.hlo; have := t.hlo; omega, by have := s.hhi; have := t.hhi; omega⟩) hl3 (by simp; omega) ?_; intro v2 w3 hown3 hgr hmv)
            have hex : x.enc = [.int .u32 (max s.lo t.lo), .int .u32 (min s.hi t.hi)] := by unfold SpanV.enc; rw [HX.out.2.1, HX.out.2.2]
            refine ⟨⟨k + 1, by go_num, by omega, ?_, hoff.moved hmv (by simp; omega), ((hseg.alloc hszx _).alloc (by simp; omega) _).grown hgr hoff (by simp; omega), below_row ((hnx.alloc hsz3 _).alloc (by simp; omega) _) ((hown.alloc _).alloc _) hgr (by simp; omega) (Nat.le_refl _), by have := hgr.size; simp at this; omega⟩, by simp only [intOf]; omega⟩
            rw [HST2.out, HX.out.1, ← List.append_assoc, scells_snoc, List.length_append, hex]
            exact hown3
          · have hd : decide (max s.lo t.lo ≤ min s.hi t.hi) = false := by simpa using hmt
            have HMT := Lib.hid (meet1_no hmt)
            clear hmt
            go_wp2
            exact ⟨⟨k + 1, by go_num, by omega, by rw [HST2.out, HMT.out, List.append_nil]; exact (hown.alloc _).alloc _, hoff, (hseg.alloc hszx _).alloc (by simp; omega) _, (hnx.alloc hsz3 _).alloc (by simp; omega) _, by simp; omega⟩, by simp only [intOf]; omega⟩
        · obtain rfl : k = G.length := by omega
          rw [List.take_length] at hown
          go_wp2
          exact ⟨⟨j + 1, by go_num, by omega, by rw [HSTEP.out]; exact hown, hnx⟩, by simp only [intOf]; omega⟩
    · obtain rfl : j = F.length := by omega
      rw [List.take_length] at hown hbj
      go_wp2_with fail
      refine (form_any (meetAll F G) _ _ (Rd.of_own hown) (by omega)).mono ?_
      rintro e w3 ⟨v3, rfl, hown3, hb3⟩
      go_wp2
      go_ret
      unfold SetRes
      rw [HE.out]
      exact ⟨_, rfl, owns_base hown3 (by omega), (HB1.out.trans (hnx.mono hsz1)).trans (hb3.mono (by omega))⟩

end Go.Proofs.YtehpkpjgkmbngaaGreat

/-
  The walks of spans.Not and spans.Less.
-/
namespace Go.Proofs.YtehpkpjgkmbngaaGreat
open Go Go.RowKit Go.Lib Go.Sort

set_option maxRecDepth 100000 in
set_option maxHeartbeats 4000000 in
theorem not_any (L : List SpanV) (vl : Value) (most : Int) (w : World) (hl : Rd w w.heap.size 2 vl L.length (scells L)) (hlen : L.length ≤ 1099511627776) (hm : 0 ≤ most ∧ most < 4294967296) :
    Calls Tryz.prog 49 #[vl, .int .u32 most] w (SetRes (theSet (notP most L)) w) := by
  obtain ⟨i0, hi, hz0, hz1, hz2⟩ := info_parts Tryz.infoSpan
  have hF := formOf_ok L
  have hFl := formOf_len L
  have hE := Lib.hid (theSet_not hm L)
  generalize hFF : formOf L = F at *
  have HFF := Lib.hid hFF
  clear hFF
  go_enter Tryz.func49, Tryz.ntmps49
  go_wp2_with fail
  refine (form_any L vl w hl hlen).mono ?_
  rintro e w1 ⟨v1, rfl, hown1, hb1⟩
  rw [HFF.out] at hown1
  have rd1 := Rd.of_own hown1
  obtain ⟨A1, c1, rfl, hc1⟩ := rd1.form
  have HR := Lib.hid rd1
  clear rd1 hown1
  go_wp2_with fail
  go_loopw [5, 6, 12] (fun v at' i wr => ∃ j : Nat, i = .int .i64 j ∧ j ≤ F.length ∧ at' = .int .u64 (natAt (F.take j)) ∧ wr.ownsRow w1.heap.size 78 2 v (notTo most F j).length (scells (notTo most F j)) ∧ Below w1.heap.size w1 wr) (fun _ _ i _ => F.length - (intOf i).toNat)
  case atStart => exact ⟨0, rfl, by omega, rfl, World.ownsRow_nil _ _ _ _, Below.refl _ _⟩
  case round =>
    obtain ⟨j, rfl, hj, rfl, hown, hnx⟩ := hrel
    have hat := natAt_range (F := F.take j)
    have hnl := notTo_len most F j
    have hsz := hnx.size
    have hsz1 := hb1.size
    by_cases hlt : j < F.length
    · have hI : (j : Int) < (F.length : Int) := by omega
      obtain ⟨s, hs⟩ : ∃ s, F[j]? = some s := ⟨_, List.getElem?_eq_getElem hlt⟩
      obtain ⟨b, off, c', hv, _, hbB, hcell⟩ := (HR.out.below hnx).posAt (by omega)
      injection hv with hv1 _ hv3
      subst hv1 hv3
      have f0 : wr.cell? ⟨b, off + j * 2, none⟩ = some (.int .u32 s.lo) := hcell j 0 _ (scell hs rfl)
      have f1 : wr.cell? ⟨b, off + j * 2 + 1, none⟩ = some (.int .u32 s.hi) := hcell j 1 _ (scell hs rfl)
      have hlo := s.hlo
      have hhi := s.hhi
      clear hcell
      have hstep := notTo_succ (most := most) hs
      have hstep2 := natAt_succ hs
      have hal := hF.1.at_le hs
      have hsv := hF.1.ok s (List.mem_of_getElem? hs)
      have HS1 := Lib.hid hstep
      have HS2 := Lib.hid hstep2
      clear hstep hstep2 hs
      generalize natAt (F.take j) = at0 at *
      generalize notTo most F j = O at *
      by_cases hg1 : at0 < s.lo
      · by_cases hg2 : at0 ≤ most
        · have hgap : ∃ x, gapOf at0 most s = [x] ∧ x.enc = [.int .u32 at0, .int .u32 (min (s.lo - 1) most)] := by
            unfold gapOf
            rw [dif_pos ⟨hat.1, hg1, hg2, hm.2⟩]
            exact ⟨_, rfl, rfl⟩
          have HGAP := Lib.hid hgap
          clear hgap
          have w1e : at0 % 4294967296 = at0 := by omega
          have w2e : (s.lo - 1) % 4294967296 = s.lo - 1 := by omega
          have hoff : ∀ g, u5.ownBlock = some g → g < wr.heap.size := fun g hg => (hown.lt g hg).2
          go_wp2_with (at_builtin; refine wpList_push2 (v := u5) rfl _ _ 81 rfl 78 i0 _ 2 8 Tryz.underlying81 hi hz0 hz1 hz2 rfl (by decide) (by decide) [.int .u32 at0, .int .u32 (min (s.lo - 1) most)] rfl rfl (by simp) (hown.alloc (.cells #[.int .u32 s.lo, .int .u32 s.hi] 78)) rfl (enc_one ⟨at0, min (s.lo - 1) most, by omega, by omega⟩) (by omega) (by simp; omega) ?_; intro v2 w2 hown2 hgr _; have kb2 : w2.heap[wr.heap.size]? = some (.cells #[.int .u32 s.lo, .int .u32 s.hi] 78 (0, 0)) := (hgr.block wr.heap.size (by simp) (fun hh => by have := hoff _ hh.symm; omega)).trans (blk1 wr _); obtain ⟨y0, y1, _, _⟩ := two_cells kb2)
          have hb2 := below_row (hnx.alloc hsz (.cells #[.int .u32 s.lo, .int .u32 s.hi] 78)) (hown.alloc (.cells #[.int .u32 s.lo, .int .u32 s.hi] 78)) hgr (by simp; omega) (Nat.le_refl _)
          refine ⟨⟨j + 1, by go_num, by omega, by rw [HS2.out], ?_, hb2⟩, by simp only [intOf]; omega⟩
          obtain ⟨x, hx, hxe⟩ := HGAP.out
          rw [HS1.out, hx, scells_snoc, List.length_append, hxe]
          exact hown2
        · have HGAP : Hid (gapOf at0 most s = []) := by
            show gapOf at0 most s = []
            unfold gapOf
            rw [dif_neg (by omega)]
          go_wp2
          refine ⟨⟨j + 1, by go_num, by omega, by rw [HS2.out], by rw [HS1.out, HGAP.out, List.append_nil]; exact hown.alloc _, hnx.alloc hsz _⟩, by simp only [intOf]; omega⟩
      · have HGAP : Hid (gapOf at0 most s = []) := by
          show gapOf at0 most s = []
          unfold gapOf
          rw [dif_neg (by omega)]
        go_wp2
        refine ⟨⟨j + 1, by go_num, by omega, by rw [HS2.out], by rw [HS1.out, HGAP.out, List.append_nil]; exact hown.alloc _, hnx.alloc hsz _⟩, by simp only [intOf]; omega⟩
    · obtain rfl : j = F.length := by omega
      rw [List.take_length] at hat ⊢
      have hall : notAll most F = notTo most F F.length ++ lastOf (natAt F) most := rfl
      have HALL := Lib.hid hall
      clear hall
      generalize notTo most F F.length = O at *
      generalize natAt F = at0 at *
      have hbw : Below w.heap.size w wr := hb1.trans (hnx.mono hsz1)
      by_cases hg2 : at0 ≤ most
      · have hgap : ∃ x, lastOf at0 most = [x] ∧ x.enc = [.int .u32 at0, .int .u32 most] := by
          unfold lastOf
          rw [dif_pos ⟨hat.1, hg2, hm.2⟩]
          exact ⟨_, rfl, rfl⟩
        have HGAP := Lib.hid hgap
        clear hgap
        have w1e : at0 % 4294967296 = at0 := by omega
        go_wp2_with (at_builtin; refine wpList_push rfl _ _ 81 rfl 78 i0 _ 2 8 Tryz.underlying81 hi hz0 hz1 hz2 rfl (by decide) (by decide) [.int .u32 at0, .int .u32 most] rfl rfl (by simp) hown rfl (enc_one ⟨at0, most, by omega, by omega⟩) (by omega) (by omega) (Below.refl w1.heap.size wr) (Nat.le_refl _) ?_; intro v2 w2 hown2 hb2)
        go_ret
        obtain ⟨x, hx, hxe⟩ := HGAP.out
        unfold SetRes
        rw [hE.out, HALL.out, hx, scells_snoc, List.length_append, hxe]
        exact ⟨_, rfl, owns_base hown2 hsz1, hbw.trans (hb2.mono hsz1)⟩
      · have HGAP : Hid (lastOf at0 most = []) := by
          show lastOf at0 most = []
          unfold lastOf
          rw [dif_neg (by omega)]
        go_wp2
        go_ret
        unfold SetRes
        rw [hE.out, HALL.out, HGAP.out, List.append_nil]
        exact ⟨_, rfl, owns_base hown hsz1, hbw⟩

theorem lessP (L M : List SpanV) : theSet (fun x => hasB L x && hasB (theSet (notP 4294967295 M)) x) = theSet (fun x => hasB L x && !hasB M x) := by
  congr 1
  funext x
  have h := (notAll_ok (formOf_ok M).1 (most := 4294967295) (by omega)).2 x
  rw [theSet_not (by omega), h, notP_form]
  unfold notP
  cases hx : hasB L x with
  | false => rfl
  | true =>
    obtain ⟨s, _, h1, h2⟩ := hasB_iff.1 hx
    have := s.hlo
    have := s.hhi
    have e1 : 0 ≤ x := by omega
    have e2 : x ≤ 4294967295 := by omega
    simp [e1, e2]
theorem not_len {most : Int} (hm : 0 ≤ most ∧ most < 4294967296) (L : List SpanV) : (theSet (notP most L)).length ≤ L.length + 1 := by
  rw [theSet_not hm]
  unfold notAll
  have h1 := notTo_len most (formOf L) (formOf L).length
  have h2 := formOf_len L
  have h3 : (lastOf (natAt (formOf L)) most).length ≤ 1 := by unfold lastOf; split <;> simp
  rw [List.length_append]; omega

set_option maxRecDepth 100000 in
set_option maxHeartbeats 4000000 in
theorem less_any (L M : List SpanV) (vl vm : Value) (w : World) (hl : Rd w w.heap.size 2 vl L.length (scells L)) (hm : Rd w w.heap.size 2 vm M.length (scells M)) (hlen : L.length ≤ 1048576) (hlen2 : M.length ≤ 1048574) :
    Calls Tryz.prog 18 #[vl, vm] w (SetRes (theSet (fun x => hasB L x && !hasB M x)) w) := by
  have hnl := not_len (most := 4294967295) (by omega) M
  have HLP := Lib.hid (lessP L M)
  have HL := Lib.hid hl
  clear hl
  go_enter Tryz.func18, Tryz.ntmps18
  go_wp2_with fail
  refine (not_any M vm 4294967295 w hm (by omega) (by omega)).mono ?_
  rintro e w1 ⟨v1, rfl, hown1, hb1⟩
  go_wp2_with fail
  refine (and_any L _ vl v1 w1 ((HL.out.below hb1).mono hb1.size) (Rd.of_own hown1) hlen (by omega)).mono ?_
  rintro e w2 ⟨v2, rfl, hown2, hb2⟩
  rw [HLP.out] at hown2
  have hsz := hb1.size
  go_wp2
  go_ret
  exact ⟨_, rfl, owns_base hown2 hsz, hb1.trans (hb2.mono hsz)⟩

end Go.Proofs.YtehpkpjgkmbngaaGreat

/-
  The walks of the document's Form, Or, And, Less and Not, and of Concat and Or of the program.
-/
namespace Go.Proofs.YtehpkpjgkmbngaaGreat
open Go Go.RowKit Go.Lib Go.Sort

theorem hasB_range {L : List SpanV} {x : Int} (h : hasB L x = true) : 0 ≤ x ∧ x ≤ 4294967295 := by
  obtain ⟨s, _, h1, h2⟩ := hasB_iff.1 h
  have := s.hlo
  have := s.hhi
  omega
theorem soP_or (L M : List SpanV) : soP 1 4294967295 L M = fun x => hasB L x || hasB M x := by
  funext x
  have e : soP 1 4294967295 L M x = (decide (0 ≤ x) && decide (x ≤ 4294967295) && (hasB L x || hasB M x)) := rfl
  rw [e]
  cases h : (hasB L x || hasB M x) with
  | false => simp
  | true =>
    rcases Bool.or_eq_true_iff.1 h with h | h
    · have := hasB_range h; simp [this]
    · have := hasB_range h; simp [this]
theorem soP_and (L M : List SpanV) : soP 2 4294967295 L M = fun x => hasB L x && hasB M x := by
  funext x
  have e : soP 2 4294967295 L M x = (decide (0 ≤ x) && decide (x ≤ 4294967295) && (hasB L x && hasB M x)) := rfl
  rw [e]
  cases h : hasB L x with
  | false => simp
  | true => have := hasB_range h; simp [this]
theorem soP_less (L M : List SpanV) : soP 3 4294967295 L M = fun x => hasB L x && !hasB M x := by
  funext x
  have e : soP 3 4294967295 L M x = (decide (0 ≤ x) && decide (x ≤ 4294967295) && (hasB L x && !hasB M x)) := rfl
  rw [e]
  cases h : hasB L x with
  | false => simp
  | true => have := hasB_range h; simp [this]
theorem soP_not (most : Int) (L : List SpanV) : soP 4 most L [] = notP most L := rfl
theorem soP_form (L : List SpanV) : theSet (soP 1 4294967295 L []) = formOf L := by
  rw [soP_or]
  unfold formOf
  congr 1
  funext x
  rw [hasB_nil, Bool.or_false]
theorem rd_nil (w : World) (B k : Nat) : Rd w B k (.slice none 0 0) 0 [] := ⟨none, 0, rfl, by omega, by simp, fun h => absurd h (by omega)⟩

end Go.Proofs.YtehpkpjgkmbngaaGreat

/-
  The walks of spans.Count, Least, Same, of slices.Equal at spans, and of the document's Count and Spans.
-/
namespace Go.Proofs.YtehpkpjgkmbngaaGreat
open Go Go.RowKit Go.Lib Go.Sort

theorem cnt_snoc (A : List SpanV) (s : SpanV) : cnt (A ++ [s]) = cnt A + (s.hi - s.lo + 1) := by rw [cnt_append]; simp [cnt]

def leastOf (F : List SpanV) : Int × Bool := match F with | [] => (0, false) | s :: _ => (s.lo, true)
end Go.Proofs.YtehpkpjgkmbngaaGreat

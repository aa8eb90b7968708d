/-
  Walks over the layer of routes: the comparisons of fields.
-/
import Derived.Test.YtlhafehhkjjchaaCmp
import Derived.Test.YtlhafehhkjjchaaKit2
import Derived.Deep.RegionHeld3
namespace Go.Proofs.Ytlhafehhkjjchaa
open Go Go.RowKit Go.Sort

/-- The world, drawn and grown. -/
def GR (w W : World) : Prop := ∃ (q : Nat) (os : Array Obj), W = grow (w.drewN q) os
theorem GR.refl (w : World) : GR w w := ⟨0, #[], by simp [grow]; rfl⟩
theorem GR.alloc {w W : World} (h : GR w W) (o : Obj) : GR w (W.alloc o) := by
  obtain ⟨q, os, rfl⟩ := h
  exact ⟨q, os ++ #[o], by rw [alloc_eq_grow, grow_grow]⟩
theorem GR.drew {w W : World} (h : GR w W) : GR w W.drew := by
  obtain ⟨q, os, rfl⟩ := h
  exact ⟨q + 1, os, rfl⟩
theorem GR.trans {w W V : World} (h : GR w W) (k : GR W V) : GR w V := by
  obtain ⟨q, os, rfl⟩ := h
  obtain ⟨p, ps, rfl⟩ := k
  refine ⟨q + p, os ++ ps, ?_⟩
  have e : (grow (w.drewN q) os).drewN p = grow ((w.drewN q).drewN p) os := rfl
  rw [e, grow_grow]
  congr 1
  simp only [World.drewN]
  congr 1
  omega
theorem GR.below {w W : World} (h : GR w W) : Below w.heap.size w W := by
  obtain ⟨q, os, rfl⟩ := h
  refine ⟨rfl, rfl, rfl, by simp [grow, World.drewN], fun i hi => ?_⟩
  show ((w.heap ++ os)[i]?) = w.heap[i]?
  rw [Array.getElem?_append_left hi]

set_option maxHeartbeats 1000000 in
theorem one_any (a b : Bool) (w : World) : Calls Try.prog 38 #[.bool a, .bool b] w fun e w' => e = .returned (.int .i64 (if a then -1 else if b then 1 else 0)) ∧ w = w' := by
  go_enter Try.func38, Try.ntmps38
  cases a <;> cases b
  all_goals (go_wp2; go_ret; exact ⟨rfl, rfl⟩)
def cmpB (a b : Bool) : Int := if a == b then 0 else if b then -1 else 1
set_option maxHeartbeats 1000000 in
theorem cmpBool_any (a b : Bool) (w : World) : Calls Try.prog 35 #[.bool a, .bool b] w fun e w' => e = .returned (.int .i64 (cmpB a b)) ∧ w = w' := by
  go_enter Try.func35, Try.ntmps35
  cases a <;> cases b
  all_goals (go_wp2; go_ret; exact ⟨rfl, rfl⟩)
def cmpSt (s t : ByteArray) : Int := if Op.bytesLess s.toList t.toList = true then -1 else if (s.toList == t.toList) = true then 0 else 1
set_option maxHeartbeats 1000000 in
theorem cmpStr_any (s t : ByteArray) (w : World) : Calls Try.prog 34 #[.string s, .string t] w fun e w' => e = .returned (.int .i64 (cmpSt s t)) ∧ w = w' := by
  have hs : (s.toList != s.toList) = false := by simp
  have ht : (t.toList != t.toList) = false := by simp
  cases h1 : Op.bytesLess s.toList t.toList
  · cases h2 : (s.toList == t.toList)
    · have hE := Lib.hid (show cmpSt s t = 1 by unfold cmpSt; rw [h1, h2]; rfl)
      go_enter Try.func34, Try.ntmps34
      go_wp2
      go_ret
      exact ⟨ret_int hE.out.symm, rfl⟩
    · have hE := Lib.hid (show cmpSt s t = 0 by unfold cmpSt; rw [h1, h2]; rfl)
      go_enter Try.func34, Try.ntmps34
      go_wp2
      go_ret
      exact ⟨ret_int hE.out.symm, rfl⟩
  · have hE := Lib.hid (show cmpSt s t = -1 by unfold cmpSt; rw [h1]; rfl)
    go_enter Try.func34, Try.ntmps34
    go_wp2
    go_ret
    exact ⟨ret_int hE.out.symm, rfl⟩
set_option maxRecDepth 100000 in
set_option maxHeartbeats 1000000 in
theorem first_any (l : List Int) (v : Value) (w : World) (h : Rd w w.heap.size 1 v l.length (l.map (Value.int .i64))) (hlen : l.length ≤ 4294967296) :
    Calls Try.prog 36 #[v] w fun e w' => e = .returned (.int .i64 (firstNZ l)) ∧ w = w' := by
  obtain ⟨A, c, rfl, hc⟩ := h.form
  have HR := Lib.hid h
  clear h
  go_enter Try.func36, Try.ntmps36
  go_wp2
  go_loop [3] (fun i => ∃ k : Nat, i = .int .i64 k ∧ k ≤ l.length ∧ Hid (∀ j, j < k → l[j]? = some 0)) (fun i => l.length - (intOf i).toNat)
  case atStart => exact ⟨0, rfl, by omega, (fun j hj => absurd hj (by omega) : ∀ j, j < 0 → l[j]? = some 0)⟩
  case round =>
    obtain ⟨k, rfl, hk, HZ⟩ := hrel
    by_cases hlt : k < l.length
    · obtain ⟨x, hx⟩ : ∃ x, l[k]? = some x := ⟨_, List.getElem?_eq_getElem hlt⟩
      obtain ⟨b, off, c', hv, _, hbB, hcell⟩ := HR.out.pos (by omega)
      injection hv with hv1 _ hv3
      subst hv1 hv3
      have ca : w.cell? ⟨b, off + k, none⟩ = some (.int .i64 x) := hcell k _ (by simp [hx])
      have hI : (k : Int) < (l.length : Int) := by omega
      have HX := Lib.hid hx
      clear hx hcell
      by_cases e : x = 0
      · subst e
        go_wp2
        refine ⟨⟨k + 1, by go_num, by omega, ?_⟩, by simp only [intOf]; omega⟩
        intro j hj
        by_cases hjk : j = k
        · subst hjk; exact HX.out
        · exact HZ.out j (by omega)
      · have e' : (x != 0) = true := by simp [e]
        have E := Lib.hid e
        clear e
        go_wp2
        go_ret
        exact ⟨ret_int (firstNZ_take l k x HX.out HZ.out E.out).symm, rfl⟩
    · obtain rfl : k = l.length := by omega
      go_wp2
      go_ret
      exact ⟨ret_int (firstNZ_zero l HZ.out).symm, rfl⟩

set_option maxHeartbeats 1000000 in
theorem cmpPrefix_any (a b m n : Int) (w : World) :
    Calls Try.prog 30 #[.agg #[.int .u32 a, .int .i64 m], .agg #[.int .u32 b, .int .i64 n]] w fun e w' => e = .returned (.int .i64 (firstNZ [cmpI a b, cmpI m n])) ∧ GR w w' := by
  have hBX : GR w ((w.alloc (.cells #[.int .u32 a, .int .i64 m] 26)).alloc (.cells #[.int .u32 b, .int .i64 n] 26)) := ((GR.refl w).alloc _).alloc _
  have HB := Lib.hid hBX
  clear hBX
  go_enter Try.func30, Try.ntmps30
  go_wp2
  obtain ⟨k0, k1⟩ := blk2 w (.cells #[.int .u32 a, .int .i64 m] 26) (.cells #[.int .u32 b, .int .i64 n] 26)
  obtain ⟨c0, c1, _, _⟩ := two_cells k0
  obtain ⟨c2, c3, _, _⟩ := two_cells k1
  have hsz := lt_of_block k1
  clear k0 k1
  generalize (w.alloc (.cells #[.int .u32 a, .int .i64 m] 26)).alloc (.cells #[.int .u32 b, .int .i64 n] 26) = W at *
  go_region_held3 (fun w' => w'.cell? ⟨w.heap.size, 0, none⟩ = some (.int .u32 a) ∧ w'.cell? ⟨w.heap.size, 1, none⟩ = some (.int .i64 m) ∧ w'.cell? ⟨w.heap.size + 1, 0, none⟩ = some (.int .u32 b) ∧ w'.cell? ⟨w.heap.size + 1, 1, none⟩ = some (.int .i64 n)) (go_keep)
    (first | (go_at_call 33; refine (cmpAddr_any _ _ _).mono ?_; rintro e w' ⟨rfl, rfl⟩) | (go_at_call 32; refine (cmpInt_any _ _ _).mono ?_; rintro e w' ⟨rfl, rfl⟩) | (go_at_call 29; refine (cmpOr_any [cmpI a b, cmpI m n] _ _ (Rd.of_blk (cs := #[.int .i64 (cmpI a b), .int .i64 (cmpI m n)]) (t := 3) (heap_drew (heap_alloc_new _ _)) (Nat.le_refl _) rfl) (by simp)).mono ?_; rintro e w' ⟨rfl, rfl⟩))
  all_goals go_wp2
  go_ret
  exact ⟨rfl, (HB.out.alloc _).drew⟩

end Go.Proofs.Ytlhafehhkjjchaa

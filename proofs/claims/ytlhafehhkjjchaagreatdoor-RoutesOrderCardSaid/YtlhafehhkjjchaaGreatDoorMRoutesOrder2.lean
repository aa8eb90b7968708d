/-
  Joined texts: Ro1, Ro2, AvV, TailQ, Ca1, RtOrd.
-/
import Derived.Test.YtlhafehhkjjchaaGreatDoorMRoutesOrder1
import Derived.Deep.RegionHeld3
import Derived.WalkKit
import Derived.StillTail
import Derived.Deep.QuietTactic
import Derived.BigQuiet
import Derived.Lib.QuietBelow
import Derived.Deep.CutBlock
import Derived.Deep.DeepCutAuto
import Derived.Shelf.SlSortCmp.WholeK
/-
  Walks over the layer of routes: the comparisons of fields.
-/
namespace Go.Proofs.YtlhafehhkjjchaaGreatDoor
open Go Go.RowKit Go.Sort

/-- The world, drawn and grown. -/
def GR (w W : World) : Prop := ∃ (q : Nat) (os : Array Obj), W = grow (w.drewN q) os
theorem GR.refl (w : World) : GR w w := ⟨0, #[], by simp [grow]; rfl⟩
theorem GR.alloc {w W : World} (h : GR w W) (o : Obj) : GR w (W.alloc o) := by
  obtain ⟨q, os, rfl⟩ := h
  exact ⟨q, os ++ #[o], by rw [alloc_eq_grow, grow_grow]⟩
theorem GR.drew {w W : World} (h : GR w W) : GR w W.drew := by
  obtain ⟨q, os, rfl⟩ := h
  exact ⟨q + 1, os, rfl⟩
theorem GR.trans {w W V : World} (h : GR w W) (k : GR W V) : GR w V := by
  obtain ⟨q, os, rfl⟩ := h
  obtain ⟨p, ps, rfl⟩ := k
  refine ⟨q + p, os ++ ps, ?_⟩
  have e : (grow (w.drewN q) os).drewN p = grow ((w.drewN q).drewN p) os := rfl
  rw [e, grow_grow]
  congr 1
  simp only [World.drewN]
  congr 1
  omega
theorem GR.below {w W : World} (h : GR w W) : Below w.heap.size w W := by
  obtain ⟨q, os, rfl⟩ := h
  refine ⟨rfl, rfl, rfl, by simp [grow, World.drewN], fun i hi => ?_⟩
  show ((w.heap ++ os)[i]?) = w.heap[i]?
  rw [Array.getElem?_append_left hi]

def cmpB (a b : Bool) : Int := if a == b then 0 else if b then -1 else 1
set_option maxHeartbeats 1000000 in
theorem cmpBool_any (a b : Bool) (w : World) : Calls Tryz.prog 17 #[.bool a, .bool b] w fun e w' => e = .returned (.int .i64 (cmpB a b)) ∧ w = w' := by
  go_enter Tryz.func17, Tryz.ntmps17
  cases a <;> cases b
  all_goals (go_wp2; go_ret; exact ⟨rfl, rfl⟩)
def cmpSt (s t : ByteArray) : Int := if Op.bytesLess s.toList t.toList = true then -1 else if (s.toList == t.toList) = true then 0 else 1
set_option maxHeartbeats 1000000 in
theorem cmpStr_any (s t : ByteArray) (w : World) : Calls Tryz.prog 16 #[.string s, .string t] w fun e w' => e = .returned (.int .i64 (cmpSt s t)) ∧ w = w' := by
  have hs : (s.toList != s.toList) = false := by simp
  have ht : (t.toList != t.toList) = false := by simp
  cases h1 : Op.bytesLess s.toList t.toList
  · cases h2 : (s.toList == t.toList)
    · have hE := Lib.hid (show cmpSt s t = 1 by unfold cmpSt; rw [h1, h2]; rfl)
      go_enter Tryz.func16, Tryz.ntmps16
      go_wp2
      go_ret
      exact ⟨ret_int hE.out.symm, rfl⟩
    · have hE := Lib.hid (show cmpSt s t = 0 by unfold cmpSt; rw [h1, h2]; rfl)
      go_enter Tryz.func16, Tryz.ntmps16
      go_wp2
      go_ret
      exact ⟨ret_int hE.out.symm, rfl⟩
  · have hE := Lib.hid (show cmpSt s t = -1 by unfold cmpSt; rw [h1]; rfl)
    go_enter Tryz.func16, Tryz.ntmps16
    go_wp2
    go_ret
    exact ⟨ret_int hE.out.symm, rfl⟩
set_option maxHeartbeats 1000000 in
theorem cmpPrefix_any (a b m n : Int) (w : World) :
    Calls Tryz.prog 12 #[.agg #[.int .u32 a, .int .i64 m], .agg #[.int .u32 b, .int .i64 n]] w fun e w' => e = .returned (.int .i64 (firstNZ [cmpI a b, cmpI m n])) ∧ GR w w' := by
  have hBX : GR w ((w.alloc (.cells #[.int .u32 a, .int .i64 m] 25)).alloc (.cells #[.int .u32 b, .int .i64 n] 25)) := ((GR.refl w).alloc _).alloc _
  have HB := Lib.hid hBX
  clear hBX
  go_enter Tryz.func12, Tryz.ntmps12
  go_wp2
  obtain ⟨k0, k1⟩ := blk2 w (.cells #[.int .u32 a, .int .i64 m] 25) (.cells #[.int .u32 b, .int .i64 n] 25)
  obtain ⟨c0, c1, _, _⟩ := two_cells k0
  obtain ⟨c2, c3, _, _⟩ := two_cells k1
  have hsz := lt_of_block k1
  clear k0 k1
  generalize (w.alloc (.cells #[.int .u32 a, .int .i64 m] 25)).alloc (.cells #[.int .u32 b, .int .i64 n] 25) = W at *
  go_region_held3 (fun w' => w'.cell? ⟨w.heap.size, 0, none⟩ = some (.int .u32 a) ∧ w'.cell? ⟨w.heap.size, 1, none⟩ = some (.int .i64 m) ∧ w'.cell? ⟨w.heap.size + 1, 0, none⟩ = some (.int .u32 b) ∧ w'.cell? ⟨w.heap.size + 1, 1, none⟩ = some (.int .i64 n)) (go_keep)
    (first | (go_at_call 15; refine (cmpAddr_any _ _ _).mono ?_; rintro e w' ⟨rfl, rfl⟩) | (go_at_call 14; refine (cmpInt_any _ _ _).mono ?_; rintro e w' ⟨rfl, rfl⟩) | (go_at_call 11; refine (cmpOr_any [cmpI a b, cmpI m n] _ _ (Rd.of_blk (cs := #[.int .i64 (cmpI a b), .int .i64 (cmpI m n)]) (t := 3) (heap_drew (heap_alloc_new _ _)) (Nat.le_refl _) rfl) (by simp)).mono ?_; rintro e w' ⟨rfl, rfl⟩))
  all_goals go_wp2
  go_ret
  exact ⟨rfl, (HB.out.alloc _).drew⟩

end Go.Proofs.YtlhafehhkjjchaaGreatDoor

/-
  Routes as structures; the walks of routes.Cmp and of the document's Cmp (written by wip/gen/genro2.py).
-/
namespace Go.Proofs.YtlhafehhkjjchaaGreatDoor
open Go Go.RowKit Go.Sort

structure RouteV where
  a : Int
  m : Int
  fr : Int
  di : Int
  me : Int
  ta : Int
  nm : ByteArray
  ho : Int
  dc : Bool
instance : Inhabited RouteV := ⟨⟨0, 0, 0, 0, 0, 0, ByteArray.empty, 0, false⟩⟩
def RouteV.enc (r : RouteV) : List Value := [.int .u32 r.a, .int .i64 r.m, .int .u8 r.fr, .int .i64 r.di, .int .i64 r.me, .int .i64 r.ta, .string r.nm, .int .u32 r.ho, .bool r.dc]
theorem route_len (r : RouteV) : r.enc.length = 9 := rfl
def cmpR (r s : RouteV) : Int := firstNZ [firstNZ [cmpI r.a s.a, cmpI r.m s.m], cmpI r.fr s.fr, cmpI r.di s.di, cmpI r.me s.me, cmpI r.ta s.ta, cmpI r.ho s.ho, cmpSt r.nm s.nm, cmpB r.dc s.dc]
def RBox (r s : RouteV) (B : Nat) (W V : World) : Prop := V.cell? ⟨B, 0, none⟩ = some (.int .u32 r.a) ∧ V.cell? ⟨B, 1, none⟩ = some (.int .i64 r.m) ∧ V.cell? ⟨B, 2, none⟩ = some (.int .u8 r.fr) ∧ V.cell? ⟨B, 3, none⟩ = some (.int .i64 r.di) ∧ V.cell? ⟨B, 4, none⟩ = some (.int .i64 r.me) ∧ V.cell? ⟨B, 5, none⟩ = some (.int .i64 r.ta) ∧ V.cell? ⟨B, 6, none⟩ = some (.string r.nm) ∧ V.cell? ⟨B, 7, none⟩ = some (.int .u32 r.ho) ∧ V.cell? ⟨B, 8, none⟩ = some (.bool r.dc) ∧ V.cell? ⟨B + 1, 0, none⟩ = some (.int .u32 s.a) ∧ V.cell? ⟨B + 1, 1, none⟩ = some (.int .i64 s.m) ∧ V.cell? ⟨B + 1, 2, none⟩ = some (.int .u8 s.fr) ∧ V.cell? ⟨B + 1, 3, none⟩ = some (.int .i64 s.di) ∧ V.cell? ⟨B + 1, 4, none⟩ = some (.int .i64 s.me) ∧ V.cell? ⟨B + 1, 5, none⟩ = some (.int .i64 s.ta) ∧ V.cell? ⟨B + 1, 6, none⟩ = some (.string s.nm) ∧ V.cell? ⟨B + 1, 7, none⟩ = some (.int .u32 s.ho) ∧ V.cell? ⟨B + 1, 8, none⟩ = some (.bool s.dc) ∧ GR W V
theorem RBox.next {r s : RouteV} {B : Nat} {W V V' : World} (h : RBox r s B W V) (hB : B + 1 < W.heap.size) (hg : GR V V') : RBox r s B W V' := by
  obtain ⟨c0, c1, c2, c3, c4, c5, c6, c7, c8, d0, d1, d2, d3, d4, d5, d6, d7, d8, hgr⟩ := h
  have hsz := hgr.below.size
  have hb := hg.below
  exact ⟨(hb.cell (p := ⟨B, 0, none⟩) (by show B < _; omega)).trans c0, (hb.cell (p := ⟨B, 1, none⟩) (by show B < _; omega)).trans c1, (hb.cell (p := ⟨B, 2, none⟩) (by show B < _; omega)).trans c2, (hb.cell (p := ⟨B, 3, none⟩) (by show B < _; omega)).trans c3, (hb.cell (p := ⟨B, 4, none⟩) (by show B < _; omega)).trans c4, (hb.cell (p := ⟨B, 5, none⟩) (by show B < _; omega)).trans c5, (hb.cell (p := ⟨B, 6, none⟩) (by show B < _; omega)).trans c6, (hb.cell (p := ⟨B, 7, none⟩) (by show B < _; omega)).trans c7, (hb.cell (p := ⟨B, 8, none⟩) (by show B < _; omega)).trans c8, (hb.cell (p := ⟨B + 1, 0, none⟩) (by show B + 1 < _; omega)).trans d0, (hb.cell (p := ⟨B + 1, 1, none⟩) (by show B + 1 < _; omega)).trans d1, (hb.cell (p := ⟨B + 1, 2, none⟩) (by show B + 1 < _; omega)).trans d2, (hb.cell (p := ⟨B + 1, 3, none⟩) (by show B + 1 < _; omega)).trans d3, (hb.cell (p := ⟨B + 1, 4, none⟩) (by show B + 1 < _; omega)).trans d4, (hb.cell (p := ⟨B + 1, 5, none⟩) (by show B + 1 < _; omega)).trans d5, (hb.cell (p := ⟨B + 1, 6, none⟩) (by show B + 1 < _; omega)).trans d6, (hb.cell (p := ⟨B + 1, 7, none⟩) (by show B + 1 < _; omega)).trans d7, (hb.cell (p := ⟨B + 1, 8, none⟩) (by show B + 1 < _; omega)).trans d8, hgr.trans hg⟩

set_option maxRecDepth 100000 in
set_option maxHeartbeats 8000000 in
theorem rcmp_any (r s : RouteV) (w : World) : Calls Tryz.prog 5 #[.agg #[.int .u32 r.a, .int .i64 r.m, .int .u8 r.fr, .int .i64 r.di, .int .i64 r.me, .int .i64 r.ta, .string r.nm, .int .u32 r.ho, .bool r.dc], .agg #[.int .u32 s.a, .int .i64 s.m, .int .u8 s.fr, .int .i64 s.di, .int .i64 s.me, .int .i64 s.ta, .string s.nm, .int .u32 s.ho, .bool s.dc]] w fun e w' => e = .returned (.int .i64 (cmpR r s)) ∧ GR w w' := by
  have hBX : GR w ((w.alloc (.cells #[.int .u32 r.a, .int .i64 r.m, .int .u8 r.fr, .int .i64 r.di, .int .i64 r.me, .int .i64 r.ta, .string r.nm, .int .u32 r.ho, .bool r.dc] 27)).alloc (.cells #[.int .u32 s.a, .int .i64 s.m, .int .u8 s.fr, .int .i64 s.di, .int .i64 s.me, .int .i64 s.ta, .string s.nm, .int .u32 s.ho, .bool s.dc] 27)) := ((GR.refl w).alloc _).alloc _
  have HB := Lib.hid hBX
  clear hBX
  have hB : w.heap.size + 1 < ((w.alloc (.cells #[.int .u32 r.a, .int .i64 r.m, .int .u8 r.fr, .int .i64 r.di, .int .i64 r.me, .int .i64 r.ta, .string r.nm, .int .u32 r.ho, .bool r.dc] 27)).alloc (.cells #[.int .u32 s.a, .int .i64 s.m, .int .u8 s.fr, .int .i64 s.di, .int .i64 s.me, .int .i64 s.ta, .string s.nm, .int .u32 s.ho, .bool s.dc] 27)).heap.size := by simp
  have hbox : RBox r s w.heap.size ((w.alloc (.cells #[.int .u32 r.a, .int .i64 r.m, .int .u8 r.fr, .int .i64 r.di, .int .i64 r.me, .int .i64 r.ta, .string r.nm, .int .u32 r.ho, .bool r.dc] 27)).alloc (.cells #[.int .u32 s.a, .int .i64 s.m, .int .u8 s.fr, .int .i64 s.di, .int .i64 s.me, .int .i64 s.ta, .string s.nm, .int .u32 s.ho, .bool s.dc] 27)) ((w.alloc (.cells #[.int .u32 r.a, .int .i64 r.m, .int .u8 r.fr, .int .i64 r.di, .int .i64 r.me, .int .i64 r.ta, .string r.nm, .int .u32 r.ho, .bool r.dc] 27)).alloc (.cells #[.int .u32 s.a, .int .i64 s.m, .int .u8 s.fr, .int .i64 s.di, .int .i64 s.me, .int .i64 s.ta, .string s.nm, .int .u32 s.ho, .bool s.dc] 27)) := by
    obtain ⟨k0, k1⟩ := blk2 w (.cells #[.int .u32 r.a, .int .i64 r.m, .int .u8 r.fr, .int .i64 r.di, .int .i64 r.me, .int .i64 r.ta, .string r.nm, .int .u32 r.ho, .bool r.dc] 27) (.cells #[.int .u32 s.a, .int .i64 s.m, .int .u8 s.fr, .int .i64 s.di, .int .i64 s.me, .int .i64 s.ta, .string s.nm, .int .u32 s.ho, .bool s.dc] 27)
    exact ⟨cell_of_row _ _ 0 _ _ (0, 0) k0, cell_of_row _ _ 1 _ _ (0, 0) k0, cell_of_row _ _ 2 _ _ (0, 0) k0, cell_of_row _ _ 3 _ _ (0, 0) k0, cell_of_row _ _ 4 _ _ (0, 0) k0, cell_of_row _ _ 5 _ _ (0, 0) k0, cell_of_row _ _ 6 _ _ (0, 0) k0, cell_of_row _ _ 7 _ _ (0, 0) k0, cell_of_row _ _ 8 _ _ (0, 0) k0, cell_of_row _ _ 0 _ _ (0, 0) k1, cell_of_row _ _ 1 _ _ (0, 0) k1, cell_of_row _ _ 2 _ _ (0, 0) k1, cell_of_row _ _ 3 _ _ (0, 0) k1, cell_of_row _ _ 4 _ _ (0, 0) k1, cell_of_row _ _ 5 _ _ (0, 0) k1, cell_of_row _ _ 6 _ _ (0, 0) k1, cell_of_row _ _ 7 _ _ (0, 0) k1, cell_of_row _ _ 8 _ _ (0, 0) k1, GR.refl _⟩
  have HX := Lib.hid hbox
  clear hbox
  go_enter Tryz.func5, Tryz.ntmps5
  go_wp2
  obtain ⟨c0, c1, c2, c3, c4, c5, c6, c7, c8, d0, d1, d2, d3, d4, d5, d6, d7, d8, hgr⟩ := HX.out
  generalize (w.alloc (.cells #[.int .u32 r.a, .int .i64 r.m, .int .u8 r.fr, .int .i64 r.di, .int .i64 r.me, .int .i64 r.ta, .string r.nm, .int .u32 r.ho, .bool r.dc] 27)).alloc (.cells #[.int .u32 s.a, .int .i64 s.m, .int .u8 s.fr, .int .i64 s.di, .int .i64 s.me, .int .i64 s.ta, .string s.nm, .int .u32 s.ho, .bool s.dc] 27) = W at *
  generalize w.heap.size = B at *
  have hpre : ∀ V, (V.cell? ⟨B, 0, none⟩ = some (.int .u32 r.a) ∧ V.cell? ⟨B, 1, none⟩ = some (.int .i64 r.m) ∧ V.cell? ⟨B, 2, none⟩ = some (.int .u8 r.fr) ∧ V.cell? ⟨B, 3, none⟩ = some (.int .i64 r.di) ∧ V.cell? ⟨B, 4, none⟩ = some (.int .i64 r.me) ∧ V.cell? ⟨B, 5, none⟩ = some (.int .i64 r.ta) ∧ V.cell? ⟨B, 6, none⟩ = some (.string r.nm) ∧ V.cell? ⟨B, 7, none⟩ = some (.int .u32 r.ho) ∧ V.cell? ⟨B, 8, none⟩ = some (.bool r.dc) ∧ V.cell? ⟨B + 1, 0, none⟩ = some (.int .u32 s.a) ∧ V.cell? ⟨B + 1, 1, none⟩ = some (.int .i64 s.m) ∧ V.cell? ⟨B + 1, 2, none⟩ = some (.int .u8 s.fr) ∧ V.cell? ⟨B + 1, 3, none⟩ = some (.int .i64 s.di) ∧ V.cell? ⟨B + 1, 4, none⟩ = some (.int .i64 s.me) ∧ V.cell? ⟨B + 1, 5, none⟩ = some (.int .i64 s.ta) ∧ V.cell? ⟨B + 1, 6, none⟩ = some (.string s.nm) ∧ V.cell? ⟨B + 1, 7, none⟩ = some (.int .u32 s.ho) ∧ V.cell? ⟨B + 1, 8, none⟩ = some (.bool s.dc) ∧ GR W V) → Calls Tryz.prog 12 #[.agg #[.int .u32 r.a, .int .i64 r.m], .agg #[.int .u32 s.a, .int .i64 s.m]] V fun e V' => e = .returned (.int .i64 (firstNZ [cmpI r.a s.a, cmpI r.m s.m])) ∧ (V'.cell? ⟨B, 0, none⟩ = some (.int .u32 r.a) ∧ V'.cell? ⟨B, 1, none⟩ = some (.int .i64 r.m) ∧ V'.cell? ⟨B, 2, none⟩ = some (.int .u8 r.fr) ∧ V'.cell? ⟨B, 3, none⟩ = some (.int .i64 r.di) ∧ V'.cell? ⟨B, 4, none⟩ = some (.int .i64 r.me) ∧ V'.cell? ⟨B, 5, none⟩ = some (.int .i64 r.ta) ∧ V'.cell? ⟨B, 6, none⟩ = some (.string r.nm) ∧ V'.cell? ⟨B, 7, none⟩ = some (.int .u32 r.ho) ∧ V'.cell? ⟨B, 8, none⟩ = some (.bool r.dc) ∧ V'.cell? ⟨B + 1, 0, none⟩ = some (.int .u32 s.a) ∧ V'.cell? ⟨B + 1, 1, none⟩ = some (.int .i64 s.m) ∧ V'.cell? ⟨B + 1, 2, none⟩ = some (.int .u8 s.fr) ∧ V'.cell? ⟨B + 1, 3, none⟩ = some (.int .i64 s.di) ∧ V'.cell? ⟨B + 1, 4, none⟩ = some (.int .i64 s.me) ∧ V'.cell? ⟨B + 1, 5, none⟩ = some (.int .i64 s.ta) ∧ V'.cell? ⟨B + 1, 6, none⟩ = some (.string s.nm) ∧ V'.cell? ⟨B + 1, 7, none⟩ = some (.int .u32 s.ho) ∧ V'.cell? ⟨B + 1, 8, none⟩ = some (.bool s.dc) ∧ GR W V') := fun V hV => (cmpPrefix_any _ _ _ _ V).mono fun e V' ⟨he, hg⟩ => ⟨he, RBox.next (r := r) (s := s) hV hB hg⟩
  clear c0 c1 c2 c3 c4 c5 c6 c7 c8 d0 d1 d2 d3 d4 d5 d6 d7 d8 hgr
  obtain ⟨c0, c1, c2, c3, c4, c5, c6, c7, c8, d0, d1, d2, d3, d4, d5, d6, d7, d8, hgr⟩ := HX.out
  go_region_held3 (fun V => V.cell? ⟨B, 0, none⟩ = some (.int .u32 r.a) ∧ V.cell? ⟨B, 1, none⟩ = some (.int .i64 r.m) ∧ V.cell? ⟨B, 2, none⟩ = some (.int .u8 r.fr) ∧ V.cell? ⟨B, 3, none⟩ = some (.int .i64 r.di) ∧ V.cell? ⟨B, 4, none⟩ = some (.int .i64 r.me) ∧ V.cell? ⟨B, 5, none⟩ = some (.int .i64 r.ta) ∧ V.cell? ⟨B, 6, none⟩ = some (.string r.nm) ∧ V.cell? ⟨B, 7, none⟩ = some (.int .u32 r.ho) ∧ V.cell? ⟨B, 8, none⟩ = some (.bool r.dc) ∧ V.cell? ⟨B + 1, 0, none⟩ = some (.int .u32 s.a) ∧ V.cell? ⟨B + 1, 1, none⟩ = some (.int .i64 s.m) ∧ V.cell? ⟨B + 1, 2, none⟩ = some (.int .u8 s.fr) ∧ V.cell? ⟨B + 1, 3, none⟩ = some (.int .i64 s.di) ∧ V.cell? ⟨B + 1, 4, none⟩ = some (.int .i64 s.me) ∧ V.cell? ⟨B + 1, 5, none⟩ = some (.int .i64 s.ta) ∧ V.cell? ⟨B + 1, 6, none⟩ = some (.string s.nm) ∧ V.cell? ⟨B + 1, 7, none⟩ = some (.int .u32 s.ho) ∧ V.cell? ⟨B + 1, 8, none⟩ = some (.bool s.dc) ∧ GR W V) (refine ⟨?_, ?_, ?_, ?_, ?_, ?_, ?_, ?_, ?_, ?_, ?_, ?_, ?_, ?_, ?_, ?_, ?_, ?_, ?_⟩ <;> first | go_keep | assumption | exact GR.drew (by first | assumption | exact GR.refl _) | exact GR.alloc (by first | assumption | exact GR.refl _) _)
    (first | (go_at_call 12; refine (hpre _ ⟨by assumption, by assumption, by assumption, by assumption, by assumption, by assumption, by assumption, by assumption, by assumption, by assumption, by assumption, by assumption, by assumption, by assumption, by assumption, by assumption, by assumption, by assumption, by first | assumption | exact GR.refl _ | exact GR.drew (by first | assumption | exact GR.refl _)⟩).mono ?_; rintro e w' ⟨rfl, _, _, _, _, _, _, _, _, _, _, _, _, _, _, _, _, _, _, _⟩) | (go_at_call 13; refine (cmpU8_any _ _ _).mono ?_; rintro e w' ⟨rfl, rfl⟩) | (go_at_call 14; refine (cmpInt_any _ _ _).mono ?_; rintro e w' ⟨rfl, rfl⟩) | (go_at_call 15; refine (cmpAddr_any _ _ _).mono ?_; rintro e w' ⟨rfl, rfl⟩) | (go_at_call 16; refine (cmpStr_any _ _ _).mono ?_; rintro e w' ⟨rfl, rfl⟩) | (go_at_call 17; refine (cmpBool_any _ _ _).mono ?_; rintro e w' ⟨rfl, rfl⟩) | (go_at_call 11; refine (cmpOr_any [firstNZ [cmpI r.a s.a, cmpI r.m s.m], cmpI r.fr s.fr, cmpI r.di s.di, cmpI r.me s.me, cmpI r.ta s.ta, cmpI r.ho s.ho, cmpSt r.nm s.nm, cmpB r.dc s.dc] _ _ (Rd.of_blk (cs := #[.int .i64 (firstNZ [cmpI r.a s.a, cmpI r.m s.m]), .int .i64 (cmpI r.fr s.fr), .int .i64 (cmpI r.di s.di), .int .i64 (cmpI r.me s.me), .int .i64 (cmpI r.ta s.ta), .int .i64 (cmpI r.ho s.ho), .int .i64 (cmpSt r.nm s.nm), .int .i64 (cmpB r.dc s.dc)]) (t := 3) (heap_drew (heap_alloc_new _ _)) (Nat.le_refl _) rfl) (by simp)).mono ?_; rintro e w' ⟨rfl, rfl⟩) | (go_at_call 11; refine (cmpOr_any [firstNZ [cmpI r.a s.a, cmpI r.m s.m], cmpI r.fr s.fr, cmpI r.di s.di, cmpI r.me s.me, cmpI r.ta s.ta, cmpI r.ho s.ho, cmpSt r.nm s.nm, cmpB r.dc s.dc] _ _ (Rd.of_blk (cs := #[.int .i64 (firstNZ [cmpI r.a s.a, cmpI r.m s.m]), .int .i64 (cmpI r.fr s.fr), .int .i64 (cmpI r.di s.di), .int .i64 (cmpI r.me s.me), .int .i64 (cmpI r.ta s.ta), .int .i64 (cmpI r.ho s.ho), .int .i64 (cmpSt r.nm s.nm), .int .i64 (cmpB r.dc s.dc)]) (t := 3) (heap_alloc_new _ _) (Nat.le_refl _) rfl) (by simp)).mono ?_; rintro e w' ⟨rfl, rfl⟩))
  all_goals go_wp2
  go_ret
  exact ⟨rfl, HB.out.trans (by first | assumption | exact GR.alloc (by assumption) _ | exact GR.drew (by assumption))⟩

end Go.Proofs.YtlhafehhkjjchaaGreatDoor

/-
  An advert's value.
-/
namespace Go.Proofs.YtlhafehhkjjchaaGreatDoor

/-- A list of numbers below 2^32. -/
def u32s (l : List Int) : Prop := ∀ x ∈ l, 0 ≤ x ∧ x < 4294967296
/-- An advert. -/
structure AvV where
  a : Int
  m : Int
  ss : Int
  pf : Int
  me : Int
  ho : Int
  pe : Int
  id : Int
  ex : Bool
  og : Int
  pa : List Int
  co : List Int
  cl : List Int
  ha : 0 ≤ a ∧ a < 4294967296
  hm : -9223372036854775808 ≤ m ∧ m ≤ 9223372036854775807
  hss : -9223372036854775808 ≤ ss ∧ ss ≤ 9223372036854775807
  hpf : -9223372036854775808 ≤ pf ∧ pf ≤ 9223372036854775807
  hme : -9223372036854775808 ≤ me ∧ me ≤ 9223372036854775807
  hho : 0 ≤ ho ∧ ho < 4294967296
  hpe : 0 ≤ pe ∧ pe < 4294967296
  hid : 0 ≤ id ∧ id < 4294967296
  hog : 0 ≤ og ∧ og < 4294967296
  hpa : u32s pa
  hco : u32s co
  hcl : u32s cl
theorem u32s_nil : u32s [] := fun _ h => by cases h
instance : Inhabited AvV := ⟨⟨0, 0, 0, 0, 0, 0, 0, 0, false, 0, [], [], [], by omega, by omega, by omega, by omega, by omega, by omega, by omega, by omega, by omega, u32s_nil, u32s_nil, u32s_nil⟩⟩
end Go.Proofs.YtlhafehhkjjchaaGreatDoor

/-
  A region that draws its order, with a head whose operations are quiet in a class of worlds and a tail in one forced order: no program in sight.
-/
namespace Go.Proofs.YtlhafehhkjjchaaGreatDoor
open Go Go.Sort

section
variable {P : Program} {ops : Array Oper} {md : Region.Mode} {C : World → Prop}
/-- The head, in whatever order, up to L. -/
def headQ (P : Program) (md : Region.Mode) (ops : Array Oper) (C : World → Prop) (n : Nat) (L : Array Bool → Act → Prop) : Nat → Array Bool → Act → Prop
  | 0, listed, a => L listed a
  | f + 1, listed, a => Region.ready md ops listed ≠ [] ∧ ∀ i, i ∈ Region.ready md ops listed → i < n ∧ qOp P ops C i (headQ P md ops C n L f (listed.setIfInBounds i true)) a
theorem any_of_headQ {n g : Nat} {L : Array Bool → Act → Prop} {K : Exit → Act → World → Prop} (hL : ∀ listed a w, C w → L listed a → wpAny P md ops K g listed a w) :
    ∀ (f : Nat) (listed : Array Bool) (a : Act) (w : World), C w → headQ P md ops C n L f listed a → wpAny P md ops K (f + g) listed a w
  | 0, listed, a, w, hw, h => by rw [Nat.zero_add]; exact hL _ _ _ hw h
  | f + 1, listed, a, w, hw, h => by
    have e : f + 1 + g = (f + g) + 1 := by omega
    rw [e]
    refine ⟨fun hn => absurd hn h.1, fun i hi => wpOp_of_qOp hw (fun a' w' hw' h' => any_of_headQ hL f _ a' w' hw' h') (h.2 i hi).2⟩
/-- An operation of the head that is ready may be taken first. -/
theorem headQ_first {n i : Nat} {oi : Oper} {v : Value} {L : Array Bool → Act → Prop} (hi : ops[i]? = some oi) (hsel : ∀ (j : Nat) (o : Oper) cs b, ops[j]? = some o → o.op ≠ .select cs b)
    (hs : Region.sinkB md ops n = true) (hc : Region.chainB md ops n = true) (hn : n < ops.size) (hin : i < n) (hend : ∀ listed a, L listed a → ∀ j ∈ Region.ready md ops listed, n ≤ j)
    (f : Nat) : ∀ (listed : Array Bool) (a : Act), HeadInv md ops n listed →
      (∀ j oj, ops[j]? = some oj → j ≠ i → listed.getD j true = false → (∀ e ∈ oj.after, Region.binds md e = true → e.on ≠ i) → oi.apart ops oj = true) →
      i ∈ Region.ready md ops listed → YieldsIn P ops C oi v a → headQ P md ops C n L f (listed.setIfInBounds i true) (a.put oi.dst v) → headQ P md ops C n L (f + 1) listed a := by
  induction f with
  | zero =>
    intro listed a inv _ hr hy H
    have hlow : ∀ j ∈ Region.ready md ops listed, j < n := fun j hj => (Nat.lt_or_ge j n).elim id fun h => absurd hj (tail_waits hs hc hn inv _ i rfl hin (mem_ready.1 hr).1 j h)
    refine ⟨fun h => (by rw [h] at hr; cases hr), fun j hj => ⟨hlow j hj, ?_⟩⟩
    by_cases hji : j = i
    · subst hji
      exact hy.qOp hi H
    · have h1 := hend _ _ H j (ready_mono hj hji)
      have h2 := hlow j hj
      omega
  | succ f ih =>
    intro listed a inv hfree hr hy H
    have hun := (mem_ready.1 hr).1
    have hlow : ∀ j ∈ Region.ready md ops listed, j < n := fun j hj => (Nat.lt_or_ge j n).elim id fun h => absurd hj (tail_waits hs hc hn inv _ i rfl hin hun j h)
    refine ⟨fun h => (by rw [h] at hr; cases hr), fun j hj => ⟨hlow j hj, ?_⟩⟩
    by_cases hji : j = i
    · subst hji
      exact hy.qOp hi H
    · obtain ⟨hjun, oj, hoj, hall⟩ := mem_ready.1 hj
      have hnot : ∀ e ∈ oj.after, Region.binds md e = true → e.on ≠ i := by
        intro e he hb heq
        have h1 := hall e he hb
        rw [heq, getD_both hun] at h1
        cases h1
      have hput := qOp_put hoj (hfree j oj hoj hji hjun hnot) (fun cs b => hsel i oi cs b hi) (fun cs b => hsel j oj cs b hoj) hy (H.2 j (ready_mono hj hji)).2
      refine qOp_mono (fun a' h3 => ih (listed.setIfInBounds j true) a' (inv.set hj (hlow j hj)) ?_ (ready_mono hr (Ne.symm hji)) h3.1 ?_) hput
      · intro k ok hk hki hku hno
        refine hfree k ok hk hki ?_ hno
        by_cases hjk : j = k
        · subst hjk; exact hjun
        · rw [getD_set_ne true hjk] at hku; exact hku
      · rw [Array.setIfInBounds_comm _ _ hji]
        exact h3.2
theorem headQ_lex {n g : Nat} {Lq : Act → Prop} (hsel : Region.noSelect ops = true) (hs : Region.sinkB md ops n = true) (hc : Region.chainB md ops n = true) (hn : n < ops.size) :
    ∀ (l : List Oper) (k : Nat) (listed : Array Bool) (a : Act), (∀ j, j < l.length → l[j]? = ops[k + j]?) → k + l.length = n → HeadInv md ops n listed →
    Region.lexHead md ops g l.length k listed = true → wpQuiet P ops C Lq l a →
    headQ P md ops C n (fun listed' a' => Region.seqB md ops g n listed' = true ∧ Lq a') l.length listed a := by
  intro l
  induction l with
  | nil =>
    intro k listed a _ hk _ hB h
    obtain rfl : k = n := by simpa using hk
    exact ⟨by simpa [Region.lexHead] using hB, h⟩
  | cons o l ih =>
    intro k listed a hl hk inv hB h
    have h0 : ops[k]? = some o := by simpa using (hl 0 (by simp)).symm
    simp only [List.length_cons, Region.lexHead, Bool.and_eq_true] at hB
    obtain ⟨⟨hr, hf⟩, hB'⟩ := hB
    have hkn : k < n := by simp only [List.length_cons] at hk; omega
    have hr' : k ∈ Region.ready md ops listed := by simpa using hr
    obtain ⟨v, hy, hK⟩ := yieldsIn_of_qOp (C := C) (P := P) (K := wpQuiet P ops C Lq l) h0 (by unfold qOp; simp only [h0]; exact h)
    refine headQ_first h0 (Region.noSelect_spec hsel) hs hc hn hkn (fun listed' a' hL => seqB_ready hL.1) l.length listed a inv (Region.free_spec h0 hf) hr' hy (ih (k + 1) _ _ (fun j hj => ?_) (by simp only [List.length_cons] at hk; omega) (inv.set hr' hkn) hB' hK)
    have h1 := hl (j + 1) (by simp; omega)
    simpa [Nat.add_assoc, Nat.add_comm 1 j] using h1
/-- A head that is quiet in the class, then the tail in its order, in any world of the class. -/
theorem wp_region_quiet_tail {id : Nat} {Q : Exit → Act → World → Prop} {a : Act} {w : World} {l : List Oper} (n : Nat) (hm : P.follows .mixedOrders = true) (hB : Region.lexTailB .any l.toArray n = true) (hC : C { w with drawn := w.drawn + 1 })
    (h : wpQuiet P l.toArray C (fun a' => ∀ w', C w' → wpList P l.toArray Q (l.drop n) a' w') (l.take n) a) : (Code.region id l.toArray true).wp P Q a w := by
  simp only [Region.lexTailB, Bool.and_eq_true, decide_eq_true_eq] at hB
  obtain ⟨⟨⟨⟨hsel, hn⟩, hs⟩, hc⟩, hlex⟩ := hB
  have hn' : n < l.length := by simpa using hn
  have htl : (l.take n).length = n := by simp; omega
  have hdl : (l.drop n).length = l.toArray.size - n := by simp
  have inv0 : HeadInv .any l.toArray n (Array.replicate l.toArray.size false) :=
    ⟨by simp, fun j oj _ hl => (by rw [getD_replicate_false] at hl; cases hl), fun t _ ht => getD_in (by simpa using ht) (getD_replicate_false _ _)⟩
  have H := headQ_lex (C := C) (P := P) (md := .any) (g := l.toArray.size - n) hsel hs hc hn (l.take n) 0 (Array.replicate l.toArray.size false) a (fun j hj => by
    have hj' : j < n := by rw [htl] at hj; exact hj
    simp [hj']) (by simpa using htl) inv0 (by rw [htl]; exact hlex) h
  refine wp_region_any hm ?_
  have H2 := any_of_headQ (K := Q) (g := l.toArray.size - n) (fun listed a' w' hw' hL => by
    have h2 := wpAny_of_seq (P := P) (Q' := Q) (l.drop n) n listed a' w' (fun j => by simp) (by rw [hdl]; exact hL.1) (hL.2 w' hw')
    rw [hdl] at h2
    exact h2) (l.take n).length (Array.replicate l.toArray.size false) a { w with drawn := w.drawn + 1 } hC H
  have e : (l.take n).length + (l.toArray.size - n) = l.toArray.size := by rw [htl]; simp; omega
  rw [e] at H2
  exact H2
/-- The same at the class of the worlds that are drawn and grown. -/
theorem wp_region_tail_below {id : Nat} {Q : Exit → Act → World → Prop} {a : Act} {w : World} {l : List Oper} (n : Nat) (hm : P.follows .mixedOrders = true) (hB : Region.lexTailB .any l.toArray n = true)
    (h : wpQuiet P l.toArray (fun w' => ∃ p : Regrown, w' = grow (redrawn w p.d) p.os) (fun a' => ∀ w', (∃ p : Regrown, w' = grow (redrawn w p.d) p.os) → wpList P l.toArray Q (l.drop n) a' w') (l.take n) a) : (Code.region id l.toArray true).wp P Q a w :=
  wp_region_quiet_tail (C := fun w' => ∃ p : Regrown, w' = grow (redrawn w p.d) p.os) n hm hB ⟨⟨w.drawn + 1, #[]⟩, by rw [grow_empty]; rfl⟩ h
end
end Go.Proofs.YtlhafehhkjjchaaGreatDoor

/-
  The walk of routes.CmpAdvert at any two adverts (written by wip/gen/genca1.py).
-/
namespace Go.Proofs.YtlhafehhkjjchaaGreatDoor
open Go Go.RowKit Go.Lib Go.Sort

/-- Two lists: by the first unlike numbers, a beginning ahead. -/
def cmpNs : List Int → List Int → Int
  | [], [] => 0
  | [], _ :: _ => -1
  | _ :: _, [] => 1
  | x :: l, y :: m => if cmpI x y = 0 then cmpNs l m else cmpI x y
/-- The order of adverts. -/
def cmpA (r s : AvV) : Int := firstNZ [firstNZ [cmpI r.a s.a, cmpI r.m s.m], cmpI r.ss s.ss, cmpI r.pf s.pf, cmpI r.me s.me, cmpI r.ho s.ho, cmpI r.pe s.pe, cmpI r.id s.id, cmpB r.ex s.ex, cmpI r.og s.og, cmpNs r.pa s.pa, cmpNs r.co s.co, cmpNs r.cl s.cl]
theorem cblk13 {w : World} {g : Nat} {v0 v1 v2 v3 v4 v5 v6 v7 v8 v9 v10 v11 v12 : Value} {t : TypeId} (h : w.heap[g]? = some (.cells #[v0, v1, v2, v3, v4, v5, v6, v7, v8, v9, v10, v11, v12] t (0, 0))) : w.cell? ⟨g, 0, none⟩ = some v0 ∧ w.cell? ⟨g, 1, none⟩ = some v1 ∧ w.cell? ⟨g, 2, none⟩ = some v2 ∧ w.cell? ⟨g, 3, none⟩ = some v3 ∧ w.cell? ⟨g, 4, none⟩ = some v4 ∧ w.cell? ⟨g, 5, none⟩ = some v5 ∧ w.cell? ⟨g, 6, none⟩ = some v6 ∧ w.cell? ⟨g, 7, none⟩ = some v7 ∧ w.cell? ⟨g, 8, none⟩ = some v8 ∧ w.cell? ⟨g, 9, none⟩ = some v9 ∧ w.cell? ⟨g, 10, none⟩ = some v10 ∧ w.cell? ⟨g, 11, none⟩ = some v11 ∧ w.cell? ⟨g, 12, none⟩ = some v12 :=
  ⟨cell_of_row w g 0 _ t (0, 0) h, cell_of_row w g 1 _ t (0, 0) h, cell_of_row w g 2 _ t (0, 0) h, cell_of_row w g 3 _ t (0, 0) h, cell_of_row w g 4 _ t (0, 0) h, cell_of_row w g 5 _ t (0, 0) h, cell_of_row w g 6 _ t (0, 0) h, cell_of_row w g 7 _ t (0, 0) h, cell_of_row w g 8 _ t (0, 0) h, cell_of_row w g 9 _ t (0, 0) h, cell_of_row w g 10 _ t (0, 0) h, cell_of_row w g 11 _ t (0, 0) h, cell_of_row w g 12 _ t (0, 0) h⟩
theorem cbOf {P : Program} {f : FuncId} {args : Array Value} {w : World} {v : Value} (h : Calls P f args w fun e w' => e = .returned v ∧ w = w') : Calls P f args w fun e w' => e = .returned v ∧ Below w.heap.size w w' := h.mono fun _ _ ⟨he, hw⟩ => ⟨he, by rw [← hw]; exact Below.refl _ _⟩
theorem cmpI_nz {x y : Int} (h : x ≠ y) : cmpI x y ≠ 0 := by
  by_cases h1 : x < y
  · rw [cmpI_lt h1]; omega
  · rw [cmpI_gt (by omega)]; omega
theorem cmpNs_same {x : Int} {l m : List Int} : cmpNs (x :: l) (x :: m) = cmpNs l m := by rw [cmpNs, if_pos (cmpI_eq x)]
theorem cmpNs_step {l m : List Int} {k : Nat} {x : Int} (hl : l[k]? = some x) (hm : m[k]? = some x) : cmpNs (l.drop k) (m.drop k) = cmpNs (l.drop (k + 1)) (m.drop (k + 1)) := by
  obtain ⟨h1, e1⟩ := List.getElem?_eq_some_iff.1 hl
  obtain ⟨h2, e2⟩ := List.getElem?_eq_some_iff.1 hm
  rw [List.drop_eq_getElem_cons h1, List.drop_eq_getElem_cons h2, e1, e2, cmpNs_same]
theorem cmpNs_at {l m : List Int} {k : Nat} {x y : Int} (hl : l[k]? = some x) (hm : m[k]? = some y) (h : x ≠ y) : cmpNs (l.drop k) (m.drop k) = cmpI x y := by
  obtain ⟨h1, e1⟩ := List.getElem?_eq_some_iff.1 hl
  obtain ⟨h2, e2⟩ := List.getElem?_eq_some_iff.1 hm
  rw [List.drop_eq_getElem_cons h1, List.drop_eq_getElem_cons h2, e1, e2, cmpNs, if_neg (cmpI_nz h)]
theorem cmpNs_long {l m : List Int} {k : Nat} (h1 : k < l.length) (h2 : m.length ≤ k) : cmpNs (l.drop k) (m.drop k) = 1 := by
  rw [List.drop_eq_getElem_cons h1, List.drop_eq_nil_of_le h2, cmpNs]
theorem cmpNs_short {l m : List Int} (h : l.length < m.length) : cmpNs (l.drop l.length) (m.drop l.length) = -1 := by
  rw [List.drop_length, List.drop_eq_getElem_cons h, cmpNs]
theorem cmpNs_done {l m : List Int} (h : ¬ l.length < m.length) : cmpNs (l.drop l.length) (m.drop l.length) = 0 := by
  rw [List.drop_length, List.drop_eq_nil_of_le (by omega), cmpNs]
set_option maxRecDepth 100000 in
set_option maxHeartbeats 4000000 in
theorem listU_any (l m : List Int) (u v : Value) (w : World) (hu : Rd w w.heap.size 1 u l.length (l.map (Value.int .u32))) (hv : Rd w w.heap.size 1 v m.length (m.map (Value.int .u32))) (hlen : l.length ≤ 4611686018427387904) :
    Calls Tryz.prog 18 #[u, v] w fun e w' => e = .returned (.int .i64 (cmpNs l m)) ∧ w = w' := by
  obtain ⟨A, c, rfl, hc⟩ := hu.form
  obtain ⟨A', c', rfl, hc'⟩ := hv.form
  have HU := Lib.hid hu
  have HV := Lib.hid hv
  clear hu hv
  have hC : Calls Tryz.prog 40 #[.slice A l.length c, .slice A' m.length c'] w fun e w' => e = .returned (.int .i64 (cmpNs l m)) ∧ w = w' := by
    go_enter Tryz.func40, Tryz.ntmps40
    go_wp2
    go_loop [5, 6, 7, 8, 11] (fun _ _ _ _ i => ∃ k : Nat, i = .int .i64 k ∧ k ≤ l.length ∧ Hid (cmpNs l m = cmpNs (l.drop k) (m.drop k))) (fun _ _ _ _ i => l.length - (intOf i).toNat)
    case atStart => exact ⟨0, rfl, by omega, rfl⟩
    case round =>
      obtain ⟨k, rfl, hk, HE⟩ := hrel
      by_cases hlt : k < l.length
      · have hI : (k : Int) < (l.length : Int) := by omega
        obtain ⟨x, hx⟩ : ∃ x, l[k]? = some x := ⟨_, List.getElem?_eq_getElem hlt⟩
        obtain ⟨b, off, d, hv, _, _, hcell⟩ := HU.out.posAt (by omega)
        injection hv with hv1 _ hv3
        subst hv1 hv3
        have c0 : w.cell? ⟨b, off + k, none⟩ = some (.int .u32 x) := by
          have := hcell k 0 (.int .u32 x) (by simp [hx])
          rwa [Nat.mul_one, Nat.add_zero] at this
        have HX := Lib.hid hx
        clear hcell hx
        by_cases hlm : k < m.length
        · have hJ : ¬ (m.length : Int) ≤ (k : Int) := by omega
          have hJ2 : (k : Int) < (m.length : Int) := by omega
          obtain ⟨y, hy⟩ : ∃ y, m[k]? = some y := ⟨_, List.getElem?_eq_getElem hlm⟩
          obtain ⟨b', off', d', hv', _, _, hcell'⟩ := HV.out.posAt (by omega)
          injection hv' with hv1' _ hv3'
          subst hv1' hv3'
          have c1 : w.cell? ⟨b', off' + k, none⟩ = some (.int .u32 y) := by
            have := hcell' k 0 (.int .u32 y) (by simp [hy])
            rwa [Nat.mul_one, Nat.add_zero] at this
          have HY := Lib.hid hy
          clear hcell' hy
          by_cases hxy : x = y
          · subst hxy
            have HE2 := Lib.hid (HE.out.trans (cmpNs_step HX.out HY.out))
            have hz := cmpI_eq x
            have hz2 : (cmpI x x != 0) = false := by rw [hz]; rfl
            go_wp2_with (go_at_call 54; refine (cmpU32_any x x _).mono ?_; rintro e w' ⟨rfl, rfl⟩)
            exact ⟨⟨k + 1, by go_num, by omega, HE2⟩, by simp only [intOf]; omega⟩
          · have HE2 := Lib.hid (HE.out.trans (cmpNs_at HX.out HY.out hxy))
            have hz2 : (cmpI x y != 0) = true := by simpa using cmpI_nz hxy
            clear hxy
            go_wp2_with (go_at_call 54; refine (cmpU32_any x y _).mono ?_; rintro e w' ⟨rfl, rfl⟩)
            go_ret
            exact ⟨ret_int HE2.out.symm, rfl⟩
        · have hJ : (m.length : Int) ≤ (k : Int) := by omega
          have HE2 := Lib.hid (HE.out.trans (cmpNs_long hlt (by omega)))
          go_wp2
          go_ret
          exact ⟨ret_int HE2.out.symm, rfl⟩
      · obtain rfl : k = l.length := by omega
        have hI : ¬ (l.length : Int) < (l.length : Int) := by omega
        by_cases hlm : l.length < m.length
        · have hJ : (l.length : Int) < (m.length : Int) := by omega
          have HE2 := Lib.hid (HE.out.trans (cmpNs_short hlm))
          go_wp2
          go_ret
          exact ⟨ret_int HE2.out.symm, rfl⟩
        · have hJ : ¬ (l.length : Int) < (m.length : Int) := by omega
          have HE2 := Lib.hid (HE.out.trans (cmpNs_done hlm))
          go_wp2
          go_ret
          exact ⟨ret_int HE2.out.symm, rfl⟩
  have HC := Lib.hid hC
  clear hC
  go_enter Tryz.func18, Tryz.ntmps18
  go_wp2_with fail
  refine HC.out.mono ?_
  rintro e w1 ⟨rfl, rfl⟩
  go_wp2
  go_ret
  exact ⟨rfl, rfl⟩
set_option maxRecDepth 100000 in
set_option maxHeartbeats 4000000 in
theorem listA_any (l m : List Int) (u v : Value) (w : World) (hu : Rd w w.heap.size 1 u l.length (l.map (Value.int .u32))) (hv : Rd w w.heap.size 1 v m.length (m.map (Value.int .u32))) (hlen : l.length ≤ 4611686018427387904) :
    Calls Tryz.prog 19 #[u, v] w fun e w' => e = .returned (.int .i64 (cmpNs l m)) ∧ w = w' := by
  obtain ⟨A, c, rfl, hc⟩ := hu.form
  obtain ⟨A', c', rfl, hc'⟩ := hv.form
  have HU := Lib.hid hu
  have HV := Lib.hid hv
  clear hu hv
  have hC : Calls Tryz.prog 41 #[.slice A l.length c, .slice A' m.length c'] w fun e w' => e = .returned (.int .i64 (cmpNs l m)) ∧ w = w' := by
    go_enter Tryz.func41, Tryz.ntmps41
    go_wp2
    go_loop [5, 6, 7, 8, 11] (fun _ _ _ _ i => ∃ k : Nat, i = .int .i64 k ∧ k ≤ l.length ∧ Hid (cmpNs l m = cmpNs (l.drop k) (m.drop k))) (fun _ _ _ _ i => l.length - (intOf i).toNat)
    case atStart => exact ⟨0, rfl, by omega, rfl⟩
    case round =>
      obtain ⟨k, rfl, hk, HE⟩ := hrel
      by_cases hlt : k < l.length
      · have hI : (k : Int) < (l.length : Int) := by omega
        obtain ⟨x, hx⟩ : ∃ x, l[k]? = some x := ⟨_, List.getElem?_eq_getElem hlt⟩
        obtain ⟨b, off, d, hv, _, _, hcell⟩ := HU.out.posAt (by omega)
        injection hv with hv1 _ hv3
        subst hv1 hv3
        have c0 : w.cell? ⟨b, off + k, none⟩ = some (.int .u32 x) := by
          have := hcell k 0 (.int .u32 x) (by simp [hx])
          rwa [Nat.mul_one, Nat.add_zero] at this
        have HX := Lib.hid hx
        clear hcell hx
        by_cases hlm : k < m.length
        · have hJ : ¬ (m.length : Int) ≤ (k : Int) := by omega
          have hJ2 : (k : Int) < (m.length : Int) := by omega
          obtain ⟨y, hy⟩ : ∃ y, m[k]? = some y := ⟨_, List.getElem?_eq_getElem hlm⟩
          obtain ⟨b', off', d', hv', _, _, hcell'⟩ := HV.out.posAt (by omega)
          injection hv' with hv1' _ hv3'
          subst hv1' hv3'
          have c1 : w.cell? ⟨b', off' + k, none⟩ = some (.int .u32 y) := by
            have := hcell' k 0 (.int .u32 y) (by simp [hy])
            rwa [Nat.mul_one, Nat.add_zero] at this
          have HY := Lib.hid hy
          clear hcell' hy
          by_cases hxy : x = y
          · subst hxy
            have HE2 := Lib.hid (HE.out.trans (cmpNs_step HX.out HY.out))
            have hz := cmpI_eq x
            have hz2 : (cmpI x x != 0) = false := by rw [hz]; rfl
            go_wp2_with (go_at_call 15; refine (cmpAddr_any x x _).mono ?_; rintro e w' ⟨rfl, rfl⟩)
            exact ⟨⟨k + 1, by go_num, by omega, HE2⟩, by simp only [intOf]; omega⟩
          · have HE2 := Lib.hid (HE.out.trans (cmpNs_at HX.out HY.out hxy))
            have hz2 : (cmpI x y != 0) = true := by simpa using cmpI_nz hxy
            clear hxy
            go_wp2_with (go_at_call 15; refine (cmpAddr_any x y _).mono ?_; rintro e w' ⟨rfl, rfl⟩)
            go_ret
            exact ⟨ret_int HE2.out.symm, rfl⟩
        · have hJ : (m.length : Int) ≤ (k : Int) := by omega
          have HE2 := Lib.hid (HE.out.trans (cmpNs_long hlt (by omega)))
          go_wp2
          go_ret
          exact ⟨ret_int HE2.out.symm, rfl⟩
      · obtain rfl : k = l.length := by omega
        have hI : ¬ (l.length : Int) < (l.length : Int) := by omega
        by_cases hlm : l.length < m.length
        · have hJ : (l.length : Int) < (m.length : Int) := by omega
          have HE2 := Lib.hid (HE.out.trans (cmpNs_short hlm))
          go_wp2
          go_ret
          exact ⟨ret_int HE2.out.symm, rfl⟩
        · have hJ : ¬ (l.length : Int) < (m.length : Int) := by omega
          have HE2 := Lib.hid (HE.out.trans (cmpNs_done hlm))
          go_wp2
          go_ret
          exact ⟨ret_int HE2.out.symm, rfl⟩
  have HC := Lib.hid hC
  clear hC
  go_enter Tryz.func19, Tryz.ntmps19
  go_wp2_with fail
  refine HC.out.mono ?_
  rintro e w1 ⟨rfl, rfl⟩
  go_wp2
  go_ret
  exact ⟨rfl, rfl⟩
set_option maxRecDepth 100000 in
set_option maxHeartbeats 8000000 in
theorem cmpAdvert_any (r s : AvV) (vp vo vl up uo ul : Value) (w : World) (hp : Rd w w.heap.size 1 vp r.pa.length (r.pa.map (Value.int .u32))) (ho : Rd w w.heap.size 1 vo r.co.length (r.co.map (Value.int .u32))) (hl : Rd w w.heap.size 1 vl r.cl.length (r.cl.map (Value.int .u32)))
    (gp : Rd w w.heap.size 1 up s.pa.length (s.pa.map (Value.int .u32))) (go : Rd w w.heap.size 1 uo s.co.length (s.co.map (Value.int .u32))) (gl : Rd w w.heap.size 1 ul s.cl.length (s.cl.map (Value.int .u32))) (h1 : r.pa.length ≤ 4611686018427387904) (h2 : r.co.length ≤ 4611686018427387904) (h3 : r.cl.length ≤ 4611686018427387904) :
    Calls Tryz.prog 6 #[.agg #[.int .u32 r.a, .int .i64 r.m, .int .u32 r.ho, .int .i64 r.pf, .int .i64 r.me, vp, vo, .int .u32 r.pe, .int .u32 r.id, .bool r.ex, .int .u32 r.og, vl, .int .i64 r.ss], .agg #[.int .u32 s.a, .int .i64 s.m, .int .u32 s.ho, .int .i64 s.pf, .int .i64 s.me, up, uo, .int .u32 s.pe, .int .u32 s.id, .bool s.ex, .int .u32 s.og, ul, .int .i64 s.ss]] w fun e w' => e = .returned (.int .i64 (cmpA r s)) ∧ Below w.heap.size w w' := by
  have hb0 := below2 w (.cells #[.int .u32 r.a, .int .i64 r.m, .int .u32 r.ho, .int .i64 r.pf, .int .i64 r.me, vp, vo, .int .u32 r.pe, .int .u32 r.id, .bool r.ex, .int .u32 r.og, vl, .int .i64 r.ss] 32) (.cells #[.int .u32 s.a, .int .i64 s.m, .int .u32 s.ho, .int .i64 s.pf, .int .i64 s.me, up, uo, .int .u32 s.pe, .int .u32 s.id, .bool s.ex, .int .u32 s.og, ul, .int .i64 s.ss] 32)
  obtain ⟨k0, k1⟩ := blk2 w (.cells #[.int .u32 r.a, .int .i64 r.m, .int .u32 r.ho, .int .i64 r.pf, .int .i64 r.me, vp, vo, .int .u32 r.pe, .int .u32 r.id, .bool r.ex, .int .u32 r.og, vl, .int .i64 r.ss] 32) (.cells #[.int .u32 s.a, .int .i64 s.m, .int .u32 s.ho, .int .i64 s.pf, .int .i64 s.me, up, uo, .int .u32 s.pe, .int .u32 s.id, .bool s.ex, .int .u32 s.og, ul, .int .i64 s.ss] 32)
  obtain ⟨c0, c1, c2, c3, c4, c5, c6, c7, c8, c9, c10, c11, c12⟩ := cblk13 k0
  obtain ⟨d0, d1, d2, d3, d4, d5, d6, d7, d8, d9, d10, d11, d12⟩ := cblk13 k1
  have KO := Lib.hid (fun n v w h hn => cmpOr_any n v w h hn)
  go_enter Tryz.func6, Tryz.ntmps6
  go_upto_region 1 with fail
  clear k0 k1
  generalize (w.alloc (.cells #[.int .u32 r.a, .int .i64 r.m, .int .u32 r.ho, .int .i64 r.pf, .int .i64 r.me, vp, vo, .int .u32 r.pe, .int .u32 r.id, .bool r.ex, .int .u32 r.og, vl, .int .i64 r.ss] 32)).alloc (.cells #[.int .u32 s.a, .int .i64 s.m, .int .u32 s.ho, .int .i64 s.pf, .int .i64 s.me, up, uo, .int .u32 s.pe, .int .u32 s.id, .bool s.ex, .int .u32 s.og, ul, .int .i64 s.ss] 32) = W at *
  have KP := Lib.hid (show ∀ d os, Calls Tryz.prog 18 #[vp, up] (grow (redrawn W d) os) _ from fun d os => cbOf (listU_any r.pa s.pa vp up _ ((hp.below (hb0.trans ((below_regrown W d os).mono hb0.size))).mono (hb0.trans ((below_regrown W d os).mono hb0.size)).size) ((gp.below (hb0.trans ((below_regrown W d os).mono hb0.size))).mono (hb0.trans ((below_regrown W d os).mono hb0.size)).size) h1))
  have KC := Lib.hid (show ∀ d os, Calls Tryz.prog 18 #[vo, uo] (grow (redrawn W d) os) _ from fun d os => cbOf (listU_any r.co s.co vo uo _ ((ho.below (hb0.trans ((below_regrown W d os).mono hb0.size))).mono (hb0.trans ((below_regrown W d os).mono hb0.size)).size) ((go.below (hb0.trans ((below_regrown W d os).mono hb0.size))).mono (hb0.trans ((below_regrown W d os).mono hb0.size)).size) h2))
  have KL := Lib.hid (show ∀ d os, Calls Tryz.prog 19 #[vl, ul] (grow (redrawn W d) os) _ from fun d os => cbOf (listA_any r.cl s.cl vl ul _ ((hl.below (hb0.trans ((below_regrown W d os).mono hb0.size))).mono (hb0.trans ((below_regrown W d os).mono hb0.size)).size) ((gl.below (hb0.trans ((below_regrown W d os).mono hb0.size))).mono (hb0.trans ((below_regrown W d os).mono hb0.size)).size) h3))
  have KQ := Lib.hid (show ∀ V : World, Calls Tryz.prog 12 #[.agg #[.int .u32 r.a, .int .i64 r.m], .agg #[.int .u32 s.a, .int .i64 s.m]] V _ from fun V => (cmpPrefix_any r.a s.a r.m s.m V).mono fun e w' (h : _ ∧ GR V w') => (⟨h.1, h.2.below⟩ : _ ∧ Below V.heap.size V w'))
  clear hp ho hl gp go gl h1 h2 h3
  have F0 := cell_regrown c0
  have G0 := cell_regrown d0
  have F1 := cell_regrown c1
  have G1 := cell_regrown d1
  have F2 := cell_regrown c2
  have G2 := cell_regrown d2
  have F3 := cell_regrown c3
  have G3 := cell_regrown d3
  have F4 := cell_regrown c4
  have G4 := cell_regrown d4
  have F5 := cell_regrown c5
  have G5 := cell_regrown d5
  have F6 := cell_regrown c6
  have G6 := cell_regrown d6
  have F7 := cell_regrown c7
  have G7 := cell_regrown d7
  have F8 := cell_regrown c8
  have G8 := cell_regrown d8
  have F9 := cell_regrown c9
  have G9 := cell_regrown d9
  have F10 := cell_regrown c10
  have G10 := cell_regrown d10
  have F11 := cell_regrown c11
  have G11 := cell_regrown d11
  have F12 := cell_regrown c12
  have G12 := cell_regrown d12
  refine wp_region_tail_below 60 (by kernel_rfl) (by kernel_rfl) ?_
  simp only [List.take_succ_cons, List.take_zero, List.drop_succ_cons, List.drop_zero]
  repeat (first | go_big_quiet_step ((first | (go_at_call 15; with_reducible exact Calls.regrown_of (cbOf (cmpAddr_any _ _ _))) | (go_at_call 14; with_reducible exact Calls.regrown_of (cbOf (cmpInt_any _ _ _))) | (go_at_call 12; with_reducible exact Calls.regrown_of (KQ.out _)) | (go_at_call 17; with_reducible exact Calls.regrown_of (cbOf (cmpBool_any _ _ _))) | (go_at_call 18; with_reducible exact Calls.regrown_of (KP.out _ _)) | (go_at_call 18; with_reducible exact Calls.regrown_of (KC.out _ _)) | (go_at_call 19; with_reducible exact Calls.regrown_of (KL.out _ _)))) | quiet_step ((first | (go_at_call 15; with_reducible exact Calls.regrown_of (cbOf (cmpAddr_any _ _ _))) | (go_at_call 14; with_reducible exact Calls.regrown_of (cbOf (cmpInt_any _ _ _))) | (go_at_call 12; with_reducible exact Calls.regrown_of (KQ.out _)) | (go_at_call 17; with_reducible exact Calls.regrown_of (cbOf (cmpBool_any _ _ _))) | (go_at_call 18; with_reducible exact Calls.regrown_of (KP.out _ _)) | (go_at_call 18; with_reducible exact Calls.regrown_of (KC.out _ _)) | (go_at_call 19; with_reducible exact Calls.regrown_of (KL.out _ _)))))
  refine wpQuiet_nil ?_
  intro W3 hw'
  obtain ⟨⟨nq, osq⟩, hw''⟩ := hw'
  have hb3 := hw'' ▸ below_regrown W nq osq
  clear hw''
  have hb4 := below_call hb0 hb3
  clear F0 G0 c0 d0 F1 G1 c1 d1 F2 G2 c2 d2 F3 G3 c3 d3 F4 G4 c4 d4 F5 G5 c5 d5 F6 G6 c6 d6 F7 G7 c7 d7 F8 G8 c8 d8 F9 G9 c9 d9 F10 G10 c10 d10 F11 G11 c11 d11 F12 G12 c12 d12 KP KC KL KQ
  go_wp2_with fail
  refine (KO.out [firstNZ [cmpI r.a s.a, cmpI r.m s.m], cmpI r.ss s.ss, cmpI r.pf s.pf, cmpI r.me s.me, cmpI r.ho s.ho, cmpI r.pe s.pe, cmpI r.id s.id, cmpB r.ex s.ex, cmpI r.og s.og, cmpNs r.pa s.pa, cmpNs r.co s.co, cmpNs r.cl s.cl] _ _ (Rd.of_blk (cs := #[.int .i64 (firstNZ [cmpI r.a s.a, cmpI r.m s.m]), .int .i64 (cmpI r.ss s.ss), .int .i64 (cmpI r.pf s.pf), .int .i64 (cmpI r.me s.me), .int .i64 (cmpI r.ho s.ho), .int .i64 (cmpI r.pe s.pe), .int .i64 (cmpI r.id s.id), .int .i64 (cmpB r.ex s.ex), .int .i64 (cmpI r.og s.og), .int .i64 (cmpNs r.pa s.pa), .int .i64 (cmpNs r.co s.co), .int .i64 (cmpNs r.cl s.cl)]) (t := 3) (heap_alloc_new _ _) (Nat.le_refl _) rfl) (by simp)).mono ?_
  rintro e w4 ⟨rfl, rfl⟩
  have hb5 := hb4.alloc hb4.size (.cells #[.int .i64 (firstNZ [cmpI r.a s.a, cmpI r.m s.m]), .int .i64 (cmpI r.ss s.ss), .int .i64 (cmpI r.pf s.pf), .int .i64 (cmpI r.me s.me), .int .i64 (cmpI r.ho s.ho), .int .i64 (cmpI r.pe s.pe), .int .i64 (cmpI r.id s.id), .int .i64 (cmpB r.ex s.ex), .int .i64 (cmpI r.og s.og), .int .i64 (cmpNs r.pa s.pa), .int .i64 (cmpNs r.co s.co), .int .i64 (cmpNs r.cl s.cl)] 3)
  go_wp2
  go_ret
  exact ⟨rfl, hb5⟩
end Go.Proofs.YtlhafehhkjjchaaGreatDoor

/-
  The order of routes: plain laws; no walk.
-/
namespace Go.Proofs.YtlhafehhkjjchaaGreatDoor
open Go Go.RowKit Go.Sort

/-- A comparison by -, 0, +: it may be turned about, and what is not above goes on. -/
structure Ord3 {α : Type} (f : α → α → Int) : Prop where
  anti : ∀ x y, f x y = - f y x
  tr : ∀ x y z, f x y ≤ 0 → f y z ≤ 0 → f x z ≤ 0
theorem Ord3.self {α : Type} {f : α → α → Int} (h : Ord3 f) (x : α) : f x x = 0 := by have := h.anti x x; omega
theorem Ord3.zero {α : Type} {f : α → α → Int} (h : Ord3 f) {x y z : α} (h1 : f x y = 0) (h2 : f y z = 0) : f x z = 0 := by
  have a := h.tr x y z (by omega) (by omega)
  have h3 := h.anti x y
  have h4 := h.anti y z
  have b := h.tr z y x (by omega) (by omega)
  have h5 := h.anti x z
  omega
theorem Ord3.lt {α : Type} {f : α → α → Int} (h : Ord3 f) {x y z : α} (h1 : f x y < 0) (h2 : f y z ≤ 0) : f x z < 0 := by
  by_cases h3 : f x z < 0
  · exact h3
  · have h4 := h.anti x z
    have h5 := h.tr y z x h2 (by omega)
    have h6 := h.anti x y
    omega
theorem Ord3.lt' {α : Type} {f : α → α → Int} (h : Ord3 f) {x y z : α} (h1 : f x y ≤ 0) (h2 : f y z < 0) : f x z < 0 := by
  by_cases h3 : f x z < 0
  · exact h3
  · have h4 := h.anti x z
    have h5 := h.tr z x y (by omega) h1
    have h6 := h.anti y z
    omega
theorem Ord3.on {α β : Type} {f : α → α → Int} (h : Ord3 f) (g : β → α) : Ord3 (fun x y => f (g x) (g y)) := ⟨fun _ _ => h.anti _ _, fun _ _ _ => h.tr _ _ _⟩
theorem ord3_zero {α : Type} : Ord3 (fun (_ _ : α) => (0 : Int)) := ⟨fun _ _ => rfl, fun _ _ _ _ _ => Int.le_refl _⟩
theorem Ord3.cons {α : Type} {f g : α → α → Int} (hf : Ord3 f) (hg : Ord3 g) : Ord3 (fun x y => if f x y = 0 then g x y else f x y) := by
  refine ⟨fun x y => ?_, fun x y z h1 h2 => ?_⟩
  · have := hf.anti x y
    have := hg.anti x y
    show (if f x y = 0 then g x y else f x y) = - (if f y x = 0 then g y x else f y x)
    by_cases h : f x y = 0
    · rw [if_pos h, if_pos (by omega)]; omega
    · rw [if_neg h, if_neg (by omega)]; omega
  · replace h1 : (if f x y = 0 then g x y else f x y) ≤ 0 := h1
    replace h2 : (if f y z = 0 then g y z else f y z) ≤ 0 := h2
    show (if f x z = 0 then g x z else f x z) ≤ 0
    by_cases e1 : f x y = 0
    · rw [if_pos e1] at h1
      by_cases e2 : f y z = 0
      · rw [if_pos e2] at h2
        rw [if_pos (hf.zero e1 e2)]
        exact hg.tr _ _ _ h1 h2
      · rw [if_neg e2] at h2
        have := hf.lt' (x := x) (y := y) (z := z) (by omega) (by omega)
        rw [if_neg (by omega)]; omega
    · rw [if_neg e1] at h1
      have h3 : f y z ≤ 0 := by
        by_cases e2 : f y z = 0
        · omega
        · rw [if_neg e2] at h2; exact h2
      have := hf.lt (x := x) (y := y) (z := z) (by omega) h3
      rw [if_neg (by omega)]; omega
theorem ord3_I : Ord3 cmpI := by
  refine ⟨fun x y => ?_, fun x y z h1 h2 => ?_⟩
  · unfold cmpI; split <;> split <;> omega
  · unfold cmpI at *; split at h1 <;> split at h2 <;> (repeat' split) <;> first | omega | (split at h1 <;> omega) | (split at h2 <;> omega)
theorem cmpI_zero {x y : Int} : cmpI x y = 0 ↔ x = y := by
  constructor
  · intro h; unfold cmpI at h; split at h
    · omega
    · split at h <;> omega
  · rintro rfl; exact cmpI_eq x
theorem ord3_B : Ord3 cmpB := ⟨fun x y => by cases x <;> cases y <;> rfl, fun x y z => by cases x <;> cases y <;> cases z <;> simp [cmpB]⟩
theorem cmpB_zero {x y : Bool} : cmpB x y = 0 ↔ x = y := by cases x <;> cases y <;> simp [cmpB]
theorem bl_irrefl : ∀ x : List UInt8, Op.bytesLess x x = false
  | [] => rfl
  | a :: x => by
    have h : ¬ a < a := UInt8.lt_irrefl a
    simp [Op.bytesLess, bl_irrefl x, h]
theorem bl_trans : ∀ x y z : List UInt8, Op.bytesLess x y = true → Op.bytesLess y z = true → Op.bytesLess x z = true
  | [], [], _, h, _ => by simp [Op.bytesLess] at h
  | [], _ :: _, [], _, h => by simp [Op.bytesLess] at h
  | [], _ :: _, _ :: _, _, _ => rfl
  | _ :: _, [], _, h, _ => by simp [Op.bytesLess] at h
  | _ :: _, _ :: _, [], _, h => by simp [Op.bytesLess] at h
  | a :: x, b :: y, c :: z, h1, h2 => by
    simp only [Op.bytesLess, Bool.or_eq_true, decide_eq_true_eq, Bool.and_eq_true, beq_iff_eq] at *
    rcases h1 with h1 | ⟨rfl, h1⟩
    · rcases h2 with h2 | ⟨rfl, h2⟩
      · exact .inl (UInt8.lt_trans h1 h2)
      · exact .inl h1
    · rcases h2 with h2 | ⟨rfl, h2⟩
      · exact .inl h2
      · exact .inr ⟨rfl, bl_trans x y z h1 h2⟩
theorem bl_total : ∀ x y : List UInt8, Op.bytesLess x y = false → Op.bytesLess y x = false → x = y
  | [], [], _, _ => rfl
  | [], _ :: _, h, _ => by simp [Op.bytesLess] at h
  | _ :: _, [], _, h => by simp [Op.bytesLess] at h
  | a :: x, b :: y, h1, h2 => by
    simp only [Op.bytesLess, Bool.or_eq_false_iff, decide_eq_false_iff_not, Bool.and_eq_false_iff] at *
    have e : a = b := by
      have h3 := h1.1
      have h4 := h2.1
      rw [UInt8.lt_iff_toNat_lt] at h3 h4
      exact UInt8.toNat_inj.1 (by omega)
    subst e
    rw [bl_total x y (by simpa using h1.2) (by simpa using h2.2)]
theorem str_eq_of {s t : ByteArray} (h : s.toList = t.toList) : s = t := by
  rw [Go.ByteArray.toList_eq, Go.ByteArray.toList_eq] at h
  exact ByteArray.ext (Array.toList_inj.mp h)
theorem cmpSt_le {s t : ByteArray} : cmpSt s t ≤ 0 ↔ Op.bytesLess s.toList t.toList = true ∨ s = t := by
  unfold cmpSt
  by_cases h1 : Op.bytesLess s.toList t.toList = true
  · rw [if_pos h1]; simp [h1]
  · rw [if_neg h1]
    by_cases h2 : s = t
    · subst h2; simp
    · have : ¬ (s.toList == t.toList) = true := fun h => h2 (str_eq_of (by simpa using h))
      rw [if_neg this]; simp [h1, h2]
theorem cmpSt_zero {s t : ByteArray} : cmpSt s t = 0 ↔ s = t := by
  unfold cmpSt
  by_cases h1 : Op.bytesLess s.toList t.toList = true
  · rw [if_pos h1]
    constructor
    · intro h; omega
    · rintro rfl; rw [bl_irrefl] at h1; cases h1
  · rw [if_neg h1]
    by_cases h2 : s = t
    · subst h2; simp
    · have : ¬ (s.toList == t.toList) = true := fun h => h2 (str_eq_of (by simpa using h))
      rw [if_neg this]; simp [h2]
theorem ord3_S : Ord3 cmpSt := by
  refine ⟨fun x y => ?_, fun x y z h1 h2 => ?_⟩
  · unfold cmpSt
    cases h1 : Op.bytesLess x.toList y.toList with
    | true =>
      have h2 : Op.bytesLess y.toList x.toList = false := by
        cases h : Op.bytesLess y.toList x.toList with
        | false => rfl
        | true => have := bl_trans _ _ _ h1 h; rw [bl_irrefl] at this; cases this
      have h3 : (y.toList == x.toList) = false := by
        cases h : (y.toList == x.toList) with
        | false => rfl
        | true =>
          have e : y.toList = x.toList := by simpa using h
          rw [e, bl_irrefl] at h1; cases h1
      simp [h2, h3]
    | false =>
      cases h2 : Op.bytesLess y.toList x.toList with
      | true =>
        have h3 : (x.toList == y.toList) = false := by
          cases h : (x.toList == y.toList) with
          | false => rfl
          | true =>
            have e : x.toList = y.toList := by simpa using h
            rw [e, bl_irrefl] at h2; cases h2
        simp [h3]
      | false =>
        have e := bl_total _ _ h1 h2
        simp [e]
  · rw [cmpSt_le] at *
    rcases h1 with h1 | rfl
    · rcases h2 with h2 | rfl
      · exact .inl (bl_trans _ _ _ h1 h2)
      · exact .inl h1
    · exact h2
theorem firstNZ_cons (x : Int) (l : List Int) : firstNZ (x :: l) = if x = 0 then firstNZ l else x := rfl
theorem ord3_R : Ord3 cmpR := by
  have h0 := ord3_zero (α := RouteV)
  have hp : Ord3 (fun (r s : RouteV) => firstNZ [cmpI r.a s.a, cmpI r.m s.m]) := (ord3_I.on RouteV.a).cons ((ord3_I.on RouteV.m).cons h0)
  exact hp.cons ((ord3_I.on RouteV.fr).cons ((ord3_I.on RouteV.di).cons ((ord3_I.on RouteV.me).cons ((ord3_I.on RouteV.ta).cons ((ord3_I.on RouteV.ho).cons ((ord3_S.on RouteV.nm).cons ((ord3_B.on RouteV.dc).cons h0)))))))
theorem nz_cons {x : Int} {l : List Int} : firstNZ (x :: l) = 0 ↔ x = 0 ∧ firstNZ l = 0 := by
  rw [firstNZ_cons]
  by_cases h : x = 0
  · rw [if_pos h]; simp [h]
  · rw [if_neg h]; simp [h]
theorem cmpR_zero {r s : RouteV} : cmpR r s = 0 ↔ r = s := by
  unfold cmpR
  rw [nz_cons, nz_cons, nz_cons, nz_cons, nz_cons, nz_cons, nz_cons, nz_cons, nz_cons, nz_cons]
  simp only [cmpI_zero, cmpB_zero, cmpSt_zero]
  constructor
  · rintro ⟨⟨h1, h2, _⟩, h3, h4, h5, h6, h7, h8, h9, _⟩
    cases r; cases s; simp_all
  · rintro rfl
    simp [firstNZ]
theorem swoR : SWO (ltOf cmpR) where
  irrefl x := by unfold ltOf; rw [ord3_R.self]; rfl
  trans x y z h1 h2 := by unfold ltOf at *; simp only [decide_eq_true_eq] at *; exact ord3_R.lt h1 (by omega)
  ntrans x y z h1 h2 := by
    unfold ltOf at *
    simp only [decide_eq_false_iff_not] at *
    have a1 := ord3_R.anti x y
    have a2 := ord3_R.anti y z
    have a3 := ord3_R.anti x z
    have := ord3_R.tr z y x (by omega) (by omega)
    omega

/-- In order, each once. -/
def Up (L : List RouteV) : Prop := L.Pairwise (fun x y => cmpR x y < 0)
theorem up_unique : ∀ {L M : List RouteV}, Up L → Up M → (∀ x, x ∈ L ↔ x ∈ M) → L = M
  | [], [], _, _, _ => rfl
  | [], y :: M, _, _, h => by have := (h y).2 (List.mem_cons_self ..); simp at this
  | x :: L, [], _, _, h => by have := (h x).1 (List.mem_cons_self ..); simp at this
  | x :: L, y :: M, hL, hM, h => by
    unfold Up at *
    obtain ⟨hx, hL'⟩ := List.pairwise_cons.1 hL
    obtain ⟨hy, hM'⟩ := List.pairwise_cons.1 hM
    have e : x = y := by
      rcases List.mem_cons.1 ((h x).1 (List.mem_cons_self ..)) with e | e
      · exact e
      · rcases List.mem_cons.1 ((h y).2 (List.mem_cons_self ..)) with e2 | e2
        · exact e2.symm
        · have h1 := hy x e
          have h2 := hx y e2
          have := ord3_R.anti x y
          omega
    subst e
    rw [up_unique hL' hM' (fun z => ?_)]
    have hz := h z
    constructor
    · intro hm
      rcases List.mem_cons.1 (hz.1 (List.mem_cons_of_mem _ hm)) with e | e
      · subst e
        have h1 := hx z hm
        have := ord3_R.self z
        omega
      · exact e
    · intro hm
      rcases List.mem_cons.1 (hz.2 (List.mem_cons_of_mem _ hm)) with e | e
      · subst e
        have h1 := hy z hm
        have := ord3_R.self z
        omega
      · exact e
/-- S is l in order, each once. -/
def Sorted (l S : List RouteV) : Prop := Up S ∧ ∀ x, x ∈ S ↔ x ∈ l
theorem Sorted.eq {l S T : List RouteV} (h : Sorted l S) (k : Sorted l T) : S = T := up_unique h.1 k.1 (fun x => (h.2 x).trans (k.2 x).symm)
end Go.Proofs.YtlhafehhkjjchaaGreatDoor

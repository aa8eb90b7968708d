/-
  Joined texts: Re4, RwK2, Rw12, Rw12b, Rw13, Rw14, Rx1, Rx2, Rx3, Rx4, RwLaw, RkM, Kit5, RkS, Rx5, Rx6.
-/
import Derived.Test.YtdjikiakcfbklaaGreatMRewriteNames12
import Derived.Test.YtdjikiakcfbklaaGreatMRewriteNames11
import Derived.Laws.ResultCell
import Derived.Laws.Rows
import Derived.Deep.DeepCutAuto
import Derived.Test.YtdjikiakcfbklaaGreatMRewriteNames5
import Derived.Laws.OwnMore
import Derived.Test.YtdjikiakcfbklaaGreatMRewriteNames6
import Derived.Laws.AppendOwnNone
import Derived.Deep.RegionLawGrows
import Derived.Laws.MakeOwn
/-
  Whether a relation leads from a header to another one; the refusals (written by wip/gen/genre4.py).
-/
namespace Go.Proofs.YtdjikiakcfbklaaGreat
open Go Go.RowKit Go.ChangeMaps Go.MapKept Go.Maps Go.Lib Go.Sort

section
variable {w : World} {B S km : Nat} {A : Blks} {Mo : Nat} {σ : Sg}
set_option maxRecDepth 100000
set_option maxHeartbeats 2000000
theorem has_no (h : SpOk w B S km A Mo σ) (x : Int) (hx : I64 x) (ok : ¬ AllNum σ [x] []) (hd : Hd) :
    Calls Tryz.prog 19 #[.pointer (some ⟨S, 0, none⟩), .int .i64 x, .agg #[.int .u32 hd.src, .int .u32 hd.dst, .int .u8 hd.proto, .int .u16 hd.sp, .int .u16 hd.dp]] w (AskRes w B S km A Mo σ (.tuple #[.bool false, .int .i64 1])) := by
  have hW : w.alloc (.cells #[.int .u32 hd.src, .int .u32 hd.dst, .int .u8 hd.proto, .int .u16 hd.sp, .int .u16 hd.dp] 28) = w.alloc hd.cells := rfl
  have hbw := below1 w hd.cells
  have HCK := Lib.hid ((h.below hbw).check1 x hx)
  have HK0 := Lib.hid (h.kept hbw)
  clear h hbw
  go_enter Tryz.func19, Tryz.ntmps19
  go_upto_region 1 with fail
  clear hW
  generalize w.alloc hd.cells = w0 at *
  go_wp2_with ((with_reducible refine HCK.out.mono ?_); rintro e W2 hr; obtain ⟨he, K, hs2, hk2⟩ := hr.no ok; subst he; have HS2 := Lib.hid hs2; have HK2 := Lib.hid hk2; clear hr hs2 hk2)
  go_ret2
  exact ⟨rfl, K, HS2.out, HK0.out.trans HK2.out⟩
theorem leads_no (h : SpOk w B S km A Mo σ) (x : Int) (hx : I64 x) (ok : ¬ AllNum σ [] [x]) (hd hg : Hd) :
    Calls Tryz.prog 24 #[.pointer (some ⟨S, 0, none⟩), .int .i64 x, .agg #[.int .u32 hd.src, .int .u32 hd.dst, .int .u8 hd.proto, .int .u16 hd.sp, .int .u16 hd.dp], .agg #[.int .u32 hg.src, .int .u32 hg.dst, .int .u8 hg.proto, .int .u16 hg.sp, .int .u16 hg.dp]] w (AskRes w B S km A Mo σ (.tuple #[.bool false, .int .i64 1])) := by
  have hW : (w.alloc (.cells #[.int .u32 hd.src, .int .u32 hd.dst, .int .u8 hd.proto, .int .u16 hd.sp, .int .u16 hd.dp] 28)).alloc (.cells #[.int .u32 hg.src, .int .u32 hg.dst, .int .u8 hg.proto, .int .u16 hg.sp, .int .u16 hg.dp] 28) = (w.alloc hd.cells).alloc hg.cells := rfl
  have hbw := below2 w hd.cells hg.cells
  have HCK := Lib.hid ((h.below hbw).checkN1 x hx)
  have HK0 := Lib.hid (h.kept hbw)
  clear h hbw
  go_enter Tryz.func24, Tryz.ntmps24
  go_upto_region 1 with fail
  clear hW
  generalize (w.alloc hd.cells).alloc hg.cells = w0 at *
  go_wp2_with ((with_reducible refine HCK.out.mono ?_); rintro e W2 hr; obtain ⟨he, K, hs2, hk2⟩ := hr.no ok; subst he; have HS2 := Lib.hid hs2; have HK2 := Lib.hid hk2; clear hr hs2 hk2)
  go_ret2
  exact ⟨rfl, K, HS2.out, HK0.out.trans HK2.out⟩
theorem leads_yes (h : SpOk w B S km A Mo σ) {f : Nat} {F : Fun} (hf : Den σ f F) (hd hg : Hd) (ho : hd.ok) (hgo : hg.ok) :
    Calls Tryz.prog 24 #[.pointer (some ⟨S, 0, none⟩), .int .i64 f, .agg #[.int .u32 hd.src, .int .u32 hd.dst, .int .u8 hd.proto, .int .u16 hd.sp, .int .u16 hd.dp], .agg #[.int .u32 hg.src, .int .u32 hg.dst, .int .u8 hg.proto, .int .u16 hg.sp, .int .u16 hg.dp]] w (AskRes w B S km A Mo σ (.tuple #[.bool (F (bothS hd hg)), .int .i64 0])) := by
  have hfl := hf.lt64 h.ok
  have hW : (w.alloc (.cells #[.int .u32 hd.src, .int .u32 hd.dst, .int .u8 hd.proto, .int .u16 hd.sp, .int .u16 hd.dp] 28)).alloc (.cells #[.int .u32 hg.src, .int .u32 hg.dst, .int .u8 hg.proto, .int .u16 hg.sp, .int .u16 hg.dp] 28) = (w.alloc hd.cells).alloc hg.cells := rfl
  have hbw := below2 w hd.cells hg.cells
  have hs1 : (w.alloc hd.cells).heap.size = w.heap.size + 1 := by simp
  have hbk := blk_below (below1 (w.alloc hd.cells) hg.cells) (blk1 w hd.cells)
  have hbk2 := blk1 (w.alloc hd.cells) hg.cells
  rw [hs1] at hbk2
  have HFO := Lib.hid (And.intro (h.sp.ar.foreign_new hbw (Nat.le_refl _) (lt_of_block hbk)) (h.sp.ar.foreign_new hbw (show w.heap.size ≤ w.heap.size + 1 by omega) (lt_of_block hbk2)))
  have HNE : Hid (w.heap.size ≠ km ∧ w.heap.size + 1 ≠ km) := Lib.hid (by have := h.sp.fk.1; omega)
  have HBK := Lib.hid (And.intro hbk hbk2)
  have HCK := Lib.hid ((h.below hbw).checkN1 f (by unfold I64; omega))
  have HK0 := Lib.hid (h.kept hbw)
  have HA := Lib.hid hf
  have HH := Lib.hid (And.intro ho hgo)
  have hmk := mkBools
  clear h hbw hbk hbk2 hf ho hgo hs1
  go_enter Tryz.func24, Tryz.ntmps24
  go_upto_region 1 with fail
  clear hW
  generalize (w.alloc hd.cells).alloc hg.cells = w0 at *
  go_upto_region 4 with ((with_reducible refine HCK.out.mono ?_); rintro e W2 hr; obtain ⟨he, K, hs2, hk2⟩ := hr.yes (allOkN1 HA.out); subst he; have HS2 := Lib.hid hs2; have HK2 := Lib.hid hk2; clear hr hs2 hk2)
  go_upto_region 5 with fail
  have HB3 := Lib.hid (boolsW_below W2)
  have HR3 := Lib.hid (boolsW_row W2)
  have hls := lt_of_block HS2.out.sp.cells
  have HF3 := Lib.hid (HS2.out.sp.ar.foreign_new HB3.out (Nat.le_refl _) (lt_of_block HR3.out))
  have HN3 : Hid (W2.heap.size ≠ km ∧ W2.heap.size ≠ S) := Lib.hid (by have := HS2.out.sp.fk.1; omega)
  have HS3 := Lib.hid (HS2.out.below HB3.out)
  have HK3 := Lib.hid (HK0.out.trans (HK2.out.trans (HS2.out.kept HB3.out)))
  have hk3 := blk_below HB3.out ((HK2.out.same _ HFO.out.1 HNE.out.1).1.trans HBK.out.1)
  have hg3 := blk_below HB3.out ((HK2.out.same _ HFO.out.2 HNE.out.2).1.trans HBK.out.2)
  have hl3 : w.heap.size + 1 < W2.heap.size := (HK2.out.same _ HFO.out.2 HNE.out.2).2.1
  unfold Hd.cells at hk3 hg3
  clear hls hmk
  generalize boolsW W2 = W3 at *
  have e0 : W3.cell? ⟨w.heap.size, 0, none⟩ = some (.int .u32 hd.src) := cell_of_row _ _ 0 _ _ (0, 0) hk3
  have e1 : W3.cell? ⟨w.heap.size, 1, none⟩ = some (.int .u32 hd.dst) := cell_of_row _ _ 1 _ _ (0, 0) hk3
  have e2 : W3.cell? ⟨w.heap.size, 2, none⟩ = some (.int .u8 hd.proto) := cell_of_row _ _ 2 _ _ (0, 0) hk3
  have e3 : W3.cell? ⟨w.heap.size, 3, none⟩ = some (.int .u16 hd.sp) := cell_of_row _ _ 3 _ _ (0, 0) hk3
  have e4 : W3.cell? ⟨w.heap.size, 4, none⟩ = some (.int .u16 hd.dp) := cell_of_row _ _ 4 _ _ (0, 0) hk3
  have HLAY := Lib.hid (lay_any nowF hd HH.out.1 (fun _ => false) W2.heap.size HR3.out)
  clear hk3
  go_upto_region 6 with ((with_reducible refine HLAY.out.mono ?_); rintro e W4 ⟨rfl, hr4, hg4⟩; have HR4 := Lib.hid hr4; have HG4 := Lib.hid hg4; clear hr4 hg4)
  have hs4 := grown_space HS3.out HG4.out HF3.out HN3.out.1 HN3.out.2
  have hg4 := (HG4.out.block _ (lt_of_block hg3) (fun e => by injection e; omega)).trans hg3
  have g0 : W4.cell? ⟨w.heap.size + 1, 0, none⟩ = some (.int .u32 hg.src) := cell_of_row _ _ 0 _ _ (0, 0) hg4
  have g1 : W4.cell? ⟨w.heap.size + 1, 1, none⟩ = some (.int .u32 hg.dst) := cell_of_row _ _ 1 _ _ (0, 0) hg4
  have g2 : W4.cell? ⟨w.heap.size + 1, 2, none⟩ = some (.int .u8 hg.proto) := cell_of_row _ _ 2 _ _ (0, 0) hg4
  have g3 : W4.cell? ⟨w.heap.size + 1, 3, none⟩ = some (.int .u16 hg.sp) := cell_of_row _ _ 3 _ _ (0, 0) hg4
  have g4 : W4.cell? ⟨w.heap.size + 1, 4, none⟩ = some (.int .u16 hg.dp) := cell_of_row _ _ 4 _ _ (0, 0) hg4
  have HS4 := Lib.hid hs4
  have HLAY2 := Lib.hid (lay_any thenF hg HH.out.2 (nowS hd) W2.heap.size HR4.out)
  clear hs4 hg3 hg4 e0 e1 e2 e3 e4 hl3 HLAY
  go_upto_region 7 with ((with_reducible refine HLAY2.out.mono ?_); rintro e W5 ⟨rfl, hr5, hg5⟩; have HR5 := Lib.hid hr5; have HG5 := Lib.hid (HG4.out.trans hg5); clear hr5 hg5)
  obtain ⟨hs5, hf5⟩ := grown_space HS3.out HG5.out HF3.out HN3.out.1 HN3.out.2
  have c0 := hs5.sp.c0
  have HS5 := Lib.hid hs5
  have HK5 : Hid (KeptS A km w W5) := Lib.hid (keptG HK3.out HG5.out (by have := HK0.out.size; have := HK2.out.size; omega) hf5)
  have HAT := Lib.hid (hs5.at (HA.out.known K) W2.heap.size (bothS hd hg) HR5.out)
  clear hs5 hf5 g0 g1 g2 g3 g4
  go_wp2_with ((with_reducible refine HAT.out.mono ?_); rintro e W6 ⟨rfl, hb6⟩; have HS6 := Lib.hid (HS5.out.below hb6); have HK6 := Lib.hid (HK5.out.trans (HS5.out.kept hb6)); clear hb6)
  go_ret2
  exact ⟨rfl, K, HS6.out, HK6.out⟩
end
end Go.Proofs.YtdjikiakcfbklaaGreat

/-
  Where the relation of the small example leads.
-/
namespace Go.Proofs.YtdjikiakcfbklaaGreat
open Go Go.RowKit Go.ChangeMaps Go.MapKept Go.Maps Go.Lib Go.Sort

def exA : Hd := ⟨167772161, 134744072, 0, 0, 0⟩
def exB : Hd := ⟨16909060, 134744072, 0, 0, 0⟩
theorem small_at (v0 v1 : Value) (s : Nat → Bool) : relW false smallL (smallF v0 v1) s = (((false || (rwPut false sx0 s && (true && bitsF 0 0 8 10 8 s))) || (rwPut false sx2 s && ((true && !bitsF 0 0 8 10 8 s) && true))) || (sameF 0 0 104 s && ((true && !bitsF 0 0 8 10 8 s) && !true))) := by
  show (outW false smallL (smallF v0 v1) 3 s || (sameF 0 0 104 s && leftW false smallL (smallF v0 v1) 3 s)) = _
  rw [(small_left v0 v1).2.2, (small_out v0 v1).2.2]
theorem small_yes (v0 v1 : Value) : relW false smallL (smallF v0 v1) (bothS exA exB) = true := by
  rw [small_at]
  decide +kernel
theorem small_no (v0 v1 : Value) : relW false smallL (smallF v0 v1) (bothS exA exA) = false := by
  rw [small_at]
  decide +kernel
end Go.Proofs.YtdjikiakcfbklaaGreat

/-
  The walks of the law's example.
-/
namespace Go.Proofs.YtdjikiakcfbklaaGreat
open Go Go.RowKit Go.ChangeMaps Go.MapKept Go.Maps Go.Lib Go.Sort

section
set_option maxRecDepth 100000
set_option maxHeartbeats 4000000
theorem lawAll_any (w : World) : Calls Tryz.prog 66 #[] w fun e w' => e = .returned (.agg #[.bool true, .int .i64 (-1), .int .u32 0, .int .i64 0, .int .u32 0, .int .i64 0, .int .u32 0, .int .u32 65535, .int .u32 0, .int .u32 65535]) ∧ Below w.heap.size w w' := by
  go_enter Tryz.func66, Tryz.ntmps66
  go_wp2
  exact bodyPost_ret (results_cell_row Tryz.results66 _ _ w.heap.size _ _ (0, 0) _ rfl (blk1 w _) Tryz.underlying74 rfl (by kernel_rfl)) rfl ⟨rfl, below1 w _⟩
end
end Go.Proofs.YtdjikiakcfbklaaGreat

/-
  What waymarklaw11.small hands back, out of its four blocks.
-/
namespace Go.Proofs.YtdjikiakcfbklaaGreat
open Go Go.RowKit Go.ChangeMaps Go.MapKept Go.Maps Go.Lib Go.Sort

theorem smallFin {w W : World} {e : Ending} {gl g0 g1 gv : Nat} (he : e = .returned (.tuple #[.slice (some ⟨gl, 0, none⟩) 3 3, .slice (some ⟨gv, 0, none⟩) 2 2])) (hb : Below w.heap.size w W)
    (kl : W.heap[gl]? = some (.cells #[.bool false, .string ⟨#[102]⟩, .int .u32 16909060, .bool true, .string ⟨#[103]⟩, .int .u32 84281096, .bool false, .string ⟨#[103]⟩, .int .u32 151587081] 33 (0, 0)))
    (k0 : W.heap[g0]? = some (.cells #[.bool true, .int .i64 (-1), .int .u32 167772160, .int .i64 8, .int .u32 0, .int .i64 0, .int .u32 0, .int .u32 65535, .int .u32 0, .int .u32 65535] 74 (0, 0)))
    (k1 : W.heap[g1]? = some (.cells #[.bool true, .int .i64 (-1), .int .u32 0, .int .i64 0, .int .u32 0, .int .i64 0, .int .u32 0, .int .u32 65535, .int .u32 0, .int .u32 65535] 74 (0, 0)))
    (kv : W.heap[gv]? = some (.cells #[.string ⟨#[102]⟩, .slice (some ⟨g0, 0, none⟩) 1 1, .string ⟨#[103]⟩, .slice (some ⟨g1, 0, none⟩) 1 1] 77 (0, 0))) :
    ∃ (v0 v1 : Value) (hl hv : Nat), e = .returned (.tuple #[.slice (some ⟨hl, 0, none⟩) 3 3, .slice (some ⟨hv, 0, none⟩) 2 2]) ∧ Rd W W.heap.size 3 (.slice (some ⟨hl, 0, none⟩) 3 3) 3 (wcells smallL) ∧ FsAt W W.heap.size (.slice (some ⟨hv, 0, none⟩) 2 2) (smallF v0 v1) ∧ Below w.heap.size w W := by
  refine ⟨.slice (some ⟨g0, 0, none⟩) 1 1, .slice (some ⟨g1, 0, none⟩) 1 1, gl, gv, he, Rd.of_blk (k := 3) (n := 3) (c := 3) kl (Nat.le_refl _) rfl, ⟨Rd.of_blk (k := 2) (n := 2) (c := 2) kv (Nat.le_refl _) rfl, ?_⟩, hb⟩
  intro f hf
  have h2 : f = ⟨⟨#[102]⟩, .slice (some ⟨g0, 0, none⟩) 1 1, [tenR]⟩ ∨ f = ⟨⟨#[103]⟩, .slice (some ⟨g1, 0, none⟩) 1 1, [openR]⟩ := by simpa [smallF] using hf
  rcases h2 with rfl | rfl
  · exact ⟨Rd.of_blk (k := 10) (n := 1) (c := 1) k0 (Nat.le_refl _) rfl, by show 1 * 64 ≤ _; omega⟩
  · exact ⟨Rd.of_blk (k := 10) (n := 1) (c := 1) k1 (Nat.le_refl _) rfl, by show 1 * 64 ≤ _; omega⟩
end Go.Proofs.YtdjikiakcfbklaaGreat

/-
  The walks of the law's example.
-/
namespace Go.Proofs.YtdjikiakcfbklaaGreat
open Go Go.RowKit Go.ChangeMaps Go.MapKept Go.Maps Go.Lib Go.Sort

section
set_option maxRecDepth 100000
set_option maxHeartbeats 4000000
theorem blkNew (w : World) (o : Obj) {k : Nat} (hk : k = w.heap.size) : (w.alloc o).heap[k]? = some o := by subst hk; exact blk1 w o
theorem belowStep {w W W' : World} (h9 : Below W.heap.size W W') (h : Below w.heap.size w W) : Below w.heap.size w W' := h.trans (h9.mono h.size)
theorem belowAlloc {w W : World} (o : Obj) (h : Below w.heap.size w W) : Below w.heap.size w (W.alloc o) := h.alloc h.size o
theorem belowDrew {w W : World} (h : Below w.heap.size w W) : Below w.heap.size w W.drew := ⟨h.os, h.tape, h.output, h.size, h.block⟩
theorem blkDrew {W : World} {k : Nat} {o : Obj} (h : W.heap[k]? = some o) : W.drew.heap[k]? = some o := h
theorem lawSmall_any (w : World) : Calls Tryz.prog 33 #[] w fun e w' => ∃ (v0 v1 : Value) (hl hv : Nat), e = .returned (.tuple #[.slice (some ⟨hl, 0, none⟩) 3 3, .slice (some ⟨hv, 0, none⟩) 2 2]) ∧ Rd w' w'.heap.size 3 (.slice (some ⟨hl, 0, none⟩) 3 3) 3 (wcells smallL) ∧ FsAt w' w'.heap.size (.slice (some ⟨hv, 0, none⟩) 2 2) (smallF v0 v1) ∧ Below w.heap.size w w' := by
  have HALL := Lib.hid lawAll_any
  go_enter Tryz.func33, Tryz.ntmps33
  go_upto_region 2 with ((with_reducible refine (HALL.out _).mono ?_); rintro e w1 ⟨rfl, hb1⟩; have HB1 := Lib.hid hb1; clear hb1)
  have k1 := blk1 w1 (.cells #[.bool true, .int .i64 (-1), .int .u32 0, .int .i64 0, .int .u32 0, .int .i64 0, .int .u32 0, .int .u32 65535, .int .u32 0, .int .u32 65535] 74)
  have HB2 := Lib.hid (HB1.out.alloc HB1.out.size (.cells #[.bool true, .int .i64 (-1), .int .u32 0, .int .i64 0, .int .u32 0, .int .i64 0, .int .u32 0, .int .u32 65535, .int .u32 0, .int .u32 65535] 74))
  have hz : w.heap.size ≤ w1.heap.size := HB1.out.size
  generalize w1.alloc (.cells #[.bool true, .int .i64 (-1), .int .u32 0, .int .i64 0, .int .u32 0, .int .i64 0, .int .u32 0, .int .u32 65535, .int .u32 0, .int .u32 65535] 74) = w2 at *
  have c2 : w2.cell? ⟨w1.heap.size, 2, none⟩ = some (.int .u32 0) := cell_of_row _ _ 2 _ _ (0, 0) k1
  have c3 : w2.cell? ⟨w1.heap.size, 3, none⟩ = some (.int .i64 0) := cell_of_row _ _ 3 _ _ (0, 0) k1
  have f2 := frozen_of_row _ _ 2 _ _ k1
  have f3 := frozen_of_row _ _ 3 _ _ k1
  have y1 : (w2.setCell ⟨w1.heap.size, 2, none⟩ (.int .u32 167772160)).heap[w1.heap.size]? = some (.cells #[.bool true, .int .i64 (-1), .int .u32 167772160, .int .i64 0, .int .u32 0, .int .i64 0, .int .u32 0, .int .u32 65535, .int .u32 0, .int .u32 65535] 74 (0, 0)) := heap_setCell_same _ _ _ _ _ _ k1
  have y2 : ((w2.setCell ⟨w1.heap.size, 2, none⟩ (.int .u32 167772160)).setCell ⟨w1.heap.size, 3, none⟩ (.int .i64 8)).heap[w1.heap.size]? = some (.cells #[.bool true, .int .i64 (-1), .int .u32 167772160, .int .i64 8, .int .u32 0, .int .i64 0, .int .u32 0, .int .u32 65535, .int .u32 0, .int .u32 65535] 74 (0, 0)) := heap_setCell_same _ _ _ _ _ _ y1
  have g2 := (HB2.out.setCell (p := ⟨w1.heap.size, 2, none⟩) hz (.int .u32 167772160)).setCell (p := ⟨w1.heap.size, 3, none⟩) hz (.int .i64 8)
  have HY := Lib.hid y2
  have HG := Lib.hid g2
  clear y1 y2 g2 k1 HB2 HB1
  go_upto_region 3 with fail
  clear c2 c3 f2 f3
  generalize (w2.setCell ⟨w1.heap.size, 2, none⟩ (.int .u32 167772160)).setCell ⟨w1.heap.size, 3, none⟩ (.int .i64 8) = w3 at *
  have d0 : w3.cell? ⟨w1.heap.size, 0, none⟩ = some (.bool true) := cell_of_row _ _ 0 _ _ (0, 0) HY.out
  have d1 : w3.cell? ⟨w1.heap.size, 1, none⟩ = some (.int .i64 (-1)) := cell_of_row _ _ 1 _ _ (0, 0) HY.out
  have d2 : w3.cell? ⟨w1.heap.size, 2, none⟩ = some (.int .u32 167772160) := cell_of_row _ _ 2 _ _ (0, 0) HY.out
  have d3 : w3.cell? ⟨w1.heap.size, 3, none⟩ = some (.int .i64 8) := cell_of_row _ _ 3 _ _ (0, 0) HY.out
  have d4 : w3.cell? ⟨w1.heap.size, 4, none⟩ = some (.int .u32 0) := cell_of_row _ _ 4 _ _ (0, 0) HY.out
  have d5 : w3.cell? ⟨w1.heap.size, 5, none⟩ = some (.int .i64 0) := cell_of_row _ _ 5 _ _ (0, 0) HY.out
  have d6 : w3.cell? ⟨w1.heap.size, 6, none⟩ = some (.int .u32 0) := cell_of_row _ _ 6 _ _ (0, 0) HY.out
  have d7 : w3.cell? ⟨w1.heap.size, 7, none⟩ = some (.int .u32 65535) := cell_of_row _ _ 7 _ _ (0, 0) HY.out
  have d8 : w3.cell? ⟨w1.heap.size, 8, none⟩ = some (.int .u32 0) := cell_of_row _ _ 8 _ _ (0, 0) HY.out
  have d9 : w3.cell? ⟨w1.heap.size, 9, none⟩ = some (.int .u32 65535) := cell_of_row _ _ 9 _ _ (0, 0) HY.out
  have l0 := lt_of_block HY.out
  go_region_held3 (fun w' => w'.cell? ⟨w1.heap.size, 0, none⟩ = some (.bool true) ∧ w'.cell? ⟨w1.heap.size, 1, none⟩ = some (.int .i64 (-1)) ∧ w'.cell? ⟨w1.heap.size, 2, none⟩ = some (.int .u32 167772160) ∧ w'.cell? ⟨w1.heap.size, 3, none⟩ = some (.int .i64 8) ∧ w'.cell? ⟨w1.heap.size, 4, none⟩ = some (.int .u32 0) ∧ w'.cell? ⟨w1.heap.size, 5, none⟩ = some (.int .i64 0) ∧ w'.cell? ⟨w1.heap.size, 6, none⟩ = some (.int .u32 0) ∧ w'.cell? ⟨w1.heap.size, 7, none⟩ = some (.int .u32 65535) ∧ w'.cell? ⟨w1.heap.size, 8, none⟩ = some (.int .u32 0) ∧ w'.cell? ⟨w1.heap.size, 9, none⟩ = some (.int .u32 65535)) (go_keep) (((with_reducible refine (HALL.out _).mono ?_); rintro e w9 ⟨rfl, hb9⟩; have HB9 := Lib.hid hb9; have e0 : w9.cell? ⟨w1.heap.size, 0, none⟩ = some (.bool true) := (hb9.cell (p := ⟨w1.heap.size, 0, none⟩) (by first | omega | (simp; done) | (simp; omega))).trans (by first | assumption | (simp only [*]; done) | simp_all); have e1 : w9.cell? ⟨w1.heap.size, 1, none⟩ = some (.int .i64 (-1)) := (hb9.cell (p := ⟨w1.heap.size, 1, none⟩) (by first | omega | (simp; done) | (simp; omega))).trans (by first | assumption | (simp only [*]; done) | simp_all); have e2 : w9.cell? ⟨w1.heap.size, 2, none⟩ = some (.int .u32 167772160) := (hb9.cell (p := ⟨w1.heap.size, 2, none⟩) (by first | omega | (simp; done) | (simp; omega))).trans (by first | assumption | (simp only [*]; done) | simp_all); have e3 : w9.cell? ⟨w1.heap.size, 3, none⟩ = some (.int .i64 8) := (hb9.cell (p := ⟨w1.heap.size, 3, none⟩) (by first | omega | (simp; done) | (simp; omega))).trans (by first | assumption | (simp only [*]; done) | simp_all); have e4 : w9.cell? ⟨w1.heap.size, 4, none⟩ = some (.int .u32 0) := (hb9.cell (p := ⟨w1.heap.size, 4, none⟩) (by first | omega | (simp; done) | (simp; omega))).trans (by first | assumption | (simp only [*]; done) | simp_all); have e5 : w9.cell? ⟨w1.heap.size, 5, none⟩ = some (.int .i64 0) := (hb9.cell (p := ⟨w1.heap.size, 5, none⟩) (by first | omega | (simp; done) | (simp; omega))).trans (by first | assumption | (simp only [*]; done) | simp_all); have e6 : w9.cell? ⟨w1.heap.size, 6, none⟩ = some (.int .u32 0) := (hb9.cell (p := ⟨w1.heap.size, 6, none⟩) (by first | omega | (simp; done) | (simp; omega))).trans (by first | assumption | (simp only [*]; done) | simp_all); have e7 : w9.cell? ⟨w1.heap.size, 7, none⟩ = some (.int .u32 65535) := (hb9.cell (p := ⟨w1.heap.size, 7, none⟩) (by first | omega | (simp; done) | (simp; omega))).trans (by first | assumption | (simp only [*]; done) | simp_all); have e8 : w9.cell? ⟨w1.heap.size, 8, none⟩ = some (.int .u32 0) := (hb9.cell (p := ⟨w1.heap.size, 8, none⟩) (by first | omega | (simp; done) | (simp; omega))).trans (by first | assumption | (simp only [*]; done) | simp_all); have e9 : w9.cell? ⟨w1.heap.size, 9, none⟩ = some (.int .u32 65535) := (hb9.cell (p := ⟨w1.heap.size, 9, none⟩) (by first | omega | (simp; done) | (simp; omega))).trans (by first | assumption | (simp only [*]; done) | simp_all); clear hb9))
  all_goals
    clear d0 d1 d2 d3 d4 d5 d6 d7 d8 d9 e0 e1 e2 e3 e4 e5 e6 e7 e8 e9 HY HALL
    go_wp2
    go_ret2
    apply smallFin rfl
    case hb => repeat (first | exact HG.out | with_reducible refine belowDrew ?_ | with_reducible refine belowAlloc _ ?_ | with_reducible refine belowStep HB9.out ?_)
    case kv => repeat (first | with_reducible refine blkDrew ?_ | ((with_reducible refine blkNew _ _ ?_); simp; done) | ((with_reducible refine blkNew _ _ ?_); simp [World.drew]; done) | with_reducible refine blk_below (below1 _ _) ?_ | with_reducible refine blk_below HB9.out ?_)
    case kl => repeat (first | with_reducible refine blkDrew ?_ | ((with_reducible refine blkNew _ _ ?_); simp; done) | ((with_reducible refine blkNew _ _ ?_); simp [World.drew]; done) | with_reducible refine blk_below (below1 _ _) ?_ | with_reducible refine blk_below HB9.out ?_)
    case k0 => repeat (first | with_reducible refine blkDrew ?_ | ((with_reducible refine blkNew _ _ ?_); simp; done) | ((with_reducible refine blkNew _ _ ?_); simp [World.drew]; done) | with_reducible refine blk_below (below1 _ _) ?_ | with_reducible refine blk_below HB9.out ?_)
    case k1 => repeat (first | with_reducible refine blkDrew ?_ | ((with_reducible refine blkNew _ _ ?_); simp; done) | ((with_reducible refine blkNew _ _ ?_); simp [World.drew]; done) | with_reducible refine blk_below (below1 _ _) ?_ | with_reducible refine blk_below HB9.out ?_)
end
end Go.Proofs.YtdjikiakcfbklaaGreat

/-
  What the small example gives (plain), and the law's works.
-/
namespace Go.Proofs.YtdjikiakcfbklaaGreat
open Go Go.RowKit Go.ChangeMaps Go.MapKept Go.Maps Go.Lib Go.Sort

theorem small_fb (v0 v1 : Value) : namB (smallF v0 v1) ⟨#[102]⟩ = true := by
  have hn : ¬ (⟨#[102]⟩ : ByteArray).toList = [] := by rw [nm_f]; simp
  have h := fnd_hit (Fs := smallF v0 v1) (nm := ⟨#[102]⟩) (k := 0) (idxP_hit _ _ 0 _ rfl (by unfold hasNm; simp) (fun j y hj _ => by omega)) rfl
  exact (nam_hit hn h).1
theorem small_gb (v0 v1 : Value) : namB (smallF v0 v1) ⟨#[103]⟩ = true := by
  have hn : ¬ (⟨#[103]⟩ : ByteArray).toList = [] := by rw [nm_g]; simp
  have h := fnd_hit (Fs := smallF v0 v1) (nm := ⟨#[103]⟩) (k := 1) (idxP_hit _ _ 1 _ rfl (by unfold hasNm; simp) (fun j y hj hy => by
    obtain rfl : j = 0 := by omega
    injection hy with hy
    subst hy
    unfold hasNm
    rw [nm_f, nm_g]
    decide)) rfl
  exact (nam_hit hn h).1
theorem ten_e : filtE [tenR] = 0 := by decide +kernel
theorem open_e : filtE [openR] = 0 := by decide +kernel
theorem small_mem {x : RewV} (h : x ∈ smallL) : x.nm = ⟨#[102]⟩ ∨ x.nm = ⟨#[103]⟩ := by
  simp only [smallL, List.mem_cons, List.not_mem_nil, or_false] at h
  rcases h with rfl | rfl | rfl
  · exact .inl rfl
  · exact .inr rfl
  · exact .inr rfl
theorem small_err (v0 v1 : Value) {x : RewV} (h : x.nm = ⟨#[102]⟩ ∨ x.nm = ⟨#[103]⟩) : errX (smallF v0 v1) x = 0 := by
  rcases h with h | h
  · exact errX_3 (by rw [h]; exact small_fb v0 v1) (by rw [h, small_f]; exact ten_e)
  · exact errX_3 (by rw [h]; exact small_gb v0 v1) (by rw [h, small_g]; exact open_e)
theorem small_e (v0 v1 : Value) : rwE (smallF v0 v1) smallL = 0 := by
  rw [rwE_2 (show ¬ 256 < smallL.length by decide)]
  exact chkE_all fun j x hx => small_err v0 v1 (small_mem (List.mem_of_getElem? hx))
theorem small_pf (v0 v1 : Value) (h : HeaderV) : namP (smallF v0 v1) ⟨#[102]⟩ h = permN [tenR] h := by unfold namP; rw [small_f]
theorem small_pg (v0 v1 : Value) (h : HeaderV) : namP (smallF v0 v1) ⟨#[103]⟩ h = permN [openR] h := by unfold namP; rw [small_g]
def exH : HeaderV := ⟨167772161, 134744072, 0, 0, 0, by omega, by omega, by omega, by omega, by omega⟩
theorem ten_exH : permN [tenR] exH = true := by decide +kernel
theorem open_exH : permN [openR] exH = true := by decide +kernel
theorem small_fir (v0 v1 : Value) : firN (smallF v0 v1) smallL false exH = 0 := by
  rw [firN_ok false exH (small_e v0 v1)]
  exact idxP_hit _ _ 0 _ rfl (by show (false == false && namP (smallF v0 v1) ⟨#[102]⟩ exH) = true; rw [small_pf, ten_exH]; rfl) (fun j y hj _ => by omega)
def sx1 : RewV := ⟨true, ⟨#[103]⟩, 84281096, by omega⟩
theorem small_ap (v0 v1 : Value) : apH (smallF v0 v1) smallL true exH = setD exH sx1 :=
  apH_d (k := 1) (x := sx1) (small_e v0 v1) (idxP_hit _ _ 1 _ rfl (by show (true == true && namP (smallF v0 v1) ⟨#[103]⟩ exH) = true; rw [small_pg, open_exH]; rfl) (fun j y hj hy => by
    obtain rfl : j = 0 := by omega
    injection hy with hy
    subst hy
    rfl)) rfl
theorem exA_ok : exA.ok := by constructor <;> decide
theorem exB_ok : exB.ok := by constructor <;> decide
theorem nsg_h : newSg.H.length = 0 := rfl
theorem nsg_n : newSg.N.length = 2 := rfl
section
set_option maxRecDepth 100000
set_option maxHeartbeats 8000000
theorem lawWorks_any (w : World) : Calls Tryz.prog 6 #[] w fun e w' => e = .returned (.bool true) ∧ Below w.heap.size w w' := by
  have HSM := Lib.hid (lawSmall_any w)
  go_enter Tryz.func6, Tryz.ntmps6
  go_upto_region 2 with ((with_reducible refine HSM.out.mono ?_); rintro e w1 ⟨v0, v1, gl, gv, rfl, hl1, hf1, hb1⟩; have HL1 := Lib.hid hl1; have HF1 := Lib.hid hf1; have HB1 := Lib.hid hb1; clear hl1 hf1 hb1)
  clear HSM
  have hbA := below1 w1 (.cells #[.int .u32 167772161, .int .u32 134744072, .int .u8 0, .int .u16 0, .int .u16 0] 28)
  have hkA := blk1 w1 (.cells #[.int .u32 167772161, .int .u32 134744072, .int .u8 0, .int .u16 0, .int .u16 0] 28)
  have HL2 := Lib.hid ((HL1.out.below hbA).mono hbA.size)
  have HF2 := Lib.hid (HF1.out.next hbA)
  have HB2 := Lib.hid (HB1.out.trans (hbA.mono HB1.out.size))
  have HK2 := Lib.hid hkA
  clear hbA hkA HL1 HF1
  go_upto_region 3 with fail
  have hgz : w.heap.size ≤ w1.heap.size := HB1.out.size
  generalize hg0 : w1.heap.size = g0 at *
  clear hg0
  generalize w1.alloc (.cells #[.int .u32 167772161, .int .u32 134744072, .int .u8 0, .int .u16 0, .int .u16 0] 28) = w2 at *
  have hfir := rwFirst_any smallL _ (smallF v0 v1) _ false exH w2 HL2.out HF2.out (by show 2 ≤ _; omega)
  rw [small_fir, small_e] at hfir
  have HFIR : Hid (Calls Tryz.prog 37 #[.slice (some ⟨gl, 0, none⟩) 3 3, .slice (some ⟨gv, 0, none⟩) 2 2, .bool false, .agg #[.int .u32 167772161, .int .u32 134744072, .int .u8 0, .int .u16 0, .int .u16 0]] w2 (fun e w' => e = .returned (.tuple #[.int .i64 0, .int .i64 0]) ∧ Below w2.heap.size w2 w')) := Lib.hid hfir
  obtain ⟨c0, c1, c2, c3, c4, _⟩ := five_cells HK2.out
  clear hfir HB1
  go_upto_region 4 with ((with_reducible refine HFIR.out.mono ?_); rintro e w3 ⟨rfl, hb3⟩; have HB3 := Lib.hid hb3; clear hb3)
  clear HFIR c0 c1 c2 c3 c4
  have HL3 := Lib.hid ((HL2.out.below HB3.out).mono HB3.out.size)
  have HF3 := Lib.hid (HF2.out.next HB3.out)
  have HX3 : Hid (Below w.heap.size w w3) := Lib.hid (HB2.out.trans (HB3.out.mono HB2.out.size))
  have HK3 := Lib.hid (blk_below HB3.out HK2.out)
  clear HL2 HF2 HB2 HK2 HB3
  have hap := rwApply_any smallL _ (smallF v0 v1) _ true exH w3 HL3.out HF3.out (by show 2 ≤ _; omega)
  rw [small_ap, small_e] at hap
  have HAP : Hid (Calls Tryz.prog 8 #[.slice (some ⟨gl, 0, none⟩) 3 3, .slice (some ⟨gv, 0, none⟩) 2 2, .bool true, .agg #[.int .u32 167772161, .int .u32 134744072, .int .u8 0, .int .u16 0, .int .u16 0]] w3 (fun e w' => e = .returned (.tuple #[.agg #[.int .u32 167772161, .int .u32 84281096, .int .u8 0, .int .u16 0, .int .u16 0], .int .i64 0]) ∧ Below w3.heap.size w3 w')) := Lib.hid hap
  obtain ⟨c0, c1, c2, c3, c4, _⟩ := five_cells HK3.out
  clear hap
  go_upto_region 5 with ((with_reducible refine HAP.out.mono ?_); rintro e w4 ⟨rfl, hb4⟩; have HB4 := Lib.hid hb4; clear hb4)
  clear HAP c0 c1 c2 c3 c4
  have hbA := below1 w4 (.cells #[.int .u32 167772161, .int .u32 84281096, .int .u8 0, .int .u16 0, .int .u16 0] 28)
  have hkA := blk1 w4 (.cells #[.int .u32 167772161, .int .u32 84281096, .int .u8 0, .int .u16 0, .int .u16 0] 28)
  have hbB := HB4.out.trans (hbA.mono HB4.out.size)
  have HL4 := Lib.hid ((HL3.out.below hbB).mono hbB.size)
  have HF4 := Lib.hid (HF3.out.next hbB)
  have HX4 : Hid (Below w.heap.size w (w4.alloc (.cells #[.int .u32 167772161, .int .u32 84281096, .int .u8 0, .int .u16 0, .int .u16 0] 28))) := Lib.hid (HX3.out.trans (hbB.mono HX3.out.size))
  have HK4 := Lib.hid (blk_below hbB HK3.out)
  have HA4 := Lib.hid hkA
  clear HL3 HF3 HX3 HK3 HB4 hbA hkA hbB
  generalize w4.heap.size = g4 at *
  generalize w4.alloc (.cells #[.int .u32 167772161, .int .u32 84281096, .int .u8 0, .int .u16 0, .int .u16 0] 28) = w5 at *
  have HNEW := Lib.hid (show Calls Tryz.prog 10 #[.int .i64 4194304] w5 (fun e w' => ∃ (S km : Nat) (A : Blks), e = .returned (.tuple #[.pointer (some ⟨S, 0, none⟩), .int .i64 0]) ∧ SpAt w' w5.heap.size S km A 4194304 N0 [] [0, 1] [] ∧ Below w5.heap.size w5 w' ∧ w5.heap.size ≤ S ∧ w5.heap.size ≤ km) from relNew_any w5 4194304 (Nat.le_refl _))
  go_upto_region 6 with ((with_reducible refine HNEW.out.mono ?_); rintro e w6 ⟨S, km, A, rfl, hs6, hb6, hS6, hkm6⟩; have HS6 := Lib.hid hs6.newOk; have HB6 := Lib.hid hb6; have HLO := Lib.hid (And.intro hS6 hkm6); clear hs6 hb6 hS6 hkm6)
  clear HNEW
  have HZ5 : Hid (w.heap.size ≤ w5.heap.size) := Lib.hid HX4.out.size
  have HX6 : Hid (Below w.heap.size w w6) := Lib.hid (HX4.out.trans (HB6.out.mono HX4.out.size))
  have HK6 := Lib.hid (blk_below HB6.out HK4.out)
  have HA6 := Lib.hid (blk_below HB6.out HA4.out)
  have HLT : Hid (g0 < w5.heap.size ∧ g4 < w5.heap.size) := Lib.hid ⟨lt_of_block HK4.out, lt_of_block HA4.out⟩
  have hrel := relation_yes HS6.out HLO.out.2 (HL4.out.below HB6.out) (HF4.out.below HB6.out) (by show 2 ≤ _; omega) (by decide) (small_e v0 v1) (dest := false) (fun k x hx hd => small_step v0 v1 k x hx hd) (small_keep v0 v1) (small_rel v0 v1) (by rw [nsg_h]; show 0 + (3 * stepC 29952 1 + 936 + (29952 + 179712)) ≤ _; unfold stepC; omega) (by rw [nsg_n]; show 2 + (3 * stepC 29952 1 + 936 + (29952 + 179712)) ≤ _; unfold stepC; omega)
  have HREL := Lib.hid hrel
  clear hrel HL4 HF4 HX4 HK4 HA4
  go_upto_region 7 with ((with_reducible refine HREL.out.mono ?_); rintro e w7 ⟨r, τ7, rfl, hs7, hk7, ht7, hd7⟩; have HS7 := Lib.hid hs7; have HKS := Lib.hid hk7; have HD7 := Lib.hid hd7; clear hs7 hk7 ht7 hd7)
  have HLW := Lib.hid (HS6.out.low HLO.out.2 HKS.out)
  have HX7 : Hid (Below w.heap.size w w7) := Lib.hid (HX6.out.trans (HLW.out.mono HZ5.out))
  clear HREL
  have HK7 := Lib.hid ((HLW.out.block _ HLT.out.1).trans HK6.out)
  have HA7 := Lib.hid ((HLW.out.block _ HLT.out.2).trans HA6.out)
  clear HK6 HA6 HX6 HKS HLW HS6 HB6
  have hle := leads_yes HS7.out HD7.out exA exB exA_ok exB_ok
  rw [small_yes] at hle
  have HLE : Hid (Calls Tryz.prog 24 #[.pointer (some ⟨S, 0, none⟩), .int .i64 r, .agg #[.int .u32 167772161, .int .u32 134744072, .int .u8 0, .int .u16 0, .int .u16 0], .agg #[.int .u32 16909060, .int .u32 134744072, .int .u8 0, .int .u16 0, .int .u16 0]] w7 (AskRes w7 w5.heap.size S km A 4194304 τ7 (.tuple #[.bool true, .int .i64 0]))) := Lib.hid hle
  clear hle
  obtain ⟨c0, c1, c2, c3, c4, _⟩ := five_cells HK7.out
  go_upto_region 8 with ((with_reducible refine HLE.out.mono ?_); rintro e w8 ⟨rfl, K8, hs8, hk8⟩; have HS8 := Lib.hid hs8; have HKS := Lib.hid hk8; clear hs8 hk8)
  clear c0 c1 c2 c3 c4 HLE
  have HLW := Lib.hid (HS7.out.low HLO.out.2 HKS.out)
  have HX8 : Hid (Below w.heap.size w w8) := Lib.hid (HX7.out.trans (HLW.out.mono HZ5.out))
  have HK8 := Lib.hid ((HLW.out.block _ HLT.out.1).trans HK7.out)
  have HA8 := Lib.hid ((HLW.out.block _ HLT.out.2).trans HA7.out)
  have HD8 := Lib.hid (HD7.out.known K8)
  clear HK7 HA7 HX7 HKS HLW HS7 HD7
  have hle := leads_yes HS8.out HD8.out exA exA exA_ok exA_ok
  rw [small_no] at hle
  have HLE : Hid (Calls Tryz.prog 24 #[.pointer (some ⟨S, 0, none⟩), .int .i64 r, .agg #[.int .u32 167772161, .int .u32 134744072, .int .u8 0, .int .u16 0, .int .u16 0], .agg #[.int .u32 167772161, .int .u32 134744072, .int .u8 0, .int .u16 0, .int .u16 0]] w8 (AskRes w8 w5.heap.size S km A 4194304 (τ7.know K8) (.tuple #[.bool false, .int .i64 0]))) := Lib.hid hle
  clear hle
  obtain ⟨c0, c1, c2, c3, c4, _⟩ := five_cells HK8.out
  go_upto_region 9 with ((with_reducible refine HLE.out.mono ?_); rintro e w9 ⟨rfl, K9, hs9, hk9⟩; have HS9 := Lib.hid hs9; have HKS := Lib.hid hk9; clear hs9 hk9)
  clear c0 c1 c2 c3 c4 HLE
  have HLW := Lib.hid (HS8.out.low HLO.out.2 HKS.out)
  have HX9 : Hid (Below w.heap.size w w9) := Lib.hid (HX8.out.trans (HLW.out.mono HZ5.out))
  have HA9 := Lib.hid ((HLW.out.block _ HLT.out.2).trans HA8.out)
  clear HK8 HA8 HX8 HKS HLW HS8 HD8
  obtain ⟨c0, c1, c2, c3, c4, _⟩ := five_cells HA9.out
  go_wp2_with fail
  go_ret
  exact ⟨rfl, HX9.out⟩
end
end Go.Proofs.YtdjikiakcfbklaaGreat

/-
  A space without room: what is not constant is refused; the builder that has refused.
-/
namespace Go.Proofs.YtdjikiakcfbklaaGreat
open Go Go.RowKit Go.ChangeMaps Go.MapKept Go.Maps Go.Lib Go.Sort

def ConstF (F : Fun) : Prop := ∃ b : Bool, ∀ s, F s = b
section
variable {w w' : World} {B S km : Nat} {A : Blks} {σ τ : Sg}
theorem SpRes.noroom {F : Fun} {k m : Nat} {e : Ending} (h : SpRes w B S km A 0 σ F k m e w') (hF : ¬ ConstF F) :
    e = .returned (.tuple #[.int .i64 0, .int .i64 3]) ∧ ∃ τ, SpOk w' B S km A 0 τ ∧ To k m σ τ := by
  rcases h.2 with ⟨h1, _, h3⟩ | ⟨r, τ, _, h2, _, h4⟩
  · exact ⟨h1, h3⟩
  · exfalso
    have hm := h2.ok.mo
    have hg := (h2.ok.g r h4.1).2.1
    have hH : τ.H = [] := List.eq_nil_of_length_eq_zero (by omega)
    rw [hH] at hg
    rcases hg with hg | hg
    · obtain rfl | rfl : r = 0 ∨ r = 1 := by omega
      · exact hF ⟨false, fun s => (h4.2 s).symm⟩
      · exact hF ⟨true, fun s => (h4.2 s).symm⟩
    · cases hg
theorem take_bad (bb : Nat) (n : Int) (w : World) (hk : w.heap[bb]? = some (.cells #[.int .i64 0] 113 (0, 0))) :
    Calls Tryz.prog 69 #[.pointer (some ⟨bb, 0, none⟩), .int .i64 n, .int .i64 3] w fun e w' => e = .returned (.int .i64 n) ∧ w' = w.setCell ⟨bb, 0, none⟩ (.int .i64 3) := by
  have c0 := cell0 hk
  have f0 := frozen_of_row _ _ 0 _ _ hk
  clear hk
  go_enter Tryz.func69, Tryz.ntmps69
  go_wp2
  go_ret
  exact ⟨rfl, rfl⟩
theorem take3 (bb : Nat) (n e : Int) (w : World) (hk : w.heap[bb]? = some (.cells #[.int .i64 3] 113 (0, 0))) :
    Calls Tryz.prog 69 #[.pointer (some ⟨bb, 0, none⟩), .int .i64 n, .int .i64 e] w fun e w' => e = .returned (.int .i64 n) ∧ Below w.heap.size w w' := by
  have c0 := cell0 hk
  have hb : Below w.heap.size w w := ⟨rfl, rfl, rfl, Nat.le_refl _, fun _ _ => rfl⟩
  have HB := Lib.hid hb
  clear hk hb
  go_enter Tryz.func69, Tryz.ntmps69
  go_wp2
  go_ret
  exact ⟨rfl, HB.out⟩
structure RelB3 (w0 W : World) (B S km : Nat) (A : Blks) (Mo : Nat) (τ : Sg) (P : Bxs) (dest : Bool) (l : List RewV) (vl : Value) (Fs : List FiltV) (v : Value) (ql qo : Nat) : Prop where
  sp : SpOk W B S km A Mo τ
  bkm : B ≤ km
  xb : W.heap[P.b]? = some (.cells #[.int .i64 3] 113 (0, 0))
  xs : W.heap[P.s]? = some (.cells #[.pointer (some ⟨S, 0, none⟩)] 41 (0, 0))
  xl : W.heap[P.l]? = some (.cells #[.int .i64 ql] 3 (0, 0))
  xd : W.heap[P.d]? = some (.cells #[.bool dest] 4 (0, 0))
  xL : W.heap[P.L]? = some (.cells #[vl] 22 (0, 0))
  xo : W.heap[P.o]? = some (.cells #[.int .i64 qo] 3 (0, 0))
  nd : P.list.Nodup
  fo : ∀ x ∈ P.list, Foreign A W x ∧ x ≠ km ∧ x ≠ S ∧ w0.heap.size ≤ x ∧ B ≤ x
  row : Rd W B 3 vl l.length (wcells l)
  fs : FsAt W B v Fs
  kp : KeptS A km w0 W
variable {Mo : Nat} {w0 W W' : World} {P : Bxs} {dest : Bool} {l : List RewV} {vl : Value} {Fs : List FiltV} {v : Value} {ql qo : Nat}
theorem RelB3.kept (h : RelB3 w0 W B S km A Mo σ P dest l vl Fs v ql qo) (hk : KeptS A km W W') (hs : SpOk W' B S km A Mo τ) : RelB3 w0 W' B S km A Mo τ P dest l vl Fs v ql qo := by
  have hl := h.sp.low h.bkm hk
  have hf : ∀ x ∈ P.list, W'.heap[x]? = W.heap[x]? ∧ Foreign A W' x := fun x hx => hk.same x (h.fo x hx).1 (h.fo x hx).2.1
  exact ⟨hs, h.bkm, (hf _ (by simp [Bxs.list])).1.trans h.xb, (hf _ (by simp [Bxs.list])).1.trans h.xs, (hf _ (by simp [Bxs.list])).1.trans h.xl, (hf _ (by simp [Bxs.list])).1.trans h.xd, (hf _ (by simp [Bxs.list])).1.trans h.xL, (hf _ (by simp [Bxs.list])).1.trans h.xo, h.nd, fun x hx => ⟨(hf x hx).2, (h.fo x hx).2⟩, h.row.below hl, h.fs.below hl, h.kp.trans hk⟩
theorem RelB3.below (h : RelB3 w0 W B S km A Mo σ P dest l vl Fs v ql qo) (hb : Below W.heap.size W W') : RelB3 w0 W' B S km A Mo σ P dest l vl Fs v ql qo := h.kept (h.sp.kept hb) (h.sp.below hb)
theorem RelB3.write (h : RelB3 w0 W B S km A Mo σ P dest l vl Fs v ql qo) {x : Nat} (hx : x ∈ P.list) (u : Value) : SpOk (W.setCell ⟨x, 0, none⟩ u) B S km A Mo σ ∧ (∀ y ∈ P.list, Foreign A (W.setCell ⟨x, 0, none⟩ u) y) ∧ KeptS A km w0 (W.setCell ⟨x, 0, none⟩ u) ∧ Below B W (W.setCell ⟨x, 0, none⟩ u) := by
  have hg : W.grownBy (W.setCell ⟨x, 0, none⟩ u) (some x) := only_setCell (World.grownBy.refl W (some x)) (.inl rfl) _
  have hf := h.fo x hx
  obtain ⟨s1, s2, s3⟩ := h.sp.others hg (fun g hg => by injection hg with hg; subst hg; exact ⟨hf.1, hf.2.1, hf.2.2.1⟩)
  exact ⟨s1, fun y hy => s2 y (h.fo y hy).1, h.kp.others hg (fun g hg => by injection hg with hg; have := hf.2.2.2.1; omega) s2, (Below.refl B W).setCell (p := ⟨x, 0, none⟩) hf.2.2.2.2 u⟩
theorem RelB3.setL (h : RelB3 w0 W B S km A Mo σ P dest l vl Fs v ql qo) (n : Nat) : RelB3 w0 (W.setCell ⟨P.l, 0, none⟩ (.int .i64 n)) B S km A Mo σ P dest l vl Fs v n qo := by
  obtain ⟨s1, s2, s3, s4⟩ := h.write (x := P.l) (by simp [Bxs.list]) (.int .i64 n)
  have hn := h.nd
  simp only [Bxs.list, List.nodup_cons, List.mem_cons, List.not_mem_nil, or_false, not_or] at hn
  have ho : ∀ y, y ≠ P.l → (W.setCell ⟨P.l, 0, none⟩ (.int .i64 n)).heap[y]? = W.heap[y]? := fun y hy => Below.heap_setCell W ⟨P.l, 0, none⟩ _ y hy
  exact ⟨s1, h.bkm, (ho _ (by omega)).trans h.xb, (ho _ (by omega)).trans h.xs, heap_setCell_same _ _ 0 _ _ (.int .i64 n) h.xl, (ho _ (by omega)).trans h.xd, (ho _ (by omega)).trans h.xL, (ho _ (by omega)).trans h.xo, h.nd, fun x hx => ⟨s2 x hx, (h.fo x hx).2⟩, h.row.below s4, h.fs.below s4, s3⟩
theorem RelB3.setO (h : RelB3 w0 W B S km A Mo σ P dest l vl Fs v ql qo) (n : Nat) : RelB3 w0 (W.setCell ⟨P.o, 0, none⟩ (.int .i64 n)) B S km A Mo σ P dest l vl Fs v ql n := by
  obtain ⟨s1, s2, s3, s4⟩ := h.write (x := P.o) (by simp [Bxs.list]) (.int .i64 n)
  have hn := h.nd
  simp only [Bxs.list, List.nodup_cons, List.mem_cons, List.not_mem_nil, or_false, not_or] at hn
  have ho : ∀ y, y ≠ P.o → (W.setCell ⟨P.o, 0, none⟩ (.int .i64 n)).heap[y]? = W.heap[y]? := fun y hy => Below.heap_setCell W ⟨P.o, 0, none⟩ _ y hy
  exact ⟨s1, h.bkm, (ho _ (by omega)).trans h.xb, (ho _ (by omega)).trans h.xs, (ho _ (by omega)).trans h.xl, (ho _ (by omega)).trans h.xd, (ho _ (by omega)).trans h.xL, heap_setCell_same _ _ 0 _ _ (.int .i64 n) h.xo, h.nd, fun x hx => ⟨s2 x hx, (h.fo x hx).2⟩, h.row.below s4, h.fs.below s4, s3⟩

theorem RelBx.fail (h : RelBx w0 W B S km A Mo σ P dest l vl Fs v ql qo) : RelB3 w0 (W.setCell ⟨P.b, 0, none⟩ (.int .i64 3)) B S km A Mo σ P dest l vl Fs v ql qo := by
  obtain ⟨s1, s2, s3, s4⟩ := h.write (x := P.b) (by simp [Bxs.list]) (.int .i64 3)
  have hn := h.nd
  simp only [Bxs.list, List.nodup_cons, List.mem_cons, List.not_mem_nil, or_false, not_or] at hn
  have ho : ∀ y, y ≠ P.b → (W.setCell ⟨P.b, 0, none⟩ (.int .i64 3)).heap[y]? = W.heap[y]? := fun y hy => Below.heap_setCell W ⟨P.b, 0, none⟩ _ y hy
  exact ⟨s1, h.bkm, heap_setCell_same _ _ 0 _ _ (.int .i64 3) h.xb, (ho _ (by omega)).trans h.xs, (ho _ (by omega)).trans h.xl, (ho _ (by omega)).trans h.xd, (ho _ (by omega)).trans h.xL, (ho _ (by omega)).trans h.xo, h.nd, fun x hx => ⟨s2 x hx, (h.fo x hx).2⟩, h.row.below s4, h.fs.below s4, s3⟩
end
end Go.Proofs.YtdjikiakcfbklaaGreat

/-
  A rewrite's step of the relation in a space without room (written by wip/gen/genrx.py).
-/
namespace Go.Proofs.YtdjikiakcfbklaaGreat
open Go Go.RowKit Go.ChangeMaps Go.MapKept Go.Maps Go.Lib Go.Sort

section
variable {B S km : Nat} {A : Blks} {τ : Sg} {w0 W : World} {P : Bxs} {dest : Bool} {l : List RewV} {vl : Value} {Fs : List FiltV} {v : Value}
set_option maxRecDepth 100000
set_option maxHeartbeats 8000000
theorem SgOk.h0 (o : SgOk 0 τ) : τ.H.length + 0 ≤ 0 := by have := o.mo; omega
theorem relStep3 (h : RelBx w0 W B S km A 0 τ P dest l vl Fs v 1 0) {x : RewV} (hx : l[0]? = some x) (hd : x.dest = dest) (nm : ByteArray) (vL : Value) (hr : RdF A km W 10 vL (namL Fs x.nm).length (rcells (namL Fs x.nm))) (hok : filtE (namL Fs x.nm) = 0) {K : Nat} (hfw : FiltW (namL Fs x.nm) K) (hsw : ∀ j, j ≤ (namL Fs x.nm).length → Wid (setF (namL Fs x.nm) j) K)
    (hsn : ¬ ConstF (rwSet Fs x)) (hpn : ¬ ConstF (rwPut dest x)) {M : Nat} (hM : (namL Fs x.nm).length ≤ M) (hnl : τ.N.length + (M * (6080 + 8 * K) + 2280) ≤ 2147483647) :
    Calls Tryz.prog 68 #[.int .i64 0, .agg #[.string nm, vL], .pointer (some ⟨P.b, 0, none⟩), .pointer (some ⟨P.s, 0, none⟩), .pointer (some ⟨P.l, 0, none⟩), .pointer (some ⟨P.d, 0, none⟩), .pointer (some ⟨P.L, 0, none⟩), .pointer (some ⟨P.o, 0, none⟩)] W
      fun e W' => e = .returned (.bool false) ∧ ∃ (τ' : Sg), RelB3 w0 W' B S km A 0 τ' P dest l vl Fs v 1 0 ∧ τ'.N.length ≤ τ.N.length + (M * (6080 + 8 * K) + 2280) := by
  have hmul : (namL Fs x.nm).length * (6080 + 8 * K) ≤ M * (6080 + 8 * K) := Nat.mul_le_mul_right _ hM
  obtain ⟨PL, cL, rfl, _⟩ := hr.rd.form
  have hb1 := below1 W (.cells #[.string nm, .slice PL (namL Fs x.nm).length cL] 77)
  have hk1 := blk1 W (.cells #[.string nm, .slice PL (namL Fs x.nm).length cL] 77)
  have H1 := Lib.hid (h.below hb1)
  have HL1 := Lib.hid (hr.kept (h.sp.kept hb1))
  have f0 : (W.alloc (.cells #[.string nm, .slice PL (namL Fs x.nm).length cL] 77)).cell? ⟨W.heap.size, 0, none⟩ = some (.string nm) := cell_of_row _ _ 0 _ _ (0, 0) hk1
  have f1 : (W.alloc (.cells #[.string nm, .slice PL (namL Fs x.nm).length cL] 77)).cell? ⟨W.heap.size, 1, none⟩ = some (.slice PL (namL Fs x.nm).length cL) := cell_of_row _ _ 1 _ _ (0, 0) hk1
  have HX := Lib.hid (And.intro hx hd)
  have HN := Lib.hid (And.intro (show ¬ ConstF (setF (namL Fs x.nm) (namL Fs x.nm).length) from hsn) hpn)
  have HM := Lib.hid (And.intro hmul hnl)
  have s1 := cell0 H1.out.xs
  have HSET := Lib.hid (set_yes H1.out.sp nm (namL Fs x.nm) _ HL1.out hok K hfw hsw (by omega))
  clear h hr hb1 hk1 hok hfw hsw hsn hpn hx hd hmul hM hnl HL1
  generalize hn : (namL Fs x.nm).length = n at *
  go_enter Tryz.func68, Tryz.ntmps68
  go_upto_region 1 with fail
  generalize W.alloc (.cells #[.string nm, .slice PL n cL] 77) = W1 at *
  go_upto_region 2 with (first
    | ((with_reducible refine HSET.out.mono ?_); rintro e W2 hr2; obtain ⟨rfl, τ2, hs2, ht2⟩ := hr2.noroom HN.out.1; have H2 := Lib.hid (H1.out.kept hr2.1 hs2); have HT2 := Lib.hid ht2; clear hr2 hs2 ht2)
    | ((with_reducible refine (take_bad _ _ _ H2.out.xb).mono ?_); rintro e _ ⟨rfl, rfl⟩; have H3 := Lib.hid H2.out.fail))
  clear f0 f1 s1 HSET H2
  generalize W2.setCell ⟨P.b, 0, none⟩ (.int .i64 3) = W3 at *
  have s1 := cell0 H3.out.xs
  have l1 := cell0 H3.out.xl
  have HAND := Lib.hid (show Calls Tryz.prog 15 #[.pointer (some ⟨S, 0, none⟩), .int .i64 1, .int .i64 0] W3 (SpRes W3 B S km A 0 τ2 (fun _ => false) 0 0) from relAnd_yes H3.out.sp (Den.one H3.out.sp.ok) (Den.zero H3.out.sp.ok) (SetF.const true) (SetF.const false) (a := 0) (b := 0) (Grow.wid H3.out.sp.ok.wf.two (Wid.const false)) (by have := HM.out; have := HT2.out.nl; omega))
  go_upto_region 3 with (first
    | ((with_reducible refine HAND.out.mono ?_); rintro e W4 hr4; obtain ⟨r4, τ4, rfl, hs4, ht4, hd4⟩ := hr4.room H3.out.sp.ok.h0; obtain rfl := hd4.same (Den.zero hs4.ok) hs4.ok; have H4 := Lib.hid (H3.out.kept hr4.1 hs4); have HT4 := Lib.hid (HT2.out.trans ht4); clear hr4 hs4 ht4 hd4)
    | ((with_reducible refine (take3 _ _ _ _ H4.out.xb).mono ?_); rintro e W5 ⟨rfl, hb5⟩; have H5 := Lib.hid (H4.out.below hb5); clear hb5))
  clear s1 l1 HAND H4 H3
  have s1 := cell0 H5.out.xs
  have l1 := cell0 H5.out.xl
  have HLES := Lib.hid (show Calls Tryz.prog 17 #[.pointer (some ⟨S, 0, none⟩), .int .i64 1, .int .i64 0] W5 (SpRes W5 B S km A 0 τ4 (fun _ => true) 0 0) from relLess_yes H5.out.sp (Den.one H5.out.sp.ok) (Den.zero H5.out.sp.ok) (SetF.const true) (SetF.const false) (a := 0) (b := 0) (Grow.wid H5.out.sp.ok.wf.two (Wid.const true)) (by have := HM.out; have := HT4.out.nl; omega))
  go_upto_region 4 with (first
    | ((with_reducible refine HLES.out.mono ?_); rintro e W6 hr6; obtain ⟨r6, τ6, rfl, hs6, ht6, hd6⟩ := hr6.room H5.out.sp.ok.h0; obtain rfl := hd6.same (Den.one hs6.ok) hs6.ok; have H6 := Lib.hid (H5.out.kept hr6.1 hs6); have HT6 := Lib.hid (HT4.out.trans ht6); clear hr6 hs6 ht6 hd6)
    | ((with_reducible refine (take3 _ _ _ _ H6.out.xb).mono ?_); rintro e W7 ⟨rfl, hb7⟩; have H7 := Lib.hid (H6.out.below hb7); have c7 := cell0 H7.out.xl; have f7 := frozen_of_row _ _ 0 _ _ H7.out.xl; have H8 := Lib.hid (H7.out.setL 1); clear hb7))
  clear s1 l1 HLES H6 H5 c7 f7 H7
  have H8' : Hid (RelB3 w0 (W7.setCell ⟨P.l, 0, none⟩ (.int .i64 1)) B S km A 0 τ6 P dest l vl Fs v 1 0) := Lib.hid H8.out
  clear H8
  have H8 := H8'
  clear H8'
  generalize W7.setCell ⟨P.l, 0, none⟩ (.int .i64 1) = W8 at *
  have hb9 : Below W8.heap.size W8 { W8 with drawn := W8.drawn + 1 } := ⟨rfl, rfl, rfl, Nat.le_refl _, fun _ _ => rfl⟩
  have H9 := Lib.hid (H8.out.below hb9)
  clear hb9
  obtain ⟨hx, hd⟩ := HX.out
  have hkl : 0 < l.length := (List.getElem?_eq_some_iff.1 hx).1
  have hI : (0 : Int) < (l.length : Int) := by omega
  refine wp_region_mixS (KeptS A km { W8 with drawn := W8.drawn + 1 }) [(0, false), (1, false), (3, false), (4, false), (5, false), (6, false), (7, false), (2, true), (8, true), (9, false), (10, false), (11, true), (12, false)] (by kernel_rfl) (by kernel_rfl) (KeptS.refl _ _ _) ?_
  generalize { W8 with drawn := W8.drawn + 1 } = V0 at *
  obtain ⟨bL, oL, cl, hvl, _, _, hcell⟩ := H9.out.row.posAt (by omega)
  subst hvl
  have d0 : ∀ p : InW (KeptS A km V0), p.w.cell? ⟨P.s, 0, none⟩ = some (.pointer (some ⟨S, 0, none⟩)) := fun p => cell0 ((p.h.same _ (H9.out.fo P.s (by simp [Bxs.list])).1 (H9.out.fo P.s (by simp [Bxs.list])).2.1).1.trans H9.out.xs)
  have d1 : ∀ p : InW (KeptS A km V0), p.w.cell? ⟨P.d, 0, none⟩ = some (.bool dest) := fun p => cell0 ((p.h.same _ (H9.out.fo P.d (by simp [Bxs.list])).1 (H9.out.fo P.d (by simp [Bxs.list])).2.1).1.trans H9.out.xd)
  have d2 : ∀ p : InW (KeptS A km V0), p.w.cell? ⟨P.L, 0, none⟩ = some (.slice (some ⟨bL, oL, none⟩) l.length cl) := fun p => cell0 ((p.h.same _ (H9.out.fo P.L (by simp [Bxs.list])).1 (H9.out.fo P.L (by simp [Bxs.list])).2.1).1.trans H9.out.xL)
  have d3 : ∀ p : InW (KeptS A km V0), p.w.cell? ⟨bL, oL + 2, none⟩ = some (.int .u32 x.too) := fun p => by
    obtain ⟨b', o', c', hv', _, _, hc'⟩ := (H9.out.row.below (H9.out.sp.low H9.out.bkm p.h)).posAt (by omega)
    injection hv' with e1 e2 e3
    injection e1 with e1
    injection e1 with e4 e5
    subst e4 e5
    have := hc' 0 2 _ (wcell hx rfl)
    simpa using this
  clear hcell
  refine mix_take [0, 1, 3, 4, 5, 6, 7] [_, _, _, _, _, _, _] rfl rfl ?_
  simp only [List.getElem_toArray, List.getElem_cons_zero, List.getElem_cons_succ]
  repeat (go_big_quiet_step (fail))
  refine wpQuiet_nil ?_
  clear d0 d1 d2 d3
  refine mix_barS rfl (by rfl) ?_
  simp only [List.getElem_toArray, List.getElem_cons_zero, List.getElem_cons_succ]
  go_simp
  refine (field_any dest V0).mono ?_
  rintro e V0 ⟨rfl, rfl⟩
  refine ⟨KeptS A km V0, KeptS.refl _ _ _, fun _ h => h, ?_⟩
  refine mix_barS rfl (by rfl) ?_
  simp only [List.getElem_toArray, List.getElem_cons_zero, List.getElem_cons_succ]
  go_simp
  have HPUT := Lib.hid (rwPut_any H9.out.sp dest x (by have := HM.out; have := HT6.out.nl; omega))
  refine HPUT.out.mono ?_
  rintro e V1 hr
  have hk1 := hr.1
  obtain ⟨rfl, τ7, hs7, ht7⟩ := hr.noroom HN.out.2
  have HV1 := Lib.hid (H9.out.kept hk1 hs7)
  have HT7 := Lib.hid (HT6.out.trans ht7)
  have HK1 := Lib.hid hk1
  clear hr hs7 ht7 hk1 HPUT
  refine ⟨KeptS A km V0, HK1.out, fun _ h => h, ?_⟩
  refine mix_take [9, 10] [_, _] rfl rfl ?_
  simp only [List.getElem_toArray, List.getElem_cons_zero, List.getElem_cons_succ]
  repeat (go_big_quiet_step (fail))
  refine wpQuiet_nil ?_
  refine mix_barS rfl (by rfl) ?_
  simp only [List.getElem_toArray, List.getElem_cons_zero, List.getElem_cons_succ]
  go_simp
  refine (take3 P.b 0 3 V1 HV1.out.xb).mono ?_
  rintro e V2 ⟨rfl, hb2⟩
  have HV2 := Lib.hid (HV1.out.below hb2)
  have HK2 := Lib.hid (HK1.out.trans (HV1.out.sp.kept hb2))
  clear hb2 HV1 HK1 H9
  refine ⟨KeptS A km V0, HK2.out, fun _ h => h, ?_⟩
  refine mix_take [12] [_] rfl rfl ?_
  simp only [List.getElem_toArray, List.getElem_cons_zero, List.getElem_cons_succ]
  repeat (go_big_quiet_step (fail))
  refine wpQuiet_nil ?_
  refine mix_end ?_
  clear HK2
  generalize (if dest = true then (1 : Int) else 0) = fd
  go_upto_region 5 with fail
  have hb3 : Below V2.heap.size V2 { V2 with drawn := V2.drawn + 1 } := ⟨rfl, rfl, rfl, Nat.le_refl _, fun _ _ => rfl⟩
  have H3 := Lib.hid (HV2.out.below hb3)
  clear hb3 HV2
  refine wp_region_mixZ (KeptS A km { V2 with drawn := V2.drawn + 1 }) 13 [(0, false), (1, false), (2, false), (3, false), (4, false), (5, true), (6, false), (7, false), (8, true), (9, true), (10, false), (11, false), (12, true)] (by kernel_rfl) (by kernel_rfl) (KeptS.refl _ _ _) ?_
  generalize { V2 with drawn := V2.drawn + 1 } = V3 at *
  have d0 : ∀ p : InW (KeptS A km V3), p.w.cell? ⟨P.s, 0, none⟩ = some (.pointer (some ⟨S, 0, none⟩)) := fun p => cell0 ((p.h.same _ (H3.out.fo P.s (by simp [Bxs.list])).1 (H3.out.fo P.s (by simp [Bxs.list])).2.1).1.trans H3.out.xs)
  have d1 : ∀ p : InW (KeptS A km V3), p.w.cell? ⟨P.o, 0, none⟩ = some (.int .i64 0) := fun p => cell0 ((p.h.same _ (H3.out.fo P.o (by simp [Bxs.list])).1 (H3.out.fo P.o (by simp [Bxs.list])).2.1).1.trans H3.out.xo)
  refine mixZ_take [0, 1, 2, 3, 4] [_, _, _, _, _] rfl rfl ?_
  simp only [List.getElem_toArray, List.getElem_cons_zero, List.getElem_cons_succ]
  repeat (go_big_quiet_step (fail))
  refine wpQuiet_nil ?_
  clear d0 d1
  refine mixZ_bar rfl (by rfl) ?_
  simp only [List.getElem_toArray, List.getElem_cons_zero, List.getElem_cons_succ]
  go_simp
  have HWH := Lib.hid (show Calls Tryz.prog 22 #[.pointer (some ⟨S, 0, none⟩), .int .i64 0, .int .i64 0] V3 (SpRes V3 B S km A 0 τ7 (fun _ => false) 0 0) from relWhere_yes H3.out.sp (Den.zero H3.out.sp.ok) (Den.zero H3.out.sp.ok) (SetF.const false) (a := 0) (b := 0) (Grow.wid H3.out.sp.ok.wf.two (Wid.const false)) (by have := HM.out; have := HT7.out.nl; omega))
  refine HWH.out.mono ?_
  rintro e V4 hr
  have hk4 := hr.1
  obtain ⟨r8, τ8, rfl, hs8, ht8, hd8⟩ := hr.room H3.out.sp.ok.h0
  obtain rfl := hd8.same (Den.zero hs8.ok) hs8.ok
  have H4 := Lib.hid (H3.out.kept hk4 hs8)
  have HT8 := Lib.hid (HT7.out.trans ht8)
  have HK4 := Lib.hid hk4
  clear hr hs8 ht8 hd8 hk4 HWH
  refine ⟨KeptS A km V3, HK4.out, fun _ h => h, ?_⟩
  refine mixZ_take [6, 7] [_, _] rfl rfl ?_
  simp only [List.getElem_toArray, List.getElem_cons_zero, List.getElem_cons_succ]
  repeat (go_big_quiet_step (fail))
  refine wpQuiet_nil ?_
  refine mixZ_bar rfl (by rfl) ?_
  simp only [List.getElem_toArray, List.getElem_cons_zero, List.getElem_cons_succ]
  go_simp
  refine (take3 P.b 0 0 V4 H4.out.xb).mono ?_
  rintro e V5 ⟨rfl, hb5⟩
  have H5 := Lib.hid (H4.out.below hb5)
  have HK5 := Lib.hid (HK4.out.trans (H4.out.sp.kept hb5))
  clear hb5 H4 HK4
  refine ⟨KeptS A km V3, HK5.out, fun _ h => h, ?_⟩
  refine mixZ_bar rfl (by rfl) ?_
  simp only [List.getElem_toArray, List.getElem_cons_zero, List.getElem_cons_succ]
  go_simp
  have HEI := Lib.hid (show Calls Tryz.prog 23 #[.pointer (some ⟨S, 0, none⟩), .int .i64 0, .int .i64 0] V5 (SpRes V5 B S km A 0 τ8 (fun _ => false) 0 0) from relEither_yes H5.out.sp (Den.zero H5.out.sp.ok) (Den.zero H5.out.sp.ok) (a := 0) (b := 0) (Grow.wid H5.out.sp.ok.wf.two (Wid.const false)) (by have := HM.out; have := HT8.out.nl; omega))
  refine HEI.out.mono ?_
  rintro e V6 hr
  have hk6 := hr.1
  obtain ⟨r9, τ9, rfl, hs9, ht9, hd9⟩ := hr.room H5.out.sp.ok.h0
  obtain rfl := hd9.same (Den.zero hs9.ok) hs9.ok
  have H6 := Lib.hid (H5.out.kept hk6 hs9)
  have HT9 := Lib.hid (HT8.out.trans ht9)
  have HK6 := Lib.hid (HK5.out.trans hk6)
  clear hr hs9 ht9 hd9 hk6 HEI H5 HK5
  refine ⟨KeptS A km V3, HK6.out, fun _ h => h, ?_⟩
  refine mixZ_take [10, 11] [_, _] rfl rfl ?_
  simp only [List.getElem_toArray, List.getElem_cons_zero, List.getElem_cons_succ]
  repeat (go_big_quiet_step (fail))
  refine wpQuiet_nil ?_
  refine mixZ_bar rfl (by rfl) ?_
  simp only [List.getElem_toArray, List.getElem_cons_zero, List.getElem_cons_succ]
  go_simp
  refine (take3 P.b 0 0 V6 H6.out.xb).mono ?_
  rintro e V7 ⟨rfl, hb7⟩
  have H7 := Lib.hid (H6.out.below hb7)
  have HK7 := Lib.hid (HK6.out.trans (H6.out.sp.kept hb7))
  clear hb7 H6 HK6
  refine ⟨KeptS A km V3, HK7.out, fun _ h => h, ?_⟩
  have c7 := cell0 H7.out.xo
  have f7 := frozen_of_row _ _ 0 _ _ H7.out.xo
  have H10 : Hid (RelB3 w0 (V7.setCell ⟨P.o, 0, none⟩ (.int .i64 0)) B S km A 0 τ9 P dest l (.slice (some ⟨bL, oL, none⟩) l.length cl) Fs v 1 0) := Lib.hid (H7.out.setO 0)
  refine mixZ_end rfl (by rfl) ?_
  simp only [List.getElem_toArray, List.getElem_cons_zero, List.getElem_cons_succ]
  go_simp
  generalize V7.setCell ⟨P.o, 0, none⟩ (.int .i64 0) = W10 at *
  have cb := cell0 H10.out.xb
  have HFIN : Hid (∃ (τ' : Sg), RelB3 w0 W10 B S km A 0 τ' P dest l (.slice (some ⟨bL, oL, none⟩) l.length cl) Fs v 1 0 ∧ τ'.N.length ≤ τ.N.length + (M * (6080 + 8 * K) + 2280)) := Lib.hid ⟨τ9, H10.out, by have := HT9.out.nl; have := HM.out.1; omega⟩
  clear c7 f7 H7 HK7 HT9 H3
  go_wp2
  go_ret
  exact ⟨rfl, HFIN.out⟩
end
end Go.Proofs.YtdjikiakcfbklaaGreat

/-
  The relation in a space without room is refused (written by wip/gen/genrx3.py).
-/
namespace Go.Proofs.YtdjikiakcfbklaaGreat
open Go Go.RowKit Go.ChangeMaps Go.MapKept Go.Maps Go.Lib Go.Sort

set_option maxRecDepth 100000 in
set_option maxHeartbeats 4000000 in
/-- each, where the first rewrite is of the kind and ends it. -/
theorem eachStop_any {fid : FuncId} {caps : Array Value} {l : List RewV} {vl : Value} {Fs : List FiltV} {v : Value} {dest : Bool} {St Fin : World → Prop}
    (en : ∀ (args : Array Value) (w : World), (callFunc fid args).run Tryz.prog w = .ok (.enter fid args) w)
    (below : ∀ W W', St W → Below W.heap.size W W' → St W') (row : ∀ W, St W → Rd W W.heap.size 3 vl l.length (wcells l)) (fs : ∀ W, St W → FsAt W W.heap.size v Fs)
    {x : RewV} (hx : l[0]? = some x) (hd : x.dest = dest)
    (step : ∀ (A : Option Addr) (c : Nat) (W0 W : World), St W0 → Below W0.heap.size W0 W → Rd W W.heap.size 10 (.slice A (namL Fs x.nm).length c) (namL Fs x.nm).length (rcells (namL Fs x.nm)) → NewAt W0.heap.size (namL Fs x.nm).length A →
      Calls Tryz.prog fid (#[.int .i64 0, .agg #[.string (namNm Fs x.nm), .slice A (namL Fs x.nm).length c]] ++ caps) W fun e W' => e = .returned (.bool false) ∧ Fin W')
    (w : World) (hS : St w) (hlen : Fs.length ≤ 9223372036854775807) :
    Calls Tryz.prog 67 #[vl, v, .bool dest, .func (.func fid) #[] caps] w fun e w' => e = .returned (.tuple #[]) ∧ Fin w' := by
  have HST := Lib.hid step
  have HBE := Lib.hid below
  have HS := Lib.hid hS
  obtain ⟨A, c, hve, hc⟩ := (fs w hS).1.form
  obtain ⟨A', cl, hle, hcl⟩ := (row w hS).form
  have HROW := Lib.hid row
  have HFS := Lib.hid fs
  clear step below hS row fs
  subst hve hle
  have hlt : 0 < l.length := (List.getElem?_eq_some_iff.1 hx).1
  have hI : (0 : Int) < (l.length : Int) := by omega
  go_enter Tryz.func67, Tryz.ntmps67
  go_wp2
  go_loopw [14] (fun i wr => i = .int .i64 0 ∧ Hid (St wr)) (fun _ _ => 0)
  case atStart => exact ⟨rfl, HS⟩
  case round =>
    obtain ⟨rfl, HK⟩ := hrel
    obtain ⟨b, off, c', hv, _, _, hcell⟩ := (HROW.out wr HK.out).posAt (by omega)
    injection hv with hv1 hvl hv3
    subst hv1 hv3
    clear hvl
    have c0 : wr.cell? ⟨b, off, none⟩ = some (.bool x.dest) := by simpa using hcell 0 0 _ (wcell hx rfl)
    have c1 : wr.cell? ⟨b, off + 1, none⟩ = some (.string x.nm) := by simpa using hcell 0 1 _ (wcell hx rfl)
    have c2 : wr.cell? ⟨b, off + 2, none⟩ = some (.int .u32 x.too) := by simpa using hcell 0 2 _ (wcell hx rfl)
    rw [hd] at c0
    clear hcell
    have hW := below1 wr (.cells #[.bool dest, .string x.nm, .int .u32 x.too] 33)
    have HK1 := Lib.hid (HBE.out wr _ HK.out hW)
    have hcon := Lib.hid (rnamed_any Fs (.slice A Fs.length c) x.nm _ (HFS.out _ HK1.out) hlen)
    have HX := Lib.hid (And.intro hx hd)
    clear hW hx hd
    go_upto_region 3 with fail
    clear c0 c1 c2
    have q0 : (wr.alloc (.cells #[.bool dest, .string x.nm, .int .u32 x.too] 33)).cell? ⟨wr.heap.size, 0, none⟩ = some (.bool dest) := cell_of_row _ _ 0 _ _ (0, 0) (blk1 wr _)
    have q1 : (wr.alloc (.cells #[.bool dest, .string x.nm, .int .u32 x.too] 33)).cell? ⟨wr.heap.size, 1, none⟩ = some (.string x.nm) := cell_of_row _ _ 1 _ _ (0, 0) (blk1 wr _)
    generalize wr.alloc (.cells #[.bool dest, .string x.nm, .int .u32 x.too] 33) = w1 at *
    cases dest
    all_goals
      go_wp2_with fail
      refine hcon.out.mono ?_
      rintro e w2 ⟨A2, c2, rfl, hr2, hb2, hn2⟩
      have HR2 := Lib.hid hr2
      have HB2 := Lib.hid hb2
      have HN2 := Lib.hid hn2
      clear hr2 hb2 hn2 q0 q1 hcon
      have hb3 := below1 w2 (.cells #[.string (namNm Fs x.nm), .slice A2 (namL Fs x.nm).length c2] 77)
      have s0 : (w2.alloc (.cells #[.string (namNm Fs x.nm), .slice A2 (namL Fs x.nm).length c2] 77)).cell? ⟨w2.heap.size, 0, none⟩ = some (.string (namNm Fs x.nm)) := cell_of_row _ _ 0 _ _ (0, 0) (blk1 w2 _)
      have s1 : (w2.alloc (.cells #[.string (namNm Fs x.nm), .slice A2 (namL Fs x.nm).length c2] 77)).cell? ⟨w2.heap.size, 1, none⟩ = some (.slice A2 (namL Fs x.nm).length c2) := cell_of_row _ _ 1 _ _ (0, 0) (blk1 w2 _)
      have HSTEP := Lib.hid (HST.out A2 c2 w1 _ HK1.out (HB2.out.trans (hb3.mono HB2.out.size)) ((HR2.out.below hb3).mono hb3.size) HN2.out)
      clear hb3
      go_wp2_with fail
      refine HSTEP.out.mono ?_
      rintro e w4 ⟨rfl, hs4⟩
      have HS4 := Lib.hid hs4
      clear hs4 HSTEP s0 s1
      go_wp2
      (try simp only [Exit.inBlock, Exit.then])
      refine bodyPost_ret (results_none rfl _ _ _) rfl ?_
      exact ⟨rfl, HS4.out⟩
theorem keep_nonconst : ¬ ConstF (sameF 0 0 104) := by
  rintro ⟨b, h⟩
  have h1 := h (fun _ => false)
  have h2 := h (fun v => v == 0)
  rw [show sameF 0 0 104 (fun _ => false) = true by decide +kernel] at h1
  rw [show sameF 0 0 104 (fun v => v == 0) = false by decide +kernel] at h2
  exact absurd (h1.trans h2.symm) (by decide)
section
variable {B S km : Nat} {A : Blks} {σ : Sg} {w0 : World} {P : Bxs} {dest : Bool} {l : List RewV} {vl : Value} {Fs : List FiltV} {v : Value}
set_option maxRecDepth 100000 in
set_option maxHeartbeats 8000000 in
theorem relation_full {w : World} (h : SpOk w B S km A 0 σ) (hkm : B ≤ km) (hl : Rd w B 3 vl l.length (wcells l)) (hf : FsAt w B v Fs) (hlen : Fs.length ≤ 9223372036854775807) (he : rwE Fs l = 0) {x : RewV} (hx : l[0]? = some x) (hd : x.dest = dest) (hok : filtE (namL Fs x.nm) = 0) {K M : Nat} (hfw : FiltW (namL Fs x.nm) K) (hsw : ∀ j, j ≤ (namL Fs x.nm).length → Wid (setF (namL Fs x.nm) j) K)
    (hsn : ¬ ConstF (rwSet Fs x)) (hpn : ¬ ConstF (rwPut dest x)) (hM : (namL Fs x.nm).length ≤ M) (hnl : σ.N.length + (M * (6080 + 8 * K) + 2280 + 936) ≤ 2147483647) :
    Calls Tryz.prog 34 #[.pointer (some ⟨S, 0, none⟩), vl, v, .bool dest] w fun e w' => e = .returned (.tuple #[.int .i64 0, .int .i64 3]) ∧ ∃ (τ : Sg), SpOk w' B S km A 0 τ ∧ KeptS A km w w' := by
  obtain ⟨PL, cL, rfl, _⟩ := hl.form
  obtain ⟨PF, cF, rfl, _⟩ := hf.1.form
  have hb1 : Below w.heap.size w (((w.alloc (.cells #[.pointer (some ⟨S, 0, none⟩)] 41)).alloc (.cells #[.slice PL l.length cL] 22)).alloc (.cells #[.bool dest] 4)) := (below2 w (.cells #[.pointer (some ⟨S, 0, none⟩)] 41) (.cells #[.slice PL l.length cL] 22)).alloc (below2 w (.cells #[.pointer (some ⟨S, 0, none⟩)] 41) (.cells #[.slice PL l.length cL] 22)).size (.cells #[.bool dest] 4)
  obtain ⟨k0, k1, k2⟩ := blk3 w (.cells #[.pointer (some ⟨S, 0, none⟩)] 41) (.cells #[.slice PL l.length cL] 22) (.cells #[.bool dest] 4)
  have H1 := Lib.hid (h.below hb1)
  have HK1 := Lib.hid (h.kept hb1)
  have HB1 := Lib.hid hb1
  have HSZ : Hid (B ≤ w.heap.size ∧ S < w.heap.size ∧ km < w.heap.size) := Lib.hid ⟨by
    obtain ⟨nv, ha⟩ := h.sp.ar
    exact Nat.le_of_lt (Nat.lt_of_le_of_lt (ha.base A.a (by simp [Blks.list])) (lt_of_block ha.cells)), lt_of_block h.sp.cells, h.sp.fk.1⟩
  have HL1 := Lib.hid (hl.below (hb1.mono HSZ.out.1))
  have HF1 := Lib.hid (hf.below (hb1.mono HSZ.out.1))
  have hck := rwCheck_any l _ Fs _ (((w.alloc (.cells #[.pointer (some ⟨S, 0, none⟩)] 41)).alloc (.cells #[.slice PL l.length cL] 22)).alloc (.cells #[.bool dest] 4)) (HL1.out.mono (Nat.le_trans HSZ.out.1 hb1.size)) (HF1.out.mono (Nat.le_trans HSZ.out.1 hb1.size)) hlen
  rw [he] at hck
  have HCK := Lib.hid hck
  have K0 := Lib.hid k0
  have K1 := Lib.hid k1
  have K2 := Lib.hid k2
  have c0 := cell0 k0
  have c1 := cell0 k1
  have HW := Lib.hid (And.intro hok (And.intro hfw (And.intro hsw (And.intro hsn (And.intro hpn hM)))))
  have HX := Lib.hid (And.intro hx hd)
  have HRM := Lib.hid hnl
  have H0 := Lib.hid h
  clear h hl hf hck hb1 k0 k1 k2 hok hfw hsw hsn hpn hM hx hd hnl
  go_enter Tryz.func34, Tryz.ntmps34
  go_upto_region 1 with fail
  generalize (((w.alloc (.cells #[.pointer (some ⟨S, 0, none⟩)] 41)).alloc (.cells #[.slice PL l.length cL] 22)).alloc (.cells #[.bool dest] 4)) = W1 at *
  go_upto_region 6 with ((with_reducible refine HCK.out.mono ?_); rintro e W2 ⟨rfl, hb2⟩; have HB2 := Lib.hid hb2; clear hb2)
  clear c0 c1
  have c0 := cell0 (blk_below HB2.out K0.out)
  have c1 := cell0 (blk_below HB2.out K1.out)
  have c2 := cell0 (blk_below HB2.out K2.out)
  go_upto_region 8 with fail
  have hb3 := below3 W2 (.cells #[.int .i64 0] 113) (.cells #[.int .i64 0] 3) (.cells #[.int .i64 1] 3)
  obtain ⟨j0, j1, j2⟩ := blk3 W2 (.cells #[.int .i64 0] 113) (.cells #[.int .i64 0] 3) (.cells #[.int .i64 1] 3)
  have hb23 : Below W1.heap.size W1 (((W2.alloc (.cells #[.int .i64 0] 113)).alloc (.cells #[.int .i64 0] 3)).alloc (.cells #[.int .i64 1] 3)) := HB2.out.trans (hb3.mono HB2.out.size)
  have hball : Below w.heap.size w (((W2.alloc (.cells #[.int .i64 0] 113)).alloc (.cells #[.int .i64 0] 3)).alloc (.cells #[.int .i64 1] 3)) := HB1.out.trans (hb23.mono HB1.out.size)
  have hz : w.heap.size + 1 + 1 < W2.heap.size := Nat.lt_of_lt_of_le (lt_of_block K2.out) HB2.out.size
  have hlt := lt_of_block j2
  have hin : ∀ x ∈ (⟨W2.heap.size, w.heap.size, W2.heap.size + 1 + 1, w.heap.size + 1 + 1, w.heap.size + 1, W2.heap.size + 1⟩ : Bxs).list, w.heap.size ≤ x ∧ x < (((W2.alloc (.cells #[.int .i64 0] 113)).alloc (.cells #[.int .i64 0] 3)).alloc (.cells #[.int .i64 1] 3)).heap.size := fun x hx => by
    simp only [Bxs.list, List.mem_cons, List.not_mem_nil, or_false] at hx
    rcases hx with rfl | rfl | rfl | rfl | rfl | rfl <;> exact ⟨by omega, by omega⟩
  have hbx : RelBx w (((W2.alloc (.cells #[.int .i64 0] 113)).alloc (.cells #[.int .i64 0] 3)).alloc (.cells #[.int .i64 1] 3)) B S km A 0 σ (⟨W2.heap.size, w.heap.size, W2.heap.size + 1 + 1, w.heap.size + 1 + 1, w.heap.size + 1, W2.heap.size + 1⟩ : Bxs) dest l (.slice PL l.length cL) Fs (.slice PF Fs.length cF) 1 0 :=
    ⟨H0.out.below hball, hkm, j0, blk_below hb23 K0.out, j2, blk_below hb23 K2.out, blk_below hb23 K1.out, j1, by
      simp only [Bxs.list, List.nodup_cons, List.mem_cons, List.not_mem_nil, or_false, not_or, List.nodup_nil, and_true, not_false_eq_true]
      omega, fun x hx => ⟨H0.out.sp.ar.foreign_new hball (hin x hx).1 (hin x hx).2, by have := HSZ.out; have := (hin x hx).1; omega, by have := HSZ.out; have := (hin x hx).1; omega, (hin x hx).1, by have := HSZ.out; have := (hin x hx).1; omega⟩,
      HL1.out.below (hb23.mono (Nat.le_trans HSZ.out.1 HB1.out.size)), HF1.out.below (hb23.mono (Nat.le_trans HSZ.out.1 HB1.out.size)), H0.out.kept hball⟩
  have heach : Calls Tryz.prog 67 #[.slice PL l.length cL, .slice PF Fs.length cF, .bool dest, .func (.func 68) #[] #[.pointer (some ⟨W2.heap.size, 0, none⟩), .pointer (some ⟨w.heap.size, 0, none⟩), .pointer (some ⟨W2.heap.size + 1 + 1, 0, none⟩), .pointer (some ⟨w.heap.size + 1 + 1, 0, none⟩), .pointer (some ⟨w.heap.size + 1, 0, none⟩), .pointer (some ⟨W2.heap.size + 1, 0, none⟩)]] (((W2.alloc (.cells #[.int .i64 0] 113)).alloc (.cells #[.int .i64 0] 3)).alloc (.cells #[.int .i64 1] 3))
      (fun e w' => e = .returned (.tuple #[]) ∧ ∃ τ' : Sg, RelB3 w w' B S km A 0 τ' (⟨W2.heap.size, w.heap.size, W2.heap.size + 1 + 1, w.heap.size + 1 + 1, w.heap.size + 1, W2.heap.size + 1⟩ : Bxs) dest l (.slice PL l.length cL) Fs (.slice PF Fs.length cF) 1 0 ∧ τ'.N.length ≤ σ.N.length + (M * (6080 + 8 * K) + 2280)) :=
    eachStop_any (St := fun W => RelBx w W B S km A 0 σ (⟨W2.heap.size, w.heap.size, W2.heap.size + 1 + 1, w.heap.size + 1 + 1, w.heap.size + 1, W2.heap.size + 1⟩ : Bxs) dest l (.slice PL l.length cL) Fs (.slice PF Fs.length cF) 1 0) (enters_of Tryz.func68 (by kernel_rfl) rfl) (fun W W' hs hb => hs.below hb) (fun W hs => hs.row.mono hs.size) (fun W hs => hs.fs.mono hs.size) HX.out.1 HX.out.2
      (fun PA c W0 W hs hb hr hn => by
        have hrf : RdF A km W 10 (.slice PA (namL Fs x.nm).length c) (namL Fs x.nm).length (rcells (namL Fs x.nm)) := by
          obtain ⟨Q, c', hv, hc, hlen, hp⟩ := hr
          injection hv with e1 e2 e3
          subst e1 e3
          refine ⟨PA, c, rfl, hc, hlen, fun h0 => ?_⟩
          obtain ⟨b, off, hA, hlt, hcell⟩ := hp h0
          obtain ⟨b2, off2, hA2, hge⟩ := hn h0
          rw [hA] at hA2
          injection hA2 with e4
          injection e4 with e4 e5
          subst e4
          exact ⟨b, off, hA, hs.sp.sp.ar.foreign_new hb hge hlt, by have := hs.sp.sp.fk.1; omega, hcell⟩
        exact relStep3 (hs.below hb) HX.out.1 HX.out.2 (namNm Fs x.nm) _ hrf HW.out.1 HW.out.2.1 HW.out.2.2.1 HW.out.2.2.2.1 HW.out.2.2.2.2.1 HW.out.2.2.2.2.2 (by have := HRM.out; omega)) (((W2.alloc (.cells #[.int .i64 0] 113)).alloc (.cells #[.int .i64 0] 3)).alloc (.cells #[.int .i64 1] 3)) hbx hlen
  have HEACH := Lib.hid heach
  have e0 := cell0 (blk_below hb23 K0.out)
  have e1 := cell0 (blk_below hb23 K1.out)
  have e2 := cell0 (blk_below hb23 K2.out)
  clear heach hbx hin hlt hz hball hb23 j0 j1 j2 hb3 c0 c1 c2 HCK K0 K1 K2 HL1 HF1 HK1 H1
  generalize (((W2.alloc (.cells #[.int .i64 0] 113)).alloc (.cells #[.int .i64 0] 3)).alloc (.cells #[.int .i64 1] 3)) = W3 at *
  go_upto_region 9 with ((with_reducible refine HEACH.out.mono ?_); rintro e W4 ⟨rfl, τ4, hx4, ht4⟩; have HX4 := Lib.hid hx4; have HT4 := Lib.hid ht4; clear hx4 ht4)
  clear HEACH
  have hb5 : Below W4.heap.size W4 { W4 with drawn := W4.drawn + 1 } := ⟨rfl, rfl, rfl, Nat.le_refl _, fun _ _ => rfl⟩
  have H5 := Lib.hid (HX4.out.below hb5)
  clear hb5 HX4
  refine wp_region_mixZ (KeptS A km { W4 with drawn := W4.drawn + 1 }) 17 [(0, false), (1, false), (2, false), (3, false), (8, false), (4, true), (5, false), (6, false), (7, true), (9, true), (10, false), (11, false), (12, true), (13, true), (14, false), (15, false), (16, true)] (by kernel_rfl) (by kernel_rfl) (KeptS.refl _ _ _) ?_
  generalize { W4 with drawn := W4.drawn + 1 } = V3 at *
  have d0 : ∀ p : InW (KeptS A km V3), p.w.cell? ⟨w.heap.size, 0, none⟩ = some (.pointer (some ⟨S, 0, none⟩)) := fun p => cell0 ((p.h.same _ (H5.out.fo _ (by simp [Bxs.list])).1 (H5.out.fo w.heap.size (by simp [Bxs.list])).2.1).1.trans H5.out.xs)
  have d1 : ∀ p : InW (KeptS A km V3), p.w.cell? ⟨W2.heap.size + 1, 0, none⟩ = some (.int .i64 0) := fun p => cell0 ((p.h.same _ (H5.out.fo _ (by simp [Bxs.list])).1 (H5.out.fo (W2.heap.size + 1) (by simp [Bxs.list])).2.1).1.trans H5.out.xo)
  have d2 : ∀ p : InW (KeptS A km V3), p.w.cell? ⟨W2.heap.size + 1 + 1, 0, none⟩ = some (.int .i64 1) := fun p => cell0 ((p.h.same _ (H5.out.fo _ (by simp [Bxs.list])).1 (H5.out.fo (W2.heap.size + 1 + 1) (by simp [Bxs.list])).2.1).1.trans H5.out.xl)
  refine mixZ_take [0, 1, 2, 3, 8] [_, _, _, _, _] rfl rfl ?_
  simp only [List.getElem_toArray, List.getElem_cons_zero, List.getElem_cons_succ]
  repeat (go_big_quiet_step (fail))
  refine wpQuiet_nil ?_
  clear d0 d1 d2
  refine mixZ_bar rfl (by rfl) ?_
  simp only [List.getElem_toArray, List.getElem_cons_zero, List.getElem_cons_succ]
  go_simp
  have HKE := Lib.hid (keep_any H5.out.sp (by have := HRM.out; have := HT4.out; omega))
  refine HKE.out.mono ?_
  rintro e V4 hr
  have hk4 := hr.1
  obtain ⟨rfl, τ5, hs5, ht5⟩ := hr.noroom keep_nonconst
  have H6 := Lib.hid (H5.out.kept hk4 hs5)
  have HT5 := Lib.hid ht5.nl
  have HK4 := Lib.hid hk4
  clear hr hs5 ht5 hk4 HKE
  refine ⟨KeptS A km V3, HK4.out, fun _ h => h, ?_⟩
  refine mixZ_take [5, 6] [_, _] rfl rfl ?_
  simp only [List.getElem_toArray, List.getElem_cons_zero, List.getElem_cons_succ]
  repeat (go_big_quiet_step (fail))
  refine wpQuiet_nil ?_
  refine mixZ_bar rfl (by rfl) ?_
  simp only [List.getElem_toArray, List.getElem_cons_zero, List.getElem_cons_succ]
  go_simp
  refine (take3 W2.heap.size 0 3 V4 H6.out.xb).mono ?_
  rintro e V5 ⟨rfl, hb5⟩
  have H7 := Lib.hid (H6.out.below hb5)
  have HK5 := Lib.hid (HK4.out.trans (H6.out.sp.kept hb5))
  clear hb5 H6 HK4
  refine ⟨KeptS A km V3, HK5.out, fun _ h => h, ?_⟩
  refine mixZ_bar rfl (by rfl) ?_
  simp only [List.getElem_toArray, List.getElem_cons_zero, List.getElem_cons_succ]
  go_simp
  have HWH := Lib.hid (show Calls Tryz.prog 22 #[.pointer (some ⟨S, 0, none⟩), .int .i64 0, .int .i64 1] V5 (SpRes V5 B S km A 0 τ5 (fun _ => false) 0 0) from relWhere_yes H7.out.sp (Den.zero H7.out.sp.ok) (Den.one H7.out.sp.ok) (SetF.const true) (a := 0) (b := 0) (Grow.wid H7.out.sp.ok.wf.two (Wid.const false)) (by have := HRM.out; have := HT4.out; have := HT5.out; omega))
  refine HWH.out.mono ?_
  rintro e V6 hr
  have hk6 := hr.1
  obtain ⟨r6, τ6, rfl, hs6, ht6, hd6⟩ := hr.room H7.out.sp.ok.h0
  obtain rfl := hd6.same (Den.zero hs6.ok) hs6.ok
  have H8 := Lib.hid (H7.out.kept hk6 hs6)
  have HT6 := Lib.hid ht6.nl
  have HK6 := Lib.hid (HK5.out.trans hk6)
  clear hr hs6 ht6 hd6 hk6 HWH H7 HK5
  refine ⟨KeptS A km V3, HK6.out, fun _ h => h, ?_⟩
  refine mixZ_take [10, 11] [_, _] rfl rfl ?_
  simp only [List.getElem_toArray, List.getElem_cons_zero, List.getElem_cons_succ]
  repeat (go_big_quiet_step (fail))
  refine wpQuiet_nil ?_
  refine mixZ_bar rfl (by rfl) ?_
  simp only [List.getElem_toArray, List.getElem_cons_zero, List.getElem_cons_succ]
  go_simp
  refine (take3 W2.heap.size 0 0 V6 H8.out.xb).mono ?_
  rintro e V7 ⟨rfl, hb7⟩
  have H9 := Lib.hid (H8.out.below hb7)
  have HK7 := Lib.hid (HK6.out.trans (H8.out.sp.kept hb7))
  clear hb7 H8 HK6
  refine ⟨KeptS A km V3, HK7.out, fun _ h => h, ?_⟩
  refine mixZ_bar rfl (by rfl) ?_
  simp only [List.getElem_toArray, List.getElem_cons_zero, List.getElem_cons_succ]
  go_simp
  have HEI := Lib.hid (show Calls Tryz.prog 23 #[.pointer (some ⟨S, 0, none⟩), .int .i64 0, .int .i64 0] V7 (SpRes V7 B S km A 0 τ6 (fun _ => false) 0 0) from relEither_yes H9.out.sp (Den.zero H9.out.sp.ok) (Den.zero H9.out.sp.ok) (a := 0) (b := 0) (Grow.wid H9.out.sp.ok.wf.two (Wid.const false)) (by have := HRM.out; have := HT4.out; have := HT5.out; have := HT6.out; omega))
  refine HEI.out.mono ?_
  rintro e V8 hr
  have hk8 := hr.1
  obtain ⟨r7, τ7, rfl, hs7, ht7, hd7⟩ := hr.room H9.out.sp.ok.h0
  obtain rfl := hd7.same (Den.zero hs7.ok) hs7.ok
  have H10 := Lib.hid (H9.out.kept hk8 hs7)
  have HK8 := Lib.hid (HK7.out.trans hk8)
  clear hr hs7 ht7 hd7 hk8 HEI H9 HK7
  refine ⟨KeptS A km V3, HK8.out, fun _ h => h, ?_⟩
  refine mixZ_take [14, 15] [_, _] rfl rfl ?_
  simp only [List.getElem_toArray, List.getElem_cons_zero, List.getElem_cons_succ]
  repeat (go_big_quiet_step (fail))
  refine wpQuiet_nil ?_
  refine mixZ_bar rfl (by rfl) ?_
  simp only [List.getElem_toArray, List.getElem_cons_zero, List.getElem_cons_succ]
  go_simp
  refine (take3 W2.heap.size 0 0 V8 H10.out.xb).mono ?_
  rintro e V9 ⟨rfl, hb9⟩
  have H11 := Lib.hid (H10.out.below hb9)
  have HK9 := Lib.hid (HK8.out.trans (H10.out.sp.kept hb9))
  clear hb9 H10 HK8
  refine ⟨KeptS A km V3, HK9.out, fun _ h => h, ?_⟩
  have c7 : V9.cell? ⟨W2.heap.size + 1, 0, none⟩ = some (.int .i64 0) := cell0 H11.out.xo
  have f7 : V9.frozen? ⟨W2.heap.size + 1, 0, none⟩ = false := frozen_of_row _ _ 0 _ _ H11.out.xo
  have H13 : Hid (RelB3 w (V9.setCell ⟨W2.heap.size + 1, 0, none⟩ (.int .i64 0)) B S km A 0 τ7 (⟨W2.heap.size, w.heap.size, W2.heap.size + 1 + 1, w.heap.size + 1 + 1, w.heap.size + 1, W2.heap.size + 1⟩ : Bxs) dest l (.slice PL l.length cL) Fs (.slice PF Fs.length cF) 1 0) := Lib.hid (H11.out.setO 0)
  refine mixZ_end rfl (by rfl) ?_
  simp only [List.getElem_toArray, List.getElem_cons_zero, List.getElem_cons_succ]
  go_simp
  clear c7 f7 H11 HK9
  generalize V9.setCell ⟨W2.heap.size + 1, 0, none⟩ (.int .i64 0) = W10 at *
  have cb : W10.cell? ⟨W2.heap.size, 0, none⟩ = some (.int .i64 3) := cell0 H13.out.xb
  have HFIN : Hid (SpOk W10 B S km A 0 τ7 ∧ KeptS A km w W10) := Lib.hid ⟨H13.out.sp, H13.out.kp⟩
  have hbd : Below W10.heap.size W10 W10.drew := ⟨rfl, rfl, rfl, Nat.le_refl _, fun _ _ => rfl⟩
  have HFIN2 : Hid (SpOk W10.drew B S km A 0 τ7 ∧ KeptS A km w W10.drew) := Lib.hid ⟨HFIN.out.1.below hbd, HFIN.out.2.trans (HFIN.out.1.kept hbd)⟩
  clear H13 HT4 HT5 HT6 hbd HFIN
  go_wp2
  go_region
  all_goals
    go_wp2
    go_ret2
    exact ⟨rfl, τ7, HFIN2.out.1, HFIN2.out.2⟩
end
end Go.Proofs.YtdjikiakcfbklaaGreat

/-
  Relation, Image and Preimage at nobody's space; Image and Preimage of what is no set.
-/
namespace Go.Proofs.YtdjikiakcfbklaaGreat
open Go Go.RowKit Go.ChangeMaps Go.MapKept Go.Maps Go.Lib Go.Sort

section
set_option maxRecDepth 100000
set_option maxHeartbeats 4000000
theorem relationNil_any (PL : Option Addr) (n c : Nat) (v : Value) (dest : Bool) (w : World) : Calls Tryz.prog 34 #[.pointer none, .slice PL n c, v, .bool dest] w fun e w' => e = .returned (.tuple #[.int .i64 0, .int .i64 2]) ∧ Below w.heap.size w w' := by
  have HB := Lib.hid (below3 w (.cells #[.pointer none] 41) (.cells #[.slice PL n c] 22) (.cells #[.bool dest] 4))
  go_enter Tryz.func34, Tryz.ntmps34
  go_wp2
  go_ret2
  exact ⟨rfl, HB.out⟩
theorem throughNil_any (vl v fv : Value) (dest : Bool) (n : Int) (w : World) : Calls Tryz.prog 72 #[.pointer none, vl, v, .bool dest, .int .i64 n, fv] w fun e w' => e = .returned (.tuple #[.int .i64 0, .int .i64 2]) ∧ w' = w := by
  go_enter Tryz.func72, Tryz.ntmps72
  go_wp2
  go_ret2
  exact ⟨rfl, rfl⟩
theorem imageNil_any (vl v : Value) (dest : Bool) (n : Int) (w : World) : Calls Tryz.prog 35 #[.pointer none, vl, v, .bool dest, .int .i64 n] w fun e w' => e = .returned (.tuple #[.int .i64 0, .int .i64 2]) ∧ Below w.heap.size w w' := by
  have HB := Lib.hid (below1 w (.cells #[.pointer none] 41))
  go_enter Tryz.func35, Tryz.ntmps35
  go_wp2_with ((with_reducible refine (throughNil_any _ _ _ _ _ _).mono ?_); rintro e _ ⟨rfl, rfl⟩)
  go_ret2
  exact ⟨rfl, HB.out⟩
theorem preimageNil_any (vl v : Value) (dest : Bool) (n : Int) (w : World) : Calls Tryz.prog 36 #[.pointer none, vl, v, .bool dest, .int .i64 n] w fun e w' => e = .returned (.tuple #[.int .i64 0, .int .i64 2]) ∧ Below w.heap.size w w' := by
  have HB := Lib.hid (below1 w (.cells #[.pointer none] 41))
  go_enter Tryz.func36, Tryz.ntmps36
  go_wp2_with ((with_reducible refine (throughNil_any _ _ _ _ _ _).mono ?_); rintro e _ ⟨rfl, rfl⟩)
  go_ret2
  exact ⟨rfl, HB.out⟩
variable {w : World} {B S km : Nat} {A : Blks} {Mo : Nat} {σ : Sg} {dest : Bool} {l : List RewV} {vl : Value} {Fs : List FiltV} {v : Value}
theorem throughBad_any (h : SpOk w B S km A Mo σ) (hl : Rd w B 3 vl l.length (wcells l)) (hf : FsAt w B v Fs) (hlen : Fs.length ≤ 9223372036854775807) (he : rwE Fs l = 0) (n : Int) (hn : I64 n) (ok : ¬ AllNum σ [n, 0] []) (fv : Value) :
    Calls Tryz.prog 72 #[.pointer (some ⟨S, 0, none⟩), vl, v, .bool dest, .int .i64 n, fv] w (AskRes w B S km A Mo σ (.tuple #[.int .i64 0, .int .i64 1])) := by
  have hsz : B ≤ w.heap.size := by
    obtain ⟨nv, ha⟩ := h.sp.ar
    exact Nat.le_of_lt (Nat.lt_of_le_of_lt (ha.base A.a (by simp [Blks.list])) (lt_of_block ha.cells))
  obtain ⟨PL, cL, rfl, _⟩ := hl.form
  obtain ⟨PF, cF, rfl, _⟩ := hf.1.form
  have hck := rwCheck_any l _ Fs _ w (hl.mono hsz) (hf.mono hsz) hlen
  rw [he] at hck
  have HCK := Lib.hid hck
  have H0 := Lib.hid h
  have HOK := Lib.hid (And.intro hn ok)
  clear h hl hf hck hn ok
  go_enter Tryz.func72, Tryz.ntmps72
  go_upto_region 6 with ((with_reducible refine HCK.out.mono ?_); rintro e W2 ⟨rfl, hb2⟩; have HB2 := Lib.hid hb2; clear hb2)
  have H2 := Lib.hid (H0.out.below HB2.out)
  have HAN := Lib.hid (relAnd_no H2.out n 0 HOK.out.1 (by unfold I64; omega) HOK.out.2)
  go_wp2_with ((with_reducible refine HAN.out.mono ?_); rintro e W3 hr; obtain ⟨he, K, hs3, hk3⟩ := hr; subst he; have HS3 := Lib.hid hs3; have HK3 := Lib.hid hk3; clear hs3 hk3)
  go_ret2
  exact ⟨rfl, K, HS3.out, (H0.out.kept HB2.out).trans HK3.out⟩
theorem imageBad_any (h : SpOk w B S km A Mo σ) (hl : Rd w B 3 vl l.length (wcells l)) (hf : FsAt w B v Fs) (hlen : Fs.length ≤ 9223372036854775807) (he : rwE Fs l = 0) (n : Int) (hn : I64 n) (ok : ¬ AllNum σ [n, 0] []) :
    Calls Tryz.prog 35 #[.pointer (some ⟨S, 0, none⟩), vl, v, .bool dest, .int .i64 n] w (AskRes w B S km A Mo σ (.tuple #[.int .i64 0, .int .i64 1])) := by
  have hsz : B ≤ w.heap.size := by
    obtain ⟨nv, ha⟩ := h.sp.ar
    exact Nat.le_of_lt (Nat.lt_of_le_of_lt (ha.base A.a (by simp [Blks.list])) (lt_of_block ha.cells))
  have hb := below1 w (.cells #[.pointer (some ⟨S, 0, none⟩)] 41)
  have c0 := cell0 (blk1 w (.cells #[.pointer (some ⟨S, 0, none⟩)] 41))
  have H1 := Lib.hid (h.below hb)
  have HK := Lib.hid (h.kept hb)
  have HT := Lib.hid (fun fv => throughBad_any (dest := dest) H1.out (hl.below (hb.mono hsz)) (hf.below (hb.mono hsz)) hlen he n hn ok fv)
  clear h hl hf hb hn ok
  go_enter Tryz.func35, Tryz.ntmps35
  go_upto_region 1 with fail
  generalize w.alloc (.cells #[.pointer (some ⟨S, 0, none⟩)] 41) = w1 at *
  go_wp2_with ((with_reducible refine (HT.out _).mono ?_); rintro e W3 hr; obtain ⟨he, K, hs3, hk3⟩ := hr; subst he; have HS3 := Lib.hid hs3; have HK3 := Lib.hid hk3; clear hs3 hk3)
  go_ret2
  exact ⟨rfl, K, HS3.out, HK.out.trans HK3.out⟩
theorem preimageBad_any (h : SpOk w B S km A Mo σ) (hl : Rd w B 3 vl l.length (wcells l)) (hf : FsAt w B v Fs) (hlen : Fs.length ≤ 9223372036854775807) (he : rwE Fs l = 0) (n : Int) (hn : I64 n) (ok : ¬ AllNum σ [n, 0] []) :
    Calls Tryz.prog 36 #[.pointer (some ⟨S, 0, none⟩), vl, v, .bool dest, .int .i64 n] w (AskRes w B S km A Mo σ (.tuple #[.int .i64 0, .int .i64 1])) := by
  have hsz : B ≤ w.heap.size := by
    obtain ⟨nv, ha⟩ := h.sp.ar
    exact Nat.le_of_lt (Nat.lt_of_le_of_lt (ha.base A.a (by simp [Blks.list])) (lt_of_block ha.cells))
  have hb := below1 w (.cells #[.pointer (some ⟨S, 0, none⟩)] 41)
  have c0 := cell0 (blk1 w (.cells #[.pointer (some ⟨S, 0, none⟩)] 41))
  have H1 := Lib.hid (h.below hb)
  have HK := Lib.hid (h.kept hb)
  have HT := Lib.hid (fun fv => throughBad_any (dest := dest) H1.out (hl.below (hb.mono hsz)) (hf.below (hb.mono hsz)) hlen he n hn ok fv)
  clear h hl hf hb hn ok
  go_enter Tryz.func36, Tryz.ntmps36
  go_upto_region 1 with fail
  generalize w.alloc (.cells #[.pointer (some ⟨S, 0, none⟩)] 41) = w1 at *
  go_wp2_with ((with_reducible refine (HT.out _).mono ?_); rintro e W3 hr; obtain ⟨he, K, hs3, hk3⟩ := hr; subst he; have HS3 := Lib.hid hs3; have HK3 := Lib.hid hk3; clear hs3 hk3)
  go_ret2
  exact ⟨rfl, K, HS3.out, HK.out.trans HK3.out⟩
end
end Go.Proofs.YtdjikiakcfbklaaGreat

/-
  The walk of the law RewriteApplies (written by wip/gen/genrwlaw.py).
-/
namespace Go.Proofs.YtdjikiakcfbklaaGreat
open Go Go.RowKit Go.Sort

theorem Tryz.infoRew : (Tryz.prog.info? 33).map (fun i => (i.zero, i.size, i.bytes)) = some (some (.agg #[.bool false, .string ByteArray.empty, .int .u32 0]), 3, 32) := by kernel_rfl
theorem wcells_one (L : List RewV) : ∀ u ∈ wcells L, u.oneCell' = true := by
  intro u hu
  obtain ⟨r, _, hr⟩ := List.mem_flatMap.1 hu
  simp only [RewV.enc, List.mem_cons, List.not_mem_nil, or_false] at hr
  rcases hr with rfl | rfl | rfl <;> rfl
theorem made_at (W : World) (n : Nat) (e : TypeId) (size : Nat) (hn : W.heap.size = n) : (W.alloc (.cells #[] e)).ownsRow n e size (.slice (some ⟨n, 0, none⟩) 0 0) 0 [] := by
  subst hn
  exact World.ownsRow_made W #[] 0 (Nat.le_refl _) (Nat.zero_le _) (by simp)
/-- '!=' says false of a rewrite and itself. -/
@[go_sem] theorem neqRew (d : Bool) (s : ByteArray) (t : Int) (w : World) : (binOp .neq 33 (.agg #[.bool d, .string s, .int .u32 t]) (.agg #[.bool d, .string s, .int .u32 t])).run Tryz.prog w = .ok (.bool false) w := by
  have hS : Tryz.prog.underlying 33 = some (.struct (Tryz.prog.fieldsOf 33)) := by kernel_rfl
  have hp : Tryz.prog.stoodInHeld 33 = false := by kernel_rfl
  have b1 := Tryz.underlying25
  have b2 := Tryz.isAgg25
  have b3 := Tryz.sizeOf25
  have c1 := Tryz.underlying4
  have c2 := Tryz.isAgg4
  have c3 := Tryz.sizeOf4
  have d1 := Tryz.underlying9
  have d2 := Tryz.isAgg9
  have d3 := Tryz.sizeOf9
  rw [run_neq_struct, show (10000 : Nat) = 9998 + 1 + 1 from rfl, run_equalIn_agg w (9998 + 1) 33 _ _ hS hp]
  generalize 9998 = d
  simp only [Program.fieldsOf, Tryz.underlying33]
  go_simp
theorem wcells_set : ∀ (M : List RewV) (q : Nat) (x : RewV) (a b : Value) (y : RewV), M[q]? = some x → y.enc = [a, .string x.nm, b] → ((wcells M).set (q * 3) a).set (q * 3 + 2) b = wcells (M.set q y)
  | [], q, x, a, b, y, h, _ => by simp at h
  | z :: M, 0, x, a, b, y, h, he => by
    simp at h; subst h
    show [a, .string z.nm, b] ++ wcells M = y.enc ++ wcells M
    rw [he]
  | z :: M, q + 1, x, a, b, y, h, he => by
    have ih := wcells_set M q x a b y (by simpa using h) he
    rw [show (q + 1) * 3 = q * 3 + 3 by omega, show q * 3 + 3 + 2 = q * 3 + 2 + 3 by omega]
    show z.enc ++ ((wcells M).set (q * 3) a).set (q * 3 + 2) b = z.enc ++ wcells (M.set q y)
    rw [ih]
/-- What the law's own memory holds: the header, the rewrites (a copy), the filters. -/
def RWst (h : HeaderV) (g ci n : Nat) (M : List RewV) (v : Value) (Fs : List FiltV) (w : World) (W : World) : Prop :=
  W.heap[w.heap.size]? = some (.cells #[.int .u32 h.src, .int .u32 h.dst, .int .u8 h.proto, .int .u16 h.sp, .int .u16 h.dp] 28 (0, 0)) ∧ W.ownsRow (w.heap.size + 1) 33 3 (.slice (some ⟨g, 0, none⟩) n ci) n (wcells M) ∧ FsAt W w.heap.size v Fs ∧ Below w.heap.size w W ∧ M.length = n
section
variable {h : HeaderV} {g ci n : Nat} {M : List RewV} {v : Value} {Fs : List FiltV} {w W W' : World}
theorem RWst.next (s : RWst h g ci n M v Fs w W) (hb : Below W.heap.size W W') : RWst h g ci n M v Fs w W' := by
  obtain ⟨h1, h2, h3, h4, h5⟩ := s
  exact ⟨blk_below hb h1, owns_kept_none h2 (only_of_below hb none), h3.below (hb.mono h4.size), h4.trans (hb.mono h4.size), h5⟩
theorem RWst.rd (s : RWst h g ci n M v Fs w W) : Rd W W.heap.size 3 (.slice (some ⟨g, 0, none⟩) n ci) M.length (wcells M) := by
  have := Rd.of_own s.2.1
  rw [s.2.2.2.2]; exact this
theorem RWst.fs (s : RWst h g ci n M v Fs w W) : FsAt W W.heap.size v Fs := s.2.2.1.mono s.2.2.2.1.size
theorem RWst.hd (s : RWst h g ci n M v Fs w W) : W.cell? ⟨w.heap.size, 0, none⟩ = some (.int .u32 h.src) ∧ W.cell? ⟨w.heap.size, 1, none⟩ = some (.int .u32 h.dst) ∧ W.cell? ⟨w.heap.size, 2, none⟩ = some (.int .u8 h.proto) ∧ W.cell? ⟨w.heap.size, 3, none⟩ = some (.int .u16 h.sp) ∧ W.cell? ⟨w.heap.size, 4, none⟩ = some (.int .u16 h.dp) :=
  ⟨cell_of_row W w.heap.size 0 _ _ (0, 0) s.1, cell_of_row W w.heap.size 1 _ _ (0, 0) s.1, cell_of_row W w.heap.size 2 _ _ (0, 0) s.1, cell_of_row W w.heap.size 3 _ _ (0, 0) s.1, cell_of_row W w.heap.size 4 _ _ (0, 0) s.1⟩
theorem RWst.bel (s : RWst h g ci n M v Fs w W) : Below w.heap.size w W := s.2.2.2.1
end

end Go.Proofs.YtdjikiakcfbklaaGreat

/-
  Rewrites of the two kinds, and doubled ones: the first that applies decides alike (plain).
-/
namespace Go.Proofs.YtdjikiakcfbklaaGreat
open Go Go.RowKit Go.Sort

theorem idxP_find {α : Type} [Inhabited α] (p : α → Bool) (L : List α) : (idxP p L = -1 ∧ L.find? p = none) ∨ ∃ (k : Nat) (x : α), idxP p L = k ∧ L[k]? = some x ∧ L.find? p = some x := by
  rcases idxP_cases p L with ⟨h1, h2⟩ | ⟨k, x, h1, h2, h3, h4⟩
  · refine .inl ⟨h1, List.find?_eq_none.2 fun x hx => ?_⟩
    obtain ⟨j, hj⟩ := List.mem_iff_getElem?.1 hx
    simp [h2 j x hj]
  · refine .inr ⟨k, x, h1, h2, ?_⟩
    have hk : k < L.length := (List.getElem?_eq_some_iff.1 h2).1
    rw [List.find?_eq_some_iff_append]
    refine ⟨h3, L.take k, L.drop (k + 1), ?_, fun y hy => ?_⟩
    · have h5 := (List.getElem?_eq_some_iff.1 h2).2
      rw [← h5, ← List.drop_eq_getElem_cons hk, List.take_append_drop]
    · obtain ⟨j, hj⟩ := List.mem_iff_getElem?.1 hy
      rw [List.getElem?_take] at hj
      by_cases hjk : j < k
      · rw [if_pos hjk] at hj
        simp [h4 j y hjk hj]
      · rw [if_neg hjk] at hj
        cases hj
/-- What comes of a header, by the first that applies. -/
def apF (o : Option RewV) (dest : Bool) (h : HeaderV) : HeaderV := match o with | some x => if dest = true then setD h x else setS h x | none => h
theorem apH_find {Fs : List FiltV} {l : List RewV} (dest : Bool) (h : HeaderV) (h1 : rwE Fs l = 0) : apH Fs l dest h = apF (l.find? (appB Fs dest h)) dest h := by
  rcases idxP_find (appB Fs dest h) l with ⟨h2, h3⟩ | ⟨k, x, h2, h3, h4⟩
  · rw [apH_miss h1 h2, h3]; rfl
  · rw [h4]
    cases dest with
    | false => rw [apH_s h1 h2 h3]; rfl
    | true => rw [apH_d h1 h2 h3]; rfl
theorem rwE_of {Fs : List FiltV} {l : List RewV} (h : l.length ≤ 256) (h2 : ∀ x ∈ l, errX Fs x = 0) : rwE Fs l = 0 := by
  rw [rwE_2 (by omega)]
  exact chkE_all fun j x hx => h2 x (List.mem_of_getElem? hx)
def kd (b : Bool) (l : List RewV) : List RewV := l.filter (fun x => x.dest == b)
def tw (t : Int) (ht : 0 ≤ t ∧ t < 4294967296) (x : RewV) : RewV := ⟨x.dest, x.nm, t, ht⟩
def bth (t : Int) (ht : 0 ≤ t ∧ t < 4294967296) (l : List RewV) : List RewV := l.flatMap (fun x => [x, tw t ht x])
theorem bth_len (t : Int) (ht : 0 ≤ t ∧ t < 4294967296) : ∀ (l : List RewV), (bth t ht l).length = 2 * l.length
  | [] => rfl
  | x :: l => by
    have := bth_len t ht l
    simp only [bth, List.flatMap_cons, List.length_append, List.length_cons, List.length_nil] at *
    omega
theorem bth_mem {Fs : List FiltV} {t : Int} {ht : 0 ≤ t ∧ t < 4294967296} {l : List RewV} (h : ∀ x ∈ l, errX Fs x = 0) : ∀ x ∈ bth t ht l, errX Fs x = 0 := by
  intro x hx
  obtain ⟨y, hy, hxy⟩ := List.mem_flatMap.1 hx
  simp only [List.mem_cons, List.not_mem_nil, or_false] at hxy
  rcases hxy with rfl | rfl
  · exact h x hy
  · exact h y hy
theorem bth_find (Fs : List FiltV) (dest : Bool) (h : HeaderV) (t : Int) (ht : 0 ≤ t ∧ t < 4294967296) : ∀ (l : List RewV), (bth t ht l).find? (appB Fs dest h) = l.find? (appB Fs dest h)
  | [] => rfl
  | x :: l => by
    have ih := bth_find Fs dest h t ht l
    show (x :: tw t ht x :: bth t ht l).find? (appB Fs dest h) = (x :: l).find? (appB Fs dest h)
    have e : appB Fs dest h (tw t ht x) = appB Fs dest h x := rfl
    by_cases hp : appB Fs dest h x = true
    · rw [List.find?_cons_of_pos hp, List.find?_cons_of_pos hp]
    · rw [List.find?_cons_of_neg hp, List.find?_cons_of_neg (by rw [e]; exact hp), List.find?_cons_of_neg hp, ih]
theorem kd_same (Fs : List FiltV) (dest : Bool) (h : HeaderV) : ∀ (l : List RewV), (kd dest l).find? (appB Fs dest h) = l.find? (appB Fs dest h)
  | [] => rfl
  | x :: l => by
    have ih := kd_same Fs dest h l
    by_cases hd : x.dest = dest
    · have e : kd dest (x :: l) = x :: kd dest l := List.filter_cons_of_pos (by simp [hd])
      rw [e]
      by_cases hp : appB Fs dest h x = true
      · rw [List.find?_cons_of_pos hp, List.find?_cons_of_pos hp]
      · rw [List.find?_cons_of_neg hp, List.find?_cons_of_neg hp, ih]
    · have e : kd dest (x :: l) = kd dest l := List.filter_cons_of_neg (by simp [hd])
      have hp : ¬ appB Fs dest h x = true := by simp [appB, hd]
      rw [e, List.find?_cons_of_neg hp, ih]
theorem kd_other (Fs : List FiltV) (dest : Bool) (h : HeaderV) (l : List RewV) : (kd (!dest) l).find? (appB Fs dest h) = none := by
  rw [List.find?_eq_none]
  intro x hx
  have := (List.mem_filter.1 hx).2
  have hd : x.dest = !dest := by simpa using this
  rw [appB, hd]
  cases dest <;> simp
theorem kd_mem {Fs : List FiltV} {b : Bool} {l : List RewV} (h : ∀ x ∈ l, errX Fs x = 0) : ∀ x ∈ kd b l, errX Fs x = 0 := fun x hx => h x (List.mem_filter.1 hx).1
theorem kd_len (b : Bool) (l : List RewV) : (kd b l).length ≤ l.length := List.length_filter_le _ _
theorem kd_two : ∀ (l : List RewV), (kd true l).length + (kd false l).length = l.length
  | [] => rfl
  | x :: l => by
    have ih := kd_two l
    rcases hx : x.dest with _ | _
    · rw [show kd true (x :: l) = kd true l from List.filter_cons_of_neg (by simp [hx]), show kd false (x :: l) = x :: kd false l from List.filter_cons_of_pos (by simp [hx])]
      simp only [List.length_cons]; omega
    · rw [show kd true (x :: l) = x :: kd true l from List.filter_cons_of_pos (by simp [hx]), show kd false (x :: l) = kd false l from List.filter_cons_of_neg (by simp [hx])]
      simp only [List.length_cons]; omega
def trn (l : List RewV) : List RewV := kd true l ++ kd false l
theorem trn_find (Fs : List FiltV) (dest : Bool) (h : HeaderV) (l : List RewV) : (trn l).find? (appB Fs dest h) = l.find? (appB Fs dest h) := by
  rw [trn, List.find?_append]
  cases dest with
  | true =>
    have := kd_other Fs true h l
    rw [show kd (!true) l = kd false l from rfl] at this
    rw [kd_same Fs true h l, this]
    simp
  | false =>
    have := kd_other Fs false h l
    rw [show kd (!false) l = kd true l from rfl] at this
    rw [this, kd_same Fs false h l]
    simp
/-- All that the law asks of what comes of a header. -/
structure Kinds (Fs : List FiltV) (l : List RewV) (h : HeaderV) (t : Int) (ht : 0 ≤ t ∧ t < 4294967296) : Prop where
  e1 : rwE Fs (trn l) = 0
  e2 : rwE Fs (bth t ht l) = 0
  e3 : rwE Fs (kd false l) = 0
  e4 : rwE Fs (kd true l) = 0
  a1 : ∀ dest, apH Fs (trn l) dest h = apH Fs l dest h
  a2 : ∀ dest, apH Fs (bth t ht l) dest h = apH Fs l dest h
  a3 : apH Fs (kd false l) true h = h
  a4 : apH Fs (kd true l) false h = h
theorem kinds_of {Fs : List FiltV} {l : List RewV} (hl : l.length ≤ 100) (he : rwE Fs l = 0) (h : HeaderV) (t : Int) (ht : 0 ≤ t ∧ t < 4294967296) : Kinds Fs l h t ht := by
  have hm := (rwE_fine he).2
  have e1 : rwE Fs (trn l) = 0 := rwE_of (by have := kd_two l; rw [trn, List.length_append]; omega) (fun x hx => by
    rcases List.mem_append.1 hx with hx | hx
    · exact kd_mem hm x hx
    · exact kd_mem hm x hx)
  have e2 : rwE Fs (bth t ht l) = 0 := rwE_of (by rw [bth_len]; omega) (bth_mem hm)
  have e3 : rwE Fs (kd false l) = 0 := rwE_of (by have := kd_len false l; omega) (kd_mem hm)
  have e4 : rwE Fs (kd true l) = 0 := rwE_of (by have := kd_len true l; omega) (kd_mem hm)
  refine ⟨e1, e2, e3, e4, fun dest => ?_, fun dest => ?_, ?_, ?_⟩
  · rw [apH_find dest h e1, apH_find dest h he, trn_find]
  · rw [apH_find dest h e2, apH_find dest h he, bth_find]
  · rw [apH_find true h e3, show kd false l = kd (!true) l from rfl, kd_other]; rfl
  · rw [apH_find false h e4, show kd true l = kd (!false) l from rfl, kd_other]; rfl
end Go.Proofs.YtdjikiakcfbklaaGreat

/-
  An append of several elements tells whether its row lies where it lay; no program in sight.
-/
namespace Go.Proofs.YtdjikiakcfbklaaGreat
open Go Go.RowKit

theorem wpList_pushM {P : Program} {ops : Array Oper} {rest : List Oper} {o : Oper} {a : Act} {Q : Exit → Act → World → Prop} (hgd : o.guard = none) (s x : Operand) (t : TypeId)
    (ho : o.op = .call { callee := .builtin .append, args := #[s, x], argTypes := #[t, t] })
    (e : TypeId) (i : TypeInfo) (z : Value) (size bytes : Nat) (ht : P.underlying t = some (.slice e)) (hi : P.info? e = some i) (hz : i.zero = some z)
    (hsize : i.size = size) (hby : i.bytes = bytes) (hzs : z.cells.size = size) (hsz : 0 < size) (hb64 : bytes ≤ 64) (m : Nat) (hm : 0 < m) (hm2 : m ≤ 1024)
    {w0 : World} {base n : Nat} {v : Value} {xs : List Value} (es : List Value) (hs : a.eval s = v) {g0 : Nat} (hx : a.eval x = .slice (some ⟨g0, 0, none⟩) m m) (hg0 : g0 = w0.heap.size)
    (hown : w0.ownsRow base e size v n xs) (hes : es.length = m * size) (h1 : ∀ u ∈ es, u.oneCell' = true) (hn : n ≤ 1099511627776) (hbase : base ≤ w0.heap.size)
    (h : ∀ v' w', w'.ownsRow base e size v' (n + m) (xs ++ es) → w0.grownBy w' v.ownBlock → Moved v v' w0.heap.size → wpList P ops Q rest (a.put o.dst v') w') : wpList P ops Q (o :: rest) a (w0.alloc (.cells es.toArray e)) := by
  subst hg0
  have hb2 : (n + m) * bytes ≤ 140737488355328 :=
    calc (n + m) * bytes ≤ (1099511627776 + 1024) * 64 := Nat.mul_le_mul (by omega) hb64
      _ ≤ 140737488355328 := by decide
  have hownA := hown.alloc (.cells es.toArray e)
  have hgA : w0.grownBy (w0.alloc (.cells es.toArray e)) none := World.grownBy_alloc w0 _ none
  have hnew := cells_new w0 es e
  rcases hown.2 with ⟨rfl, rfl⟩ | ⟨g, cap, cur, rfl, hbg, hg, hnc, hcm, hcs, htake⟩
  · obtain rfl : xs = [] := List.eq_nil_of_length_eq_zero (by have := hown.1; omega)
    refine wpList_append_grows _ hgd s x t ho e i z size bytes ht hi hz hsize hby hzs hsz none 0 0 [] hs (fun _ => ⟨rfl, rfl⟩) (by simp) (fun b hb => by cases hb) ⟨w0.heap.size, 0, none⟩ m m es hx hes hnew h1 (by omega) (by unfold maxLen; omega) hb2 ?_
    intro v' w' h2 h3
    refine h v' w' (owns_base h2 (by simp; omega)) (grown_none (hgA.trans h3) _) (.inr fun g hg => ?_)
    have := (h2.lt g hg).1
    simp at this; omega
  · by_cases hroom : n + m ≤ cap
    · obtain ⟨w', hr, h2, h3⟩ := run_append_fits (P := P) _ base t o.type e i size ht hi hsize g n cap xs hownA ⟨w0.heap.size, 0, none⟩ m m es hes hnew h1 hroom
      refine wpList_plain hgd fun K hK => ?_
      unfold Oper.wp execOp
      simp only [ho, resolve, invoke, builtin, Sem.run_bind, Sem.run_pure, Result.andThen_ok, List.map_toArray, List.map_cons, List.map_nil, hs, hx, hr]
      exact hK _ _ (h _ w' h2 ((grown_none hgA _).trans h3) (.inl rfl))
    · refine wpList_append_grows _ hgd s x t ho e i z size bytes ht hi hz hsize hby hzs hsz (some ⟨g, 0, none⟩) n cap xs hs (fun hh => by cases hh) hown.1 (fun b hb j u hu => ?_) ⟨w0.heap.size, 0, none⟩ m m es hx hes hnew h1 (by omega) (by unfold maxLen; omega) hb2 ?_
      · injection hb with hb
        subst hb
        exact hownA.cells rfl j u hu
      · intro v' w' h2 h3
        refine h v' w' (owns_base h2 (by simp; omega)) (grown_none (hgA.trans h3) _) (.inr fun g hg => ?_)
        have := (h2.lt g hg).1
        simp at this; omega
/-- An append of several elements, as one operation. -/
theorem oper_pushM {P : Program} {o : Oper} {a : Act} {K : Act → World → Prop} {Q : Exit → Act → World → Prop} (hgd : o.guard = none) (s x : Operand) (t : TypeId)
    (ho : o.op = .call { callee := .builtin .append, args := #[s, x], argTypes := #[t, t] })
    (e : TypeId) (i : TypeInfo) (z : Value) (size bytes : Nat) (ht : P.underlying t = some (.slice e)) (hi : P.info? e = some i) (hz : i.zero = some z)
    (hsize : i.size = size) (hby : i.bytes = bytes) (hzs : z.cells.size = size) (hsz : 0 < size) (hb64 : bytes ≤ 64) (m : Nat) (hm : 0 < m) (hm2 : m ≤ 1024)
    {w0 : World} {base n : Nat} {v : Value} {xs : List Value} (es : List Value) (hs : a.eval s = v) {g0 : Nat} (hx : a.eval x = .slice (some ⟨g0, 0, none⟩) m m) (hg0 : g0 = w0.heap.size)
    (hown : w0.ownsRow base e size v n xs) (hes : es.length = m * size) (h1 : ∀ u ∈ es, u.oneCell' = true) (hn : n ≤ 1099511627776) (hbase : base ≤ w0.heap.size)
    (h : ∀ v' w', w'.ownsRow base e size v' (n + m) (xs ++ es) → w0.grownBy w' v.ownBlock → Moved v v' w0.heap.size → K (a.put o.dst v') w') : o.wp P a (w0.alloc (.cells es.toArray e)) K Q := by
  subst hg0
  have hb2 : (n + m) * bytes ≤ 140737488355328 :=
    calc (n + m) * bytes ≤ (1099511627776 + 1024) * 64 := Nat.mul_le_mul (by omega) hb64
      _ ≤ 140737488355328 := by decide
  have hownA := hown.alloc (.cells es.toArray e)
  have hgA : w0.grownBy (w0.alloc (.cells es.toArray e)) none := World.grownBy_alloc w0 _ none
  have hnew := cells_new w0 es e
  have hw : Region.wanted o (yielded #[] a.tmps) = true := by simp [Region.wanted, hgd]
  rcases hown.2 with ⟨rfl, rfl⟩ | ⟨g, cap, cur, rfl, hbg, hg, hnc, hcm, hcs, htake⟩
  · obtain rfl : xs = [] := List.eq_nil_of_length_eq_zero (by have := hown.1; omega)
    have H := step_append_grows (P := P) (ops := #[]) (o := o) (a := a) (w := w0.alloc (.cells es.toArray e)) (K := K) (Q := Q) (E := False) hgd s x t ho e i z size bytes ht hi hz hsize hby hzs hsz none 0 0 [] hs (fun _ => ⟨rfl, rfl⟩) (by simp) (fun b hb => by cases hb) ⟨w0.heap.size, 0, none⟩ m m es hx hes hnew h1 (by omega) (by unfold maxLen; omega) hb2 (fun v' w' h2 h3 => by
      refine h v' w' (owns_base h2 (by simp; omega)) (grown_none (hgA.trans h3) _) (.inr fun g hg => ?_)
      have := (h2.lt g hg).1
      simp at this; omega)
    rw [if_pos hw] at H
    exact H
  · by_cases hroom : n + m ≤ cap
    · obtain ⟨w', hr, h2, h3⟩ := run_append_fits (P := P) _ base t o.type e i size ht hi hsize g n cap xs hownA ⟨w0.heap.size, 0, none⟩ m m es hes hnew h1 hroom
      unfold Oper.wp execOp
      simp only [ho, resolve, invoke, builtin, Sem.run_bind, Sem.run_pure, Result.andThen_ok, List.map_toArray, List.map_cons, List.map_nil, hs, hx, hr]
      exact h _ w' h2 ((grown_none hgA _).trans h3) (.inl rfl)
    · have H := step_append_grows (P := P) (ops := #[]) (o := o) (a := a) (w := w0.alloc (.cells es.toArray e)) (K := K) (Q := Q) (E := False) hgd s x t ho e i z size bytes ht hi hz hsize hby hzs hsz (some ⟨g, 0, none⟩) n cap xs hs (fun hh => by cases hh) hown.1 (fun b hb j u hu => by
        injection hb with hb
        subst hb
        exact hownA.cells rfl j u hu) ⟨w0.heap.size, 0, none⟩ m m es hx hes hnew h1 (by omega) (by unfold maxLen; omega) hb2 (fun v' w' h2 h3 => by
        refine h v' w' (owns_base h2 (by simp; omega)) (grown_none (hgA.trans h3) _) (.inr fun g hg => ?_)
        have := (h2.lt g hg).1
        simp at this; omega)
      rw [if_pos hw] at H
      exact H
/-- An append of a whole row, nil or laid. -/
theorem wpList_appendA {P : Program} {w : World} {ops : Array Oper} {rest : List Oper} {o : Oper} {a : Act} {Q : Exit → Act → World → Prop} (hgd : o.guard = none) (s x : Operand) (t : TypeId)
    (ho : o.op = .call { callee := .builtin .append, args := #[s, x], argTypes := #[t, t] })
    (base : Nat) (e : TypeId) (i : TypeInfo) (z : Value) (size bytes : Nat) (ht : P.underlying t = some (.slice e)) (hi : P.info? e = some i) (hz : i.zero = some z)
    (hsize : i.size = size) (hby : i.bytes = bytes) (hzs : z.cells.size = size) (hsz : 0 < size)
    (v : Value) (n : Nat) (xs : List Value) (hs : a.eval s = v) (hown : w.ownsRow base e size v n xs) {base' m : Nat} {u : Value} {ys : List Value} (hx : a.eval x = u) (hsrc : w.ownsRow base' e size u m ys)
    (h1 : ∀ u ∈ ys, u.oneCell' = true) (h63 : n + m ≤ maxLen) (hbytes : (n + m) * bytes ≤ 140737488355328) (hbase : base ≤ w.heap.size)
    (h : ∀ v' w', w'.ownsRow base e size v' (n + m) (xs ++ ys) → w.grownBy w' v.ownBlock → wpList P ops Q rest (a.put o.dst v') w') : wpList P ops Q (o :: rest) a w := by
  rcases hsrc.2 with ⟨rfl, rfl⟩ | ⟨g, cap, cur, rfl, _⟩
  · obtain rfl : ys = [] := List.eq_nil_of_length_eq_zero (by have := hsrc.1; omega)
    refine wpList_append_own_none hgd s x t ho base e i size ht hi v n xs hs hown hx (h v w ?_ (World.grownBy.refl w _))
    rw [List.append_nil, Nat.add_zero]; exact hown
  · exact wpList_append_own _ hgd s x t ho base e i z size bytes ht hi hz hsize hby hzs hsz v n xs hs hown ⟨g, 0, none⟩ m cap ys hx hsrc.1 (hsrc.cells rfl) h1 h63 hbytes hbase fun v' w' a1 a2 _ => h v' w' a1 a2
end Go.Proofs.YtdjikiakcfbklaaGreat

/-
  Three growing rows of rewrites, side by side.
-/
namespace Go.Proofs.YtdjikiakcfbklaaGreat
open Go Go.RowKit Go.Sort

def Apart (v u : Value) : Prop := ∀ g, v.ownBlock = some g → u.ownBlock ≠ some g
theorem Apart.symm {v u : Value} (h : Apart v u) : Apart u v := fun g h1 h2 => h g h2 h1
theorem Apart.moved {v u v' : Value} {k : Nat} (h : Apart v u) (hm : Moved v v' k) (hu : ∀ g, u.ownBlock = some g → g < k) : Apart v' u := fun g h1 h2 => by
  rcases hm with hm | hm
  · exact h g (hm ▸ h1) h2
  · have := hm g h1; have := hu g h2; omega
theorem owns_apart {w w' : World} {base : Nat} {e : TypeId} {size n : Nat} {v u : Value} {xs : List Value} (h : w.ownsRow base e size u n xs) (hg : w.grownBy w' v.ownBlock) (ha : Apart u v) : w'.ownsRow base e size u n xs :=
  owns_like h fun g hu => hg.block g (h.lt g hu).2 (fun e => ha g hu e.symm)
structure Rows3 (B : Nat) (w W : World) (vd vs vb : Value) (D S T : List RewV) : Prop where
  bel : Below B w W
  bsz : B ≤ W.heap.size
  d : W.ownsRow B 33 3 vd D.length (wcells D)
  s : W.ownsRow B 33 3 vs S.length (wcells S)
  b : W.ownsRow B 33 3 vb T.length (wcells T)
  ds : Apart vd vs
  db : Apart vd vb
  sb : Apart vs vb
theorem wcells_app (L M : List RewV) : wcells (L ++ M) = wcells L ++ wcells M := by simp [wcells]
theorem below_own {B n : Nat} {w W W' : World} {v : Value} {e : TypeId} {size : Nat} {xs : List Value} (hb : Below B w W) (hs : B ≤ W.heap.size) (ho : W.ownsRow B e size v n xs) (hg : W.grownBy W' v.ownBlock) : Below B w W' :=
  hb.grown hg hs (fun k hk => (ho.lt k hk).1)
section
variable {B : Nat} {w W W' : World} {vd vs vb v' : Value} {D S T : List RewV}
theorem Rows3.size (h : Rows3 B w W vd vs vb D S T) (hb : Below W.heap.size W W') : Rows3 B w W' vd vs vb D S T :=
  ⟨h.bel.trans (hb.mono h.bsz), Nat.le_trans h.bsz hb.size, owns_kept_none h.d (only_of_below hb none), owns_kept_none h.s (only_of_below hb none), owns_kept_none h.b (only_of_below hb none), h.ds, h.db, h.sb⟩
theorem Rows3.pushD (h : Rows3 B w W vd vs vb D S T) {x : RewV} (ho : W'.ownsRow B 33 3 v' (D.length + 1) (wcells D ++ x.enc)) (hg : W.grownBy W' vd.ownBlock) (hm : Moved vd v' W.heap.size) : Rows3 B w W' v' vs vb (D ++ [x]) S T :=
  ⟨below_own h.bel h.bsz h.d hg, Nat.le_trans h.bsz hg.size, by rw [List.length_append, wcells_app]; exact ho, owns_apart h.s hg h.ds.symm, owns_apart h.b hg h.db.symm, h.ds.moved hm (fun g hg' => (h.s.lt g hg').2), h.db.moved hm (fun g hg' => (h.b.lt g hg').2), h.sb⟩
theorem Rows3.pushS (h : Rows3 B w W vd vs vb D S T) {x : RewV} (ho : W'.ownsRow B 33 3 v' (S.length + 1) (wcells S ++ x.enc)) (hg : W.grownBy W' vs.ownBlock) (hm : Moved vs v' W.heap.size) : Rows3 B w W' vd v' vb D (S ++ [x]) T :=
  ⟨below_own h.bel h.bsz h.s hg, Nat.le_trans h.bsz hg.size, owns_apart h.d hg h.ds, by rw [List.length_append, wcells_app]; exact ho, owns_apart h.b hg h.sb.symm, (h.ds.symm.moved hm (fun g hg' => (h.d.lt g hg').2)).symm, h.db, h.sb.moved hm (fun g hg' => (h.b.lt g hg').2)⟩
theorem Rows3.pushB (h : Rows3 B w W vd vs vb D S T) {x y : RewV} (ho : W'.ownsRow B 33 3 v' (T.length + 2) (wcells T ++ (x.enc ++ y.enc))) (hg : W.grownBy W' vb.ownBlock) (hm : Moved vb v' W.heap.size) : Rows3 B w W' vd vs v' D S (T ++ [x, y]) :=
  ⟨below_own h.bel h.bsz h.b hg, Nat.le_trans h.bsz hg.size, owns_apart h.d hg h.db, owns_apart h.s hg h.sb, by rw [List.length_append, wcells_app]; exact ho, h.ds, (h.db.symm.moved hm (fun g hg' => (h.d.lt g hg').2)).symm, (h.sb.symm.moved hm (fun g hg' => (h.s.lt g hg').2)).symm⟩
end
theorem kd_snoc {b : Bool} {l : List RewV} {k : Nat} {x : RewV} (hx : l[k]? = some x) : kd b (l.take (k + 1)) = if x.dest = b then kd b (l.take k) ++ [x] else kd b (l.take k) := by
  rw [List.take_add_one, hx]
  simp only [kd, Option.toList_some, List.filter_append]
  by_cases h : x.dest = b
  · rw [if_pos h]; simp [h]
  · rw [if_neg h]; simp [h]
theorem bth_snoc {t : Int} {ht : 0 ≤ t ∧ t < 4294967296} {l : List RewV} {k : Nat} {x : RewV} (hx : l[k]? = some x) : bth t ht (l.take (k + 1)) = bth t ht (l.take k) ++ [x, tw t ht x] := by
  rw [List.take_add_one, hx]
  simp [bth]
end Go.Proofs.YtdjikiakcfbklaaGreat

/-
  What the closed law RewriteNames asks, plain; a made row of rewrites.
-/
namespace Go.Proofs.YtdjikiakcfbklaaGreat
open Go Go.RowKit Go.ChangeMaps Go.MapKept Go.Maps Go.Lib Go.Sort

def zRew : RewV := ⟨false, ByteArray.empty, 0, by omega⟩
def gRew : RewV := ⟨false, ⟨#[103]⟩, 0, by omega⟩
def hRew : RewV := ⟨false, ⟨#[104]⟩, 0, by omega⟩
def bRew : RewV := ⟨false, ⟨#[98]⟩, 0, by omega⟩
def x7Rew : RewV := ⟨false, ByteArray.empty, 7, by omega⟩
def badR : RuleV := ⟨false, 256, 0, 0, 0, 0, 0, 0, 0, 0, by omega, by omega, by omega, by omega, by omega, by omega, by omega⟩
def exH2 : HeaderV := ⟨184549377, 0, 0, 0, 0, by omega, by omega, by omega, by omega, by omega⟩
/-- The long list, the first q with a name. -/
def mk257 (q : Nat) : List RewV := (List.range 257).map fun i => if i < q then gRew else zRew
theorem mk_len (q : Nat) : (mk257 q).length = 257 := by simp [mk257]
theorem mk_get (q : Nat) {i : Nat} (hi : i < 257) : (mk257 q)[i]? = some (if i < q then gRew else zRew) := by simp [mk257, hi]
theorem mk_set (q : Nat) (hq : q < 257) : (mk257 q).set q gRew = mk257 (q + 1) := by
  apply List.ext_getElem?
  intro i
  by_cases hi : i < 257
  · rw [mk_get (q + 1) hi, List.getElem?_set]
    by_cases h : q = i
    · subst h
      rw [if_pos rfl, if_pos (by rw [mk_len]; exact hq), if_pos (by omega)]
    · rw [if_neg h, mk_get q hi]
      by_cases h2 : i < q
      · rw [if_pos h2, if_pos (by omega)]
      · rw [if_neg h2, if_neg (by omega)]
  · rw [List.getElem?_eq_none (by rw [List.length_set, mk_len]; omega), List.getElem?_eq_none (by rw [mk_len]; omega)]
theorem wcells_set1 : ∀ (M : List RewV) (q : Nat) (x y : RewV), M[q]? = some x → y.enc = [.bool x.dest, .string y.nm, .int .u32 x.too] → (wcells M).set (q * 3 + 1) (.string y.nm) = wcells (M.set q y)
  | [], q, x, y, h, _ => by simp at h
  | z :: M, 0, x, y, h, he => by
    simp at h; subst h
    show [.bool z.dest, .string y.nm, .int .u32 z.too] ++ wcells M = y.enc ++ wcells M
    rw [he]
  | z :: M, q + 1, x, y, h, he => by
    have ih := wcells_set1 M q x y (by simpa using h) he
    rw [show (q + 1) * 3 + 1 = q * 3 + 1 + 3 by omega]
    show z.enc ++ (wcells M).set (q * 3 + 1) (.string y.nm) = z.enc ++ wcells (M.set q y)
    rw [ih]
theorem mk_write (q : Nat) (hq : q < 257) : (wcells (mk257 q)).set (q * 3 + 1) (.string ⟨#[103]⟩) = wcells (mk257 (q + 1)) := by
  have h := wcells_set1 (mk257 q) q zRew gRew (by rw [mk_get q hq, if_neg (by omega)]) rfl
  rw [mk_set q hq] at h
  exact h
theorem mk_cells (q : Nat) : (wcells (mk257 q)).length = 771 := (flat_len RewV.enc 3 rew_len _).trans (by rw [mk_len])
def manyW (w : World) : World := w.alloc (.cells (wcells (mk257 0)).toArray 33)
theorem mkMany (w : World) : (Instr.makeSlice 22 (.int .i64 257) (.int .i64 257)).run Tryz.prog w = .ok (.slice (some ⟨w.heap.size, 0, none⟩) 257 257) (manyW w) := by
  obtain ⟨i0, hi, hz0, hz1, hz2⟩ := info_parts Tryz.infoRew
  have hb : (i0.bytes : Int) * (257 : Int) ≤ 281474976710656 := by rw [hz2]; omega
  have h := run_make (P := Tryz.prog) w 22 33 i0 _ Tryz.underlying22 hi hz0 .i64 .i64 (257 : Int) (257 : Int) (by omega) (Int.le_refl _) hb (by omega)
  have e : madeCells (Value.agg #[.bool false, .string ByteArray.empty, .int .u32 0]).cells ((257 : Int).toNat * i0.size) = (wcells (mk257 0)).toArray := by
    rw [hz1]
    apply Array.ext'
    rw [show ((257 : Int).toNat * 3) = 771 from rfl]
    apply List.ext_getElem?
    intro i
    by_cases hi : i < 771
    · have hm : (mk257 0)[i / 3]? = some zRew := by rw [mk_get 0 (by omega), if_neg (by omega)]
      have h3 : i % 3 < 3 := Nat.mod_lt _ (by omega)
      have hc : ∀ v, zRew.enc[i % 3]? = some v → (wcells (mk257 0))[i]? = some v := fun v hv => by
        have := wcell hm hv
        rwa [Nat.div_add_mod' i 3] at this
      have hs : (Value.agg #[.bool false, .string ByteArray.empty, .int .u32 0]).cells = #[.bool false, .string ByteArray.empty, .int .u32 0] := rfl
      rw [hs]
      have hl : (madeCells #[.bool false, .string ByteArray.empty, .int .u32 0] 771).toList[i]? = some ((#[.bool false, .string ByteArray.empty, .int .u32 0] : Array Value)[i % 3]!) := by
        simp [madeCells, hi]
      rw [hl]
      symm
      obtain h0 | h0 | h0 : i % 3 = 0 ∨ i % 3 = 1 ∨ i % 3 = 2 := by omega
      all_goals
        rw [h0]
        exact hc _ (by rw [h0]; rfl)
    · rw [List.getElem?_eq_none (by simp only [Array.length_toList, size_madeCells]; omega), List.getElem?_eq_none (by rw [mk_cells]; omega)]
  rw [e] at h
  exact h
theorem manyW_row (w : World) : (manyW w).heap[w.heap.size]? = some (.cells (wcells (mk257 0)).toArray 33 (0, 0)) := blk1 w _
theorem manyW_below (w : World) : Below w.heap.size w (manyW w) := below1 w _
theorem many_rd {w : World} {g : Nat} {q : Nat} (h : w.heap[g]? = some (.cells (wcells (mk257 q)).toArray 33 (0, 0))) : Rd w w.heap.size 3 (.slice (some ⟨g, 0, none⟩) 257 257) (mk257 q).length (wcells (mk257 q)) := by
  have := Rd.of_blk (k := 3) (n := 257) (c := 257) h (Nat.le_refl _) (by rw [mk_cells])
  rw [mk_len]
  exact this
theorem many_cut {w : World} {g : Nat} {q : Nat} (h : w.heap[g]? = some (.cells (wcells (mk257 q)).toArray 33 (0, 0))) : Rd w w.heap.size 3 (.slice (some ⟨g, 0, none⟩) 256 257) ((mk257 q).take 256).length (wcells ((mk257 q).take 256)) := by
  have hl : ((mk257 q).take 256).length = 256 := by rw [List.length_take, mk_len]; rfl
  have hc : (wcells ((mk257 q).take 256)).length = 256 * 3 := (flat_len RewV.enc 3 rew_len _).trans (by rw [hl])
  rw [hl]
  refine ⟨_, 257, rfl, by omega, hc, fun _ => ⟨g, 0, rfl, lt_of_block h, fun j u hu => ?_⟩⟩
  rw [Nat.zero_add, cell_of_row w g j _ _ (0, 0) h]
  have hj : j < (wcells ((mk257 q).take 256)).length := (List.getElem?_eq_some_iff.1 hu).1
  have e : wcells (mk257 q) = wcells ((mk257 q).take 256) ++ wcells ((mk257 q).drop 256) := by
    rw [← wcells_app, List.take_append_drop]
  rw [e, List.getElem?_toArray, List.getElem?_append_left hj]
  exact hu
theorem many_write {w : World} {g q : Nat} (hq : q < 257) (h : w.heap[g]? = some (.cells (wcells (mk257 q)).toArray 33 (0, 0))) : (w.setCell ⟨g, q * 3 + 1, none⟩ (.string ⟨#[103]⟩)).heap[g]? = some (.cells (wcells (mk257 (q + 1))).toArray 33 (0, 0)) := by
  rw [heap_setCell_same _ _ _ _ _ (.string ⟨#[103]⟩) h, ← mk_write q hq]
  simp
theorem many_e {Fs : List FiltV} (q : Nat) : rwE Fs (mk257 q) = 1 := rwE_1 (by rw [mk_len]; omega)
theorem mk_mem {q : Nat} {x : RewV} (h : x ∈ mk257 q) : x = gRew ∨ x = zRew := by
  obtain ⟨i, _, rfl⟩ := List.mem_map.1 h
  by_cases hi : i < q
  · exact .inl (if_pos hi)
  · exact .inr (if_neg hi)
theorem zRew_e (Fs : List FiltV) : errX Fs zRew = 0 := errX_0 Fs (by decide +kernel)
theorem mk_zero {x : RewV} (h : x ∈ mk257 0) : x = zRew := by
  obtain ⟨i, _, rfl⟩ := List.mem_map.1 h
  exact if_neg (by omega)
theorem cut0_e : rwE [] ((mk257 0).take 256) = 0 := rwE_of (by rw [List.length_take]; omega) fun x hx => by rw [mk_zero (List.mem_of_mem_take hx)]; exact zRew_e []
theorem cut_e (v0 v1 : Value) (q : Nat) : rwE (smallF v0 v1) ((mk257 q).take 256) = 0 := rwE_of (by rw [List.length_take]; omega) fun x hx => by
  rcases mk_mem (List.mem_of_mem_take hx) with rfl | rfl
  · exact small_err v0 v1 (.inr rfl)
  · exact zRew_e _
theorem nm_h : (⟨#[104]⟩ : ByteArray).toList = [104] := by
  first
    | decide +kernel
    | simp [ByteArray.toList, ByteArray.toList.loop]
theorem nm_b : (⟨#[98]⟩ : ByteArray).toList = [98] := by
  first
    | decide +kernel
    | simp [ByteArray.toList, ByteArray.toList.loop]
theorem h_e (v0 v1 : Value) : rwE (smallF v0 v1) [hRew] = 120 := by
  have hn : ¬ (⟨#[104]⟩ : ByteArray).toList = [] := by rw [nm_h]; simp
  have hf : fnd (smallF v0 v1) ⟨#[104]⟩ = none := fnd_miss (idxP_miss _ _ fun j x hx => by
    have hm := List.mem_of_getElem? hx
    simp only [smallF, List.mem_cons, List.not_mem_nil, or_false] at hm
    unfold hasNm
    rcases hm with rfl | rfl
    · rw [nm_f, nm_h]; decide
    · rw [nm_g, nm_h]; decide)
  have h1 : errX (smallF v0 v1) hRew = 120 := errX_1 (nam_miss hn hf).1
  rw [rwE_2 (by show ¬ 256 < 1; omega), chkE_hit (k := 0) (x := hRew) rfl (by rw [h1]; decide) (fun j y hj _ => by omega), h1]
theorem b_e (v0 v1 v2 : Value) : rwE (smallF v0 v1 ++ [⟨⟨#[98]⟩, v2, [badR]⟩]) [bRew] = 121 := by
  have hn : ¬ (⟨#[98]⟩ : ByteArray).toList = [] := by rw [nm_b]; simp
  have hf := fnd_hit (Fs := smallF v0 v1 ++ [⟨⟨#[98]⟩, v2, [badR]⟩]) (nm := ⟨#[98]⟩) (k := 2) (idxP_hit _ _ 2 _ rfl (by unfold hasNm; simp) (fun j y hj hy => by
    obtain rfl | rfl : j = 0 ∨ j = 1 := by omega
    · injection hy with hy
      subst hy
      unfold hasNm
      rw [nm_f, nm_b]
      decide
    · injection hy with hy
      subst hy
      unfold hasNm
      rw [nm_g, nm_b]
      decide)) rfl
  have hh := nam_hit hn hf
  have h1 : errX (smallF v0 v1 ++ [⟨⟨#[98]⟩, v2, [badR]⟩]) bRew = 121 := errX_2 hh.1 (by rw [show bRew.nm = ⟨#[98]⟩ from rfl, hh.2.1]; exact (by decide +kernel : ¬ filtE [badR] = 0))
  rw [rwE_2 (by show ¬ 256 < 1; omega), chkE_hit (k := 0) (x := bRew) rfl (by rw [h1]; decide) (fun j y hj _ => by omega), h1]
theorem x7_e : rwE [] [x7Rew] = 0 := rwE_of (by show 1 ≤ 256; omega) fun x hx => by
  obtain rfl := List.mem_singleton.1 hx
  exact errX_0 [] (by decide +kernel)
theorem x7_ap : apH [] [x7Rew] false exH2 = setS exH2 x7Rew :=
  apH_s (k := 0) (x := x7Rew) x7_e (idxP_hit _ _ 0 _ rfl (by show (false == false && namP [] ByteArray.empty exH2) = true; rw [namP_none (by decide +kernel)]; rfl) (fun j y hj _ => by omega)) rfl
theorem nil_e : rwE [] [] = 0 := rwE_of (by show 0 ≤ 256; omega) fun x hx => by cases hx
theorem nil_fir : firN [] [] true exH2 = -1 := by rw [firN_ok true exH2 nil_e]; exact idxP_nil _
theorem ten_exH2 : permN [tenR] exH2 = false := by decide +kernel
theorem open_exH2 : permN [openR] exH2 = true := by decide +kernel
theorem small_fir2 (v0 v1 : Value) : firN (smallF v0 v1) smallL false exH2 = 2 := by
  rw [firN_ok false exH2 (small_e v0 v1)]
  exact idxP_hit _ _ 2 _ rfl (by show (false == false && namP (smallF v0 v1) ⟨#[103]⟩ exH2) = true; rw [small_pg, open_exH2]; rfl) (fun j y hj hy => by
    obtain rfl | rfl : j = 0 ∨ j = 1 := by omega
    · injection hy with hy
      subst hy
      show (false == false && namP (smallF v0 v1) ⟨#[102]⟩ exH2) = false
      rw [small_pf, ten_exH2]; rfl
    · injection hy with hy
      subst hy
      rfl)
theorem one_e (v0 v1 : Value) : rwE (smallF v0 v1) [sx1] = 0 := rwE_of (by show 1 ≤ 256; omega) fun x hx => by
  obtain rfl := List.mem_singleton.1 hx
  exact small_err v0 v1 (.inr rfl)
theorem one_left (v0 v1 : Value) : leftW false [sx1] (smallF v0 v1) 1 = fun _ => true := by
  rw [leftW_skip (x := sx1) rfl (by decide)]; rfl
theorem one_out (v0 v1 : Value) : outW false [sx1] (smallF v0 v1) 1 = fun _ => false := by
  rw [outW_skip (x := sx1) rfl (by decide)]; rfl
theorem one_rel (v0 v1 : Value) : relW false [sx1] (smallF v0 v1) = sameF 0 0 104 := by
  funext s
  show (outW false [sx1] (smallF v0 v1) 1 s || (sameF 0 0 104 s && leftW false [sx1] (smallF v0 v1) 1 s)) = _
  rw [one_left, one_out]
  simp
theorem one_keep (v0 v1 : Value) : Wid (fun s => sameF 0 0 104 s && leftW false [sx1] (smallF v0 v1) [sx1].length s) 624 := by
  show Wid (fun s => sameF 0 0 104 s && leftW false [sx1] (smallF v0 v1) 1 s) 624
  rw [one_left]
  exact (WC.keep.op2 (fun x y => x && y) (WC.const true)).wid (by omega)
theorem one_relw (v0 v1 : Value) : Wid (relW false [sx1] (smallF v0 v1)) 624 := by
  rw [one_rel]
  exact WC.keep.wid (by omega)
theorem setx_nonconst (v0 v1 : Value) : ¬ ConstF (rwSet (smallF v0 v1) sx0) := by
  rw [small_rs v0 v1 rfl]
  rintro ⟨b, h⟩
  have h1 := h (fun _ => false)
  have h2 := h (fun v => v == 8 || v == 12)
  rw [show bitsF 0 0 8 10 8 (fun _ => false) = false by decide +kernel] at h1
  rw [show bitsF 0 0 8 10 8 (fun v => v == 8 || v == 12) = true by decide +kernel] at h2
  exact absurd (h1.trans h2.symm) (by decide)
theorem putx_nonconst : ¬ ConstF (rwPut false sx0) := by
  rintro ⟨b, h⟩
  have h1 := h (fun _ => false)
  have h2 := h (bothS exA exB)
  rw [show rwPut false sx0 (fun _ => false) = false by decide +kernel] at h1
  rw [show rwPut false sx0 (bothS exA exB) = true by decide +kernel] at h2
  exact absurd (h1.trans h2.symm) (by decide)
end Go.Proofs.YtdjikiakcfbklaaGreat

/-
  Two spaces side by side.
-/
namespace Go.Proofs.YtdjikiakcfbklaaGreat
open Go Go.RowKit Go.ChangeMaps Go.MapKept Go.Maps Go.Lib Go.Sort

section
variable {w w' : World}
theorem SpOk.calm {B S km : Nat} {A : Blks} {Mo : Nat} {τ : Sg} (h : SpOk w B S km A Mo τ) (hs : w.heap.size ≤ w'.heap.size) (hb : ∀ k, k < w.heap.size → ¬ (Foreign A w k ∧ k ≠ km ∧ k ≠ S) → w'.heap[k]? = w.heap[k]?) :
    SpOk w' B S km A Mo τ ∧ (∀ k, Foreign A w k → Foreign A w' k) ∧ ∀ k, w.heap.size ≤ k → k < w'.heap.size → Foreign A w' k ∧ k ≠ km ∧ k ≠ S := by
  obtain ⟨nv, hA⟩ := h.sp.ar
  obtain ⟨a1, a2, a3⟩ := hA.calm hs fun k hk hn => hb k hk (fun e => hn e.1)
  have hkm := h.sp.fk.1
  have hS := lt_of_block h.sp.cells
  exact ⟨⟨⟨⟨nv, a1⟩, (hb S hS (fun e => e.2.2 rfl)).trans h.sp.cells, a2 _ h.sp.fs, h.sp.known.same (hb km hkm (fun e => e.2.1 rfl)), a2 _ h.sp.fk, h.sp.ne⟩, h.ok⟩, a2, fun k h1 h2 => ⟨a3 k h1 h2, by omega, by omega⟩⟩
/-- Two spaces, each block none of the one's or none of the other's. -/
structure Two (w : World) (B S km : Nat) (A : Blks) (Mo : Nat) (σ : Sg) (B' S' km' : Nat) (A' : Blks) (Mo' : Nat) (τ : Sg) : Prop where
  s : SpOk w B S km A Mo σ
  t : SpOk w B' S' km' A' Mo' τ
  d : ∀ k, k < w.heap.size → (Foreign A w k ∧ k ≠ km ∧ k ≠ S) ∨ (Foreign A' w k ∧ k ≠ km' ∧ k ≠ S')
variable {B S km : Nat} {A : Blks} {Mo : Nat} {σ : Sg} {B' S' km' : Nat} {A' : Blks} {Mo' : Nat} {τ : Sg}
theorem Two.symm (h : Two w B S km A Mo σ B' S' km' A' Mo' τ) : Two w B' S' km' A' Mo' τ B S km A Mo σ := ⟨h.t, h.s, fun k hk => (h.d k hk).symm⟩
/-- A step of the second one. -/
theorem Two.step (h : Two w B S km A Mo σ B' S' km' A' Mo' τ) {τ' : Sg} (hk : KeptS A' km' w w') (ht : SpOk w' B' S' km' A' Mo' τ') : Two w' B S km A Mo σ B' S' km' A' Mo' τ' := by
  obtain ⟨s1, s2, s3⟩ := h.s.calm hk.size (fun k hk2 hn => by
    rcases h.d k hk2 with hd | hd
    · exact absurd hd hn
    · exact (hk.same k hd.1 hd.2.1).1)
  refine ⟨s1, ht, fun k hk2 => ?_⟩
  by_cases hlt : k < w.heap.size
  · rcases h.d k hlt with hd | hd
    · exact .inl ⟨s2 k hd.1, hd.2⟩
    · exact .inr ⟨(hk.same k hd.1 hd.2.1).2, hd.2⟩
  · exact .inl (s3 k (by omega) hk2)
theorem Two.below (h : Two w B S km A Mo σ B' S' km' A' Mo' τ) (hb : Below w.heap.size w w') : Two w' B S km A Mo σ B' S' km' A' Mo' τ := h.step (h.t.kept hb) (h.t.below hb)
/-- A second space is made. -/
theorem Two.made (h : SpOk w B S km A Mo σ) (hb : Below w.heap.size w w') (ht : SpOk w' w.heap.size S' km' A' Mo' τ) (hS : w.heap.size ≤ S') (hkm : w.heap.size ≤ km') : Two w' B S km A Mo σ w.heap.size S' km' A' Mo' τ := by
  obtain ⟨s1, s2, s3⟩ := h.calm (w' := w') hb.size (fun k hk _ => hb.block k hk)
  refine ⟨s1, ht, fun k hk => ?_⟩
  by_cases hlt : k < w.heap.size
  · exact .inr ⟨ht.foreign_low hlt, by omega, by omega⟩
  · exact .inl (s3 k (by omega) hk)
end
end Go.Proofs.YtdjikiakcfbklaaGreat

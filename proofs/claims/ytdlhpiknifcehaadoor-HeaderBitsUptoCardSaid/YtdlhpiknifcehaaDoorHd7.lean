/-
  Walks over headers: Cmp.
-/
import Derived.Test.YtdlhpiknifcehaaDoorHd5
import Derived.Lib.BytesEntry
import Derived.Deep.DeepCutAuto
import Derived.Deep.MidRow
namespace Go.Proofs.YtdlhpiknifcehaaDoor
open Go Go.RowKit Go.Sort

theorem cmpBytes_L : ∀ (l r : List Int), l.length = r.length → (∀ x ∈ l, 0 ≤ x ∧ x < 256) → (∀ x ∈ r, 0 ≤ x ∧ x < 256) → Lib.compareBytes (Lib.bytesOf l) (Lib.bytesOf r) = cmpL l r
  | [], [], _, _, _ => rfl
  | [], _ :: _, h, _, _ => by simp at h
  | _ :: _, [], h, _, _ => by simp at h
  | x :: l, y :: r, h, hl, hr => by
    have ih := cmpBytes_L l r (by simpa using h) (fun z hz => hl z (List.mem_cons_of_mem x hz)) (fun z hz => hr z (List.mem_cons_of_mem y hz))
    have hx := hl x (List.mem_cons_self ..)
    have hy := hr y (List.mem_cons_self ..)
    simp only [Lib.bytesOf, List.map_cons, Lib.compareBytes, cmpL] at ih ⊢
    rw [ih]
    obtain ⟨x, rfl⟩ := Int.eq_ofNat_of_zero_le hx.1
    obtain ⟨y, rfl⟩ := Int.eq_ofNat_of_zero_le hy.1
    have e1 : (UInt8.ofNat x).toNat = x := by simp; omega
    have e2 : (UInt8.ofNat y).toNat = y := by simp; omega
    by_cases h1 : x < y
    · rw [if_pos (by rw [UInt8.lt_iff_toNat_lt]; simp; omega), if_pos (by omega)]
    · by_cases h2 : y < x
      · rw [if_neg (by rw [UInt8.lt_iff_toNat_lt]; simp; omega), if_pos (by rw [UInt8.lt_iff_toNat_lt]; simp; omega), if_neg (by omega), if_pos (by omega)]
      · rw [if_neg (by rw [UInt8.lt_iff_toNat_lt]; simp; omega), if_neg (by rw [UInt8.lt_iff_toNat_lt]; simp; omega), if_neg (by omega), if_neg (by omega)]
/-- The model's entry at two slices. -/
theorem run_compareSlices (xs ys : List Int) (a b : Addr) (n m c d : Nat) (w : World) (hn : xs.length = n) (hm : ys.length = m) (hx : ∀ j x, xs[j]? = some x → w.cell? (a.add j) = some (.int .u8 x)) (hy : ∀ j x, ys[j]? = some x → w.cell? (b.add j) = some (.int .u8 x)) :
    (Extern.BytealgCompare.compare #[.slice (some a) n c, .slice (some b) m d]).run Tryd.prog w = .ok (.int .i64 (Lib.compareBytes (Lib.bytesOf xs) (Lib.bytesOf ys))) w := by
  subst hn hm
  have h1 := Lib.run_loadBytesX (P := Tryd.prog) (w := w) xs a .empty hx
  have h2 := Lib.run_loadBytesX (P := Tryd.prog) (w := w) ys b .empty hy
  change Sem.run Tryd.prog (do pure (goInt (Extern.BytealgCompare.cmp (← Extern.Bytes.bytesOf (.slice (some a) xs.length c)) (← Extern.Bytes.bytesOf (.slice (some b) ys.length d))))) w = _
  simp only [Extern.Bytes.bytesOf, Sem.run_bind, Sem.run_pure, Result.andThen, h1, h2]
  rw [Lib.cmp_eq]
  have e : ∀ l : List UInt8, (⟨ByteArray.empty.data ++ l.toArray⟩ : ByteArray).data.toList = l := fun l => by simp [ByteArray.empty, ByteArray.emptyWithCapacity]; rfl
  rw [e, e]
  rfl
set_option maxRecDepth 100000 in
set_option maxHeartbeats 2000000 in
theorem bytesCompare_any (xs ys : List Int) (a b : Addr) (n m c d : Nat) (w : World) (hn : xs.length = n) (hm : ys.length = m) (hx : ∀ j x, xs[j]? = some x → w.cell? (a.add j) = some (.int .u8 x)) (hy : ∀ j x, ys[j]? = some x → w.cell? (b.add j) = some (.int .u8 x)) :
    Calls Tryd.prog 69 #[.slice (some a) n c, .slice (some b) m d] w fun e w' => e = .returned (.int .i64 (Lib.compareBytes (Lib.bytesOf xs) (Lib.bytesOf ys))) ∧ w' = w := by
  have hL := run_compareSlices xs ys a b n m c d w hn hm hx hy
  go_enter Tryd.func69, Tryd.ntmps69
  go_wp2
  rw [run_callFunc_extern Tryd.func88 (by kernel_rfl) (by kernel_rfl) (by kernel_rfl) (e := Extern.BytealgCompare.compare) (by kernel_rfl), hL]
  simp only [Result.andThen]
  rw [Oper.upon_value]
  go_wp2
  go_ret
  exact ⟨rfl, rfl⟩
theorem zero_cells {w : World} {g : Nat} (H : w.heap[g]? = some (arr (List.replicate 13 0))) : w.cell? ⟨g, 0, none⟩ = some (.int .u8 0) ∧ w.cell? ⟨g, 1, none⟩ = some (.int .u8 0) ∧ w.cell? ⟨g, 2, none⟩ = some (.int .u8 0) ∧ w.cell? ⟨g, 3, none⟩ = some (.int .u8 0) ∧ w.cell? ⟨g, 4, none⟩ = some (.int .u8 0) ∧ w.cell? ⟨g, 5, none⟩ = some (.int .u8 0) ∧ w.cell? ⟨g, 6, none⟩ = some (.int .u8 0) ∧ w.cell? ⟨g, 7, none⟩ = some (.int .u8 0) ∧ w.cell? ⟨g, 8, none⟩ = some (.int .u8 0) ∧ w.cell? ⟨g, 9, none⟩ = some (.int .u8 0) ∧ w.cell? ⟨g, 10, none⟩ = some (.int .u8 0) ∧ w.cell? ⟨g, 11, none⟩ = some (.int .u8 0) ∧ w.cell? ⟨g, 12, none⟩ = some (.int .u8 0) :=
  ⟨arr_cell H (k := 0) rfl, arr_cell H (k := 1) rfl, arr_cell H (k := 2) rfl, arr_cell H (k := 3) rfl, arr_cell H (k := 4) rfl, arr_cell H (k := 5) rfl, arr_cell H (k := 6) rfl, arr_cell H (k := 7) rfl, arr_cell H (k := 8) rfl, arr_cell H (k := 9) rfl, arr_cell H (k := 10) rfl, arr_cell H (k := 11) rfl, arr_cell H (k := 12) rfl⟩
theorem cs_of {x y : Hd} {g : Nat} {W w' : World} (h0 : W.heap[g]? = some x.cells) (h1 : W.heap[g + 1]? = some y.cells) (hb : Below W.heap.size W w') : w'.cell? ⟨g, 0, none⟩ = some (.int .u32 x.src) ∧ w'.cell? ⟨g, 1, none⟩ = some (.int .u32 x.dst) ∧ w'.cell? ⟨g, 2, none⟩ = some (.int .u8 x.proto) ∧ w'.cell? ⟨g, 3, none⟩ = some (.int .u16 x.sp) ∧ w'.cell? ⟨g, 4, none⟩ = some (.int .u16 x.dp) ∧ w'.cell? ⟨g + 1, 0, none⟩ = some (.int .u32 y.src) ∧ w'.cell? ⟨g + 1, 1, none⟩ = some (.int .u32 y.dst) ∧ w'.cell? ⟨g + 1, 2, none⟩ = some (.int .u8 y.proto) ∧ w'.cell? ⟨g + 1, 3, none⟩ = some (.int .u16 y.sp) ∧ w'.cell? ⟨g + 1, 4, none⟩ = some (.int .u16 y.dp) ∧ Below W.heap.size W w' := by
  obtain ⟨c0, c1, c2, c3, c4⟩ := hd_cell (blk_below hb h0)
  obtain ⟨d0, d1, d2, d3, d4⟩ := hd_cell (blk_below hb h1)
  exact ⟨c0, c1, c2, c3, c4, d0, d1, d2, d3, d4, hb⟩
theorem cs_below {x y : Hd} {g : Nat} {W w' : World} (h : w'.cell? ⟨g, 0, none⟩ = some (.int .u32 x.src) ∧ w'.cell? ⟨g, 1, none⟩ = some (.int .u32 x.dst) ∧ w'.cell? ⟨g, 2, none⟩ = some (.int .u8 x.proto) ∧ w'.cell? ⟨g, 3, none⟩ = some (.int .u16 x.sp) ∧ w'.cell? ⟨g, 4, none⟩ = some (.int .u16 x.dp) ∧ w'.cell? ⟨g + 1, 0, none⟩ = some (.int .u32 y.src) ∧ w'.cell? ⟨g + 1, 1, none⟩ = some (.int .u32 y.dst) ∧ w'.cell? ⟨g + 1, 2, none⟩ = some (.int .u8 y.proto) ∧ w'.cell? ⟨g + 1, 3, none⟩ = some (.int .u16 y.sp) ∧ w'.cell? ⟨g + 1, 4, none⟩ = some (.int .u16 y.dp) ∧ Below W.heap.size W w') : Below W.heap.size W w' := h.2.2.2.2.2.2.2.2.2.2
/-- An array of noughts lies there. -/
def ZeroAt (w : World) (g : Nat) : Prop := w.heap[g]? = some (.cells #[.int .u8 0, .int .u8 0, .int .u8 0, .int .u8 0, .int .u8 0, .int .u8 0, .int .u8 0, .int .u8 0, .int .u8 0, .int .u8 0, .int .u8 0, .int .u8 0, .int .u8 0] 49)
theorem zat_lt {w : World} {g : Nat} (h : ZeroAt w g) : g < w.heap.size := lt_of_block h
theorem zat_new (w : World) : ZeroAt (w.alloc (.cells #[.int .u8 0, .int .u8 0, .int .u8 0, .int .u8 0, .int .u8 0, .int .u8 0, .int .u8 0, .int .u8 0, .int .u8 0, .int .u8 0, .int .u8 0, .int .u8 0, .int .u8 0] 49)) w.heap.size := heap_alloc_new _ _
theorem zat_new1 (w : World) (o : Obj) : ZeroAt ((w.alloc o).alloc (.cells #[.int .u8 0, .int .u8 0, .int .u8 0, .int .u8 0, .int .u8 0, .int .u8 0, .int .u8 0, .int .u8 0, .int .u8 0, .int .u8 0, .int .u8 0, .int .u8 0, .int .u8 0] 49)) (w.heap.size + 1) := (blk2 _ _ _).2
theorem zat_alloc (w : World) (o : Obj) (g : Nat) (h : ZeroAt w g) : ZeroAt (w.alloc o) g := (Below.heap_alloc _ _ _ (zat_lt h)).trans h
theorem zat_below {w w' : World} {g : Nat} (hb : Below w.heap.size w w') (h : ZeroAt w g) : ZeroAt w' g := blk_below hb h
theorem zat_there (w : World) (g : Nat) (h : ZeroAt w g) : w.there g 0 13 := fun j hj => by
  have e : w.heap[g]? = some (arr (List.replicate 13 0)) := h
  refine ⟨?_, frozen_row e _⟩
  rw [Nat.zero_add, cell_of_row w g j _ _ _ e]
  simp [hj]
theorem zat_drew {w : World} {g : Nat} (h : ZeroAt w g) : ZeroAt w.drew g := h
theorem th1 (w : World) : (w.alloc (.cells #[.int .u8 0, .int .u8 0, .int .u8 0, .int .u8 0, .int .u8 0, .int .u8 0, .int .u8 0, .int .u8 0, .int .u8 0, .int .u8 0, .int .u8 0, .int .u8 0, .int .u8 0] 49)).there w.heap.size 0 13 := zat_there _ _ (zat_new w)
theorem th2 (w : World) (o : Obj) : ((w.alloc o).alloc (.cells #[.int .u8 0, .int .u8 0, .int .u8 0, .int .u8 0, .int .u8 0, .int .u8 0, .int .u8 0, .int .u8 0, .int .u8 0, .int .u8 0, .int .u8 0, .int .u8 0, .int .u8 0] 49)).there (w.heap.size + 1) 0 13 := zat_there _ _ (zat_new1 w o)
theorem th3 (w : World) (o : Obj) : ((w.alloc (.cells #[.int .u8 0, .int .u8 0, .int .u8 0, .int .u8 0, .int .u8 0, .int .u8 0, .int .u8 0, .int .u8 0, .int .u8 0, .int .u8 0, .int .u8 0, .int .u8 0, .int .u8 0] 49)).alloc o).there w.heap.size 0 13 := zat_there _ _ (zat_alloc _ _ _ (zat_new w))
theorem th5 (w : World) (o : Obj) (g : Nat) (h : ZeroAt w g) : (w.alloc o).there g 0 13 := zat_there _ _ (zat_alloc _ _ _ h)
theorem th6 (w : World) (o o' : Obj) (g : Nat) (h : ZeroAt w g) : ((w.alloc o).alloc o').there g 0 13 := zat_there _ _ (zat_alloc _ _ _ (zat_alloc _ _ _ h))
theorem ts1 (w : World) (b k : Nat) (vs : List Value) : ((w.alloc (.cells #[.int .u8 0, .int .u8 0, .int .u8 0, .int .u8 0, .int .u8 0, .int .u8 0, .int .u8 0, .int .u8 0, .int .u8 0, .int .u8 0, .int .u8 0, .int .u8 0, .int .u8 0] 49)).setCells b k vs).there w.heap.size 0 13 := World.there_setCells (th1 w) b k vs
theorem ts2 (w : World) (o : Obj) (b k : Nat) (vs : List Value) : (((w.alloc o).alloc (.cells #[.int .u8 0, .int .u8 0, .int .u8 0, .int .u8 0, .int .u8 0, .int .u8 0, .int .u8 0, .int .u8 0, .int .u8 0, .int .u8 0, .int .u8 0, .int .u8 0, .int .u8 0] 49)).setCells b k vs).there (w.heap.size + 1) 0 13 := World.there_setCells (th2 w o) b k vs
theorem ts3 (w : World) (o : Obj) (b k : Nat) (vs : List Value) : (((w.alloc (.cells #[.int .u8 0, .int .u8 0, .int .u8 0, .int .u8 0, .int .u8 0, .int .u8 0, .int .u8 0, .int .u8 0, .int .u8 0, .int .u8 0, .int .u8 0, .int .u8 0, .int .u8 0] 49)).alloc o).setCells b k vs).there w.heap.size 0 13 := World.there_setCells (th3 w o) b k vs
theorem ts4 (w : World) (g : Nat) (b k : Nat) (vs : List Value) (h : ZeroAt w g) : (w.setCells b k vs).there g 0 13 := World.there_setCells (zat_there _ _ h) b k vs
theorem ts5 (w : World) (o : Obj) (g : Nat) (b k : Nat) (vs : List Value) (h : ZeroAt w g) : ((w.alloc o).setCells b k vs).there g 0 13 := World.there_setCells (th5 w o g h) b k vs
theorem ts6 (w : World) (o o' : Obj) (g : Nat) (b k : Nat) (vs : List Value) (h : ZeroAt w g) : (((w.alloc o).alloc o').setCells b k vs).there g 0 13 := World.there_setCells (th6 w o o' g h) b k vs
theorem there_sets (w : World) (b o : Nat) (vs : List Value) (g n : Nat) (h : w.there g 0 n) : (w.setCells b o vs).there g 0 n := World.there_setCells h b o vs
theorem below_sets {B : Nat} {a : World} (b : Nat) (hb : B ≤ b) : ∀ (vs : List Value) (o : Nat) (w : World), Below B a w → Below B a (w.setCells b o vs)
  | [], _, _, h => h
  | v :: r, o, w, h => by
    rw [World.setCells]
    exact below_sets b hb r (o + 1) _ (h.setCell (p := ⟨b, o, none⟩) hb v)
set_option maxRecDepth 100000 in
set_option maxHeartbeats 8000000 in
theorem cmp_any (x y : Hd) (hx : x.ok) (hy : y.ok) (w : World) :
    Calls Tryd.prog 42 #[.agg #[.int .u32 x.src, .int .u32 x.dst, .int .u8 x.proto, .int .u16 x.sp, .int .u16 x.dp], .agg #[.int .u32 y.src, .int .u32 y.dst, .int .u8 y.proto, .int .u16 y.sp, .int .u16 y.dp]] w fun e w' => e = .returned (.int .i64 (cmpN x.val y.val)) ∧ Below w.heap.size w w' := by
  have hA := fun v : World => bytes_any x hx v
  have hB := fun v : World => bytes_any y hy v
  have hk := blk2 w x.cells y.cells
  have hb0 := below2 w x.cells y.cells
  go_enter Tryd.func42, Tryd.ntmps42
  go_upto_region 1 with fail
  have hW : ((w.alloc (.cells #[.int .u32 x.src, .int .u32 x.dst, .int .u8 x.proto, .int .u16 x.sp, .int .u16 x.dp] 48)).alloc (.cells #[.int .u32 y.src, .int .u32 y.dst, .int .u8 y.proto, .int .u16 y.sp, .int .u16 y.dp] 48)) = (w.alloc x.cells).alloc y.cells := rfl
  rw [hW]
  have hsz : ((w.alloc x.cells).alloc y.cells).heap.size = w.heap.size + 1 + 1 := by simp
  generalize (w.alloc x.cells).alloc y.cells = W at *
  clear hW
  have HK0 := Lib.hid hk.1
  have HK1 := Lib.hid hk.2
  have hb0' := Lib.hid hb0
  have hlx : (x.bytes.map (Value.int .u8)).length = 13 := rfl
  have hly : (y.bytes.map (Value.int .u8)).length = 13 := rfl
  have hox : ∀ v ∈ x.bytes.map (Value.int .u8), v.oneCell' = true := fun v hv => by
    obtain ⟨z, _, rfl⟩ := List.mem_map.1 hv
    rfl
  have hoy : ∀ v ∈ y.bytes.map (Value.int .u8), v.oneCell' = true := fun v hv => by
    obtain ⟨z, _, rfl⟩ := List.mem_map.1 hv
    rfl
  obtain ⟨X, hX⟩ : ∃ X, X = x.bytes.map (Value.int .u8) := ⟨_, rfl⟩
  obtain ⟨Y, hY⟩ : ∃ Y, Y = y.bytes.map (Value.int .u8) := ⟨_, rfl⟩
  rw [← hX] at hA hlx hox
  rw [← hY] at hB hly hoy
  have HX := Lib.hid hX
  have HY := Lib.hid hY
  have HA := Lib.hid hA
  have HB := Lib.hid hB
  clear hX hY hA hB
  have hin : (Tryd.prog.info? 49).map (fun i => i.size) = some 13 := by kernel_rfl
  have hT1 := th1
  have hT2 := th2
  have hT3 := th3
  have hT4 := zat_there
  have hT5 := th5
  have hT6 := th6
  have hU1 := ts1
  have hU2 := ts2
  have hU3 := ts3
  have hU4 := ts4
  have hU5 := ts5
  have hU6 := ts6
  have hrf := Below.refl W.heap.size W
  have hszl : w.heap.size ≤ W.heap.size := by omega
  have HRx := Lib.hid (bytes_range x hx)
  have HRy := Lib.hid (bytes_range y hy)
  have HOx := Lib.hid hx
  have HOy := Lib.hid hy
  clear hk hb0 hx hy hsz
  go_cut [5, 6] (fun s5 s6 wx => ∃ p q : Nat, s5 = .pointer (some ⟨p, 0, none⟩) ∧ s6 = .pointer (some ⟨q, 0, none⟩) ∧ Hid (wx.rangeAt p 0 X) ∧ Hid (wx.rangeAt q 0 Y) ∧ Hid (Below w.heap.size w wx))
  case first =>
    go_region_held3 (fun w' => w'.cell? ⟨w.heap.size, 0, none⟩ = some (.int .u32 x.src) ∧ w'.cell? ⟨w.heap.size, 1, none⟩ = some (.int .u32 x.dst) ∧ w'.cell? ⟨w.heap.size, 2, none⟩ = some (.int .u8 x.proto) ∧ w'.cell? ⟨w.heap.size, 3, none⟩ = some (.int .u16 x.sp) ∧ w'.cell? ⟨w.heap.size, 4, none⟩ = some (.int .u16 x.dp) ∧ w'.cell? ⟨w.heap.size + 1, 0, none⟩ = some (.int .u32 y.src) ∧ w'.cell? ⟨w.heap.size + 1, 1, none⟩ = some (.int .u32 y.dst) ∧ w'.cell? ⟨w.heap.size + 1, 2, none⟩ = some (.int .u8 y.proto) ∧ w'.cell? ⟨w.heap.size + 1, 3, none⟩ = some (.int .u16 y.sp) ∧ w'.cell? ⟨w.heap.size + 1, 4, none⟩ = some (.int .u16 y.dp) ∧ Below W.heap.size W w') ((refine cs_of HK0.out HK1.out ?_; first | (with_reducible first | exact hrf.drew | exact hQ6 | exact hQ5 | (have hP := cs_below (x := x) (y := y) (g := w.heap.size) (W := W) (by assumption); first | exact hP.alloc hP.size _ | exact hP.drew | exact below_sets _ (by omega) _ _ _ hP)) | exact (hrf.alloc (Nat.le_refl _) _).drew | exact ((hrf.alloc (Nat.le_refl _) _).alloc (by simp) _).drew))
      ((first | (go_at_call 33; with_reducible refine (HA.out _).mono ?_; rintro e w5 ⟨rfl, hb5⟩; with_reducible (have hP5 := cs_below (x := x) (y := y) (g := w.heap.size) (W := W) (by assumption)); have hQ5 : Below W.heap.size W w5 := hP5.trans (hb5.mono hP5.size); have hs5 : W.heap.size ≤ w5.heap.size := hQ5.size; (try have Z : ZeroAt w5 W.heap.size := zat_below hb5 (by (first | exact zat_drew (zat_new _) | exact zat_drew (zat_new1 _ _) | exact zat_drew (zat_alloc _ _ _ (zat_new _)) | exact zat_new _ | exact zat_new1 _ _ | exact zat_alloc _ _ _ (zat_new _)))); (try have Y : ZeroAt w5 (W.heap.size + 1) := zat_below hb5 (by first | exact zat_drew (zat_new1 _ _) | exact zat_new1 _ _)); (try have Zl := zat_lt Z); (try have Yl := zat_lt Y); clear hb5 hP5) | (go_at_call 33; with_reducible refine (HB.out _).mono ?_; rintro e w6 ⟨rfl, hb6⟩; with_reducible (have hP6 := cs_below (x := x) (y := y) (g := w.heap.size) (W := W) (by assumption)); have hQ6 : Below W.heap.size W w6 := hP6.trans (hb6.mono hP6.size); have hs6 : W.heap.size ≤ w6.heap.size := hQ6.size; have hs56 : w5.heap.size ≤ w6.heap.size := (by have hh := hb6.size; first | exact hh | (simp at hh; omega)); (try have Z2 : ZeroAt w6 W.heap.size := zat_below hb6 (by (first | exact Z | exact zat_alloc _ _ _ Z | exact zat_alloc _ _ _ (zat_alloc _ _ _ Z)))); (try have Y2 : ZeroAt w6 (W.heap.size + 1) := zat_below hb6 (by (first | exact Y | exact zat_alloc _ _ _ Y | exact zat_alloc _ _ _ (zat_alloc _ _ _ Y)))); (try have X2 : ZeroAt w6 w5.heap.size := zat_below hb6 (by (first | exact zat_drew (zat_new _) | exact zat_drew (zat_new1 _ _) | exact zat_drew (zat_alloc _ _ _ (zat_new _)) | exact zat_new _ | exact zat_new1 _ _ | exact zat_alloc _ _ _ (zat_new _)))); (try have V2 : ZeroAt w6 (w5.heap.size + 1) := zat_below hb6 (zat_new1 _ _)); (try have Z2l := zat_lt Z2); (try have Y2l := zat_lt Y2); (try have X2l := zat_lt X2); (try have V2l := zat_lt V2); clear hb6 hP6)))
    all_goals
      with_reducible (have hP := cs_below (x := x) (y := y) (g := w.heap.size) (W := W) (by assumption))
      go_wp2
      go_meet
      refine ⟨_, _, rfl, rfl, Lib.hid (World.rangeAt_setCells_apart (World.rangeAt_setCells_same _ _ _ _ (by rw [hlx]; simp only [*])) _ _ _ (Or.inl (by omega))), Lib.hid (World.rangeAt_setCells_same _ _ _ _ (by rw [hly]; simp only [*])), Lib.hid (hb0'.out.trans (hP.mono hszl))⟩
  case rest =>
    obtain ⟨p, q, rfl, rfl, hRx, hRy, hBw⟩ := hcut
    have hbx : ∀ j v, x.bytes[j]? = some v → wc.cell? ((⟨p, 0, none⟩ : Addr).add j) = some (.int .u8 v) := fun j v hv => by
      rw [Addr.add_mid]
      exact hRx.out j _ (by rw [HX.out, List.getElem?_map, hv]; rfl)
    have hby : ∀ j v, y.bytes[j]? = some v → wc.cell? ((⟨q, 0, none⟩ : Addr).add j) = some (.int .u8 v) := fun j v hv => by
      rw [Addr.add_mid]
      exact hRy.out j _ (by rw [HY.out, List.getElem?_map, hv]; rfl)
    have hC := Lib.hid (fun (d : Nat) (os : Array Obj) => (bytesCompare_any x.bytes y.bytes ⟨p, 0, none⟩ ⟨q, 0, none⟩ 13 13 13 13 (grow (redrawn wc d) os) rfl rfl (fun j v hv => cell_regrown (hbx j v hv) d os) (fun j v hv => cell_regrown (hby j v hv) d os)).mono fun e w' hh => (show e = .returned (.int .i64 (Lib.compareBytes (Lib.bytesOf x.bytes) (Lib.bytesOf y.bytes))) ∧ Below (grow (redrawn wc d) os).heap.size (grow (redrawn wc d) os) w' from ⟨hh.1, hh.2 ▸ Below.refl _ _⟩))
    clear hbx hby hRx hRy
    go_upto_region 2 with fail
    refine wp_region_quiet_below (by kernel_rfl) (by kernel_rfl) ?_
    repeat (first | go_big_quiet_step ((first | (go_at_call 69; with_reducible exact Calls.regrown_of (hC.out _ _)))) | quiet_step ((first | (go_at_call 69; with_reducible exact Calls.regrown_of (hC.out _ _)))))
    refine wpQuiet_nil ?_
    intro _ hw'
    obtain ⟨⟨nq, osq⟩, hw''⟩ := hw'
    subst hw''
    go_wp2
    go_ret
    have hcb : Lib.compareBytes (Lib.bytesOf x.bytes) (Lib.bytesOf y.bytes) = cmpN x.val y.val := (cmpBytes_L x.bytes y.bytes rfl HRx.out HRy.out).trans (cmpL_bytes HOx.out HOy.out)
    exact ⟨congrArg (fun z => Ending.returned (.int .i64 z)) hcb, below_call hBw.out (below_regrown _ nq osq)⟩
end Go.Proofs.YtdlhpiknifcehaaDoor

/-
  Joined texts: LawRwNm.
-/
import Derived.Test.YtdjikiakcfbklaaGreatMRewriteNames13
import Derived.Deep.DeepCutAuto
import Derived.Deep.RegionLawGrows
/-
  The walk of the closed law RewriteNames.
-/
namespace Go.Proofs.YtdjikiakcfbklaaGreat
open Go Go.RowKit Go.ChangeMaps Go.MapKept Go.Maps Go.Lib Go.Sort

/-- What the law's first part lays, and keeps. -/
structure NmA (w W : World) (v0 v1 : Value) (gl gv gh : Nat) : Prop where
  hl : Rd W W.heap.size 3 (.slice (some ⟨gl, 0, none⟩) 3 3) 3 (wcells smallL)
  hf : FsAt W W.heap.size (.slice (some ⟨gv, 0, none⟩) 2 2) (smallF v0 v1)
  hh : W.heap[gh]? = some (.cells #[.int .u32 184549377, .int .u32 0, .int .u8 0, .int .u16 0, .int .u16 0] 28 (0, 0))
  bel : Below w.heap.size w W
section
variable {w W W' : World} {v0 v1 : Value} {gl gv gh gr gb : Nat}
theorem NmA.next (h : NmA w W v0 v1 gl gv gh) (hb : Below W.heap.size W W') : NmA w W' v0 v1 gl gv gh :=
  ⟨(h.hl.below hb).mono hb.size, h.hf.next hb, blk_below hb h.hh, h.bel.trans (hb.mono h.bel.size)⟩
/-- .. with the filter that may not be. -/
structure NmB (w W : World) (v0 v1 : Value) (gl gv gh gr gb : Nat) : Prop where
  a : NmA w W v0 v1 gl gv gh
  br : W.heap[gr]? = some (.cells #[.bool false, .int .i64 256, .int .u32 0, .int .i64 0, .int .u32 0, .int .i64 0, .int .u32 0, .int .u32 0, .int .u32 0, .int .u32 0] 74 (0, 0))
  bb : W.heap[gb]? = some (.cells #[.string ⟨#[98]⟩, .slice (some ⟨gr, 0, none⟩) 1 1] 77 (0, 0))
theorem NmB.next (h : NmB w W v0 v1 gl gv gh gr gb) (hb : Below W.heap.size W W') : NmB w W' v0 v1 gl gv gh gr gb := ⟨h.a.next hb, blk_below hb h.br, blk_below hb h.bb⟩
end
theorem no_neg {σ : Sg} (n : Int) (hn : n < 0) (l : List Int) : ¬ AllNum σ (n :: l) [] := fun h => by
  obtain ⟨g, _, hg, _⟩ := h.2 n (by simp)
  omega
theorem no_rel {σ : Sg} {x : Nat} {F : Fun} (hd : Den σ x F) {v : Nat} (hv : v % 2 = 1) {s : Nat → Bool} {b : Bool} (hF : F (put s v b) ≠ F s) (l : List Int) : ¬ AllNum σ ((x : Int) :: l) [] := fun h => by
  obtain ⟨g, hg, hxg, hs⟩ := h.2 x (by simp)
  obtain rfl : x = g := by omega
  have := hs v hv s b
  simp only [hd.2] at this
  exact hF this
theorem keep_moves : sameF 0 0 104 (put (fun _ => false) 1 true) ≠ sameF 0 0 104 (fun _ => false) := by
  rw [show sameF 0 0 104 (put (fun _ => false) 1 true) = false by decide +kernel, show sameF 0 0 104 (fun _ => false) = true by decide +kernel]
  decide
theorem rd_second {w : World} {B gl : Nat} (h : Rd w B 3 (.slice (some ⟨gl, 0, none⟩) 3 3) 3 (wcells smallL)) : Rd w B 3 (.slice (some ⟨gl, 3, none⟩) 1 2) [sx1].length (wcells [sx1]) := by
  obtain ⟨b, off, c', hv, _, hb, hcell⟩ := h.pos (by omega)
  injection hv with e1 e2 e3
  injection e1 with e1
  injection e1 with e4 e5
  subst e4 e5
  refine ⟨_, 2, rfl, by decide, rfl, fun _ => ⟨_, 3, rfl, hb, fun j u hu => ?_⟩⟩
  have hj : j < 3 := (List.getElem?_eq_some_iff.1 hu).1
  have := hcell (3 + j) u (by
    obtain rfl | rfl | rfl : j = 0 ∨ j = 1 ∨ j = 2 := by omega
    · exact hu
    · exact hu
    · exact hu)
  rwa [Nat.zero_add] at this
theorem Tryz.infoFilt : (Tryz.prog.info? 77).map (fun i => (i.zero, i.size, i.bytes)) = some (some (.agg #[.string ByteArray.empty, .slice none 0 0]), 2, 40) := by kernel_rfl
theorem fcells_app (L M : List FiltV) : fcells (L ++ M) = fcells L ++ fcells M := by simp [fcells]
theorem fs_bad {W W' : World} {v0 v1 v' : Value} {gv gr : Nat} (hf : FsAt W W.heap.size (.slice (some ⟨gv, 0, none⟩) 2 2) (smallF v0 v1)) (kr : W.heap[gr]? = some (.cells #[.bool false, .int .i64 256, .int .u32 0, .int .i64 0, .int .u32 0, .int .i64 0, .int .u32 0, .int .u32 0, .int .u32 0, .int .u32 0] 74 (0, 0)))
    {B : Nat} (ho : W'.ownsRow B 77 2 v' (2 + 1) (fcells (smallF v0 v1) ++ [.string ⟨#[98]⟩, .slice (some ⟨gr, 0, none⟩) 1 1])) (hb : Below W.heap.size W W') : FsAt W' W'.heap.size v' (smallF v0 v1 ++ [⟨⟨#[98]⟩, .slice (some ⟨gr, 0, none⟩) 1 1, [badR]⟩]) := by
  refine ⟨?_, fun f hm => ?_⟩
  · rw [fcells_app]
    exact Rd.of_own ho
  · rcases List.mem_append.1 hm with hm | hm
    · exact (hf.next hb).2 f hm
    · obtain rfl := List.mem_singleton.1 hm
      exact ⟨Rd.of_blk (k := 10) (n := 1) (c := 1) (blk_below hb kr) (Nat.le_refl _) rfl, by show 1 * 64 ≤ _; omega⟩
/-- A goal at which the walk stands still: at an append, guarded or not. -/
def StopN (p : Prop) : Prop := p
theorem below_none {w w' : World} (h : w.grownBy w' none) : Below w.heap.size w w' := ⟨h.os, h.tape, h.output, h.size, fun k hk => h.block k hk (by simp)⟩
theorem stopN0 {p : Prop} (h : StopN p) : p := h
theorem stopG {P : Program} {ops : Array Oper} {Q : Exit → Act → World → Prop} {rest : List Oper} {a : Act} {w : World} {d : Option Tmp} {c : Call} {ty : TypeId} {po : String} {af : Array Edge} {gu : Option (Nat × Bool)} (_ : c.callee = .builtin .append)
    (hw : Region.wanted ⟨d, .call c, ty, po, af, gu⟩ (yielded ops a.tmps) = true) (h : StopN (Oper.wp P ⟨d, .call c, ty, po, af, gu⟩ a w (wpList P ops Q rest) Q)) : wpList P ops Q (⟨d, .call c, ty, po, af, gu⟩ :: rest) a w := by
  unfold wpList
  rw [if_pos hw]
  exact .inl h
theorem oper_append_grows {P : Program} {o : Oper} {a : Act} {w : World} {K : Act → World → Prop} {Q : Exit → Act → World → Prop}
    (s x : Operand) (t : TypeId) (hop : o.op = Op.call { callee := Callee.builtin Builtin.append, args := #[s, x], argTypes := #[t, t] })
    (e : TypeId) (i : TypeInfo) (z : Value) (size bytes : Nat) (h1 : P.underlying t = some (.slice e)) (h2 : P.info? e = some i) (h3 : i.zero = some z) (h4 : i.size = size) (h5 : i.bytes = bytes) (h6 : z.cells.size = size) (h7 : 0 < size)
    (ao : Option Addr) (n cap : Nat) (olds : List Value) (hs : a.eval s = .slice ao n cap) (hnone : ao = none → n = 0 ∧ cap = 0) (hlo : olds.length = n * size) (holds : ∀ b, ao = some b → ∀ j u, olds[j]? = some u → w.cell? (b.add j) = some u)
    (ad : Addr) (m c : Nat) (news : List Value) (hx : a.eval x = .slice (some ad) m c) (hn : news.length = m * size) (hc : ∀ j u, news[j]? = some u → w.cell? (ad.add j) = some u) (h1c : ∀ u ∈ news, u.oneCell' = true)
    (hfull : cap < n + m) (b1 : n + m ≤ maxLen) (b2 : (n + m) * bytes ≤ 140737488355328)
    (hK : ∀ v' w', w'.ownsRow w.heap.size e size v' (n + m) (olds ++ news) → w.grownBy w' none → K (a.put o.dst v') w') : o.wp P a w K Q := by
  obtain ⟨d, op, ty, po, af, gu⟩ := o
  have H := step_append_grows (P := P) (ops := #[]) (o := ⟨d, op, ty, po, af, none⟩) (a := a) (w := w) (K := K) (Q := Q) (E := False) rfl s x t hop e i z size bytes h1 h2 h3 h4 h5 h6 h7 ao n cap olds hs hnone hlo holds ad m c news hx hn hc h1c hfull b1 b2 hK
  rw [if_pos (by simp [Region.wanted])] at H
  exact H
theorem addr_at (b j : Nat) : (⟨b, 0, none⟩ : Addr).add j = ⟨b, j, none⟩ := by
  by_cases h : j = 0
  · subst h; simp [Addr.add]
  · simp [Addr.add, h]
theorem wcells_x7 : wcells [x7Rew] = (#[.bool false, .string ByteArray.empty, .int .u32 7] : Array Value).toList := rfl
section
set_option maxRecDepth 100000
set_option maxHeartbeats 8000000
theorem lawRwNm_any (w : World) : Calls Tryz.prog 5 #[] w fun e w' => e = .returned (.bool true) ∧ Below w.heap.size w w' := by
  obtain ⟨j0, jif, jz0, jz1, jz2⟩ := info_parts Tryz.infoFilt
  have HWK := Lib.hid (lawWorks_any w)
  have HSM := Lib.hid lawSmall_any
  have hmk := mkMany
  go_enter Tryz.func5, Tryz.ntmps5
  go_upto_region 3 with ((with_reducible refine HWK.out.mono ?_); rintro e w1 ⟨rfl, hb1⟩; have HB1 := Lib.hid hb1; clear hb1)
  clear HWK
  go_upto_region 4 with ((with_reducible refine (HSM.out _).mono ?_); rintro e w2 ⟨v0, v1, gl, gv, rfl, hl2, hf2, hb2⟩; have HL2 := Lib.hid hl2; have HF2 := Lib.hid hf2; have HB2 := Lib.hid (HB1.out.trans (hb2.mono HB1.out.size)); clear hl2 hf2 hb2)
  clear HSM HB1
  have hbA := below1 w2 (.cells #[.int .u32 184549377, .int .u32 0, .int .u8 0, .int .u16 0, .int .u16 0] 28)
  have HA := Lib.hid (show NmA w (w2.alloc (.cells #[.int .u32 184549377, .int .u32 0, .int .u8 0, .int .u16 0, .int .u16 0] 28)) v0 v1 gl gv w2.heap.size from ⟨(HL2.out.below hbA).mono hbA.size, HF2.out.next hbA, blk1 w2 _, HB2.out.trans (hbA.mono HB2.out.size)⟩)
  clear hbA HL2 HF2
  go_upto_region 5 with fail
  generalize hgh : w2.heap.size = gh at *
  generalize w2.alloc (.cells #[.int .u32 184549377, .int .u32 0, .int .u8 0, .int .u16 0, .int .u16 0] 28) = w3 at *
  clear hgh HB2
  go_upto_region 6 with ((with_reducible refine (relationNil_any _ _ _ _ _ _).mono ?_); rintro e w4 ⟨rfl, hb4⟩; have HA4 := Lib.hid (HA.out.next hb4); clear hb4)
  go_upto_region 7 with ((with_reducible refine (imageNil_any _ _ _ _ _).mono ?_); rintro e w5 ⟨rfl, hb5⟩; have HA5 := Lib.hid (HA4.out.next hb5); clear hb5)
  go_upto_region 8 with ((with_reducible refine (preimageNil_any _ _ _ _ _).mono ?_); rintro e w6 ⟨rfl, hb6⟩; have HA6 := Lib.hid (HA5.out.next hb6); clear hb6)
  clear HA HA4 HA5
  have hfir := rwFirst_any smallL _ (smallF v0 v1) _ false exH2 w6 HA6.out.hl HA6.out.hf (by show 2 ≤ _; omega)
  rw [small_fir2, small_e] at hfir
  have HFIR : Hid (Calls Tryz.prog 37 #[.slice (some ⟨gl, 0, none⟩) 3 3, .slice (some ⟨gv, 0, none⟩) 2 2, .bool false, .agg #[.int .u32 184549377, .int .u32 0, .int .u8 0, .int .u16 0, .int .u16 0]] w6 (fun e w' => e = .returned (.tuple #[.int .i64 2, .int .i64 0]) ∧ Below w6.heap.size w6 w')) := Lib.hid hfir
  obtain ⟨c0, c1, c2, c3, c4, _⟩ := five_cells HA6.out.hh
  clear hfir
  go_upto_region 9 with ((with_reducible refine HFIR.out.mono ?_); rintro e w7 ⟨rfl, hb7⟩; have HA7 := Lib.hid (HA6.out.next hb7); clear hb7)
  clear HFIR c0 c1 c2 c3 c4 HA6
  have hfir := rwFirst_any [] (.slice none 0 0) [] (.slice none 0 0) true exH2 w7 ⟨_, 0, rfl, Nat.le_refl _, rfl, fun h => absurd h (by decide)⟩ ⟨⟨_, 0, rfl, Nat.le_refl _, rfl, fun h => absurd h (by decide)⟩, fun f hf => by cases hf⟩ (by show 0 ≤ _; omega)
  rw [nil_fir, nil_e] at hfir
  have HFIR : Hid (Calls Tryz.prog 37 #[.slice none 0 0, .slice none 0 0, .bool true, .agg #[.int .u32 184549377, .int .u32 0, .int .u8 0, .int .u16 0, .int .u16 0]] w7 (fun e w' => e = .returned (.tuple #[.int .i64 (-1), .int .i64 0]) ∧ Below w7.heap.size w7 w')) := Lib.hid hfir
  obtain ⟨c0, c1, c2, c3, c4, _⟩ := five_cells HA7.out.hh
  clear hfir
  go_upto_region 10 with ((with_reducible refine HFIR.out.mono ?_); rintro e w8 ⟨rfl, hb8⟩; have HA8 := Lib.hid (HA7.out.next hb8); clear hb8)
  clear HFIR c0 c1 c2 c3 c4 HA7
  go_upto_region 11 with fail
  have hb9 := below2 w8 (.cells #[.bool false, .int .i64 256, .int .u32 0, .int .i64 0, .int .u32 0, .int .i64 0, .int .u32 0, .int .u32 0, .int .u32 0, .int .u32 0] 74) (.cells #[.string ⟨#[98]⟩, .slice (some ⟨w8.heap.size, 0, none⟩) 1 1] 77)
  have hs9 : (w8.alloc (.cells #[.bool false, .int .i64 256, .int .u32 0, .int .i64 0, .int .u32 0, .int .i64 0, .int .u32 0, .int .u32 0, .int .u32 0, .int .u32 0] 74)).heap.size = w8.heap.size + 1 := by simp
  have kr := blk_below (below1 (w8.alloc (.cells #[.bool false, .int .i64 256, .int .u32 0, .int .i64 0, .int .u32 0, .int .i64 0, .int .u32 0, .int .u32 0, .int .u32 0, .int .u32 0] 74)) (.cells #[.string ⟨#[98]⟩, .slice (some ⟨w8.heap.size, 0, none⟩) 1 1] 77)) (blk1 w8 (.cells #[.bool false, .int .i64 256, .int .u32 0, .int .i64 0, .int .u32 0, .int .i64 0, .int .u32 0, .int .u32 0, .int .u32 0, .int .u32 0] 74))
  have kb := blk1 (w8.alloc (.cells #[.bool false, .int .i64 256, .int .u32 0, .int .i64 0, .int .u32 0, .int .i64 0, .int .u32 0, .int .u32 0, .int .u32 0, .int .u32 0] 74)) (.cells #[.string ⟨#[98]⟩, .slice (some ⟨w8.heap.size, 0, none⟩) 1 1] 77)
  rw [hs9] at kb
  have HB9 := Lib.hid (show NmB w ((w8.alloc (.cells #[.bool false, .int .i64 256, .int .u32 0, .int .i64 0, .int .u32 0, .int .i64 0, .int .u32 0, .int .u32 0, .int .u32 0, .int .u32 0] 74)).alloc (.cells #[.string ⟨#[98]⟩, .slice (some ⟨w8.heap.size, 0, none⟩) 1 1] 77)) v0 v1 gl gv gh w8.heap.size (w8.heap.size + 1) from ⟨HA8.out.next hb9, kr, kb⟩)
  clear hb9 hs9 kr kb HA8
  generalize (w8.alloc (.cells #[.bool false, .int .i64 256, .int .u32 0, .int .i64 0, .int .u32 0, .int .i64 0, .int .u32 0, .int .u32 0, .int .u32 0, .int .u32 0] 74)).alloc (.cells #[.string ⟨#[98]⟩, .slice (some ⟨w8.heap.size, 0, none⟩) 1 1] 77) = w9 at *
  generalize w8.heap.size + 1 = gb at *
  generalize w8.heap.size = gr at *
  go_upto_region 12 with fail
  have HB10 := Lib.hid (HB9.out.next (manyW_below w9))
  have HM10 := Lib.hid (manyW_row w9)
  have HZ10 := Lib.hid (manyW_below w9)
  have HGM : Hid (∃ g, w9.heap.size = g) := Lib.hid ⟨_, rfl⟩
  obtain ⟨gm, hgm⟩ := HGM.out
  have HGM2 := Lib.hid hgm
  rw [hgm] at HM10 HZ10
  simp only [hgm]
  clear hgm HGM
  generalize manyW w9 = w10 at *
  have hbx := below1 w10 (.cells #[.bool false, .string ⟨#[]⟩, .int .u32 7] 33)
  have hkx := blk1 w10 (.cells #[.bool false, .string ⟨#[]⟩, .int .u32 7] 33)
  have HBX := Lib.hid (HB10.out.next hbx)
  have HSG : Hid (gm ≤ w10.heap.size) := Lib.hid (Nat.le_of_lt (lt_of_block HM10.out))
  have HZX := Lib.hid (HZ10.out.trans (hbx.mono HSG.out))
  have HMX := Lib.hid (blk_below hbx HM10.out)
  have hap := rwApply_any [x7Rew] (.slice (some ⟨w10.heap.size, 0, none⟩) 1 1) [] (.slice none 0 0) false exH2 (w10.alloc (.cells #[.bool false, .string ⟨#[]⟩, .int .u32 7] 33)) (Rd.of_blk (k := 3) (n := 1) (c := 1) hkx (Nat.le_refl _) rfl) ⟨⟨_, 0, rfl, Nat.le_refl _, rfl, fun h => absurd h (by decide)⟩, fun f hf => by cases hf⟩ (by show 0 ≤ _; omega)
  rw [x7_ap, x7_e] at hap
  have HAP : Hid (Calls Tryz.prog 8 #[.slice (some ⟨w10.heap.size, 0, none⟩) 1 1, .slice none 0 0, .bool false, .agg #[.int .u32 184549377, .int .u32 0, .int .u8 0, .int .u16 0, .int .u16 0]] (w10.alloc (.cells #[.bool false, .string ⟨#[]⟩, .int .u32 7] 33)) (fun e w' => e = .returned (.tuple #[.agg #[.int .u32 7, .int .u32 0, .int .u8 0, .int .u16 0, .int .u16 0], .int .i64 0]) ∧ Below (w10.alloc (.cells #[.bool false, .string ⟨#[]⟩, .int .u32 7] 33)).heap.size (w10.alloc (.cells #[.bool false, .string ⟨#[]⟩, .int .u32 7] 33)) w')) := Lib.hid hap
  obtain ⟨c0, c1, c2, c3, c4, _⟩ := five_cells HBX.out.a.hh
  clear hap hbx hkx HB10 HM10
  go_upto_region 13 with ((with_reducible refine HAP.out.mono ?_); rintro e w11 ⟨rfl, hb11⟩; have HB11 := Lib.hid (HBX.out.next hb11); have HM11 := Lib.hid (blk_below hb11 HMX.out); have HZ11 := Lib.hid (HZX.out.trans (hb11.mono (Nat.le_of_lt (lt_of_block HMX.out)))); clear hb11)
  clear HAP c0 c1 c2 c3 c4 HBX HMX
  have hb12 := below1 w11 (.cells #[.int .u32 7, .int .u32 0, .int .u8 0, .int .u16 0, .int .u16 0] 28)
  have HB12 := Lib.hid (HB11.out.next hb12)
  have HM12 := Lib.hid (blk_below hb12 HM11.out)
  have HZ12 := Lib.hid (HZ11.out.trans (hb12.mono (Nat.le_of_lt (lt_of_block HM11.out))))
  obtain ⟨c0, c1, c2, c3, c4, _⟩ := five_cells (blk1 w11 (.cells #[.int .u32 7, .int .u32 0, .int .u8 0, .int .u16 0, .int .u16 0] 28))
  clear hb12 HB11 HM11
  generalize w11.heap.size = gf at *
  generalize w11.alloc (.cells #[.int .u32 7, .int .u32 0, .int .u8 0, .int .u16 0, .int .u16 0] 28) = w12 at *
  have hc1 := rwCheck_any (mk257 0) _ [] (.slice none 0 0) w12 (many_rd HM12.out) ⟨⟨_, 0, rfl, Nat.le_refl _, rfl, fun h => absurd h (by decide)⟩, fun f hf => by cases hf⟩ (by show 0 ≤ _; omega)
  rw [many_e] at hc1
  have HC1 := Lib.hid hc1
  have HC2 : Hid (∀ w13 : World, w13.heap[gm]? = some (.cells (wcells (mk257 0)).toArray 33 (0, 0)) → Calls Tryz.prog 7 #[.slice (some ⟨gm, 0, none⟩) 256 257, .slice none 0 0] w13 (fun e w' => e = .returned (.int .i64 0) ∧ Below w13.heap.size w13 w')) := Lib.hid fun w13 hm => by
    have h := rwCheck_any ((mk257 0).take 256) _ [] (.slice none 0 0) w13 (many_cut hm) ⟨⟨_, 0, rfl, Nat.le_refl _, rfl, fun h => absurd h (by decide)⟩, fun f hf => by cases hf⟩ (by show 0 ≤ _; omega)
    rw [cut0_e] at h
    exact h
  clear hc1
  go_upto_region 15 with (first
    | ((with_reducible refine HC1.out.mono ?_); rintro e w13 ⟨rfl, hb13⟩; have HB13 := Lib.hid (HB12.out.next hb13); have HM13 := Lib.hid (blk_below hb13 HM12.out); have HZ13 := Lib.hid (HZ12.out.trans (hb13.mono (Nat.le_of_lt (lt_of_block HM12.out)))); clear hb13)
    | ((with_reducible refine (HC2.out w13 HM13.out).mono ?_); rintro e w14 ⟨rfl, hb14⟩; have HB14 := Lib.hid (HB13.out.next hb14); have HM14 := Lib.hid (blk_below hb14 HM13.out); have HZ14 := Lib.hid (HZ13.out.trans (hb14.mono (Nat.le_of_lt (lt_of_block HM13.out)))); clear hb14))
  clear c0 c1 c2 c3 c4 HC1 HC2 HB13 HM13 HB12 HM12
  go_wp2
  go_loopw [18] (fun i wr => ∃ q : Nat, i = .int .i64 q ∧ q ≤ 257 ∧ Hid (Below gm w9 wr) ∧ Hid (wr.heap[gm]? = some (.cells (wcells (mk257 q)).toArray 33 (0, 0)))) (fun i _ => 257 - (intOf i).toNat)
  case atStart => exact ⟨0, rfl, by omega, HZ14, HM14⟩
  case round =>
    obtain ⟨q, rfl, hq, HZ, HM⟩ := hrel
    clear HB14 HM14 HZ14
    by_cases hlt : q < 257
    · have hI : (q : Int) < 257 := by omega
      have c1 : wr.cell? ⟨gm, q * 3 + 1, none⟩ = some (.string ByteArray.empty) := by
        rw [cell_of_row _ _ _ _ _ (0, 0) HM.out, List.getElem?_toArray]
        exact wcell (x := zRew) (by rw [mk_get q hlt, if_neg (by omega)]) rfl
      have f1 := frozen_of_row _ _ (q * 3 + 1) _ _ HM.out
      have HM2 := Lib.hid (many_write hlt HM.out)
      have HZ2 := Lib.hid (HZ.out.setCell (p := ⟨gm, q * 3 + 1, none⟩) (Nat.le_refl _) (.string ⟨#[103]⟩))
      go_wp2_with fail
      exact ⟨⟨q + 1, by go_num, by omega, HZ2, HM2⟩, by simp only [intOf]; omega⟩
    · obtain rfl : q = 257 := by omega
      have hI : ¬ ((257 : Nat) : Int) < 257 := by omega
      have hbr := HB9.out.next (by rw [HGM2.out]; exact HZ.out)
      have HBR := Lib.hid hbr
      clear hbr
      have HNEW := Lib.hid (show Calls Tryz.prog 10 #[.int .i64 4194304] wr (fun e w' => ∃ (S km : Nat) (A : Blks), e = .returned (.tuple #[.pointer (some ⟨S, 0, none⟩), .int .i64 0]) ∧ SpAt w' wr.heap.size S km A 4194304 N0 [] [0, 1] [] ∧ Below wr.heap.size wr w' ∧ wr.heap.size ≤ S ∧ wr.heap.size ≤ km) from relNew_any wr 4194304 (Nat.le_refl _))
      go_upto_region 20 with ((with_reducible refine HNEW.out.mono ?_); rintro e ws ⟨S, km, A, rfl, hs1, hb1, hS1, hkm1⟩; have HS := Lib.hid hs1.newOk; have HBS := Lib.hid hb1; have HLO := Lib.hid (And.intro hS1 hkm1); clear hs1 hb1 hS1 hkm1)
      clear HNEW
      have HNEW := Lib.hid (show Calls Tryz.prog 10 #[.int .i64 0] ws (fun e w' => ∃ (S km : Nat) (A : Blks), e = .returned (.tuple #[.pointer (some ⟨S, 0, none⟩), .int .i64 0]) ∧ SpAt w' ws.heap.size S km A 0 N0 [] [0, 1] [] ∧ Below ws.heap.size ws w' ∧ ws.heap.size ≤ S ∧ ws.heap.size ≤ km) from relNew_any ws 0 (Nat.zero_le _))
      go_upto_region 21 with ((with_reducible refine HNEW.out.mono ?_); rintro e wt ⟨S', km', A', rfl, hs2, hb2, hS2, hkm2⟩; have HT := Lib.hid (Two.made HS.out hb2 hs2.newOk hS2 hkm2); have HZT := Lib.hid (HBS.out.trans (hb2.mono HBS.out.size)); have HLO2 := Lib.hid (And.intro hkm2 HBS.out.size); clear hs2 hb2 hS2 hkm2)
      clear HNEW
      have hst := small_step v0 v1 0 sx0 rfl rfl
      have HREL := Lib.hid (show Calls Tryz.prog 34 #[.pointer (some ⟨S', 0, none⟩), .slice (some ⟨gl, 0, none⟩) 3 3, .slice (some ⟨gv, 0, none⟩) 2 2, .bool false] wt (fun e w' => e = .returned (.tuple #[.int .i64 0, .int .i64 3]) ∧ ∃ (τ : Sg), SpOk w' ws.heap.size S' km' A' 0 τ ∧ KeptS A' km' wt w') from relation_full HT.out.t HLO2.out.1 (l := smallL) ((HBR.out.a.hl.below HZT.out).mono HLO2.out.2) ((HBR.out.a.hf.below HZT.out).mono HLO2.out.2) (by show 2 ≤ _; omega) (small_e v0 v1) (x := sx0) rfl rfl hst.ok hst.fw hst.sw (setx_nonconst v0 v1) putx_nonconst hst.len (by show 2 + _ ≤ _; omega))
      clear hst
      go_upto_region 22 with ((with_reducible refine HREL.out.mono ?_); rintro e wu ⟨rfl, τ1, hs1, hk1⟩; have HT1 := Lib.hid (HT.out.step hk1 hs1); have HZ1 := Lib.hid (HZT.out.trans ((HT.out.t.low HLO2.out.1 hk1).mono HLO2.out.2)); clear hs1 hk1)
      clear HREL HT HZT
      have HIM := Lib.hid (imageBad_any (dest := false) (l := smallL) HT1.out.s (HBR.out.a.hl.below HZ1.out) (HBR.out.a.hf.below HZ1.out) (by show 2 ≤ _; omega) (small_e v0 v1) (-1) (by unfold I64; omega) (no_neg (-1) (by omega) [0]))
      go_upto_region 23 with ((with_reducible refine HIM.out.mono ?_); rintro e wv ⟨rfl, K1, hs1, hk1⟩; have HT2 := Lib.hid (HT1.out.symm.step hk1 hs1).symm; have HZ2 := Lib.hid (HZ1.out.trans (HT1.out.s.low HLO.out.2 hk1)); clear hs1 hk1)
      clear HIM HT1 HZ1
      have HIM := Lib.hid (imageBad_any (dest := false) (l := smallL) HT2.out.t ((HBR.out.a.hl.below HZ2.out).mono HLO2.out.2) ((HBR.out.a.hf.below HZ2.out).mono HLO2.out.2) (by show 2 ≤ _; omega) (small_e v0 v1) (-1) (by unfold I64; omega) (no_neg (-1) (by omega) [0]))
      go_upto_region 24 with ((with_reducible refine HIM.out.mono ?_); rintro e wx ⟨rfl, K2, hs1, hk1⟩; have HT3 := Lib.hid (HT2.out.step hk1 hs1); have HZ3 := Lib.hid (HZ2.out.trans ((HT2.out.t.low HLO2.out.1 hk1).mono HLO2.out.2)); clear hs1 hk1)
      clear HIM HT2 HZ2
      have HKE := Lib.hid (keep_any HT3.out.s (by show 2 + _ ≤ _; omega))
      go_upto_region 27 with ((with_reducible refine HKE.out.mono ?_); rintro e wy hr; obtain ⟨x, σ4, rfl, hs4, ht4, hd4⟩ := hr.room (by show 0 + _ ≤ _; omega); have HT4 := Lib.hid (HT3.out.symm.step hr.1 hs4).symm; have HZ4 := Lib.hid (HZ3.out.trans (HT3.out.s.low HLO.out.2 hr.1)); have HX4 := Lib.hid hd4; have HTO := Lib.hid (And.intro ht4.hl ht4.nl); clear hr hs4 ht4 hd4)
      clear HKE HT3 HZ3
      have HPR := Lib.hid (preimageBad_any (dest := false) (l := smallL) HT4.out.s (HBR.out.a.hl.below HZ4.out) (HBR.out.a.hf.below HZ4.out) (by show 2 ≤ _; omega) (small_e v0 v1) (x : Int) (by have := HX4.out.lt64 HT4.out.s.ok; unfold I64; omega) (no_rel HX4.out (v := 1) (by decide) keep_moves [0]))
      go_upto_region 28 with ((with_reducible refine HPR.out.mono ?_); rintro e wz ⟨rfl, K5, hs1, hk1⟩; have HT5 := Lib.hid (HT4.out.symm.step hk1 hs1).symm; have HZ5 := Lib.hid (HZ4.out.trans (HT4.out.s.low HLO.out.2 hk1)); clear hs1 hk1)
      clear HPR HT4 HZ4
      have HX5 := Lib.hid (HX4.out.known K5)
      have HREL := Lib.hid (show Calls Tryz.prog 34 #[.pointer (some ⟨S, 0, none⟩), .slice (some ⟨gl, 3, none⟩) 1 2, .slice (some ⟨gv, 0, none⟩) 2 2, .bool false] wz (fun e w' => ∃ (r : Nat) (τ : Sg), e = .returned (.tuple #[.int .i64 r, .int .i64 0]) ∧ SpOk w' wr.heap.size S km A 4194304 τ ∧ KeptS A km wz w' ∧ To _ _ (σ4.know K5) τ ∧ Den τ r (relW false [sx1] (smallF v0 v1))) from relation_yes HT5.out.s HLO.out.2 (rd_second (HBR.out.a.hl.below HZ5.out)) (HBR.out.a.hf.below HZ5.out) (by show 2 ≤ _; omega) (by decide) (one_e v0 v1) (M := 0) (K := 624) (fun k y hy hd => by
        have hm := List.mem_singleton.1 (List.mem_of_getElem? hy)
        subst hm
        exact absurd hd (by decide)) (one_keep v0 v1) (one_relw v0 v1) (by have := HTO.out.1; show σ4.H.length + (1 * (0 * (6080 + 8 * 624) + 2280 + 4 * 624) + 936 + (624 + 624)) ≤ _; have e : (newSg.know K1).H.length = 0 := rfl; omega) (by have := HTO.out.2; show σ4.N.length + (1 * (0 * (6080 + 8 * 624) + 2280 + 4 * 624) + 936 + (624 + 624)) ≤ _; have e : (newSg.know K1).N.length = 2 := rfl; omega))
      clear HB9 HZ HGM2 HS HBS HX4 HTO HSG
      go_wp2_with (first
        | ((with_reducible refine HREL.out.mono ?_); rintro e w20 ⟨r, τ6, rfl, hs6, hk6, ht6, hd6⟩; have hx6 := HX5.out.to ht6 HT5.out.s.ok hs6.ok; rw [one_rel] at hd6; obtain rfl := hd6.same hx6 hs6.ok; have hz20 := HZ5.out.trans (HT5.out.s.low HLO.out.2 hk6); have HB20 := Lib.hid (HBR.out.next hz20); have HM20 := Lib.hid (blk_below hz20 HM.out); have HC1 := Lib.hid (show Calls Tryz.prog 7 #[.slice (some ⟨w20.heap.size, 0, none⟩) 1 1, .slice (some ⟨gv, 0, none⟩) 2 2] (w20.alloc (.cells #[.bool false, .string ⟨#[104]⟩, .int .u32 0] 33)) (fun e w' => e = .returned (.int .i64 120) ∧ Below (w20.alloc (.cells #[.bool false, .string ⟨#[104]⟩, .int .u32 0] 33)).heap.size (w20.alloc (.cells #[.bool false, .string ⟨#[104]⟩, .int .u32 0] 33)) w') from (by have h := rwCheck_any [hRew] (.slice (some ⟨w20.heap.size, 0, none⟩) 1 1) (smallF v0 v1) _ (w20.alloc (.cells #[.bool false, .string ⟨#[104]⟩, .int .u32 0] 33)) (Rd.of_blk (k := 3) (n := 1) (c := 1) (blk1 w20 (.cells #[.bool false, .string ⟨#[104]⟩, .int .u32 0] 33)) (Nat.le_refl _) rfl) (HB20.out.a.hf.next (below1 w20 (.cells #[.bool false, .string ⟨#[104]⟩, .int .u32 0] 33))) (by show 2 ≤ _; omega); rw [h_e] at h; exact h)); clear hs6 hk6 ht6 hd6 hx6 hz20)
        | ((with_reducible refine HC1.out.mono ?_); rintro e w21 ⟨rfl, hb21⟩; have HB21 := Lib.hid ((HB20.out.next (below1 w20 (.cells #[.bool false, .string ⟨#[104]⟩, .int .u32 0] 33))).next hb21); have HM21 := Lib.hid (blk_below hb21 (blk_below (below1 w20 (.cells #[.bool false, .string ⟨#[104]⟩, .int .u32 0] 33)) HM20.out)); have b0 : (w21.alloc (.cells #[.bool false, .string ⟨#[98]⟩, .int .u32 0] 33)).cell? ⟨gb, 0, none⟩ = some (.string ⟨#[98]⟩) := cell_of_row _ _ 0 _ _ (0, 0) (blk_below (below1 w21 (.cells #[.bool false, .string ⟨#[98]⟩, .int .u32 0] 33)) HB21.out.bb); have b1 : (w21.alloc (.cells #[.bool false, .string ⟨#[98]⟩, .int .u32 0] 33)).cell? ⟨gb, 1, none⟩ = some (.slice (some ⟨gr, 0, none⟩) 1 1) := cell_of_row _ _ 1 _ _ (0, 0) (blk_below (below1 w21 (.cells #[.bool false, .string ⟨#[98]⟩, .int .u32 0] 33)) HB21.out.bb); clear hb21; apply stopN0))
      unfold StopN
      iterate 17 (first | go_guarded | go_step)
      refine stopG rfl (by kernel_rfl) ?_
      unfold StopN
      clear HREL HC1 b0 b1 HB20 HM20
      have hb22 := below2 w21 (.cells #[.bool false, .string ⟨#[98]⟩, .int .u32 0] 33) (.cells #[.string ⟨#[98]⟩, .slice (some ⟨gr, 0, none⟩) 1 1] 77)
      have HB22 := Lib.hid (HB21.out.next hb22)
      have HM22 := Lib.hid (blk_below hb22 HM21.out)
      have HKB := Lib.hid (blk_below (below1 (w21.alloc (.cells #[.bool false, .string ⟨#[98]⟩, .int .u32 0] 33)) (.cells #[.string ⟨#[98]⟩, .slice (some ⟨gr, 0, none⟩) 1 1] 77)) (blk1 w21 (.cells #[.bool false, .string ⟨#[98]⟩, .int .u32 0] 33)))
      have hs22 : (w21.alloc (.cells #[.bool false, .string ⟨#[98]⟩, .int .u32 0] 33)).heap.size = w21.heap.size + 1 := by simp
      have hkf := blk1 (w21.alloc (.cells #[.bool false, .string ⟨#[98]⟩, .int .u32 0] 33)) (.cells #[.string ⟨#[98]⟩, .slice (some ⟨gr, 0, none⟩) 1 1] 77)
      rw [hs22] at hkf
      have HKF := Lib.hid hkf
      clear hb22 hs22 hkf HB21 HM21
      generalize (w21.alloc (.cells #[.bool false, .string ⟨#[98]⟩, .int .u32 0] 33)).alloc (.cells #[.string ⟨#[98]⟩, .slice (some ⟨gr, 0, none⟩) 1 1] 77) = w22 at *
      refine oper_append_grows _ _ 23 rfl 77 j0 _ 2 40 Tryz.underlying23 jif jz0 jz1 jz2 rfl (by decide) (some ⟨gv, 0, none⟩) 2 2 (fcells (smallF v0 v1)) rfl (fun hh => by cases hh) rfl (fun b hb j u hu => ?_) ⟨w21.heap.size + 1, 0, none⟩ 1 1 [.string ⟨#[98]⟩, .slice (some ⟨gr, 0, none⟩) 1 1] rfl rfl (fun j u hu => ?_) (by intro u hu; simp only [List.mem_cons, List.not_mem_nil, or_false] at hu; rcases hu with rfl | rfl <;> rfl) (by omega) (by unfold maxLen; omega) (by omega) ?_
      · injection hb with hb
        subst hb
        obtain ⟨b', off, c', hv, _, _, hcell⟩ := HB22.out.a.hf.1.pos (by show 0 < 2; omega)
        injection hv with e1 e2 e3
        injection e1 with e1
        injection e1 with e4 e5
        subst e4 e5
        have := hcell j u hu
        rw [Nat.zero_add] at this
        rw [addr_at]
        exact this
      · have hcc := cell_of_row w22 _ j _ _ (0, 0) HKF.out
        have h3 : w22.cell? ⟨w21.heap.size + 1, j, none⟩ = some u := hcc.trans (by rw [← hu]; simp)
        rw [addr_at]
        exact h3
      · intro v23 w23 ho23 hg23
        have hb23 : Below w22.heap.size w22 w23 := below_none hg23
        have HB23 := Lib.hid (HB22.out.next hb23)
        have HM23 := Lib.hid (blk_below hb23 HM22.out)
        have HKB23 := Lib.hid (blk_below hb23 HKB.out)
        have HFB := Lib.hid (fs_bad HB22.out.a.hf HB22.out.br ho23 hb23)
        obtain ⟨A23, c23, rfl, _⟩ := owns_form ho23
        clear ho23 hg23 hb23 HB22 HM22 HKB HKF
        have HC2 := Lib.hid (show Calls Tryz.prog 7 #[.slice (some ⟨w21.heap.size, 0, none⟩) 1 1, .slice A23 (2 + 1) c23] w23 (fun e w' => e = .returned (.int .i64 121) ∧ Below w23.heap.size w23 w') from (by have h := rwCheck_any [bRew] (.slice (some ⟨w21.heap.size, 0, none⟩) 1 1) _ _ w23 (Rd.of_blk (k := 3) (n := 1) (c := 1) HKB23.out (Nat.le_refl _) rfl) HFB.out (by show 3 ≤ _; omega); rw [b_e] at h; exact h))
        have HC3 := Lib.hid (fun (W : World) (hb : NmB w W v0 v1 gl gv gh gr gb) (hm : W.heap[gm]? = some (.cells (wcells (mk257 257)).toArray 33 (0, 0))) => (show Calls Tryz.prog 7 #[.slice (some ⟨gm, 0, none⟩) 257 257, .slice (some ⟨gv, 0, none⟩) 2 2] W (fun e w' => e = .returned (.int .i64 1) ∧ Below W.heap.size W w') from (by have h := rwCheck_any (mk257 257) _ (smallF v0 v1) _ W (many_rd hm) hb.a.hf (by show 2 ≤ _; omega); rw [many_e] at h; exact h)))
        have HC4 := Lib.hid (fun (W : World) (hb : NmB w W v0 v1 gl gv gh gr gb) (hm : W.heap[gm]? = some (.cells (wcells (mk257 257)).toArray 33 (0, 0))) => (show Calls Tryz.prog 7 #[.slice (some ⟨gm, 0, none⟩) 256 257, .slice (some ⟨gv, 0, none⟩) 2 2] W (fun e w' => e = .returned (.int .i64 0) ∧ Below W.heap.size W w') from (by have h := rwCheck_any ((mk257 257).take 256) _ (smallF v0 v1) _ W (many_cut hm) hb.a.hf (by show 2 ≤ _; omega); rw [cut_e] at h; exact h)))
        clear HKB23 HFB
        simp only [Nat.reduceAdd] at HC2
        go_wp2_with (first
          | ((with_reducible refine HC2.out.mono ?_); rintro e w24 ⟨rfl, hb24⟩; have HB24 := Lib.hid (HB23.out.next hb24); have HM24 := Lib.hid (blk_below hb24 HM23.out); clear hb24)
          | ((with_reducible refine (HC3.out w24 HB24.out HM24.out).mono ?_); rintro e w25 ⟨rfl, hb25⟩; have HB25 := Lib.hid (HB24.out.next hb25); have HM25 := Lib.hid (blk_below hb25 HM24.out); clear hb25)
          | ((with_reducible refine (HC4.out w25 HB25.out HM25.out).mono ?_); rintro e w26 ⟨rfl, hb26⟩; have HB26 := Lib.hid (HB25.out.next hb26); clear hb26))
        go_ret
        exact ⟨rfl, HB26.out.a.bel⟩
end
end Go.Proofs.YtdjikiakcfbklaaGreat

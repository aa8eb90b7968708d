/-
  Joined texts: Ln5, LnAw, LawLnRw, Elem1, ElemDv.
-/
import Derived.Test.YthhcaoljejifeaaGreatMLintRewrites13
import Derived.Test.YthhcaoljejifeaaGreatMLintRewrites4
import Derived.Test.YthhcaoljejifeaaGreatMLintRewrites12
import Derived.Deep.Fields
import Derived.Test.YthhcaoljejifeaaGreatRows
/-
  The members that decide nothing: lint.Members.
-/
namespace Go.Proofs.YthhcaoljejifeaaGreat
open Go Go.RowKit Go.ChangeMaps Go.MapKept Go.Maps Go.Lib Go.Sort

/-- The members of a slice, in a world. -/
def MsAt (W : World) (B : Nat) (v : Value) (Ms : List MemV) : Prop := Rd W B 2 v Ms.length (mcells Ms) ∧ ∀ m ∈ Ms, Rd W B 1 m.v m.L.length (u32c m.L) ∧ m.L.length ≤ 9223372036854775807
theorem MsAt.below {W W' : World} {B : Nat} {v : Value} {Ms : List MemV} (h : MsAt W B v Ms) (hb : Below B W W') : MsAt W' B v Ms := ⟨h.1.below hb, fun m hm => ⟨(h.2 m hm).1.below hb, (h.2 m hm).2⟩⟩
theorem MsAt.mono {W : World} {B B' : Nat} {v : Value} {Ms : List MemV} (h : MsAt W B v Ms) (hb : B ≤ B') : MsAt W B' v Ms := ⟨h.1.mono hb, fun m hm => ⟨(h.2 m hm).1.mono hb, (h.2 m hm).2⟩⟩
theorem MsAt.next {W W' : World} {v : Value} {Ms : List MemV} (h : MsAt W W.heap.size v Ms) (hb : Below W.heap.size W W') : MsAt W' W'.heap.size v Ms := (h.below hb).mono hb.size
theorem Rd.takeS {W : World} {B k n m c : Nat} {A : Option Addr} {xs : List Value} (h : Rd W B k (.slice A n c) n xs) (hm : m ≤ n) : Rd W B k (.slice A m c) m (xs.take (m * k)) := by
  obtain ⟨P, c', hv, hc, hlen, hp⟩ := h
  injection hv with e1 _ e3
  subst e1 e3
  refine ⟨A, c, rfl, by omega, ?_, fun h0 => ?_⟩
  · rw [List.length_take, hlen]
    exact Nat.min_eq_left (Nat.mul_le_mul_right k hm)
  · obtain ⟨b, off, hA, hlt, hcell⟩ := hp (by omega)
    refine ⟨b, off, hA, hlt, fun j u hu => hcell j u ?_⟩
    have hj : j < (xs.take (m * k)).length := (List.getElem?_eq_some_iff.1 hu).1
    rw [List.length_take] at hj
    rw [List.getElem?_take_of_lt (by omega)] at hu
    exact hu
theorem mcells_take (Ms : List MemV) (i : Nat) (hi : i ≤ Ms.length) : mcells (Ms.take i) = (mcells Ms).take (i * 2) := by
  have e : mcells Ms = mcells (Ms.take i) ++ mcells (Ms.drop i) := by
    have h := congrArg mcells (List.take_append_drop i Ms)
    exact h.symm.trans List.flatMap_append
  have hl : (mcells (Ms.take i)).length = i * 2 := (flat_len MemV.enc 2 mem_len _).trans (by rw [List.length_take, Nat.min_eq_left hi])
  rw [e, ← hl, List.take_left']
  rfl
/-- Are all of the one among the other's? -/
def hasAll (a b : List Int) : Bool := !(a.any fun c => !(b.any fun x => x == c))
/-- Is a member ahead that asks no more? -/
def memP (Ms : List MemV) (i : Nat) : Bool := (Ms.take i).any fun m => hasAll m.L ((Ms[i]?.getD default).L)
section
set_option maxRecDepth 100000
set_option maxHeartbeats 4000000
variable {W : World} {nm : ByteArray} {v : Value} {Ms : List MemV} {bl bi i : Nat} {x : MemV}
theorem mem3_any (hl : W.heap[bl]? = some (.cells #[.string nm, v] 60 (0, 0))) (hi : W.heap[bi]? = some (.cells #[.int .i64 i] 3 (0, 0))) (hM : MsAt W W.heap.size v Ms) (hx : Ms[i]? = some x) (hn : Ms.length ≤ 1099511627776) (c : Int) :
    Calls Tryz.prog 27 #[.int .u32 c, .pointer (some ⟨bl, 0, none⟩), .pointer (some ⟨bi, 0, none⟩)] W fun e W' => e = .returned (.bool (!(x.L.any fun y => y == c))) ∧ Below W.heap.size W W' := by
  have hil : i < Ms.length := (List.getElem?_eq_some_iff.1 hx).1
  have hI : (i : Int) < (Ms.length : Int) := by omega
  have hxm := hM.2 x (List.mem_of_getElem? hx)
  obtain ⟨A, cc, hxv, _⟩ := hxm.1.form
  obtain ⟨b, off, c', hv, _, hbB, hcell⟩ := hM.1.posAt (by omega)
  subst hv
  have c0 : W.cell? ⟨bl, 1, none⟩ = some (.slice (some ⟨b, off, none⟩) Ms.length c') := cell_of_row _ _ 1 _ _ (0, 0) hl
  have c1 := cell0 hi
  have c2 : W.cell? ⟨b, off + i * 2 + 1, none⟩ = some x.v := hcell i 1 _ (mcell hx rfl)
  rw [hxv] at c2
  have hcc := containsU_any x.L x.v c W hxm.1 hxm.2
  rw [hxv] at hcc
  have HCC := Lib.hid hcc
  have HB := Lib.hid (Below.refl W.heap.size W)
  clear hxm hcell hl hi hM hx hcc
  go_enter Tryz.func27, Tryz.ntmps27
  generalize (x.L.any fun y => y == c) = q at *
  go_wp2_with ((with_reducible refine HCC.out.mono ?_); rintro e _ ⟨rfl, rfl⟩)
  go_ret
  exact ⟨rfl, HB.out⟩
theorem mem2_any (hl : W.heap[bl]? = some (.cells #[.string nm, v] 60 (0, 0))) (hi : W.heap[bi]? = some (.cells #[.int .i64 i] 3 (0, 0))) (hM : MsAt W W.heap.size v Ms) (hx : Ms[i]? = some x) (hn : Ms.length ≤ 1099511627776) (m : MemV) (hm : m ∈ Ms) :
    Calls Tryz.prog 25 #[.agg #[.bool m.permit, m.v], .pointer (some ⟨bl, 0, none⟩), .pointer (some ⟨bi, 0, none⟩)] W fun e W' => e = .returned (.bool (hasAll m.L x.L)) ∧ Below W.heap.size W W' := by
  have hb := below1 W (.cells #[.bool m.permit, m.v] 75)
  have hmm := (hM.next hb).2 m hm
  obtain ⟨A, cc, hmv, _⟩ := hmm.1.form
  have c0 : (W.alloc (.cells #[.bool m.permit, m.v] 75)).cell? ⟨W.heap.size, 1, none⟩ = some m.v := cell_of_row _ _ 1 _ _ (0, 0) (blk1 W (.cells #[.bool m.permit, m.v] 75))
  have hcf := containsFnU_any m.L m.v (fun c => !(x.L.any fun y => y == c)) 27 #[.pointer (some ⟨bl, 0, none⟩), .pointer (some ⟨bi, 0, none⟩)] (W.alloc (.cells #[.bool m.permit, m.v] 75)) (enters_of Tryz.func27 (by kernel_rfl) rfl)
    (fun c W' _ hb' => mem3_any (blk_below hb' (blk_below hb hl)) (blk_below hb' (blk_below hb hi)) ((hM.next hb).next hb') hx hn c) hmm.1 hmm.2
  rw [hmv] at hcf
  have HCF := Lib.hid hcf
  have HB := Lib.hid hb
  rw [hmv] at HB
  clear hmm hcf hb hl hi hM hx
  rw [hmv] at c0 ⊢
  have HD : Hid (hasAll m.L x.L = !(m.L.any fun c => !(x.L.any fun y => y == c))) := Lib.hid rfl
  rw [HD.out]
  generalize (m.L.any fun c => !(x.L.any fun y => y == c)) = q at *
  go_enter Tryz.func25, Tryz.ntmps25
  go_upto_region 1 with fail
  generalize W.alloc (.cells #[.bool m.permit, .slice A m.L.length cc] 75) = W1 at *
  go_wp2_with ((with_reducible refine HCF.out.mono ?_); rintro e W2 ⟨rfl, hb2⟩; have HB2 := Lib.hid (HB.out.trans (hb2.mono HB.out.size)); clear hb2)
  go_ret
  exact ⟨rfl, HB2.out⟩
theorem mem1_any (hl : W.heap[bl]? = some (.cells #[.string nm, v] 60 (0, 0))) (hM : MsAt W W.heap.size v Ms) (hil : i < Ms.length) (hn : Ms.length ≤ 1099511627776) :
    Calls Tryz.prog 23 #[.int .i64 i, .pointer (some ⟨bl, 0, none⟩)] W fun e W' => e = .returned (.bool (memP Ms i)) ∧ Below W.heap.size W W' := by
  obtain ⟨x, hx⟩ : ∃ x, Ms[i]? = some x := ⟨_, List.getElem?_eq_getElem hil⟩
  have hb := below1 W (.cells #[.int .i64 i] 3)
  have hbi := blk1 W (.cells #[.int .i64 i] 3)
  have hM1 := hM.next hb
  obtain ⟨A, cc, rfl, hcc⟩ := hM.1.form
  have htl : (Ms.take i).length = i := by rw [List.length_take]; omega
  have hrd : Rd (W.alloc (.cells #[.int .i64 i] 3)) (W.alloc (.cells #[.int .i64 i] 3)).heap.size 2 (.slice A i cc) (Ms.take i).length (mcells (Ms.take i)) := by
    rw [htl, mcells_take Ms i (by omega)]
    exact hM1.1.takeS (by omega)
  have hcf := containsFnM_any (Ms.take i) (.slice A i cc) (fun m => hasAll m.L x.L) 25 #[.pointer (some ⟨bl, 0, none⟩), .pointer (some ⟨W.heap.size, 0, none⟩)] (W.alloc (.cells #[.int .i64 i] 3)) (enters_of Tryz.func25 (by kernel_rfl) rfl)
    (fun m W' hm hb' => mem2_any (blk_below hb' (blk_below hb hl)) (blk_below hb' hbi) (hM1.next hb') hx hn m (List.mem_of_mem_take hm)) hrd (by rw [htl]; omega)
  have HCF := Lib.hid hcf
  have HB := Lib.hid hb
  have c0 : (W.alloc (.cells #[.int .i64 i] 3)).cell? ⟨bl, 1, none⟩ = some (.slice A Ms.length cc) := cell_of_row _ _ 1 _ _ (0, 0) (blk_below hb hl)
  have c1 := cell0 hbi
  have HP : Hid (memP Ms i = (Ms.take i).any fun m => hasAll m.L x.L) := Lib.hid (by unfold memP; rw [hx]; rfl)
  rw [HP.out]
  have hI : (i : Int) ≤ (cc : Int) := by omega
  clear hcf hb hbi hM1 hrd hl hM hx htl HP
  generalize ((Ms.take i).any fun m => hasAll m.L x.L) = q at *
  go_enter Tryz.func23, Tryz.ntmps23
  go_upto_region 1 with fail
  generalize W.alloc (.cells #[.int .i64 i] 3) = W1 at *
  go_wp2_with ((with_reducible refine HCF.out.mono ?_); rintro e W2 ⟨rfl, hb2⟩; have HB2 := Lib.hid (HB.out.trans (hb2.mono HB.out.size)); clear hb2)
  go_ret
  exact ⟨rfl, HB2.out⟩
theorem members_any (w : World) (nm : ByteArray) (v : Value) (Ms : List MemV) (hM : MsAt w w.heap.size v Ms) (hn : Ms.length ≤ 1099511627776) :
    Calls Tryz.prog 12 #[.agg #[.string nm, v]] w fun e w' => ∃ u, e = .returned u ∧ w'.ownsRow w.heap.size 3 1 u (plL (memP Ms) Ms.length).length (ncl (plL (memP Ms) Ms.length)) ∧ Below w.heap.size w w' := by
  obtain ⟨A, cc, rfl, hcc⟩ := hM.1.form
  have hb := below1 w (.cells #[.string nm, .slice A Ms.length cc] 60)
  have hk := blk1 w (.cells #[.string nm, .slice A Ms.length cc] 60)
  have c0 : (w.alloc (.cells #[.string nm, .slice A Ms.length cc] 60)).cell? ⟨w.heap.size, 1, none⟩ = some (.slice A Ms.length cc) := cell_of_row _ _ 1 _ _ (0, 0) hk
  have hpl := places_any Ms.length 23 #[.pointer (some ⟨w.heap.size, 0, none⟩)] (memP Ms) (w.alloc (.cells #[.string nm, .slice A Ms.length cc] 60)) (enters_of Tryz.func23 (by kernel_rfl) rfl)
    (fun i W' hi hb' => mem1_any (blk_below hb' hk) ((hM.next hb).next hb') hi hn) hn
  have HPL := Lib.hid hpl
  have HB := Lib.hid hb
  clear hb hk hpl hM
  go_enter Tryz.func12, Tryz.ntmps12
  go_upto_region 1 with fail
  generalize w.alloc (.cells #[.string nm, .slice A Ms.length cc] 60) = w1 at *
  go_wp2_with ((with_reducible refine HPL.out.mono ?_); rintro e w2 ⟨u, rfl, ho, hb2⟩; have HO := Lib.hid (owns_base ho HB.out.size); have HB2 := Lib.hid (HB.out.trans (hb2.mono HB.out.size)); clear ho hb2)
  go_ret
  exact ⟨_, rfl, HO.out, HB2.out⟩
end
end Go.Proofs.YthhcaoljejifeaaGreat

/-
  The linter's small example: awake.
-/
namespace Go.Proofs.YthhcaoljejifeaaGreat
open Go Go.RowKit Go.ChangeMaps Go.MapKept Go.Maps Go.Lib Go.Sort

theorem zF_no {F : Fun} (h : F ≠ fun _ => false) : zF F = false := by
  cases hz : zF F with
  | false => rfl
  | true => exact absurd (funext ((zF_iff F).1 hz)) h
theorem ln_zeros : zerosP lnL 3 = [2] := by
  rw [zerosP_succ, zerosP_succ, zerosP_succ, zF_no ln_dec0_ne, zF_no ln_dec1_ne, (zF_iff _).2 (fun s => by rw [ln_dec2_eq])]
  rfl
def lnMs (a b c : Value) : List MemV := [⟨false, a, [1, 2]⟩, ⟨false, b, [1]⟩, ⟨false, c, [1, 2, 3]⟩]
theorem ln_mem (a b c : Value) : plL (memP (lnMs a b c)) 3 = [2] := by
  rw [plL_succ, plL_succ, plL_succ]
  rw [show memP (lnMs a b c) 0 = false from rfl, show memP (lnMs a b c) 1 = false from rfl, show memP (lnMs a b c) 2 = true from rfl]
  rfl
theorem own_one {W : World} {B : Nat} {v : Value} {n : Nat} (h : W.ownsRow B 3 1 v [n].length (ncl [n])) : ∃ g c, v = .slice (some ⟨g, 0, none⟩) 1 c ∧ W.cell? ⟨g, 0, none⟩ = some (.int .i64 n) ∧ g < W.heap.size := by
  obtain ⟨A, c, rfl, hA⟩ := owns_form h
  obtain ⟨g, rfl⟩ := hA (by show 0 < 1; omega)
  refine ⟨g, c, rfl, ?_, (h.lt g rfl).2⟩
  have := h.cellAt 0 (by show 0 < 1 * 1; omega)
  simpa [ncl] using this
section
set_option maxRecDepth 100000
set_option maxHeartbeats 4000000
theorem lawAwake30_any (w : World) : Calls Tryz.prog 6 #[] w fun e w' => e = .returned (.bool true) ∧ Below w.heap.size w w' := by
  have HB1 := Lib.hid (below1 w (.cells #[.int .u32 0, .int .u32 65535] 66))
  have HS1 := Lib.hid (blk1 w (.cells #[.int .u32 0, .int .u32 65535] 66))
  go_enter Tryz.func6, Tryz.ntmps6
  go_upto_region 2 with fail
  generalize w.alloc (.cells #[.int .u32 0, .int .u32 65535] 66) = w1 at *
  have s0 := cell_of_row _ _ 0 _ _ (0, 0) HS1.out
  have s1 := cell_of_row _ _ 1 _ _ (0, 0) HS1.out
  simp only [List.getElem?_toArray, List.getElem?_cons_zero, List.getElem?_cons_succ] at s0 s1
  have HB2 := Lib.hid (HB1.out.trans ((below1 w1 (.cells #[.bool true, .int .i64 6, .int .u32 0, .int .i64 0, .int .u32 0, .int .i64 0, .int .u32 0, .int .u32 65535, .int .u32 0, .int .u32 65535, .bool false, .int .i64 (-1), .int .u32 0, .int .i64 0, .int .u32 0, .int .i64 0, .int .u32 0, .int .u32 65535, .int .u32 0, .int .u32 65535, .bool true, .int .i64 17, .int .u32 0, .int .i64 0, .int .u32 0, .int .i64 0, .int .u32 0, .int .u32 65535, .int .u32 0, .int .u32 65535] 71)).mono HB1.out.size))
  have HLR := Lib.hid (lintRules_any (w1.alloc (.cells #[.bool true, .int .i64 6, .int .u32 0, .int .i64 0, .int .u32 0, .int .i64 0, .int .u32 0, .int .u32 65535, .int .u32 0, .int .u32 65535, .bool false, .int .i64 (-1), .int .u32 0, .int .i64 0, .int .u32 0, .int .i64 0, .int .u32 0, .int .u32 65535, .int .u32 0, .int .u32 65535, .bool true, .int .i64 17, .int .u32 0, .int .i64 0, .int .u32 0, .int .i64 0, .int .u32 0, .int .u32 65535, .int .u32 0, .int .u32 65535] 71)) ⟨#[]⟩ lnL (.slice (some ⟨w1.heap.size, 0, none⟩) 3 3) (Rd.of_blk (k := 10) (n := 3) (c := 3) (blk1 w1 (.cells #[.bool true, .int .i64 6, .int .u32 0, .int .i64 0, .int .u32 0, .int .i64 0, .int .u32 0, .int .u32 65535, .int .u32 0, .int .u32 65535, .bool false, .int .i64 (-1), .int .u32 0, .int .i64 0, .int .u32 0, .int .i64 0, .int .u32 0, .int .u32 65535, .int .u32 0, .int .u32 65535, .bool true, .int .i64 17, .int .u32 0, .int .i64 0, .int .u32 0, .int .i64 0, .int .u32 0, .int .u32 65535, .int .u32 0, .int .u32 65535] 71)) (Nat.le_refl _) rfl) ln_e 16848 ln_filt (by show 3 * (6080 + 7 * 16848) ≤ 4194304; omega))
  go_upto_region 3 with ((with_reducible refine HLR.out.mono ?_); rintro e w2 ⟨v2, rfl, ho2, hb2⟩; rw [show zerosP lnL lnL.length = [2] from ln_zeros] at ho2; obtain ⟨g2, c2, rfl, hc2, hg2⟩ := own_one ho2; have HC2 := Lib.hid (And.intro hc2 hg2); have HB3 := Lib.hid (HB2.out.trans (hb2.mono HB2.out.size)); clear ho2 hb2 hc2 hg2)
  clear s0 s1 HLR HB1 HS1 HB2
  have hb3 := below3 w2 (.cells #[.int .u32 1, .int .u32 2] 42) (.cells #[.int .u32 1] 42) (.cells #[.int .u32 1, .int .u32 2, .int .u32 3] 42)
  obtain ⟨u0, u1, u2⟩ := blk3 w2 (.cells #[.int .u32 1, .int .u32 2] 42) (.cells #[.int .u32 1] 42) (.cells #[.int .u32 1, .int .u32 2, .int .u32 3] 42)
  have hs3 : (((w2.alloc (.cells #[.int .u32 1, .int .u32 2] 42)).alloc (.cells #[.int .u32 1] 42)).alloc (.cells #[.int .u32 1, .int .u32 2, .int .u32 3] 42)).heap.size = w2.heap.size + 1 + 1 + 1 := by simp
  have hb4 := below1 (((w2.alloc (.cells #[.int .u32 1, .int .u32 2] 42)).alloc (.cells #[.int .u32 1] 42)).alloc (.cells #[.int .u32 1, .int .u32 2, .int .u32 3] 42)) (.cells #[.bool false, (.slice (some ⟨w2.heap.size, 0, none⟩) 2 2), .bool false, (.slice (some ⟨w2.heap.size + 1, 0, none⟩) 1 1), .bool false, (.slice (some ⟨w2.heap.size + 1 + 1, 0, none⟩) 3 3)] 75)
  have km := blk1 (((w2.alloc (.cells #[.int .u32 1, .int .u32 2] 42)).alloc (.cells #[.int .u32 1] 42)).alloc (.cells #[.int .u32 1, .int .u32 2, .int .u32 3] 42)) (.cells #[.bool false, (.slice (some ⟨w2.heap.size, 0, none⟩) 2 2), .bool false, (.slice (some ⟨w2.heap.size + 1, 0, none⟩) 1 1), .bool false, (.slice (some ⟨w2.heap.size + 1 + 1, 0, none⟩) 3 3)] 75)
  rw [hs3] at km
  have hb5 : Below w2.heap.size w2 ((((w2.alloc (.cells #[.int .u32 1, .int .u32 2] 42)).alloc (.cells #[.int .u32 1] 42)).alloc (.cells #[.int .u32 1, .int .u32 2, .int .u32 3] 42)).alloc (.cells #[.bool false, (.slice (some ⟨w2.heap.size, 0, none⟩) 2 2), .bool false, (.slice (some ⟨w2.heap.size + 1, 0, none⟩) 1 1), .bool false, (.slice (some ⟨w2.heap.size + 1 + 1, 0, none⟩) 3 3)] 75)) := hb3.trans (hb4.mono hb3.size)
  have hM : MsAt ((((w2.alloc (.cells #[.int .u32 1, .int .u32 2] 42)).alloc (.cells #[.int .u32 1] 42)).alloc (.cells #[.int .u32 1, .int .u32 2, .int .u32 3] 42)).alloc (.cells #[.bool false, (.slice (some ⟨w2.heap.size, 0, none⟩) 2 2), .bool false, (.slice (some ⟨w2.heap.size + 1, 0, none⟩) 1 1), .bool false, (.slice (some ⟨w2.heap.size + 1 + 1, 0, none⟩) 3 3)] 75)) ((((w2.alloc (.cells #[.int .u32 1, .int .u32 2] 42)).alloc (.cells #[.int .u32 1] 42)).alloc (.cells #[.int .u32 1, .int .u32 2, .int .u32 3] 42)).alloc (.cells #[.bool false, (.slice (some ⟨w2.heap.size, 0, none⟩) 2 2), .bool false, (.slice (some ⟨w2.heap.size + 1, 0, none⟩) 1 1), .bool false, (.slice (some ⟨w2.heap.size + 1 + 1, 0, none⟩) 3 3)] 75)).heap.size (.slice (some ⟨w2.heap.size + 1 + 1 + 1, 0, none⟩) 3 3) (lnMs (.slice (some ⟨w2.heap.size, 0, none⟩) 2 2) (.slice (some ⟨w2.heap.size + 1, 0, none⟩) 1 1) (.slice (some ⟨w2.heap.size + 1 + 1, 0, none⟩) 3 3)) := by
    refine ⟨Rd.of_blk (k := 2) (n := 3) (c := 3) km (Nat.le_refl _) rfl, fun m hm => ?_⟩
    simp only [lnMs, List.mem_cons, List.not_mem_nil, or_false] at hm
    rcases hm with rfl | rfl | rfl
    · exact ⟨Rd.of_blk (k := 1) (n := 2) (c := 2) (blk_below hb4 u0) (Nat.le_refl _) rfl, by show 2 ≤ _; omega⟩
    · exact ⟨Rd.of_blk (k := 1) (n := 1) (c := 1) (blk_below hb4 u1) (Nat.le_refl _) rfl, by show 1 ≤ _; omega⟩
    · exact ⟨Rd.of_blk (k := 1) (n := 3) (c := 3) (blk_below hb4 u2) (Nat.le_refl _) rfl, by show 3 ≤ _; omega⟩
  have HMB := Lib.hid (members_any ((((w2.alloc (.cells #[.int .u32 1, .int .u32 2] 42)).alloc (.cells #[.int .u32 1] 42)).alloc (.cells #[.int .u32 1, .int .u32 2, .int .u32 3] 42)).alloc (.cells #[.bool false, (.slice (some ⟨w2.heap.size, 0, none⟩) 2 2), .bool false, (.slice (some ⟨w2.heap.size + 1, 0, none⟩) 1 1), .bool false, (.slice (some ⟨w2.heap.size + 1 + 1, 0, none⟩) 3 3)] 75)) ⟨#[]⟩ _ _ hM (by show 3 ≤ _; omega))
  have HB5 := Lib.hid (HB3.out.trans (hb5.mono HB3.out.size))
  have HC5 := Lib.hid ((hb5.cell (p := ⟨g2, 0, none⟩) HC2.out.2).trans HC2.out.1)
  have HG5 : Hid (g2 < ((((w2.alloc (.cells #[.int .u32 1, .int .u32 2] 42)).alloc (.cells #[.int .u32 1] 42)).alloc (.cells #[.int .u32 1, .int .u32 2, .int .u32 3] 42)).alloc (.cells #[.bool false, (.slice (some ⟨w2.heap.size, 0, none⟩) 2 2), .bool false, (.slice (some ⟨w2.heap.size + 1, 0, none⟩) 1 1), .bool false, (.slice (some ⟨w2.heap.size + 1 + 1, 0, none⟩) 3 3)] 75)).heap.size) := Lib.hid (Nat.lt_of_lt_of_le HC2.out.2 hb5.size)
  clear hb3 u0 u1 u2 hs3 hb4 km hb5 hM HB3 HC2
  go_upto_region 4 with ((with_reducible refine HMB.out.mono ?_); rintro e w6 ⟨v6, rfl, ho6, hb6⟩; rw [show plL (memP (lnMs (.slice (some ⟨w2.heap.size, 0, none⟩) 2 2) (.slice (some ⟨w2.heap.size + 1, 0, none⟩) 1 1) (.slice (some ⟨w2.heap.size + 1 + 1, 0, none⟩) 3 3))) (lnMs (.slice (some ⟨w2.heap.size, 0, none⟩) 2 2) (.slice (some ⟨w2.heap.size + 1, 0, none⟩) 1 1) (.slice (some ⟨w2.heap.size + 1 + 1, 0, none⟩) 3 3)).length = [2] from ln_mem _ _ _] at ho6; obtain ⟨g6, c6, rfl, hc6, _⟩ := own_one ho6; have HC6 := Lib.hid hc6; have HC7 := Lib.hid ((hb6.cell (p := ⟨g2, 0, none⟩) HG5.out).trans HC5.out); have HB6 := Lib.hid (HB5.out.trans (hb6.mono HB5.out.size)); clear ho6 hb6 hc6)
  clear HMB HB5 HC5 HG5
  have c6' : w6.cell? ⟨g6, 0, none⟩ = some (.int .i64 2) := HC6.out
  have c7' : w6.cell? ⟨g2, 0, none⟩ = some (.int .i64 2) := HC7.out
  go_wp2
  go_ret
  exact ⟨rfl, HB6.out⟩
end
end Go.Proofs.YthhcaoljejifeaaGreat

/-
  The walk of the law LintRewrites (written by wip/gen/genlawlnrw.py).
-/
namespace Go.Proofs.YthhcaoljejifeaaGreat
open Go Go.RowKit Go.ChangeMaps Go.MapKept Go.Maps Go.Lib Go.Sort

theorem ahead_hd {Fs : List FiltV} (hok : ∀ f ∈ Fs, filtE f.L = 0) (R : List RewV) (d : Bool) (i : Nat) (h : HeaderV) : aheadF Fs R d i (hS h) = (R.take i).any fun x => (x.dest == d) && allowN Fs x.nm h := by
  unfold aheadF
  have e : (fun x : RewV => (x.dest == d) && ownF Fs x (hS h)) = fun x => (x.dest == d) && allowN Fs x.nm h := funext fun x => by rw [own_hd hok x h]; rfl
  rw [e]
theorem take_any {R : List RewV} {k : Nat} {x : RewV} {a0 a1 : Bool} (hx : R[k]? = some x) (p : RewV → Bool → Bool) (h : ∀ d : Bool, (if d then a1 else a0) = (R.take k).any fun x => p x d) (hd : ∀ d : Bool, p x d = false ∨ (if d then a1 else a0) = true) (d : Bool) : (if d then a1 else a0) = (R.take (k + 1)).any fun x => p x d := by
  rw [List.take_add_one, hx, List.any_append, ← h d]
  rcases hd d with e | e
  · simp [e]
  · rw [e]; rfl
theorem take_set {R : List RewV} {k : Nat} {x : RewV} {b0 b1 : Bool} (hx : R[k]? = some x) (p : RewV → Bool → Bool) (h : ∀ d : Bool, (if d then b1 else b0) = (((R.take k).any fun x => p x d) || p x d)) (d : Bool) : (if d then b1 else b0) = (R.take (k + 1)).any fun x => p x d := by
  rw [List.take_add_one, hx, List.any_append, h d]
  simp
section
set_option maxRecDepth 100000
set_option maxHeartbeats 8000000
theorem lawLintRw_any (w : World) (c0 c1 c2 c6 c10 c11 vI vF vR vP vC vQ vH : Value) (nI : Nat) (Fs : List FiltV) (R : List RewV) (P C : List NmV) (Q : List PoV) (Hs : List HeaderV) (hI : ∃ A c, vI = .slice A nI c) (hF : FsAt w w.heap.size vF Fs) (hR : Rd w w.heap.size 3 vR R.length (wcells R))
    (hP : Rd w w.heap.size 2 vP P.length (nmcells P)) (hC : Rd w w.heap.size 2 vC C.length (nmcells C)) (hQ : Rd w w.heap.size 3 vQ Q.length (pocells Q)) (hH : Rd w w.heap.size 5 vH Hs.length (hcells Hs))
    (b1 : nI ≤ 1048576 ∧ R.length ≤ 1048576 ∧ Fs.length ≤ 1048576 ∧ P.length ≤ 1048576 ∧ C.length ≤ 1048576 ∧ Q.length ≤ 1048576) (b2 : ∀ f ∈ Fs, f.L.length ≤ 1048576) (b3 : ∀ x ∈ P, x.n ≤ 1048576) (b4 : ∀ x ∈ C, x.n ≤ 1048576) (b5 : ∀ x ∈ Q, x.v.n ≤ 1048576) :
    Calls Tryz.prog 3 #[.agg #[c0, c1, c2, vI, vF, vR, c6, vP, vC, vQ, c10, c11], vH] w fun e w' => e = .returned (.bool true) ∧ Below w.heap.size w w' := by
  obtain ⟨AI, cI, rfl⟩ := hI
  obtain ⟨AR, cR, rfl, _⟩ := hR.form
  obtain ⟨AF, cF, rfl, _⟩ := hF.1.form
  obtain ⟨AP, cP, rfl, _⟩ := hP.form
  obtain ⟨AC, cC, rfl, _⟩ := hC.form
  obtain ⟨AQ, cQ, rfl, _⟩ := hQ.form
  obtain ⟨AH, cH, rfl, _⟩ := hH.form
  have hbw := below1 w (.cells #[c0, c1, c2, .slice AI nI cI, .slice AF Fs.length cF, .slice AR R.length cR, c6, .slice AP P.length cP, .slice AC C.length cC, .slice AQ Q.length cQ, c10, c11] 33)
  have hbk := blk1 w (.cells #[c0, c1, c2, .slice AI nI cI, .slice AF Fs.length cF, .slice AR R.length cR, c6, .slice AP P.length cP, .slice AC C.length cC, .slice AQ Q.length cQ, c10, c11] 33)
  have HF := Lib.hid (hF.below hbw)
  have HR := Lib.hid (hR.below hbw)
  have HP := Lib.hid (hP.below hbw)
  have HC := Lib.hid (hC.below hbw)
  have HQ := Lib.hid (hQ.below hbw)
  have HH := Lib.hid (hH.below hbw)
  have HB0 := Lib.hid hbw
  have HK0 := Lib.hid hbk
  have HFB := Lib.hid b2
  have HLG := Lib.hid (large_any (w.alloc (.cells #[c0, c1, c2, .slice AI nI cI, .slice AF Fs.length cF, .slice AR R.length cR, c6, .slice AP P.length cP, .slice AC C.length cC, .slice AQ Q.length cQ, c10, c11] 33)) c0 c1 c2 c6 c10 c11 (.slice AI nI cI) (.slice AF Fs.length cF) (.slice AR R.length cR) (.slice AP P.length cP) (.slice AC C.length cC) (.slice AQ Q.length cQ) nI Fs R.length P C Q ⟨_, _, rfl⟩ (HF.out.mono hbw.size) ⟨_, _, rfl⟩ (HP.out.mono hbw.size) (HC.out.mono hbw.size) (HQ.out.mono hbw.size) b1 b2 b3 b4 b5)
  have hF1 := b1.2.2.1
  clear hF hR hP hC hQ hH hbw hbk b1 b2 b3 b4 b5
  go_enter Tryz.func3, Tryz.ntmps3
  go_upto_region 1 with fail
  generalize w.alloc (.cells #[c0, c1, c2, .slice AI nI cI, .slice AF Fs.length cF, .slice AR R.length cR, c6, .slice AP P.length cP, .slice AC C.length cC, .slice AQ Q.length cQ, c10, c11] 33) = w0 at *
  have s0 : w0.cell? ⟨w.heap.size, 0, none⟩ = some (c0) := cell_of_row _ _ 0 _ _ (0, 0) (HK0.out)
  have s1 : w0.cell? ⟨w.heap.size, 1, none⟩ = some (c1) := cell_of_row _ _ 1 _ _ (0, 0) (HK0.out)
  have s2 : w0.cell? ⟨w.heap.size, 2, none⟩ = some (c2) := cell_of_row _ _ 2 _ _ (0, 0) (HK0.out)
  have s3 : w0.cell? ⟨w.heap.size, 3, none⟩ = some (.slice AI nI cI) := cell_of_row _ _ 3 _ _ (0, 0) (HK0.out)
  have s4 : w0.cell? ⟨w.heap.size, 4, none⟩ = some (.slice AF Fs.length cF) := cell_of_row _ _ 4 _ _ (0, 0) (HK0.out)
  have s5 : w0.cell? ⟨w.heap.size, 5, none⟩ = some (.slice AR R.length cR) := cell_of_row _ _ 5 _ _ (0, 0) (HK0.out)
  have s6 : w0.cell? ⟨w.heap.size, 6, none⟩ = some (c6) := cell_of_row _ _ 6 _ _ (0, 0) (HK0.out)
  have s7 : w0.cell? ⟨w.heap.size, 7, none⟩ = some (.slice AP P.length cP) := cell_of_row _ _ 7 _ _ (0, 0) (HK0.out)
  have s8 : w0.cell? ⟨w.heap.size, 8, none⟩ = some (.slice AC C.length cC) := cell_of_row _ _ 8 _ _ (0, 0) (HK0.out)
  have s9 : w0.cell? ⟨w.heap.size, 9, none⟩ = some (.slice AQ Q.length cQ) := cell_of_row _ _ 9 _ _ (0, 0) (HK0.out)
  have s10 : w0.cell? ⟨w.heap.size, 10, none⟩ = some (c10) := cell_of_row _ _ 10 _ _ (0, 0) (HK0.out)
  have s11 : w0.cell? ⟨w.heap.size, 11, none⟩ = some (c11) := cell_of_row _ _ 11 _ _ (0, 0) (HK0.out)
  go_wp2_with fail
  refine HLG.out.mono ?_
  rintro e w1 ⟨⟨b, rfl, hb⟩, hb1⟩
  have HB1 := Lib.hid hb1
  have hsz0 := HB0.out.size
  clear s0 s1 s2 s3 s4 s5 s6 s7 s8 s9 s10 s11 HLG HP HC HQ
  cases b with
  | true =>
    have HAW := Lib.hid (lawAwake30_any w1)
    have HBE := Lib.hid (HB0.out.trans (HB1.out.mono hsz0))
    clear hb hb1
    go_wp2_with fail
    refine HAW.out.mono ?_
    rintro e w2 ⟨rfl, hb2⟩
    have HBF := Lib.hid (HBE.out.trans (hb2.mono HBE.out.size))
    clear hb2 HAW
    go_wp2
    go_ret
    exact ⟨rfl, HBF.out⟩
  | false =>
    obtain ⟨hr150, hf150, h49⟩ := hb rfl
    clear hb hb1
    have s0 : w1.cell? ⟨w.heap.size, 0, none⟩ = some (c0) := cell_of_row _ _ 0 _ _ (0, 0) (blk_below HB1.out HK0.out)
    have s1 : w1.cell? ⟨w.heap.size, 1, none⟩ = some (c1) := cell_of_row _ _ 1 _ _ (0, 0) (blk_below HB1.out HK0.out)
    have s2 : w1.cell? ⟨w.heap.size, 2, none⟩ = some (c2) := cell_of_row _ _ 2 _ _ (0, 0) (blk_below HB1.out HK0.out)
    have s3 : w1.cell? ⟨w.heap.size, 3, none⟩ = some (.slice AI nI cI) := cell_of_row _ _ 3 _ _ (0, 0) (blk_below HB1.out HK0.out)
    have s4 : w1.cell? ⟨w.heap.size, 4, none⟩ = some (.slice AF Fs.length cF) := cell_of_row _ _ 4 _ _ (0, 0) (blk_below HB1.out HK0.out)
    have s5 : w1.cell? ⟨w.heap.size, 5, none⟩ = some (.slice AR R.length cR) := cell_of_row _ _ 5 _ _ (0, 0) (blk_below HB1.out HK0.out)
    have s6 : w1.cell? ⟨w.heap.size, 6, none⟩ = some (c6) := cell_of_row _ _ 6 _ _ (0, 0) (blk_below HB1.out HK0.out)
    have s7 : w1.cell? ⟨w.heap.size, 7, none⟩ = some (.slice AP P.length cP) := cell_of_row _ _ 7 _ _ (0, 0) (blk_below HB1.out HK0.out)
    have s8 : w1.cell? ⟨w.heap.size, 8, none⟩ = some (.slice AC C.length cC) := cell_of_row _ _ 8 _ _ (0, 0) (blk_below HB1.out HK0.out)
    have s9 : w1.cell? ⟨w.heap.size, 9, none⟩ = some (.slice AQ Q.length cQ) := cell_of_row _ _ 9 _ _ (0, 0) (blk_below HB1.out HK0.out)
    have s10 : w1.cell? ⟨w.heap.size, 10, none⟩ = some (c10) := cell_of_row _ _ 10 _ _ (0, 0) (blk_below HB1.out HK0.out)
    have s11 : w1.cell? ⟨w.heap.size, 11, none⟩ = some (c11) := cell_of_row _ _ 11 _ _ (0, 0) (blk_below HB1.out HK0.out)
    have HFI := Lib.hid (filters_any w1 c0 c1 c2 (.slice AI nI cI) (.slice AR R.length cR) c6 (.slice AP P.length cP) (.slice AC C.length cC) (.slice AQ Q.length cQ) c10 c11 (.slice AF Fs.length cF) Fs ((HF.out.below (HB1.out.mono hsz0)).mono (Nat.le_trans hsz0 HB1.out.size)) hF1)
    have HBE1 := Lib.hid (HB0.out.trans (HB1.out.mono hsz0))
    go_wp2_with fail
    refine HFI.out.mono ?_
    rintro e w2 ⟨rfl, hb2⟩
    have HB2 := Lib.hid (HB1.out.trans (hb2.mono HB1.out.size))
    clear s0 s1 s2 s3 s4 s5 s6 s7 s8 s9 s10 s11 HFI hb2
    cases hok : okFs Fs with
    | false =>
      have HAW := Lib.hid (lawAwake30_any w2)
      have HBE := Lib.hid (HB0.out.trans (HB2.out.mono hsz0))
      clear hok
      go_wp2_with fail
      refine HAW.out.mono ?_
      rintro e w3 ⟨rfl, hb3⟩
      have HBF := Lib.hid (HBE.out.trans (hb3.mono HBE.out.size))
      clear hb3 HAW
      go_wp2
      go_ret
      exact ⟨rfl, HBF.out⟩
    | true =>
      have HOKF := Lib.hid (okFs_iff.1 hok)
      have HAW := Lib.hid (lawAwake30_any w2)
      clear hok
      go_wp2_with fail
      refine HAW.out.mono ?_
      rintro e w3 ⟨rfl, hb3⟩
      have HB3 := Lib.hid (HB2.out.trans (hb3.mono HB2.out.size))
      clear hb3 HAW
      have s0 : w3.cell? ⟨w.heap.size, 0, none⟩ = some (c0) := cell_of_row _ _ 0 _ _ (0, 0) (blk_below HB3.out HK0.out)
      have s1 : w3.cell? ⟨w.heap.size, 1, none⟩ = some (c1) := cell_of_row _ _ 1 _ _ (0, 0) (blk_below HB3.out HK0.out)
      have s2 : w3.cell? ⟨w.heap.size, 2, none⟩ = some (c2) := cell_of_row _ _ 2 _ _ (0, 0) (blk_below HB3.out HK0.out)
      have s3 : w3.cell? ⟨w.heap.size, 3, none⟩ = some (.slice AI nI cI) := cell_of_row _ _ 3 _ _ (0, 0) (blk_below HB3.out HK0.out)
      have s4 : w3.cell? ⟨w.heap.size, 4, none⟩ = some (.slice AF Fs.length cF) := cell_of_row _ _ 4 _ _ (0, 0) (blk_below HB3.out HK0.out)
      have s5 : w3.cell? ⟨w.heap.size, 5, none⟩ = some (.slice AR R.length cR) := cell_of_row _ _ 5 _ _ (0, 0) (blk_below HB3.out HK0.out)
      have s6 : w3.cell? ⟨w.heap.size, 6, none⟩ = some (c6) := cell_of_row _ _ 6 _ _ (0, 0) (blk_below HB3.out HK0.out)
      have s7 : w3.cell? ⟨w.heap.size, 7, none⟩ = some (.slice AP P.length cP) := cell_of_row _ _ 7 _ _ (0, 0) (blk_below HB3.out HK0.out)
      have s8 : w3.cell? ⟨w.heap.size, 8, none⟩ = some (.slice AC C.length cC) := cell_of_row _ _ 8 _ _ (0, 0) (blk_below HB3.out HK0.out)
      have s9 : w3.cell? ⟨w.heap.size, 9, none⟩ = some (.slice AQ Q.length cQ) := cell_of_row _ _ 9 _ _ (0, 0) (blk_below HB3.out HK0.out)
      have s10 : w3.cell? ⟨w.heap.size, 10, none⟩ = some (c10) := cell_of_row _ _ 10 _ _ (0, 0) (blk_below HB3.out HK0.out)
      have s11 : w3.cell? ⟨w.heap.size, 11, none⟩ = some (c11) := cell_of_row _ _ 11 _ _ (0, 0) (blk_below HB3.out HK0.out)
      have HRW := Lib.hid (lintRewrites_any w3 c0 c1 c2 (.slice AI nI cI) c6 (.slice AP P.length cP) (.slice AC C.length cC) (.slice AQ Q.length cQ) c10 c11 (.slice AF Fs.length cF) (.slice AR R.length cR) Fs R ((HF.out.below (HB3.out.mono hsz0)).mono (Nat.le_trans hsz0 HB3.out.size)) ((HR.out.below (HB3.out.mono hsz0)).mono (Nat.le_trans hsz0 HB3.out.size)) HOKF.out h49 hr150 hf150)
      go_wp2_with fail
      refine HRW.out.mono ?_
      rintro e w4 ⟨hb4, hres⟩
      have HB4 := Lib.hid (HB3.out.trans (hb4.mono HB3.out.size))
      clear s0 s1 s2 s3 s4 s5 s6 s7 s8 s9 s10 s11 HRW
      rcases hres with rfl | ⟨v, ns, rfl, hon, hnl, hns⟩
      · have HBE := Lib.hid (HB0.out.trans (HB4.out.mono hsz0))
        clear hb4
        go_wp2
        go_ret
        exact ⟨rfl, HBE.out⟩
      · obtain ⟨An, cn, rfl, _⟩ := owns_form hon
        have HON := Lib.hid hon
        have HNL : Hid (ns.length ≤ 150) := Lib.hid (by omega)
        have HNS := Lib.hid hns
        clear hb4 hon hnl hns
        have hsz4 := HB4.out.size
        go_wp2_with fail
        go_loopw [7] (fun i wx => ∃ q : Nat, i = .int .i64 q ∧ q ≤ 20 ∧ q ≤ Hs.length ∧ Hid (Below w4.heap.size w4 wx)) (fun i _ => 20 - (intOf i).toNat)
        case atStart => exact ⟨0, rfl, by omega, by omega, Lib.hid (Below.refl _ _)⟩
        case round =>
          obtain ⟨q, rfl, hq20, hqH, HLX⟩ := hrel
          rename World => wx
          by_cases hql : q < Hs.length ∧ q < 20
          · obtain ⟨hq1, hq2⟩ := hql
            have hI1 : (q : Int) < (Hs.length : Int) := by omega
            have hI2 : (q : Int) < 20 := by omega
            obtain ⟨h, hh⟩ : ∃ h, Hs[q]? = some h := ⟨_, List.getElem?_eq_getElem hq1⟩
            have HHD := Lib.hid hh
            clear hh
            go_upto_region 10 with fail
            have hbx := below1 wx (.cells #[.bool false, .bool false] 41)
            have HMW := Lib.hid (blk1 wx (.cells #[.bool false, .bool false] 41))
            have HLW := Lib.hid (HLX.out.trans (hbx.mono HLX.out.size))
            have HBW : Hid (w4.heap.size ≤ wx.heap.size) := Lib.hid HLX.out.size
            clear hbx
            generalize hbwq : wx.heap.size = bw at *
            generalize wx.alloc (.cells #[.bool false, .bool false] 41) = wm at *
            have HBWQ := Lib.hid hbwq
            clear hbwq
            go_wp2_with fail
            go_loopw [9] (fun i wy => ∃ (k : Nat) (a0 a1 : Bool), i = .int .i64 k ∧ k ≤ R.length ∧ Hid (wy.heap[bw]? = some (.cells #[.bool a0, .bool a1] 41 (0, 0))) ∧ Hid (Below w4.heap.size w4 wy) ∧ Hid (∀ d : Bool, (if d then a1 else a0) = (R.take k).any fun x => (x.dest == d) && allowN Fs x.nm h)) (fun i _ => R.length - (intOf i).toNat)
            case atStart => exact ⟨0, false, false, rfl, by omega, HMW, HLW, Lib.hid (fun d => by cases d <;> simp)⟩
            case round =>
              clear HMW HLW
              obtain ⟨k, a0, a1, rfl, hk, hbwk, HLY4, HIN⟩ := hrel
              rename World => wy
              have HLY0 := Lib.hid (HB4.out.trans (HLY4.out.mono hsz4))
              have HLY := Lib.hid (HLY0.out.mono hsz0)
              by_cases hlk : k < R.length
              · have hIk : (k : Int) < (R.length : Int) := by omega
                obtain ⟨x, hx⟩ : ∃ x, R[k]? = some x := ⟨_, List.getElem?_eq_getElem hlk⟩
                obtain ⟨b, off, c', hv, _, hbB, hcell⟩ := (HR.out.below HLY.out).posAt (by omega)
                injection hv with hv1 _ hv3
                subst hv1 hv3
                have r0 : wy.cell? ⟨b, off + k * 3, none⟩ = some (.bool x.dest) := hcell k 0 _ (wcell hx rfl)
                have r1 : wy.cell? ⟨b, off + k * 3 + 1, none⟩ = some (.string x.nm) := hcell k 1 _ (wcell hx rfl)
                have HX := Lib.hid hx
                clear hcell hx
                have s0 : wy.cell? ⟨w.heap.size, 0, none⟩ = some (c0) := cell_of_row _ _ 0 _ _ (0, 0) (blk_below HLY0.out HK0.out)
                have s1 : wy.cell? ⟨w.heap.size, 1, none⟩ = some (c1) := cell_of_row _ _ 1 _ _ (0, 0) (blk_below HLY0.out HK0.out)
                have s2 : wy.cell? ⟨w.heap.size, 2, none⟩ = some (c2) := cell_of_row _ _ 2 _ _ (0, 0) (blk_below HLY0.out HK0.out)
                have s3 : wy.cell? ⟨w.heap.size, 3, none⟩ = some (.slice AI nI cI) := cell_of_row _ _ 3 _ _ (0, 0) (blk_below HLY0.out HK0.out)
                have s4 : wy.cell? ⟨w.heap.size, 4, none⟩ = some (.slice AF Fs.length cF) := cell_of_row _ _ 4 _ _ (0, 0) (blk_below HLY0.out HK0.out)
                have s5 : wy.cell? ⟨w.heap.size, 5, none⟩ = some (.slice (some ⟨b, off, none⟩) R.length cR) := cell_of_row _ _ 5 _ _ (0, 0) (blk_below HLY0.out HK0.out)
                have s6 : wy.cell? ⟨w.heap.size, 6, none⟩ = some (c6) := cell_of_row _ _ 6 _ _ (0, 0) (blk_below HLY0.out HK0.out)
                have s7 : wy.cell? ⟨w.heap.size, 7, none⟩ = some (.slice AP P.length cP) := cell_of_row _ _ 7 _ _ (0, 0) (blk_below HLY0.out HK0.out)
                have s8 : wy.cell? ⟨w.heap.size, 8, none⟩ = some (.slice AC C.length cC) := cell_of_row _ _ 8 _ _ (0, 0) (blk_below HLY0.out HK0.out)
                have s9 : wy.cell? ⟨w.heap.size, 9, none⟩ = some (.slice AQ Q.length cQ) := cell_of_row _ _ 9 _ _ (0, 0) (blk_below HLY0.out HK0.out)
                have s10 : wy.cell? ⟨w.heap.size, 10, none⟩ = some (c10) := cell_of_row _ _ 10 _ _ (0, 0) (blk_below HLY0.out HK0.out)
                have s11 : wy.cell? ⟨w.heap.size, 11, none⟩ = some (c11) := cell_of_row _ _ 11 _ _ (0, 0) (blk_below HLY0.out HK0.out)
                obtain ⟨hb5, hoff5, hcb5, hvh, _, hhB, hhc⟩ := (HH.out.below HLY.out).posAt (by omega)
                injection hvh with hv1 _ hv3
                subst hv1 hv3
                have g0 : wy.cell? ⟨hb5, hoff5 + q * 5, none⟩ = some (.int .u32 h.src) := hhc q 0 _ (hcell HHD.out rfl)
                have g1 : wy.cell? ⟨hb5, hoff5 + q * 5 + 1, none⟩ = some (.int .u32 h.dst) := hhc q 1 _ (hcell HHD.out rfl)
                have g2 : wy.cell? ⟨hb5, hoff5 + q * 5 + 2, none⟩ = some (.int .u8 h.proto) := hhc q 2 _ (hcell HHD.out rfl)
                have g3 : wy.cell? ⟨hb5, hoff5 + q * 5 + 3, none⟩ = some (.int .u16 h.sp) := hhc q 3 _ (hcell HHD.out rfl)
                have g4 : wy.cell? ⟨hb5, hoff5 + q * 5 + 4, none⟩ = some (.int .u16 h.dp) := hhc q 4 _ (hcell HHD.out rfl)
                clear hhc
                have HAL : Hid (∀ W, Below wy.heap.size wy W → Calls Tryz.prog 8 #[.agg #[c0, c1, c2, .slice AI nI cI, .slice AF Fs.length cF, .slice (some ⟨b, off, none⟩) R.length cR, c6, .slice AP P.length cP, .slice AC C.length cC, .slice AQ Q.length cQ, c10, c11], .string x.nm, .agg #[.int .u32 h.src, .int .u32 h.dst, .int .u8 h.proto, .int .u16 h.sp, .int .u16 h.dp]] W fun e w' => e = .returned (.bool (allowN Fs x.nm h)) ∧ Below W.heap.size W w') := Lib.hid fun W hW => allowed_any W (c0) (c1) (c2) (.slice AI nI cI) (.slice (some ⟨b, off, none⟩) R.length cR) (c6) (.slice AP P.length cP) (.slice AC C.length cC) (.slice AQ Q.length cQ) (c10) (c11) (.slice AF Fs.length cF) Fs x.nm h (((HF.out.below HLY.out).mono (Nat.le_trans HB0.out.size HLY0.out.size)).next hW) (by omega) HFB.out
                obtain ⟨al, hal⟩ : ∃ al, al = allowN Fs x.nm h := ⟨_, rfl⟩
                rw [← hal] at HAL
                have HALQ := Lib.hid hal
                clear hal
                have hmem := hbwk.out
                cases hd : x.dest with
                | false =>
                  rw [hd] at r0
                  have HDD := Lib.hid hd
                  clear hd
                  go_upto_region 16 with fail
                  have S0 := cell_regrown s0
                  have S1 := cell_regrown s1
                  have S2 := cell_regrown s2
                  have S3 := cell_regrown s3
                  have S4 := cell_regrown s4
                  have S5 := cell_regrown s5
                  have S6 := cell_regrown s6
                  have S7 := cell_regrown s7
                  have S8 := cell_regrown s8
                  have S9 := cell_regrown s9
                  have S10 := cell_regrown s10
                  have S11 := cell_regrown s11
                  have G0 := cell_regrown g0
                  have G1 := cell_regrown g1
                  have G2 := cell_regrown g2
                  have G3 := cell_regrown g3
                  have G4 := cell_regrown g4
                  have R1 := cell_regrown r1
                  obtain ⟨m0, m1, _, _⟩ := two_cells hmem
                  have M0 := cell_regrown m0
                  have M1 := cell_regrown m1
                  clear s0 s1 s2 s3 s4 s5 s6 s7 s8 s9 s10 s11 g0 g1 g2 g3 g4 r0 r1 m0 m1 hmem
                  cases ha : a0 with
                  | true =>
                    rw [ha] at M0
                    have HA := Lib.hid ha
                    clear ha
                    refine wp_region_quiet_below (by kernel_rfl) (by kernel_rfl) ?_
                    repeat (first | go_big_quiet_step ((go_at_call 8; (first | with_reducible exact Calls.regrown_of (HAL.out _ (below_regrown _ _ _)) | exact Calls.regrown_of (HAL.out _ (below_regrown _ _ _))))) | quiet_step ((go_at_call 8; (first | with_reducible exact Calls.regrown_of (HAL.out _ (below_regrown _ _ _)) | exact Calls.regrown_of (HAL.out _ (below_regrown _ _ _))))))
                    refine wpQuiet_nil ?_
                    intro _ hw'
                    obtain ⟨⟨nq, osq⟩, hwq⟩ := hw'
                    subst hwq
                    have hbq := below_regrown wy nq osq
                    have HBQ := Lib.hid hbq
                    have HLQ := Lib.hid (HLY4.out.trans (hbq.mono HLY4.out.size))
                    have HMQ : Hid ((grow (redrawn wy nq) osq).heap[bw]? = some (.cells #[.bool a0, .bool a1] 41 (0, 0))) := Lib.hid (blk_below hbq hbwk.out)
                    clear hbq S0 S1 S2 S3 S4 S5 S6 S7 S8 S9 S10 S11 G0 G1 G2 G3 G4 R1 M0 M1
                    generalize grow (redrawn wy nq) osq = wz at *
                    have HI2 : Hid (∀ d : Bool, (if d then a1 else a0) = (R.take (k + 1)).any fun x => (x.dest == d) && allowN Fs x.nm h) := Lib.hid (take_any HX.out (fun x d => (x.dest == d) && allowN Fs x.nm h) HIN.out (fun d' => by
                      cases d' with
                      | false => right; exact HA.out
                      | true => left; rw [HDD.out]; rfl
                    ))
                    go_wp2
                    go_roundw
                    case rel =>
                      first
                        | exact ⟨k + 1, a0, a1, by go_num, by omega, HMQ, HLQ, HI2⟩
                        | (repeat apply Exists.intro); exact ⟨⟨k + 1, a0, a1, by go_num, by omega, HMQ, HLQ, HI2⟩, rfl⟩
                    case measure =>
                      change R.length - ((k : Int) + 1).toNat < R.length - (k : Int).toNat
                      omega
                  | false =>
                    rw [ha] at M0
                    have HA := Lib.hid ha
                    clear ha
                    cases al with
                    | true =>
                      refine wp_region_quiet_below (by kernel_rfl) (by kernel_rfl) ?_
                      repeat (first | go_big_quiet_step ((go_at_call 8; (first | with_reducible exact Calls.regrown_of (HAL.out _ (below_regrown _ _ _)) | exact Calls.regrown_of (HAL.out _ (below_regrown _ _ _))))) | quiet_step ((go_at_call 8; (first | with_reducible exact Calls.regrown_of (HAL.out _ (below_regrown _ _ _)) | exact Calls.regrown_of (HAL.out _ (below_regrown _ _ _))))))
                      refine wpQuiet_nil ?_
                      intro _ hw'
                      obtain ⟨⟨nq, osq⟩, hwq⟩ := hw'
                      subst hwq
                      have hbq := below_regrown wy nq osq
                      have HBQ := Lib.hid hbq
                      have HLQ := Lib.hid (HLY4.out.trans (hbq.mono HLY4.out.size))
                      have HMQ : Hid ((grow (redrawn wy nq) osq).heap[bw]? = some (.cells #[.bool a0, .bool a1] 41 (0, 0))) := Lib.hid (blk_below hbq hbwk.out)
                      clear hbq S0 S1 S2 S3 S4 S5 S6 S7 S8 S9 S10 S11 G0 G1 G2 G3 G4 R1 M0 M1
                      generalize grow (redrawn wy nq) osq = wz at *
                      have hmz := HMQ.out
                      obtain ⟨m0, m1, _, _⟩ := two_cells hmz
                      have fz := frozen_of_row wz _ 0 _ _ hmz
                      have HMS : Hid ((wz.setCell ⟨bw, 0, none⟩ (.bool true)).heap[bw]? = some (.cells #[.bool true, .bool a1] 41 (0, 0))) := Lib.hid (heap_setCell_same _ _ _ _ _ _ hmz)
                      have HLS : Hid (Below w4.heap.size w4 (wz.setCell ⟨bw, 0, none⟩ (.bool true))) := Lib.hid (HLQ.out.setCell (p := ⟨bw, 0, none⟩) HBW.out (.bool true))
                      have hns : hasR ns k = false := by
                        cases hh : hasR ns k with
                        | false => rfl
                        | true =>
                          obtain ⟨y, hy, he⟩ := List.any_eq_true.1 hh
                          obtain rfl : y = k := by simpa using he
                          obtain ⟨z, hz, hs⟩ := HNS.out y hy
                          rw [HX.out] at hz
                          injection hz with hz
                          subst hz
                          have h1 := hs (hS h) (by rw [own_hd HOKF.out]; exact HALQ.out.symm)
                          have h2 := HIN.out x.dest
                          rw [HDD.out] at h1 h2
                          rw [ahead_hd HOKF.out] at h1
                          rw [← h2] at h1
                          have h3 := HA.out
                          simp [h3] at h1
                      have HHAS := Lib.hid (rwHas_any ns (.slice An ns.length cn) k (wz.setCell ⟨bw, 0, none⟩ (.bool true)) (((Rd.of_own HON.out).below HLS.out).mono HLS.out.size) (by have := HNL.out; omega))
                      have HI2 : Hid (∀ d : Bool, (if d then a1 else true) = (R.take (k + 1)).any fun x => (x.dest == d) && allowN Fs x.nm h) := Lib.hid (take_set HX.out (fun x d => (x.dest == d) && allowN Fs x.nm h) (fun d' => by
                        have h1 := HIN.out d'
                        have h2 := HALQ.out
                        have h3 := HDD.out
                        have h4 := HA.out
                        cases d' <;> simp_all))
                      have HNSF := Lib.hid hns
                      clear hmz hns
                      go_wp2_with fail
                      generalize wz.setCell ⟨bw, 0, none⟩ (.bool true) = wv at *
                      have hcall := HHAS.out
                      rw [HNSF.out] at hcall
                      refine hcall.mono ?_
                      rintro e w9 ⟨rfl, rfl⟩
                      clear hcall HHAS m0 m1 fz
                      go_wp2
                      go_roundw
                      case rel =>
                        first
                          | exact ⟨k + 1, true, a1, by go_num, by omega, HMS, HLS, HI2⟩
                          | (repeat apply Exists.intro); exact ⟨⟨k + 1, true, a1, by go_num, by omega, HMS, HLS, HI2⟩, rfl⟩
                      case measure =>
                        change R.length - ((k : Int) + 1).toNat < R.length - (k : Int).toNat
                        omega
                    | false =>
                      refine wp_region_quiet_below (by kernel_rfl) (by kernel_rfl) ?_
                      repeat (first | go_big_quiet_step ((go_at_call 8; (first | with_reducible exact Calls.regrown_of (HAL.out _ (below_regrown _ _ _)) | exact Calls.regrown_of (HAL.out _ (below_regrown _ _ _))))) | quiet_step ((go_at_call 8; (first | with_reducible exact Calls.regrown_of (HAL.out _ (below_regrown _ _ _)) | exact Calls.regrown_of (HAL.out _ (below_regrown _ _ _))))))
                      refine wpQuiet_nil ?_
                      intro _ hw'
                      obtain ⟨⟨nq, osq⟩, hwq⟩ := hw'
                      subst hwq
                      have hbq := below_regrown wy nq osq
                      have HBQ := Lib.hid hbq
                      have HLQ := Lib.hid (HLY4.out.trans (hbq.mono HLY4.out.size))
                      have HMQ : Hid ((grow (redrawn wy nq) osq).heap[bw]? = some (.cells #[.bool a0, .bool a1] 41 (0, 0))) := Lib.hid (blk_below hbq hbwk.out)
                      clear hbq S0 S1 S2 S3 S4 S5 S6 S7 S8 S9 S10 S11 G0 G1 G2 G3 G4 R1 M0 M1
                      generalize grow (redrawn wy nq) osq = wz at *
                      have HI2 : Hid (∀ d : Bool, (if d then a1 else a0) = (R.take (k + 1)).any fun x => (x.dest == d) && allowN Fs x.nm h) := Lib.hid (take_any HX.out (fun x d => (x.dest == d) && allowN Fs x.nm h) HIN.out (fun d' => by
                        left; rw [← HALQ.out]; simp))
                      go_wp2
                      go_roundw
                      case rel =>
                        first
                          | exact ⟨k + 1, a0, a1, by go_num, by omega, HMQ, HLQ, HI2⟩
                          | (repeat apply Exists.intro); exact ⟨⟨k + 1, a0, a1, by go_num, by omega, HMQ, HLQ, HI2⟩, rfl⟩
                      case measure =>
                        change R.length - ((k : Int) + 1).toNat < R.length - (k : Int).toNat
                        omega
                | true =>
                  rw [hd] at r0
                  have HDD := Lib.hid hd
                  clear hd
                  go_upto_region 16 with fail
                  have S0 := cell_regrown s0
                  have S1 := cell_regrown s1
                  have S2 := cell_regrown s2
                  have S3 := cell_regrown s3
                  have S4 := cell_regrown s4
                  have S5 := cell_regrown s5
                  have S6 := cell_regrown s6
                  have S7 := cell_regrown s7
                  have S8 := cell_regrown s8
                  have S9 := cell_regrown s9
                  have S10 := cell_regrown s10
                  have S11 := cell_regrown s11
                  have G0 := cell_regrown g0
                  have G1 := cell_regrown g1
                  have G2 := cell_regrown g2
                  have G3 := cell_regrown g3
                  have G4 := cell_regrown g4
                  have R1 := cell_regrown r1
                  obtain ⟨m0, m1, _, _⟩ := two_cells hmem
                  have M0 := cell_regrown m0
                  have M1 := cell_regrown m1
                  clear s0 s1 s2 s3 s4 s5 s6 s7 s8 s9 s10 s11 g0 g1 g2 g3 g4 r0 r1 m0 m1 hmem
                  cases ha : a1 with
                  | true =>
                    rw [ha] at M1
                    have HA := Lib.hid ha
                    clear ha
                    refine wp_region_quiet_below (by kernel_rfl) (by kernel_rfl) ?_
                    repeat (first | go_big_quiet_step ((go_at_call 8; (first | with_reducible exact Calls.regrown_of (HAL.out _ (below_regrown _ _ _)) | exact Calls.regrown_of (HAL.out _ (below_regrown _ _ _))))) | quiet_step ((go_at_call 8; (first | with_reducible exact Calls.regrown_of (HAL.out _ (below_regrown _ _ _)) | exact Calls.regrown_of (HAL.out _ (below_regrown _ _ _))))))
                    refine wpQuiet_nil ?_
                    intro _ hw'
                    obtain ⟨⟨nq, osq⟩, hwq⟩ := hw'
                    subst hwq
                    have hbq := below_regrown wy nq osq
                    have HBQ := Lib.hid hbq
                    have HLQ := Lib.hid (HLY4.out.trans (hbq.mono HLY4.out.size))
                    have HMQ : Hid ((grow (redrawn wy nq) osq).heap[bw]? = some (.cells #[.bool a0, .bool a1] 41 (0, 0))) := Lib.hid (blk_below hbq hbwk.out)
                    clear hbq S0 S1 S2 S3 S4 S5 S6 S7 S8 S9 S10 S11 G0 G1 G2 G3 G4 R1 M0 M1
                    generalize grow (redrawn wy nq) osq = wz at *
                    have HI2 : Hid (∀ d : Bool, (if d then a1 else a0) = (R.take (k + 1)).any fun x => (x.dest == d) && allowN Fs x.nm h) := Lib.hid (take_any HX.out (fun x d => (x.dest == d) && allowN Fs x.nm h) HIN.out (fun d' => by
                      cases d' with
                      | false => left; rw [HDD.out]; rfl
                      | true => right; exact HA.out
                    ))
                    go_wp2
                    go_roundw
                    case rel =>
                      first
                        | exact ⟨k + 1, a0, a1, by go_num, by omega, HMQ, HLQ, HI2⟩
                        | (repeat apply Exists.intro); exact ⟨⟨k + 1, a0, a1, by go_num, by omega, HMQ, HLQ, HI2⟩, rfl⟩
                    case measure =>
                      change R.length - ((k : Int) + 1).toNat < R.length - (k : Int).toNat
                      omega
                  | false =>
                    rw [ha] at M1
                    have HA := Lib.hid ha
                    clear ha
                    cases al with
                    | true =>
                      refine wp_region_quiet_below (by kernel_rfl) (by kernel_rfl) ?_
                      repeat (first | go_big_quiet_step ((go_at_call 8; (first | with_reducible exact Calls.regrown_of (HAL.out _ (below_regrown _ _ _)) | exact Calls.regrown_of (HAL.out _ (below_regrown _ _ _))))) | quiet_step ((go_at_call 8; (first | with_reducible exact Calls.regrown_of (HAL.out _ (below_regrown _ _ _)) | exact Calls.regrown_of (HAL.out _ (below_regrown _ _ _))))))
                      refine wpQuiet_nil ?_
                      intro _ hw'
                      obtain ⟨⟨nq, osq⟩, hwq⟩ := hw'
                      subst hwq
                      have hbq := below_regrown wy nq osq
                      have HBQ := Lib.hid hbq
                      have HLQ := Lib.hid (HLY4.out.trans (hbq.mono HLY4.out.size))
                      have HMQ : Hid ((grow (redrawn wy nq) osq).heap[bw]? = some (.cells #[.bool a0, .bool a1] 41 (0, 0))) := Lib.hid (blk_below hbq hbwk.out)
                      clear hbq S0 S1 S2 S3 S4 S5 S6 S7 S8 S9 S10 S11 G0 G1 G2 G3 G4 R1 M0 M1
                      generalize grow (redrawn wy nq) osq = wz at *
                      have hmz := HMQ.out
                      obtain ⟨m0, m1, _, _⟩ := two_cells hmz
                      have fz := frozen_of_row wz _ 1 _ _ hmz
                      have HMS : Hid ((wz.setCell ⟨bw, 1, none⟩ (.bool true)).heap[bw]? = some (.cells #[.bool a0, .bool true] 41 (0, 0))) := Lib.hid (heap_setCell_same _ _ _ _ _ _ hmz)
                      have HLS : Hid (Below w4.heap.size w4 (wz.setCell ⟨bw, 1, none⟩ (.bool true))) := Lib.hid (HLQ.out.setCell (p := ⟨bw, 1, none⟩) HBW.out (.bool true))
                      have hns : hasR ns k = false := by
                        cases hh : hasR ns k with
                        | false => rfl
                        | true =>
                          obtain ⟨y, hy, he⟩ := List.any_eq_true.1 hh
                          obtain rfl : y = k := by simpa using he
                          obtain ⟨z, hz, hs⟩ := HNS.out y hy
                          rw [HX.out] at hz
                          injection hz with hz
                          subst hz
                          have h1 := hs (hS h) (by rw [own_hd HOKF.out]; exact HALQ.out.symm)
                          have h2 := HIN.out x.dest
                          rw [HDD.out] at h1 h2
                          rw [ahead_hd HOKF.out] at h1
                          rw [← h2] at h1
                          have h3 := HA.out
                          simp [h3] at h1
                      have HHAS := Lib.hid (rwHas_any ns (.slice An ns.length cn) k (wz.setCell ⟨bw, 1, none⟩ (.bool true)) (((Rd.of_own HON.out).below HLS.out).mono HLS.out.size) (by have := HNL.out; omega))
                      have HI2 : Hid (∀ d : Bool, (if d then true else a0) = (R.take (k + 1)).any fun x => (x.dest == d) && allowN Fs x.nm h) := Lib.hid (take_set HX.out (fun x d => (x.dest == d) && allowN Fs x.nm h) (fun d' => by
                        have h1 := HIN.out d'
                        have h2 := HALQ.out
                        have h3 := HDD.out
                        have h4 := HA.out
                        cases d' <;> simp_all))
                      have HNSF := Lib.hid hns
                      clear hmz hns
                      go_wp2_with fail
                      generalize wz.setCell ⟨bw, 1, none⟩ (.bool true) = wv at *
                      have hcall := HHAS.out
                      rw [HNSF.out] at hcall
                      refine hcall.mono ?_
                      rintro e w9 ⟨rfl, rfl⟩
                      clear hcall HHAS m0 m1 fz
                      go_wp2
                      go_roundw
                      case rel =>
                        first
                          | exact ⟨k + 1, a0, true, by go_num, by omega, HMS, HLS, HI2⟩
                          | (repeat apply Exists.intro); exact ⟨⟨k + 1, a0, true, by go_num, by omega, HMS, HLS, HI2⟩, rfl⟩
                      case measure =>
                        change R.length - ((k : Int) + 1).toNat < R.length - (k : Int).toNat
                        omega
                    | false =>
                      refine wp_region_quiet_below (by kernel_rfl) (by kernel_rfl) ?_
                      repeat (first | go_big_quiet_step ((go_at_call 8; (first | with_reducible exact Calls.regrown_of (HAL.out _ (below_regrown _ _ _)) | exact Calls.regrown_of (HAL.out _ (below_regrown _ _ _))))) | quiet_step ((go_at_call 8; (first | with_reducible exact Calls.regrown_of (HAL.out _ (below_regrown _ _ _)) | exact Calls.regrown_of (HAL.out _ (below_regrown _ _ _))))))
                      refine wpQuiet_nil ?_
                      intro _ hw'
                      obtain ⟨⟨nq, osq⟩, hwq⟩ := hw'
                      subst hwq
                      have hbq := below_regrown wy nq osq
                      have HBQ := Lib.hid hbq
                      have HLQ := Lib.hid (HLY4.out.trans (hbq.mono HLY4.out.size))
                      have HMQ : Hid ((grow (redrawn wy nq) osq).heap[bw]? = some (.cells #[.bool a0, .bool a1] 41 (0, 0))) := Lib.hid (blk_below hbq hbwk.out)
                      clear hbq S0 S1 S2 S3 S4 S5 S6 S7 S8 S9 S10 S11 G0 G1 G2 G3 G4 R1 M0 M1
                      generalize grow (redrawn wy nq) osq = wz at *
                      have HI2 : Hid (∀ d : Bool, (if d then a1 else a0) = (R.take (k + 1)).any fun x => (x.dest == d) && allowN Fs x.nm h) := Lib.hid (take_any HX.out (fun x d => (x.dest == d) && allowN Fs x.nm h) HIN.out (fun d' => by
                        left; rw [← HALQ.out]; simp))
                      go_wp2
                      go_roundw
                      case rel =>
                        first
                          | exact ⟨k + 1, a0, a1, by go_num, by omega, HMQ, HLQ, HI2⟩
                          | (repeat apply Exists.intro); exact ⟨⟨k + 1, a0, a1, by go_num, by omega, HMQ, HLQ, HI2⟩, rfl⟩
                      case measure =>
                        change R.length - ((k : Int) + 1).toNat < R.length - (k : Int).toNat
                        omega
              · obtain rfl : k = R.length := by omega
                have hIk : ¬ (R.length : Int) < (R.length : Int) := by omega
                have s0 : wy.cell? ⟨w.heap.size, 0, none⟩ = some (c0) := cell_of_row _ _ 0 _ _ (0, 0) (blk_below HLY0.out HK0.out)
                have s1 : wy.cell? ⟨w.heap.size, 1, none⟩ = some (c1) := cell_of_row _ _ 1 _ _ (0, 0) (blk_below HLY0.out HK0.out)
                have s2 : wy.cell? ⟨w.heap.size, 2, none⟩ = some (c2) := cell_of_row _ _ 2 _ _ (0, 0) (blk_below HLY0.out HK0.out)
                have s3 : wy.cell? ⟨w.heap.size, 3, none⟩ = some (.slice AI nI cI) := cell_of_row _ _ 3 _ _ (0, 0) (blk_below HLY0.out HK0.out)
                have s4 : wy.cell? ⟨w.heap.size, 4, none⟩ = some (.slice AF Fs.length cF) := cell_of_row _ _ 4 _ _ (0, 0) (blk_below HLY0.out HK0.out)
                have s5 : wy.cell? ⟨w.heap.size, 5, none⟩ = some (.slice AR R.length cR) := cell_of_row _ _ 5 _ _ (0, 0) (blk_below HLY0.out HK0.out)
                have s6 : wy.cell? ⟨w.heap.size, 6, none⟩ = some (c6) := cell_of_row _ _ 6 _ _ (0, 0) (blk_below HLY0.out HK0.out)
                have s7 : wy.cell? ⟨w.heap.size, 7, none⟩ = some (.slice AP P.length cP) := cell_of_row _ _ 7 _ _ (0, 0) (blk_below HLY0.out HK0.out)
                have s8 : wy.cell? ⟨w.heap.size, 8, none⟩ = some (.slice AC C.length cC) := cell_of_row _ _ 8 _ _ (0, 0) (blk_below HLY0.out HK0.out)
                have s9 : wy.cell? ⟨w.heap.size, 9, none⟩ = some (.slice AQ Q.length cQ) := cell_of_row _ _ 9 _ _ (0, 0) (blk_below HLY0.out HK0.out)
                have s10 : wy.cell? ⟨w.heap.size, 10, none⟩ = some (c10) := cell_of_row _ _ 10 _ _ (0, 0) (blk_below HLY0.out HK0.out)
                have s11 : wy.cell? ⟨w.heap.size, 11, none⟩ = some (c11) := cell_of_row _ _ 11 _ _ (0, 0) (blk_below HLY0.out HK0.out)
                go_wp2
                go_roundw
                case rel =>
                  first
                    | exact ⟨q + 1, by go_num, by omega, by omega, HLY4⟩
                    | (repeat apply Exists.intro); exact ⟨⟨q + 1, by go_num, by omega, by omega, HLY4⟩, rfl⟩
                case measure =>
                  change 20 - ((q : Int) + 1).toNat < 20 - (q : Int).toNat
                  omega
          · have hql2 : ¬ ((q : Int) < (Hs.length : Int) ∧ (q : Int) < 20) := by omega
            have HBE := Lib.hid (HB0.out.trans ((HB4.out.trans (HLX.out.mono hsz4)).mono hsz0))
            by_cases hq1 : q < Hs.length
            · have hI1 : (q : Int) < (Hs.length : Int) := by omega
              have hI2 : ¬ (q : Int) < 20 := by omega
              go_wp2
              go_ret
              exact ⟨rfl, HBE.out⟩
            · have hI1 : ¬ (q : Int) < (Hs.length : Int) := by omega
              go_wp2
              go_ret
              exact ⟨rfl, HBE.out⟩
end
end Go.Proofs.YthhcaoljejifeaaGreat

/-
  The cells of rules and of headers (written by wip/gen/genelem.py).
-/
namespace Go.Proofs.YthhcaoljejifeaaGreat
open Go Go.RowKit Go.ChangeShapes Go.WideShapes Go.Deep

set_option maxHeartbeats 1000000 in
theorem elem_rule {H : Type} {enc : TypeId × Value → H} {w : World} {base : Nat} {spare : Nat → Bool} {held : Bool} (n : Nat) (cs : List Value) (x : DataW H × List MemPlace) (h : DataW.trod enc Tryz.prog w base spare held n 71 cs = some x) : ∃ r : RuleV, cs = r.enc := by
  obtain ⟨l0, m0, s0⟩ := sub_at Tryz.underlying71 h
  rw [show Tryz.prog.cellsOf 71 = 10 from by kernel_rfl] at l0
  obtain ⟨c0, c1, c2, c3, c4, c5, c6, c7, c8, c9, rfl⟩ : ∃ c0 c1 c2 c3 c4 c5 c6 c7 c8 c9, cs = [c0, c1, c2, c3, c4, c5, c6, c7, c8, c9] := by
    match cs, l0 with
    | [c0, c1, c2, c3, c4, c5, c6, c7, c8, c9], _ => exact ⟨c0, c1, c2, c3, c4, c5, c6, c7, c8, c9, rfl⟩
  obtain ⟨_, g1⟩ := s0 0 _ 0 4 1 rfl rfl rfl (by kernel_rfl)
  replace g1 : DataW.trod enc Tryz.prog w base spare held m0 4 [c0] = some _ := g1
  obtain ⟨v0, e0, _⟩ := DataW.trod_bool Tryz.underlying4 g1
  obtain rfl := (List.cons.inj e0).1
  obtain ⟨_, g2⟩ := s0 1 _ 1 3 1 rfl rfl rfl (by kernel_rfl)
  replace g2 : DataW.trod enc Tryz.prog w base spare held m0 3 [c1] = some _ := g2
  obtain ⟨v1, e1, _, w1⟩ := DataW.trod_int Tryz.underlying3 g2
  have b1 := bounds_i64 w1
  obtain rfl := (List.cons.inj e1).1
  obtain ⟨_, g3⟩ := s0 2 _ 2 69 2 rfl rfl rfl (by kernel_rfl)
  replace g3 : DataW.trod enc Tryz.prog w base spare held m0 69 [c2, c3] = some _ := g3
  obtain ⟨l4, m4, s4⟩ := sub_at Tryz.underlying69 g3
  obtain ⟨_, g5⟩ := s4 0 _ 0 43 1 rfl rfl rfl (by kernel_rfl)
  replace g5 : DataW.trod enc Tryz.prog w base spare held m4 43 [c2] = some _ := g5
  obtain ⟨v2, e2, _, w2⟩ := DataW.trod_int Tryz.underlying43 g5
  have b2 := bounds_u32 w2
  obtain rfl := (List.cons.inj e2).1
  obtain ⟨_, g6⟩ := s4 1 _ 1 3 1 rfl rfl rfl (by kernel_rfl)
  replace g6 : DataW.trod enc Tryz.prog w base spare held m4 3 [c3] = some _ := g6
  obtain ⟨v3, e3, _, w3⟩ := DataW.trod_int Tryz.underlying3 g6
  have b3 := bounds_i64 w3
  obtain rfl := (List.cons.inj e3).1
  obtain ⟨_, g7⟩ := s0 3 _ 4 69 2 rfl rfl rfl (by kernel_rfl)
  replace g7 : DataW.trod enc Tryz.prog w base spare held m0 69 [c4, c5] = some _ := g7
  obtain ⟨l8, m8, s8⟩ := sub_at Tryz.underlying69 g7
  obtain ⟨_, g9⟩ := s8 0 _ 0 43 1 rfl rfl rfl (by kernel_rfl)
  replace g9 : DataW.trod enc Tryz.prog w base spare held m8 43 [c4] = some _ := g9
  obtain ⟨v4, e4, _, w4⟩ := DataW.trod_int Tryz.underlying43 g9
  have b4 := bounds_u32 w4
  obtain rfl := (List.cons.inj e4).1
  obtain ⟨_, g10⟩ := s8 1 _ 1 3 1 rfl rfl rfl (by kernel_rfl)
  replace g10 : DataW.trod enc Tryz.prog w base spare held m8 3 [c5] = some _ := g10
  obtain ⟨v5, e5, _, w5⟩ := DataW.trod_int Tryz.underlying3 g10
  have b5 := bounds_i64 w5
  obtain rfl := (List.cons.inj e5).1
  obtain ⟨_, g11⟩ := s0 4 _ 6 66 2 rfl rfl rfl (by kernel_rfl)
  replace g11 : DataW.trod enc Tryz.prog w base spare held m0 66 [c6, c7] = some _ := g11
  obtain ⟨l12, m12, s12⟩ := sub_at Tryz.underlying66 g11
  obtain ⟨_, g13⟩ := s12 0 _ 0 42 1 rfl rfl rfl (by kernel_rfl)
  replace g13 : DataW.trod enc Tryz.prog w base spare held m12 42 [c6] = some _ := g13
  obtain ⟨v6, e6, _, w6⟩ := DataW.trod_int Tryz.underlying42 g13
  have b6 := bounds_u32 w6
  obtain rfl := (List.cons.inj e6).1
  obtain ⟨_, g14⟩ := s12 1 _ 1 42 1 rfl rfl rfl (by kernel_rfl)
  replace g14 : DataW.trod enc Tryz.prog w base spare held m12 42 [c7] = some _ := g14
  obtain ⟨v7, e7, _, w7⟩ := DataW.trod_int Tryz.underlying42 g14
  have b7 := bounds_u32 w7
  obtain rfl := (List.cons.inj e7).1
  obtain ⟨_, g15⟩ := s0 5 _ 8 66 2 rfl rfl rfl (by kernel_rfl)
  replace g15 : DataW.trod enc Tryz.prog w base spare held m0 66 [c8, c9] = some _ := g15
  obtain ⟨l16, m16, s16⟩ := sub_at Tryz.underlying66 g15
  obtain ⟨_, g17⟩ := s16 0 _ 0 42 1 rfl rfl rfl (by kernel_rfl)
  replace g17 : DataW.trod enc Tryz.prog w base spare held m16 42 [c8] = some _ := g17
  obtain ⟨v8, e8, _, w8⟩ := DataW.trod_int Tryz.underlying42 g17
  have b8 := bounds_u32 w8
  obtain rfl := (List.cons.inj e8).1
  obtain ⟨_, g18⟩ := s16 1 _ 1 42 1 rfl rfl rfl (by kernel_rfl)
  replace g18 : DataW.trod enc Tryz.prog w base spare held m16 42 [c9] = some _ := g18
  obtain ⟨v9, e9, _, w9⟩ := DataW.trod_int Tryz.underlying42 g18
  have b9 := bounds_u32 w9
  obtain rfl := (List.cons.inj e9).1
  exact ⟨⟨v0, v1, v2, v3, v4, v5, v6, v7, v8, v9, by omega, ⟨by omega, by omega⟩, ⟨by omega, by omega⟩, ⟨by omega, by omega⟩, ⟨by omega, by omega⟩, ⟨by omega, by omega⟩, ⟨by omega, by omega⟩⟩, rfl⟩

set_option maxHeartbeats 1000000 in
theorem elem_header {H : Type} {enc : TypeId × Value → H} {w : World} {base : Nat} {spare : Nat → Bool} {held : Bool} (n : Nat) (cs : List Value) (x : DataW H × List MemPlace) (h : DataW.trod enc Tryz.prog w base spare held n 49 cs = some x) : ∃ r : HeaderV, cs = r.enc := by
  obtain ⟨l0, m0, s0⟩ := sub_at Tryz.underlying49 h
  rw [show Tryz.prog.cellsOf 49 = 5 from by kernel_rfl] at l0
  obtain ⟨c0, c1, c2, c3, c4, rfl⟩ : ∃ c0 c1 c2 c3 c4, cs = [c0, c1, c2, c3, c4] := by
    match cs, l0 with
    | [c0, c1, c2, c3, c4], _ => exact ⟨c0, c1, c2, c3, c4, rfl⟩
  obtain ⟨_, g1⟩ := s0 0 _ 0 43 1 rfl rfl rfl (by kernel_rfl)
  replace g1 : DataW.trod enc Tryz.prog w base spare held m0 43 [c0] = some _ := g1
  obtain ⟨v0, e0, _, w0⟩ := DataW.trod_int Tryz.underlying43 g1
  have b0 := bounds_u32 w0
  obtain rfl := (List.cons.inj e0).1
  obtain ⟨_, g2⟩ := s0 1 _ 1 43 1 rfl rfl rfl (by kernel_rfl)
  replace g2 : DataW.trod enc Tryz.prog w base spare held m0 43 [c1] = some _ := g2
  obtain ⟨v1, e1, _, w1⟩ := DataW.trod_int Tryz.underlying43 g2
  have b1 := bounds_u32 w1
  obtain rfl := (List.cons.inj e1).1
  obtain ⟨_, g3⟩ := s0 2 _ 2 5 1 rfl rfl rfl (by kernel_rfl)
  replace g3 : DataW.trod enc Tryz.prog w base spare held m0 5 [c2] = some _ := g3
  obtain ⟨v2, e2, _, w2⟩ := DataW.trod_int Tryz.underlying5 g3
  have b2 := bounds_u8 w2
  obtain rfl := (List.cons.inj e2).1
  obtain ⟨_, g4⟩ := s0 3 _ 3 47 1 rfl rfl rfl (by kernel_rfl)
  replace g4 : DataW.trod enc Tryz.prog w base spare held m0 47 [c3] = some _ := g4
  obtain ⟨v3, e3, _, w3⟩ := DataW.trod_int Tryz.underlying47 g4
  have b3 := bounds_u16 w3
  obtain rfl := (List.cons.inj e3).1
  obtain ⟨_, g5⟩ := s0 4 _ 4 47 1 rfl rfl rfl (by kernel_rfl)
  replace g5 : DataW.trod enc Tryz.prog w base spare held m0 47 [c4] = some _ := g5
  obtain ⟨v4, e4, _, w4⟩ := DataW.trod_int Tryz.underlying47 g5
  have b4 := bounds_u16 w4
  obtain rfl := (List.cons.inj e4).1
  exact ⟨⟨v0, v1, v2, v3, v4, ⟨by omega, by omega⟩, ⟨by omega, by omega⟩, by omega, by omega, by omega⟩, rfl⟩

end Go.Proofs.YthhcaoljejifeaaGreat

/-
  A device that came in, where what is read is of small bulk (written by wip/gen/genelemdv.py).
-/
namespace Go.Proofs.YthhcaoljejifeaaGreat
open Go Go.RowKit Go.ChangeShapes Go.WideShapes Go.Deep

section
variable {H : Type} {enc : TypeId × Value → H} {P : Program} {w : World} {base : Nat} {spare : Nat → Bool} {held : Bool}
def Bk (d : DataW H) : Prop := Rows.uptoBulk d ≤ 1048576
theorem bulk_mem {d : DataW H} : ∀ {ds : List (DataW H)}, d ∈ ds → Rows.uptoBulk d ≤ Rows.uptoBulkAll ds
  | [], h => by simp at h
  | x :: ds, h => by
    rw [Rows.uptoBulkAll]
    rcases List.mem_cons.1 h with rfl | h
    · omega
    · have := bulk_mem h
      omega
theorem bulk_pos : ∀ d : DataW H, 1 ≤ Rows.uptoBulk d
  | .lit l => by cases l <;> simp [Rows.uptoBulk]
  | .nil => by simp [Rows.uptoBulk]
  | .ptr d => by simp [Rows.uptoBulk]
  | .slice a b => by simp [Rows.uptoBulk]
  | .agg a => by simp [Rows.uptoBulk]
  | .iface _ d => by simp [Rows.uptoBulk]
  | .map a => by simp [Rows.uptoBulk]
  | .held _ => by simp [Rows.uptoBulk]
theorem bulk_len : ∀ ds : List (DataW H), ds.length ≤ Rows.uptoBulkAll ds
  | [] => by simp
  | x :: ds => by
    rw [Rows.uptoBulkAll, List.length_cons]
    have := bulk_pos x
    have := bulk_len ds
    omega
theorem sub_atB {t : TypeId} {fs : Array Field} {n : Nat} {cs : List Value} {x : DataW H × List MemPlace} (ht : P.underlying t = some (.struct fs)) (h : DataW.trod enc P w base spare held n t cs = some x) (hw : Bk x.1) :
    cs.length = P.cellsOf t ∧ ∃ m, ∀ (j : Nat) (f : Field) (off : Nat) (ty : TypeId) (k : Nat), fs[j]? = some f → f.offset = off → f.type = ty → P.cellsOf ty = k → ∃ y, DataW.trod enc P w base spare held m ty ((cs.drop off).take k) = some y ∧ Bk y.1 := by
  obtain ⟨xs, m, _, hx, hl, hlen, hf⟩ := DataW.trod_struct ht h
  refine ⟨hl, m, fun j f off ty k hj ho hty hk => ?_⟩
  have h1 := hf j f hj
  have hjl : j < xs.length := by rw [hlen]; exact (Array.getElem?_eq_some_iff.1 hj).1
  subst ho hty hk
  refine ⟨_, h1.trans (List.getElem?_eq_getElem hjl), ?_⟩
  unfold Bk at hw ⊢
  rw [hx] at hw
  dsimp only at hw
  rw [Rows.uptoBulk] at hw
  have := bulk_mem (d := xs[j].1) (ds := xs.map (·.1)) (List.mem_map.2 ⟨xs[j], List.getElem_mem _, rfl⟩)
  omega
theorem slice_formB {t e : TypeId} {n : Nat} {v : Value} {x : DataW H × List MemPlace} (ht : P.underlying t = some (.slice e)) (h : DataW.trod enc P w base spare held n t [v] = some x) (hw : Bk x.1) : ∃ A m c, v = .slice A m c ∧ m ≤ 1048576 := by
  rcases open_slice ht h with ⟨h0, _⟩ | ⟨a, len, cap, m, n', D, Pl, hcs, _, hl, hm, hmm, hx, hi⟩
  · exact ⟨none, 0, 0, (List.cons.inj h0).1, by omega⟩
  · refine ⟨_, len, cap, (List.cons.inj hcs).1, ?_⟩
    unfold Bk at hw
    rw [hx] at hw
    dsimp only at hw
    rw [Rows.uptoBulk] at hw
    have := bulk_len ((List.range len).map D)
    simp at this
    omega
theorem open_rdB {α : Type} {encV : α → List Value} {Q : α → Prop} {k : Nat} (hk : ∀ x, (encV x).length = k) (hk0 : 0 < k) {t e : TypeId} {n : Nat} {cs : List Value} {x : DataW H × List MemPlace} (ht : P.underlying t = some (.slice e)) (hC : P.cellsOf e = k)
    (hel : ∀ n cs y, DataW.trod enc P w base spare held n e cs = some y → Bk y.1 → ∃ r, cs = encV r ∧ Q r) (h : DataW.trod enc P w base spare held n t cs = some x) (hw : Bk x.1) :
    ∃ (v : Value) (L : List α), cs = [v] ∧ Rd w w.heap.size k v L.length (L.flatMap encV) ∧ L.length ≤ 1048576 ∧ (∀ r ∈ L, Q r) := by
  rcases open_slice ht h with ⟨h0, _⟩ | ⟨a, len, cap, m, n', D, Pl, hcs, _, hl, hm, hmm, hx, hi⟩
  · exact ⟨_, [], h0, ⟨none, 0, rfl, by simp, by simp, fun h => absurd h (by simp)⟩, by simp, by simp⟩
  · have hlm : len ≤ m := by rw [hmm]; split <;> omega
    unfold Bk at hw
    rw [hx] at hw
    dsimp only at hw
    rw [Rows.uptoBulk] at hw
    have hw1 : ∀ i, i < len → Bk (D i) := fun i hi' => by
      have := bulk_mem (d := D i) (ds := (List.range len).map D) (List.mem_map.2 ⟨i, List.mem_range.2 hi', rfl⟩)
      unfold Bk
      omega
    have hw2 : len ≤ 1048576 := by
      have := bulk_len ((List.range len).map D)
      simp at this
      omega
    obtain ⟨L, hL, hq⟩ := list_told (Q := fun i r => w.cells? base (a.add (i * k)) k = some (encV r) ∧ Q r) len (fun i hi' => by
      obtain ⟨cs', hc, ht'⟩ := hi i (by omega)
      obtain ⟨r, hr, hQ⟩ := hel _ _ _ ht' (hw1 i hi')
      rw [hC] at hc
      exact ⟨r, by rw [hc, hr], hQ⟩)
    refine ⟨_, L, hcs, ⟨some a, cap, by rw [hL], by omega, flat_len encV k hk L, fun hpos => ?_⟩, by omega, fun r hr => ?_⟩
    · obtain ⟨b, off, sp⟩ := a
      have hz : ∃ u, w.cell? ⟨b, off, sp⟩ = some u := by
        obtain ⟨r, hr⟩ : ∃ r, L[0]? = some r := ⟨_, List.getElem?_eq_getElem hpos⟩
        obtain ⟨_, _, hat⟩ := World.cells?_some (hq 0 r hr).1
        have h1 := hat 0 hk0
        have h2 : (encV r)[0]? = some ((encV r)[0]'(by rw [hk]; exact hk0)) := List.getElem?_eq_getElem _
        rw [h2] at h1
        refine ⟨_, Eq.trans ?_ h1⟩
        simp [Addr.add]
      obtain ⟨u0, hu0⟩ := hz
      obtain rfl := Go.Proofs.cell_spot hu0
      refine ⟨b, off, rfl, ?_, fun j u hu => ?_⟩
      · rcases Nat.lt_or_ge b w.heap.size with h | h
        · exact h
        · have hn : w.heap[b]? = none := by simp [h]
          simp [World.cell?, hn] at hu0
      · obtain ⟨i, jj, r, hj, hjj, hr, hu'⟩ := flat_inv encV k hk L j u hu
        obtain ⟨_, _, hat⟩ := World.cells?_some (hq i r hr).1
        have h1 := hat jj hjj
        rw [hu'] at h1
        have e : (Addr.add ⟨b, off, none⟩ (i * k)).add jj = ⟨b, off + j, none⟩ := by
          rw [hj]; simp only [Addr.add]
          split <;> split <;> simp_all <;> omega
        rw [← e]; exact h1
    · obtain ⟨i, hi', he⟩ := List.getElem_of_mem hr
      exact (hq i r (by rw [← he]; exact List.getElem?_eq_getElem hi')).2
end
section
variable {H : Type} {enc : TypeId × Value → H} {w : World} {base : Nat} {spare : Nat → Bool} {held : Bool}
set_option maxHeartbeats 1000000
theorem elem_filtB (n : Nat) (cs : List Value) (x : DataW H × List MemPlace) (h : DataW.trod enc Tryz.prog w base spare held n 54 cs = some x) (hw : Bk x.1) :
    ∃ f : FiltV, cs = f.enc ∧ (Rd w w.heap.size 10 f.v f.L.length (rcells f.L) ∧ f.L.length ≤ 1048576) := by
  obtain ⟨l0, m0, s0⟩ := sub_atB Tryz.underlying54 h hw
  rw [show Tryz.prog.cellsOf 54 = 2 from by kernel_rfl] at l0
  obtain ⟨c0, c1, rfl⟩ : ∃ c0 c1, cs = [c0, c1] := by
    match cs, l0 with
    | [c0, c1], _ => exact ⟨c0, c1, rfl⟩
  obtain ⟨_, g1, _⟩ := s0 0 _ 0 9 1 rfl rfl rfl (by kernel_rfl)
  replace g1 : DataW.trod enc Tryz.prog w base spare held m0 9 [c0] = some _ := g1
  obtain ⟨nm, e0, _⟩ := DataW.trod_string Tryz.underlying9 g1
  obtain rfl := (List.cons.inj e0).1
  obtain ⟨_, g2, hw2⟩ := s0 1 _ 1 52 1 rfl rfl rfl (by kernel_rfl)
  replace g2 : DataW.trod enc Tryz.prog w base spare held m0 52 [c1] = some _ := g2
  obtain ⟨v, L, hv, hr, hl, _⟩ := open_rdB (Q := fun _ => True) rule_len (by decide) Tryz.underlying52 (by kernel_rfl) (fun n cs y h _ => by
    obtain ⟨r, hr⟩ := elem_rule n cs y h
    exact ⟨r, hr, trivial⟩) g2 hw2
  obtain rfl := (List.cons.inj hv).1
  exact ⟨⟨nm, c1, L⟩, rfl, hr, hl⟩
theorem elem_rewB (n : Nat) (cs : List Value) (x : DataW H × List MemPlace) (h : DataW.trod enc Tryz.prog w base spare held n 45 cs = some x) : ∃ r : RewV, cs = r.enc := by
  obtain ⟨l0, m0, s0⟩ := sub_at Tryz.underlying45 h
  rw [show Tryz.prog.cellsOf 45 = 3 from by kernel_rfl] at l0
  obtain ⟨c0, c1, c2, rfl⟩ : ∃ c0 c1 c2, cs = [c0, c1, c2] := by
    match cs, l0 with
    | [c0, c1, c2], _ => exact ⟨c0, c1, c2, rfl⟩
  obtain ⟨_, g1⟩ := s0 0 _ 0 4 1 rfl rfl rfl (by kernel_rfl)
  replace g1 : DataW.trod enc Tryz.prog w base spare held m0 4 [c0] = some _ := g1
  obtain ⟨v0, e0, _⟩ := DataW.trod_bool Tryz.underlying4 g1
  obtain rfl := (List.cons.inj e0).1
  obtain ⟨_, g2⟩ := s0 1 _ 1 9 1 rfl rfl rfl (by kernel_rfl)
  replace g2 : DataW.trod enc Tryz.prog w base spare held m0 9 [c1] = some _ := g2
  obtain ⟨v1, e1, _⟩ := DataW.trod_string Tryz.underlying9 g2
  obtain rfl := (List.cons.inj e1).1
  obtain ⟨_, g3⟩ := s0 2 _ 2 43 1 rfl rfl rfl (by kernel_rfl)
  replace g3 : DataW.trod enc Tryz.prog w base spare held m0 43 [c2] = some _ := g3
  obtain ⟨v2, e2, _, w2⟩ := DataW.trod_int Tryz.underlying43 g3
  have b2 := bounds_u32 w2
  obtain rfl := (List.cons.inj e2).1
  exact ⟨⟨v0, v1, v2, ⟨by omega, by omega⟩⟩, rfl⟩
theorem elem_plB (n : Nat) (cs : List Value) (x : DataW H × List MemPlace) (h : DataW.trod enc Tryz.prog w base spare held n 57 cs = some x) (hw : Bk x.1) : ∃ r : NmV, cs = r.enc ∧ r.n ≤ 1048576 := by
  obtain ⟨l0, m0, s0⟩ := sub_atB Tryz.underlying57 h hw
  rw [show Tryz.prog.cellsOf 57 = 2 from by kernel_rfl] at l0
  obtain ⟨c0, c1, rfl⟩ : ∃ c0 c1, cs = [c0, c1] := by
    match cs, l0 with
    | [c0, c1], _ => exact ⟨c0, c1, rfl⟩
  obtain ⟨_, g1, _⟩ := s0 0 _ 0 9 1 rfl rfl rfl (by kernel_rfl)
  replace g1 : DataW.trod enc Tryz.prog w base spare held m0 9 [c0] = some _ := g1
  obtain ⟨v0, e0, _⟩ := DataW.trod_string Tryz.underlying9 g1
  obtain rfl := (List.cons.inj e0).1
  obtain ⟨_, g2, hw2⟩ := s0 1 _ 1 55 1 rfl rfl rfl (by kernel_rfl)
  replace g2 : DataW.trod enc Tryz.prog w base spare held m0 55 [c1] = some _ := g2
  obtain ⟨A, m, c, rfl, hm⟩ := slice_formB Tryz.underlying55 g2 hw2
  exact ⟨⟨v0, A, m, c⟩, rfl, hm⟩
theorem elem_clB (n : Nat) (cs : List Value) (x : DataW H × List MemPlace) (h : DataW.trod enc Tryz.prog w base spare held n 60 cs = some x) (hw : Bk x.1) : ∃ r : NmV, cs = r.enc ∧ r.n ≤ 1048576 := by
  obtain ⟨l0, m0, s0⟩ := sub_atB Tryz.underlying60 h hw
  rw [show Tryz.prog.cellsOf 60 = 2 from by kernel_rfl] at l0
  obtain ⟨c0, c1, rfl⟩ : ∃ c0 c1, cs = [c0, c1] := by
    match cs, l0 with
    | [c0, c1], _ => exact ⟨c0, c1, rfl⟩
  obtain ⟨_, g1, _⟩ := s0 0 _ 0 9 1 rfl rfl rfl (by kernel_rfl)
  replace g1 : DataW.trod enc Tryz.prog w base spare held m0 9 [c0] = some _ := g1
  obtain ⟨v0, e0, _⟩ := DataW.trod_string Tryz.underlying9 g1
  obtain rfl := (List.cons.inj e0).1
  obtain ⟨_, g2, hw2⟩ := s0 1 _ 1 58 1 rfl rfl rfl (by kernel_rfl)
  replace g2 : DataW.trod enc Tryz.prog w base spare held m0 58 [c1] = some _ := g2
  obtain ⟨A, m, c, rfl, hm⟩ := slice_formB Tryz.underlying58 g2 hw2
  exact ⟨⟨v0, A, m, c⟩, rfl, hm⟩
theorem elem_poB (n : Nat) (cs : List Value) (x : DataW H × List MemPlace) (h : DataW.trod enc Tryz.prog w base spare held n 63 cs = some x) (hw : Bk x.1) : ∃ r : PoV, cs = r.enc ∧ r.v.n ≤ 1048576 := by
  obtain ⟨l0, m0, s0⟩ := sub_atB Tryz.underlying63 h hw
  rw [show Tryz.prog.cellsOf 63 = 3 from by kernel_rfl] at l0
  obtain ⟨c0, c1, c2, rfl⟩ : ∃ c0 c1 c2, cs = [c0, c1, c2] := by
    match cs, l0 with
    | [c0, c1, c2], _ => exact ⟨c0, c1, c2, rfl⟩
  obtain ⟨_, g1, _⟩ := s0 0 _ 0 9 1 rfl rfl rfl (by kernel_rfl)
  replace g1 : DataW.trod enc Tryz.prog w base spare held m0 9 [c0] = some _ := g1
  obtain ⟨v0, e0, _⟩ := DataW.trod_string Tryz.underlying9 g1
  obtain rfl := (List.cons.inj e0).1
  obtain ⟨_, g2, hw2⟩ := s0 1 _ 1 61 1 rfl rfl rfl (by kernel_rfl)
  replace g2 : DataW.trod enc Tryz.prog w base spare held m0 61 [c1] = some _ := g2
  obtain ⟨A, m, c, rfl, hm⟩ := slice_formB Tryz.underlying61 g2 hw2
  obtain ⟨_, g3, _⟩ := s0 2 _ 2 4 1 rfl rfl rfl (by kernel_rfl)
  replace g3 : DataW.trod enc Tryz.prog w base spare held m0 4 [c2] = some _ := g3
  obtain ⟨v2, e2, _⟩ := DataW.trod_bool Tryz.underlying4 g3
  obtain rfl := (List.cons.inj e2).1
  exact ⟨⟨⟨v0, A, m, c⟩, v2⟩, rfl, hm⟩
theorem elem_devB (n : Nat) (cs : List Value) (x : DataW H × List MemPlace) (h : DataW.trod enc Tryz.prog w base spare held n 33 cs = some x) (hw : Bk x.1) :
    ∃ (c0 c1 c2 c6 c10 c11 vI vF vR vP vC vQ : Value) (nI : Nat) (Fs : List FiltV) (R : List RewV) (P C : List NmV) (Q : List PoV), cs = [c0, c1, c2, vI, vF, vR, c6, vP, vC, vQ, c10, c11] ∧ (∃ A c, vI = .slice A nI c) ∧ FsAt w w.heap.size vF Fs ∧ Rd w w.heap.size 3 vR R.length (wcells R) ∧
      Rd w w.heap.size 2 vP P.length (nmcells P) ∧ Rd w w.heap.size 2 vC C.length (nmcells C) ∧ Rd w w.heap.size 3 vQ Q.length (pocells Q) ∧ (nI ≤ 1048576 ∧ R.length ≤ 1048576 ∧ Fs.length ≤ 1048576 ∧ P.length ≤ 1048576 ∧ C.length ≤ 1048576 ∧ Q.length ≤ 1048576) ∧
      (∀ f ∈ Fs, f.L.length ≤ 1048576) ∧ (∀ x ∈ P, x.n ≤ 1048576) ∧ (∀ x ∈ C, x.n ≤ 1048576) ∧ (∀ x ∈ Q, x.v.n ≤ 1048576) := by
  obtain ⟨l0, m0, s0⟩ := sub_atB Tryz.underlying33 h hw
  rw [show Tryz.prog.cellsOf 33 = 12 from by kernel_rfl] at l0
  obtain ⟨c0, c1, c2, c3, c4, c5, c6, c7, c8, c9, c10, c11, rfl⟩ : ∃ c0 c1 c2 c3 c4 c5 c6 c7 c8 c9 c10 c11, cs = [c0, c1, c2, c3, c4, c5, c6, c7, c8, c9, c10, c11] := by
    match cs, l0 with
    | [c0, c1, c2, c3, c4, c5, c6, c7, c8, c9, c10, c11], _ => exact ⟨c0, c1, c2, c3, c4, c5, c6, c7, c8, c9, c10, c11, rfl⟩
  obtain ⟨_, g3, z3⟩ := s0 3 _ 3 23 1 rfl rfl rfl (by kernel_rfl)
  replace g3 : DataW.trod enc Tryz.prog w base spare held m0 23 [c3] = some _ := g3
  obtain ⟨AI, nI, cI, hvI, hnI⟩ := slice_formB Tryz.underlying23 g3 z3
  obtain ⟨_, g4, z4⟩ := s0 4 _ 4 24 1 rfl rfl rfl (by kernel_rfl)
  replace g4 : DataW.trod enc Tryz.prog w base spare held m0 24 [c4] = some _ := g4
  obtain ⟨v4, Fs, e4, rF, lF, qF⟩ := open_rdB (Q := fun f : FiltV => Rd w w.heap.size 10 f.v f.L.length (rcells f.L) ∧ f.L.length ≤ 1048576) filt_len (by decide) Tryz.underlying24 (by kernel_rfl) elem_filtB g4 z4
  obtain rfl := (List.cons.inj e4).1
  obtain ⟨_, g5, z5⟩ := s0 5 _ 5 25 1 rfl rfl rfl (by kernel_rfl)
  replace g5 : DataW.trod enc Tryz.prog w base spare held m0 25 [c5] = some _ := g5
  obtain ⟨v5, R, e5, rR, lR, _⟩ := open_rdB (Q := fun _ : RewV => True) rew_len (by decide) Tryz.underlying25 (by kernel_rfl) (fun n cs y h _ => (elem_rewB n cs y h).elim fun r hr => ⟨r, hr, trivial⟩) g5 z5
  obtain rfl := (List.cons.inj e5).1
  obtain ⟨_, g7, z7⟩ := s0 7 _ 7 27 1 rfl rfl rfl (by kernel_rfl)
  replace g7 : DataW.trod enc Tryz.prog w base spare held m0 27 [c7] = some _ := g7
  obtain ⟨v7, L7, e7, r7, l7, q7⟩ := open_rdB (Q := fun r : NmV => r.n ≤ 1048576) nm_len (by decide) Tryz.underlying27 (by kernel_rfl) elem_plB g7 z7
  obtain rfl := (List.cons.inj e7).1
  obtain ⟨_, g8, z8⟩ := s0 8 _ 8 28 1 rfl rfl rfl (by kernel_rfl)
  replace g8 : DataW.trod enc Tryz.prog w base spare held m0 28 [c8] = some _ := g8
  obtain ⟨v8, L8, e8, r8, l8, q8⟩ := open_rdB (Q := fun r : NmV => r.n ≤ 1048576) nm_len (by decide) Tryz.underlying28 (by kernel_rfl) elem_clB g8 z8
  obtain rfl := (List.cons.inj e8).1
  obtain ⟨_, g9, z9⟩ := s0 9 _ 9 29 1 rfl rfl rfl (by kernel_rfl)
  replace g9 : DataW.trod enc Tryz.prog w base spare held m0 29 [c9] = some _ := g9
  obtain ⟨v9, L9, e9, r9, l9, q9⟩ := open_rdB (Q := fun r : PoV => r.v.n ≤ 1048576) po_len (by decide) Tryz.underlying29 (by kernel_rfl) elem_poB g9 z9
  obtain rfl := (List.cons.inj e9).1
  exact ⟨c0, c1, c2, c6, c10, c11, c3, c4, c5, c7, c8, c9, nI, Fs, R, L7, L8, L9, rfl, ⟨AI, cI, hvI⟩, ⟨rF, fun f hf => ⟨(qF f hf).1, by have := (qF f hf).2; omega⟩⟩, rR, r7, r8, r9, ⟨hnI, lR, lF, l7, l8, l9⟩, fun f hf => (qF f hf).2, q7, q8, q9⟩
end
end Go.Proofs.YthhcaoljejifeaaGreat

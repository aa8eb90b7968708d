/-
  The walk of the law HeaderOrder (written by wip/gen/genhorder.py).
-/
import Derived.Test.YtdlhpiknifcehaaDoorHd10
import Derived.Test.YtdlhpiknifcehaaDoorHd7
import Derived.Deep.DeepCutAuto
namespace Go.Proofs.YtdlhpiknifcehaaDoor
open Go Go.RowKit Go.Sort

set_option maxRecDepth 100000 in
set_option maxHeartbeats 4000000 in
theorem hdSameG_any (a b : Hd) (w : World) :
    Calls Tryd.prog 31 #[.agg #[.int .u32 a.src, .int .u32 a.dst, .int .u8 a.proto, .int .u16 a.sp, .int .u16 a.dp], .agg #[.int .u32 b.src, .int .u32 b.dst, .int .u8 b.proto, .int .u16 b.sp, .int .u16 b.dp]] w fun e w' => e = .returned (.bool (decide (a = b))) ∧ Below w.heap.size w w' := by
  by_cases hab : a = b
  · subst hab
    rw [decide_eq_true rfl]
    exact hdSame_any a w
  · rw [decide_eq_false hab]
    by_cases h0 : a.src = b.src
    · by_cases h1 : a.dst = b.dst
      · by_cases h2 : a.proto = b.proto
        · by_cases h3 : a.sp = b.sp
          · by_cases h4 : a.dp = b.dp
            · exact absurd (hd_ext h0 h1 h2 h3 h4) hab
            · have q : (a.dp == b.dp) = false := by simp [h4]
              clear hab h4
              go_enter Tryd.func31, Tryd.ntmps31
              go_wp2
              go_ret
              exact ⟨by simp, below2 w _ _⟩
          · have q : (a.sp == b.sp) = false := by simp [h3]
            clear hab h3
            go_enter Tryd.func31, Tryd.ntmps31
            go_wp2
            go_ret
            exact ⟨by simp, below2 w _ _⟩
        · have q : (a.proto == b.proto) = false := by simp [h2]
          clear hab h2
          go_enter Tryd.func31, Tryd.ntmps31
          go_wp2
          go_ret
          exact ⟨by simp, below2 w _ _⟩
      · have q : (a.dst == b.dst) = false := by simp [h1]
        clear hab h1
        go_enter Tryd.func31, Tryd.ntmps31
        go_wp2
        go_ret
        exact ⟨by simp, below2 w _ _⟩
    · have q : (a.src == b.src) = false := by simp [h0]
      clear hab h0
      go_enter Tryd.func31, Tryd.ntmps31
      go_wp2
      go_ret
      exact ⟨by simp, below2 w _ _⟩
theorem place104 (i : Int) : ∃ k : Nat, k < 104 ∧ wrap64 ((IntKind.u64.wrap i).tmod 104) = k := by
  have h : IntKind.u64.wrap i = i % 18446744073709551616 := by simp [IntKind.wrap, IntKind.bits, IntKind.signed]
  have h0 : 0 ≤ i % 18446744073709551616 := Int.emod_nonneg _ (by decide)
  rw [h, Int.tmod_eq_emod_of_nonneg h0]
  refine ⟨(i % 18446744073709551616 % 104).toNat, by omega, ?_⟩
  unfold wrap64
  omega
structure OrdSt (a b : Hd) (w W : World) : Prop where
  a : W.heap[w.heap.size]? = some a.cells
  b : W.heap[w.heap.size + 1]? = some b.cells
  n : Below w.heap.size w W
theorem OrdSt.below {a b : Hd} {w W W' : World} (H : OrdSt a b w W) (hb : Below W.heap.size W W') : OrdSt a b w W' := ⟨blk_below hb H.a, blk_below hb H.b, below_call H.n hb⟩
theorem turned {a : Hd} (ha : a.ok) {k : Nat} (hk : k < 104) : (a.put k (!a.bit k)).ok ∧ cmpN a.val (a.put k (!a.bit k)).val = (if a.bit k then 1 else -1) := by
  refine ⟨put_ok ha hk, ?_⟩
  have hne : a.bit k ≠ !a.bit k := by cases a.bit k <;> simp
  rw [put_other ha hk hne, val_hdOf (xor_lt (val_lt ha) hk)]
  have hv := bit_val ha hk
  cases hx : a.bit k
  · rw [hx] at hv
    rw [cmpN_lt (turn_gt hv.symm)]
    rfl
  · rw [hx] at hv
    rw [cmpN_gt (turn_lt hv.symm)]
    rfl
theorem same_cmp {a b : Hd} (ha : a.ok) (hb : b.ok) : decide (a = b) = (cmpN a.val b.val == 0) := by
  by_cases h : a = b
  · subst h; rw [cmpN_eq]; simp
  · have hv : ¬ cmpN a.val b.val = 0 := fun e => h (val_inj ha hb (cmpN_zero.1 e))
    rw [decide_eq_false h]
    simp [hv]
theorem cmpN_three (a b : Nat) : cmpN a b = -1 ∨ cmpN a b = 0 ∨ cmpN a b = 1 := by
  unfold cmpN
  split
  · exact Or.inl rfl
  · split
    · exact Or.inr (Or.inr rfl)
    · exact Or.inr (Or.inl rfl)
set_option maxRecDepth 100000 in
set_option maxHeartbeats 4000000 in
theorem lawHOrd_any (a b : Hd) (ha : a.ok) (hb : b.ok) (i : Int) (w : World) (hE : Env w) :
    Calls Tryd.prog 9 #[.agg #[.int .u32 a.src, .int .u32 a.dst, .int .u8 a.proto, .int .u16 a.sp, .int .u16 a.dp], .agg #[.int .u32 b.src, .int .u32 b.dst, .int .u8 b.proto, .int .u16 b.sp, .int .u16 b.dp], .int .i64 i] w fun e w' => e = .returned (.bool true) ∧ Below w.heap.size w w' := by
  have hk := blk2 w a.cells b.cells
  have hb0 := below2 w a.cells b.cells
  go_enter Tryd.func9, Tryd.ntmps9
  go_wp2_with fail
  refine (hworks_any _ (hE.below hb0)).mono ?_
  rintro e w1 ⟨rfl, hb1⟩
  have Ja := blk_below hb1 hk.1
  have Jb := blk_below hb1 hk.2
  have hbw := below_call hb0 hb1
  clear hb1 hb0 hk
  obtain ⟨ca0, ca1, ca2, ca3, ca4⟩ := hd_cell Ja
  obtain ⟨k, hk104, hik⟩ := place104 i
  have HA := Lib.hid ha
  have HB := Lib.hid hb
  have HS := Lib.hid (show OrdSt a b w w1 from ⟨Ja, Jb, hbw⟩)
  clear Ja Jb hbw
  go_wp2_with fail
  rw [hik]
  clear hik
  refine (bit_yes a HA.out k w1 hk104).mono ?_
  rintro e w2 ⟨rfl, hb2⟩
  have HS2 := Lib.hid (HS.out.below hb2)
  clear HS hb2 ca0 ca1 ca2 ca3 ca4
  obtain ⟨ca0, ca1, ca2, ca3, ca4⟩ := hd_cell HS2.out.a
  have hT := turned HA.out hk104
  have hWi := Lib.hid (with_yes a HA.out k (!a.bit k) w2 hk104)
  obtain ⟨c, hc⟩ : ∃ c, c = a.put k (!a.bit k) := ⟨_, rfl⟩
  rw [← hc] at hT hWi
  clear hc
  generalize a.bit k = x at *
  obtain ⟨hTo, hTc⟩ := hT
  have HTo := Lib.hid hTo
  have HTc := Lib.hid hTc
  clear hTo hTc
  go_wp2_with fail
  refine hWi.out.mono ?_
  rintro e w3 ⟨rfl, hb3⟩
  have HS3 := Lib.hid (HS2.out.below hb3)
  clear HS2 hb3 ca0 ca1 ca2 ca3 ca4 hWi
  cases x
  · have HTc2 : cmpN a.val c.val = -1 := HTc.out
    have hac : Hid (∀ v : World, Calls Tryd.prog 42 #[.agg #[.int .u32 a.src, .int .u32 a.dst, .int .u8 a.proto, .int .u16 a.sp, .int .u16 a.dp], .agg #[.int .u32 c.src, .int .u32 c.dst, .int .u8 c.proto, .int .u16 c.sp, .int .u16 c.dp]] v fun e w' => e = .returned (.int .i64 (-1)) ∧ Below v.heap.size v w') := Lib.hid (fun v => by have e := cmp_any a c HA.out HTo.out v; rw [HTc2] at e; exact e)
    have hca : Hid (∀ v : World, Calls Tryd.prog 42 #[.agg #[.int .u32 c.src, .int .u32 c.dst, .int .u8 c.proto, .int .u16 c.sp, .int .u16 c.dp], .agg #[.int .u32 a.src, .int .u32 a.dst, .int .u8 a.proto, .int .u16 a.sp, .int .u16 a.dp]] v fun e w' => e = .returned (.int .i64 (1)) ∧ Below v.heap.size v w') := Lib.hid (fun v => by have e := cmp_any c a HTo.out HA.out v; rw [cmpN_neg, HTc2] at e; exact e)
    clear HTc2
    go_upto_region 9 with fail
    have hW : w3.alloc (.cells #[.int .u32 c.src, .int .u32 c.dst, .int .u8 c.proto, .int .u16 c.sp, .int .u16 c.dp] 48) = w3.alloc c.cells := rfl
    rw [hW]
    clear hW
    have Jc := heap_alloc_new w3 c.cells
    have HS4 := Lib.hid (HS3.out.below (below1 w3 c.cells))
    generalize w3.alloc c.cells = W4 at *
    change World at w3
    generalize w3.heap.size = gc at *
    go_cut [75] (fun s75 wx => s75 = .bool false ∧ Hid (OrdSt a b w wx))
    case first =>
      obtain ⟨ca0, ca1, ca2, ca3, ca4⟩ := hd_cell HS4.out.a
      obtain ⟨cb0, cb1, cb2, cb3, cb4⟩ := hd_cell HS4.out.b
      obtain ⟨cc0, cc1, cc2, cc3, cc4⟩ := hd_cell Jc
      clear Jc
      have Fa0 := cell_regrown ca0
      have Fa1 := cell_regrown ca1
      have Fa2 := cell_regrown ca2
      have Fa3 := cell_regrown ca3
      have Fa4 := cell_regrown ca4
      have Fb0 := cell_regrown cb0
      have Fb1 := cell_regrown cb1
      have Fb2 := cell_regrown cb2
      have Fb3 := cell_regrown cb3
      have Fb4 := cell_regrown cb4
      have Fc0 := cell_regrown cc0
      have Fc1 := cell_regrown cc1
      have Fc2 := cell_regrown cc2
      have Fc3 := cell_regrown cc3
      have Fc4 := cell_regrown cc4
      have hS3 := cmpN_three a.val b.val
      have hsm := fun v : World => hdSameG_any a b v
      rw [same_cmp HA.out HB.out] at hsm
      have hab := fun v : World => cmp_any a b HA.out HB.out v
      have hba := fun v : World => cmp_any b a HB.out HA.out v
      rw [cmpN_neg b.val] at hba
      generalize cmpN a.val b.val = S at *
      have Hsm := Lib.hid hsm
      have Hab := Lib.hid hab
      have Hba := Lib.hid hba
      clear hsm hab hba
      rcases hS3 with rfl | rfl | rfl
      · have Hsm2 : Hid (∀ v : World, Calls Tryd.prog 31 #[.agg #[.int .u32 a.src, .int .u32 a.dst, .int .u8 a.proto, .int .u16 a.sp, .int .u16 a.dp], .agg #[.int .u32 b.src, .int .u32 b.dst, .int .u8 b.proto, .int .u16 b.sp, .int .u16 b.dp]] v fun e w' => e = .returned (.bool false) ∧ Below v.heap.size v w') := Hsm
        have Hab2 : Hid (∀ v : World, Calls Tryd.prog 42 #[.agg #[.int .u32 a.src, .int .u32 a.dst, .int .u8 a.proto, .int .u16 a.sp, .int .u16 a.dp], .agg #[.int .u32 b.src, .int .u32 b.dst, .int .u8 b.proto, .int .u16 b.sp, .int .u16 b.dp]] v fun e w' => e = .returned (.int .i64 (-1)) ∧ Below v.heap.size v w') := Hab
        have Hba2 : Hid (∀ v : World, Calls Tryd.prog 42 #[.agg #[.int .u32 b.src, .int .u32 b.dst, .int .u8 b.proto, .int .u16 b.sp, .int .u16 b.dp], .agg #[.int .u32 a.src, .int .u32 a.dst, .int .u8 a.proto, .int .u16 a.sp, .int .u16 a.dp]] v fun e w' => e = .returned (.int .i64 (1)) ∧ Below v.heap.size v w') := Hba
        clear Hsm Hab Hba
        refine wp_region_quiet_below (by kernel_rfl) (by kernel_rfl) ?_
        repeat (first | go_big_quiet_step ((first | (go_at_call 42; with_reducible exact Calls.regrown_of (hac.out _)) | (go_at_call 42; with_reducible exact Calls.regrown_of (hca.out _)) | (go_at_call 42; with_reducible exact Calls.regrown_of (Hab2.out _)) | (go_at_call 42; with_reducible exact Calls.regrown_of (Hba2.out _)) | (go_at_call 31; with_reducible exact Calls.regrown_of (Hsm2.out _)))) | quiet_step ((first | (go_at_call 42; with_reducible exact Calls.regrown_of (hac.out _)) | (go_at_call 42; with_reducible exact Calls.regrown_of (hca.out _)) | (go_at_call 42; with_reducible exact Calls.regrown_of (Hab2.out _)) | (go_at_call 42; with_reducible exact Calls.regrown_of (Hba2.out _)) | (go_at_call 31; with_reducible exact Calls.regrown_of (Hsm2.out _)))))
        refine wpQuiet_nil ?_
        intro _ hw'
        obtain ⟨⟨nq, osq⟩, hw''⟩ := hw'
        subst hw''
        go_wp2
        go_meet
        exact ⟨rfl, Lib.hid (HS4.out.below (below_regrown _ nq osq))⟩
      · have Hsm2 : Hid (∀ v : World, Calls Tryd.prog 31 #[.agg #[.int .u32 a.src, .int .u32 a.dst, .int .u8 a.proto, .int .u16 a.sp, .int .u16 a.dp], .agg #[.int .u32 b.src, .int .u32 b.dst, .int .u8 b.proto, .int .u16 b.sp, .int .u16 b.dp]] v fun e w' => e = .returned (.bool true) ∧ Below v.heap.size v w') := Hsm
        have Hab2 : Hid (∀ v : World, Calls Tryd.prog 42 #[.agg #[.int .u32 a.src, .int .u32 a.dst, .int .u8 a.proto, .int .u16 a.sp, .int .u16 a.dp], .agg #[.int .u32 b.src, .int .u32 b.dst, .int .u8 b.proto, .int .u16 b.sp, .int .u16 b.dp]] v fun e w' => e = .returned (.int .i64 (0)) ∧ Below v.heap.size v w') := Hab
        have Hba2 : Hid (∀ v : World, Calls Tryd.prog 42 #[.agg #[.int .u32 b.src, .int .u32 b.dst, .int .u8 b.proto, .int .u16 b.sp, .int .u16 b.dp], .agg #[.int .u32 a.src, .int .u32 a.dst, .int .u8 a.proto, .int .u16 a.sp, .int .u16 a.dp]] v fun e w' => e = .returned (.int .i64 (0)) ∧ Below v.heap.size v w') := Hba
        clear Hsm Hab Hba
        refine wp_region_quiet_below (by kernel_rfl) (by kernel_rfl) ?_
        repeat (first | go_big_quiet_step ((first | (go_at_call 42; with_reducible exact Calls.regrown_of (hac.out _)) | (go_at_call 42; with_reducible exact Calls.regrown_of (hca.out _)) | (go_at_call 42; with_reducible exact Calls.regrown_of (Hab2.out _)) | (go_at_call 42; with_reducible exact Calls.regrown_of (Hba2.out _)) | (go_at_call 31; with_reducible exact Calls.regrown_of (Hsm2.out _)))) | quiet_step ((first | (go_at_call 42; with_reducible exact Calls.regrown_of (hac.out _)) | (go_at_call 42; with_reducible exact Calls.regrown_of (hca.out _)) | (go_at_call 42; with_reducible exact Calls.regrown_of (Hab2.out _)) | (go_at_call 42; with_reducible exact Calls.regrown_of (Hba2.out _)) | (go_at_call 31; with_reducible exact Calls.regrown_of (Hsm2.out _)))))
        refine wpQuiet_nil ?_
        intro _ hw'
        obtain ⟨⟨nq, osq⟩, hw''⟩ := hw'
        subst hw''
        go_wp2
        go_meet
        exact ⟨rfl, Lib.hid (HS4.out.below (below_regrown _ nq osq))⟩
      · have Hsm2 : Hid (∀ v : World, Calls Tryd.prog 31 #[.agg #[.int .u32 a.src, .int .u32 a.dst, .int .u8 a.proto, .int .u16 a.sp, .int .u16 a.dp], .agg #[.int .u32 b.src, .int .u32 b.dst, .int .u8 b.proto, .int .u16 b.sp, .int .u16 b.dp]] v fun e w' => e = .returned (.bool false) ∧ Below v.heap.size v w') := Hsm
        have Hab2 : Hid (∀ v : World, Calls Tryd.prog 42 #[.agg #[.int .u32 a.src, .int .u32 a.dst, .int .u8 a.proto, .int .u16 a.sp, .int .u16 a.dp], .agg #[.int .u32 b.src, .int .u32 b.dst, .int .u8 b.proto, .int .u16 b.sp, .int .u16 b.dp]] v fun e w' => e = .returned (.int .i64 (1)) ∧ Below v.heap.size v w') := Hab
        have Hba2 : Hid (∀ v : World, Calls Tryd.prog 42 #[.agg #[.int .u32 b.src, .int .u32 b.dst, .int .u8 b.proto, .int .u16 b.sp, .int .u16 b.dp], .agg #[.int .u32 a.src, .int .u32 a.dst, .int .u8 a.proto, .int .u16 a.sp, .int .u16 a.dp]] v fun e w' => e = .returned (.int .i64 (-1)) ∧ Below v.heap.size v w') := Hba
        clear Hsm Hab Hba
        refine wp_region_quiet_below (by kernel_rfl) (by kernel_rfl) ?_
        repeat (first | go_big_quiet_step ((first | (go_at_call 42; with_reducible exact Calls.regrown_of (hac.out _)) | (go_at_call 42; with_reducible exact Calls.regrown_of (hca.out _)) | (go_at_call 42; with_reducible exact Calls.regrown_of (Hab2.out _)) | (go_at_call 42; with_reducible exact Calls.regrown_of (Hba2.out _)) | (go_at_call 31; with_reducible exact Calls.regrown_of (Hsm2.out _)))) | quiet_step ((first | (go_at_call 42; with_reducible exact Calls.regrown_of (hac.out _)) | (go_at_call 42; with_reducible exact Calls.regrown_of (hca.out _)) | (go_at_call 42; with_reducible exact Calls.regrown_of (Hab2.out _)) | (go_at_call 42; with_reducible exact Calls.regrown_of (Hba2.out _)) | (go_at_call 31; with_reducible exact Calls.regrown_of (Hsm2.out _)))))
        refine wpQuiet_nil ?_
        intro _ hw'
        obtain ⟨⟨nq, osq⟩, hw''⟩ := hw'
        subst hw''
        go_wp2
        go_meet
        exact ⟨rfl, Lib.hid (HS4.out.below (below_regrown _ nq osq))⟩
    case rest =>
      obtain ⟨rfl, hS5⟩ := hcut
      clear HS3 HS4 Jc hac hca HTo HTc
      obtain ⟨ca0, ca1, ca2, ca3, ca4⟩ := hd_cell hS5.out.a
      obtain ⟨cb0, cb1, cb2, cb3, cb4⟩ := hd_cell hS5.out.b
      by_cases hlt : a.val + 1 < hdAll
      · have hno := hdOf_ok hlt
        have hnv := val_hdOf hlt
        have hN := hdNext_any a HA.out wc
        rw [show a.nextV = hdOf (a.val + 1) from if_pos hlt, show a.nextE = 0 from if_pos hlt] at hN
        generalize hdOf (a.val + 1) = n at *
        have HNo := Lib.hid hno
        have HNv := Lib.hid hnv
        have HN := Lib.hid hN
        have HLT := Lib.hid hlt
        clear hno hnv hN hlt
        go_wp2_with fail
        refine HN.out.mono ?_
        rintro e w5 ⟨rfl, hb5⟩
        have hS6 := Lib.hid (hS5.out.below hb5)
        clear hS5 hb5 HN ca0 ca1 ca2 ca3 ca4 cb0 cb1 cb2 cb3 cb4
        have Hbn : Hid (cmpN b.val a.val = 1 ∧ (cmpN n.val b.val = -1 ∨ cmpN n.val b.val = 0) ∨ cmpN b.val a.val = -1 ∨ cmpN b.val a.val = 0) := Lib.hid (by
          have e := HNv.out
          rw [e]
          rcases Nat.lt_trichotomy b.val a.val with h | h | h
          · exact Or.inr (Or.inl (cmpN_lt h))
          · exact Or.inr (Or.inr (by rw [h]; exact cmpN_eq _))
          · refine Or.inl ⟨cmpN_gt h, ?_⟩
            rcases Nat.lt_or_ge (a.val + 1) b.val with h2 | h2
            · exact Or.inl (cmpN_lt h2)
            · refine Or.inr ?_
              rw [show b.val = a.val + 1 by omega]; exact cmpN_eq _)
        have han : Hid (∀ v : World, Calls Tryd.prog 42 #[.agg #[.int .u32 a.src, .int .u32 a.dst, .int .u8 a.proto, .int .u16 a.sp, .int .u16 a.dp], .agg #[.int .u32 n.src, .int .u32 n.dst, .int .u8 n.proto, .int .u16 n.sp, .int .u16 n.dp]] v fun e w' => e = .returned (.int .i64 (-1)) ∧ Below v.heap.size v w') := Lib.hid (fun v => by
          have e := cmp_any a n HA.out HNo.out v
          rw [HNv.out, cmpN_lt (Nat.lt_succ_self _)] at e
          exact e)
        rcases Hbn.out with ⟨h1, h2 | h2⟩ | h1 | h1
        · have hba : Hid (∀ v : World, Calls Tryd.prog 42 #[.agg #[.int .u32 b.src, .int .u32 b.dst, .int .u8 b.proto, .int .u16 b.sp, .int .u16 b.dp], .agg #[.int .u32 a.src, .int .u32 a.dst, .int .u8 a.proto, .int .u16 a.sp, .int .u16 a.dp]] v fun e w' => e = .returned (.int .i64 (1)) ∧ Below v.heap.size v w') := Lib.hid (fun v => by have e := cmp_any b a HB.out HA.out v; rw [h1] at e; exact e)
          have hnb : Hid (∀ v : World, Calls Tryd.prog 42 #[.agg #[.int .u32 n.src, .int .u32 n.dst, .int .u8 n.proto, .int .u16 n.sp, .int .u16 n.dp], .agg #[.int .u32 b.src, .int .u32 b.dst, .int .u8 b.proto, .int .u16 b.sp, .int .u16 b.dp]] v fun e w' => e = .returned (.int .i64 (-1)) ∧ Below v.heap.size v w') := Lib.hid (fun v => by have e := cmp_any n b HNo.out HB.out v; rw [h2] at e; exact e)
          clear h1 h2
          have Ja := hS6.out.a
          have Jb := hS6.out.b
          have hbw := hS6.out.n
          obtain ⟨ca0, ca1, ca2, ca3, ca4⟩ := hd_cell (h := a) Ja
          have fa := hd_frozen (h := a) Ja
          have la := lt_of_block Ja
          have na : w.heap.size ≠ w5.heap.size := by omega
          have Ka := Lib.hid Ja
          clear Ja
          obtain ⟨cb0, cb1, cb2, cb3, cb4⟩ := hd_cell (h := b) Jb
          have fb := hd_frozen (h := b) Jb
          have lb := lt_of_block Jb
          have nb : w.heap.size + 1 ≠ w5.heap.size := by omega
          have Kb := Lib.hid Jb
          clear Jb
          go_wp2_with fail
          refine (han.out _).mono ?_
          rintro e w6 ⟨rfl, hb⟩
          have Ja := blk_below hb ((Below.heap_alloc _ _ _ (by first | omega | (simp; omega))).trans Ka.out)
          have Jb := blk_below hb ((Below.heap_alloc _ _ _ (by first | omega | (simp; omega))).trans Kb.out)
          have Jn := blk_below hb (heap_alloc_new w5 (.cells #[.int .u32 n.src, .int .u32 n.dst, .int .u8 n.proto, .int .u16 n.sp, .int .u16 n.dp] 48))
          have hbw' := below_call (hbw.alloc (le_up hbw) _) hb
          clear ca0 ca1 ca2 ca3 ca4 fa la na Ka cb0 cb1 cb2 cb3 cb4 fb lb nb Kb hbw hb
          have hbw := hbw'
          clear hbw'
          obtain ⟨ca0, ca1, ca2, ca3, ca4⟩ := hd_cell (h := a) Ja
          have fa := hd_frozen (h := a) Ja
          have la := lt_of_block Ja
          have na : w.heap.size ≠ w6.heap.size := by omega
          have Ka := Lib.hid Ja
          clear Ja
          obtain ⟨cb0, cb1, cb2, cb3, cb4⟩ := hd_cell (h := b) Jb
          have fb := hd_frozen (h := b) Jb
          have lb := lt_of_block Jb
          have nb : w.heap.size + 1 ≠ w6.heap.size := by omega
          have Kb := Lib.hid Jb
          clear Jb
          obtain ⟨cn0, cn1, cn2, cn3, cn4⟩ := hd_cell (h := n) Jn
          have fn := hd_frozen (h := n) Jn
          have ln := lt_of_block Jn
          have nn : w5.heap.size ≠ w6.heap.size := by omega
          have Kn := Lib.hid Jn
          clear Jn
          go_wp2_with fail
          refine (hba.out _).mono ?_
          rintro e w7 ⟨rfl, hb⟩
          have Ja := blk_below hb Ka.out
          have Jb := blk_below hb Kb.out
          have Jn := blk_below hb Kn.out
          have hbw' := below_call hbw hb
          clear ca0 ca1 ca2 ca3 ca4 fa la na Ka cb0 cb1 cb2 cb3 cb4 fb lb nb Kb cn0 cn1 cn2 cn3 cn4 fn ln nn Kn hbw hb
          have hbw := hbw'
          clear hbw'
          obtain ⟨ca0, ca1, ca2, ca3, ca4⟩ := hd_cell (h := a) Ja
          have fa := hd_frozen (h := a) Ja
          have la := lt_of_block Ja
          have na : w.heap.size ≠ w7.heap.size := by omega
          have Ka := Lib.hid Ja
          clear Ja
          obtain ⟨cb0, cb1, cb2, cb3, cb4⟩ := hd_cell (h := b) Jb
          have fb := hd_frozen (h := b) Jb
          have lb := lt_of_block Jb
          have nb : w.heap.size + 1 ≠ w7.heap.size := by omega
          have Kb := Lib.hid Jb
          clear Jb
          obtain ⟨cn0, cn1, cn2, cn3, cn4⟩ := hd_cell (h := n) Jn
          have fn := hd_frozen (h := n) Jn
          have ln := lt_of_block Jn
          have nn : w5.heap.size ≠ w7.heap.size := by omega
          have Kn := Lib.hid Jn
          clear Jn
          go_wp2_with fail
          refine (hnb.out _).mono ?_
          rintro e w8 ⟨rfl, hb⟩
          have Ja := blk_below hb Ka.out
          have Jb := blk_below hb Kb.out
          have Jn := blk_below hb Kn.out
          have hbw' := below_call hbw hb
          clear ca0 ca1 ca2 ca3 ca4 fa la na Ka cb0 cb1 cb2 cb3 cb4 fb lb nb Kb cn0 cn1 cn2 cn3 cn4 fn ln nn Kn hbw hb
          have hbw := hbw'
          clear hbw'
          obtain ⟨ca0, ca1, ca2, ca3, ca4⟩ := hd_cell (h := a) Ja
          have fa := hd_frozen (h := a) Ja
          have la := lt_of_block Ja
          have na : w.heap.size ≠ w8.heap.size := by omega
          have Ka := Lib.hid Ja
          clear Ja
          obtain ⟨cb0, cb1, cb2, cb3, cb4⟩ := hd_cell (h := b) Jb
          have fb := hd_frozen (h := b) Jb
          have lb := lt_of_block Jb
          have nb : w.heap.size + 1 ≠ w8.heap.size := by omega
          have Kb := Lib.hid Jb
          clear Jb
          obtain ⟨cn0, cn1, cn2, cn3, cn4⟩ := hd_cell (h := n) Jn
          have fn := hd_frozen (h := n) Jn
          have ln := lt_of_block Jn
          have nn : w5.heap.size ≠ w8.heap.size := by omega
          have Kn := Lib.hid Jn
          clear Jn
          go_wp2
          go_ret
          exact ⟨rfl, hbw⟩
        · have hba : Hid (∀ v : World, Calls Tryd.prog 42 #[.agg #[.int .u32 b.src, .int .u32 b.dst, .int .u8 b.proto, .int .u16 b.sp, .int .u16 b.dp], .agg #[.int .u32 a.src, .int .u32 a.dst, .int .u8 a.proto, .int .u16 a.sp, .int .u16 a.dp]] v fun e w' => e = .returned (.int .i64 (1)) ∧ Below v.heap.size v w') := Lib.hid (fun v => by have e := cmp_any b a HB.out HA.out v; rw [h1] at e; exact e)
          have hnb : Hid (∀ v : World, Calls Tryd.prog 42 #[.agg #[.int .u32 n.src, .int .u32 n.dst, .int .u8 n.proto, .int .u16 n.sp, .int .u16 n.dp], .agg #[.int .u32 b.src, .int .u32 b.dst, .int .u8 b.proto, .int .u16 b.sp, .int .u16 b.dp]] v fun e w' => e = .returned (.int .i64 (0)) ∧ Below v.heap.size v w') := Lib.hid (fun v => by have e := cmp_any n b HNo.out HB.out v; rw [h2] at e; exact e)
          clear h1 h2
          have Ja := hS6.out.a
          have Jb := hS6.out.b
          have hbw := hS6.out.n
          obtain ⟨ca0, ca1, ca2, ca3, ca4⟩ := hd_cell (h := a) Ja
          have fa := hd_frozen (h := a) Ja
          have la := lt_of_block Ja
          have na : w.heap.size ≠ w5.heap.size := by omega
          have Ka := Lib.hid Ja
          clear Ja
          obtain ⟨cb0, cb1, cb2, cb3, cb4⟩ := hd_cell (h := b) Jb
          have fb := hd_frozen (h := b) Jb
          have lb := lt_of_block Jb
          have nb : w.heap.size + 1 ≠ w5.heap.size := by omega
          have Kb := Lib.hid Jb
          clear Jb
          go_wp2_with fail
          refine (han.out _).mono ?_
          rintro e w6 ⟨rfl, hb⟩
          have Ja := blk_below hb ((Below.heap_alloc _ _ _ (by first | omega | (simp; omega))).trans Ka.out)
          have Jb := blk_below hb ((Below.heap_alloc _ _ _ (by first | omega | (simp; omega))).trans Kb.out)
          have Jn := blk_below hb (heap_alloc_new w5 (.cells #[.int .u32 n.src, .int .u32 n.dst, .int .u8 n.proto, .int .u16 n.sp, .int .u16 n.dp] 48))
          have hbw' := below_call (hbw.alloc (le_up hbw) _) hb
          clear ca0 ca1 ca2 ca3 ca4 fa la na Ka cb0 cb1 cb2 cb3 cb4 fb lb nb Kb hbw hb
          have hbw := hbw'
          clear hbw'
          obtain ⟨ca0, ca1, ca2, ca3, ca4⟩ := hd_cell (h := a) Ja
          have fa := hd_frozen (h := a) Ja
          have la := lt_of_block Ja
          have na : w.heap.size ≠ w6.heap.size := by omega
          have Ka := Lib.hid Ja
          clear Ja
          obtain ⟨cb0, cb1, cb2, cb3, cb4⟩ := hd_cell (h := b) Jb
          have fb := hd_frozen (h := b) Jb
          have lb := lt_of_block Jb
          have nb : w.heap.size + 1 ≠ w6.heap.size := by omega
          have Kb := Lib.hid Jb
          clear Jb
          obtain ⟨cn0, cn1, cn2, cn3, cn4⟩ := hd_cell (h := n) Jn
          have fn := hd_frozen (h := n) Jn
          have ln := lt_of_block Jn
          have nn : w5.heap.size ≠ w6.heap.size := by omega
          have Kn := Lib.hid Jn
          clear Jn
          go_wp2_with fail
          refine (hba.out _).mono ?_
          rintro e w7 ⟨rfl, hb⟩
          have Ja := blk_below hb Ka.out
          have Jb := blk_below hb Kb.out
          have Jn := blk_below hb Kn.out
          have hbw' := below_call hbw hb
          clear ca0 ca1 ca2 ca3 ca4 fa la na Ka cb0 cb1 cb2 cb3 cb4 fb lb nb Kb cn0 cn1 cn2 cn3 cn4 fn ln nn Kn hbw hb
          have hbw := hbw'
          clear hbw'
          obtain ⟨ca0, ca1, ca2, ca3, ca4⟩ := hd_cell (h := a) Ja
          have fa := hd_frozen (h := a) Ja
          have la := lt_of_block Ja
          have na : w.heap.size ≠ w7.heap.size := by omega
          have Ka := Lib.hid Ja
          clear Ja
          obtain ⟨cb0, cb1, cb2, cb3, cb4⟩ := hd_cell (h := b) Jb
          have fb := hd_frozen (h := b) Jb
          have lb := lt_of_block Jb
          have nb : w.heap.size + 1 ≠ w7.heap.size := by omega
          have Kb := Lib.hid Jb
          clear Jb
          obtain ⟨cn0, cn1, cn2, cn3, cn4⟩ := hd_cell (h := n) Jn
          have fn := hd_frozen (h := n) Jn
          have ln := lt_of_block Jn
          have nn : w5.heap.size ≠ w7.heap.size := by omega
          have Kn := Lib.hid Jn
          clear Jn
          go_wp2_with fail
          refine (hnb.out _).mono ?_
          rintro e w8 ⟨rfl, hb⟩
          have Ja := blk_below hb Ka.out
          have Jb := blk_below hb Kb.out
          have Jn := blk_below hb Kn.out
          have hbw' := below_call hbw hb
          clear ca0 ca1 ca2 ca3 ca4 fa la na Ka cb0 cb1 cb2 cb3 cb4 fb lb nb Kb cn0 cn1 cn2 cn3 cn4 fn ln nn Kn hbw hb
          have hbw := hbw'
          clear hbw'
          obtain ⟨ca0, ca1, ca2, ca3, ca4⟩ := hd_cell (h := a) Ja
          have fa := hd_frozen (h := a) Ja
          have la := lt_of_block Ja
          have na : w.heap.size ≠ w8.heap.size := by omega
          have Ka := Lib.hid Ja
          clear Ja
          obtain ⟨cb0, cb1, cb2, cb3, cb4⟩ := hd_cell (h := b) Jb
          have fb := hd_frozen (h := b) Jb
          have lb := lt_of_block Jb
          have nb : w.heap.size + 1 ≠ w8.heap.size := by omega
          have Kb := Lib.hid Jb
          clear Jb
          obtain ⟨cn0, cn1, cn2, cn3, cn4⟩ := hd_cell (h := n) Jn
          have fn := hd_frozen (h := n) Jn
          have ln := lt_of_block Jn
          have nn : w5.heap.size ≠ w8.heap.size := by omega
          have Kn := Lib.hid Jn
          clear Jn
          go_wp2
          go_ret
          exact ⟨rfl, hbw⟩
        · have hba : Hid (∀ v : World, Calls Tryd.prog 42 #[.agg #[.int .u32 b.src, .int .u32 b.dst, .int .u8 b.proto, .int .u16 b.sp, .int .u16 b.dp], .agg #[.int .u32 a.src, .int .u32 a.dst, .int .u8 a.proto, .int .u16 a.sp, .int .u16 a.dp]] v fun e w' => e = .returned (.int .i64 (-1)) ∧ Below v.heap.size v w') := Lib.hid (fun v => by have e := cmp_any b a HB.out HA.out v; rw [h1] at e; exact e)
          clear h1 
          have Ja := hS6.out.a
          have Jb := hS6.out.b
          have hbw := hS6.out.n
          obtain ⟨ca0, ca1, ca2, ca3, ca4⟩ := hd_cell (h := a) Ja
          have fa := hd_frozen (h := a) Ja
          have la := lt_of_block Ja
          have na : w.heap.size ≠ w5.heap.size := by omega
          have Ka := Lib.hid Ja
          clear Ja
          obtain ⟨cb0, cb1, cb2, cb3, cb4⟩ := hd_cell (h := b) Jb
          have fb := hd_frozen (h := b) Jb
          have lb := lt_of_block Jb
          have nb : w.heap.size + 1 ≠ w5.heap.size := by omega
          have Kb := Lib.hid Jb
          clear Jb
          go_wp2_with fail
          refine (han.out _).mono ?_
          rintro e w6 ⟨rfl, hb⟩
          have Ja := blk_below hb ((Below.heap_alloc _ _ _ (by first | omega | (simp; omega))).trans Ka.out)
          have Jb := blk_below hb ((Below.heap_alloc _ _ _ (by first | omega | (simp; omega))).trans Kb.out)
          have Jn := blk_below hb (heap_alloc_new w5 (.cells #[.int .u32 n.src, .int .u32 n.dst, .int .u8 n.proto, .int .u16 n.sp, .int .u16 n.dp] 48))
          have hbw' := below_call (hbw.alloc (le_up hbw) _) hb
          clear ca0 ca1 ca2 ca3 ca4 fa la na Ka cb0 cb1 cb2 cb3 cb4 fb lb nb Kb hbw hb
          have hbw := hbw'
          clear hbw'
          obtain ⟨ca0, ca1, ca2, ca3, ca4⟩ := hd_cell (h := a) Ja
          have fa := hd_frozen (h := a) Ja
          have la := lt_of_block Ja
          have na : w.heap.size ≠ w6.heap.size := by omega
          have Ka := Lib.hid Ja
          clear Ja
          obtain ⟨cb0, cb1, cb2, cb3, cb4⟩ := hd_cell (h := b) Jb
          have fb := hd_frozen (h := b) Jb
          have lb := lt_of_block Jb
          have nb : w.heap.size + 1 ≠ w6.heap.size := by omega
          have Kb := Lib.hid Jb
          clear Jb
          obtain ⟨cn0, cn1, cn2, cn3, cn4⟩ := hd_cell (h := n) Jn
          have fn := hd_frozen (h := n) Jn
          have ln := lt_of_block Jn
          have nn : w5.heap.size ≠ w6.heap.size := by omega
          have Kn := Lib.hid Jn
          clear Jn
          go_wp2_with fail
          refine (hba.out _).mono ?_
          rintro e w7 ⟨rfl, hb⟩
          have Ja := blk_below hb Ka.out
          have Jb := blk_below hb Kb.out
          have Jn := blk_below hb Kn.out
          have hbw' := below_call hbw hb
          clear ca0 ca1 ca2 ca3 ca4 fa la na Ka cb0 cb1 cb2 cb3 cb4 fb lb nb Kb cn0 cn1 cn2 cn3 cn4 fn ln nn Kn hbw hb
          have hbw := hbw'
          clear hbw'
          obtain ⟨ca0, ca1, ca2, ca3, ca4⟩ := hd_cell (h := a) Ja
          have fa := hd_frozen (h := a) Ja
          have la := lt_of_block Ja
          have na : w.heap.size ≠ w7.heap.size := by omega
          have Ka := Lib.hid Ja
          clear Ja
          obtain ⟨cb0, cb1, cb2, cb3, cb4⟩ := hd_cell (h := b) Jb
          have fb := hd_frozen (h := b) Jb
          have lb := lt_of_block Jb
          have nb : w.heap.size + 1 ≠ w7.heap.size := by omega
          have Kb := Lib.hid Jb
          clear Jb
          obtain ⟨cn0, cn1, cn2, cn3, cn4⟩ := hd_cell (h := n) Jn
          have fn := hd_frozen (h := n) Jn
          have ln := lt_of_block Jn
          have nn : w5.heap.size ≠ w7.heap.size := by omega
          have Kn := Lib.hid Jn
          clear Jn
          go_wp2
          go_ret
          exact ⟨rfl, hbw⟩
        · have hba : Hid (∀ v : World, Calls Tryd.prog 42 #[.agg #[.int .u32 b.src, .int .u32 b.dst, .int .u8 b.proto, .int .u16 b.sp, .int .u16 b.dp], .agg #[.int .u32 a.src, .int .u32 a.dst, .int .u8 a.proto, .int .u16 a.sp, .int .u16 a.dp]] v fun e w' => e = .returned (.int .i64 (0)) ∧ Below v.heap.size v w') := Lib.hid (fun v => by have e := cmp_any b a HB.out HA.out v; rw [h1] at e; exact e)
          clear h1 
          have Ja := hS6.out.a
          have Jb := hS6.out.b
          have hbw := hS6.out.n
          obtain ⟨ca0, ca1, ca2, ca3, ca4⟩ := hd_cell (h := a) Ja
          have fa := hd_frozen (h := a) Ja
          have la := lt_of_block Ja
          have na : w.heap.size ≠ w5.heap.size := by omega
          have Ka := Lib.hid Ja
          clear Ja
          obtain ⟨cb0, cb1, cb2, cb3, cb4⟩ := hd_cell (h := b) Jb
          have fb := hd_frozen (h := b) Jb
          have lb := lt_of_block Jb
          have nb : w.heap.size + 1 ≠ w5.heap.size := by omega
          have Kb := Lib.hid Jb
          clear Jb
          go_wp2_with fail
          refine (han.out _).mono ?_
          rintro e w6 ⟨rfl, hb⟩
          have Ja := blk_below hb ((Below.heap_alloc _ _ _ (by first | omega | (simp; omega))).trans Ka.out)
          have Jb := blk_below hb ((Below.heap_alloc _ _ _ (by first | omega | (simp; omega))).trans Kb.out)
          have Jn := blk_below hb (heap_alloc_new w5 (.cells #[.int .u32 n.src, .int .u32 n.dst, .int .u8 n.proto, .int .u16 n.sp, .int .u16 n.dp] 48))
          have hbw' := below_call (hbw.alloc (le_up hbw) _) hb
          clear ca0 ca1 ca2 ca3 ca4 fa la na Ka cb0 cb1 cb2 cb3 cb4 fb lb nb Kb hbw hb
          have hbw := hbw'
          clear hbw'
          obtain ⟨ca0, ca1, ca2, ca3, ca4⟩ := hd_cell (h := a) Ja
          have fa := hd_frozen (h := a) Ja
          have la := lt_of_block Ja
          have na : w.heap.size ≠ w6.heap.size := by omega
          have Ka := Lib.hid Ja
          clear Ja
          obtain ⟨cb0, cb1, cb2, cb3, cb4⟩ := hd_cell (h := b) Jb
          have fb := hd_frozen (h := b) Jb
          have lb := lt_of_block Jb
          have nb : w.heap.size + 1 ≠ w6.heap.size := by omega
          have Kb := Lib.hid Jb
          clear Jb
          obtain ⟨cn0, cn1, cn2, cn3, cn4⟩ := hd_cell (h := n) Jn
          have fn := hd_frozen (h := n) Jn
          have ln := lt_of_block Jn
          have nn : w5.heap.size ≠ w6.heap.size := by omega
          have Kn := Lib.hid Jn
          clear Jn
          go_wp2_with fail
          refine (hba.out _).mono ?_
          rintro e w7 ⟨rfl, hb⟩
          have Ja := blk_below hb Ka.out
          have Jb := blk_below hb Kb.out
          have Jn := blk_below hb Kn.out
          have hbw' := below_call hbw hb
          clear ca0 ca1 ca2 ca3 ca4 fa la na Ka cb0 cb1 cb2 cb3 cb4 fb lb nb Kb cn0 cn1 cn2 cn3 cn4 fn ln nn Kn hbw hb
          have hbw := hbw'
          clear hbw'
          obtain ⟨ca0, ca1, ca2, ca3, ca4⟩ := hd_cell (h := a) Ja
          have fa := hd_frozen (h := a) Ja
          have la := lt_of_block Ja
          have na : w.heap.size ≠ w7.heap.size := by omega
          have Ka := Lib.hid Ja
          clear Ja
          obtain ⟨cb0, cb1, cb2, cb3, cb4⟩ := hd_cell (h := b) Jb
          have fb := hd_frozen (h := b) Jb
          have lb := lt_of_block Jb
          have nb : w.heap.size + 1 ≠ w7.heap.size := by omega
          have Kb := Lib.hid Jb
          clear Jb
          obtain ⟨cn0, cn1, cn2, cn3, cn4⟩ := hd_cell (h := n) Jn
          have fn := hd_frozen (h := n) Jn
          have ln := lt_of_block Jn
          have nn : w5.heap.size ≠ w7.heap.size := by omega
          have Kn := Lib.hid Jn
          clear Jn
          go_wp2
          go_ret
          exact ⟨rfl, hbw⟩
      · have hN := hdNext_any a HA.out wc
        rw [show a.nextV = ⟨0, 0, 0, 0, 0⟩ from if_neg hlt, show a.nextE = 5 from if_neg hlt] at hN
        have Hbn : Hid (cmpN b.val a.val = -1 ∨ cmpN b.val a.val = 0) := Lib.hid (by
          have := val_lt HB.out
          rcases Nat.lt_trichotomy b.val a.val with h | h | h
          · exact Or.inl (cmpN_lt h)
          · exact Or.inr (by rw [h]; exact cmpN_eq _)
          · omega)
        have HN := Lib.hid hN
        clear hN hlt
        go_wp2_with fail
        refine HN.out.mono ?_
        rintro e w5 ⟨rfl, hb5⟩
        have hS6 := Lib.hid (hS5.out.below hb5)
        clear hS5 hb5 HN ca0 ca1 ca2 ca3 ca4 cb0 cb1 cb2 cb3 cb4
        rcases Hbn.out with h1 | h1
        · have hba : Hid (∀ v : World, Calls Tryd.prog 42 #[.agg #[.int .u32 b.src, .int .u32 b.dst, .int .u8 b.proto, .int .u16 b.sp, .int .u16 b.dp], .agg #[.int .u32 a.src, .int .u32 a.dst, .int .u8 a.proto, .int .u16 a.sp, .int .u16 a.dp]] v fun e w' => e = .returned (.int .i64 (-1)) ∧ Below v.heap.size v w') := Lib.hid (fun v => by have e := cmp_any b a HB.out HA.out v; rw [h1] at e; exact e)
          clear h1
          have Ja := hS6.out.a
          have Jb := hS6.out.b
          have hbw := hS6.out.n
          obtain ⟨ca0, ca1, ca2, ca3, ca4⟩ := hd_cell (h := a) Ja
          have fa := hd_frozen (h := a) Ja
          have la := lt_of_block Ja
          have na : w.heap.size ≠ w5.heap.size := by omega
          have Ka := Lib.hid Ja
          clear Ja
          obtain ⟨cb0, cb1, cb2, cb3, cb4⟩ := hd_cell (h := b) Jb
          have fb := hd_frozen (h := b) Jb
          have lb := lt_of_block Jb
          have nb : w.heap.size + 1 ≠ w5.heap.size := by omega
          have Kb := Lib.hid Jb
          clear Jb
          go_wp2_with fail
          refine (hba.out _).mono ?_
          rintro e w6 ⟨rfl, hb⟩
          have Ja := blk_below hb ((Below.heap_alloc _ _ _ (by first | omega | (simp; omega))).trans Ka.out)
          have Jb := blk_below hb ((Below.heap_alloc _ _ _ (by first | omega | (simp; omega))).trans Kb.out)
          have Jn := blk_below hb (heap_alloc_new w5 (.cells #[.int .u32 0, .int .u32 0, .int .u8 0, .int .u16 0, .int .u16 0] 48))
          have hbw' := below_call (hbw.alloc (le_up hbw) _) hb
          clear ca0 ca1 ca2 ca3 ca4 fa la na Ka cb0 cb1 cb2 cb3 cb4 fb lb nb Kb hbw hb
          have hbw := hbw'
          clear hbw'
          obtain ⟨ca0, ca1, ca2, ca3, ca4⟩ := hd_cell (h := a) Ja
          have fa := hd_frozen (h := a) Ja
          have la := lt_of_block Ja
          have na : w.heap.size ≠ w6.heap.size := by omega
          have Ka := Lib.hid Ja
          clear Ja
          obtain ⟨cb0, cb1, cb2, cb3, cb4⟩ := hd_cell (h := b) Jb
          have fb := hd_frozen (h := b) Jb
          have lb := lt_of_block Jb
          have nb : w.heap.size + 1 ≠ w6.heap.size := by omega
          have Kb := Lib.hid Jb
          clear Jb
          have ln := lt_of_block Jn
          have nn : w5.heap.size ≠ w6.heap.size := by omega
          have Kn := Lib.hid Jn
          clear Jn
          go_wp2
          go_ret
          exact ⟨rfl, hbw⟩
        · have hba : Hid (∀ v : World, Calls Tryd.prog 42 #[.agg #[.int .u32 b.src, .int .u32 b.dst, .int .u8 b.proto, .int .u16 b.sp, .int .u16 b.dp], .agg #[.int .u32 a.src, .int .u32 a.dst, .int .u8 a.proto, .int .u16 a.sp, .int .u16 a.dp]] v fun e w' => e = .returned (.int .i64 (0)) ∧ Below v.heap.size v w') := Lib.hid (fun v => by have e := cmp_any b a HB.out HA.out v; rw [h1] at e; exact e)
          clear h1
          have Ja := hS6.out.a
          have Jb := hS6.out.b
          have hbw := hS6.out.n
          obtain ⟨ca0, ca1, ca2, ca3, ca4⟩ := hd_cell (h := a) Ja
          have fa := hd_frozen (h := a) Ja
          have la := lt_of_block Ja
          have na : w.heap.size ≠ w5.heap.size := by omega
          have Ka := Lib.hid Ja
          clear Ja
          obtain ⟨cb0, cb1, cb2, cb3, cb4⟩ := hd_cell (h := b) Jb
          have fb := hd_frozen (h := b) Jb
          have lb := lt_of_block Jb
          have nb : w.heap.size + 1 ≠ w5.heap.size := by omega
          have Kb := Lib.hid Jb
          clear Jb
          go_wp2_with fail
          refine (hba.out _).mono ?_
          rintro e w6 ⟨rfl, hb⟩
          have Ja := blk_below hb ((Below.heap_alloc _ _ _ (by first | omega | (simp; omega))).trans Ka.out)
          have Jb := blk_below hb ((Below.heap_alloc _ _ _ (by first | omega | (simp; omega))).trans Kb.out)
          have Jn := blk_below hb (heap_alloc_new w5 (.cells #[.int .u32 0, .int .u32 0, .int .u8 0, .int .u16 0, .int .u16 0] 48))
          have hbw' := below_call (hbw.alloc (le_up hbw) _) hb
          clear ca0 ca1 ca2 ca3 ca4 fa la na Ka cb0 cb1 cb2 cb3 cb4 fb lb nb Kb hbw hb
          have hbw := hbw'
          clear hbw'
          obtain ⟨ca0, ca1, ca2, ca3, ca4⟩ := hd_cell (h := a) Ja
          have fa := hd_frozen (h := a) Ja
          have la := lt_of_block Ja
          have na : w.heap.size ≠ w6.heap.size := by omega
          have Ka := Lib.hid Ja
          clear Ja
          obtain ⟨cb0, cb1, cb2, cb3, cb4⟩ := hd_cell (h := b) Jb
          have fb := hd_frozen (h := b) Jb
          have lb := lt_of_block Jb
          have nb : w.heap.size + 1 ≠ w6.heap.size := by omega
          have Kb := Lib.hid Jb
          clear Jb
          have ln := lt_of_block Jn
          have nn : w5.heap.size ≠ w6.heap.size := by omega
          have Kn := Lib.hid Jn
          clear Jn
          go_wp2
          go_ret
          exact ⟨rfl, hbw⟩
  · have HTc2 : cmpN a.val c.val = 1 := HTc.out
    have hac : Hid (∀ v : World, Calls Tryd.prog 42 #[.agg #[.int .u32 a.src, .int .u32 a.dst, .int .u8 a.proto, .int .u16 a.sp, .int .u16 a.dp], .agg #[.int .u32 c.src, .int .u32 c.dst, .int .u8 c.proto, .int .u16 c.sp, .int .u16 c.dp]] v fun e w' => e = .returned (.int .i64 (1)) ∧ Below v.heap.size v w') := Lib.hid (fun v => by have e := cmp_any a c HA.out HTo.out v; rw [HTc2] at e; exact e)
    have hca : Hid (∀ v : World, Calls Tryd.prog 42 #[.agg #[.int .u32 c.src, .int .u32 c.dst, .int .u8 c.proto, .int .u16 c.sp, .int .u16 c.dp], .agg #[.int .u32 a.src, .int .u32 a.dst, .int .u8 a.proto, .int .u16 a.sp, .int .u16 a.dp]] v fun e w' => e = .returned (.int .i64 (-1)) ∧ Below v.heap.size v w') := Lib.hid (fun v => by have e := cmp_any c a HTo.out HA.out v; rw [cmpN_neg, HTc2] at e; exact e)
    clear HTc2
    go_upto_region 9 with fail
    have hW : w3.alloc (.cells #[.int .u32 c.src, .int .u32 c.dst, .int .u8 c.proto, .int .u16 c.sp, .int .u16 c.dp] 48) = w3.alloc c.cells := rfl
    rw [hW]
    clear hW
    have Jc := heap_alloc_new w3 c.cells
    have HS4 := Lib.hid (HS3.out.below (below1 w3 c.cells))
    generalize w3.alloc c.cells = W4 at *
    change World at w3
    generalize w3.heap.size = gc at *
    go_cut [75] (fun s75 wx => s75 = .bool false ∧ Hid (OrdSt a b w wx))
    case first =>
      obtain ⟨ca0, ca1, ca2, ca3, ca4⟩ := hd_cell HS4.out.a
      obtain ⟨cb0, cb1, cb2, cb3, cb4⟩ := hd_cell HS4.out.b
      obtain ⟨cc0, cc1, cc2, cc3, cc4⟩ := hd_cell Jc
      clear Jc
      have Fa0 := cell_regrown ca0
      have Fa1 := cell_regrown ca1
      have Fa2 := cell_regrown ca2
      have Fa3 := cell_regrown ca3
      have Fa4 := cell_regrown ca4
      have Fb0 := cell_regrown cb0
      have Fb1 := cell_regrown cb1
      have Fb2 := cell_regrown cb2
      have Fb3 := cell_regrown cb3
      have Fb4 := cell_regrown cb4
      have Fc0 := cell_regrown cc0
      have Fc1 := cell_regrown cc1
      have Fc2 := cell_regrown cc2
      have Fc3 := cell_regrown cc3
      have Fc4 := cell_regrown cc4
      have hS3 := cmpN_three a.val b.val
      have hsm := fun v : World => hdSameG_any a b v
      rw [same_cmp HA.out HB.out] at hsm
      have hab := fun v : World => cmp_any a b HA.out HB.out v
      have hba := fun v : World => cmp_any b a HB.out HA.out v
      rw [cmpN_neg b.val] at hba
      generalize cmpN a.val b.val = S at *
      have Hsm := Lib.hid hsm
      have Hab := Lib.hid hab
      have Hba := Lib.hid hba
      clear hsm hab hba
      rcases hS3 with rfl | rfl | rfl
      · have Hsm2 : Hid (∀ v : World, Calls Tryd.prog 31 #[.agg #[.int .u32 a.src, .int .u32 a.dst, .int .u8 a.proto, .int .u16 a.sp, .int .u16 a.dp], .agg #[.int .u32 b.src, .int .u32 b.dst, .int .u8 b.proto, .int .u16 b.sp, .int .u16 b.dp]] v fun e w' => e = .returned (.bool false) ∧ Below v.heap.size v w') := Hsm
        have Hab2 : Hid (∀ v : World, Calls Tryd.prog 42 #[.agg #[.int .u32 a.src, .int .u32 a.dst, .int .u8 a.proto, .int .u16 a.sp, .int .u16 a.dp], .agg #[.int .u32 b.src, .int .u32 b.dst, .int .u8 b.proto, .int .u16 b.sp, .int .u16 b.dp]] v fun e w' => e = .returned (.int .i64 (-1)) ∧ Below v.heap.size v w') := Hab
        have Hba2 : Hid (∀ v : World, Calls Tryd.prog 42 #[.agg #[.int .u32 b.src, .int .u32 b.dst, .int .u8 b.proto, .int .u16 b.sp, .int .u16 b.dp], .agg #[.int .u32 a.src, .int .u32 a.dst, .int .u8 a.proto, .int .u16 a.sp, .int .u16 a.dp]] v fun e w' => e = .returned (.int .i64 (1)) ∧ Below v.heap.size v w') := Hba
        clear Hsm Hab Hba
        refine wp_region_quiet_below (by kernel_rfl) (by kernel_rfl) ?_
        repeat (first | go_big_quiet_step ((first | (go_at_call 42; with_reducible exact Calls.regrown_of (hac.out _)) | (go_at_call 42; with_reducible exact Calls.regrown_of (hca.out _)) | (go_at_call 42; with_reducible exact Calls.regrown_of (Hab2.out _)) | (go_at_call 42; with_reducible exact Calls.regrown_of (Hba2.out _)) | (go_at_call 31; with_reducible exact Calls.regrown_of (Hsm2.out _)))) | quiet_step ((first | (go_at_call 42; with_reducible exact Calls.regrown_of (hac.out _)) | (go_at_call 42; with_reducible exact Calls.regrown_of (hca.out _)) | (go_at_call 42; with_reducible exact Calls.regrown_of (Hab2.out _)) | (go_at_call 42; with_reducible exact Calls.regrown_of (Hba2.out _)) | (go_at_call 31; with_reducible exact Calls.regrown_of (Hsm2.out _)))))
        refine wpQuiet_nil ?_
        intro _ hw'
        obtain ⟨⟨nq, osq⟩, hw''⟩ := hw'
        subst hw''
        go_wp2
        go_meet
        exact ⟨rfl, Lib.hid (HS4.out.below (below_regrown _ nq osq))⟩
      · have Hsm2 : Hid (∀ v : World, Calls Tryd.prog 31 #[.agg #[.int .u32 a.src, .int .u32 a.dst, .int .u8 a.proto, .int .u16 a.sp, .int .u16 a.dp], .agg #[.int .u32 b.src, .int .u32 b.dst, .int .u8 b.proto, .int .u16 b.sp, .int .u16 b.dp]] v fun e w' => e = .returned (.bool true) ∧ Below v.heap.size v w') := Hsm
        have Hab2 : Hid (∀ v : World, Calls Tryd.prog 42 #[.agg #[.int .u32 a.src, .int .u32 a.dst, .int .u8 a.proto, .int .u16 a.sp, .int .u16 a.dp], .agg #[.int .u32 b.src, .int .u32 b.dst, .int .u8 b.proto, .int .u16 b.sp, .int .u16 b.dp]] v fun e w' => e = .returned (.int .i64 (0)) ∧ Below v.heap.size v w') := Hab
        have Hba2 : Hid (∀ v : World, Calls Tryd.prog 42 #[.agg #[.int .u32 b.src, .int .u32 b.dst, .int .u8 b.proto, .int .u16 b.sp, .int .u16 b.dp], .agg #[.int .u32 a.src, .int .u32 a.dst, .int .u8 a.proto, .int .u16 a.sp, .int .u16 a.dp]] v fun e w' => e = .returned (.int .i64 (0)) ∧ Below v.heap.size v w') := Hba
        clear Hsm Hab Hba
        refine wp_region_quiet_below (by kernel_rfl) (by kernel_rfl) ?_
        repeat (first | go_big_quiet_step ((first | (go_at_call 42; with_reducible exact Calls.regrown_of (hac.out _)) | (go_at_call 42; with_reducible exact Calls.regrown_of (hca.out _)) | (go_at_call 42; with_reducible exact Calls.regrown_of (Hab2.out _)) | (go_at_call 42; with_reducible exact Calls.regrown_of (Hba2.out _)) | (go_at_call 31; with_reducible exact Calls.regrown_of (Hsm2.out _)))) | quiet_step ((first | (go_at_call 42; with_reducible exact Calls.regrown_of (hac.out _)) | (go_at_call 42; with_reducible exact Calls.regrown_of (hca.out _)) | (go_at_call 42; with_reducible exact Calls.regrown_of (Hab2.out _)) | (go_at_call 42; with_reducible exact Calls.regrown_of (Hba2.out _)) | (go_at_call 31; with_reducible exact Calls.regrown_of (Hsm2.out _)))))
        refine wpQuiet_nil ?_
        intro _ hw'
        obtain ⟨⟨nq, osq⟩, hw''⟩ := hw'
        subst hw''
        go_wp2
        go_meet
        exact ⟨rfl, Lib.hid (HS4.out.below (below_regrown _ nq osq))⟩
      · have Hsm2 : Hid (∀ v : World, Calls Tryd.prog 31 #[.agg #[.int .u32 a.src, .int .u32 a.dst, .int .u8 a.proto, .int .u16 a.sp, .int .u16 a.dp], .agg #[.int .u32 b.src, .int .u32 b.dst, .int .u8 b.proto, .int .u16 b.sp, .int .u16 b.dp]] v fun e w' => e = .returned (.bool false) ∧ Below v.heap.size v w') := Hsm
        have Hab2 : Hid (∀ v : World, Calls Tryd.prog 42 #[.agg #[.int .u32 a.src, .int .u32 a.dst, .int .u8 a.proto, .int .u16 a.sp, .int .u16 a.dp], .agg #[.int .u32 b.src, .int .u32 b.dst, .int .u8 b.proto, .int .u16 b.sp, .int .u16 b.dp]] v fun e w' => e = .returned (.int .i64 (1)) ∧ Below v.heap.size v w') := Hab
        have Hba2 : Hid (∀ v : World, Calls Tryd.prog 42 #[.agg #[.int .u32 b.src, .int .u32 b.dst, .int .u8 b.proto, .int .u16 b.sp, .int .u16 b.dp], .agg #[.int .u32 a.src, .int .u32 a.dst, .int .u8 a.proto, .int .u16 a.sp, .int .u16 a.dp]] v fun e w' => e = .returned (.int .i64 (-1)) ∧ Below v.heap.size v w') := Hba
        clear Hsm Hab Hba
        refine wp_region_quiet_below (by kernel_rfl) (by kernel_rfl) ?_
        repeat (first | go_big_quiet_step ((first | (go_at_call 42; with_reducible exact Calls.regrown_of (hac.out _)) | (go_at_call 42; with_reducible exact Calls.regrown_of (hca.out _)) | (go_at_call 42; with_reducible exact Calls.regrown_of (Hab2.out _)) | (go_at_call 42; with_reducible exact Calls.regrown_of (Hba2.out _)) | (go_at_call 31; with_reducible exact Calls.regrown_of (Hsm2.out _)))) | quiet_step ((first | (go_at_call 42; with_reducible exact Calls.regrown_of (hac.out _)) | (go_at_call 42; with_reducible exact Calls.regrown_of (hca.out _)) | (go_at_call 42; with_reducible exact Calls.regrown_of (Hab2.out _)) | (go_at_call 42; with_reducible exact Calls.regrown_of (Hba2.out _)) | (go_at_call 31; with_reducible exact Calls.regrown_of (Hsm2.out _)))))
        refine wpQuiet_nil ?_
        intro _ hw'
        obtain ⟨⟨nq, osq⟩, hw''⟩ := hw'
        subst hw''
        go_wp2
        go_meet
        exact ⟨rfl, Lib.hid (HS4.out.below (below_regrown _ nq osq))⟩
    case rest =>
      obtain ⟨rfl, hS5⟩ := hcut
      clear HS3 HS4 Jc hac hca HTo HTc
      obtain ⟨ca0, ca1, ca2, ca3, ca4⟩ := hd_cell hS5.out.a
      obtain ⟨cb0, cb1, cb2, cb3, cb4⟩ := hd_cell hS5.out.b
      by_cases hlt : a.val + 1 < hdAll
      · have hno := hdOf_ok hlt
        have hnv := val_hdOf hlt
        have hN := hdNext_any a HA.out wc
        rw [show a.nextV = hdOf (a.val + 1) from if_pos hlt, show a.nextE = 0 from if_pos hlt] at hN
        generalize hdOf (a.val + 1) = n at *
        have HNo := Lib.hid hno
        have HNv := Lib.hid hnv
        have HN := Lib.hid hN
        have HLT := Lib.hid hlt
        clear hno hnv hN hlt
        go_wp2_with fail
        refine HN.out.mono ?_
        rintro e w5 ⟨rfl, hb5⟩
        have hS6 := Lib.hid (hS5.out.below hb5)
        clear hS5 hb5 HN ca0 ca1 ca2 ca3 ca4 cb0 cb1 cb2 cb3 cb4
        have Hbn : Hid (cmpN b.val a.val = 1 ∧ (cmpN n.val b.val = -1 ∨ cmpN n.val b.val = 0) ∨ cmpN b.val a.val = -1 ∨ cmpN b.val a.val = 0) := Lib.hid (by
          have e := HNv.out
          rw [e]
          rcases Nat.lt_trichotomy b.val a.val with h | h | h
          · exact Or.inr (Or.inl (cmpN_lt h))
          · exact Or.inr (Or.inr (by rw [h]; exact cmpN_eq _))
          · refine Or.inl ⟨cmpN_gt h, ?_⟩
            rcases Nat.lt_or_ge (a.val + 1) b.val with h2 | h2
            · exact Or.inl (cmpN_lt h2)
            · refine Or.inr ?_
              rw [show b.val = a.val + 1 by omega]; exact cmpN_eq _)
        have han : Hid (∀ v : World, Calls Tryd.prog 42 #[.agg #[.int .u32 a.src, .int .u32 a.dst, .int .u8 a.proto, .int .u16 a.sp, .int .u16 a.dp], .agg #[.int .u32 n.src, .int .u32 n.dst, .int .u8 n.proto, .int .u16 n.sp, .int .u16 n.dp]] v fun e w' => e = .returned (.int .i64 (-1)) ∧ Below v.heap.size v w') := Lib.hid (fun v => by
          have e := cmp_any a n HA.out HNo.out v
          rw [HNv.out, cmpN_lt (Nat.lt_succ_self _)] at e
          exact e)
        rcases Hbn.out with ⟨h1, h2 | h2⟩ | h1 | h1
        · have hba : Hid (∀ v : World, Calls Tryd.prog 42 #[.agg #[.int .u32 b.src, .int .u32 b.dst, .int .u8 b.proto, .int .u16 b.sp, .int .u16 b.dp], .agg #[.int .u32 a.src, .int .u32 a.dst, .int .u8 a.proto, .int .u16 a.sp, .int .u16 a.dp]] v fun e w' => e = .returned (.int .i64 (1)) ∧ Below v.heap.size v w') := Lib.hid (fun v => by have e := cmp_any b a HB.out HA.out v; rw [h1] at e; exact e)
          have hnb : Hid (∀ v : World, Calls Tryd.prog 42 #[.agg #[.int .u32 n.src, .int .u32 n.dst, .int .u8 n.proto, .int .u16 n.sp, .int .u16 n.dp], .agg #[.int .u32 b.src, .int .u32 b.dst, .int .u8 b.proto, .int .u16 b.sp, .int .u16 b.dp]] v fun e w' => e = .returned (.int .i64 (-1)) ∧ Below v.heap.size v w') := Lib.hid (fun v => by have e := cmp_any n b HNo.out HB.out v; rw [h2] at e; exact e)
          clear h1 h2
          have Ja := hS6.out.a
          have Jb := hS6.out.b
          have hbw := hS6.out.n
          obtain ⟨ca0, ca1, ca2, ca3, ca4⟩ := hd_cell (h := a) Ja
          have fa := hd_frozen (h := a) Ja
          have la := lt_of_block Ja
          have na : w.heap.size ≠ w5.heap.size := by omega
          have Ka := Lib.hid Ja
          clear Ja
          obtain ⟨cb0, cb1, cb2, cb3, cb4⟩ := hd_cell (h := b) Jb
          have fb := hd_frozen (h := b) Jb
          have lb := lt_of_block Jb
          have nb : w.heap.size + 1 ≠ w5.heap.size := by omega
          have Kb := Lib.hid Jb
          clear Jb
          go_wp2_with fail
          refine (han.out _).mono ?_
          rintro e w6 ⟨rfl, hb⟩
          have Ja := blk_below hb ((Below.heap_alloc _ _ _ (by first | omega | (simp; omega))).trans Ka.out)
          have Jb := blk_below hb ((Below.heap_alloc _ _ _ (by first | omega | (simp; omega))).trans Kb.out)
          have Jn := blk_below hb (heap_alloc_new w5 (.cells #[.int .u32 n.src, .int .u32 n.dst, .int .u8 n.proto, .int .u16 n.sp, .int .u16 n.dp] 48))
          have hbw' := below_call (hbw.alloc (le_up hbw) _) hb
          clear ca0 ca1 ca2 ca3 ca4 fa la na Ka cb0 cb1 cb2 cb3 cb4 fb lb nb Kb hbw hb
          have hbw := hbw'
          clear hbw'
          obtain ⟨ca0, ca1, ca2, ca3, ca4⟩ := hd_cell (h := a) Ja
          have fa := hd_frozen (h := a) Ja
          have la := lt_of_block Ja
          have na : w.heap.size ≠ w6.heap.size := by omega
          have Ka := Lib.hid Ja
          clear Ja
          obtain ⟨cb0, cb1, cb2, cb3, cb4⟩ := hd_cell (h := b) Jb
          have fb := hd_frozen (h := b) Jb
          have lb := lt_of_block Jb
          have nb : w.heap.size + 1 ≠ w6.heap.size := by omega
          have Kb := Lib.hid Jb
          clear Jb
          obtain ⟨cn0, cn1, cn2, cn3, cn4⟩ := hd_cell (h := n) Jn
          have fn := hd_frozen (h := n) Jn
          have ln := lt_of_block Jn
          have nn : w5.heap.size ≠ w6.heap.size := by omega
          have Kn := Lib.hid Jn
          clear Jn
          go_wp2_with fail
          refine (hba.out _).mono ?_
          rintro e w7 ⟨rfl, hb⟩
          have Ja := blk_below hb Ka.out
          have Jb := blk_below hb Kb.out
          have Jn := blk_below hb Kn.out
          have hbw' := below_call hbw hb
          clear ca0 ca1 ca2 ca3 ca4 fa la na Ka cb0 cb1 cb2 cb3 cb4 fb lb nb Kb cn0 cn1 cn2 cn3 cn4 fn ln nn Kn hbw hb
          have hbw := hbw'
          clear hbw'
          obtain ⟨ca0, ca1, ca2, ca3, ca4⟩ := hd_cell (h := a) Ja
          have fa := hd_frozen (h := a) Ja
          have la := lt_of_block Ja
          have na : w.heap.size ≠ w7.heap.size := by omega
          have Ka := Lib.hid Ja
          clear Ja
          obtain ⟨cb0, cb1, cb2, cb3, cb4⟩ := hd_cell (h := b) Jb
          have fb := hd_frozen (h := b) Jb
          have lb := lt_of_block Jb
          have nb : w.heap.size + 1 ≠ w7.heap.size := by omega
          have Kb := Lib.hid Jb
          clear Jb
          obtain ⟨cn0, cn1, cn2, cn3, cn4⟩ := hd_cell (h := n) Jn
          have fn := hd_frozen (h := n) Jn
          have ln := lt_of_block Jn
          have nn : w5.heap.size ≠ w7.heap.size := by omega
          have Kn := Lib.hid Jn
          clear Jn
          go_wp2_with fail
          refine (hnb.out _).mono ?_
          rintro e w8 ⟨rfl, hb⟩
          have Ja := blk_below hb Ka.out
          have Jb := blk_below hb Kb.out
          have Jn := blk_below hb Kn.out
          have hbw' := below_call hbw hb
          clear ca0 ca1 ca2 ca3 ca4 fa la na Ka cb0 cb1 cb2 cb3 cb4 fb lb nb Kb cn0 cn1 cn2 cn3 cn4 fn ln nn Kn hbw hb
          have hbw := hbw'
          clear hbw'
          obtain ⟨ca0, ca1, ca2, ca3, ca4⟩ := hd_cell (h := a) Ja
          have fa := hd_frozen (h := a) Ja
          have la := lt_of_block Ja
          have na : w.heap.size ≠ w8.heap.size := by omega
          have Ka := Lib.hid Ja
          clear Ja
          obtain ⟨cb0, cb1, cb2, cb3, cb4⟩ := hd_cell (h := b) Jb
          have fb := hd_frozen (h := b) Jb
          have lb := lt_of_block Jb
          have nb : w.heap.size + 1 ≠ w8.heap.size := by omega
          have Kb := Lib.hid Jb
          clear Jb
          obtain ⟨cn0, cn1, cn2, cn3, cn4⟩ := hd_cell (h := n) Jn
          have fn := hd_frozen (h := n) Jn
          have ln := lt_of_block Jn
          have nn : w5.heap.size ≠ w8.heap.size := by omega
          have Kn := Lib.hid Jn
          clear Jn
          go_wp2
          go_ret
          exact ⟨rfl, hbw⟩
        · have hba : Hid (∀ v : World, Calls Tryd.prog 42 #[.agg #[.int .u32 b.src, .int .u32 b.dst, .int .u8 b.proto, .int .u16 b.sp, .int .u16 b.dp], .agg #[.int .u32 a.src, .int .u32 a.dst, .int .u8 a.proto, .int .u16 a.sp, .int .u16 a.dp]] v fun e w' => e = .returned (.int .i64 (1)) ∧ Below v.heap.size v w') := Lib.hid (fun v => by have e := cmp_any b a HB.out HA.out v; rw [h1] at e; exact e)
          have hnb : Hid (∀ v : World, Calls Tryd.prog 42 #[.agg #[.int .u32 n.src, .int .u32 n.dst, .int .u8 n.proto, .int .u16 n.sp, .int .u16 n.dp], .agg #[.int .u32 b.src, .int .u32 b.dst, .int .u8 b.proto, .int .u16 b.sp, .int .u16 b.dp]] v fun e w' => e = .returned (.int .i64 (0)) ∧ Below v.heap.size v w') := Lib.hid (fun v => by have e := cmp_any n b HNo.out HB.out v; rw [h2] at e; exact e)
          clear h1 h2
          have Ja := hS6.out.a
          have Jb := hS6.out.b
          have hbw := hS6.out.n
          obtain ⟨ca0, ca1, ca2, ca3, ca4⟩ := hd_cell (h := a) Ja
          have fa := hd_frozen (h := a) Ja
          have la := lt_of_block Ja
          have na : w.heap.size ≠ w5.heap.size := by omega
          have Ka := Lib.hid Ja
          clear Ja
          obtain ⟨cb0, cb1, cb2, cb3, cb4⟩ := hd_cell (h := b) Jb
          have fb := hd_frozen (h := b) Jb
          have lb := lt_of_block Jb
          have nb : w.heap.size + 1 ≠ w5.heap.size := by omega
          have Kb := Lib.hid Jb
          clear Jb
          go_wp2_with fail
          refine (han.out _).mono ?_
          rintro e w6 ⟨rfl, hb⟩
          have Ja := blk_below hb ((Below.heap_alloc _ _ _ (by first | omega | (simp; omega))).trans Ka.out)
          have Jb := blk_below hb ((Below.heap_alloc _ _ _ (by first | omega | (simp; omega))).trans Kb.out)
          have Jn := blk_below hb (heap_alloc_new w5 (.cells #[.int .u32 n.src, .int .u32 n.dst, .int .u8 n.proto, .int .u16 n.sp, .int .u16 n.dp] 48))
          have hbw' := below_call (hbw.alloc (le_up hbw) _) hb
          clear ca0 ca1 ca2 ca3 ca4 fa la na Ka cb0 cb1 cb2 cb3 cb4 fb lb nb Kb hbw hb
          have hbw := hbw'
          clear hbw'
          obtain ⟨ca0, ca1, ca2, ca3, ca4⟩ := hd_cell (h := a) Ja
          have fa := hd_frozen (h := a) Ja
          have la := lt_of_block Ja
          have na : w.heap.size ≠ w6.heap.size := by omega
          have Ka := Lib.hid Ja
          clear Ja
          obtain ⟨cb0, cb1, cb2, cb3, cb4⟩ := hd_cell (h := b) Jb
          have fb := hd_frozen (h := b) Jb
          have lb := lt_of_block Jb
          have nb : w.heap.size + 1 ≠ w6.heap.size := by omega
          have Kb := Lib.hid Jb
          clear Jb
          obtain ⟨cn0, cn1, cn2, cn3, cn4⟩ := hd_cell (h := n) Jn
          have fn := hd_frozen (h := n) Jn
          have ln := lt_of_block Jn
          have nn : w5.heap.size ≠ w6.heap.size := by omega
          have Kn := Lib.hid Jn
          clear Jn
          go_wp2_with fail
          refine (hba.out _).mono ?_
          rintro e w7 ⟨rfl, hb⟩
          have Ja := blk_below hb Ka.out
          have Jb := blk_below hb Kb.out
          have Jn := blk_below hb Kn.out
          have hbw' := below_call hbw hb
          clear ca0 ca1 ca2 ca3 ca4 fa la na Ka cb0 cb1 cb2 cb3 cb4 fb lb nb Kb cn0 cn1 cn2 cn3 cn4 fn ln nn Kn hbw hb
          have hbw := hbw'
          clear hbw'
          obtain ⟨ca0, ca1, ca2, ca3, ca4⟩ := hd_cell (h := a) Ja
          have fa := hd_frozen (h := a) Ja
          have la := lt_of_block Ja
          have na : w.heap.size ≠ w7.heap.size := by omega
          have Ka := Lib.hid Ja
          clear Ja
          obtain ⟨cb0, cb1, cb2, cb3, cb4⟩ := hd_cell (h := b) Jb
          have fb := hd_frozen (h := b) Jb
          have lb := lt_of_block Jb
          have nb : w.heap.size + 1 ≠ w7.heap.size := by omega
          have Kb := Lib.hid Jb
          clear Jb
          obtain ⟨cn0, cn1, cn2, cn3, cn4⟩ := hd_cell (h := n) Jn
          have fn := hd_frozen (h := n) Jn
          have ln := lt_of_block Jn
          have nn : w5.heap.size ≠ w7.heap.size := by omega
          have Kn := Lib.hid Jn
          clear Jn
          go_wp2_with fail
          refine (hnb.out _).mono ?_
          rintro e w8 ⟨rfl, hb⟩
          have Ja := blk_below hb Ka.out
          have Jb := blk_below hb Kb.out
          have Jn := blk_below hb Kn.out
          have hbw' := below_call hbw hb
          clear ca0 ca1 ca2 ca3 ca4 fa la na Ka cb0 cb1 cb2 cb3 cb4 fb lb nb Kb cn0 cn1 cn2 cn3 cn4 fn ln nn Kn hbw hb
          have hbw := hbw'
          clear hbw'
          obtain ⟨ca0, ca1, ca2, ca3, ca4⟩ := hd_cell (h := a) Ja
          have fa := hd_frozen (h := a) Ja
          have la := lt_of_block Ja
          have na : w.heap.size ≠ w8.heap.size := by omega
          have Ka := Lib.hid Ja
          clear Ja
          obtain ⟨cb0, cb1, cb2, cb3, cb4⟩ := hd_cell (h := b) Jb
          have fb := hd_frozen (h := b) Jb
          have lb := lt_of_block Jb
          have nb : w.heap.size + 1 ≠ w8.heap.size := by omega
          have Kb := Lib.hid Jb
          clear Jb
          obtain ⟨cn0, cn1, cn2, cn3, cn4⟩ := hd_cell (h := n) Jn
          have fn := hd_frozen (h := n) Jn
          have ln := lt_of_block Jn
          have nn : w5.heap.size ≠ w8.heap.size := by omega
          have Kn := Lib.hid Jn
          clear Jn
          go_wp2
          go_ret
          exact ⟨rfl, hbw⟩
        · have hba : Hid (∀ v : World, Calls Tryd.prog 42 #[.agg #[.int .u32 b.src, .int .u32 b.dst, .int .u8 b.proto, .int .u16 b.sp, .int .u16 b.dp], .agg #[.int .u32 a.src, .int .u32 a.dst, .int .u8 a.proto, .int .u16 a.sp, .int .u16 a.dp]] v fun e w' => e = .returned (.int .i64 (-1)) ∧ Below v.heap.size v w') := Lib.hid (fun v => by have e := cmp_any b a HB.out HA.out v; rw [h1] at e; exact e)
          clear h1 
          have Ja := hS6.out.a
          have Jb := hS6.out.b
          have hbw := hS6.out.n
          obtain ⟨ca0, ca1, ca2, ca3, ca4⟩ := hd_cell (h := a) Ja
          have fa := hd_frozen (h := a) Ja
          have la := lt_of_block Ja
          have na : w.heap.size ≠ w5.heap.size := by omega
          have Ka := Lib.hid Ja
          clear Ja
          obtain ⟨cb0, cb1, cb2, cb3, cb4⟩ := hd_cell (h := b) Jb
          have fb := hd_frozen (h := b) Jb
          have lb := lt_of_block Jb
          have nb : w.heap.size + 1 ≠ w5.heap.size := by omega
          have Kb := Lib.hid Jb
          clear Jb
          go_wp2_with fail
          refine (han.out _).mono ?_
          rintro e w6 ⟨rfl, hb⟩
          have Ja := blk_below hb ((Below.heap_alloc _ _ _ (by first | omega | (simp; omega))).trans Ka.out)
          have Jb := blk_below hb ((Below.heap_alloc _ _ _ (by first | omega | (simp; omega))).trans Kb.out)
          have Jn := blk_below hb (heap_alloc_new w5 (.cells #[.int .u32 n.src, .int .u32 n.dst, .int .u8 n.proto, .int .u16 n.sp, .int .u16 n.dp] 48))
          have hbw' := below_call (hbw.alloc (le_up hbw) _) hb
          clear ca0 ca1 ca2 ca3 ca4 fa la na Ka cb0 cb1 cb2 cb3 cb4 fb lb nb Kb hbw hb
          have hbw := hbw'
          clear hbw'
          obtain ⟨ca0, ca1, ca2, ca3, ca4⟩ := hd_cell (h := a) Ja
          have fa := hd_frozen (h := a) Ja
          have la := lt_of_block Ja
          have na : w.heap.size ≠ w6.heap.size := by omega
          have Ka := Lib.hid Ja
          clear Ja
          obtain ⟨cb0, cb1, cb2, cb3, cb4⟩ := hd_cell (h := b) Jb
          have fb := hd_frozen (h := b) Jb
          have lb := lt_of_block Jb
          have nb : w.heap.size + 1 ≠ w6.heap.size := by omega
          have Kb := Lib.hid Jb
          clear Jb
          obtain ⟨cn0, cn1, cn2, cn3, cn4⟩ := hd_cell (h := n) Jn
          have fn := hd_frozen (h := n) Jn
          have ln := lt_of_block Jn
          have nn : w5.heap.size ≠ w6.heap.size := by omega
          have Kn := Lib.hid Jn
          clear Jn
          go_wp2_with fail
          refine (hba.out _).mono ?_
          rintro e w7 ⟨rfl, hb⟩
          have Ja := blk_below hb Ka.out
          have Jb := blk_below hb Kb.out
          have Jn := blk_below hb Kn.out
          have hbw' := below_call hbw hb
          clear ca0 ca1 ca2 ca3 ca4 fa la na Ka cb0 cb1 cb2 cb3 cb4 fb lb nb Kb cn0 cn1 cn2 cn3 cn4 fn ln nn Kn hbw hb
          have hbw := hbw'
          clear hbw'
          obtain ⟨ca0, ca1, ca2, ca3, ca4⟩ := hd_cell (h := a) Ja
          have fa := hd_frozen (h := a) Ja
          have la := lt_of_block Ja
          have na : w.heap.size ≠ w7.heap.size := by omega
          have Ka := Lib.hid Ja
          clear Ja
          obtain ⟨cb0, cb1, cb2, cb3, cb4⟩ := hd_cell (h := b) Jb
          have fb := hd_frozen (h := b) Jb
          have lb := lt_of_block Jb
          have nb : w.heap.size + 1 ≠ w7.heap.size := by omega
          have Kb := Lib.hid Jb
          clear Jb
          obtain ⟨cn0, cn1, cn2, cn3, cn4⟩ := hd_cell (h := n) Jn
          have fn := hd_frozen (h := n) Jn
          have ln := lt_of_block Jn
          have nn : w5.heap.size ≠ w7.heap.size := by omega
          have Kn := Lib.hid Jn
          clear Jn
          go_wp2
          go_ret
          exact ⟨rfl, hbw⟩
        · have hba : Hid (∀ v : World, Calls Tryd.prog 42 #[.agg #[.int .u32 b.src, .int .u32 b.dst, .int .u8 b.proto, .int .u16 b.sp, .int .u16 b.dp], .agg #[.int .u32 a.src, .int .u32 a.dst, .int .u8 a.proto, .int .u16 a.sp, .int .u16 a.dp]] v fun e w' => e = .returned (.int .i64 (0)) ∧ Below v.heap.size v w') := Lib.hid (fun v => by have e := cmp_any b a HB.out HA.out v; rw [h1] at e; exact e)
          clear h1 
          have Ja := hS6.out.a
          have Jb := hS6.out.b
          have hbw := hS6.out.n
          obtain ⟨ca0, ca1, ca2, ca3, ca4⟩ := hd_cell (h := a) Ja
          have fa := hd_frozen (h := a) Ja
          have la := lt_of_block Ja
          have na : w.heap.size ≠ w5.heap.size := by omega
          have Ka := Lib.hid Ja
          clear Ja
          obtain ⟨cb0, cb1, cb2, cb3, cb4⟩ := hd_cell (h := b) Jb
          have fb := hd_frozen (h := b) Jb
          have lb := lt_of_block Jb
          have nb : w.heap.size + 1 ≠ w5.heap.size := by omega
          have Kb := Lib.hid Jb
          clear Jb
          go_wp2_with fail
          refine (han.out _).mono ?_
          rintro e w6 ⟨rfl, hb⟩
          have Ja := blk_below hb ((Below.heap_alloc _ _ _ (by first | omega | (simp; omega))).trans Ka.out)
          have Jb := blk_below hb ((Below.heap_alloc _ _ _ (by first | omega | (simp; omega))).trans Kb.out)
          have Jn := blk_below hb (heap_alloc_new w5 (.cells #[.int .u32 n.src, .int .u32 n.dst, .int .u8 n.proto, .int .u16 n.sp, .int .u16 n.dp] 48))
          have hbw' := below_call (hbw.alloc (le_up hbw) _) hb
          clear ca0 ca1 ca2 ca3 ca4 fa la na Ka cb0 cb1 cb2 cb3 cb4 fb lb nb Kb hbw hb
          have hbw := hbw'
          clear hbw'
          obtain ⟨ca0, ca1, ca2, ca3, ca4⟩ := hd_cell (h := a) Ja
          have fa := hd_frozen (h := a) Ja
          have la := lt_of_block Ja
          have na : w.heap.size ≠ w6.heap.size := by omega
          have Ka := Lib.hid Ja
          clear Ja
          obtain ⟨cb0, cb1, cb2, cb3, cb4⟩ := hd_cell (h := b) Jb
          have fb := hd_frozen (h := b) Jb
          have lb := lt_of_block Jb
          have nb : w.heap.size + 1 ≠ w6.heap.size := by omega
          have Kb := Lib.hid Jb
          clear Jb
          obtain ⟨cn0, cn1, cn2, cn3, cn4⟩ := hd_cell (h := n) Jn
          have fn := hd_frozen (h := n) Jn
          have ln := lt_of_block Jn
          have nn : w5.heap.size ≠ w6.heap.size := by omega
          have Kn := Lib.hid Jn
          clear Jn
          go_wp2_with fail
          refine (hba.out _).mono ?_
          rintro e w7 ⟨rfl, hb⟩
          have Ja := blk_below hb Ka.out
          have Jb := blk_below hb Kb.out
          have Jn := blk_below hb Kn.out
          have hbw' := below_call hbw hb
          clear ca0 ca1 ca2 ca3 ca4 fa la na Ka cb0 cb1 cb2 cb3 cb4 fb lb nb Kb cn0 cn1 cn2 cn3 cn4 fn ln nn Kn hbw hb
          have hbw := hbw'
          clear hbw'
          obtain ⟨ca0, ca1, ca2, ca3, ca4⟩ := hd_cell (h := a) Ja
          have fa := hd_frozen (h := a) Ja
          have la := lt_of_block Ja
          have na : w.heap.size ≠ w7.heap.size := by omega
          have Ka := Lib.hid Ja
          clear Ja
          obtain ⟨cb0, cb1, cb2, cb3, cb4⟩ := hd_cell (h := b) Jb
          have fb := hd_frozen (h := b) Jb
          have lb := lt_of_block Jb
          have nb : w.heap.size + 1 ≠ w7.heap.size := by omega
          have Kb := Lib.hid Jb
          clear Jb
          obtain ⟨cn0, cn1, cn2, cn3, cn4⟩ := hd_cell (h := n) Jn
          have fn := hd_frozen (h := n) Jn
          have ln := lt_of_block Jn
          have nn : w5.heap.size ≠ w7.heap.size := by omega
          have Kn := Lib.hid Jn
          clear Jn
          go_wp2
          go_ret
          exact ⟨rfl, hbw⟩
      · have hN := hdNext_any a HA.out wc
        rw [show a.nextV = ⟨0, 0, 0, 0, 0⟩ from if_neg hlt, show a.nextE = 5 from if_neg hlt] at hN
        have Hbn : Hid (cmpN b.val a.val = -1 ∨ cmpN b.val a.val = 0) := Lib.hid (by
          have := val_lt HB.out
          rcases Nat.lt_trichotomy b.val a.val with h | h | h
          · exact Or.inl (cmpN_lt h)
          · exact Or.inr (by rw [h]; exact cmpN_eq _)
          · omega)
        have HN := Lib.hid hN
        clear hN hlt
        go_wp2_with fail
        refine HN.out.mono ?_
        rintro e w5 ⟨rfl, hb5⟩
        have hS6 := Lib.hid (hS5.out.below hb5)
        clear hS5 hb5 HN ca0 ca1 ca2 ca3 ca4 cb0 cb1 cb2 cb3 cb4
        rcases Hbn.out with h1 | h1
        · have hba : Hid (∀ v : World, Calls Tryd.prog 42 #[.agg #[.int .u32 b.src, .int .u32 b.dst, .int .u8 b.proto, .int .u16 b.sp, .int .u16 b.dp], .agg #[.int .u32 a.src, .int .u32 a.dst, .int .u8 a.proto, .int .u16 a.sp, .int .u16 a.dp]] v fun e w' => e = .returned (.int .i64 (-1)) ∧ Below v.heap.size v w') := Lib.hid (fun v => by have e := cmp_any b a HB.out HA.out v; rw [h1] at e; exact e)
          clear h1
          have Ja := hS6.out.a
          have Jb := hS6.out.b
          have hbw := hS6.out.n
          obtain ⟨ca0, ca1, ca2, ca3, ca4⟩ := hd_cell (h := a) Ja
          have fa := hd_frozen (h := a) Ja
          have la := lt_of_block Ja
          have na : w.heap.size ≠ w5.heap.size := by omega
          have Ka := Lib.hid Ja
          clear Ja
          obtain ⟨cb0, cb1, cb2, cb3, cb4⟩ := hd_cell (h := b) Jb
          have fb := hd_frozen (h := b) Jb
          have lb := lt_of_block Jb
          have nb : w.heap.size + 1 ≠ w5.heap.size := by omega
          have Kb := Lib.hid Jb
          clear Jb
          go_wp2_with fail
          refine (hba.out _).mono ?_
          rintro e w6 ⟨rfl, hb⟩
          have Ja := blk_below hb ((Below.heap_alloc _ _ _ (by first | omega | (simp; omega))).trans Ka.out)
          have Jb := blk_below hb ((Below.heap_alloc _ _ _ (by first | omega | (simp; omega))).trans Kb.out)
          have Jn := blk_below hb (heap_alloc_new w5 (.cells #[.int .u32 0, .int .u32 0, .int .u8 0, .int .u16 0, .int .u16 0] 48))
          have hbw' := below_call (hbw.alloc (le_up hbw) _) hb
          clear ca0 ca1 ca2 ca3 ca4 fa la na Ka cb0 cb1 cb2 cb3 cb4 fb lb nb Kb hbw hb
          have hbw := hbw'
          clear hbw'
          obtain ⟨ca0, ca1, ca2, ca3, ca4⟩ := hd_cell (h := a) Ja
          have fa := hd_frozen (h := a) Ja
          have la := lt_of_block Ja
          have na : w.heap.size ≠ w6.heap.size := by omega
          have Ka := Lib.hid Ja
          clear Ja
          obtain ⟨cb0, cb1, cb2, cb3, cb4⟩ := hd_cell (h := b) Jb
          have fb := hd_frozen (h := b) Jb
          have lb := lt_of_block Jb
          have nb : w.heap.size + 1 ≠ w6.heap.size := by omega
          have Kb := Lib.hid Jb
          clear Jb
          have ln := lt_of_block Jn
          have nn : w5.heap.size ≠ w6.heap.size := by omega
          have Kn := Lib.hid Jn
          clear Jn
          go_wp2
          go_ret
          exact ⟨rfl, hbw⟩
        · have hba : Hid (∀ v : World, Calls Tryd.prog 42 #[.agg #[.int .u32 b.src, .int .u32 b.dst, .int .u8 b.proto, .int .u16 b.sp, .int .u16 b.dp], .agg #[.int .u32 a.src, .int .u32 a.dst, .int .u8 a.proto, .int .u16 a.sp, .int .u16 a.dp]] v fun e w' => e = .returned (.int .i64 (0)) ∧ Below v.heap.size v w') := Lib.hid (fun v => by have e := cmp_any b a HB.out HA.out v; rw [h1] at e; exact e)
          clear h1
          have Ja := hS6.out.a
          have Jb := hS6.out.b
          have hbw := hS6.out.n
          obtain ⟨ca0, ca1, ca2, ca3, ca4⟩ := hd_cell (h := a) Ja
          have fa := hd_frozen (h := a) Ja
          have la := lt_of_block Ja
          have na : w.heap.size ≠ w5.heap.size := by omega
          have Ka := Lib.hid Ja
          clear Ja
          obtain ⟨cb0, cb1, cb2, cb3, cb4⟩ := hd_cell (h := b) Jb
          have fb := hd_frozen (h := b) Jb
          have lb := lt_of_block Jb
          have nb : w.heap.size + 1 ≠ w5.heap.size := by omega
          have Kb := Lib.hid Jb
          clear Jb
          go_wp2_with fail
          refine (hba.out _).mono ?_
          rintro e w6 ⟨rfl, hb⟩
          have Ja := blk_below hb ((Below.heap_alloc _ _ _ (by first | omega | (simp; omega))).trans Ka.out)
          have Jb := blk_below hb ((Below.heap_alloc _ _ _ (by first | omega | (simp; omega))).trans Kb.out)
          have Jn := blk_below hb (heap_alloc_new w5 (.cells #[.int .u32 0, .int .u32 0, .int .u8 0, .int .u16 0, .int .u16 0] 48))
          have hbw' := below_call (hbw.alloc (le_up hbw) _) hb
          clear ca0 ca1 ca2 ca3 ca4 fa la na Ka cb0 cb1 cb2 cb3 cb4 fb lb nb Kb hbw hb
          have hbw := hbw'
          clear hbw'
          obtain ⟨ca0, ca1, ca2, ca3, ca4⟩ := hd_cell (h := a) Ja
          have fa := hd_frozen (h := a) Ja
          have la := lt_of_block Ja
          have na : w.heap.size ≠ w6.heap.size := by omega
          have Ka := Lib.hid Ja
          clear Ja
          obtain ⟨cb0, cb1, cb2, cb3, cb4⟩ := hd_cell (h := b) Jb
          have fb := hd_frozen (h := b) Jb
          have lb := lt_of_block Jb
          have nb : w.heap.size + 1 ≠ w6.heap.size := by omega
          have Kb := Lib.hid Jb
          clear Jb
          have ln := lt_of_block Jn
          have nn : w5.heap.size ≠ w6.heap.size := by omega
          have Kn := Lib.hid Jn
          clear Jn
          go_wp2
          go_ret
          exact ⟨rfl, hbw⟩
end Go.Proofs.YtdlhpiknifcehaaDoor

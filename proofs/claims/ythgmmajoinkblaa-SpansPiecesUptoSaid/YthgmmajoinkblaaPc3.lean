/-
  The walk of the document's Pieces.
-/
import Derived.Test.YthgmmajoinkblaaPcR
import Derived.Deep.CutBlock
import Derived.Deep.DeepCutAuto
namespace Go.Proofs.Ythgmmajoinkblaa
open Go Go.RowKit Go.Lib Go.Sort

def cutAt (c : Int) (L : List SpanV) : Bool := hasB L c != hasB L (c - 1)
theorem any_take_succ {S : List SetV} {k : Nat} {x : SetV} (h : S[k]? = some x) (f : List SpanV → Bool) : ((setsL S).take (k + 1)).any f = (((setsL S).take k).any f || f x.L) := by
  unfold setsL
  rw [List.take_add_one, List.getElem?_map, h]
  simp
set_option maxRecDepth 100000 in
set_option maxHeartbeats 4000000 in
theorem refPieces_any (most : Int) (S : List SetV) (vs : Value) (w : World) (hS : SetsAt w w.heap.size vs S) (hm : 0 ≤ most ∧ most < 4294967296) (hlen : (allS S).length ≤ 1073741824) (hlen2 : S.length ≤ 1024) :
    Calls Try.prog 14 #[.int .u32 most, vs] w (PiecesRes most (setsL S) w) := by
  obtain ⟨i0, hi, hz0, hz1, hz2⟩ := info_parts Try.infoSpan
  have hcuts := cuts_any most S vs w hS hm hlen (by omega)
  obtain ⟨A0, c0, rfl, hc0⟩ := hS.1.form
  have HC := Lib.hid hcuts
  have HS := Lib.hid hS
  have hS0 : ¬ (1024 : Int) < (S.length : Int) := by omega
  have hxl : ∀ x ∈ S, x.L.length ≤ 1099511627776 := fun x hx => by
    have : x.L.length ≤ (allS S).length := by
      obtain ⟨A, B, e⟩ := List.append_of_mem hx
      rw [e]; simp [allS]; omega
    omega
  have HXL := Lib.hid hxl
  clear hcuts hS hxl
  go_enter Try.func14, Try.ntmps14
  go_wp2_with fail
  refine HC.out.mono ?_
  rintro e w1 ⟨v1, C, rfl, hown1, hcut, hCl, hb1⟩
  obtain ⟨r, rfl⟩ := hcut.head
  have rd1 := Rd.of_own hown1
  obtain ⟨A1, c1, rfl, hc1⟩ := rd1.form
  have hsz1 := hb1.size
  have hCl2 : (0 :: r).length ≤ 2147483650 := by omega
  have hle := fun (y : Int) (hy : y ∈ (0 :: r)) => hcut.le hm.1 hy
  have HR := Lib.hid rd1
  have HB := Lib.hid hb1
  have HK := Lib.hid hcut
  have HLE := Lib.hid hle
  clear rd1 hown1 hb1 hcut HC hCl hle
  have hCpos : 0 < (0 :: r).length := by simp
  have HCE : Hid ((0 :: r).length = r.length + 1) := Lib.hid (by simp)
  generalize hCC : (0 :: r) = C at *
  have HCC := Lib.hid hCC
  clear hCC
  go_wp2
  go_loopw [6, 8] (fun v i wr => ∃ j : Nat, i = .int .i64 j ∧ j ≤ C.length ∧ wr.ownsRow w1.heap.size 44 2 v (dout most (setsL S) (C.take j)).length (scells (dout most (setsL S) (C.take j))) ∧ (dout most (setsL S) (C.take j)).length ≤ j ∧ Below w1.heap.size w1 wr) (fun _ i _ => C.length - (intOf i).toNat)
  case atStart => exact ⟨0, rfl, by omega, World.ownsRow_nil _ _ _ _, by simp [dout], Below.refl _ _⟩
  case round =>
    obtain ⟨j, rfl, hj, hown, hol, hnx⟩ := hrel
    have hsz := hnx.size
    by_cases hlt : j < C.length
    · have hI : (j : Int) < (C.length : Int) := by omega
      obtain ⟨c, hc⟩ : ∃ c, C[j]? = some c := ⟨_, List.getElem?_eq_getElem hlt⟩
      obtain ⟨b, off, c', hv, _, hbB, hcell⟩ := (HR.out.below hnx).pos (by omega)
      injection hv with hv1 _ hv3
      subst hv1 hv3
      have f0 : wr.cell? ⟨b, off + j, none⟩ = some (.int .u32 c) := hcell j _ (encU_at hc)
      have hcb := HK.out.2.1 c (List.mem_of_getElem? hc)
      clear hcell
      by_cases hj0 : j = 0
      · subst hj0
        have e0 : c = 0 := by rw [← HCC.out] at hc; injection hc with hc; exact hc.symm
        subst e0
        have hd : dout most (setsL S) (C.take (0 + 1)) = pcs most 0 [] := by rw [← HCC.out]; rfl
        have HD := Lib.hid hd
        have f0' : wr.cell? ⟨b, off, none⟩ = some (.int .u32 0) := f0
        clear f0 hol
        have HOWN : Hid (wr.ownsRow w1.heap.size 44 2 u6 0 []) := Lib.hid hown
        have HNX := Lib.hid hnx
        clear hc hd hown hnx
        have hcr : C.length ≤ 2147483650 := by omega
        go_upto_block 2 with fail
        go_cut [9] (fun s9 wx => s9 = .bool true ∧ wx = wr)
        case first =>
          go_wp2_with fail
          go_loop [9, 10] (fun s i => s = .bool true ∧ i = .int .i64 0) (fun _ _ => 0)
          case atStart => exact ⟨rfl, rfl⟩
          case round =>
            obtain ⟨rfl, rfl⟩ := hrel
            by_cases hs0 : 0 < S.length
            · go_wp2
              go_meet
              exact ⟨rfl, rfl⟩
            · go_wp2
              go_meet
              exact ⟨rfl, rfl⟩
        case rest =>
          obtain ⟨rfl, rfl⟩ := hcut
          have hown0 := HOWN.out
          obtain ⟨A3, c3, rfl, _⟩ := owns_form hown0
          go_wp2_with (at_builtin; refine wpList_push rfl _ _ 36 rfl 44 i0 _ 2 8 Try.underlying36 hi hz0 hz1 hz2 rfl (by decide) (by decide) [.int .u32 0, .int .u32 most] rfl rfl (by simp) hown0 rfl (enc_one ⟨0, most, by omega, by omega⟩) (by omega) (by omega) HNX.out (Nat.le_refl _) ?_; intro v2 w2 hown2 hb2)
          refine ⟨⟨0 + 1, by go_num, by omega, ?_, ?_, hb2⟩, by simp only [intOf]; omega⟩
          · rw [HD.out, pcs_zero hm, pcs_len]
            exact hown2
          · rw [HD.out, pcs_len]; simp
      · obtain ⟨m, hjm⟩ : ∃ m, j = m + 1 := ⟨j - 1, by omega⟩
        have HJM := Lib.hid hjm
        have hrm : r[m]? = some c := by rw [← HCC.out, hjm] at hc; exact hc
        have hj0 : ((j : Int) == 0) = false := by simp; omega
        have hj1 : (0 : Int) < (j : Int) := by omega
        clear hjm
        have HRM := Lib.hid hrm
        have hc0 : 0 < c := by
          have h1 := HK.out.1
          rw [← HCC.out] at h1
          exact (List.pairwise_cons.1 h1).1 c (List.mem_of_getElem? hrm)
        have hcm := HLE.out c (List.mem_of_getElem? hc)
        have HOWN := Lib.hid hown
        have HNX := Lib.hid hnx
        clear hc hown hnx hrm
        have hcr : C.length ≤ 2147483650 := by omega
        have hc1 : (c - 1) % 4294967296 = c - 1 := by omega
        go_upto_block 2 with fail
        go_cut [9] (fun s9 wx => s9 = .bool (turnB (setsL S) c) ∧ Hid (Below wr.heap.size wr wx))
        case first =>
          go_wp2_with fail
          go_loopw [9, 10] (fun s i wx => ∃ k : Nat, i = .int .i64 k ∧ k ≤ S.length ∧ s = .bool (((setsL S).take k).any (cutAt c)) ∧ Hid (Below wr.heap.size wr wx)) (fun _ i _ => S.length - (intOf i).toNat)
          case atStart => exact ⟨0, rfl, by omega, by first | rfl | simp, Lib.hid (Below.refl _ _)⟩
          case round =>
            rename_i wy
            obtain ⟨k, rfl, hk, rfl, hby⟩ := hrel
            have f1 := (hby.cell (p := ⟨b, off + j, none⟩) (by show b < _; omega)).trans f0
            cases hb : ((setsL S).take k).any (cutAt c) with
            | true =>
              have hT : turnB (setsL S) c = true := by
                obtain ⟨L, hL, hh⟩ := List.any_eq_true.1 hb
                exact List.any_eq_true.2 ⟨L, List.mem_of_mem_take hL, hh⟩
              have HT := Lib.hid hT
              have HBY := Lib.hid hby
              clear hb hT hby
              by_cases hks : k < S.length
              · have hKI : (k : Int) < (S.length : Int) := by omega
                go_wp2
                go_meet
                exact ⟨by rw [HT.out], HBY.out⟩
              · have hKI : ¬ (k : Int) < (S.length : Int) := by omega
                go_wp2
                go_meet
                exact ⟨by rw [HT.out], HBY.out⟩
            | false =>
              by_cases hks : k < S.length
              · have hKI : (k : Int) < (S.length : Int) := by omega
                obtain ⟨x, hx⟩ : ∃ x, S[k]? = some x := ⟨_, List.getElem?_eq_getElem hks⟩
                have hbw : Below w.heap.size w wr := HB.out.trans ((HNX.out.mono hsz1).trans (hby.mono (by omega)))
                have hS1 := HS.out.below hbw
                have hxr := (hS1.2 x (List.mem_of_getElem? hx)).mono hbw.size
                obtain ⟨Ax, cx, hxv, _⟩ := hxr.form
                obtain ⟨b2, off2, c2, hv, _, _, hcell⟩ := hS1.1.pos (by omega)
                injection hv with hv1 _ hv3
                subst hv1 hv3
                have g0 : wr.cell? ⟨b2, off2 + k, none⟩ = some (.slice Ax x.L.length cx) := by rw [← hxv]; exact hcell k _ (by simp [svals, hx])
                rw [hxv] at hxr
                have hxl := HXL.out x (List.mem_of_getElem? hx)
                have HH : Hid (∀ (y : Int) (W : World), Below wr.heap.size wr W → Calls Try.prog 17 #[.slice Ax x.L.length cx, .int .u32 y] W fun e w' => e = .returned (.bool (hasB x.L y)) ∧ W = w') := Lib.hid fun y W hW => refHas_any x.L _ y W ((hxr.below hW).mono hW.size) hxl
                have HSTEP := Lib.hid (any_take_succ hx (cutAt c))
                have HBF := Lib.hid hb
                have F0 := cell_regrown f1
                have G0 := cell_regrown g0
                have HBY := Lib.hid hby
                clear hx hxv hcell hS1 hbw hxr hxl hb hby
                go_wp2
                refine wp_region_quiet_below (by kernel_rfl) (by kernel_rfl) ?_
                repeat (first | go_big_quiet_step ((go_at_call 17; with_reducible exact regrown_left (HH.out _ _ (below_regrown wr _ _)))) | quiet_step ((go_at_call 17; with_reducible exact regrown_left (HH.out _ _ (below_regrown wr _ _)))))
                refine wpQuiet_nil ?_
                intro _ hw'
                obtain ⟨⟨nq, osq⟩, hw''⟩ := hw'
                subst hw''
                have hq := below_regrown wr nq osq
                have HBQ := Lib.hid (HBY.out.trans (hq.mono HBY.out.size))
                clear HBY F0 G0 g0 f1 HH
                generalize grow (redrawn wr nq) osq = W1 at *
                clear hq
                go_wp2
                go_roundw
                case rel => exact ⟨k + 1, by go_num, by omega, by rw [HSTEP.out, HBF.out]; rfl, HBQ.out⟩
                case measure => simp only [intOf]; omega
              · obtain rfl : k = S.length := by omega
                have hT : turnB (setsL S) c = false := by
                  have e : (setsL S).take S.length = setsL S := List.take_of_length_le (by simp [setsL])
                  rw [e] at hb
                  exact hb
                have HT := Lib.hid hT
                have HBY := Lib.hid hby
                have hKI : ¬ (S.length : Int) < (S.length : Int) := by omega
                clear hb hT hby
                go_wp2
                go_meet
                exact ⟨by rw [HT.out], HBY.out⟩
        case rest =>
          obtain ⟨rfl, hbx⟩ := hcut
          have hnx1 := HNX.out.trans (hbx.mono hsz)
          have hown1 := owns_kept_none HOWN.out (only_of_below hbx none)
          have f1 := (hbx.cell (p := ⟨b, off + j, none⟩) (by show b < wr.heap.size; omega)).trans f0
          have hszc := hnx1.size
          clear hbx f0
          cases ht : turnB (setsL S) c with
          | false =>
            have hd := dout_skip (most := most) HRM.out ht
            rw [HCC.out, ← HJM.out] at hd
            have HD := Lib.hid hd
            have HO := Lib.hid hown1
            have HN := Lib.hid hnx1
            clear ht hd hown1 hnx1
            go_wp2
            refine ⟨⟨j + 1, by go_num, by omega, ?_, ?_, HN.out⟩, by simp only [intOf]; omega⟩
            · rw [HD.out]; exact HO.out
            · rw [HD.out]; omega
          | true =>
            obtain ⟨A, t, y, hd1, hAl, hy1, hy2, hd2⟩ := dout_step HRM.out ht hc0 hcm hm.2
            rw [HCC.out, ← HJM.out] at hd1 hd2
            rw [hd1] at hown1
            have hl1 : (A ++ [t]).length = A.length + 1 := by simp
            rw [hl1] at hown1
            obtain ⟨A3, c3, rfl, hA3⟩ := owns_form hown1
            obtain ⟨g, rfl⟩ := hA3 (by omega)
            have e1 : wc.cell? ⟨g, A.length * 2 + 1, none⟩ = some (.int .u32 t.hi) := (hown1.cellAt (A.length * 2 + 1) (by omega)).trans (scell (L := A ++ [t]) (k := A.length) (i := 1) (x := t) (by simp) rfl)
            have e2 := hown1.frozenAt (A.length * 2 + 1)
            have hgB := (hown1.lt g rfl).1
            have hi1 : (0 : Int) ≤ (A.length : Int) := by omega
            have hi2 : (A.length : Int) < (A.length : Int) + 1 := by omega
            have hi3 : A.length ≤ 2147483650 := by have := HJM.out; omega
            have s1 := (hown1.stored (A.length * 2 + 1) (.int .u32 (c - 1))).1
            rw [show (scells (A ++ [t])).set (A.length * 2 + 1) (.int .u32 (c - 1)) = scells (A ++ [y]) by rw [← hy2]; exact scells_set hy1] at s1
            have n1 := hnx1.setCell (p := ⟨g, A.length * 2 + 1, none⟩) hgB (.int .u32 (c - 1))
            have z3 := (n1.cell (p := ⟨b, off + j, none⟩) (by show b < w1.heap.size; exact hbB)).trans (((hnx1.cell (p := ⟨b, off + j, none⟩) (by show b < w1.heap.size; exact hbB)).symm).trans f1)
            have S1 := Lib.hid s1
            have N1 := Lib.hid n1
            have HD2 := Lib.hid hd2
            clear ht hd1 hd2 hy1 hy2 hown1 hnx1 s1 n1
            go_wp2_with (at_builtin; refine wpList_push rfl _ _ 36 rfl 44 i0 _ 2 8 Try.underlying36 hi hz0 hz1 hz2 rfl (by decide) (by decide) [.int .u32 c, .int .u32 most] rfl rfl (by simp) S1.out rfl (enc_one ⟨c, most, by omega, by omega⟩) (by omega) N1.out.size N1.out (Nat.le_refl _) ?_; intro v2 w4 hown2 hb2)
            refine ⟨⟨j + 1, by go_num, by omega, ?_, ?_, hb2⟩, by simp only [intOf]; omega⟩
            · rw [HD2.out, scells_snoc (A ++ [y]), List.length_append, List.length_append]
              exact hown2
            · rw [HD2.out]; have := HJM.out; simp; omega
    · obtain rfl : j = C.length := by omega
      rw [List.take_length] at hown hol
      have hd : dout most (setsL S) C = pcs most 0 (r.filter (turnB (setsL S))) := by rw [← HCC.out]; rfl
      have hst : StartsOf most (setsL S) (r.filter (turnB (setsL S))) := by
        refine CutsOf.starts ?_
        rw [HCC.out, ← allS_flat]
        exact HK.out
      rw [hd, pcs_len] at hown hol
      have HST := Lib.hid hst
      have HNX := Lib.hid hnx
      clear hd hst hnx
      generalize r.filter (turnB (setsL S)) = F at *
      obtain ⟨A3, c3, rfl, _⟩ := owns_form hown
      have HOWN := Lib.hid hown
      clear hown
      go_upto_if 81 with fail
      by_cases hbig : 65536 ≤ F.length
      · have hB : decide ((65536 : Int) < (F.length : Int) + 1) = true := decide_eq_true (by omega)
        rw [hB]
        clear hB
        go_wp2
        go_ret2
        exact ⟨_, _, F, rfl, HST.out, .inr ⟨hbig, rfl, rfl⟩, HB.out.trans (HNX.out.mono hsz1)⟩
      · have hB : decide ((65536 : Int) < (F.length : Int) + 1) = false := decide_eq_false (by omega)
        rw [hB]
        clear hB
        go_wp2
        go_ret2
        refine ⟨_, _, F, rfl, HST.out, .inl ⟨by omega, rfl, ?_⟩, HB.out.trans (HNX.out.mono hsz1)⟩
        rw [pcs_len]
        exact owns_base HOWN.out hsz1
end Go.Proofs.Ythgmmajoinkblaa

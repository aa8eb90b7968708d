/-
  Walks over the layer of rewrites: the reference's Check and Permits (written by wip/gen/genrw4.py).
-/
import Derived.Test.YtpljnogmfeenkaaRw3
namespace Go.Proofs.Ytpljnogmfeenkaa
open Go Go.RowKit Go.Sort

theorem nam_hit {Fs : List FiltV} {nm : ByteArray} {f : FiltV} (hm : ¬ nm.toList = []) (hf : fnd Fs nm = some f) : namB Fs nm = true ∧ namL Fs nm = f.L ∧ namNm Fs nm = f.nm := by
  unfold namB namL namNm fndB fndL fndNm
  rw [if_neg hm, if_neg hm, if_neg hm, hf]
  exact ⟨rfl, rfl, rfl⟩
theorem nam_miss {Fs : List FiltV} {nm : ByteArray} (hm : ¬ nm.toList = []) (hf : fnd Fs nm = none) : namB Fs nm = false ∧ namL Fs nm = [] := by
  unfold namB namL fndB fndL
  rw [if_neg hm, if_neg hm, hf]
  exact ⟨rfl, rfl⟩

set_option maxRecDepth 100000 in
set_option maxHeartbeats 2000000 in
theorem refRwCheck_any (l : List RewV) (vl : Value) (Fs : List FiltV) (v : Value) (w : World) (hl : Rd w w.heap.size 3 vl l.length (wcells l)) (h : FsAt w w.heap.size v Fs) (hlen : Fs.length ≤ 9223372036854775807) :
    Calls Try.prog 54 #[vl, v] w fun e w' => e = .returned (.int .i64 (rwE Fs l)) ∧ Below w.heap.size w w' := by
  have HF := Lib.hid h
  have HL := Lib.hid hl
  obtain ⟨A, c, rfl, hc⟩ := h.1.form
  obtain ⟨A', cl, rfl, hcl⟩ := hl.form
  clear h hl
  by_cases h1 : 256 < l.length
  · have hI : (256 : Int) < (l.length : Int) := by omega
    have hE := Lib.hid (rwE_1 (Fs := Fs) h1)
    go_enter Try.func54, Try.ntmps54
    go_wp2
    go_ret
    exact ⟨ret_int hE.out.symm, Below.refl _ _⟩
  · have hI : ¬ (256 : Int) < (l.length : Int) := by omega
    have hE := Lib.hid (rwE_2 (Fs := Fs) h1)
    go_enter Try.func54, Try.ntmps54
    go_wp2
    go_loopw [5] (fun i wr => ∃ k : Nat, i = .int .i64 k ∧ k ≤ l.length ∧ Hid (∀ (j : Nat) (x : RewV), j < k → l[j]? = some x → errX Fs x = 0) ∧ Below w.heap.size w wr) (fun i _ => l.length - (intOf i).toNat)
    case atStart => exact ⟨0, rfl, by omega, fun j r hj => absurd hj (by omega), Below.refl _ _⟩
    case round =>
      obtain ⟨k, rfl, hk, hno, hnx⟩ := hrel
      by_cases hlt : k < l.length
      · have hI : (k : Int) < (l.length : Int) := by omega
        obtain ⟨x, hx⟩ : ∃ x, l[k]? = some x := ⟨_, List.getElem?_eq_getElem hlt⟩
        obtain ⟨b, off, c', hv, _, hbB, hcell⟩ := HL.out.posAt (by omega)
        injection hv with hv1 _ hv3
        subst hv1 hv3
        have c1 : wr.cell? ⟨b, off + k * 3 + 1, none⟩ = some (.string x.nm) := (hnx.cell (p := ⟨b, off + k * 3 + 1, none⟩) hbB).trans (hcell k 1 _ (wcell hx rfl))
        clear hcell
        have hnext : errX Fs x = 0 → Hid (∀ (j : Nat) (y : RewV), j < k + 1 → l[j]? = some y → errX Fs y = 0) := fun h0 j y hj hy => by
          by_cases hjk : j = k
          · subst hjk
            rw [hx] at hy
            injection hy with hy
            rw [← hy]; exact h0
          · exact hno.out j y (by omega) hy
        have HN := Lib.hid hnext
        clear hnext
        by_cases hm : x.nm.toList = []
        · have hm1 : (x.nm.toList == []) = true := by simp [hm]
          have hX : Hid (errX Fs x = 0) := errX_0 Fs hm
          clear hm
          go_wp2
          exact ⟨⟨k + 1, by go_num, by omega, HN.out hX.out, hnx⟩, by simp only [intOf]; omega⟩
        · have hm1 : (x.nm.toList == []) = false := by simp [hm]
          have HFr := (HF.out.below hnx).mono hnx.size
          have hcon := refNamed_any Fs (.slice A Fs.length c) x.nm wr HFr.1 hlen
          rcases idxP_cases (hasNm x.nm) Fs with ⟨hD, _⟩ | ⟨q, f, hD, hq, _, _⟩
          · rw [hD] at hcon
            have hX : Hid (errX Fs x = 120) := errX_1 (nam_miss hm (fnd_miss hD)).1
            have HC := Lib.hid hcon
            have hR : Hid (chkE Fs l = 120) := by rw [← hX.out]; exact chkE_hit hx (by rw [hX.out]; decide) hno.out
            clear hm hD hcon HFr
            go_wp2_with fail
            refine HC.out.mono ?_
            rintro e w1 ⟨rfl, rfl⟩
            go_wp2
            go_ret
            exact ⟨ret_int (hE.out.trans hR.out).symm, hnx⟩
          · rw [hD] at hcon
            have hql := (List.getElem?_eq_some_iff.1 hq).1
            have hqI : (q : Int) < (Fs.length : Int) := by omega
            obtain ⟨b2, o2, c2, hv2, _, hbB2, hcell2⟩ := HFr.1.posAt (by omega)
            injection hv2 with hv2a _ hv2c
            subst hv2a hv2c
            have d0 : wr.cell? ⟨b2, o2 + q * 2, none⟩ = some (.string f.nm) := hcell2 q 0 _ (fcell hq rfl)
            have d1 : wr.cell? ⟨b2, o2 + q * 2 + 1, none⟩ = some f.v := hcell2 q 1 _ (fcell hq rfl)
            have hrd := (HFr.2 f (List.mem_of_getElem? hq)).1
            obtain ⟨Ar, cr, hfv, _⟩ := hrd.form
            rw [hfv] at d1 hrd
            have hc2 := refFiltCheck_any f.nm f.L _ wr hrd
            obtain ⟨n1, n2, _⟩ := nam_hit hm (fnd_hit hD hq)
            by_cases hfe : filtE f.L = 0
            · have hX : Hid (errX Fs x = 0) := errX_3 n1 (by rw [n2]; exact hfe)
              rw [hfe] at hc2
              have HC := Lib.hid hcon
              have HC2 := Lib.hid hc2
              clear hm hD hcon HFr hc2 hrd hfv hcell2 n1 n2 hfe
              go_wp2_with fail
              refine HC.out.mono ?_
              rintro e w1 ⟨rfl, rfl⟩
              go_wp2_with fail
              refine HC2.out.mono ?_
              rintro e w2 ⟨rfl, hb2⟩
              have hbw := hnx.trans (hb2.mono hnx.size)
              go_wp2
              exact ⟨⟨k + 1, by go_num, by omega, HN.out hX.out, hbw⟩, by simp only [intOf]; omega⟩
            · have hX : Hid (errX Fs x = 121) := errX_2 n1 (by rw [n2]; exact hfe)
              have hne : (filtE f.L != 0) = true := by simp [hfe]
              have HC := Lib.hid hcon
              have HC2 := Lib.hid hc2
              have hR : Hid (chkE Fs l = 121) := by rw [← hX.out]; exact chkE_hit hx (by rw [hX.out]; decide) hno.out
              clear hm hD hcon HFr hc2 hrd hfv hcell2 n1 n2 hfe
              go_wp2_with fail
              refine HC.out.mono ?_
              rintro e w1 ⟨rfl, rfl⟩
              go_wp2_with fail
              refine HC2.out.mono ?_
              rintro e w2 ⟨rfl, hb2⟩
              have hbw := hnx.trans (hb2.mono hnx.size)
              go_wp2
              go_ret
              exact ⟨ret_int (hE.out.trans hR.out).symm, hbw⟩
      · have hR : Hid (chkE Fs l = 0) := chkE_all (fun j x hx => hno.out j x (by have := (List.getElem?_eq_some_iff.1 hx).1; omega) hx)
        go_wp2
        go_ret
        exact ⟨ret_int (hE.out.trans hR.out).symm, hnx⟩

/-- Does the filter of a name permit a header? -/
def namP (Fs : List FiltV) (nm : ByteArray) (h : HeaderV) : Bool := permN (namL Fs nm) h
theorem permN_nil (h : HeaderV) : permN [] h = false := permN_miss (by unfold decN; rfl)
theorem fits_allR (h : HeaderV) : fitsB allR h = true := by
  have h1 := h.hsrc
  have h2 := h.hdst
  have h3 := h.hsp
  have h4 := h.hdp
  have c : chk 0 0 = 0 := by decide +kernel
  have z : sz 0 = 4294967296 := by decide +kernel
  unfold fitsB
  simp only [allR, inB, inP, c, z]
  simp
  exact ⟨⟨⟨h1, h2⟩, by simp [h3.1, h3.2]⟩, by simp [h4.1, h4.2]⟩
theorem permN_allR (h : HeaderV) : permN [allR] h = true := permN_hit (k := 0) (r := allR) (idxP_hit _ [allR] 0 allR rfl (fits_allR h) (fun j _ hj => absurd hj (by omega))) rfl
theorem namP_none {Fs : List FiltV} {nm : ByteArray} (hm : nm.toList = []) (h : HeaderV) : namP Fs nm h = true := by
  unfold namP
  rw [show namL Fs nm = [allR] from if_pos hm]
  exact permN_allR h

set_option maxRecDepth 100000 in
set_option maxHeartbeats 2000000 in
theorem refRwPermits_any (Fs : List FiltV) (v : Value) (nm : ByteArray) (h : HeaderV) (w : World) (hF : FsAt w w.heap.size v Fs) (hlen : Fs.length ≤ 9223372036854775807) (hle : (namL Fs nm).length ≤ 4294967296) :
    Calls Try.prog 108 #[v, .string nm, .agg #[.int .u32 h.src, .int .u32 h.dst, .int .u8 h.proto, .int .u16 h.sp, .int .u16 h.dp]] w fun e w' => e = .returned (.bool (namP Fs nm h)) ∧ Below w.heap.size w w' := by
  obtain ⟨A, c, rfl, hc⟩ := hF.1.form
  have hW := below1 w (.cells #[.int .u32 h.src, .int .u32 h.dst, .int .u8 h.proto, .int .u16 h.sp, .int .u16 h.dp] 45)
  by_cases hm : nm.toList = []
  · have hm1 : (nm.toList == []) = true := by simp [hm]
    have hX : Hid (namP Fs nm h = true) := namP_none hm h
    clear hm hF
    go_enter Try.func108, Try.ntmps108
    go_wp2
    go_ret
    exact ⟨ret_bool hX.out.symm, hW⟩
  · have hm1 : (nm.toList == []) = false := by simp [hm]
    have HFr := hF.next hW
    have hcon := refNamed_any Fs (.slice A Fs.length c) nm _ HFr.1 hlen
    rcases idxP_cases (hasNm nm) Fs with ⟨hD, _⟩ | ⟨q, f, hD, hq, _, _⟩
    · rw [hD] at hcon
      have hX : Hid (namP Fs nm h = false) := by unfold namP; rw [(nam_miss hm (fnd_miss hD)).2]; exact permN_nil h
      have HC := Lib.hid hcon
      clear hm hD hcon HFr hF
      go_enter Try.func108, Try.ntmps108
      go_wp2_with fail
      refine HC.out.mono ?_
      rintro e w1 ⟨rfl, rfl⟩
      go_wp2
      refine wp_region_quiet_below (by kernel_rfl) (by kernel_rfl) ?_
      repeat (first | go_big_quiet_step (fail) | quiet_step (fail))
      refine wpQuiet_nil ?_
      intro _ hw'
      obtain ⟨⟨nq, osq⟩, hw''⟩ := hw'
      subst hw''
      go_wp2
      go_ret
      exact ⟨ret_bool hX.out.symm, hW.trans ((below_regrown _ nq osq).mono hW.size)⟩
    · rw [hD] at hcon
      have hql := (List.getElem?_eq_some_iff.1 hq).1
      have hqI : (q : Int) < (Fs.length : Int) := by omega
      obtain ⟨b2, o2, c2, hv2, _, hbB2, hcell2⟩ := HFr.1.posAt (by omega)
      injection hv2 with hv2a _ hv2c
      subst hv2a hv2c
      have d0' : (w.alloc (.cells #[.int .u32 h.src, .int .u32 h.dst, .int .u8 h.proto, .int .u16 h.sp, .int .u16 h.dp] 45)).cell? ⟨b2, o2 + q * 2, none⟩ = some (.string f.nm) := hcell2 q 0 _ (fcell hq (v := .string f.nm) rfl)
      have d0 := cell_regrown d0'
      have d1 := hcell2 q 1 _ (fcell hq (v := f.v) rfl)
      have hrd := (HFr.2 f (List.mem_of_getElem? hq)).1
      obtain ⟨Ar, cr, hfv, _⟩ := hrd.form
      rw [hfv] at d1 hrd
      have D1 := cell_regrown d1
      have n2 := (nam_hit hm (fnd_hit hD hq)).2.1
      have hd0 : decide ((0 : Int) ≤ (q : Int)) = true := by simp
      have hX : Hid (permN f.L h = namP Fs nm h) := by unfold namP Hid; rw [n2]
      rw [n2] at hle
      have HC := Lib.hid hcon
      have HR := Lib.hid hrd
      have J := blk1 w (.cells #[.int .u32 h.src, .int .u32 h.dst, .int .u8 h.proto, .int .u16 h.sp, .int .u16 h.dp] 45)
      have e0 := cell_of_row (w.alloc (.cells #[.int .u32 h.src, .int .u32 h.dst, .int .u8 h.proto, .int .u16 h.sp, .int .u16 h.dp] 45)) w.heap.size 0 _ _ (0, 0) J
      have e1 := cell_of_row (w.alloc (.cells #[.int .u32 h.src, .int .u32 h.dst, .int .u8 h.proto, .int .u16 h.sp, .int .u16 h.dp] 45)) w.heap.size 1 _ _ (0, 0) J
      have e2 := cell_of_row (w.alloc (.cells #[.int .u32 h.src, .int .u32 h.dst, .int .u8 h.proto, .int .u16 h.sp, .int .u16 h.dp] 45)) w.heap.size 2 _ _ (0, 0) J
      have e3 := cell_of_row (w.alloc (.cells #[.int .u32 h.src, .int .u32 h.dst, .int .u8 h.proto, .int .u16 h.sp, .int .u16 h.dp] 45)) w.heap.size 3 _ _ (0, 0) J
      have e4 := cell_of_row (w.alloc (.cells #[.int .u32 h.src, .int .u32 h.dst, .int .u8 h.proto, .int .u16 h.sp, .int .u16 h.dp] 45)) w.heap.size 4 _ _ (0, 0) J
      have E0 := cell_regrown (show _ = some (.int .u32 h.src) from e0)
      have E1 := cell_regrown (show _ = some (.int .u32 h.dst) from e1)
      have E2 := cell_regrown (show _ = some (.int .u8 h.proto) from e2)
      have E3 := cell_regrown (show _ = some (.int .u16 h.sp) from e3)
      have E4 := cell_regrown (show _ = some (.int .u16 h.dp) from e4)
      clear hm hD hcon HFr hF hrd hfv hcell2 n2 d1 J e0 e1 e2 e3 e4
      go_enter Try.func108, Try.ntmps108
      go_wp2_with fail
      refine HC.out.mono ?_
      rintro e w1 ⟨rfl, rfl⟩
      go_wp2
      refine wp_region_quiet_below (by kernel_rfl) (by kernel_rfl) ?_
      repeat (first | go_big_quiet_step ((go_at_call 25; exact Calls.regrown_of (refPermits_any f.nm f.L _ h _ ((HR.out.below (below_regrown _ _ _)).mono (below_regrown _ _ _).size) hle))) | quiet_step ((go_at_call 25; exact Calls.regrown_of (refPermits_any f.nm f.L _ h _ ((HR.out.below (below_regrown _ _ _)).mono (below_regrown _ _ _).size) hle))))
      refine wpQuiet_nil ?_
      intro _ hw'
      obtain ⟨⟨nq, osq⟩, hw''⟩ := hw'
      subst hw''
      go_wp2
      go_ret
      exact ⟨ret_bool hX.out, hW.trans ((below_regrown _ nq osq).mono hW.size)⟩

end Go.Proofs.Ytpljnogmfeenkaa

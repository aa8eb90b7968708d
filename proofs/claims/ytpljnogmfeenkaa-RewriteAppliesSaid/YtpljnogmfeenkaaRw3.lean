/-
  Walks over the layer of rewrites: Check, the program's and the reference's (written by wip/gen/genrw3.py).
-/
import Derived.Test.YtpljnogmfeenkaaRw2
namespace Go.Proofs.Ytpljnogmfeenkaa
open Go Go.RowKit Go.Sort

structure RewV where
  dest : Bool
  nm : ByteArray
  too : Int
  hto : 0 ≤ too ∧ too < 4294967296
instance : Inhabited RewV := ⟨⟨false, ByteArray.empty, 0, by omega⟩⟩
def RewV.enc (x : RewV) : List Value := [.bool x.dest, .string x.nm, .int .u32 x.too]
theorem rew_len (x : RewV) : x.enc.length = 3 := rfl
def wcells (L : List RewV) : List Value := L.flatMap RewV.enc
theorem wcell {L : List RewV} {k i : Nat} {x : RewV} {v : Value} (hr : L[k]? = some x) (hv : x.enc[i]? = some v) : (wcells L)[k * 3 + i]? = some v := flat_get RewV.enc 3 rew_len L k i x v hr hv

/-- The refusal of one rewrite. -/
def errX (Fs : List FiltV) (x : RewV) : Int := if namB Fs x.nm = false then 120 else if filtE (namL Fs x.nm) = 0 then 0 else 121
theorem errX_1 {Fs : List FiltV} {x : RewV} (h : namB Fs x.nm = false) : errX Fs x = 120 := if_pos h
theorem errX_2 {Fs : List FiltV} {x : RewV} (h : namB Fs x.nm = true) (h1 : ¬ filtE (namL Fs x.nm) = 0) : errX Fs x = 121 := by unfold errX; rw [if_neg (by simp [h]), if_neg h1]
theorem errX_3 {Fs : List FiltV} {x : RewV} (h : namB Fs x.nm = true) (h1 : filtE (namL Fs x.nm) = 0) : errX Fs x = 0 := by unfold errX; rw [if_neg (by simp [h]), if_pos h1]
theorem allR_e : filtE [allR] = 0 := by decide +kernel
theorem errX_0 (Fs : List FiltV) {x : RewV} (h : x.nm.toList = []) : errX Fs x = 0 := errX_3 (if_pos h) (by rw [show namL Fs x.nm = [allR] from if_pos h]; exact allR_e)
def chkE (Fs : List FiltV) : List RewV → Int
  | [] => 0
  | x :: r => if errX Fs x = 0 then chkE Fs r else errX Fs x
theorem chkE_all {Fs : List FiltV} : ∀ {l : List RewV}, (∀ (j : Nat) x, l[j]? = some x → errX Fs x = 0) → chkE Fs l = 0
  | [], _ => rfl
  | x :: r, h => by
    rw [chkE, if_pos (h 0 x rfl)]
    exact chkE_all (fun j y hj => h (j + 1) y (by simpa using hj))
theorem chkE_hit {Fs : List FiltV} : ∀ {l : List RewV} {k : Nat} {x : RewV}, l[k]? = some x → errX Fs x ≠ 0 → (∀ (j : Nat) y, j < k → l[j]? = some y → errX Fs y = 0) → chkE Fs l = errX Fs x
  | [], _, _, h, _, _ => by simp at h
  | y :: r, 0, x, h, hx, _ => by
    simp at h; subst h
    rw [chkE, if_neg hx]
  | y :: r, k + 1, x, h, hx, hno => by
    rw [chkE, if_pos (hno 0 y (by omega) rfl)]
    exact chkE_hit (by simpa using h) hx (fun j z hj hz => hno (j + 1) z (by omega) (by simpa using hz))
def rwE (Fs : List FiltV) (l : List RewV) : Int := if 256 < l.length then 1 else chkE Fs l
theorem rwE_1 {Fs : List FiltV} {l : List RewV} (h : 256 < l.length) : rwE Fs l = 1 := if_pos h
theorem rwE_2 {Fs : List FiltV} {l : List RewV} (h : ¬ 256 < l.length) : rwE Fs l = chkE Fs l := if_neg h
theorem chkE_zero {Fs : List FiltV} : ∀ {l : List RewV}, chkE Fs l = 0 → ∀ x ∈ l, errX Fs x = 0
  | [], _, x, hx => by simp at hx
  | y :: r, h, x, hx => by
    rw [chkE] at h
    by_cases hy : errX Fs y = 0
    · rw [if_pos hy] at h
      rcases List.mem_cons.1 hx with rfl | hx
      · exact hy
      · exact chkE_zero h x hx
    · rw [if_neg hy] at h; exact absurd h hy

set_option maxRecDepth 100000 in
set_option maxHeartbeats 2000000 in
theorem rwCheck_any (l : List RewV) (vl : Value) (Fs : List FiltV) (v : Value) (w : World) (hl : Rd w w.heap.size 3 vl l.length (wcells l)) (h : FsAt w w.heap.size v Fs) (hlen : Fs.length ≤ 9223372036854775807) :
    Calls Try.prog 53 #[vl, v] w fun e w' => e = .returned (.int .i64 (rwE Fs l)) ∧ Below w.heap.size w w' := by
  have HF := Lib.hid h
  have HL := Lib.hid hl
  obtain ⟨A, c, rfl, hc⟩ := h.1.form
  obtain ⟨A', cl, rfl, hcl⟩ := hl.form
  clear h hl
  by_cases h1 : 256 < l.length
  · have hI : (256 : Int) < (l.length : Int) := by omega
    have hE := Lib.hid (rwE_1 (Fs := Fs) h1)
    go_enter Try.func53, Try.ntmps53
    go_wp2
    go_ret
    exact ⟨ret_int hE.out.symm, Below.refl _ _⟩
  · have hI : ¬ (256 : Int) < (l.length : Int) := by omega
    have hE := Lib.hid (rwE_2 (Fs := Fs) h1)
    go_enter Try.func53, Try.ntmps53
    go_wp2
    go_loopw [14] (fun i wr => ∃ k : Nat, i = .int .i64 k ∧ k ≤ l.length ∧ Hid (∀ (j : Nat) (x : RewV), j < k → l[j]? = some x → errX Fs x = 0) ∧ Below w.heap.size w wr) (fun i _ => l.length - (intOf i).toNat)
    case atStart => exact ⟨0, rfl, by omega, fun j r hj => absurd hj (by omega), Below.refl _ _⟩
    case round =>
      obtain ⟨k, rfl, hk, hno, hnx⟩ := hrel
      by_cases hlt : k < l.length
      · have hI : (k : Int) < (l.length : Int) := by omega
        obtain ⟨x, hx⟩ : ∃ x, l[k]? = some x := ⟨_, List.getElem?_eq_getElem hlt⟩
        obtain ⟨b, off, c', hv, _, hbB, hcell⟩ := HL.out.posAt (by omega)
        injection hv with hv1 _ hv3
        subst hv1 hv3
        have c0 : wr.cell? ⟨b, off + k * 3, none⟩ = some (.bool x.dest) := (hnx.cell (p := ⟨b, off + k * 3, none⟩) hbB).trans (hcell k 0 _ (wcell hx rfl))
        have c1 : wr.cell? ⟨b, off + k * 3 + 1, none⟩ = some (.string x.nm) := (hnx.cell (p := ⟨b, off + k * 3 + 1, none⟩) hbB).trans (hcell k 1 _ (wcell hx rfl))
        have c2 : wr.cell? ⟨b, off + k * 3 + 2, none⟩ = some (.int .u32 x.too) := (hnx.cell (p := ⟨b, off + k * 3 + 2, none⟩) hbB).trans (hcell k 2 _ (wcell hx rfl))
        clear hcell
        have hW := hnx.alloc hnx.size (.cells #[.bool x.dest, .string x.nm, .int .u32 x.too] 77)
        have hcon := Lib.hid (rnamed_any Fs (.slice A Fs.length c) x.nm _ ((HF.out.below hW).mono hW.size) hlen)
        by_cases hB : namB Fs x.nm = true
        · by_cases hfe : filtE (namL Fs x.nm) = 0
          · have hX : Hid (errX Fs x = 0) := errX_3 hB hfe
            have HB := Lib.hid hB
            have HFE := Lib.hid hfe
            clear hB hfe
            go_wp2_with fail
            refine hcon.out.mono ?_
            rw [HB.out]
            rintro e w1 ⟨A1, c1', rfl, hr1, hb1, hn1⟩
            have hbw1 := hW.trans (hb1.mono hW.size)
            have hbw2 := hbw1.alloc hbw1.size (.cells #[.string (namNm Fs x.nm), .slice A1 (namL Fs x.nm).length c1'] 34)
            have hc2 := filtCheck_any (namNm Fs x.nm) (namL Fs x.nm) _ _ ((hr1.below (below1 w1 (.cells #[.string (namNm Fs x.nm), .slice A1 (namL Fs x.nm).length c1'] 34))).mono (by simp))
            rw [HFE.out] at hc2
            have HC2 := Lib.hid hc2
            clear hc2 hr1 hb1 hn1
            go_wp2_with fail
            refine HC2.out.mono ?_
            rintro e w2 ⟨rfl, hb2⟩
            have hbw3 := hbw2.trans (hb2.mono hbw2.size)
            go_wp2
            refine ⟨⟨k + 1, by go_num, by omega, fun j y hj hy => ?_, hbw3⟩, by simp only [intOf]; omega⟩
            by_cases hjk : j = k
            · subst hjk
              rw [hx] at hy
              injection hy with hy
              rw [← hy]; exact hX.out
            · exact hno.out j y (by omega) hy
          · have hX : Hid (errX Fs x = 121) := errX_2 hB hfe
            have hne : (filtE (namL Fs x.nm) != 0) = true := by simp [hfe]
            have HB := Lib.hid hB
            clear hB hfe
            have hR : Hid (chkE Fs l = 121) := by rw [← hX.out]; exact chkE_hit hx (by rw [hX.out]; decide) hno.out
            go_wp2_with fail
            refine hcon.out.mono ?_
            rw [HB.out]
            rintro e w1 ⟨A1, c1', rfl, hr1, hb1, hn1⟩
            have hbw1 := hW.trans (hb1.mono hW.size)
            have hbw2 := hbw1.alloc hbw1.size (.cells #[.string (namNm Fs x.nm), .slice A1 (namL Fs x.nm).length c1'] 34)
            have HC2 := Lib.hid (filtCheck_any (namNm Fs x.nm) (namL Fs x.nm) _ _ ((hr1.below (below1 w1 (.cells #[.string (namNm Fs x.nm), .slice A1 (namL Fs x.nm).length c1'] 34))).mono (by simp)))
            clear hr1 hb1 hn1
            go_wp2_with fail
            refine HC2.out.mono ?_
            rintro e w2 ⟨rfl, hb2⟩
            have hbw3 := hbw2.trans (hb2.mono hbw2.size)
            go_wp2
            go_ret
            exact ⟨ret_int (hE.out.trans hR.out).symm, hbw3⟩
        · have hB' : namB Fs x.nm = false := by simpa using hB
          have hX : Hid (errX Fs x = 120) := errX_1 hB'
          have HB := Lib.hid hB'
          clear hB hB'
          have hR : Hid (chkE Fs l = 120) := by rw [← hX.out]; exact chkE_hit hx (by rw [hX.out]; decide) hno.out
          go_wp2_with fail
          refine hcon.out.mono ?_
          rw [HB.out]
          rintro e w1 ⟨A1, c1', rfl, hr1, hb1, hn1⟩
          have hbw1 := hW.trans (hb1.mono hW.size)
          have hbw2 := hbw1.alloc hbw1.size (.cells #[.string (namNm Fs x.nm), .slice A1 (namL Fs x.nm).length c1'] 34)
          clear hr1 hb1 hn1
          go_wp2
          go_ret
          exact ⟨ret_int (hE.out.trans hR.out).symm, hbw2⟩
      · have hR : Hid (chkE Fs l = 0) := chkE_all (fun j x hx => hno.out j x (by have := (List.getElem?_eq_some_iff.1 hx).1; omega) hx)
        go_wp2
        go_ret
        exact ⟨ret_int (hE.out.trans hR.out).symm, hnx⟩

end Go.Proofs.Ytpljnogmfeenkaa

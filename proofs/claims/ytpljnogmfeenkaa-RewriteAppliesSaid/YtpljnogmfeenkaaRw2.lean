/-
  Walks over the layer of rewrites: filters by their names, the second text (written by wip/gen/genrw2.py).
-/
import Derived.Test.YtpljnogmfeenkaaRw1
namespace Go.Proofs.Ytpljnogmfeenkaa
open Go Go.RowKit Go.Sort

def allR : RuleV := ⟨true, -1, 0, 0, 0, 0, 0, 65535, 0, 65535, by omega, by omega, by omega, by omega, by omega, by omega, by omega⟩
/-- .. of a rewrite's name: none: all. -/
def namNm (Fs : List FiltV) (nm : ByteArray) : ByteArray := if nm.toList = [] then ByteArray.empty else fndNm Fs nm
def namL (Fs : List FiltV) (nm : ByteArray) : List RuleV := if nm.toList = [] then [allR] else fndL Fs nm
def namB (Fs : List FiltV) (nm : ByteArray) : Bool := if nm.toList = [] then true else fndB Fs nm

set_option maxRecDepth 100000 in
set_option maxHeartbeats 1000000 in
theorem rnamed_any (Fs : List FiltV) (v : Value) (nm : ByteArray) (w : World) (h : FsAt w w.heap.size v Fs) (hlen : Fs.length ≤ 9223372036854775807) :
    Calls Try.prog 109 #[v, .string nm] w fun e w' => NamedPost (namNm Fs nm) (namL Fs nm) (namB Fs nm) w e w' := by
  by_cases hm : nm.toList = []
  · have hm1 : (nm.toList == []) = true := by simp [hm]
    obtain ⟨A, c, rfl, hc⟩ := h.1.form
    clear h
    have HM := Lib.hid hm
    clear hm
    go_enter Try.func109, Try.ntmps109
    go_wp2
    obtain ⟨J0, J1, J2⟩ := blk3 w (.cells #[.string ByteArray.empty, .slice (some ⟨w.heap.size + 1 + 1, 0, none⟩) 1 1] 34) (.cells #[.int .u32 0, .int .u32 65535] 37) (.cells #[.bool true, .int .i64 (-1), .int .u32 0, .int .i64 0, .int .u32 0, .int .i64 0, .int .u32 0, .int .u32 65535, .int .u32 0, .int .u32 65535] 39)
    have e1 : namNm Fs nm = ByteArray.empty := if_pos HM.out
    have e2 : namL Fs nm = [allR] := if_pos HM.out
    have e3 : namB Fs nm = true := if_pos HM.out
    refine bodyPost_ret (results_f (t1 := 4) (t3 := 5) (g := w.heap.size) Try.results109 rfl rfl J0) rfl ?_
    unfold NamedPost
    rw [e1, e2, e3]
    exact ⟨some ⟨w.heap.size + 1 + 1, 0, none⟩, 1, rfl, Rd.of_blk (k := 10) (n := 1) (c := 1) J2 (by omega) rfl, below3 w _ _ _, fun _ => ⟨_, 0, rfl, by omega⟩⟩
  · have hm1 : (nm.toList == []) = false := by simp [hm]
    have h' := h.next (below1 w (.cells #[.string ByteArray.empty, .slice none 0 0] 34))
    have hcon := Lib.hid (fnamed_any Fs v nm _ h' hlen)
    obtain ⟨A, c, rfl, hc⟩ := h.1.form
    clear h h'
    have hE1 : Hid (namNm Fs nm = fndNm Fs nm) := if_neg hm
    have hE2 : Hid (namL Fs nm = fndL Fs nm) := if_neg hm
    have hE3 : Hid (namB Fs nm = fndB Fs nm) := if_neg hm
    clear hm
    generalize fndNm Fs nm = N at *
    generalize fndL Fs nm = L at *
    generalize fndB Fs nm = B at *
    go_enter Try.func109, Try.ntmps109
    go_wp2_with fail
    refine hcon.out.mono ?_
    rintro e w1 ⟨A1, c1, rfl, hr1, hb1, hn1⟩
    have HK := Lib.hid (blk_below hb1 (blk1 w _))
    obtain ⟨k0, k1, k2, k3⟩ := two_cells HK.out
    have HR1 := Lib.hid hr1
    have HB1 := Lib.hid hb1
    have HN1 := Lib.hid hn1
    clear hr1 hb1 hn1
    go_wp2
    refine bodyPost_ret (results_f (t1 := 4) (t3 := 5) (g := w.heap.size) Try.results109 rfl rfl (set_1 (set_0 HK.out))) rfl ?_
    have hlt1 : w.heap.size < (w.alloc (.cells #[.string ByteArray.empty, .slice none 0 0] 34)).heap.size := by simp
    have hbel : Below w.heap.size w w1 := (below1 w _).trans (HB1.out.mono (Nat.le_of_lt hlt1))
    unfold NamedPost
    rw [hE1.out, hE2.out, hE3.out]
    exact ⟨A1, c1, rfl, ((HR1.out.far HN1.out hlt1 _).far HN1.out hlt1 _).mono (by simp [World.setCell]), (hbel.setCell (Nat.le_refl _) _).setCell (Nat.le_refl _) _, HN1.out.mono (Nat.le_of_lt hlt1)⟩

set_option maxHeartbeats 1000000 in
theorem refNamed_any (Fs : List FiltV) (v : Value) (nm : ByteArray) (w : World) (h : Rd w w.heap.size 2 v Fs.length (fcells Fs)) (hlen : Fs.length ≤ 9223372036854775807) :
    Calls Try.prog 110 #[v, .string nm] w fun e w' => e = .returned (.int .i64 (idxP (hasNm nm) Fs)) ∧ w = w' := by
  have HF := Lib.hid h
  obtain ⟨A, c, rfl, hc⟩ := h.form
  clear h
  go_enter Try.func110, Try.ntmps110
  go_wp2
  go_loopw [5] (fun i wr => ∃ k : Nat, i = .int .i64 k ∧ k ≤ Fs.length ∧ Hid (∀ (j : Nat) (f : FiltV), j < k → Fs[j]? = some f → hasNm nm f = false) ∧ w = wr) (fun i _ => Fs.length - (intOf i).toNat)
  case atStart => exact ⟨0, rfl, by omega, fun j r hj => absurd hj (by omega), rfl⟩
  case round =>
    obtain ⟨k, rfl, hk, hno, rfl⟩ := hrel
    by_cases hlt : k < Fs.length
    · have hI : (k : Int) < (Fs.length : Int) := by omega
      obtain ⟨f, hf⟩ : ∃ f, Fs[k]? = some f := ⟨_, List.getElem?_eq_getElem hlt⟩
      obtain ⟨b, off, c', hv, _, hbB, hcell⟩ := HF.out.posAt (by omega)
      injection hv with hv1 _ hv3
      subst hv1 hv3
      have c0 : w.cell? ⟨b, off + k * 2, none⟩ = some (.string f.nm) := hcell k 0 _ (fcell hf rfl)
      clear hcell
      by_cases hm : f.nm.toList = nm.toList
      · have hm1 : (f.nm.toList == nm.toList) = true := by simp [hm]
        have hI : Hid (idxP (hasNm nm) Fs = k) := idxP_hit _ Fs k f hf hm1 hno.out
        go_wp2
        go_ret
        exact ⟨ret_int hI.out.symm, rfl⟩
      · have hm1 : (f.nm.toList == nm.toList) = false := by simp [hm]
        go_wp2
        refine ⟨⟨k + 1, by go_num, by omega, fun j f' hj hf' => ?_, trivial⟩, by simp only [intOf]; omega⟩
        by_cases hjk : j = k
        · subst hjk
          rw [hf] at hf'
          injection hf' with hf'
          rw [← hf']; exact hm1
        · exact hno.out j f' (by omega) hf'
    · go_wp2
      go_ret
      exact ⟨ret_int (idxP_miss _ Fs (fun j f hj => hno.out j f (by have := (List.getElem?_eq_some_iff.1 hj).1; omega) hj)).symm, rfl⟩

end Go.Proofs.Ytpljnogmfeenkaa

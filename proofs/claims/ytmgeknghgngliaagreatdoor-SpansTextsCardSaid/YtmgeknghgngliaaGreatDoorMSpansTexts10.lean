/-
  Joined texts: At4, Sx1, Sx2, At1, At2.
-/
import Derived.Test.YtmgeknghgngliaaGreatDoorMSpansTexts9
import Derived.Test.YtmgeknghgngliaaGreatDoorMSpansTexts7
import Derived.Test.YtmgeknghgngliaaGreatDoorMSpansTexts2
import Derived.Test.YtmgeknghgngliaaGreatDoorMSpansTexts6
import Derived.Lib.ConvBytes
import Derived.Deep.DeepCutAuto
/-
  Walks over the document's addresses: Parse.
-/
namespace Go.Proofs.YtmgeknghgngliaaGreatDoor
open Go Go.RowKit Go.Sort

theorem Tryz.infoStr : (Tryz.prog.info? 9).map (fun i => (i.zero, i.size, i.bytes)) = some (some (.string ByteArray.empty), 1, 16) := by kernel_rfl
def PInv (l : List UInt8) (k f : Nat) (L : List ByteArray) : Prop :=
  (k ≤ l.length ∧ f ≤ k ∧ pieces 46 l = L.map (·.data.toList) ++ pieces 46 (l.drop f) ∧ (46 : UInt8) ∉ (l.drop f).take (k - f)) ∨ (k = l.length + 1 ∧ pieces 46 l = L.map (·.data.toList))
theorem one_str (x : ByteArray) : ∀ u ∈ [Value.string x], u.oneCell' = true := by intro u hu; simp at hu; subst hu; rfl
theorem pinv_start (l : List UInt8) : PInv l 0 0 [] := Or.inl ⟨Nat.zero_le _, Nat.le_refl _, by simp, by simp⟩
theorem pinv_skip {l : List UInt8} {k f : Nat} {L : List ByteArray} {x : UInt8} (h : PInv l k f L) (hk : l[k]? = some x) (hx : x ≠ 46) : PInv l (k + 1) f L := by
  have hkl := (List.getElem?_eq_some_iff.1 hk).1
  rcases h with ⟨h1, h2, h3, h4⟩ | ⟨h1, _⟩
  · refine Or.inl ⟨by omega, by omega, h3, ?_⟩
    rw [show k + 1 - f = (k - f) + 1 by omega, List.take_add_one]
    have e : (l.drop f)[k - f]? = some x := by rw [List.getElem?_drop, show f + (k - f) = k by omega, hk]
    rw [e]
    intro h
    rcases List.mem_append.1 h with h | h
    · exact h4 h
    · simp at h; exact hx h.symm
  · omega
theorem drop_split {l : List UInt8} {k f : Nat} (hf : f ≤ k) (hk : l[k]? = some 46) : l.drop f = (l.drop f).take (k - f) ++ 46 :: l.drop (k + 1) := by
  have hkl := (List.getElem?_eq_some_iff.1 hk).1
  have e : (l.drop f).drop (k - f) = 46 :: l.drop (k + 1) := by
    rw [List.drop_drop, show f + (k - f) = k by omega, List.drop_eq_getElem_cons hkl]
    congr 1
    exact Option.some.inj ((List.getElem?_eq_getElem hkl).symm.trans hk)
  rw [← e, List.take_append_drop]
theorem pinv_cut {l : List UInt8} {k f : Nat} {L : List ByteArray} {b : ByteArray} (h : PInv l k f L) (hk : l[k]? = some 46) (hb : b.data.toList = (l.drop f).take (k - f)) : PInv l (k + 1) (k + 1) (L ++ [b]) := by
  have hkl := (List.getElem?_eq_some_iff.1 hk).1
  rcases h with ⟨h1, h2, h3, h4⟩ | ⟨h1, _⟩
  · refine Or.inl ⟨by omega, Nat.le_refl _, ?_, by simp⟩
    rw [h3, drop_split h2 hk, pieces_cons _ h4, List.map_append, List.append_assoc]
    simp [hb]
  · omega
theorem pinv_end {l : List UInt8} {f : Nat} {L : List ByteArray} {b : ByteArray} (h : PInv l l.length f L) (hb : b.data.toList = (l.drop f).take (l.length - f)) : PInv l (l.length + 1) (l.length + 1) (L ++ [b]) := by
  rcases h with ⟨h1, h2, h3, h4⟩ | ⟨h1, _⟩
  · refine Or.inr ⟨rfl, ?_⟩
    have e : (l.drop f).take (l.length - f) = l.drop f := List.take_of_length_le (by simp)
    rw [e] at h4 hb
    rw [h3, pieces_none h4, List.map_append]
    simp [hb]
  · omega
theorem pinv_done {l : List UInt8} {f : Nat} {L : List ByteArray} (h : PInv l (l.length + 1) f L) : pieces 46 l = L.map (·.data.toList) := by
  rcases h with ⟨h1, _⟩ | ⟨_, h⟩
  · omega
  · exact h

set_option maxRecDepth 100000 in
set_option maxHeartbeats 4000000 in
theorem refParse_any (s : ByteArray) (w : World) (hlim : s.size < 4294967281) :
    Calls Tryz.prog 68 #[.string s] w fun e w' => e = .returned (.tuple #[.int .u32 (adV (parseB s.data.toList)), .int .i64 (adE (parseB s.data.toList))]) ∧ Below w.heap.size w w' := by
  obtain ⟨i0, hi, hz0, hz1, hz2⟩ := info_parts Tryz.infoStr
  have HS := Lib.hid (show s.size = s.data.toList.length from (Array.length_toList).symm)
  have t9 := Tryz.underlying9
  have HQ := Lib.hid (show ∀ (i : Nat) (h : i < s.size), Hid (s.data.toList[i]? = some (s[i]'h)) from fun i h => Lib.hid (by
    rw [Array.getElem?_toList]
    exact Array.getElem?_eq_getElem (xs := s.data) (i := i) h))
  go_enter Tryz.func68, Tryz.ntmps68
  go_wp2
  go_loopw [4, 5, 6] (fun v fr i wr => ∃ (k f : Nat) (L : List ByteArray), i = .int .i64 k ∧ fr = .int .i64 f ∧ wr.ownsRow w.heap.size 9 1 v L.length (L.map Value.string) ∧ Hid (PInv s.data.toList k f L) ∧ f ≤ k ∧ k ≤ s.size + 1 ∧ L.length ≤ k ∧ Below w.heap.size w wr) (fun _ _ i _ => s.size + 1 - (intOf i).toNat)
  case atStart => exact ⟨0, 0, [], rfl, rfl, World.ownsRow_nil _ _ _ _, Lib.hid (pinv_start _), by omega, by omega, by simp, Below.refl _ _⟩
  case round =>
    obtain ⟨k, f, L, rfl, rfl, hown, hp, hf, hk, hLk, hb⟩ := hrel
    by_cases hlt : k < s.size
    · have hI3 : (k : Int) < (s.size : Int) := by omega
      have hI4 : (0 : Int) ≤ k := by omega
      have hI5 : (k : Int) ≤ (s.size : Int) := by omega
      have hI6 : ((k : Int) == (s.size : Int)) = false := by simp; omega
      have hx := HQ.out k hlt
      obtain ⟨v, hv⟩ : ∃ v : Int, ((s[k]'hlt).toNat : Int) = v := ⟨_, rfl⟩
      by_cases h46 : s[k]'hlt = 46
      · have hv2 : (v == 46) = true := by rw [← hv, h46]; rfl
        have hcut := Lib.hid (pinv_cut (b := s.extract f k) hp.out (by rw [hx.out, h46]) (by rw [Lib.extract_data]))
        clear h46 hx hp
        go_wp2_with (at_builtin; refine wpList_push rfl _ _ 77 rfl 9 i0 _ 1 16 Tryz.underlying77 hi hz0 hz1 hz2 rfl (by decide) (by decide) [.string (s.extract f k)] rfl rfl (by simp) hown rfl (one_str _) (by omega) hb.size hb (Nat.le_refl _) ?_; intro v2 w2 hown2 hb2)
        have hown3 : w2.ownsRow w.heap.size 9 1 v2 (L ++ [s.extract f k]).length ((L ++ [s.extract f k]).map Value.string) := by
          rw [List.length_append, List.map_append]; exact hown2
        clear hown2 hown
        go_wp2
        exact ⟨⟨k + 1, k + 1, L ++ [s.extract f k], by go_num, by go_num, hown3, hcut, by omega, by omega, by simp; omega, hb2⟩, by simp only [intOf]; omega⟩
      · have hv2 : (v == 46) = false := by
          simp
          intro h
          apply h46
          apply UInt8.toNat_inj.1
          have : (46 : UInt8).toNat = 46 := rfl
          omega
        have hskip := Lib.hid (pinv_skip hp.out hx.out h46)
        clear h46 hx hp
        go_wp2
        exact ⟨⟨k + 1, f, L, by go_num, rfl, hown, hskip, by omega, by omega, by omega, hb⟩, by simp only [intOf]; omega⟩
    · by_cases heq : k = s.size
      · subst heq
        have hI5 : (s.size : Int) ≤ (s.size : Int) := by omega
        have hI6 : ((s.size : Int) == (s.size : Int)) = true := by simp
        have hcut := Lib.hid (pinv_end (b := s.extract f s.size) (by have h := hp.out; rw [HS.out] at h; exact h) (by rw [Lib.extract_data, HS.out]))
        have hcut2 : Hid (PInv s.data.toList (s.size + 1) (s.size + 1) (L ++ [s.extract f s.size])) := Lib.hid (by have h := hcut.out; rw [← HS.out] at h; exact h)
        clear hcut hp hlt
        go_wp2_with (at_builtin; refine wpList_push rfl _ _ 77 rfl 9 i0 _ 1 16 Tryz.underlying77 hi hz0 hz1 hz2 rfl (by decide) (by decide) [.string (s.extract f s.size)] rfl rfl (by simp) hown rfl (one_str _) (by omega) hb.size hb (Nat.le_refl _) ?_; intro v2 w2 hown2 hb2)
        have hown3 : w2.ownsRow w.heap.size 9 1 v2 (L ++ [s.extract f s.size]).length ((L ++ [s.extract f s.size]).map Value.string) := by
          rw [List.length_append, List.map_append]; exact hown2
        clear hown2 hown
        go_wp2
        exact ⟨⟨s.size + 1, s.size + 1, L ++ [s.extract f s.size], by go_num, by go_num, hown3, hcut2, by omega, by omega, by simp; omega, hb2⟩, by simp only [intOf]; omega⟩
      · obtain rfl : k = s.size + 1 := by omega
        have hI5 : ¬ ((s.size + 1 : Nat) : Int) ≤ (s.size : Int) := by omega
        have hP := Lib.hid (pinv_done (by have h := hp.out; rw [HS.out] at h; exact h) : pieces 46 s.data.toList = L.map (·.data.toList))
        have hrd := Rd.of_own hown
        clear hp hlt heq
        obtain ⟨A, c, rfl, hcap⟩ := hrd.form
        by_cases h4 : L.length = 4
        · have hd : ((L.length : Int) != 4) = false := by simp; omega
          obtain ⟨b, off, c', hv, _, hbB, hcell⟩ := hrd.pos (by omega)
          injection hv with hv1 _ hv3
          subst hv1 hv3
          have HC := Lib.hid (show ∀ (j : Nat) (x : ByteArray), L[j]? = some x → wr.cell? ⟨b, off + j, none⟩ = some (.string x) from fun j x hx => hcell j _ (by rw [List.getElem?_map, hx]; rfl))
          have hQ := Lib.hid (parseB_four (l := s.data.toList) (by rw [hP.out]; simpa using h4))
          have HE := Lib.hid (show ∀ (k : Nat) (x : ByteArray), L[k]? = some x → (pieces 46 s.data.toList)[k]? = some x.data.toList from fun k x h => by rw [hP.out, List.getElem?_map, h]; rfl)
          clear hown hrd hcell hP
          go_wp2
          go_loop [7, 8] (fun a i => ∃ k n : Nat, i = .int .i64 k ∧ a = .int .i64 n ∧ k ≤ 4 ∧ Hid (accB (pieces 46 s.data.toList) k = some n)) (fun _ i => 4 - (intOf i).toNat)
          case atStart => exact ⟨0, 0, rfl, rfl, by omega, Lib.hid (show accB (pieces 46 s.data.toList) 0 = some 0 from rfl)⟩
          case round =>
            obtain ⟨k, n, rfl, rfl, hk4, hacc⟩ := hrel
            have hnb := accB_lt hacc.out hk4
            have hn32 : n < 4294967296 := Nat.lt_of_lt_of_le hnb (Nat.le_trans (Nat.pow_le_pow_right (by decide) hk4) (by decide))
            by_cases hk5 : k < 4
            · obtain ⟨x, hx⟩ : ∃ x, L[k]? = some x := ⟨_, List.getElem?_eq_getElem (by omega)⟩
              have hcx := HC.out k x hx
              have hpx := Lib.hid (HE.out k x hx)
              have hI7 : (k : Int) < 4 := by omega
              have hI8 : (0 : Int) ≤ k := by omega
              have hI9 : (k : Int) < (L.length : Int) := by omega
              clear hx hnb
              go_wp2_with fail
              refine (refRead_any x 255 (by omega) _).mono ?_
              rintro e w3 ⟨rfl, rfl⟩
              cases hrd : readB x.data.toList 255 with
              | none =>
                have hr := rdV_none hrd
                have hz := Lib.hid (show parseB s.data.toList = none by rw [hQ.out]; exact accB_none hpx.out hrd 4 hk5)
                clear hrd
                go_wp2
                go_ret2
                exact ⟨by rw [hz.out]; rfl, hb⟩
              | some v =>
                have hr := rdV_some hrd
                have hv := readB_le hrd
                have hstep := Lib.hid (accB_step hacc.out hpx.out hrd)
                have w1 : wrap64 (256 * (n : Int)) = 256 * (n : Int) := by unfold wrap64; omega
                have w2 : wrap64 (256 * (n : Int) + (v : Int)) = 256 * (n : Int) + (v : Int) := by unfold wrap64; omega
                have W2 := Lib.hid w2
                clear hrd
                go_wp2
                clear w1 w2
                exact ⟨⟨k + 1, n * 256 + v, by go_num, vint (by first | (rw [W2.out]; clear W2; omega) | (clear W2; omega)), by clear W2; omega, hstep⟩, by clear W2; simp only [intOf]; omega⟩
            · obtain rfl : k = 4 := by omega
              have hz := Lib.hid (show parseB s.data.toList = some n by rw [hQ.out]; exact hacc.out)
              clear hnb
              go_wp2
              go_ret2
              exact ⟨by rw [hz.out]; rfl, hb⟩
        · have hd : ((L.length : Int) != 4) = true := by simp; omega
          have hz := Lib.hid (parseB_not (l := s.data.toList) (by rw [hP.out]; simpa using h4))
          clear hown hrd h4
          go_wp2
          go_ret2
          exact ⟨by rw [hz.out]; rfl, hb⟩
end Go.Proofs.YtmgeknghgngliaaGreatDoor

/-
  The text of a set: the program's and the document's.
-/
namespace Go.Proofs.YtmgeknghgngliaaGreatDoor
open Go Go.RowKit Go.Lib Go.Sort

theorem fmtInt_any (n : Int) (h0 : 0 ≤ n) (h1 : n < 4294967296) (w : World) (hE : Env w) :
    Calls Tryz.prog 62 #[.int .u64 n, .int .i64 10] w fun e w' => e = .returned (.string ⟨(Lib.decDigits n.toNat).toArray⟩) ∧ Below w.heap.size w w' := by
  obtain ⟨u, rfl⟩ := Int.eq_ofNat_of_zero_le h0
  exact fmtUint_any u (by omega) w hE
theorem tB_one {s : SpanV} (h : s.lo = s.hi) : tB s = ⟨(Lib.decDigits s.lo.toNat).toArray⟩ := by
  unfold tB SpanV.t
  rw [if_pos h]
theorem tB_two {s : SpanV} (h : s.lo ≠ s.hi) : tB s = ⟨(Lib.decDigits s.lo.toNat).toArray⟩ ++ (⟨#[45]⟩ ++ ⟨(Lib.decDigits s.hi.toNat).toArray⟩) := by
  apply byte_ext
  unfold tB SpanV.t
  rw [if_neg h]
  simp [ByteArray.data_append]
theorem dec_size {n : Int} (h : n < 4294967296) : (⟨(Lib.decDigits n.toNat).toArray⟩ : ByteArray).size ≤ 10 := by
  show (Lib.decDigits n.toNat).toArray.size ≤ 10
  have := dec32 (n := n.toNat) (by omega)
  simpa using this
theorem words_data (F : List SpanV) : (F.map tB).map (·.data.toList) = F.map SpanV.t := by
  rw [List.map_map]
  rfl
theorem take_tB {F : List SpanV} {j : Nat} {s : SpanV} (h : F[j]? = some s) : ((F.take (j + 1)).map tB).map Value.string = ((F.take j).map tB).map Value.string ++ [.string (tB s)] := by
  rw [List.take_add_one, h]
  simp
set_option maxRecDepth 100000 in
set_option maxHeartbeats 4000000 in
theorem spText_any (L : List SpanV) (vl : Value) (w : World) (hE : Env w) (hl : Rd w w.heap.size 2 vl L.length (scells L)) (hlen : L.length ≤ 1000000) :
    Calls Tryz.prog 28 #[vl] w fun e w' => e = .returned (.string ⟨(setT (formOf L)).toArray⟩) ∧ Below w.heap.size w w' := by
  obtain ⟨i0, hi, hz0, hz1, hz2⟩ := info_parts Tryz.infoStr
  obtain ⟨A0, c0, rfl, _⟩ := hl.form
  have hform := form_any L _ w hl (by omega)
  have hFl := formOf_len L
  clear hl
  generalize formOf L = F at *
  by_cases hF : F = []
  · subst hF
    go_enter Tryz.func28, Tryz.ntmps28
    go_wp2_with fail
    refine hform.mono ?_
    rintro e w1 ⟨v1, rfl, hown, hb⟩
    obtain ⟨A1, c1, rfl, _⟩ := owns_form hown
    go_wp2
    go_ret
    exact ⟨rfl, hb⟩
  · have hpos : 0 < F.length := List.length_pos_iff.2 hF
    have hne : ((F.length : Int) == 0) = false := by simp; omega
    have HFN := Lib.hid hF
    clear hF
    go_enter Tryz.func28, Tryz.ntmps28
    go_wp2_with fail
    refine hform.mono ?_
    rintro e w1 ⟨v1, rfl, hown1, hb1⟩
    have hr1 := Rd.of_own hown1
    obtain ⟨b, off, c', rfl, hcc, hbB, hcell⟩ := hr1.posAt hpos
    have HC := Lib.hid hcell
    have hE1 := hE.below hb1
    clear hown1 hr1 hcell hform
    go_wp2
    go_loopw [4, 15] (fun v i wr => ∃ j : Nat, i = .int .i64 j ∧ j ≤ F.length ∧ wr.ownsRow w1.heap.size 9 1 v j (((F.take j).map tB).map Value.string) ∧ Below w1.heap.size w1 wr) (fun _ i _ => F.length - (intOf i).toNat)
    case atStart => exact ⟨0, rfl, by omega, World.ownsRow_nil _ _ _ _, Below.refl _ _⟩
    case round =>
      obtain ⟨j, rfl, hj, hown, hnx⟩ := hrel
      have hsz := hnx.size
      by_cases hlt : j < F.length
      · have hI : (j : Int) < (F.length : Int) := by omega
        obtain ⟨s, hs⟩ : ∃ s, F[j]? = some s := ⟨_, List.getElem?_eq_getElem hlt⟩
        have f0 : wr.cell? ⟨b, off + j * 2, none⟩ = some (.int .u32 s.lo) := (hnx.cell (p := ⟨b, off + j * 2, none⟩) hbB).trans (HC.out j 0 _ (scell hs rfl))
        have f1 : wr.cell? ⟨b, off + j * 2 + 1, none⟩ = some (.int .u32 s.hi) := (hnx.cell (p := ⟨b, off + j * 2 + 1, none⟩) hbB).trans (HC.out j 1 _ (scell hs rfl))
        have hT := Lib.hid (take_tB hs)
        have hlo := s.hlo
        have hhi := s.hhi
        have z1 := dec_size (n := s.lo) (by omega)
        have z2 := dec_size (n := s.hi) (by omega)
        have hEr := hE1.below hnx
        have kb := heap_alloc_new wr (.cells #[.int .u32 s.lo, .int .u32 s.hi] 27)
        have hbA := below1 wr (.cells #[.int .u32 s.lo, .int .u32 s.hi] 27)
        clear hs
        have hcmp : (s.lo = s.hi ∧ (s.lo != s.hi) = false) ∨ (s.lo ≠ s.hi ∧ (s.lo != s.hi) = true) := by
          by_cases h : s.lo = s.hi
          · exact .inl ⟨h, by simp [h]⟩
          · exact .inr ⟨h, by simp [h]⟩
        rcases hcmp with ⟨hc1, hc2⟩ | ⟨hc1, hc2⟩
        · have hq := Lib.hid (tB_one hc1)
          clear hc1
          have hc := Lib.hid (fun W (h : Env W) => fmtInt_any s.lo (by omega) (by omega) W h)
          generalize (⟨(Lib.decDigits s.lo.toNat).toArray⟩ : ByteArray) = q1 at *
          go_wp2_with fail
          refine (hc.out _ (hEr.below hbA)).mono ?_
          rintro e w2 ⟨rfl, hb⟩
          have kb2 := blk_below hb kb
          have hb2 := below_call hbA hb
          have own2 := owns_kept_none hown (only_of_below hb2 none)
          have nx2 := hnx.trans (hb2.mono hsz)
          have sz2 := nx2.size
          obtain ⟨x0, x1, _, _⟩ := two_cells kb2
          clear hb hb2 kb2 kb hbA hown hnx f0 f1
          go_wp2_with (at_builtin; refine wpList_push rfl _ _ 77 rfl 9 i0 _ 1 16 Tryz.underlying77 hi hz0 hz1 hz2 rfl (by decide) (by decide) [.string q1] rfl rfl (by simp) own2 rfl (one_str _) (by omega) (by omega) nx2 (Nat.le_refl _) ?_; intro v2 w3 hown2 hb3)
          refine ⟨⟨j + 1, by go_num, by omega, ?_, hb3⟩, by simp only [intOf]; omega⟩
          rw [hT.out, hq.out]
          exact hown2
        · have hq := Lib.hid (tB_two hc1)
          clear hc1
          have hc := Lib.hid (fun W (h : Env W) => fmtInt_any s.lo (by omega) (by omega) W h)
          have hd := Lib.hid (fun W (h : Env W) => fmtInt_any s.hi (by omega) (by omega) W h)
          generalize (⟨(Lib.decDigits s.lo.toNat).toArray⟩ : ByteArray) = q1 at *
          generalize (⟨(Lib.decDigits s.hi.toNat).toArray⟩ : ByteArray) = q2 at *
          go_wp2_with fail
          refine (hc.out _ (hEr.below hbA)).mono ?_
          rintro e w2 ⟨rfl, hb⟩
          have kb2 := blk_below hb kb
          have hb2 := below_call hbA hb
          obtain ⟨x0, x1, _, _⟩ := two_cells kb2
          clear hb kb hbA f0 f1
          go_wp2_with fail
          refine (hd.out _ (hEr.below hb2)).mono ?_
          rintro e w3 ⟨rfl, hb⟩
          have hb3 := below_call hb2 hb
          have own2 := owns_kept_none hown (only_of_below hb3 none)
          have nx2 := hnx.trans (hb3.mono hsz)
          have sz2 := nx2.size
          clear hb hb2 kb2 hown hnx hb3 x0 x1
          go_upto_region 11 with fail
          generalize q1 ++ (⟨#[45]⟩ ++ q2) = q3 at *
          go_wp2_with (at_builtin; refine wpList_push rfl _ _ 77 rfl 9 i0 _ 1 16 Tryz.underlying77 hi hz0 hz1 hz2 rfl (by decide) (by decide) [.string q3] rfl rfl (by simp) own2 rfl (one_str _) (by omega) (by omega) nx2 (Nat.le_refl _) ?_; intro v2 w4 hown2 hb3)
          refine ⟨⟨j + 1, by go_num, by omega, ?_, hb3⟩, by simp only [intOf]; omega⟩
          rw [hT.out, hq.out]
          exact hown2
      · obtain rfl : j = F.length := by omega
        rw [List.take_length] at hown
        have hI : ¬ (F.length : Int) < (F.length : Int) := by omega
        obtain ⟨A2, c2, rfl, hA2⟩ := owns_form hown
        obtain ⟨g, rfl⟩ := hA2 hpos
        have hg := hown.lt g rfl
        have hcc2 : F.length ≤ c2 := by
          obtain ⟨_, _, h, _⟩ := owns_block hown
          exact h
        have hlen2 : (F.map tB).length = F.length := by simp
        have hjl : (Lib.join ((F.map tB).map (·.data.toList)) [44]).length ≤ 140737488355328 := by
          rw [words_data, ← joinC_join]
          have := joinC_len F
          omega
        have hJ := Tryz.strings_Join g 0 c2 (F.map tB) ⟨#[44]⟩ wr (fun j x hj => by
          have h := hown.cells (g := g) rfl j (.string x) (by rw [List.getElem?_map, hj]; rfl)
          have e : (⟨g, 0, none⟩ : Addr).add j = ⟨g, 0 + j, none⟩ := by simp [Addr.add]; omega
          rw [← e]; exact h) hg.2 (by omega) (by omega) hjl
        rw [hlen2, show ({ data := #[44] } : ByteArray).data.toList = [44] from rfl, words_data, ← joinC_join, ← setT_cons HFN.out] at hJ
        have HJ := Lib.hid hJ
        clear hJ hown hjl hlen2
        go_wp2_with fail
        refine HJ.out.mono ?_
        rintro e w2 ⟨rfl, hb⟩
        have hbw := below_call (hb1.trans (hnx.mono hb1.size)) hb
        go_wp2
        go_ret
        exact ⟨rfl, hbw⟩
end Go.Proofs.YtmgeknghgngliaaGreatDoor

/-
  The program's Parse of a set's text (written by wip/gen/gensx2.py).
-/
namespace Go.Proofs.YtmgeknghgngliaaGreatDoor
open Go Go.RowKit Go.Lib Go.Sort

theorem pieces_count (c : UInt8) : ∀ (l : List UInt8), (pieces c l).length ≤ l.length + 1
  | [] => by simp [pieces]
  | x :: r => by
    have h := pieces_count c r
    rw [pieces]
    split
    · simp; omega
    · simp; omega
theorem setL_len (s : List UInt8) : (setL s).length ≤ s.length + 1 := by
  cases h : setP s with
  | none => rw [(set_none h).1]; simp
  | some M =>
    rw [(set_some h).1]
    obtain ⟨h1, h2⟩ := setP_form h
    by_cases hne : M = []
    · subst hne; simp
    · have := pieces_count 44 s
      rw [← h2, setT_pieces hne, List.length_map] at this
      rw [← h2]
      exact this
theorem uint32_yes (y : ByteArray) (hl : y.size < 4294967281) (u : Nat) (h : Lib.parseUintB 32 y.data.toList = .ok u) (w : World) :
    Calls Tryz.prog 44 #[.string y, .int .i64 10, .int .i64 32] w fun e w' => e = .returned (.tuple #[.int .u64 u, .nilIface]) ∧ Below w.heap.size w w' :=
  (Tryz.strconv_ParseUint_10_at32_ok y (by omega) u h w).mono fun _ _ hh => ⟨hh.1, below_of_atoi (t := 5) (hh.2.imp id fun e => ⟨_, e⟩)⟩
theorem uint32_no (y : ByteArray) (hl : y.size < 4294967281) (h : ∀ n, Lib.parseUintB 32 y.data.toList ≠ .ok n) (w : World) (hE : Env w) :
    Calls Tryz.prog 44 #[.string y, .int .i64 10, .int .i64 32] w fun e w' => (∃ (x : Int) (tq : TypeId) (vq : Value), e = .returned (.tuple #[.int .u64 x, .iface tq vq]) ∧ 0 ≤ x ∧ x < 4294967296) ∧ Below w.heap.size w w' := by
  cases hp : Lib.parseUintB 32 y.data.toList with
  | ok n => exact absurd hp (h n)
  | range =>
    obtain ⟨tp, p, hs⟩ := hE.ran
    refine (Tryz.strconv_ParseUint_10_at32_range y (by omega) hp _ w hs (Or.inr ⟨_, _, rfl⟩)).mono ?_
    rintro e w1 ⟨N, rfl, _, _, hb⟩
    exact ⟨⟨_, _, _, rfl, by omega, by omega⟩, hb⟩
  | _ =>
    obtain ⟨tp, p, hs⟩ := hE.syn
    refine (Tryz.strconv_ParseUint_10_at32_syntax y (by omega) hp _ w hs (Or.inr ⟨_, _, rfl⟩)).mono ?_
    rintro e w1 ⟨N, rfl, _, _, hb⟩
    exact ⟨⟨_, _, _, rfl, by omega, by omega⟩, hb⟩
theorem wordO_eq {w x y : List UInt8} {ok : Bool} (h : Lib.cut w [45] = (x, y, ok)) : wordO w = match Lib.parseUintB 32 x, Lib.parseUintB 32 (if ok then y else x) with
    | .ok a, .ok b => if a ≤ b ∧ (ok = true → a ≠ b) then some (a, b) else none
    | _, _ => none := by
  unfold wordO
  rw [h]
  rfl
theorem wordO_bad1 {w x y : List UInt8} {ok : Bool} (h : Lib.cut w [45] = (x, y, ok)) (h1 : ∀ n, Lib.parseUintB 32 x ≠ .ok n) : wordO w = none := by
  rw [wordO_eq h]
  split
  · rename_i e _; exact absurd e (h1 _)
  · rfl
theorem wordO_bad2 {w x y : List UInt8} {ok : Bool} (h : Lib.cut w [45] = (x, y, ok)) (h1 : ∀ n, Lib.parseUintB 32 (if ok then y else x) ≠ .ok n) : wordO w = none := by
  rw [wordO_eq h]
  split
  · rename_i e; exact absurd e (h1 _)
  · rfl
theorem wordO_bad3 {w x y : List UInt8} {ok : Bool} {a b : Nat} (h : Lib.cut w [45] = (x, y, ok)) (h1 : Lib.parseUintB 32 x = .ok a) (h2 : Lib.parseUintB 32 (if ok then y else x) = .ok b) (h3 : ¬ (a ≤ b ∧ (ok = true → a ≠ b))) : wordO w = none := by
  rw [wordO_eq h, h1, h2]
  exact if_neg h3
theorem wordO_good {w x y : List UInt8} {ok : Bool} {a b : Nat} (h : Lib.cut w [45] = (x, y, ok)) (h1 : Lib.parseUintB 32 x = .ok a) (h2 : Lib.parseUintB 32 (if ok then y else x) = .ok b) (h3 : a ≤ b ∧ (ok = true → a ≠ b)) : wordO w = some (a, b) := by
  rw [wordO_eq h, h1, h2]
  exact if_pos h3
theorem spOf_cells (M : List SpanV) {a b : Nat} (h : a ≤ b ∧ b < 4294967296) : scells (M ++ [spOf (a, b)]) = scells M ++ [.int .u32 a, .int .u32 b] := by
  obtain ⟨_, h1, h2⟩ := spOf_ok (x := (a, b)) h
  rw [scells_snoc, SpanV.enc, h1, h2]
theorem pair_one (a b : Int) : ∀ u ∈ [Value.int .u32 a, .int .u32 b], u.oneCell' = true := by
  intro u hu
  simp only [List.mem_cons, List.not_mem_nil, or_false] at hu
  rcases hu with rfl | rfl <;> rfl

set_option maxRecDepth 100000 in
set_option maxHeartbeats 4000000 in
theorem spParse_any (s : ByteArray) (w : World) (hE : Env w) (hlim : s.size < 900000) :
    Calls Tryz.prog 26 #[.string s] w fun e w' => ∃ v, e = .returned (.tuple #[v, .int .i64 (setE s.data.toList)]) ∧ w'.ownsRow w.heap.size 27 2 v (setL s.data.toList).length (scells (setL s.data.toList)) ∧ Below w.heap.size w w' := by
  obtain ⟨i0, hi, hz0, hz1, hz2⟩ := info_parts Tryz.infoSpan
  by_cases hd : s.data.toList = [45]
  · have hz := set_some (s := s.data.toList) (L := []) (by rw [hd]; exact setP_dash)
    have HZ := Lib.hid hz
    have he : (s.toList == [45]) = true := by rw [list_of, hd]; rfl
    clear hz hd
    go_enter Tryz.func26, Tryz.ntmps26
    go_wp2
    go_ret2
    refine ⟨_, by rw [HZ.out.2]; rfl, ?_, Below.refl _ _⟩
    rw [HZ.out.1]; exact owns_nil _ _ _ _
  · have he : (s.toList == [45]) = false := by rw [list_of]; simpa using hd
    have HD := Lib.hid hd
    clear hd
    obtain ⟨m, hm⟩ := hE.len
    have hP := splitB_pieces 44 s
    have hN := countB_pieces 44 s
    have hS := Tryz.strings_Split s ⟨#[44]⟩ m w (by omega) hm (by decide)
    have hl : (Lib.splitB ⟨#[44]⟩ 0 (Lib.countB s ⟨#[44]⟩) s).length = (pieces 44 s.data.toList).length := by rw [← hP, List.length_map]
    generalize hLL : Lib.splitB ⟨#[44]⟩ 0 (Lib.countB s ⟨#[44]⟩) s = L at hP hS hl
    generalize hNN : Lib.countB s ⟨#[44]⟩ + 1 = N at hN hS
    clear hLL hNN
    have hcnt := pieces_count 44 s.data.toList
    have hss : s.data.toList.length = s.size := Array.length_toList
    have HE := Lib.hid (show ∀ (k : Nat) (x : ByteArray), L[k]? = some x → (pieces 44 s.data.toList)[k]? = some x.data.toList from fun k x h => by rw [← hP, List.getElem?_map, h]; rfl)
    have HS := Lib.hid (show ∀ (k : Nat) (x : ByteArray), L[k]? = some x → x.size < 4294967281 from fun k x h => by
      have h1 : (pieces 44 s.data.toList)[k]? = some x.data.toList := by rw [← hP, List.getElem?_map, h]; rfl
      have h2 := pieces_len 44 _ _ (List.mem_of_getElem? h1)
      have e2 : x.data.toList.length = x.size := Array.length_toList
      omega)
    have hb0 : Below w.heap.size w (w.alloc (.cells (L.map Value.string).toArray 9)) := (Below.refl _ _).alloc (Nat.le_refl _) _
    have hE0 := hE.below hb0
    have hk0 := heap_alloc_new w (.cells (L.map Value.string).toArray 9)
    have HN := Lib.hid hN
    have hLN : L.length = N := by omega
    have hN2 : N ≤ 900000 := by omega
    have hst := Lib.hid (rinv_start readL (pieces 44 s.data.toList))
    clear hP hN hl hcnt hss hm
    generalize hW : w.alloc (.cells (L.map Value.string).toArray 9) = W at hb0 hE0 hk0 hS
    clear hW
    generalize hPP : pieces 44 s.data.toList = P at HE HN hst
    have HPP := Lib.hid hPP
    clear hPP
    go_enter Tryz.func26, Tryz.ntmps26
    go_wp2_with fail
    refine hS.mono ?_
    rintro e w1 ⟨rfl, rfl⟩
    go_wp2
    go_loopw [4, 19] (fun v i wr => ∃ (j : Nat) (M : List SpanV), i = .int .i64 j ∧ j ≤ N ∧ M.length ≤ j ∧ wr.ownsRow w1.heap.size 27 2 v M.length (scells M) ∧ Hid (RInv readL P (P.drop j) M) ∧ Below w1.heap.size w1 wr) (fun _ i _ => N - (intOf i).toNat)
    case atStart => exact ⟨0, [], rfl, by omega, by simp, World.ownsRow_nil _ _ _ _, hst, Below.refl _ _⟩
    case round =>
      obtain ⟨j, M, rfl, hj, hMj, hown, hR, hnx⟩ := hrel
      clear hst
      have hsz := hnx.size
      have hEr := hE0.below hnx
      by_cases hlt : j < N
      · have hI : (j : Int) < (N : Int) := by omega
        obtain ⟨x, hx⟩ : ∃ x, L[j]? = some x := ⟨_, List.getElem?_eq_getElem (by omega)⟩
        have hc := cells_str (blk_below (hnx.mono (Nat.le_refl _)) hk0) hx
        have hxs := HS.out j x hx
        have hdr : P.drop j = x.data.toList :: P.drop (j + 1) := by
          obtain ⟨hj', e⟩ := List.getElem?_eq_some_iff.1 (HE.out j x hx)
          rw [List.drop_eq_getElem_cons hj', e]
        have hR' := hR.out
        rw [hdr] at hR'
        have HR := Lib.hid hR'
        clear hR hR' hdr hx
        generalize hX : Lib.cut x.data.toList [45] = X
        obtain ⟨lo, hi', two⟩ := X
        have HX := Lib.hid hX
        have hxl : x.data.toList.length = x.size := Array.length_toList
        have ll : lo.length ≤ x.size := by have := cut_fst_len x.data.toList [45]; rw [hX] at this; dsimp only at this; omega
        have lh : hi'.length ≤ x.size := by have := cut_snd_len x.data.toList [45]; rw [hX] at this; dsimp only at this; omega
        have sl : (⟨lo.toArray⟩ : ByteArray).size < 4294967281 := by show lo.length < _; omega
        have sh : (⟨hi'.toArray⟩ : ByteArray).size < 4294967281 := by show hi'.length < _; omega
        obtain ⟨m, hm⟩ := hEr.len
        have hC := Tryz.strings_Cut x ⟨#[45]⟩ m wr (by omega) hm
        rw [show ({ data := #[45] } : ByteArray).data.toList = [45] from rfl, hX] at hC
        dsimp only at hC
        clear hX hm hxl ll lh
        have HC := Lib.hid hC
        clear hC
        go_wp2_with fail
        refine HC.out.mono ?_
        rintro e w2 ⟨rfl, nq, rfl⟩
        have hnx2 : Below w1.heap.size w1 (wr.drewN nq) := below_drewN hnx nq
        have hown2 : (wr.drewN nq).ownsRow w1.heap.size 27 2 _ M.length (scells M) := owns_kept_none hown (only_drewN (World.grownBy.refl wr none) nq)
        have hE2 := hE0.below hnx2
        clear hnx hown hEr HC hc hsz
        generalize wr.drewN nq = W2 at *
        cases two with
        | false =>
          by_cases ha : ∃ a, Lib.parseUintB 32 lo = .ok a
          · obtain ⟨a, ha⟩ := ha
            go_wp2_with fail
            refine (uint32_yes ⟨lo.toArray⟩ sl a ha W2).mono ?_
            rintro e w3 ⟨rfl, hb⟩
            have hnx3 := hnx2.trans (hb.mono hnx2.size)
            have hown3 := owns_kept_none hown2 (only_of_below hb none)
            have hE3 := hE0.below hnx3
            clear hb hnx2 hown2 hE2
            by_cases hb' : ∃ b, Lib.parseUintB 32 lo = .ok b
            · obtain ⟨b, hb'⟩ := hb'
              go_wp2_with fail
              refine (uint32_yes ⟨lo.toArray⟩ sl b hb' w3).mono ?_
              rintro e w4 ⟨rfl, hb⟩
              have hnx4 := hnx3.trans (hb.mono hnx3.size)
              have hown4 := owns_kept_none hown3 (only_of_below hb none)
              clear hb hnx3 hown3 hE3
              have hal := uint32_le ha
              have hbl := uint32_le hb'
              by_cases hab : a ≤ b
              · have d1 : ¬ (a : Int) > (b : Int) := by omega
                have d2 : decide ((b : Int) < (a : Int)) = false := by simp; omega
                have hw := Lib.hid (wordO_good HX.out ha hb' ⟨hab, (by first | (intro h; cases h; done) | (intro _; exact hne))⟩)
                have hcl := Lib.hid (spOf_cells M ⟨hab, hbl⟩)
                have hRn := Lib.hid (rinvL_next HR.out hw.out)
                have c1 : (a : Int) % 4294967296 = a := by omega
                have c2 : (b : Int) % 4294967296 = b := by omega
                have sz4 := hnx4.size
                clear HR hw HX
                go_wp2_with (at_builtin; refine wpList_push rfl _ _ 59 rfl 27 i0 _ 2 8 Tryz.underlying59 hi hz0 hz1 hz2 rfl (by decide) (by decide) [.int .u32 a, .int .u32 b] rfl rfl (by simp) hown4 rfl (pair_one a b) (by omega) (by omega) hnx4 (Nat.le_refl _) ?_; intro v2 w5 hown5 hb5)
                refine ⟨⟨j + 1, M ++ [spOf (a, b)], by go_num, by omega, by simp; omega, ?_, hRn, hb5⟩, by simp only [intOf]; omega⟩
                rw [hcl.out, List.length_append]
                exact hown5
              · have d1 : (a : Int) > (b : Int) := by omega
                have d2 : decide ((b : Int) < (a : Int)) = true := by simp; omega
                have hz := Lib.hid (set_none (setP_bad HD.out (by rw [HPP.out]; exact rinvL_bad HR.out (wordO_bad3 HX.out ha hb' (fun h => hab h.1)))))
                go_wp2
                go_ret2
                refine ⟨_, by rw [hz.out.2]; rfl, ?_, hb0.trans (hnx4.mono hb0.size)⟩
                rw [hz.out.1]
                exact owns_nil _ _ _ _
            · have hb' : ∀ n, Lib.parseUintB 32 (⟨lo.toArray⟩ : ByteArray).data.toList ≠ .ok n := fun n e => hb' ⟨n, e⟩
              go_wp2_with fail
              refine (uint32_no ⟨lo.toArray⟩ sl hb' w3 hE3).mono ?_
              rintro e w4 ⟨⟨xb, tb, qb, rfl, gb0, gb1⟩, hb⟩
              have hnx4 := hnx3.trans (hb.mono hnx3.size)
              have hown4 := owns_kept_none hown3 (only_of_below hb none)
              clear hb hnx3 hown3 hE3
              have hz := Lib.hid (set_none (setP_bad HD.out (by rw [HPP.out]; exact rinvL_bad HR.out (wordO_bad2 HX.out hb'))))
              go_wp2
              go_ret2
              refine ⟨_, by rw [hz.out.2]; rfl, ?_, hb0.trans (hnx4.mono hb0.size)⟩
              rw [hz.out.1]
              exact owns_nil _ _ _ _
          · have ha : ∀ n, Lib.parseUintB 32 (⟨lo.toArray⟩ : ByteArray).data.toList ≠ .ok n := fun n e => ha ⟨n, e⟩
            go_wp2_with fail
            refine (uint32_no ⟨lo.toArray⟩ sl ha W2 hE2).mono ?_
            rintro e w3 ⟨⟨xa, ta, qa, rfl, ga0, ga1⟩, hb⟩
            have hnx3 := hnx2.trans (hb.mono hnx2.size)
            have hown3 := owns_kept_none hown2 (only_of_below hb none)
            have hE3 := hE0.below hnx3
            clear hb hnx2 hown2 hE2
            by_cases hb' : ∃ b, Lib.parseUintB 32 lo = .ok b
            · obtain ⟨b, hb'⟩ := hb'
              go_wp2_with fail
              refine (uint32_yes ⟨lo.toArray⟩ sl b hb' w3).mono ?_
              rintro e w4 ⟨rfl, hb⟩
              have hnx4 := hnx3.trans (hb.mono hnx3.size)
              have hown4 := owns_kept_none hown3 (only_of_below hb none)
              clear hb hnx3 hown3 hE3
              have hz := Lib.hid (set_none (setP_bad HD.out (by rw [HPP.out]; exact rinvL_bad HR.out (wordO_bad1 HX.out ha))))
              go_wp2
              go_ret2
              refine ⟨_, by rw [hz.out.2]; rfl, ?_, hb0.trans (hnx4.mono hb0.size)⟩
              rw [hz.out.1]
              exact owns_nil _ _ _ _
            · have hb' : ∀ n, Lib.parseUintB 32 (⟨lo.toArray⟩ : ByteArray).data.toList ≠ .ok n := fun n e => hb' ⟨n, e⟩
              go_wp2_with fail
              refine (uint32_no ⟨lo.toArray⟩ sl hb' w3 hE3).mono ?_
              rintro e w4 ⟨⟨xb, tb, qb, rfl, gb0, gb1⟩, hb⟩
              have hnx4 := hnx3.trans (hb.mono hnx3.size)
              have hown4 := owns_kept_none hown3 (only_of_below hb none)
              clear hb hnx3 hown3 hE3
              have hz := Lib.hid (set_none (setP_bad HD.out (by rw [HPP.out]; exact rinvL_bad HR.out (wordO_bad1 HX.out ha))))
              go_wp2
              go_ret2
              refine ⟨_, by rw [hz.out.2]; rfl, ?_, hb0.trans (hnx4.mono hb0.size)⟩
              rw [hz.out.1]
              exact owns_nil _ _ _ _
        | true =>
          by_cases ha : ∃ a, Lib.parseUintB 32 lo = .ok a
          · obtain ⟨a, ha⟩ := ha
            go_wp2_with fail
            refine (uint32_yes ⟨lo.toArray⟩ sl a ha W2).mono ?_
            rintro e w3 ⟨rfl, hb⟩
            have hnx3 := hnx2.trans (hb.mono hnx2.size)
            have hown3 := owns_kept_none hown2 (only_of_below hb none)
            have hE3 := hE0.below hnx3
            clear hb hnx2 hown2 hE2
            by_cases hb' : ∃ b, Lib.parseUintB 32 hi' = .ok b
            · obtain ⟨b, hb'⟩ := hb'
              go_wp2_with fail
              refine (uint32_yes ⟨hi'.toArray⟩ sh b hb' w3).mono ?_
              rintro e w4 ⟨rfl, hb⟩
              have hnx4 := hnx3.trans (hb.mono hnx3.size)
              have hown4 := owns_kept_none hown3 (only_of_below hb none)
              clear hb hnx3 hown3 hE3
              have hal := uint32_le ha
              have hbl := uint32_le hb'
              by_cases hab : a ≤ b
              · have d1 : ¬ (a : Int) > (b : Int) := by omega
                have d2 : decide ((b : Int) < (a : Int)) = false := by simp; omega
                by_cases hne : a ≠ b
                · have d3 : ((a : Int) == (b : Int)) = false := by simp; omega
                  have hw := Lib.hid (wordO_good HX.out ha hb' ⟨hab, (by first | (intro h; cases h; done) | (intro _; exact hne))⟩)
                  have hcl := Lib.hid (spOf_cells M ⟨hab, hbl⟩)
                  have hRn := Lib.hid (rinvL_next HR.out hw.out)
                  have c1 : (a : Int) % 4294967296 = a := by omega
                  have c2 : (b : Int) % 4294967296 = b := by omega
                  have sz4 := hnx4.size
                  clear HR hw HX
                  go_wp2_with (at_builtin; refine wpList_push rfl _ _ 59 rfl 27 i0 _ 2 8 Tryz.underlying59 hi hz0 hz1 hz2 rfl (by decide) (by decide) [.int .u32 a, .int .u32 b] rfl rfl (by simp) hown4 rfl (pair_one a b) (by omega) (by omega) hnx4 (Nat.le_refl _) ?_; intro v2 w5 hown5 hb5)
                  refine ⟨⟨j + 1, M ++ [spOf (a, b)], by go_num, by omega, by simp; omega, ?_, hRn, hb5⟩, by simp only [intOf]; omega⟩
                  rw [hcl.out, List.length_append]
                  exact hown5
                · have d3 : ((a : Int) == (b : Int)) = true := by simp; omega
                  have hz := Lib.hid (set_none (setP_bad HD.out (by rw [HPP.out]; exact rinvL_bad HR.out (wordO_bad3 HX.out ha hb' (fun h => hne (h.2 rfl))))))
                  go_wp2
                  go_ret2
                  refine ⟨_, by rw [hz.out.2]; rfl, ?_, hb0.trans (hnx4.mono hb0.size)⟩
                  rw [hz.out.1]
                  exact owns_nil _ _ _ _
              · have d1 : (a : Int) > (b : Int) := by omega
                have d2 : decide ((b : Int) < (a : Int)) = true := by simp; omega
                have hz := Lib.hid (set_none (setP_bad HD.out (by rw [HPP.out]; exact rinvL_bad HR.out (wordO_bad3 HX.out ha hb' (fun h => hab h.1)))))
                go_wp2
                go_ret2
                refine ⟨_, by rw [hz.out.2]; rfl, ?_, hb0.trans (hnx4.mono hb0.size)⟩
                rw [hz.out.1]
                exact owns_nil _ _ _ _
            · have hb' : ∀ n, Lib.parseUintB 32 (⟨hi'.toArray⟩ : ByteArray).data.toList ≠ .ok n := fun n e => hb' ⟨n, e⟩
              go_wp2_with fail
              refine (uint32_no ⟨hi'.toArray⟩ sh hb' w3 hE3).mono ?_
              rintro e w4 ⟨⟨xb, tb, qb, rfl, gb0, gb1⟩, hb⟩
              have hnx4 := hnx3.trans (hb.mono hnx3.size)
              have hown4 := owns_kept_none hown3 (only_of_below hb none)
              clear hb hnx3 hown3 hE3
              have hz := Lib.hid (set_none (setP_bad HD.out (by rw [HPP.out]; exact rinvL_bad HR.out (wordO_bad2 HX.out hb'))))
              go_wp2
              go_ret2
              refine ⟨_, by rw [hz.out.2]; rfl, ?_, hb0.trans (hnx4.mono hb0.size)⟩
              rw [hz.out.1]
              exact owns_nil _ _ _ _
          · have ha : ∀ n, Lib.parseUintB 32 (⟨lo.toArray⟩ : ByteArray).data.toList ≠ .ok n := fun n e => ha ⟨n, e⟩
            go_wp2_with fail
            refine (uint32_no ⟨lo.toArray⟩ sl ha W2 hE2).mono ?_
            rintro e w3 ⟨⟨xa, ta, qa, rfl, ga0, ga1⟩, hb⟩
            have hnx3 := hnx2.trans (hb.mono hnx2.size)
            have hown3 := owns_kept_none hown2 (only_of_below hb none)
            have hE3 := hE0.below hnx3
            clear hb hnx2 hown2 hE2
            by_cases hb' : ∃ b, Lib.parseUintB 32 hi' = .ok b
            · obtain ⟨b, hb'⟩ := hb'
              go_wp2_with fail
              refine (uint32_yes ⟨hi'.toArray⟩ sh b hb' w3).mono ?_
              rintro e w4 ⟨rfl, hb⟩
              have hnx4 := hnx3.trans (hb.mono hnx3.size)
              have hown4 := owns_kept_none hown3 (only_of_below hb none)
              clear hb hnx3 hown3 hE3
              have hz := Lib.hid (set_none (setP_bad HD.out (by rw [HPP.out]; exact rinvL_bad HR.out (wordO_bad1 HX.out ha))))
              go_wp2
              go_ret2
              refine ⟨_, by rw [hz.out.2]; rfl, ?_, hb0.trans (hnx4.mono hb0.size)⟩
              rw [hz.out.1]
              exact owns_nil _ _ _ _
            · have hb' : ∀ n, Lib.parseUintB 32 (⟨hi'.toArray⟩ : ByteArray).data.toList ≠ .ok n := fun n e => hb' ⟨n, e⟩
              go_wp2_with fail
              refine (uint32_no ⟨hi'.toArray⟩ sh hb' w3 hE3).mono ?_
              rintro e w4 ⟨⟨xb, tb, qb, rfl, gb0, gb1⟩, hb⟩
              have hnx4 := hnx3.trans (hb.mono hnx3.size)
              have hown4 := owns_kept_none hown3 (only_of_below hb none)
              clear hb hnx3 hown3 hE3
              have hz := Lib.hid (set_none (setP_bad HD.out (by rw [HPP.out]; exact rinvL_bad HR.out (wordO_bad1 HX.out ha))))
              go_wp2
              go_ret2
              refine ⟨_, by rw [hz.out.2]; rfl, ?_, hb0.trans (hnx4.mono hb0.size)⟩
              rw [hz.out.1]
              exact owns_nil _ _ _ _
      · obtain rfl : j = N := by omega
        have hI : ¬ (j : Int) < (j : Int) := by omega
        have hR' := hR.out
        rw [HN.out, List.drop_length] at hR'
        have hrd := rinvL_end hR'
        have hok := read_ok hrd
        have HRD := Lib.hid hrd
        have HOK := Lib.hid hok
        have hT := spText_any M _ wr hEr (Rd.of_own hown) (by omega)
        clear hR hR' hrd hok
        by_cases heq : setT (formOf M) = s.data.toList
        · have hz := Lib.hid (set_some (setP_yes HD.out (by rw [HPP.out]; exact HRD.out) HOK.out heq))
          have hq : ((⟨(setT (formOf M)).toArray⟩ : ByteArray).toList == s.toList) = true := by rw [list_of, list_of]; simp [heq]
          generalize (⟨(setT (formOf M)).toArray⟩ : ByteArray) = q at *
          clear heq
          have HT := Lib.hid hT
          clear hT
          go_wp2_with fail
          refine HT.out.mono ?_
          rintro e w2 ⟨rfl, hb⟩
          have hnx2 := hnx.trans (hb.mono hnx.size)
          have hown2 := owns_kept_none hown (only_of_below hb none)
          go_wp2
          go_ret2
          refine ⟨_, by rw [hz.out.2]; rfl, ?_, hb0.trans (hnx2.mono hb0.size)⟩
          rw [hz.out.1]
          exact owns_base hown2 hb0.size
        · have hz := Lib.hid (set_none (setP_ne HD.out (by rw [HPP.out]; exact HRD.out) HOK.out heq))
          have hq : ((⟨(setT (formOf M)).toArray⟩ : ByteArray).toList == s.toList) = false := by rw [list_of, list_of]; simpa using heq
          generalize (⟨(setT (formOf M)).toArray⟩ : ByteArray) = q at *
          clear heq
          have HT := Lib.hid hT
          clear hT
          go_wp2_with fail
          refine HT.out.mono ?_
          rintro e w2 ⟨rfl, hb⟩
          have hnx2 := hnx.trans (hb.mono hnx.size)
          go_wp2
          go_ret2
          refine ⟨_, by rw [hz.out.2]; rfl, ?_, hb0.trans (hnx2.mono hb0.size)⟩
          rw [hz.out.1]
          exact owns_nil _ _ _ _
end Go.Proofs.YtmgeknghgngliaaGreatDoor

/-
  Walks over the document's addresses: digits, Number, Read.
-/
namespace Go.Proofs.YtmgeknghgngliaaGreatDoor
open Go Go.RowKit Go.Sort

theorem conv_one (w : World) (x : Int) (h0 : 0 ≤ x) (h1 : x < 256) : (convert 123 9 (.slice (some ⟨w.heap.size, 0, none⟩) 1 1)).run Tryz.prog (w.alloc (.cells #[.int .u8 x] 5)) = .ok (.string ⟨#[UInt8.ofNat x.toNat]⟩) (w.alloc (.cells #[.int .u8 x] 5)) := by
  have h := run_convert_bytes_back (P := Tryz.prog) (w.alloc (.cells #[.int .u8 x] 5)) 123 9 5 ⟨w.heap.size, 0, none⟩ 1 [UInt8.ofNat x.toNat] Tryz.underlying123 Tryz.underlying5 Tryz.underlying9 (fun j hj => by
    simp at hj
    subst hj
    have e : ((UInt8.ofNat x.toNat).toNat : Int) = x := by simp; omega
    have e2 : (⟨w.heap.size, 0, none⟩ : Addr).add 0 = ⟨w.heap.size, 0, none⟩ := rfl
    rw [e2, cell_of_row _ _ _ _ _ _ (heap_alloc_new w _)]
    simp only [List.getElem_cons_zero, e]
    rfl)
  exact h
theorem dec_len : ∀ (k n : Nat), n < 10 ^ (k + 1) → (Lib.decDigits n).length ≤ k + 1
  | 0, n, h => by rw [decDigits_small (by simpa using h)]; simp
  | k + 1, n, h => by
    by_cases h9 : n < 10
    · rw [decDigits_small h9]; simp
    · rw [decDigits_big h9, List.length_append]
      have := dec_len k (n / 10) (by rw [Nat.pow_succ] at h; omega)
      simp; omega
theorem dec_push {k n : Nat} {t : ByteArray} (h9 : 9 < k) (h : Lib.decDigits k ++ t.data.toList = Lib.decDigits n) : Lib.decDigits (k / 10) ++ ((⟨#[UInt8.ofNat (48 + k % 10)]⟩ : ByteArray) ++ t).data.toList = Lib.decDigits n := by
  rw [← h, decDigits_big (n := k) (by omega)]
  simp [ByteArray.data_append]
theorem dec_last {k n : Nat} {t : ByteArray} (h9 : ¬ 9 < k) (h : Lib.decDigits k ++ t.data.toList = Lib.decDigits n) : (⟨#[UInt8.ofNat (48 + k)]⟩ : ByteArray) ++ t = ⟨(Lib.decDigits n).toArray⟩ := by
  apply byte_ext
  show _ = Lib.decDigits n
  rw [← h, decDigits_small (by omega)]
  simp [ByteArray.data_append]
theorem size_le_of {k n : Nat} {t : ByteArray} (hn : n < 18446744073709551616) (h : Lib.decDigits k ++ t.data.toList = Lib.decDigits n) : t.size ≤ 20 := by
  have h1 := dec_len 19 n (Nat.lt_of_lt_of_le hn (by decide))
  rw [← h, List.length_append] at h1
  have e : t.size = t.data.toList.length := (Array.length_toList).symm
  rw [e]; omega
theorem dig_wrap (d : Int) (h0 : 0 ≤ d) (h1 : d < 10) : IntKind.u64.wrap (48 + d) = 48 + d ∧ (48 + d) % 256 = 48 + d := by
  refine ⟨?_, by omega⟩
  simp [IntKind.wrap, IntKind.bits, IntKind.signed]
  omega
set_option maxRecDepth 100000 in
set_option maxHeartbeats 1000000 in
theorem digits_any (n : Int) (w : World) (h0 : 0 ≤ n) (hn : Hid (n < 18446744073709551616)) :
    Calls Tryz.prog 90 #[.int .u64 n] w fun e w' => e = .returned (.string ⟨(Lib.decDigits n.toNat).toArray⟩) ∧ Below w.heap.size w w' := by
  go_enter Tryz.func90, Tryz.ntmps90
  go_wp2
  go_loopw [0, 3] (fun m s wr => ∃ (k : Int) (t : ByteArray), m = .int .u64 k ∧ s = .string t ∧ 0 ≤ k ∧ Hid (k < 18446744073709551616) ∧ Hid (Lib.decDigits k.toNat ++ t.data.toList = Lib.decDigits n.toNat) ∧ Below w.heap.size w wr) (fun m _ _ => (intOf m).toNat)
  case atStart => exact ⟨n, ⟨#[]⟩, rfl, rfl, h0, hn, Lib.hid (by simp), Below.refl _ _⟩
  case round =>
    obtain ⟨k, t, rfl, rfl, hk, hk2, hd, hb⟩ := hrel
    have hts := size_le_of (by have := hn.out; omega) hd.out
    by_cases h9 : 9 < k
    · have hI : k > 9 := h9
      go_upto_region 3 with fail
      have d0 : 0 ≤ k % 10 := by omega
      have d1 : k % 10 < 10 := by omega
      have e1 : k.tmod 10 = k % 10 := by rw [Int.tmod_eq_emod_of_nonneg hk]
      obtain ⟨e2, e3⟩ := dig_wrap (k % 10) d0 d1
      have e4 : k.tdiv 10 = k / 10 := Int.tdiv_eq_ediv_of_nonneg hk
      have hc := conv_one wr (48 + k % 10) (by omega) (by omega)
      rw [show (48 + k % 10).toNat = 48 + k.toNat % 10 by omega] at hc
      have hd2 := Lib.hid (dec_push (k := k.toNat) (by omega) hd.out)
      have hk3 := Lib.hid (show k / 10 < 18446744073709551616 by have := hk2.out; omega)
      have hw1 : IntKind.u64.wrap (k / 10) = k / 10 := by
        have := hk2.out
        simp [IntKind.wrap, IntKind.bits, IntKind.signed]; omega
      have hb2 := hb.alloc hb.size (.cells #[.int .u8 (48 + k % 10)] 5)
      generalize hx : UInt8.ofNat (48 + k.toNat % 10) = x at *
      clear hI hd hk2 hx
      go_wp2
      refine ⟨⟨k / 10, _, rfl, rfl, by omega, hk3, ?_, hb2⟩, by simp only [intOf]; omega⟩
      rw [show (k / 10).toNat = k.toNat / 10 by omega]
      exact hd2
    · have hI : ¬ k > 9 := h9
      go_upto_region 5 with fail
      obtain ⟨e2, e3⟩ := dig_wrap k hk (by omega)
      have hc := conv_one wr (48 + k) (by omega) (by omega)
      rw [show (48 + k).toNat = 48 + k.toNat by omega] at hc
      have hd2 := Lib.hid (dec_last (k := k.toNat) (by omega) hd.out)
      have hb2 := hb.alloc hb.size (.cells #[.int .u8 (48 + k)] 5)
      generalize hx : UInt8.ofNat (48 + k.toNat) = x at *
      clear hI hd hk2 hx
      go_wp2
      go_ret
      exact ⟨by rw [← hd2.out]; rfl, hb2⟩
end Go.Proofs.YtmgeknghgngliaaGreatDoor

/-
  Walks over the document's addresses: Number, Text, PrefixText.
-/
namespace Go.Proofs.YtmgeknghgngliaaGreatDoor
open Go Go.RowKit Go.Sort

set_option maxRecDepth 100000 in
set_option maxHeartbeats 1000000 in
theorem refNumber_any (n : Int) (w : World) (h0 : -9223372036854775808 ≤ n) (h1 : n ≤ 9223372036854775807) :
    Calls Tryz.prog 39 #[.int .i64 n] w fun e w' => e = .returned (.string ⟨(Lib.itoa n).toArray⟩) ∧ Below w.heap.size w w' := by
  have hl := Lib.itoa_length_le n h0 h1
  by_cases hn : n < 0
  · have e1 : wrap64 (n + 1) = n + 1 := by unfold wrap64; omega
    have e2 : wrap64 (-(n + 1)) = -(n + 1) := by unfold wrap64; omega
    have e3 : IntKind.u64.wrap (-(n + 1)) = -(n + 1) := by simp [IntKind.wrap, IntKind.bits, IntKind.signed]; omega
    have e4 : IntKind.u64.wrap (-(n + 1) + 1) = -n := by simp [IntKind.wrap, IntKind.bits, IntKind.signed]; omega
    have HD := Lib.hid (fun v => digits_any (-n) v (by omega) (Lib.hid (by omega)))
    have hi : Lib.itoa n = 45 :: Lib.decDigits (-n).toNat := by
      unfold Lib.itoa
      rw [if_pos hn, show n.natAbs = (-n).toNat by omega]
    have hz : (Lib.decDigits (-n).toNat).length ≤ 21 := by rw [hi] at hl; simp at hl; omega
    have HI := Lib.hid hi
    have hneg : n < 0 := hn
    clear h0 h1 hl hi hn
    go_enter Tryz.func39, Tryz.ntmps39
    go_wp2_with fail
    refine (HD.out _).mono ?_
    rintro e w1 ⟨rfl, hb⟩
    go_wp2
    go_ret
    exact ⟨by rw [HI.out]; exact congrArg (fun x => Ending.returned (.string x)) (byte_ext (by simp [ByteArray.data_append])), hb⟩
  · have HD := Lib.hid (fun v => digits_any n v (by omega) (Lib.hid (by omega)))
    have hi := Lib.hid (show Lib.itoa n = Lib.decDigits n.toNat by unfold Lib.itoa; rw [if_neg hn])
    have e1 : IntKind.u64.wrap n = n := by simp [IntKind.wrap, IntKind.bits, IntKind.signed]; omega
    clear h0 h1
    go_enter Tryz.func39, Tryz.ntmps39
    go_wp2_with fail
    refine (HD.out _).mono ?_
    rintro e w1 ⟨rfl, hb⟩
    go_wp2
    go_ret
    exact ⟨by rw [hi.out]; rfl, hb⟩

theorem refNum_oct (a k : Nat) (v : World) : Calls Tryz.prog 39 #[.int .i64 (octet a k)] v fun e w' => e = .returned (.string ⟨(dec3 (octet a k)).toArray⟩) ∧ Below v.heap.size v w' := by
  have h0 := octet_lt a k
  have h := refNumber_any (octet a k) v (by omega) (by omega)
  rw [show Lib.itoa (octet a k : Int) = Lib.decDigits (octet a k) by unfold Lib.itoa; rw [if_neg (by omega), Int.toNat_natCast], dec3_eq (by omega)] at h
  exact h
set_option maxRecDepth 100000 in
set_option maxHeartbeats 2000000 in
theorem refText_any (a : Nat) (ha : a < 4294967296) (w : World) :
    Calls Tryz.prog 60 #[.int .u32 a] w fun e w' => e = .returned (.string (textA a)) ∧ Below w.heap.size w w' := by
  have i0 : (a : Int) / 16777216 = (octet a 0 : Int) := by unfold octet; simp only [Nat.reduceSub, Nat.reducePow]; omega
  have i1 : (a : Int) / 65536 % 256 = (octet a 1 : Int) := by unfold octet; simp only [Nat.reduceSub, Nat.reducePow]; omega
  have i2 : (a : Int) / 256 % 256 = (octet a 2 : Int) := by unfold octet; simp only [Nat.reduceSub, Nat.reducePow]; omega
  have i3 : (a : Int) % 256 = (octet a 3 : Int) := by unfold octet; simp only [Nat.reduceSub, Nat.pow_zero, Nat.div_one]; omega
  have n0 := Lib.hid (refNum_oct a 0)
  have n1 := Lib.hid (refNum_oct a 1)
  have n2 := Lib.hid (refNum_oct a 2)
  have n3 := Lib.hid (refNum_oct a 3)
  have z0 := dec3_len (octet a 0)
  have z1 := dec3_len (octet a 1)
  have z2 := dec3_len (octet a 2)
  have z3 := dec3_len (octet a 3)
  have hT := Lib.hid (textA_eq a)
  generalize dec3 (octet a 0) = x0 at *
  generalize dec3 (octet a 1) = x1 at *
  generalize dec3 (octet a 2) = x2 at *
  generalize dec3 (octet a 3) = x3 at *
  go_enter Tryz.func60, Tryz.ntmps60
  go_wp2_with fail
  refine (n0.out _).mono ?_
  rintro e w1 ⟨rfl, hb1⟩
  go_wp2_with fail
  refine (n1.out _).mono ?_
  rintro e w2 ⟨rfl, hb2⟩
  go_wp2_with fail
  refine (n2.out _).mono ?_
  rintro e w3 ⟨rfl, hb3⟩
  go_wp2_with fail
  refine (n3.out _).mono ?_
  rintro e w4 ⟨rfl, hb4⟩
  have hb := ((hb1.trans (hb2.mono hb1.size)).trans (hb3.mono (Nat.le_trans hb1.size hb2.size))).trans (hb4.mono (Nat.le_trans (Nat.le_trans hb1.size hb2.size) hb3.size))
  clear hb1 hb2 hb3 hb4
  go_wp2
  go_ret
  exact ⟨by rw [hT.out]; exact congrArg (fun x => Ending.returned (.string x)) (byte_ext (by simp [ByteArray.data_append])), hb⟩

set_option maxHeartbeats 1000000 in
theorem refPrefixText_any (a : Nat) (n : Int) (ha : a < 4294967296) (h0 : -9223372036854775808 ≤ n) (h1 : n ≤ 9223372036854775807) (w : World) :
    Calls Tryz.prog 40 #[.agg #[.int .u32 a, .int .i64 n]] w fun e w' => e = .returned (.string (textP a n)) ∧ Below w.heap.size w w' := by
  have hZ := textA_size a
  have hI := Lib.itoa_length_le n h0 h1
  go_enter Tryz.func40, Tryz.ntmps40
  go_wp2
  have c0 : (w.alloc (.cells #[.int .u32 a, .int .i64 n] 25)).cell? ⟨w.heap.size, 0, none⟩ = some (.int .u32 a) := by simp
  have c1 : (w.alloc (.cells #[.int .u32 a, .int .i64 n] 25)).cell? ⟨w.heap.size, 1, none⟩ = some (.int .i64 n) := by simp
  have hbW : Below w.heap.size w (w.alloc (.cells #[.int .u32 a, .int .i64 n] 25)) := (Below.refl _ _).alloc (Nat.le_refl _) _
  generalize w.alloc (.cells #[.int .u32 a, .int .i64 n] 25) = W at *
  have F0 := cell_regrown c0
  have F1 := cell_regrown c1
  refine wp_region_quiet_below (by kernel_rfl) (by kernel_rfl) ?_
  repeat (first | go_big_quiet_step ((first | (go_at_call 60; exact Calls.regrown_of (refText_any _ (by omega) _)) | (go_at_call 39; exact Calls.regrown_of (refNumber_any _ _ (by omega) (by omega))))) | quiet_step ((first | (go_at_call 60; exact Calls.regrown_of (refText_any _ (by omega) _)) | (go_at_call 39; exact Calls.regrown_of (refNumber_any _ _ (by omega) (by omega))))))
  refine wpQuiet_nil ?_
  intro _ hw'
  obtain ⟨⟨nq, osq⟩, hw''⟩ := hw'
  subst hw''
  go_wp2
  go_ret
  exact ⟨rfl, (hbW.trans ((below_regrown W nq osq).mono hbW.size))⟩
end Go.Proofs.YtmgeknghgngliaaGreatDoor

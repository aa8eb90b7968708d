/-
  Joined texts: Sp10, SxT, Sp11, LawSpNames.
-/
import Derived.Test.YthgmmajoinkblaaDoorMSpansNames7
import Derived.Test.YthgmmajoinkblaaDoorMSpansNames13
import Derived.Test.YthgmmajoinkblaaDoorMSpansNames8
import Derived.Laws.OwnMore
/-
  The walks of the document's Form, Or, And, Less and Not, and of Concat and Or of the program.
-/
namespace Go.Proofs.YthgmmajoinkblaaDoor
open Go Go.RowKit Go.Lib Go.Sort

theorem hasB_range {L : List SpanV} {x : Int} (h : hasB L x = true) : 0 ≤ x ∧ x ≤ 4294967295 := by
  obtain ⟨s, _, h1, h2⟩ := hasB_iff.1 h
  have := s.hlo
  have := s.hhi
  omega
theorem soP_or (L M : List SpanV) : soP 1 4294967295 L M = fun x => hasB L x || hasB M x := by
  funext x
  have e : soP 1 4294967295 L M x = (decide (0 ≤ x) && decide (x ≤ 4294967295) && (hasB L x || hasB M x)) := rfl
  rw [e]
  cases h : (hasB L x || hasB M x) with
  | false => simp
  | true =>
    rcases Bool.or_eq_true_iff.1 h with h | h
    · have := hasB_range h; simp [this]
    · have := hasB_range h; simp [this]
theorem soP_and (L M : List SpanV) : soP 2 4294967295 L M = fun x => hasB L x && hasB M x := by
  funext x
  have e : soP 2 4294967295 L M x = (decide (0 ≤ x) && decide (x ≤ 4294967295) && (hasB L x && hasB M x)) := rfl
  rw [e]
  cases h : hasB L x with
  | false => simp
  | true => have := hasB_range h; simp [this]
theorem soP_less (L M : List SpanV) : soP 3 4294967295 L M = fun x => hasB L x && !hasB M x := by
  funext x
  have e : soP 3 4294967295 L M x = (decide (0 ≤ x) && decide (x ≤ 4294967295) && (hasB L x && !hasB M x)) := rfl
  rw [e]
  cases h : hasB L x with
  | false => simp
  | true => have := hasB_range h; simp [this]
theorem soP_not (most : Int) (L : List SpanV) : soP 4 most L [] = notP most L := rfl
theorem soP_form (L : List SpanV) : theSet (soP 1 4294967295 L []) = formOf L := by
  rw [soP_or]
  unfold formOf
  congr 1
  funext x
  rw [hasB_nil, Bool.or_false]
theorem rd_nil (w : World) (B k : Nat) : Rd w B k (.slice none 0 0) 0 [] := ⟨none, 0, rfl, by omega, by simp, fun h => absurd h (by omega)⟩

end Go.Proofs.YthgmmajoinkblaaDoor

/-
  The text of a set: the program's.
-/
namespace Go.Proofs.YthgmmajoinkblaaDoor
open Go Go.RowKit Go.Lib Go.Sort

theorem Tryd.infoStr : (Tryd.prog.info? 9).map (fun i => (i.zero, i.size, i.bytes)) = some (some (.string ByteArray.empty), 1, 16) := by kernel_rfl
theorem one_str (x : ByteArray) : ∀ u ∈ [Value.string x], u.oneCell' = true := by intro u hu; simp at hu; subst hu; rfl
theorem fmtInt_any (n : Int) (h0 : 0 ≤ n) (h1 : n < 4294967296) (w : World) (hE : EnvT w) :
    Calls Tryd.prog 12 #[.int .u64 n, .int .i64 10] w fun e w' => e = .returned (.string ⟨(Lib.decDigits n.toNat).toArray⟩) ∧ Below w.heap.size w w' := by
  obtain ⟨u, rfl⟩ := Int.eq_ofNat_of_zero_le h0
  exact fmtUint_any u (by omega) w hE
theorem tB_one {s : SpanV} (h : s.lo = s.hi) : tB s = ⟨(Lib.decDigits s.lo.toNat).toArray⟩ := by
  unfold tB SpanV.t
  rw [if_pos h]
theorem tB_two {s : SpanV} (h : s.lo ≠ s.hi) : tB s = ⟨(Lib.decDigits s.lo.toNat).toArray⟩ ++ (⟨#[45]⟩ ++ ⟨(Lib.decDigits s.hi.toNat).toArray⟩) := by
  apply byte_ext
  unfold tB SpanV.t
  rw [if_neg h]
  simp [ByteArray.data_append]
theorem dec_size {n : Int} (h : n < 4294967296) : (⟨(Lib.decDigits n.toNat).toArray⟩ : ByteArray).size ≤ 10 := by
  show (Lib.decDigits n.toNat).toArray.size ≤ 10
  have := dec32 (n := n.toNat) (by omega)
  simpa using this
theorem words_data (F : List SpanV) : (F.map tB).map (·.data.toList) = F.map SpanV.t := by
  rw [List.map_map]
  rfl
theorem take_tB {F : List SpanV} {j : Nat} {s : SpanV} (h : F[j]? = some s) : ((F.take (j + 1)).map tB).map Value.string = ((F.take j).map tB).map Value.string ++ [.string (tB s)] := by
  rw [List.take_add_one, h]
  simp
set_option maxRecDepth 100000 in
set_option maxHeartbeats 4000000 in
theorem spText_any (L : List SpanV) (vl : Value) (w : World) (hE : EnvT w) (hl : Rd w w.heap.size 2 vl L.length (scells L)) (hlen : L.length ≤ 1000000) :
    Calls Tryd.prog 7 #[vl] w fun e w' => e = .returned (.string ⟨(setT (formOf L)).toArray⟩) ∧ Below w.heap.size w w' := by
  obtain ⟨i0, hi, hz0, hz1, hz2⟩ := info_parts Tryd.infoStr
  obtain ⟨A0, c0, rfl, _⟩ := hl.form
  have hform := form_any L _ w hl (by omega)
  have hFl := formOf_len L
  clear hl
  generalize formOf L = F at *
  by_cases hF : F = []
  · subst hF
    go_enter Tryd.func7, Tryd.ntmps7
    go_wp2_with fail
    refine hform.mono ?_
    rintro e w1 ⟨v1, rfl, hown, hb⟩
    obtain ⟨A1, c1, rfl, _⟩ := owns_form hown
    go_wp2
    go_ret
    exact ⟨rfl, hb⟩
  · have hpos : 0 < F.length := List.length_pos_iff.2 hF
    have hne : ((F.length : Int) == 0) = false := by simp; omega
    have HFN := Lib.hid hF
    clear hF
    go_enter Tryd.func7, Tryd.ntmps7
    go_wp2_with fail
    refine hform.mono ?_
    rintro e w1 ⟨v1, rfl, hown1, hb1⟩
    have hr1 := Rd.of_own hown1
    obtain ⟨b, off, c', rfl, hcc, hbB, hcell⟩ := hr1.posAt hpos
    have HC := Lib.hid hcell
    have hE1 := hE.below hb1
    clear hown1 hr1 hcell hform
    go_wp2
    go_loopw [4, 15] (fun v i wr => ∃ j : Nat, i = .int .i64 j ∧ j ≤ F.length ∧ wr.ownsRow w1.heap.size 9 1 v j (((F.take j).map tB).map Value.string) ∧ Below w1.heap.size w1 wr) (fun _ i _ => F.length - (intOf i).toNat)
    case atStart => exact ⟨0, rfl, by omega, World.ownsRow_nil _ _ _ _, Below.refl _ _⟩
    case round =>
      obtain ⟨j, rfl, hj, hown, hnx⟩ := hrel
      have hsz := hnx.size
      by_cases hlt : j < F.length
      · have hI : (j : Int) < (F.length : Int) := by omega
        obtain ⟨s, hs⟩ : ∃ s, F[j]? = some s := ⟨_, List.getElem?_eq_getElem hlt⟩
        have f0 : wr.cell? ⟨b, off + j * 2, none⟩ = some (.int .u32 s.lo) := (hnx.cell (p := ⟨b, off + j * 2, none⟩) hbB).trans (HC.out j 0 _ (scell hs rfl))
        have f1 : wr.cell? ⟨b, off + j * 2 + 1, none⟩ = some (.int .u32 s.hi) := (hnx.cell (p := ⟨b, off + j * 2 + 1, none⟩) hbB).trans (HC.out j 1 _ (scell hs rfl))
        have hT := Lib.hid (take_tB hs)
        have hlo := s.hlo
        have hhi := s.hhi
        have z1 := dec_size (n := s.lo) (by omega)
        have z2 := dec_size (n := s.hi) (by omega)
        have hEr := hE1.below hnx
        have kb := heap_alloc_new wr (.cells #[.int .u32 s.lo, .int .u32 s.hi] 24)
        have hbA := below1 wr (.cells #[.int .u32 s.lo, .int .u32 s.hi] 24)
        clear hs
        have hcmp : (s.lo = s.hi ∧ (s.lo != s.hi) = false) ∨ (s.lo ≠ s.hi ∧ (s.lo != s.hi) = true) := by
          by_cases h : s.lo = s.hi
          · exact .inl ⟨h, by simp [h]⟩
          · exact .inr ⟨h, by simp [h]⟩
        rcases hcmp with ⟨hc1, hc2⟩ | ⟨hc1, hc2⟩
        · have hq := Lib.hid (tB_one hc1)
          clear hc1
          have hc := Lib.hid (fun W (h : EnvT W) => fmtInt_any s.lo (by omega) (by omega) W h)
          generalize (⟨(Lib.decDigits s.lo.toNat).toArray⟩ : ByteArray) = q1 at *
          go_wp2_with fail
          refine (hc.out _ (hEr.below hbA)).mono ?_
          rintro e w2 ⟨rfl, hb⟩
          have kb2 := blk_below hb kb
          have hb2 := below_call hbA hb
          have own2 := owns_kept_none hown (only_of_below hb2 none)
          have nx2 := hnx.trans (hb2.mono hsz)
          have sz2 := nx2.size
          obtain ⟨x0, x1, _, _⟩ := two_cells kb2
          clear hb hb2 kb2 kb hbA hown hnx f0 f1
          go_wp2_with (at_builtin; refine wpList_push rfl _ _ 40 rfl 9 i0 _ 1 16 Tryd.underlying40 hi hz0 hz1 hz2 rfl (by decide) (by decide) [.string q1] rfl rfl (by simp) own2 rfl (one_str _) (by omega) (by omega) nx2 (Nat.le_refl _) ?_; intro v2 w3 hown2 hb3)
          refine ⟨⟨j + 1, by go_num, by omega, ?_, hb3⟩, by simp only [intOf]; omega⟩
          rw [hT.out, hq.out]
          exact hown2
        · have hq := Lib.hid (tB_two hc1)
          clear hc1
          have hc := Lib.hid (fun W (h : EnvT W) => fmtInt_any s.lo (by omega) (by omega) W h)
          have hd := Lib.hid (fun W (h : EnvT W) => fmtInt_any s.hi (by omega) (by omega) W h)
          generalize (⟨(Lib.decDigits s.lo.toNat).toArray⟩ : ByteArray) = q1 at *
          generalize (⟨(Lib.decDigits s.hi.toNat).toArray⟩ : ByteArray) = q2 at *
          go_wp2_with fail
          refine (hc.out _ (hEr.below hbA)).mono ?_
          rintro e w2 ⟨rfl, hb⟩
          have kb2 := blk_below hb kb
          have hb2 := below_call hbA hb
          obtain ⟨x0, x1, _, _⟩ := two_cells kb2
          clear hb kb hbA f0 f1
          go_wp2_with fail
          refine (hd.out _ (hEr.below hb2)).mono ?_
          rintro e w3 ⟨rfl, hb⟩
          have hb3 := below_call hb2 hb
          have own2 := owns_kept_none hown (only_of_below hb3 none)
          have nx2 := hnx.trans (hb3.mono hsz)
          have sz2 := nx2.size
          clear hb hb2 kb2 hown hnx hb3 x0 x1
          go_upto_region 11 with fail
          generalize q1 ++ (⟨#[45]⟩ ++ q2) = q3 at *
          go_wp2_with (at_builtin; refine wpList_push rfl _ _ 40 rfl 9 i0 _ 1 16 Tryd.underlying40 hi hz0 hz1 hz2 rfl (by decide) (by decide) [.string q3] rfl rfl (by simp) own2 rfl (one_str _) (by omega) (by omega) nx2 (Nat.le_refl _) ?_; intro v2 w4 hown2 hb3)
          refine ⟨⟨j + 1, by go_num, by omega, ?_, hb3⟩, by simp only [intOf]; omega⟩
          rw [hT.out, hq.out]
          exact hown2
      · obtain rfl : j = F.length := by omega
        rw [List.take_length] at hown
        have hI : ¬ (F.length : Int) < (F.length : Int) := by omega
        obtain ⟨A2, c2, rfl, hA2⟩ := owns_form hown
        obtain ⟨g, rfl⟩ := hA2 hpos
        have hg := hown.lt g rfl
        have hcc2 : F.length ≤ c2 := by
          obtain ⟨_, _, h, _⟩ := owns_block hown
          exact h
        have hlen2 : (F.map tB).length = F.length := by simp
        have hjl : (Lib.join ((F.map tB).map (·.data.toList)) [44]).length ≤ 140737488355328 := by
          rw [words_data, ← joinC_join]
          have := joinC_len F
          omega
        have hJ := Tryd.strings_Join g 0 c2 (F.map tB) ⟨#[44]⟩ wr (fun j x hj => by
          have h := hown.cells (g := g) rfl j (.string x) (by rw [List.getElem?_map, hj]; rfl)
          have e : (⟨g, 0, none⟩ : Addr).add j = ⟨g, 0 + j, none⟩ := by simp [Addr.add]; omega
          rw [← e]; exact h) hg.2 (by omega) (by omega) hjl
        rw [hlen2, show ({ data := #[44] } : ByteArray).data.toList = [44] from rfl, words_data, ← joinC_join, ← setT_cons HFN.out] at hJ
        have HJ := Lib.hid hJ
        clear hJ hown hjl hlen2
        go_wp2_with fail
        refine HJ.out.mono ?_
        rintro e w2 ⟨rfl, hb⟩
        have hbw := below_call (hb1.trans (hnx.mono hb1.size)) hb
        go_wp2
        go_ret
        exact ⟨rfl, hbw⟩
end Go.Proofs.YthgmmajoinkblaaDoor

/-
  The walks of spans.Count, Least, Same, of slices.Equal at spans, and of the document's Count and Spans.
-/
namespace Go.Proofs.YthgmmajoinkblaaDoor
open Go Go.RowKit Go.Lib Go.Sort

theorem cnt_snoc (A : List SpanV) (s : SpanV) : cnt (A ++ [s]) = cnt A + (s.hi - s.lo + 1) := by rw [cnt_append]; simp [cnt]

set_option maxRecDepth 100000 in
set_option maxHeartbeats 4000000 in
theorem count_any (L : List SpanV) (vl : Value) (w : World) (hl : Rd w w.heap.size 2 vl L.length (scells L)) (hlen : L.length ≤ 1099511627776) :
    Calls Tryd.prog 5 #[vl] w fun e w' => e = .returned (.int .u64 (cnt (formOf L))) ∧ Below w.heap.size w w' := by
  have hF := formOf_ok L
  have hFl := formOf_len L
  generalize hFF : formOf L = F at *
  have HFF := Lib.hid hFF
  clear hFF
  go_enter Tryd.func5, Tryd.ntmps5
  go_wp2_with fail
  refine (form_any L vl w hl hlen).mono ?_
  rintro e w1 ⟨v1, rfl, hown1, hb1⟩
  rw [HFF.out] at hown1
  have rd1 := Rd.of_own hown1
  obtain ⟨A1, c1, rfl, hc1⟩ := rd1.form
  have HR := Lib.hid rd1
  have hsz1 := hb1.size
  clear rd1 hown1
  go_wp2_with fail
  go_loopw [3, 9] (fun n i wr => ∃ j : Nat, i = .int .i64 j ∧ j ≤ F.length ∧ n = .int .u64 (cnt (F.take j)) ∧ Below w1.heap.size w1 wr) (fun _ i _ => F.length - (intOf i).toNat)
  case atStart => exact ⟨0, rfl, by omega, rfl, Below.refl _ _⟩
  case round =>
    obtain ⟨j, rfl, hj, rfl, hnx⟩ := hrel
    have hsz := hnx.size
    by_cases hlt : j < F.length
    · have hI : (j : Int) < (F.length : Int) := by omega
      obtain ⟨s, hs⟩ : ∃ s, F[j]? = some s := ⟨_, List.getElem?_eq_getElem hlt⟩
      obtain ⟨b, off, c', hv, _, hbB, hcell⟩ := (HR.out.below hnx).posAt (by omega)
      injection hv with hv1 _ hv3
      subst hv1 hv3
      have f0 : wr.cell? ⟨b, off + j * 2, none⟩ = some (.int .u32 s.lo) := hcell j 0 _ (scell hs rfl)
      have f1 : wr.cell? ⟨b, off + j * 2 + 1, none⟩ = some (.int .u32 s.hi) := hcell j 1 _ (scell hs rfl)
      have hsv := hF.1.ok s (List.mem_of_getElem? hs)
      have hlo := s.hlo
      have hhi := s.hhi
      have hst := cnt_succ hs
      have hr1 := cnt_take_le hF.1 (j + 1)
      have hr0 := cnt_take_le hF.1 j
      rw [hst] at hr1
      have HST := Lib.hid hst
      clear hst hcell hs
      generalize cnt (F.take j) = n at *
      have e1 : (s.hi - s.lo) % 4294967296 = s.hi - s.lo := by omega
      have e2 : (s.hi - s.lo + 1) % 18446744073709551616 = s.hi - s.lo + 1 := by omega
      have e3 : (n + (s.hi - s.lo + 1)) % 18446744073709551616 = n + (s.hi - s.lo + 1) := by omega
      go_wp2
      exact ⟨⟨j + 1, by go_num, by omega, by rw [HST.out], hnx.alloc hsz _⟩, by simp only [intOf]; omega⟩
    · obtain rfl : j = F.length := by omega
      rw [List.take_length]
      go_wp2
      go_ret
      exact ⟨rfl, hb1.trans (hnx.mono hsz1)⟩

def leastOf (F : List SpanV) : Int × Bool := match F with | [] => (0, false) | s :: _ => (s.lo, true)
end Go.Proofs.YthgmmajoinkblaaDoor

/-
  The walk of the law SpansNames.
-/
namespace Go.Proofs.YthgmmajoinkblaaDoor
open Go Go.RowKit Go.Lib Go.Sort

/-- A call that refuses. -/
def NoRes (w : World) (e : Ending) (w' : World) : Prop := e = .returned (.tuple #[.slice none 0 0, .int .i64 1]) ∧ Below w.heap.size w w'
/-- A call that hands n spans back. -/
def YesRes (n : Nat) (w : World) (e : Ending) (w' : World) : Prop := ∃ A c, e = .returned (.tuple #[.slice A n c, .int .i64 0]) ∧ Below w.heap.size w w'
set_option maxRecDepth 100000 in
theorem pieces_no (most : Int) (A : Option Addr) (n c : Nat) (w : World) (hn : 1024 < n) (hn2 : n ≤ 4096) :
    Calls Tryd.prog 4 #[.int .u32 most, .slice A n c] w (NoRes w) := by
  have h1 : (1024 : Int) < (n : Int) := by omega
  go_enter Tryd.func4, Tryd.ntmps4
  go_wp2
  go_ret2
  exact ⟨rfl, below1 _ _⟩
theorem pieces_yes {most : Int} {S : List SetV} {vs : Value} {w : World} {C : List Int} (hS : SetsAt w w.heap.size vs S) (hm : 0 ≤ most ∧ most < 4294967296) (hlen : (allS S).length ≤ 1073741824) (hlen2 : S.length ≤ 1024) (hC : StartsOf most (setsL S) C) (hc : C.length < 65536) :
    Calls Tryd.prog 4 #[.int .u32 most, vs] w (YesRes (C.length + 1) w) := by
  refine (pieces_any most S vs w hS hm hlen hlen2).mono ?_
  rintro e w' ⟨v, k, C2, rfl, hst, hres, hb⟩
  obtain rfl := hC.unique hst
  rcases hres with ⟨_, rfl, hown⟩ | ⟨hbig, _, _⟩
  · obtain ⟨A, c, rfl, _⟩ := owns_form hown
    rw [pcs_len]
    exact ⟨A, c, rfl, hb⟩
  · omega
theorem pieces_full {most : Int} {S : List SetV} {vs : Value} {w : World} {C : List Int} (hS : SetsAt w w.heap.size vs S) (hm : 0 ≤ most ∧ most < 4294967296) (hlen : (allS S).length ≤ 1073741824) (hlen2 : S.length ≤ 1024) (hC : StartsOf most (setsL S) C) (hc : 65536 ≤ C.length) :
    Calls Tryd.prog 4 #[.int .u32 most, vs] w (NoRes w) := by
  refine (pieces_any most S vs w hS hm hlen hlen2).mono ?_
  rintro e w' ⟨v, k, C2, rfl, hst, hres, hb⟩
  obtain rfl := hC.unique hst
  rcases hres with ⟨hlt, _, _⟩ | ⟨_, rfl, rfl⟩
  · omega
  · exact ⟨rfl, hb⟩
/-- One set, in a block of its own. -/
theorem sets_one {W : World} {v : Value} {L : List SpanV} (h : Rd W W.heap.size 2 v L.length (scells L)) : SetsAt (W.alloc (.cells #[v] 25)) (W.alloc (.cells #[v] 25)).heap.size (.slice (some ⟨W.heap.size, 0, none⟩) 1 1) [⟨v, L⟩] := by
  refine ⟨Rd.of_blk (cs := #[v]) (blk1 W _) (Nat.le_refl _) rfl, fun x hx => ?_⟩
  obtain rfl := List.mem_singleton.1 hx
  exact (h.below (below1 W _)).mono (by simp)
/-- Behind a make of n sets. -/
def nilsW (n : Nat) (W : World) : World := W.alloc (.cells (Array.replicate n (.slice none 0 0)) 25)
theorem nilsW_below (n : Nat) (W : World) : Below W.heap.size W (nilsW n W) := below1 W _
theorem sets_nil (n : Nat) (W : World) : SetsAt (nilsW n W) (nilsW n W).heap.size (.slice (some ⟨W.heap.size, 0, none⟩) n n) (List.replicate n ⟨.slice none 0 0, []⟩) := by
  refine ⟨?_, fun x hx => ?_⟩
  · have h := Rd.of_blk (k := 1) (n := n) (c := n) (blk1 W (.cells (Array.replicate n (.slice none 0 0)) 25)) (Nat.le_refl _) (by simp)
    rw [List.length_replicate]
    have e : svals (List.replicate n (⟨.slice none 0 0, []⟩ : SetV)) = (Array.replicate n (Value.slice none 0 0)).toList := by simp [svals]
    rw [e]
    exact h
  · rw [(List.mem_replicate.1 hx).2]
    exact rd_nil _ _ _
theorem sets_nilL (n : Nat) : setsL (List.replicate n ⟨.slice none 0 0, []⟩) = List.replicate n [] := by simp [setsL]
theorem allS_nilL (n : Nat) : allS (List.replicate n ⟨.slice none 0 0, []⟩) = [] := by rw [allS_flat, sets_nilL]; simp
theorem all_form : formOf [spAll] = [spAll] := theSet_eq all_nf (fun _ => rfl)
theorem all_text : (⟨(setT (formOf [spAll])).toArray⟩ : ByteArray) = ⟨#[48, 45, 52, 50, 57, 52, 57, 54, 55, 50, 57, 53]⟩ := by
  rw [all_form]
  decide +kernel
theorem Tryd.infoSlN : (Tryd.prog.info? 25).map (fun i => (i.zero, i.size, i.bytes)) = some (some (.slice none 0 0), 1, 24) := by kernel_rfl
theorem nils_yes (n : Nat) (hn : n ≤ 1024) (W : World) : Calls Tryd.prog 4 #[.int .u32 5, .slice (some ⟨W.heap.size, 0, none⟩) n n] (nilsW n W) (YesRes 1 (nilsW n W)) :=
  pieces_yes (most := 5) (C := []) (sets_nil n W) (by omega) (by rw [allS_nilL]; simp) (by simpa using hn) (by rw [sets_nilL]; exact none_starts 5 n) (by simp)
theorem mkN (n : Nat) (hn : n ≤ 4096) (w : World) : (Instr.makeSlice 29 (.int .i64 (n : Int)) (.int .i64 (n : Int))).run Tryd.prog w = .ok (.slice (some ⟨w.heap.size, 0, none⟩) n n) (nilsW n w) := by
  obtain ⟨i0, hi, hz0, hz1, hz2⟩ := info_parts Tryd.infoSlN
  have hb : (i0.bytes : Int) * (n : Int) ≤ 281474976710656 := by rw [hz2]; omega
  have hl : (n : Int) ≤ 9223372036854775807 := by omega
  have h := run_make (P := Tryd.prog) w 29 25 i0 _ Tryd.underlying29 hi hz0 .i64 .i64 (n : Int) (n : Int) (by omega) (Int.le_refl _) hb hl
  have e : madeCells (Value.slice none 0 0).cells ((n : Int).toNat * i0.size) = Array.replicate n (.slice none 0 0) := by
    rw [hz1, Int.toNat_natCast, Nat.mul_one]
    apply Array.ext'
    rw [Array.toList_replicate]
    exact toList_madeCells_one _ _
  rw [e, Int.toNat_natCast] at h
  exact h
theorem mk1024 (w : World) : (Instr.makeSlice 29 (.int .i64 1024) (.int .i64 1024)).run Tryd.prog w = .ok (.slice (some ⟨w.heap.size, 0, none⟩) 1024 1024) (nilsW 1024 w) := mkN 1024 (by omega) w
theorem mk1025 (w : World) : (Instr.makeSlice 29 (.int .i64 1025) (.int .i64 1025)).run Tryd.prog w = .ok (.slice (some ⟨w.heap.size, 0, none⟩) 1025 1025) (nilsW 1025 w) := mkN 1025 (by omega) w
set_option maxRecDepth 100000 in
set_option maxHeartbeats 8000000 in
theorem lawSpNames_any (w : World) (hE : EnvT w) : Calls Tryd.prog 3 #[] w fun e w' => e = .returned (.bool true) ∧ Below w.heap.size w w' := by
  obtain ⟨i0, hi, hz0, hz1, hz2⟩ := info_parts Tryd.infoSpan
  have m1 := mk1024
  have m2 := mk1025
  have hr0 : Rd (w.alloc (.cells #[.int .u32 0, .int .u32 4294967295] 24)) (w.alloc (.cells #[.int .u32 0, .int .u32 4294967295] 24)).heap.size 2 (.slice (some ⟨w.heap.size, 0, none⟩) 1 1) [spAll].length (scells [spAll]) := Rd.of_blk (cs := #[.int .u32 0, .int .u32 4294967295]) (blk1 w _) (Nat.le_refl _) rfl
  have HR0 := Lib.hid hr0
  have HB0 := Lib.hid (below1 w (.cells #[.int .u32 0, .int .u32 4294967295] 24))
  have hsz0 : (w.alloc (.cells #[.int .u32 0, .int .u32 4294967295] 24)).heap.size = w.heap.size + 1 := by simp
  have HSZ := Lib.hid hsz0
  clear hr0 hsz0
  go_enter Tryd.func3, Tryd.ntmps3
  go_wp2_with fail
  generalize w.alloc (.cells #[.int .u32 0, .int .u32 4294967295] 24) = w0 at *
  clear m1
  have k1 := nils_yes 1024 (by omega) w0
  rw [HSZ.out] at k1
  have K1 := Lib.hid k1
  clear k1
  have KB := Lib.hid (nilsW_below 1024 w0)
  generalize nilsW 1024 w0 = w0n at *
  refine K1.out.mono ?_
  rintro e w1 ⟨A1, c1, rfl, hb1⟩
  have hb01 : Below w0.heap.size w0 w1 := KB.out.trans (hb1.mono KB.out.size)
  have HB01 := Lib.hid hb01
  clear K1 KB hb1 hb01
  go_wp2_with fail
  clear m2
  have KB := Lib.hid (nilsW_below 1025 w1)
  generalize nilsW 1025 w1 = w1n at *
  refine (pieces_no 5 _ 1025 1025 _ (by omega) (by omega)).mono ?_
  rintro e w2 ⟨rfl, hb2⟩
  have hb02 : Below w0.heap.size w0 w2 := HB01.out.trans ((KB.out.trans (hb2.mono KB.out.size)).mono HB01.out.size)
  have HB02 := Lib.hid hb02
  clear hb2 hb02 HB01 KB
  go_wp2_with fail

  go_loopw [6, 7] (fun v i wr => ∃ k : Nat, i = .int .i64 k ∧ k ≤ 32768 ∧ Hid (wr.ownsRow w0.heap.size 24 2 v k (scells (oddL k))) ∧ Hid (Below w0.heap.size w0 wr)) (fun _ i _ => 32768 - (intOf i).toNat)
  case atStart => exact ⟨0, rfl, by omega, World.ownsRow_nil _ _ _ _, HB02.out⟩
  case round =>
    obtain ⟨k, rfl, hk, HO, HB⟩ := hrel
    obtain ⟨Av, cv, rfl, hAv⟩ := owns_form HO.out
    by_cases hlt : k < 32768
    · have hI : (k : Int) < 32768 := by omega
      have hw1 : (2 * (k : Int) + 1) % 4294967296 = 2 * (k : Int) + 1 := by omega
      have hes : Hid ([Value.int .u32 (2 * (k : Int) + 1), .int .u32 (2 * (k : Int) + 1)] = (oddS k).enc) := Lib.hid (by
        have e1 : (oddS k).lo = 2 * (k : Int) + 1 := hw1
        have e2 : (oddS k).hi = 2 * (k : Int) + 1 := hw1
        show _ = [Value.int .u32 (oddS k).lo, .int .u32 (oddS k).hi]
        rw [e1, e2])
      go_wp2_with (at_builtin; refine wpList_push rfl _ _ 25 rfl 24 i0 _ 2 8 Tryd.underlying25 hi hz0 hz1 hz2 rfl (by decide) (by decide) [.int .u32 (2 * (k : Int) + 1), .int .u32 (2 * (k : Int) + 1)] rfl rfl (by simp) HO.out rfl (by rw [hes.out]; exact enc_one _) (by omega) HB.out.size HB.out (Nat.le_refl _) ?_; intro v2 w3 hown2 hb3)
      go_roundw
      case rel => exact ⟨k + 1, by go_num, by omega, by rw [oddL_succ, scells_snoc, ← hes.out]; exact hown2, hb3⟩
      case measure => simp only [intOf]; omega
    · have hk2 : k = 32768 := by omega
      have hlen := oddL_len k
      have hod : ∀ m : Nat, m ≤ 65536 → StartsOf m [oddL k] (ups m) := by rw [hk2]; exact fun m hm => odd_starts hm
      have hI : ¬ (k : Int) < 32768 := by omega
      have hrL : Rd wr wr.heap.size 2 (.slice Av k cv) (oddL k).length (scells (oddL k)) := by rw [hlen]; exact Rd.of_own HO.out
      have hall : ∀ v : Value, allS [⟨v, oddL k⟩] = oddL k := fun v => by simp [allS]
      have k3 : ∀ W, Below wr.heap.size wr W → Calls Tryd.prog 4 #[.int .u32 65535, .slice (some ⟨W.heap.size, 0, none⟩) 1 1] (W.alloc (.cells #[.slice Av k cv] 25)) (YesRes 65536 (W.alloc (.cells #[.slice Av k cv] 25))) := fun W hW => by
        have h := pieces_yes (most := 65535) (C := ups 65535) (sets_one ((hrL.below hW).mono hW.size)) (by omega) (by rw [hall, hlen]; omega) (by simp) (hod 65535 (by omega)) (by rw [ups_len]; omega)
        rw [ups_len] at h
        exact h
      have k4 : ∀ W, Below wr.heap.size wr W → Calls Tryd.prog 4 #[.int .u32 65536, .slice (some ⟨W.heap.size, 0, none⟩) 1 1] (W.alloc (.cells #[.slice Av k cv] 25)) (NoRes (W.alloc (.cells #[.slice Av k cv] 25))) := fun W hW =>
        pieces_full (most := 65536) (C := ups 65536) (sets_one ((hrL.below hW).mono hW.size)) (by omega) (by rw [hall, hlen]; omega) (by simp) (hod 65536 (by omega)) (by rw [ups_len]; omega)
      have hA : ∀ W, Below wr.heap.size wr W → Rd W W.heap.size 2 (.slice (some ⟨w.heap.size, 0, none⟩) 1 1) [spAll].length (scells [spAll]) := fun W hW => by
        have hb := HB.out.trans (hW.mono HB.out.size)
        exact (HR0.out.below hb).mono hb.size
      have k5 : ∀ W, Below wr.heap.size wr W → Calls Tryd.prog 4 #[.int .u32 4294967295, .slice (some ⟨W.heap.size, 0, none⟩) 1 1] (W.alloc (.cells #[.slice (some ⟨w.heap.size, 0, none⟩) 1 1] 25)) (YesRes 1 (W.alloc (.cells #[.slice (some ⟨w.heap.size, 0, none⟩) 1 1] 25))) := fun W hW =>
        pieces_yes (most := 4294967295) (C := []) (sets_one (hA W hW)) (by omega) (by simp [allS]) (by simp) all_starts (by simp)
      have k6 : ∀ W, Below wr.heap.size wr W → Calls Tryd.prog 5 #[.slice (some ⟨w.heap.size, 0, none⟩) 1 1] W fun e w' => e = .returned (.int .u64 4294967296) ∧ Below W.heap.size W w' := fun W hW => by
        have h := count_any [spAll] _ W (hA W hW) (by simp)
        rw [all_form, all_cnt] at h
        exact h
      have k7 : ∀ W, Below wr.heap.size wr W → Calls Tryd.prog 6 #[.slice (some ⟨w.heap.size, 0, none⟩) 1 1, .int .u32 4294967295] W (SetRes [] W) := fun W hW => by
        have h := not_any [spAll] _ 4294967295 W (hA W hW) (by simp) (by omega)
        rw [all_not] at h
        exact h
      have hEr : ∀ W, Below wr.heap.size wr W → EnvT W := fun W hW => hE.below (HB0.out.trans ((HB.out.trans (hW.mono HB.out.size)).mono HB0.out.size))
      have k8 : ∀ W, Below wr.heap.size wr W → Calls Tryd.prog 7 #[.slice (some ⟨w.heap.size, 0, none⟩) 1 1] W fun e w' => e = .returned (.string ⟨#[48, 45, 52, 50, 57, 52, 57, 54, 55, 50, 57, 53]⟩) ∧ Below W.heap.size W w' := fun W hW => by
        have h := spText_any [spAll] _ W (hEr W hW) (hA W hW) (by simp)
        rw [all_text] at h
        exact h
      have K3 := Lib.hid k3
      have K4 := Lib.hid k4
      have K5 := Lib.hid k5
      have K6 := Lib.hid k6
      have K7 := Lib.hid k7
      have K8 := Lib.hid k8
      clear k3 k4 k5 k6 k7 k8 hA hod hall hrL hEr hlen hlt hk2
      go_wp2_with fail
      refine (K3.out wr (Below.refl _ _)).mono ?_
      rintro e w3 ⟨A3, c3, rfl, hb3⟩
      have hr3 := (below1 wr _).trans (hb3.mono (by simp))
      have HR3 := Lib.hid hr3
      clear hb3 hr3 K3
      go_wp2_with fail
      refine (K4.out w3 HR3.out).mono ?_
      rintro e w4 ⟨rfl, hb4⟩
      have hr4 := below_call HR3.out ((below1 w3 _).trans (hb4.mono (by simp)))
      have HR4 := Lib.hid hr4
      clear hb4 hr4 K4 HR3
      go_wp2_with fail
      refine (K5.out w4 HR4.out).mono ?_
      rintro e w5 ⟨A5, c5, rfl, hb5⟩
      have hr5 := below_call HR4.out ((below1 w4 _).trans (hb5.mono (by simp)))
      have HR5 := Lib.hid hr5
      clear hb5 hr5 K5 HR4
      go_wp2_with fail
      refine (K6.out w5 HR5.out).mono ?_
      rintro e w6 ⟨rfl, hb6⟩
      have hr6 := below_call HR5.out hb6
      have HR6 := Lib.hid hr6
      clear hb6 hr6 K6 HR5
      go_wp2_with fail
      refine (K7.out w6 HR6.out).mono ?_
      rintro e w7 ⟨v7, rfl, hown7, hb7⟩
      obtain ⟨A7, c7, rfl, _⟩ := owns_form hown7
      have hr7 := below_call HR6.out hb7
      have HR7 := Lib.hid hr7
      clear hb7 hr7 K7 HR6 hown7
      go_wp2_with fail
      refine (K8.out w7 HR7.out).mono ?_
      rintro e w8 ⟨rfl, hb8⟩
      have hr8 := below_call HR7.out hb8
      have HR8 := Lib.hid hr8
      clear hb8 hr8 K8 HR7
      go_wp2
      go_ret
      exact ⟨rfl, HB0.out.trans ((HB.out.trans (HR8.out.mono HB.out.size)).mono HB0.out.size)⟩
end Go.Proofs.YthgmmajoinkblaaDoor

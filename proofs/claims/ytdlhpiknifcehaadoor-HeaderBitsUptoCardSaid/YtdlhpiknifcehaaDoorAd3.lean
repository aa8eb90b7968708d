/-
  Walks over the addresses' texts: Text, PrefixText, ParsePrefix.
-/
import Derived.Test.YtdlhpiknifcehaaDoorAd2
import Derived.Test.YtdlhpiknifcehaaDoorAddr4
import Derived.Lib.JoinLaws
namespace Go.Proofs.YtdlhpiknifcehaaDoor
open Go Go.RowKit Go.Sort

/-- The four numbers of an address. -/
def octet (a k : Nat) : Nat := a / 256 ^ (3 - k) % 256
theorem octet_lt (a k : Nat) : octet a k < 256 := Nat.mod_lt _ (by decide)
/-- The cells of the array while it is filled. -/
def octs (a k : Nat) : List ByteArray := (List.range 4).map fun i => if i < k then ⟨(Lib.decDigits (octet a i)).toArray⟩ else ByteArray.empty
theorem octs_len (a k : Nat) : (octs a k).length = 4 := by simp [octs]
theorem octs_full (a : Nat) : (octs a 4).map (·.data.toList) = [Lib.decDigits (octet a 0), Lib.decDigits (octet a 1), Lib.decDigits (octet a 2), Lib.decDigits (octet a 3)] := rfl
theorem octs_set (a k : Nat) (hk : k < 4) : (((octs a k).map Value.string).toArray).setIfInBounds k (.string ⟨(Lib.decDigits (octet a k)).toArray⟩) = ((octs a (k + 1)).map Value.string).toArray := by
  match k, hk with
  | 0, _ => rfl
  | 1, _ => rfl
  | 2, _ => rfl
  | 3, _ => rfl
/-- An address's text. -/
def textA (a : Nat) : ByteArray := ⟨(Lib.join [Lib.decDigits (octet a 0), Lib.decDigits (octet a 1), Lib.decDigits (octet a 2), Lib.decDigits (octet a 3)] [46]).toArray⟩

theorem frozen_row {w : World} {g : Nat} {cs : Array Value} {t : TypeId} (h : w.heap[g]? = some (.cells cs t (0, 0))) (k : Nat) : w.frozen? ⟨g, k, none⟩ = false := by
  unfold World.frozen?
  simp [h]
theorem and_255 (x : Int) (h0 : 0 ≤ x) (h1 : x < 4294967296) : bits .and .u32 x 255 = x % 256 := by
  obtain ⟨x, rfl⟩ := Int.eq_ofNat_of_zero_le h0
  rw [u32_and _ _ h0 h1 (by omega) (by omega), Int.toNat_natCast]
  have := Nat.and_two_pow_sub_one_eq_mod x 8
  rw [show (255 : Int).toNat = 2 ^ 8 - 1 from rfl, this]
  rfl
theorem wrap_small {x : Int} (h0 : 0 ≤ x) (h1 : x < 256) : wrap64 x = x := by
  unfold wrap64; omega
theorem env_set {w wr : World} (h : Env w) (hb : Below w.heap.size w wr) : Env wr := h.below hb
/-- A numeral of a number below 1000, written out. -/
def dec3 (n : Nat) : List UInt8 := if n < 10 then [UInt8.ofNat (48 + n)] else if n < 100 then [UInt8.ofNat (48 + n / 10), UInt8.ofNat (48 + n % 10)] else [UInt8.ofNat (48 + n / 100), UInt8.ofNat (48 + n / 10 % 10), UInt8.ofNat (48 + n % 10)]
theorem dec3_eq {n : Nat} (h : n < 1000) : Lib.decDigits n = dec3 n := by
  unfold dec3
  split
  · rename_i h1; exact decDigits_small h1
  · split
    · rename_i h1 h2; exact Lib.decDigits_two h1 h2
    · rename_i h1 h2
      rw [decDigits_big h1, Lib.decDigits_two (by omega) (by omega), Nat.div_div_eq_div_mul]
      rfl
theorem dec3_len (n : Nat) : (dec3 n).length ≤ 3 := by unfold dec3; split; · simp
                                                       · split <;> simp
theorem join_four (a b c d : List UInt8) : Lib.join [a, b, c, d] [46] = a ++ (46 :: (b ++ (46 :: (c ++ (46 :: d))))) := by
  rw [Lib.join_cons]
  simp [Lib.joinTail]
theorem join_oct (a : Nat) : (Lib.join ((octs a 4).map (·.data.toList)) [46]).length ≤ 15 := by
  rw [octs_full, join_four, dec3_eq (Nat.lt_trans (octet_lt a 0) (by decide)), dec3_eq (Nat.lt_trans (octet_lt a 1) (by decide)), dec3_eq (Nat.lt_trans (octet_lt a 2) (by decide)), dec3_eq (Nat.lt_trans (octet_lt a 3) (by decide))]
  have := dec3_len (octet a 0); have := dec3_len (octet a 1); have := dec3_len (octet a 2); have := dec3_len (octet a 3)
  simp only [List.length_append, List.length_cons]
  omega
theorem textA_eq (a : Nat) : textA a = ⟨(dec3 (octet a 0) ++ (46 :: (dec3 (octet a 1) ++ (46 :: (dec3 (octet a 2) ++ (46 :: dec3 (octet a 3)))))) : List UInt8).toArray⟩ := by
  unfold textA
  rw [join_four, dec3_eq (Nat.lt_trans (octet_lt a 0) (by decide)), dec3_eq (Nat.lt_trans (octet_lt a 1) (by decide)), dec3_eq (Nat.lt_trans (octet_lt a 2) (by decide)), dec3_eq (Nat.lt_trans (octet_lt a 3) (by decide))]
theorem textA_size (a : Nat) : (textA a).size ≤ 15 := join_oct a
set_option maxHeartbeats 1000000 in
theorem addrText_any (a : Nat) (ha : a < 4294967296) (w : World) (hE : Env w) :
    Calls Tryd.prog 17 #[.int .u32 a] w fun e w' => e = .returned (.string (textA a)) ∧ Below w.heap.size w w' := by
  go_enter Tryd.func17, Tryd.ntmps17
  go_wp2
  go_loopw [5] (fun i wr => ∃ k : Nat, i = .int .i64 k ∧ k ≤ 4 ∧ wr.heap[w.heap.size]? = some (.cells ((octs a k).map Value.string).toArray 83 (0, 0)) ∧ Env wr ∧ Below w.heap.size w wr) (fun i _ => 4 - (intOf i).toNat)
  case atStart => exact ⟨0, rfl, by omega, heap_alloc_new w _, hE.below ((Below.refl _ _).alloc (Nat.le_refl _) _), (Below.refl _ _).alloc (Nat.le_refl _) _⟩
  case round =>
    obtain ⟨k, rfl, hk, hblk, hEr, hbr⟩ := hrel
    by_cases hlt : k < 4
    · have hI : (k : Int) < 4 := by omega
      rcases (show k = 0 ∨ k = 1 ∨ k = 2 ∨ k = 3 by omega) with rfl | rfl | rfl | rfl
      · go_wp2_with fail
        rw [show wrap64 (bits .and .u32 ((a : Int) / 16777216) 255) = (octet a 0 : Int) from by rw [and_255 _ (by omega) (by omega)]; unfold octet; rw [wrap_small (by omega) (by omega)]; simp]
        have hi : Lib.itoa (octet a 0 : Int) = Lib.decDigits (octet a 0) := by unfold Lib.itoa; rw [if_neg (by omega), Int.toNat_natCast]
        have ho := octet_lt a 0
        refine (Tryd.strconv_Itoa (octet a 0) (by omega) (by omega) wr hEr.tab).mono ?_
        rintro e w2 ⟨rfl, hw⟩
        have hb2 := below_of_grow hw
        have hblk2 := blk_below hb2 hblk
        have hbw := hbr.trans (hb2.mono hbr.size)
        have hE2 := hEr.below hb2
        have hc := cells_str hblk2 (k := 0) (x := ByteArray.empty) rfl
        have hfz := frozen_row hblk2 0
        rw [hi]
        clear hw hi ho
        go_wp2
        go_roundw
        case rel =>
          refine ⟨1, rfl, by omega, ?_, hE.below (hbw.setCell (Nat.le_refl _) _), hbw.setCell (Nat.le_refl _) _⟩
          rw [heap_setCell_same _ _ _ _ _ _ hblk2, octs_set a 0 (by omega)]
        case measure =>
          change 4 - (intOf (Value.int .i64 1)).toNat < 4 - (intOf (Value.int .i64 (((0 : Nat)) : Int))).toNat
          simp only [intOf]
          omega
      · go_wp2_with fail
        rw [show wrap64 (bits .and .u32 ((a : Int) / 65536) 255) = (octet a 1 : Int) from by rw [and_255 _ (by omega) (by omega)]; unfold octet; rw [wrap_small (by omega) (by omega)]; simp]
        have hi : Lib.itoa (octet a 1 : Int) = Lib.decDigits (octet a 1) := by unfold Lib.itoa; rw [if_neg (by omega), Int.toNat_natCast]
        have ho := octet_lt a 1
        refine (Tryd.strconv_Itoa (octet a 1) (by omega) (by omega) wr hEr.tab).mono ?_
        rintro e w2 ⟨rfl, hw⟩
        have hb2 := below_of_grow hw
        have hblk2 := blk_below hb2 hblk
        have hbw := hbr.trans (hb2.mono hbr.size)
        have hE2 := hEr.below hb2
        have hc := cells_str hblk2 (k := 1) (x := ByteArray.empty) rfl
        have hfz := frozen_row hblk2 1
        rw [hi]
        clear hw hi ho
        go_wp2
        go_roundw
        case rel =>
          refine ⟨2, rfl, by omega, ?_, hE.below (hbw.setCell (Nat.le_refl _) _), hbw.setCell (Nat.le_refl _) _⟩
          rw [heap_setCell_same _ _ _ _ _ _ hblk2, octs_set a 1 (by omega)]
        case measure =>
          change 4 - (intOf (Value.int .i64 2)).toNat < 4 - (intOf (Value.int .i64 (((1 : Nat)) : Int))).toNat
          simp only [intOf]
          omega
      · go_wp2_with fail
        rw [show wrap64 (bits .and .u32 ((a : Int) / 256) 255) = (octet a 2 : Int) from by rw [and_255 _ (by omega) (by omega)]; unfold octet; rw [wrap_small (by omega) (by omega)]; simp]
        have hi : Lib.itoa (octet a 2 : Int) = Lib.decDigits (octet a 2) := by unfold Lib.itoa; rw [if_neg (by omega), Int.toNat_natCast]
        have ho := octet_lt a 2
        refine (Tryd.strconv_Itoa (octet a 2) (by omega) (by omega) wr hEr.tab).mono ?_
        rintro e w2 ⟨rfl, hw⟩
        have hb2 := below_of_grow hw
        have hblk2 := blk_below hb2 hblk
        have hbw := hbr.trans (hb2.mono hbr.size)
        have hE2 := hEr.below hb2
        have hc := cells_str hblk2 (k := 2) (x := ByteArray.empty) rfl
        have hfz := frozen_row hblk2 2
        rw [hi]
        clear hw hi ho
        go_wp2
        go_roundw
        case rel =>
          refine ⟨3, rfl, by omega, ?_, hE.below (hbw.setCell (Nat.le_refl _) _), hbw.setCell (Nat.le_refl _) _⟩
          rw [heap_setCell_same _ _ _ _ _ _ hblk2, octs_set a 2 (by omega)]
        case measure =>
          change 4 - (intOf (Value.int .i64 3)).toNat < 4 - (intOf (Value.int .i64 (((2 : Nat)) : Int))).toNat
          simp only [intOf]
          omega
      · go_wp2_with fail
        rw [show wrap64 (bits .and .u32 (a : Int) 255) = (octet a 3 : Int) from by rw [and_255 _ (by omega) (by omega)]; unfold octet; rw [wrap_small (by omega) (by omega)]; simp]
        have hi : Lib.itoa (octet a 3 : Int) = Lib.decDigits (octet a 3) := by unfold Lib.itoa; rw [if_neg (by omega), Int.toNat_natCast]
        have ho := octet_lt a 3
        refine (Tryd.strconv_Itoa (octet a 3) (by omega) (by omega) wr hEr.tab).mono ?_
        rintro e w2 ⟨rfl, hw⟩
        have hb2 := below_of_grow hw
        have hblk2 := blk_below hb2 hblk
        have hbw := hbr.trans (hb2.mono hbr.size)
        have hE2 := hEr.below hb2
        have hc := cells_str hblk2 (k := 3) (x := ByteArray.empty) rfl
        have hfz := frozen_row hblk2 3
        rw [hi]
        clear hw hi ho
        go_wp2
        go_roundw
        case rel =>
          refine ⟨4, rfl, by omega, ?_, hE.below (hbw.setCell (Nat.le_refl _) _), hbw.setCell (Nat.le_refl _) _⟩
          rw [heap_setCell_same _ _ _ _ _ _ hblk2, octs_set a 3 (by omega)]
        case measure =>
          change 4 - (intOf (Value.int .i64 4)).toNat < 4 - (intOf (Value.int .i64 (((3 : Nat)) : Int))).toNat
          simp only [intOf]
          omega
    · obtain rfl : k = 4 := by omega
      have hsz : w.heap.size < wr.heap.size := lt_of_block hblk
      have hlen : (Lib.join ((octs a 4).map (·.data.toList)) [46]).length ≤ 140737488355328 := Nat.le_trans (join_oct a) (by decide)
      go_wp2_with fail
      refine (Tryd.strings_Join w.heap.size 0 4 (octs a 4) ⟨#[46]⟩ wr (fun j x hj => by rw [Nat.zero_add]; exact cells_str hblk hj) hsz (by simp [octs]) (by simp [octs]) hlen).mono ?_
      rintro e w2 ⟨rfl, hb2⟩
      have hbw := hbr.trans (hb2.mono hbr.size)
      go_wp2
      go_ret
      exact ⟨rfl, hbw⟩

/-- A prefix's text. -/
def textP (a : Nat) (n : Int) : ByteArray := textA a ++ ⟨#[47]⟩ ++ ⟨(Lib.itoa n).toArray⟩
set_option maxHeartbeats 1000000 in
theorem prefixText_any (a : Nat) (n : Int) (ha : a < 4294967296) (h0 : -9223372036854775808 ≤ n) (h1 : n ≤ 9223372036854775807) (w : World) (hE : Env w) :
    Calls Tryd.prog 19 #[.agg #[.int .u32 a, .int .i64 n]] w fun e w' => e = .returned (.string (textP a n)) ∧ Below w.heap.size w w' := by
  have hZ := textA_size a
  have hI := Lib.itoa_length_le n h0 h1
  go_enter Tryd.func19, Tryd.ntmps19
  go_wp2
  have c0 : (w.alloc (.cells #[.int .u32 a, .int .i64 n] 25)).cell? ⟨w.heap.size, 0, none⟩ = some (.int .u32 a) := by simp
  have c1 : (w.alloc (.cells #[.int .u32 a, .int .i64 n] 25)).cell? ⟨w.heap.size, 1, none⟩ = some (.int .i64 n) := by simp
  have hbW : Below w.heap.size w (w.alloc (.cells #[.int .u32 a, .int .i64 n] 25)) := (Below.refl _ _).alloc (Nat.le_refl _) _
  have hEW := hE.below hbW
  generalize w.alloc (.cells #[.int .u32 a, .int .i64 n] 25) = W at *
  have F0 := cell_regrown c0
  have F1 := cell_regrown c1
  refine wp_region_quiet_below (by kernel_rfl) (by kernel_rfl) ?_
  repeat (first | go_big_quiet_step ((first | (go_at_call 17; exact Calls.regrown_of (addrText_any _ (by omega) _ (hEW.below (below_regrown W _ _)))) | (go_at_call 57; exact Calls.regrown_of ((Tryd.strconv_Itoa _ (by omega) (by omega) _ (hEW.below (below_regrown W _ _)).tab).mono fun _ _ h => ⟨h.1, below_of_grow h.2⟩)))) | quiet_step ((first | (go_at_call 17; exact Calls.regrown_of (addrText_any _ (by omega) _ (hEW.below (below_regrown W _ _)))) | (go_at_call 57; exact Calls.regrown_of ((Tryd.strconv_Itoa _ (by omega) (by omega) _ (hEW.below (below_regrown W _ _)).tab).mono fun _ _ h => ⟨h.1, below_of_grow h.2⟩)))))
  refine wpQuiet_nil ?_
  intro _ hw'
  obtain ⟨⟨nq, osq⟩, hw''⟩ := hw'
  subst hw''
  go_wp2
  go_ret
  exact ⟨rfl, (hbW.trans ((below_regrown W nq osq).mono hbW.size))⟩
end Go.Proofs.YtdlhpiknifcehaaDoor

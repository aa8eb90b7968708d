/-
  Joined texts: Ad3, Addr5, Addr6, Cmp, Addr7.
-/
import Derived.Test.YtmgeknghgngliaaGreatDoorMSpansTexts2
import Derived.Lib.JoinLaws
import Derived.RegionTactic
import Derived.BigRegion
import Derived.Deep.RegionHeld3
import Derived.Test.YtmgeknghgngliaaGreatDoorMSpansTexts1
import Derived.Test.YtmgeknghgngliaaGreatDoorProg
/-
  Walks over the addresses' texts: Text, PrefixText, ParsePrefix.
-/
namespace Go.Proofs.YtmgeknghgngliaaGreatDoor
open Go Go.RowKit Go.Sort

/-- The four numbers of an address. -/
def octet (a k : Nat) : Nat := a / 256 ^ (3 - k) % 256
theorem octet_lt (a k : Nat) : octet a k < 256 := Nat.mod_lt _ (by decide)
/-- The cells of the array while it is filled. -/
def octs (a k : Nat) : List ByteArray := (List.range 4).map fun i => if i < k then ⟨(Lib.decDigits (octet a i)).toArray⟩ else ByteArray.empty
theorem octs_len (a k : Nat) : (octs a k).length = 4 := by simp [octs]
theorem octs_full (a : Nat) : (octs a 4).map (·.data.toList) = [Lib.decDigits (octet a 0), Lib.decDigits (octet a 1), Lib.decDigits (octet a 2), Lib.decDigits (octet a 3)] := rfl
theorem octs_set (a k : Nat) (hk : k < 4) : (((octs a k).map Value.string).toArray).setIfInBounds k (.string ⟨(Lib.decDigits (octet a k)).toArray⟩) = ((octs a (k + 1)).map Value.string).toArray := by
  match k, hk with
  | 0, _ => rfl
  | 1, _ => rfl
  | 2, _ => rfl
  | 3, _ => rfl
/-- An address's text. -/
def textA (a : Nat) : ByteArray := ⟨(Lib.join [Lib.decDigits (octet a 0), Lib.decDigits (octet a 1), Lib.decDigits (octet a 2), Lib.decDigits (octet a 3)] [46]).toArray⟩

theorem frozen_row {w : World} {g : Nat} {cs : Array Value} {t : TypeId} (h : w.heap[g]? = some (.cells cs t (0, 0))) (k : Nat) : w.frozen? ⟨g, k, none⟩ = false := by
  unfold World.frozen?
  simp [h]
theorem and_255 (x : Int) (h0 : 0 ≤ x) (h1 : x < 4294967296) : bits .and .u32 x 255 = x % 256 := by
  obtain ⟨x, rfl⟩ := Int.eq_ofNat_of_zero_le h0
  rw [u32_and _ _ h0 h1 (by omega) (by omega), Int.toNat_natCast]
  have := Nat.and_two_pow_sub_one_eq_mod x 8
  rw [show (255 : Int).toNat = 2 ^ 8 - 1 from rfl, this]
  rfl
theorem wrap_small {x : Int} (h0 : 0 ≤ x) (h1 : x < 256) : wrap64 x = x := by
  unfold wrap64; omega
theorem env_set {w wr : World} (h : Env w) (hb : Below w.heap.size w wr) : Env wr := h.below hb
/-- A numeral of a number below 1000, written out. -/
def dec3 (n : Nat) : List UInt8 := if n < 10 then [UInt8.ofNat (48 + n)] else if n < 100 then [UInt8.ofNat (48 + n / 10), UInt8.ofNat (48 + n % 10)] else [UInt8.ofNat (48 + n / 100), UInt8.ofNat (48 + n / 10 % 10), UInt8.ofNat (48 + n % 10)]
theorem dec3_eq {n : Nat} (h : n < 1000) : Lib.decDigits n = dec3 n := by
  unfold dec3
  split
  · rename_i h1; exact decDigits_small h1
  · split
    · rename_i h1 h2; exact Lib.decDigits_two h1 h2
    · rename_i h1 h2
      rw [decDigits_big h1, Lib.decDigits_two (by omega) (by omega), Nat.div_div_eq_div_mul]
      rfl
theorem dec3_len (n : Nat) : (dec3 n).length ≤ 3 := by unfold dec3; split; · simp
                                                       · split <;> simp
theorem join_four (a b c d : List UInt8) : Lib.join [a, b, c, d] [46] = a ++ (46 :: (b ++ (46 :: (c ++ (46 :: d))))) := by
  rw [Lib.join_cons]
  simp [Lib.joinTail]
theorem join_oct (a : Nat) : (Lib.join ((octs a 4).map (·.data.toList)) [46]).length ≤ 15 := by
  rw [octs_full, join_four, dec3_eq (Nat.lt_trans (octet_lt a 0) (by decide)), dec3_eq (Nat.lt_trans (octet_lt a 1) (by decide)), dec3_eq (Nat.lt_trans (octet_lt a 2) (by decide)), dec3_eq (Nat.lt_trans (octet_lt a 3) (by decide))]
  have := dec3_len (octet a 0); have := dec3_len (octet a 1); have := dec3_len (octet a 2); have := dec3_len (octet a 3)
  simp only [List.length_append, List.length_cons]
  omega
theorem textA_eq (a : Nat) : textA a = ⟨(dec3 (octet a 0) ++ (46 :: (dec3 (octet a 1) ++ (46 :: (dec3 (octet a 2) ++ (46 :: dec3 (octet a 3)))))) : List UInt8).toArray⟩ := by
  unfold textA
  rw [join_four, dec3_eq (Nat.lt_trans (octet_lt a 0) (by decide)), dec3_eq (Nat.lt_trans (octet_lt a 1) (by decide)), dec3_eq (Nat.lt_trans (octet_lt a 2) (by decide)), dec3_eq (Nat.lt_trans (octet_lt a 3) (by decide))]
theorem textA_size (a : Nat) : (textA a).size ≤ 15 := join_oct a
set_option maxHeartbeats 1000000 in
theorem addrText_any (a : Nat) (ha : a < 4294967296) (w : World) (hE : Env w) :
    Calls Tryz.prog 54 #[.int .u32 a] w fun e w' => e = .returned (.string (textA a)) ∧ Below w.heap.size w w' := by
  go_enter Tryz.func54, Tryz.ntmps54
  go_wp2
  go_loopw [5] (fun i wr => ∃ k : Nat, i = .int .i64 k ∧ k ≤ 4 ∧ wr.heap[w.heap.size]? = some (.cells ((octs a k).map Value.string).toArray 138 (0, 0)) ∧ Env wr ∧ Below w.heap.size w wr) (fun i _ => 4 - (intOf i).toNat)
  case atStart => exact ⟨0, rfl, by omega, heap_alloc_new w _, hE.below ((Below.refl _ _).alloc (Nat.le_refl _) _), (Below.refl _ _).alloc (Nat.le_refl _) _⟩
  case round =>
    obtain ⟨k, rfl, hk, hblk, hEr, hbr⟩ := hrel
    by_cases hlt : k < 4
    · have hI : (k : Int) < 4 := by omega
      rcases (show k = 0 ∨ k = 1 ∨ k = 2 ∨ k = 3 by omega) with rfl | rfl | rfl | rfl
      · go_wp2_with fail
        rw [show wrap64 (bits .and .u32 ((a : Int) / 16777216) 255) = (octet a 0 : Int) from by rw [and_255 _ (by omega) (by omega)]; unfold octet; rw [wrap_small (by omega) (by omega)]; simp]
        have hi : Lib.itoa (octet a 0 : Int) = Lib.decDigits (octet a 0) := by unfold Lib.itoa; rw [if_neg (by omega), Int.toNat_natCast]
        have ho := octet_lt a 0
        refine (Tryz.strconv_Itoa (octet a 0) (by omega) (by omega) wr hEr.tab).mono ?_
        rintro e w2 ⟨rfl, hw⟩
        have hb2 := below_of_grow hw
        have hblk2 := blk_below hb2 hblk
        have hbw := hbr.trans (hb2.mono hbr.size)
        have hE2 := hEr.below hb2
        have hc := cells_str hblk2 (k := 0) (x := ByteArray.empty) rfl
        have hfz := frozen_row hblk2 0
        rw [hi]
        clear hw hi ho
        go_wp2
        go_roundw
        case rel =>
          refine ⟨1, rfl, by omega, ?_, hE.below (hbw.setCell (Nat.le_refl _) _), hbw.setCell (Nat.le_refl _) _⟩
          rw [heap_setCell_same _ _ _ _ _ _ hblk2, octs_set a 0 (by omega)]
        case measure =>
          change 4 - (intOf (Value.int .i64 1)).toNat < 4 - (intOf (Value.int .i64 (((0 : Nat)) : Int))).toNat
          simp only [intOf]
          omega
      · go_wp2_with fail
        rw [show wrap64 (bits .and .u32 ((a : Int) / 65536) 255) = (octet a 1 : Int) from by rw [and_255 _ (by omega) (by omega)]; unfold octet; rw [wrap_small (by omega) (by omega)]; simp]
        have hi : Lib.itoa (octet a 1 : Int) = Lib.decDigits (octet a 1) := by unfold Lib.itoa; rw [if_neg (by omega), Int.toNat_natCast]
        have ho := octet_lt a 1
        refine (Tryz.strconv_Itoa (octet a 1) (by omega) (by omega) wr hEr.tab).mono ?_
        rintro e w2 ⟨rfl, hw⟩
        have hb2 := below_of_grow hw
        have hblk2 := blk_below hb2 hblk
        have hbw := hbr.trans (hb2.mono hbr.size)
        have hE2 := hEr.below hb2
        have hc := cells_str hblk2 (k := 1) (x := ByteArray.empty) rfl
        have hfz := frozen_row hblk2 1
        rw [hi]
        clear hw hi ho
        go_wp2
        go_roundw
        case rel =>
          refine ⟨2, rfl, by omega, ?_, hE.below (hbw.setCell (Nat.le_refl _) _), hbw.setCell (Nat.le_refl _) _⟩
          rw [heap_setCell_same _ _ _ _ _ _ hblk2, octs_set a 1 (by omega)]
        case measure =>
          change 4 - (intOf (Value.int .i64 2)).toNat < 4 - (intOf (Value.int .i64 (((1 : Nat)) : Int))).toNat
          simp only [intOf]
          omega
      · go_wp2_with fail
        rw [show wrap64 (bits .and .u32 ((a : Int) / 256) 255) = (octet a 2 : Int) from by rw [and_255 _ (by omega) (by omega)]; unfold octet; rw [wrap_small (by omega) (by omega)]; simp]
        have hi : Lib.itoa (octet a 2 : Int) = Lib.decDigits (octet a 2) := by unfold Lib.itoa; rw [if_neg (by omega), Int.toNat_natCast]
        have ho := octet_lt a 2
        refine (Tryz.strconv_Itoa (octet a 2) (by omega) (by omega) wr hEr.tab).mono ?_
        rintro e w2 ⟨rfl, hw⟩
        have hb2 := below_of_grow hw
        have hblk2 := blk_below hb2 hblk
        have hbw := hbr.trans (hb2.mono hbr.size)
        have hE2 := hEr.below hb2
        have hc := cells_str hblk2 (k := 2) (x := ByteArray.empty) rfl
        have hfz := frozen_row hblk2 2
        rw [hi]
        clear hw hi ho
        go_wp2
        go_roundw
        case rel =>
          refine ⟨3, rfl, by omega, ?_, hE.below (hbw.setCell (Nat.le_refl _) _), hbw.setCell (Nat.le_refl _) _⟩
          rw [heap_setCell_same _ _ _ _ _ _ hblk2, octs_set a 2 (by omega)]
        case measure =>
          change 4 - (intOf (Value.int .i64 3)).toNat < 4 - (intOf (Value.int .i64 (((2 : Nat)) : Int))).toNat
          simp only [intOf]
          omega
      · go_wp2_with fail
        rw [show wrap64 (bits .and .u32 (a : Int) 255) = (octet a 3 : Int) from by rw [and_255 _ (by omega) (by omega)]; unfold octet; rw [wrap_small (by omega) (by omega)]; simp]
        have hi : Lib.itoa (octet a 3 : Int) = Lib.decDigits (octet a 3) := by unfold Lib.itoa; rw [if_neg (by omega), Int.toNat_natCast]
        have ho := octet_lt a 3
        refine (Tryz.strconv_Itoa (octet a 3) (by omega) (by omega) wr hEr.tab).mono ?_
        rintro e w2 ⟨rfl, hw⟩
        have hb2 := below_of_grow hw
        have hblk2 := blk_below hb2 hblk
        have hbw := hbr.trans (hb2.mono hbr.size)
        have hE2 := hEr.below hb2
        have hc := cells_str hblk2 (k := 3) (x := ByteArray.empty) rfl
        have hfz := frozen_row hblk2 3
        rw [hi]
        clear hw hi ho
        go_wp2
        go_roundw
        case rel =>
          refine ⟨4, rfl, by omega, ?_, hE.below (hbw.setCell (Nat.le_refl _) _), hbw.setCell (Nat.le_refl _) _⟩
          rw [heap_setCell_same _ _ _ _ _ _ hblk2, octs_set a 3 (by omega)]
        case measure =>
          change 4 - (intOf (Value.int .i64 4)).toNat < 4 - (intOf (Value.int .i64 (((3 : Nat)) : Int))).toNat
          simp only [intOf]
          omega
    · obtain rfl : k = 4 := by omega
      have hsz : w.heap.size < wr.heap.size := lt_of_block hblk
      have hlen : (Lib.join ((octs a 4).map (·.data.toList)) [46]).length ≤ 140737488355328 := Nat.le_trans (join_oct a) (by decide)
      go_wp2_with fail
      refine (Tryz.strings_Join w.heap.size 0 4 (octs a 4) ⟨#[46]⟩ wr (fun j x hj => by rw [Nat.zero_add]; exact cells_str hblk hj) hsz (by simp [octs]) (by simp [octs]) hlen).mono ?_
      rintro e w2 ⟨rfl, hb2⟩
      have hbw := hbr.trans (hb2.mono hbr.size)
      go_wp2
      go_ret
      exact ⟨rfl, hbw⟩

/-- A prefix's text. -/
def textP (a : Nat) (n : Int) : ByteArray := textA a ++ ⟨#[47]⟩ ++ ⟨(Lib.itoa n).toArray⟩
set_option maxHeartbeats 1000000 in
theorem prefixText_any (a : Nat) (n : Int) (ha : a < 4294967296) (h0 : -9223372036854775808 ≤ n) (h1 : n ≤ 9223372036854775807) (w : World) (hE : Env w) :
    Calls Tryz.prog 36 #[.agg #[.int .u32 a, .int .i64 n]] w fun e w' => e = .returned (.string (textP a n)) ∧ Below w.heap.size w w' := by
  have hZ := textA_size a
  have hI := Lib.itoa_length_le n h0 h1
  go_enter Tryz.func36, Tryz.ntmps36
  go_wp2
  have c0 : (w.alloc (.cells #[.int .u32 a, .int .i64 n] 25)).cell? ⟨w.heap.size, 0, none⟩ = some (.int .u32 a) := by simp
  have c1 : (w.alloc (.cells #[.int .u32 a, .int .i64 n] 25)).cell? ⟨w.heap.size, 1, none⟩ = some (.int .i64 n) := by simp
  have hbW : Below w.heap.size w (w.alloc (.cells #[.int .u32 a, .int .i64 n] 25)) := (Below.refl _ _).alloc (Nat.le_refl _) _
  have hEW := hE.below hbW
  generalize w.alloc (.cells #[.int .u32 a, .int .i64 n] 25) = W at *
  have F0 := cell_regrown c0
  have F1 := cell_regrown c1
  refine wp_region_quiet_below (by kernel_rfl) (by kernel_rfl) ?_
  repeat (first | go_big_quiet_step ((first | (go_at_call 54; exact Calls.regrown_of (addrText_any _ (by omega) _ (hEW.below (below_regrown W _ _)))) | (go_at_call 34; exact Calls.regrown_of ((Tryz.strconv_Itoa _ (by omega) (by omega) _ (hEW.below (below_regrown W _ _)).tab).mono fun _ _ h => ⟨h.1, below_of_grow h.2⟩)))) | quiet_step ((first | (go_at_call 54; exact Calls.regrown_of (addrText_any _ (by omega) _ (hEW.below (below_regrown W _ _)))) | (go_at_call 34; exact Calls.regrown_of ((Tryz.strconv_Itoa _ (by omega) (by omega) _ (hEW.below (below_regrown W _ _)).tab).mono fun _ _ h => ⟨h.1, below_of_grow h.2⟩)))))
  refine wpQuiet_nil ?_
  intro _ hw'
  obtain ⟨⟨nq, osq⟩, hw''⟩ := hw'
  subst hw''
  go_wp2
  go_ret
  exact ⟨rfl, (hbW.trans ((below_regrown W nq osq).mono hbW.size))⟩
end Go.Proofs.YtmgeknghgngliaaGreatDoor

/-
  Walks over the addresses' layer: Halves; the program's and the reference's.
-/
namespace Go.Proofs.YtmgeknghgngliaaGreatDoor
open Go Go.RowKit Go.Sort

/-- The halves of a prefix: the refusal, where they begin, their bits. -/
def halfE (a n : Int) : Int := if chk a n = 0 then (if n = 32 then 5 else 0) else chk a n
def halfL (a n : Int) : Int := if halfE a n = 0 then a else 0
def halfH (a n : Int) : Int := if halfE a n = 0 then a + sz (n + 1) else 0
def halfN (a n : Int) : Int := if halfE a n = 0 then n + 1 else 0
theorem half_no {a n : Int} (h : ¬ halfE a n = 0) : halfL a n = 0 ∧ halfH a n = 0 ∧ halfN a n = 0 := ⟨if_neg h, if_neg h, if_neg h⟩
theorem half_yes {a n : Int} (h : halfE a n = 0) : halfL a n = a ∧ halfH a n = a + sz (n + 1) ∧ halfN a n = n + 1 := ⟨if_pos h, if_pos h, if_pos h⟩
theorem halfE_chk {a n : Int} (h : ¬ chk a n = 0) : halfE a n = chk a n := if_neg h
theorem halfE_32 {a n : Int} (h : chk a n = 0) (h1 : n = 32) : halfE a n = 5 := by unfold halfE; rw [if_pos h, if_pos h1]
theorem halfE_ok {a n : Int} (h : chk a n = 0) (h1 : ¬ n = 32) : halfE a n = 0 := by unfold halfE; rw [if_pos h, if_neg h1]
theorem ret_pp {a a' b b' n n' e e' : Int} (h : a = a' ∧ b = b' ∧ n = n' ∧ e = e') : Ending.returned (.tuple #[.agg #[.int .u32 a, .int .i64 n], .agg #[.int .u32 b, .int .i64 n], .int .i64 e]) = .returned (.tuple #[.agg #[.int .u32 a', .int .i64 n'], .agg #[.int .u32 b', .int .i64 n'], .int .i64 e']) := by rw [h.1, h.2.1, h.2.2.1, h.2.2.2]

theorem half_le (a n : Int) (hb : a < 4294967296) (hn0 : 0 ≤ n) (hn : n < 32) (h : a % sz n = 0) : sz n = 2 * sz (n + 1) ∧ a + sz (n + 1) < 4294967296 := by
  have e : sz n = 2 * sz (n + 1) := by
    unfold sz
    rw [← p2_succ]
    congr 1; omega
  have h1 := end_le a n hb h
  have := sz_pos (n + 1)
  omega
theorem or_half (a n : Int) (ha : 0 ≤ a) (hb : a < 4294967296) (hn0 : 0 ≤ n) (hn : n < 32) (h : a % sz n = 0) : bits .or .u32 a (2 ^ (31 - n).toNat % 4294967296) = a + sz (n + 1) := by
  obtain ⟨a, rfl⟩ := Int.eq_ofNat_of_zero_le ha
  have e1 : (31 - n).toNat = 32 - (n + 1).toNat := by omega
  have e2 : (2 : Int) ^ (31 - n).toNat = sz (n + 1) := by rw [e1]; rfl
  have hp := sz_pos (n + 1)
  have e3 : sz (n + 1) < 4294967296 := by
    have := p2_succ (32 - (n + 1).toNat)
    have h3 := p2_le32 (k := 32 - (n + 1).toNat + 1) (by omega)
    unfold sz at *
    omega
  rw [e2, Int.emod_eq_of_lt (by omega) e3, u32_or _ _ ha hb (by omega) e3, sz_nat]
  have h2 := Nat.two_pow_pos (32 - (n + 1).toNat)
  have hm : a % 2 ^ (32 - n.toNat) = 0 := by rw [sz_nat] at h; omega
  rw [Int.toNat_natCast, Int.toNat_natCast, nat_join (32 - n.toNat) a _ hm (by
    rw [show 32 - n.toNat = (32 - (n + 1).toNat) + 1 by omega, Nat.pow_succ]; omega)]
  omega

theorem half_val (a n : Int) (ha : 0 ≤ a) (hb : a < 4294967296) (hn0 : 0 ≤ n) (hn : n < 32) (h : a % sz n = 0) : IntKind.u32.wrap (IntKind.u64.wrap (IntKind.u64.wrap a + sz (n + 1))) = a + sz (n + 1) := by
  have h1 := half_le a n hb hn0 hn h
  have := sz_pos (n + 1)
  simp only [IntKind.wrap_u64, IntKind.wrap_u32']
  omega
theorem results_pp {fn : Func} {tmps : Array Value} {w : World} {g1 g2 : Nat} {a b c d e : Value} {t1 t2 t3 : Nat} (hf : fn.results = #[.cell t1 25, .cell t2 25, .tmp t3]) (h1 : tmps.getD t1 undef = .pointer (some ⟨g1, 0, none⟩)) (h2 : tmps.getD t2 undef = .pointer (some ⟨g2, 0, none⟩)) (h3 : tmps.getD t3 undef = e)
    (k1 : w.heap[g1]? = some (.cells #[a, b] 25 (0, 0))) (k2 : w.heap[g2]? = some (.cells #[c, d] 25 (0, 0))) :
    (results fn tmps).run Tryz.prog w = .ok (.tuple #[.agg #[a, b], .agg #[c, d], e]) w := by
  obtain ⟨c0, c1, _, _⟩ := two_cells k1
  obtain ⟨c2, c3, _, _⟩ := two_cells k2
  have h1' : tmps[t1]?.getD undef = .pointer (some ⟨g1, 0, none⟩) := by simpa using h1
  have h2' : tmps[t2]?.getD undef = .pointer (some ⟨g2, 0, none⟩) := by simpa using h2
  have h3' : tmps[t3]?.getD undef = e := by simpa using h3
  simp [results, hf, h1', h2', h3', go_sem, c0, c1, c2, c3]

def HalfRes (a n : Int) (w : World) (en : Ending) (w' : World) : Prop :=
  en = .returned (.tuple #[.agg #[.int .u32 (halfL a n), .int .i64 (halfN a n)], .agg #[.int .u32 (halfH a n), .int .i64 (halfN a n)], .int .i64 (halfE a n)]) ∧ Below w.heap.size w w'

end Go.Proofs.YtmgeknghgngliaaGreatDoor

/-
  Walks over the addresses' layer: Within, Cmp, and the law's same; the program's and the reference's.
-/
namespace Go.Proofs.YtmgeknghgngliaaGreatDoor
open Go Go.RowKit Go.Sort

/-- Is a prefix in another one? -/
def withinB (a n b m : Int) : Bool := decide (chk a n = 0 ∧ m ≤ n) && inB a b m
theorem within_1 {a n : Int} (b m : Int) (h : ¬ chk a n = 0) : false = withinB a n b m := by unfold withinB; simp [h]
theorem within_2 {n m : Int} (a b : Int) (h : ¬ m ≤ n) : false = withinB a n b m := by unfold withinB; simp [h]
theorem within_3 {a n b m : Int} (h : ¬ chk b m = 0) : false = withinB a n b m := by unfold withinB; rw [← in_no a b m h]; simp
theorem within_4 {a n b m : Int} (h : chk a n = 0) (h1 : m ≤ n) : inB a b m = withinB a n b m := by unfold withinB; simp [h, h1]

end Go.Proofs.YtmgeknghgngliaaGreatDoor

/-
  Walks over package cmp at the types of this seat: Compare and Or.
-/
namespace Go.Proofs.YtmgeknghgngliaaGreatDoor
open Go Go.RowKit

/-- -1, 0, 1. -/
def cmpI (x y : Int) : Int := if x < y then -1 else if y < x then 1 else 0
theorem cmpI_lt {x y : Int} (h : x < y) : cmpI x y = -1 := if_pos h
theorem cmpI_gt {x y : Int} (h : y < x) : cmpI x y = 1 := by unfold cmpI; rw [if_neg (by omega), if_pos h]
theorem cmpI_eq (x : Int) : cmpI x x = 0 := by unfold cmpI; rw [if_neg (by omega), if_neg (by omega)]
/-- The first that is not 0. -/
def firstNZ : List Int → Int
  | [] => 0
  | x :: l => if x = 0 then firstNZ l else x
theorem firstNZ_take (l : List Int) (k : Nat) (x : Int) (hx : l[k]? = some x) (h : ∀ j, j < k → l[j]? = some 0) (hn : x ≠ 0) : firstNZ l = x := by
  induction l generalizing k with
  | nil => simp at hx
  | cons y l ih =>
    cases k with
    | zero => simp at hx; subst hx; unfold firstNZ; rw [if_neg hn]
    | succ k =>
      have h0 := h 0 (by omega)
      simp at h0
      subst h0
      unfold firstNZ; rw [if_pos rfl]
      exact ih k (by simpa using hx) (fun j hj => by simpa using h (j + 1) (by omega))
theorem firstNZ_zero (l : List Int) (h : ∀ j, j < l.length → l[j]? = some 0) : firstNZ l = 0 := by
  induction l with
  | nil => rfl
  | cons y l ih =>
    have h0 := h 0 (by simp)
    simp at h0
    subst h0
    unfold firstNZ; rw [if_pos rfl]
    exact ih (fun j hj => by simpa using h (j + 1) (by simp; omega))




set_option maxHeartbeats 400000 in
theorem cmpU32_any (x y : Int) (w : World) : Calls Tryz.prog 104 #[.int .u32 x, .int .u32 y] w fun e w' => e = .returned (.int .i64 (cmpI x y)) ∧ w = w' := by
  have hx : (x != x) = false := by simp
  have hy : (y != y) = false := by simp
  rcases Int.lt_trichotomy x y with h | h | h
  · have hE := Lib.hid (cmpI_lt h)
    go_enter Tryz.func104, Tryz.ntmps104
    go_wp2
    go_ret
    exact ⟨ret_int hE.out.symm, rfl⟩
  · subst h
    have hE := Lib.hid (cmpI_eq x)
    go_enter Tryz.func104, Tryz.ntmps104
    go_wp2
    go_ret
    exact ⟨ret_int hE.out.symm, rfl⟩
  · have hE := Lib.hid (cmpI_gt h)
    have h' : ¬ x < y := by omega
    go_enter Tryz.func104, Tryz.ntmps104
    go_wp2
    go_ret
    exact ⟨ret_int hE.out.symm, rfl⟩

set_option maxHeartbeats 400000 in
theorem cmpOr_any (l : List Int) (v : Value) (w : World) (h : Rd w w.heap.size 1 v l.length (l.map (Value.int .i64))) (hlen : l.length ≤ 4294967296) :
    Calls Tryz.prog 103 #[v] w fun e w' => e = .returned (.int .i64 (firstNZ l)) ∧ w = w' := by
  by_cases h0 : l.length = 0
  · obtain ⟨A, c, rfl, hc⟩ := h.form
    have e1 : l = [] := List.eq_nil_of_length_eq_zero h0
    subst e1
    go_enter Tryz.func103, Tryz.ntmps103
    go_wp2
    refine wp_loop_rounds 1 ?_
    rw [rounds_succ]
    go_wp2
    go_ret
    exact ⟨rfl, rfl⟩
  · obtain ⟨b, off, c, rfl, hc, hbB, hcell⟩ := h.pos (by omega)
    clear h
    go_enter Tryz.func103, Tryz.ntmps103
    go_wp2
    go_loop [8] (fun i => ∃ k : Nat, i = .int .i64 k ∧ k ≤ l.length ∧ ∀ j, j < k → l[j]? = some 0) (fun i => l.length - (intOf i).toNat)
    case atStart => exact ⟨0, rfl, by omega, fun j hj => absurd hj (by omega)⟩
    case round =>
      obtain ⟨k, rfl, hk, hz⟩ := hrel
      have HZ := Lib.hid hz
      clear hz
      by_cases hlt : k < l.length
      · obtain ⟨x, hx⟩ : ∃ x, l[k]? = some x := ⟨_, List.getElem?_eq_getElem hlt⟩
        have ca : w.cell? ⟨b, off + k, none⟩ = some (.int .i64 x) := hcell k _ (by simp [hx])
        have hI : (k : Int) < (l.length : Int) := by omega
        have HX := Lib.hid hx
        have HC := Lib.hid hcell
        clear hx hcell
        by_cases e : x = 0
        · have E := Lib.hid e
          have e' : (x != 0) = false := by simp [e]
          clear e
          go_wp2
          go_round
          case rel =>
            refine ⟨k + 1, by go_num, by omega, fun j hj => ?_⟩
            by_cases hjk : j = k
            · subst hjk; rw [HX.out, E.out]
            · exact HZ.out j (by omega)
          case measure => simp only [intOf]; omega
        · have E := Lib.hid e
          have e' : (x != 0) = true := by simp [e]
          clear e
          go_wp2
          go_ret
          exact ⟨ret_int (firstNZ_take l k x HX.out HZ.out E.out).symm, rfl⟩
      · go_wp2
        go_ret
        exact ⟨ret_int (firstNZ_zero l (fun j hj => HZ.out j (by omega))).symm, rfl⟩

end Go.Proofs.YtmgeknghgngliaaGreatDoor

/-
  Walks over the addresses' layer: Cmp, and the law's same.
-/
namespace Go.Proofs.YtmgeknghgngliaaGreatDoor
open Go Go.RowKit Go.Sort

/-- The order of prefixes. -/
def cmpP (a n b m : Int) : Int := firstNZ [cmpI a b, cmpI n m]

end Go.Proofs.YtmgeknghgngliaaGreatDoor

/-
  Walks over the addresses' texts: Parse.
-/
import Derived.Test.YtdlhpiknifcehaaDoorAd1
namespace Go.Proofs.YtdlhpiknifcehaaDoor
open Go Go.RowKit Go.Sort

theorem cells_str {w : World} {g : Nat} {L : List ByteArray} {t : TypeId} {p} (h : w.heap[g]? = some (.cells (L.map Value.string).toArray t p)) {k : Nat} {x : ByteArray} (hk : L[k]? = some x) : w.cell? ⟨g, k, none⟩ = some (.string x) := by
  rw [cell_of_row w g k _ _ _ h]
  simp [hk]

theorem u32_orN (a b : Nat) (ha : a < 4294967296) (hb : b < 4294967296) : bits .or .u32 (a : Int) (b : Int) = ((a ||| b : Nat) : Int) := by
  rw [u32_or _ _ (by omega) (by omega) (by omega) (by omega), Int.toNat_natCast, Int.toNat_natCast]
theorem or_byte (n v : Nat) (hn : n < 16777216) (hv : v < 256) : bits .or .u32 ((n : Int) * 256 % 4294967296) ((v : Int) % 4294967296) = ((n * 256 + v : Nat) : Int) := by
  have e1 : (n : Int) * 256 % 4294967296 = ((n * 256 : Nat) : Int) := by rw [Int.emod_eq_of_lt (by omega) (by omega)]; simp
  have e2 : (v : Int) % 4294967296 = (v : Int) := by omega
  have h := Nat.shiftLeft_add_eq_or_of_lt (b := v) (i := 8) (by omega) n
  rw [Nat.shiftLeft_eq, show (2 : Nat) ^ 8 = 256 from rfl] at h
  rw [e1, e2, h]
  exact u32_orN (n * 256) v (by omega) (by omega)
theorem or_byte' (n v : Nat) (hn : n < 16777216) (hv : v < 256) : bits .or .u32 ((n : Int) * 256) (v : Int) = ((n * 256 + v : Nat) : Int) := by
  have h := or_byte n v hn hv
  rwa [Int.emod_eq_of_lt (by omega) (by omega), Int.emod_eq_of_lt (by omega) (by omega)] at h
theorem or_byte_le (n v : Nat) (hn : n < 16777216) (hv : v < 256) : n * 256 + v < 4294967296 := by omega
set_option maxHeartbeats 1000000 in
theorem addrParse_any (s : ByteArray) (w : World) (hE : Env w) (hlim : s.size < 4294967281) :
    Calls Tryd.prog 12 #[.string s] w fun e w' => e = .returned (.tuple #[.int .u32 (adV (parseB s.data.toList)), .int .i64 (adE (parseB s.data.toList))]) ∧ Below w.heap.size w w' := by
  obtain ⟨m, hm⟩ := hE.len
  have hP := splitB_pieces 46 s
  have hN := countB_pieces 46 s
  have hS := Tryd.strings_Split s ⟨#[46]⟩ m w hlim hm (by decide)
  have hl : (Lib.splitB ⟨#[46]⟩ 0 (Lib.countB s ⟨#[46]⟩) s).length = (pieces 46 s.data.toList).length := by rw [← hP, List.length_map]
  generalize hLL : Lib.splitB ⟨#[46]⟩ 0 (Lib.countB s ⟨#[46]⟩) s = L at hP hS hl
  generalize hNN : Lib.countB s ⟨#[46]⟩ + 1 = N at hN hS
  clear hLL hNN
  have HE := Lib.hid (show ∀ (k : Nat) (x : ByteArray), L[k]? = some x → (pieces 46 s.data.toList)[k]? = some x.data.toList from fun k x h => by rw [← hP, List.getElem?_map, h]; rfl)
  have HS := Lib.hid (show ∀ (k : Nat) (x : ByteArray), L[k]? = some x → x.size ≤ 281474976710656 from fun k x h => by
    have h1 : (pieces 46 s.data.toList)[k]? = some x.data.toList := by rw [← hP, List.getElem?_map, h]; rfl
    have h2 := pieces_len 46 _ _ (List.mem_of_getElem? h1)
    have e1 : s.size = s.data.size := rfl
    have e2 : x.size = x.data.size := rfl
    simp at h2
    omega)
  have hb0 : Below w.heap.size w (w.alloc (.cells (L.map Value.string).toArray 9)) := (Below.refl _ _).alloc (Nat.le_refl _) _
  have hE0 := hE.below hb0
  have hk0 := heap_alloc_new w (.cells (L.map Value.string).toArray 9)
  by_cases h4 : N = 4
  · subst h4
    have hQ := Lib.hid (parseB_four hN.symm)
    have hL4 := Lib.hid (show L.length = 4 by omega)
    clear hP hN hl
    generalize hW : w.alloc (.cells (L.map Value.string).toArray 9) = W at hb0 hE0 hk0 hS
    clear hW
    go_enter Tryd.func12, Tryd.ntmps12
    go_wp2_with fail
    refine hS.mono ?_
    rintro e w1 ⟨rfl, rfl⟩
    go_wp2
    go_loopw [5, 14] (fun a i wr => ∃ k n : Nat, i = .int .i64 k ∧ a = .int .u32 n ∧ k ≤ 4 ∧ Hid (accB (pieces 46 s.data.toList) k = some n) ∧ Env wr ∧ wr.heap[w.heap.size]? = some (.cells (L.map Value.string).toArray 9 (0, 0)) ∧ Below w.heap.size w wr) (fun _ i _ => 4 - (intOf i).toNat)
    case atStart => exact ⟨0, 0, rfl, rfl, by omega, (rfl : accB (pieces 46 s.data.toList) 0 = some 0), hE0, hk0, hb0⟩
    case round =>
      obtain ⟨k, n, rfl, rfl, hk, hacc, hEr, hblk, hbr⟩ := hrel
      by_cases hlt : k < 4
      · obtain ⟨x, hx⟩ : ∃ x, L[k]? = some x := ⟨_, List.getElem?_eq_getElem (by have := hL4.out; omega)⟩
        have hc := cells_str hblk hx
        have hI : (k : Int) < 4 := by omega
        have hI0 : (0 : Int) ≤ k := by omega
        have HX := Lib.hid hx
        have hxs := HS.out k x hx
        have hpx := Lib.hid (HE.out k x hx)
        clear hx
        go_wp2_with fail
        refine (number_any x 255 (by omega) wr hEr hxs).mono ?_
        rintro e w2 ⟨⟨y, rfl, hy⟩, hb2⟩
        have hbw := hbr.trans (hb2.mono hbr.size)
        have hE2 := hEr.below hb2
        have hblk2 := blk_below hb2 hblk
        have hn24 : n < 16777216 := by
          have h1 := accB_lt hacc.out hk
          have h2 : (256 : Nat) ^ k ≤ 256 ^ 3 := Nat.pow_le_pow_right (by decide) (by omega)
          omega
        cases hrd : readB x.data.toList 255 with
        | none =>
          have hz := Lib.hid (show parseB s.data.toList = none by rw [hQ.out]; exact accB_none hpx.out hrd 4 hlt)
          clear hrd hy
          go_wp2
          go_ret2
          exact ⟨by rw [hz.out]; rfl, hbw⟩
        | some v =>
          obtain rfl := hy v hrd
          have hv := readB_le hrd
          have hstep := Lib.hid (accB_step hacc.out hpx.out hrd)
          have hor := or_byte n v hn24 (by omega)
          have hor' := Lib.hid (or_byte' n v hn24 (by omega))
          clear hrd hy
          go_wp2
          go_roundw
          case rel => exact ⟨k + 1, n * 256 + v, by go_num, by first | rw [hor] | rw [hor'.out], by omega, hstep.out, hE2, hblk2, hbw⟩
          case measure =>
            change 4 - (intOf (Value.int .i64 ((k : Int) + 1))).toNat < 4 - (intOf (Value.int .i64 (k : Int))).toNat
            simp only [intOf]
            omega
      · obtain rfl : k = 4 := by omega
        have hz := Lib.hid (show parseB s.data.toList = some n by rw [hQ.out]; exact hacc.out)
        go_wp2
        go_ret2
        exact ⟨by rw [hz.out]; rfl, hbr⟩
  · have hz := Lib.hid (parseB_not (l := s.data.toList) (by omega))
    have hd : ((N : Int) != 4) = true := by simp; omega
    clear hP hN hl
    generalize w.alloc (.cells (L.map Value.string).toArray 9) = W at hb0 hE0 hk0 hS
    go_enter Tryd.func12, Tryd.ntmps12
    go_wp2_with fail
    refine hS.mono ?_
    rintro e w1 ⟨rfl, rfl⟩
    go_wp2
    go_ret2
    exact ⟨by rw [hz.out]; rfl, hb0⟩
end Go.Proofs.YtdlhpiknifcehaaDoor

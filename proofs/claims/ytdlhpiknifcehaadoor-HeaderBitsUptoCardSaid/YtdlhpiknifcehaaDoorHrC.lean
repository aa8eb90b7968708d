import Derived.Test.YtdlhpiknifcehaaDoorHrA
import Derived.Test.YtdlhpiknifcehaaDoorHdText
import Derived.Test.YtdlhpiknifcehaaDoorAt2
import Derived.Test.YtdlhpiknifcehaaDoorHd8
import Derived.Deep.DeepCutAuto
import Derived.Test.YtdlhpiknifcehaaDoorAt4
import Derived.Test.YtdlhpiknifcehaaDoorHd6
/-
  Merged by merge.py: Hr8, Hr9, Hr10.
-/
/-
  Walks over headers, the document's side: Text.
-/
namespace Go.Proofs.YtdlhpiknifcehaaDoor
open Go Go.RowKit Go.Sort

set_option maxRecDepth 100000 in
set_option maxHeartbeats 4000000 in
theorem hrText_any (h : Hd) (ho : h.ok) (w : World) :
    Calls Tryd.prog 46 #[.agg #[.int .u32 h.src, .int .u32 h.dst, .int .u8 h.proto, .int .u16 h.sp, .int .u16 h.dp]] w fun e w' => e = .returned (.string h.text) ∧ Below w.heap.size w w' := by
  obtain ⟨s0, s1, d0, d1, p0, p1, a0, a1, b0, b1⟩ := ho
  obtain ⟨s, d, p, a, b⟩ := h
  dsimp only at *
  obtain ⟨s, rfl⟩ := Int.eq_ofNat_of_zero_le s0
  obtain ⟨d, rfl⟩ := Int.eq_ofNat_of_zero_le d0
  obtain ⟨p, rfl⟩ := Int.eq_ofNat_of_zero_le p0
  obtain ⟨a, rfl⟩ := Int.eq_ofNat_of_zero_le a0
  obtain ⟨b, rfl⟩ := Int.eq_ofNat_of_zero_le b0
  have k1 := textA_size s
  have k2 := textA_size d
  have k3 := Lib.itoa_length_le p (by omega) (by omega)
  have k4 := Lib.itoa_length_le a (by omega) (by omega)
  have k5 := Lib.itoa_length_le b (by omega) (by omega)
  go_enter Tryd.func46, Tryd.ntmps46
  go_upto_region 1 with fail
  have hk := heap_alloc_new w (Hd.cells ⟨s, d, p, a, b⟩)
  have hbW : Below w.heap.size w (w.alloc (Hd.cells ⟨s, d, p, a, b⟩)) := (Below.refl _ _).alloc (Nat.le_refl _) _
  have hW : w.alloc (.cells #[.int .u32 s, .int .u32 d, .int .u8 p, .int .u16 a, .int .u16 b] 48) = w.alloc (Hd.cells ⟨s, d, p, a, b⟩) := rfl
  rw [hW]
  generalize w.alloc (Hd.cells ⟨s, d, p, a, b⟩) = W at *
  clear hW
  obtain ⟨c0, c1, c2, c3, c4⟩ := hd_cell hk
  dsimp only at c0 c1 c2 c3 c4
  have F0 := cell_regrown c0
  have F1 := cell_regrown c1
  have F2 := cell_regrown c2
  have F3 := cell_regrown c3
  have F4 := cell_regrown c4
  refine wp_region_quiet_below (by kernel_rfl) (by kernel_rfl) ?_
  repeat (first | go_big_quiet_step ((first | (go_at_call 18; exact Calls.regrown_of (refText_any _ (by omega) _)) | (go_at_call 59; exact Calls.regrown_of (refNumber_any _ _ (by omega) (by omega))))) | quiet_step ((first | (go_at_call 18; exact Calls.regrown_of (refText_any _ (by omega) _)) | (go_at_call 59; exact Calls.regrown_of (refNumber_any _ _ (by omega) (by omega))))))
  refine wpQuiet_nil ?_
  intro _ hw'
  obtain ⟨⟨nq, osq⟩, hw''⟩ := hw'
  subst hw''
  go_wp2
  go_ret
  refine ⟨congrArg Ending.returned (congrArg Value.string (byte_ext ?_)), (hbW.trans ((below_regrown W nq osq).mono hbW.size))⟩
  rw [text_list]
  show ((textA s ++ ⟨#[58]⟩ ++ ⟨(Lib.itoa a).toArray⟩ ++ ⟨#[32]⟩ ++ textA d ++ ⟨#[58]⟩ ++ ⟨(Lib.itoa b).toArray⟩ ++ ⟨#[32]⟩ ++ ⟨(Lib.itoa p).toArray⟩ : ByteArray)).data.toList = _
  rw [itoa_nat, itoa_nat, itoa_nat]
  simp [ByteArray.data_append, Hd.textL, endL]
end Go.Proofs.YtdlhpiknifcehaaDoor

/-
  Walks over headers, the document's side: cut, end.
-/
namespace Go.Proofs.YtdlhpiknifcehaaDoor
open Go Go.RowKit Go.Sort

theorem split_here {l : List UInt8} {k : Nat} {c : UInt8} (h : l[k]? = some c) : l = l.take k ++ c :: l.drop (k + 1) := by
  have hk := (List.getElem?_eq_some_iff.1 h).1
  have e : l.drop k = c :: l.drop (k + 1) := by
    rw [List.drop_eq_getElem_cons hk]
    congr 1
    exact Option.some.inj ((List.getElem?_eq_getElem hk).symm.trans h)
  rw [← e, List.take_append_drop]
theorem take_more {l : List UInt8} {k : Nat} {c x : UInt8} (h : c ∉ l.take k) (hk : l[k]? = some x) (hx : x ≠ c) : c ∉ l.take (k + 1) := by
  rw [List.take_add_one, hk]
  intro hm
  rcases List.mem_append.1 hm with hm | hm
  · exact h hm
  · simp at hm
    exact hx hm.symm
/-- What stands ahead of the first such byte, and behind it. -/
def rcut (l : List UInt8) (c : UInt8) : List UInt8 × List UInt8 × Bool := if c ∈ l then ((Lib.cut l [c]).1, (Lib.cut l [c]).2.1, true) else ([], [], false)
theorem rcut_at {l x y : List UInt8} {c : UInt8} (h : l = x ++ c :: y) (hx : c ∉ x) : rcut l c = (x, y, true) := by
  unfold rcut
  rw [if_pos (by rw [h]; simp), h, cut_hit1 y hx]
theorem rcut_none {l : List UInt8} {c : UInt8} (h : c ∉ l) : rcut l c = ([], [], false) := by unfold rcut; rw [if_neg h]
theorem rcut_back {l x y : List UInt8} {c : UInt8} (h : rcut l c = (x, y, true)) : l = x ++ c :: y := by
  unfold rcut at h
  split at h
  · rename_i hm
    have e : Lib.cut l [c] = (x, y, (Lib.cut l [c]).2.2) := by
      injection h with h1 h2
      injection h2 with h2 _
      rw [← h1, ← h2]
    cases hb : (Lib.cut l [c]).2.2 with
    | true => rw [hb] at e; exact cut_back e
    | false =>
      obtain ⟨s, t, rfl, hs⟩ : ∃ s t, l = s ++ c :: t ∧ c ∉ s := by
        clear h e hb
        induction l with
        | nil => cases hm
        | cons z l ih =>
          by_cases hz : z = c
          · exact ⟨[], l, by rw [hz]; rfl, by simp⟩
          · rcases List.mem_cons.1 hm with hm | hm
            · exact absurd hm.symm hz
            · obtain ⟨s, t, e, hs⟩ := ih hm
              exact ⟨z :: s, t, by rw [e]; rfl, by intro h; rcases List.mem_cons.1 h with h | h; exact hz h.symm; exact hs h⟩
      rw [cut_hit1 t hs] at hb
      cases hb
  · injection h with _ h2
    injection h2 with _ h3
    cases h3
theorem rcut_len (l : List UInt8) (c : UInt8) : (rcut l c).1.length ≤ l.length ∧ (rcut l c).2.1.length ≤ l.length := by
  unfold rcut
  split
  · exact ⟨cut_fst_len l [c], cut_snd_len l [c]⟩
  · exact ⟨by simp, by simp⟩
set_option maxRecDepth 100000 in
set_option maxHeartbeats 4000000 in
theorem hrCut_any (s : ByteArray) (c : UInt8) (w : World) (hlim : s.size < 4294967281) :
    Calls Tryd.prog 70 #[.string s, .int .u8 c.toNat] w fun e w' => e = .returned (.tuple #[.string ⟨(rcut s.data.toList c).1.toArray⟩, .string ⟨(rcut s.data.toList c).2.1.toArray⟩, .bool (rcut s.data.toList c).2.2]) ∧ Below w.heap.size w w' := by
  have HS := Lib.hid (show s.size = s.data.toList.length from (Array.length_toList).symm)
  have t9 := Tryd.underlying9
  have HQ := Lib.hid (show ∀ (i : Nat) (h : i < s.size), Hid (s.data.toList[i]? = some (s[i]'h)) from fun i h => Lib.hid (by
    rw [Array.getElem?_toList]
    exact Array.getElem?_eq_getElem (xs := s.data) (i := i) h))
  obtain ⟨cv, hcv⟩ : ∃ cv : Int, (c.toNat : Int) = cv := ⟨_, rfl⟩
  rw [hcv]
  go_enter Tryd.func70, Tryd.ntmps70
  go_wp2
  go_loop [7] (fun i => ∃ k : Nat, i = .int .i64 k ∧ k ≤ s.size ∧ Hid (c ∉ s.data.toList.take k)) (fun i => s.size - (intOf i).toNat)
  case atStart => exact ⟨0, rfl, by omega, Lib.hid (by simp)⟩
  case round =>
    obtain ⟨k, rfl, hk, hno⟩ := hrel
    by_cases hlt : k < s.size
    · have hI3 : (k : Int) < (s.size : Int) := by omega
      have hI4 : (0 : Int) ≤ k := by omega
      have hI5 : (k : Int) ≤ (s.size : Int) := by omega
      have hx := HQ.out k hlt
      obtain ⟨v, hv⟩ : ∃ v : Int, ((s[k]'hlt).toNat : Int) = v := ⟨_, rfl⟩
      by_cases h47 : s[k]'hlt = c
      · have hv2 : (v == cv) = true := by rw [← hv, ← hcv, h47]; simp
        have hO := rcut_at (split_here (by rw [hx.out, h47])) hno.out
        have e1 : (s.extract 0 k).data.toList = s.data.toList.take k := by rw [Lib.extract_data]; simp
        have e2 : (s.extract (k + 1) s.size).data.toList = s.data.toList.drop (k + 1) := by rw [Lib.extract_data, HS.out]; exact List.take_of_length_le (by simp)
        have r1 := Lib.hid (show s.extract 0 k = ⟨(rcut s.data.toList c).1.toArray⟩ from byte_ext (by rw [e1, hO]))
        have r2 := Lib.hid (show s.extract (k + 1) s.size = ⟨(rcut s.data.toList c).2.1.toArray⟩ from byte_ext (by rw [e2, hO]))
        have r3 := Lib.hid (show true = (rcut s.data.toList c).2.2 by rw [hO])
        have hI6 : wrap64 ((k : Int) + 1) = (k : Int) + 1 := by unfold wrap64; omega
        have hI7 : (k : Int) + 1 ≤ (s.size : Int) := by omega
        clear e1 e2 h47 hx hno hO
        go_upto_region 5 with fail
        first | go_region | skip
        all_goals
          go_wp2
          go_ret3
          first | exact ⟨by rw [← r1.out, ← r2.out, ← r3.out]; rfl, Below.refl _ _⟩ | exact ⟨by rw [← r1.out, ← r2.out, ← r3.out]; rfl, (Below.refl _ _).drew⟩
      · have hv2 : (v == cv) = false := by
          simp
          intro h
          apply h47
          apply UInt8.toNat_inj.1
          omega
        have hskip := Lib.hid (take_more hno.out hx.out h47)
        clear h47 hx hno
        go_wp2
        exact ⟨⟨k + 1, by go_num, by omega, hskip⟩, by simp only [intOf]; omega⟩
    · obtain rfl : k = s.size := by omega
      have hO := rcut_none (l := s.data.toList) (c := c) (by have e := hno.out; rwa [HS.out, List.take_length] at e)
      have r1 := Lib.hid (show (⟨#[]⟩ : ByteArray) = ⟨(rcut s.data.toList c).1.toArray⟩ by rw [hO])
      have r2 := Lib.hid (show (⟨#[]⟩ : ByteArray) = ⟨(rcut s.data.toList c).2.1.toArray⟩ by rw [hO])
      have r3 := Lib.hid (show false = (rcut s.data.toList c).2.2 by rw [hO])
      clear hO hno
      go_wp2
      go_ret3
      exact ⟨by rw [← r1.out, ← r2.out, ← r3.out]; rfl, Below.refl _ _⟩
/-- An address and a port of a text, as the document reads them. -/
def endV (l : List UInt8) : Int := if (rcut l 58).2.2 = true ∧ parseB (rcut l 58).1 ≠ none then adV (parseB (rcut l 58).1) else 0
def endN (l : List UInt8) : Int := if (rcut l 58).2.2 = true ∧ parseB (rcut l 58).1 ≠ none then rdV (rcut l 58).2.1 65535 else -1
theorem hrEnd_yes {l : List UInt8} {x y : List UInt8} {a : Nat} (h : rcut l 58 = (x, y, true)) (ha : parseB x = some a) : endV l = a ∧ endN l = rdV y 65535 := by
  unfold endV endN
  rw [h]
  dsimp only
  rw [ha, if_pos ⟨rfl, by simp⟩, if_pos ⟨rfl, by simp⟩]
  exact ⟨rfl, rfl⟩
theorem hrEnd_no {l : List UInt8} {x y : List UInt8} {ok : Bool} (h : rcut l 58 = (x, y, ok)) (hn : ok = false ∨ parseB x = none) : endV l = 0 ∧ endN l = -1 := by
  unfold endV endN
  rw [h]
  dsimp only
  have hc : ¬ (ok = true ∧ parseB x ≠ none) := fun e => by
    rcases hn with hn | hn
    · rw [hn] at e; cases e.1
    · exact e.2 hn
  rw [if_neg hc, if_neg hc]
  exact ⟨rfl, rfl⟩
set_option maxRecDepth 100000 in
set_option maxHeartbeats 4000000 in
theorem hrEnd_any (s : ByteArray) (w : World) (hlim : s.size < 4294967281) :
    Calls Tryd.prog 71 #[.string s] w fun e w' => e = .returned (.tuple #[.int .u32 (endV s.data.toList), .int .i64 (endN s.data.toList)]) ∧ Below w.heap.size w w' := by
  have hs : s.data.toList.length = s.size := Array.length_toList
  have hC := fun v : World => hrCut_any s 58 v hlim
  have hln := rcut_len s.data.toList 58
  generalize hX : rcut s.data.toList 58 = X at hC hln
  obtain ⟨x, y, ok⟩ := X
  dsimp only at hC hln
  rw [show (((58 : UInt8).toNat : Nat) : Int) = 58 from rfl] at hC
  have hP := Lib.hid (fun v : World => refParse_any ⟨x.toArray⟩ v (by show x.length < _; omega))
  have hR := Lib.hid (fun v : World => refRead_any ⟨y.toArray⟩ 65535 (by omega) v)
  have HC := Lib.hid hC
  have HX := Lib.hid hX
  clear hC hX hln hs
  go_enter Tryd.func71, Tryd.ntmps71
  go_wp2_with fail
  refine (HC.out _).mono ?_
  rintro e w1 ⟨rfl, hb1⟩
  go_wp2_with fail
  refine (hP.out _).mono ?_
  rintro e w2 ⟨rfl, hb2⟩
  have hbw := below_call hb1 hb2
  clear hb1 hb2
  go_wp2_with fail
  refine (hR.out _).mono ?_
  rintro e w3 ⟨rfl, rfl⟩
  cases ok with
  | false =>
    have hz := Lib.hid (hrEnd_no HX.out (Or.inl rfl))
    clear HX
    go_wp2
    go_ret2
    exact ⟨by rw [hz.out.1, hz.out.2]; rfl, hbw⟩
  | true =>
    cases ha : parseB x with
    | none =>
      have e4 : adE (none : Option Nat) = 4 := rfl
      have hz := Lib.hid (hrEnd_no HX.out (Or.inr ha))
      clear HX
      go_wp2
      go_ret2
      exact ⟨by rw [hz.out.1, hz.out.2]; rfl, hbw⟩
    | some a =>
      have e4 : adE (some a) = 0 := rfl
      have e5 : adV (some a) = (a : Int) := rfl
      have hz := Lib.hid (hrEnd_yes HX.out ha)
      clear HX
      go_wp2
      go_ret2
      exact ⟨by rw [hz.out.1, hz.out.2]; rfl, hbw⟩
end Go.Proofs.YtdlhpiknifcehaaDoor

/-
  Walks over headers, the document's side: Parse.
-/
namespace Go.Proofs.YtdlhpiknifcehaaDoor
open Go Go.RowKit Go.Sort

theorem endN_cases (l : List UInt8) : (endV l = 0 ∧ endN l = -1) ∨ (∃ a, endV l = (a : Nat) ∧ a < 4294967296 ∧ endN l = -1) ∨ ∃ a m : Nat, endV l = a ∧ endN l = m ∧ a < 4294967296 ∧ m < 65536 ∧ l = endL a m := by
  obtain ⟨x, y, ok⟩ : List UInt8 × List UInt8 × Bool := rcut l 58
  generalize hX : rcut l 58 = X
  obtain ⟨x, y, ok⟩ := X
  cases ok with
  | false => exact Or.inl (hrEnd_no hX (Or.inl rfl))
  | true =>
    cases ha : parseB x with
    | none => exact Or.inl (hrEnd_no hX (Or.inr ha))
    | some a =>
      obtain ⟨h1, h2⟩ := hrEnd_yes hX ha
      cases hb : readB y 65535 with
      | none => rw [rdV_none hb] at h2; exact Or.inr (Or.inl ⟨a, h1, parseB_lt ha, h2⟩)
      | some m =>
        rw [rdV_some hb] at h2
        have hm := readB_some.1 hb
        refine Or.inr (Or.inr ⟨a, m, h1, h2, parseB_lt ha, by omega, ?_⟩)
        unfold endL
        rw [text_parse ha, hm.1]
        exact rcut_back hX
theorem endN_text (a m : Nat) (ha : a < 4294967296) (hm : m < 65536) : endV (endL a m) = a ∧ endN (endL a m) = m := by
  have hX : rcut (endL a m) 58 = ((textA a).data.toList, Lib.decDigits m, true) := rcut_at rfl (not_text (by decide) (by decide) a)
  obtain ⟨h1, h2⟩ := hrEnd_yes hX (parse_text a ha)
  rw [rdV_some ((readB_some (m := 65535)).2 ⟨rfl, by omega⟩)] at h2
  exact ⟨h1, h2⟩
theorem text_cuts (h : Hd) (ho : h.ok) : rcut h.textL 32 = (endL h.src.toNat h.sp.toNat, endL h.dst.toNat h.dp.toNat ++ 32 :: Lib.decDigits h.proto.toNat, true) ∧ rcut (endL h.dst.toNat h.dp.toNat ++ 32 :: Lib.decDigits h.proto.toNat) 32 = (endL h.dst.toNat h.dp.toNat, Lib.decDigits h.proto.toNat, true) ∧ endN (endL h.src.toNat h.sp.toNat) = h.sp.toNat ∧ endN (endL h.dst.toNat h.dp.toNat) = h.dp.toNat ∧ rdV (Lib.decDigits h.proto.toNat) 255 = h.proto.toNat := by
  obtain ⟨s0, s1, d0, d1, p0, p1, a0, a1, b0, b1⟩ := ho
  exact ⟨rcut_at rfl (not_end _ _), rcut_at rfl (not_end _ _), (endN_text _ _ (by omega) (by omega)).2, (endN_text _ _ (by omega) (by omega)).2, rdV_some ((readB_some (m := 255)).2 ⟨rfl, by omega⟩)⟩
/-- What the document reads is the header that the text is the text of. -/
theorem hpO_yes {l x rest y z : List UInt8} {a m b n p : Nat} (h1 : rcut l 32 = (x, rest, true)) (h2 : rcut rest 32 = (y, z, true)) (hx : x = endL a m) (hy : y = endL b n) (hz : readB z 255 = some p) (ha : a < 4294967296) (hb : b < 4294967296) (hm : m < 65536) (hn : n < 65536) : hpO l = some ⟨a, b, p, m, n⟩ := by
  have hp := readB_some.1 hz
  have ho : (⟨a, b, p, m, n⟩ : Hd).ok := ⟨by simp only; omega, by simp only; omega, by simp only; omega, by simp only; omega, by simp only; omega, by simp only; omega, by simp only; omega, by simp only; omega, by simp only; omega, by simp only; omega⟩
  have hl : l = (⟨a, b, p, m, n⟩ : Hd).textL := by
    rw [rcut_back h1, rcut_back h2, hx, hy, ← hp.1]
    rfl
  rw [hl]
  exact hpO_text ho
theorem hpO_no {l x rest y z : List UInt8} {ok too : Bool} (h1 : rcut l 32 = (x, rest, ok)) (h2 : rcut rest 32 = (y, z, too)) (h : ok = false ∨ too = false ∨ endN x = -1 ∨ endN y = -1 ∨ readB z 255 = none) : hpO l = none := by
  cases hO : hpO l with
  | none => rfl
  | some k =>
    obtain ⟨ko, kt⟩ := hpO_some hO
    obtain ⟨c1, c2, c3, c4, c5⟩ := text_cuts k ko
    rw [kt, h1] at c1
    injection c1 with e1 e2
    injection e2 with e2 e3
    rw [← e2, h2] at c2
    injection c2 with f1 f2
    injection f2 with f2 f3
    rw [← e1] at c3
    rw [← f1] at c4
    rw [← f2] at c5
    rcases h with h | h | h | h | h
    · rw [h] at e3; cases e3
    · rw [h] at f3; cases f3
    · omega
    · omega
    · rw [rdV_none h] at c5; omega
set_option maxRecDepth 100000 in
set_option maxHeartbeats 4000000 in
theorem hrParse_any (s : ByteArray) (w : World) (hlim : s.size < 4294967281) :
    Calls Tryd.prog 45 #[.string s] w fun e w' => e = .returned (.tuple #[.agg #[.int .u32 (hpV s.data.toList).src, .int .u32 (hpV s.data.toList).dst, .int .u8 (hpV s.data.toList).proto, .int .u16 (hpV s.data.toList).sp, .int .u16 (hpV s.data.toList).dp], .int .i64 (hpE s.data.toList)]) ∧ Below w.heap.size w w' := by
  have hs : s.data.toList.length = s.size := Array.length_toList
  have hk0 := heap_alloc_new w (Hd.cells ⟨0, 0, 0, 0, 0⟩)
  have hb0 := below1 w (Hd.cells ⟨0, 0, 0, 0, 0⟩)
  have hC := fun v : World => hrCut_any s 32 v hlim
  have hln := (rcut_len s.data.toList 32)
  generalize hX : rcut s.data.toList 32 = X at hC hln
  obtain ⟨x, rest, ok⟩ := X
  dsimp only at hC hln
  rw [show (((32 : UInt8).toNat : Nat) : Int) = 32 from rfl] at hC
  have hlim2 : (⟨rest.toArray⟩ : ByteArray).size < 4294967281 := by show rest.length < _; omega
  have hD := fun v : World => hrCut_any ⟨rest.toArray⟩ 32 v hlim2
  rw [show (⟨rest.toArray⟩ : ByteArray).data.toList = rest from rfl] at hD
  have hln2 := (rcut_len rest 32)
  generalize hY : rcut rest 32 = Y at hD hln2
  obtain ⟨y, z, too⟩ := Y
  dsimp only at hD hln2
  rw [show (((32 : UInt8).toNat : Nat) : Int) = 32 from rfl] at hD
  have hE1 := Lib.hid (fun v : World => hrEnd_any ⟨x.toArray⟩ v (by show x.length < _; omega))
  have hE2 := Lib.hid (fun v : World => hrEnd_any ⟨y.toArray⟩ v (by show y.length < _; omega))
  have hR := Lib.hid (fun v : World => refRead_any ⟨z.toArray⟩ 255 (by omega) v)
  have HC := Lib.hid hC
  have HD := Lib.hid hD
  have HX := Lib.hid hX
  have HY := Lib.hid hY
  clear hC hD hX hY hln hln2 hs hlim2
  go_enter Tryd.func45, Tryd.ntmps45
  go_wp2_with fail
  refine (HC.out _).mono ?_
  rintro e w1 ⟨rfl, hb1⟩
  have J1 := blk_below hb1 hk0
  have hbw1 := below_call hb0 hb1
  clear hb1 hb0 hk0
  go_wp2_with fail
  refine (HD.out _).mono ?_
  rintro e w2 ⟨rfl, hb2⟩
  have HS : Hid (w2.heap[w.heap.size]? = some (Hd.cells ⟨0, 0, 0, 0, 0⟩) ∧ Below w.heap.size w w2) := Lib.hid ⟨blk_below hb2 J1, below_call hbw1 hb2⟩
  clear hb2 hbw1 J1
  cases ok with
  | false =>
    have hz := Lib.hid (hp_none (hpO_no HX.out HY.out (Or.inl rfl)))
    obtain ⟨d0, d1, d2, d3, d4⟩ := hd_cell HS.out.1
    have f1 := hd_frozen HS.out.1
    go_wp2
    rw [hz.out.1, hz.out.2]
    have hbn := HS.out.2
    exact bodyPost_ret (results_hd2 (t1 := 2) (t3 := 3) (g := w.heap.size) Tryd.results45 rfl rfl (hd_set4 (hd_set3 (hd_set2 (hd_set1 (hd_set0 HS.out.1 _) _) _) _) _)) rfl ⟨rfl, (((((hbn.setCell (p := ⟨w.heap.size, 0, none⟩) (by first | exact Nat.le_refl _ | exact Nat.le_succ _) _).setCell (p := ⟨w.heap.size, 1, none⟩) (by first | exact Nat.le_refl _ | exact Nat.le_succ _) _).setCell (p := ⟨w.heap.size, 2, none⟩) (by first | exact Nat.le_refl _ | exact Nat.le_succ _) _).setCell (p := ⟨w.heap.size, 3, none⟩) (by first | exact Nat.le_refl _ | exact Nat.le_succ _) _).setCell (p := ⟨w.heap.size, 4, none⟩) (by first | exact Nat.le_refl _ | exact Nat.le_succ _) _)⟩
  | true =>
  cases too with
  | false =>
    have hz := Lib.hid (hp_none (hpO_no HX.out HY.out (Or.inr (Or.inl rfl))))
    obtain ⟨d0, d1, d2, d3, d4⟩ := hd_cell HS.out.1
    have f1 := hd_frozen HS.out.1
    go_wp2
    rw [hz.out.1, hz.out.2]
    have hbn := HS.out.2
    exact bodyPost_ret (results_hd2 (t1 := 2) (t3 := 3) (g := w.heap.size) Tryd.results45 rfl rfl (hd_set4 (hd_set3 (hd_set2 (hd_set1 (hd_set0 HS.out.1 _) _) _) _) _)) rfl ⟨rfl, (((((hbn.setCell (p := ⟨w.heap.size, 0, none⟩) (by first | exact Nat.le_refl _ | exact Nat.le_succ _) _).setCell (p := ⟨w.heap.size, 1, none⟩) (by first | exact Nat.le_refl _ | exact Nat.le_succ _) _).setCell (p := ⟨w.heap.size, 2, none⟩) (by first | exact Nat.le_refl _ | exact Nat.le_succ _) _).setCell (p := ⟨w.heap.size, 3, none⟩) (by first | exact Nat.le_refl _ | exact Nat.le_succ _) _).setCell (p := ⟨w.heap.size, 4, none⟩) (by first | exact Nat.le_refl _ | exact Nat.le_succ _) _)⟩
  | true =>
  go_wp2_with fail
  refine (hE1.out _).mono ?_
  rintro e w3 ⟨rfl, hb3⟩
  have HS3 : Hid (w3.heap[w.heap.size]? = some (Hd.cells ⟨0, 0, 0, 0, 0⟩) ∧ Below w.heap.size w w3) := Lib.hid ⟨blk_below hb3 HS.out.1, below_call HS.out.2 hb3⟩
  clear HS hb3
  go_wp2_with fail
  refine (hE2.out _).mono ?_
  rintro e w4 ⟨rfl, hb4⟩
  have HS : Hid (w4.heap[w.heap.size]? = some (Hd.cells ⟨0, 0, 0, 0, 0⟩) ∧ Below w.heap.size w w4) := Lib.hid ⟨blk_below hb4 HS3.out.1, below_call HS3.out.2 hb4⟩
  clear HS3 hb4
  go_wp2_with fail
  refine (hR.out _).mono ?_
  rintro e w5 ⟨rfl, rfl⟩
  by_cases c1 : endN x = -1
  · have hz := Lib.hid (hp_none (hpO_no HX.out HY.out (Or.inr (Or.inr (Or.inl c1)))))
    rw [c1]
    generalize endV x = vx
    generalize endV y = vy
    generalize endN y = ny
    generalize rdV z 255 = nz
    clear hE1 hE2 hR c1
    obtain ⟨d0, d1, d2, d3, d4⟩ := hd_cell HS.out.1
    have f1 := hd_frozen HS.out.1
    go_wp2
    rw [hz.out.1, hz.out.2]
    have hbn := HS.out.2
    exact bodyPost_ret (results_hd2 (t1 := 2) (t3 := 3) (g := w.heap.size) Tryd.results45 rfl rfl (hd_set4 (hd_set3 (hd_set2 (hd_set1 (hd_set0 HS.out.1 _) _) _) _) _)) rfl ⟨rfl, (((((hbn.setCell (p := ⟨w.heap.size, 0, none⟩) (by first | exact Nat.le_refl _ | exact Nat.le_succ _) _).setCell (p := ⟨w.heap.size, 1, none⟩) (by first | exact Nat.le_refl _ | exact Nat.le_succ _) _).setCell (p := ⟨w.heap.size, 2, none⟩) (by first | exact Nat.le_refl _ | exact Nat.le_succ _) _).setCell (p := ⟨w.heap.size, 3, none⟩) (by first | exact Nat.le_refl _ | exact Nat.le_succ _) _).setCell (p := ⟨w.heap.size, 4, none⟩) (by first | exact Nat.le_refl _ | exact Nat.le_succ _) _)⟩
  rcases endN_cases x with h | h | ⟨a, m, e1, e2, l1, l2, e3⟩
  · exact absurd h.2 c1
  · obtain ⟨_, _, _, h⟩ := h
    exact absurd h c1
  have n1 : decide ((m : Int) < 0) = false := by simp
  by_cases c2 : endN y = -1
  · have hz := Lib.hid (hp_none (hpO_no HX.out HY.out (Or.inr (Or.inr (Or.inr (Or.inl c2))))))
    rw [c2, e2, e1]
    generalize endV y = vy
    generalize rdV z 255 = nz
    clear hE1 hE2 hR c1 c2 e1 e2
    obtain ⟨d0, d1, d2, d3, d4⟩ := hd_cell HS.out.1
    have f1 := hd_frozen HS.out.1
    go_wp2
    rw [hz.out.1, hz.out.2]
    have hbn := HS.out.2
    exact bodyPost_ret (results_hd2 (t1 := 2) (t3 := 3) (g := w.heap.size) Tryd.results45 rfl rfl (hd_set4 (hd_set3 (hd_set2 (hd_set1 (hd_set0 HS.out.1 _) _) _) _) _)) rfl ⟨rfl, (((((hbn.setCell (p := ⟨w.heap.size, 0, none⟩) (by first | exact Nat.le_refl _ | exact Nat.le_succ _) _).setCell (p := ⟨w.heap.size, 1, none⟩) (by first | exact Nat.le_refl _ | exact Nat.le_succ _) _).setCell (p := ⟨w.heap.size, 2, none⟩) (by first | exact Nat.le_refl _ | exact Nat.le_succ _) _).setCell (p := ⟨w.heap.size, 3, none⟩) (by first | exact Nat.le_refl _ | exact Nat.le_succ _) _).setCell (p := ⟨w.heap.size, 4, none⟩) (by first | exact Nat.le_refl _ | exact Nat.le_succ _) _)⟩
  rcases endN_cases y with h | h | ⟨b, n, g1, g2, k1, k2, g3⟩
  · exact absurd h.2 c2
  · obtain ⟨_, _, _, h⟩ := h
    exact absurd h c2
  have n2 : decide ((n : Int) < 0) = false := by simp
  cases hb : readB z 255 with
  | none =>
    have hz := Lib.hid (hp_none (hpO_no HX.out HY.out (Or.inr (Or.inr (Or.inr (Or.inr hb))))))
    rw [rdV_none hb, e2, e1, g1, g2]
    clear hE1 hE2 hR c1 c2 e1 e2 g1 g2
    obtain ⟨d0, d1, d2, d3, d4⟩ := hd_cell HS.out.1
    have f1 := hd_frozen HS.out.1
    go_wp2
    rw [hz.out.1, hz.out.2]
    have hbn := HS.out.2
    exact bodyPost_ret (results_hd2 (t1 := 2) (t3 := 3) (g := w.heap.size) Tryd.results45 rfl rfl (hd_set4 (hd_set3 (hd_set2 (hd_set1 (hd_set0 HS.out.1 _) _) _) _) _)) rfl ⟨rfl, (((((hbn.setCell (p := ⟨w.heap.size, 0, none⟩) (by first | exact Nat.le_refl _ | exact Nat.le_succ _) _).setCell (p := ⟨w.heap.size, 1, none⟩) (by first | exact Nat.le_refl _ | exact Nat.le_succ _) _).setCell (p := ⟨w.heap.size, 2, none⟩) (by first | exact Nat.le_refl _ | exact Nat.le_succ _) _).setCell (p := ⟨w.heap.size, 3, none⟩) (by first | exact Nat.le_refl _ | exact Nat.le_succ _) _).setCell (p := ⟨w.heap.size, 4, none⟩) (by first | exact Nat.le_refl _ | exact Nat.le_succ _) _)⟩
  | some p =>
    have hz := Lib.hid (hp_some (hpO_yes HX.out HY.out e3 g3 hb l1 k1 l2 k2))
    have hp := (readB_some.1 hb).2
    have n3 : decide ((p : Int) < 0) = false := by simp
    rw [rdV_some hb, e2, e1, g1, g2]
    have u1 : IntKind.u8.wrap (p : Int) = p := by rw [u8_wrap]; omega
    have u2 : IntKind.u16.wrap (m : Int) = m := wrap16_s _ (by omega) (by omega)
    have u3 : IntKind.u16.wrap (n : Int) = n := wrap16_s _ (by omega) (by omega)
    clear hE1 hE2 hR c1 c2 e1 e2 g1 g2 hb hp e3 g3
    obtain ⟨d0, d1, d2, d3, d4⟩ := hd_cell HS.out.1
    have f1 := hd_frozen HS.out.1
    go_wp2
    rw [hz.out.1, hz.out.2]
    have hbn := HS.out.2
    exact bodyPost_ret (results_hd2 (t1 := 2) (t3 := 3) (g := w.heap.size) Tryd.results45 rfl rfl (hd_set4 (hd_set3 (hd_set2 (hd_set1 (hd_set0 HS.out.1 _) _) _) _) _)) rfl ⟨rfl, (((((hbn.setCell (p := ⟨w.heap.size, 0, none⟩) (by first | exact Nat.le_refl _ | exact Nat.le_succ _) _).setCell (p := ⟨w.heap.size, 1, none⟩) (by first | exact Nat.le_refl _ | exact Nat.le_succ _) _).setCell (p := ⟨w.heap.size, 2, none⟩) (by first | exact Nat.le_refl _ | exact Nat.le_succ _) _).setCell (p := ⟨w.heap.size, 3, none⟩) (by first | exact Nat.le_refl _ | exact Nat.le_succ _) _).setCell (p := ⟨w.heap.size, 4, none⟩) (by first | exact Nat.le_refl _ | exact Nat.le_succ _) _)⟩
end Go.Proofs.YtdlhpiknifcehaaDoor

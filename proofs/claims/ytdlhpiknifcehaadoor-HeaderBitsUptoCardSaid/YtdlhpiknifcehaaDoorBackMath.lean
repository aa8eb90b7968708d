/-
  What is written is read back, and no other text is read as it: plain laws; no program in sight.
-/
import Derived.Test.YtdlhpiknifcehaaDoorAd6
namespace Go.Proofs.YtdlhpiknifcehaaDoor
open Go Go.RowKit Go.Sort

theorem pieces_none {c : UInt8} : ∀ {l : List UInt8}, c ∉ l → pieces c l = [l]
  | [], _ => rfl
  | x :: r, h => by
    rw [pieces, if_neg (fun e => h (by simp [e])), pieces_none (fun hm => h (List.mem_cons_of_mem _ hm))]
    rfl
theorem pieces_cons {c : UInt8} : ∀ {l : List UInt8} (r : List UInt8), c ∉ l → pieces c (l ++ c :: r) = l :: pieces c r
  | [], r, _ => by simp [pieces]
  | x :: l, r, h => by
    rw [List.cons_append, pieces, if_neg (fun e => h (by simp [e])), pieces_cons r (fun hm => h (List.mem_cons_of_mem _ hm))]
    rfl
theorem not_dig {c : UInt8} {l : List UInt8} (hl : l.all isDig = true) (hc : isDig c = false) : c ∉ l := fun hm => by
  have := List.all_eq_true.1 hl c hm
  rw [hc] at this; cases this
theorem dot_dec (n : Nat) : (46 : UInt8) ∉ Lib.decDigits n := not_dig (decDigits_all n) (by decide)
theorem slash_dec (n : Nat) : (47 : UInt8) ∉ Lib.decDigits n := not_dig (decDigits_all n) (by decide)
theorem pieces_dec4 (a b c d : Nat) : pieces 46 (Lib.join [Lib.decDigits a, Lib.decDigits b, Lib.decDigits c, Lib.decDigits d] [46]) = [Lib.decDigits a, Lib.decDigits b, Lib.decDigits c, Lib.decDigits d] := by
  rw [join_four, pieces_cons _ (dot_dec a), pieces_cons _ (dot_dec b), pieces_cons _ (dot_dec c), pieces_none (dot_dec d)]
theorem octets (a : Nat) (h : a < 4294967296) : ((octet a 0 * 256 + octet a 1) * 256 + octet a 2) * 256 + octet a 3 = a := by
  unfold octet
  simp only [Nat.reduceSub, Nat.reducePow, Nat.pow_zero, Nat.div_one]
  omega
theorem parse_text (a : Nat) (h : a < 4294967296) : parseB (textA a).data.toList = some a := by
  show parseB (Lib.join [Lib.decDigits (octet a 0), Lib.decDigits (octet a 1), Lib.decDigits (octet a 2), Lib.decDigits (octet a 3)] [46]) = _
  unfold parseB
  rw [pieces_dec4]
  have r := fun k => (readB_some (l := Lib.decDigits (octet a k)) (m := 255)).2 ⟨rfl, by have := octet_lt a k; omega⟩
  simp only [r]
  rw [octets a h]
theorem join_pieces (c : UInt8) : ∀ (l : List UInt8), Lib.join (pieces c l) [c] = l
  | [] => by simp [pieces, Lib.join_one]
  | x :: r => by
    have ih := join_pieces c r
    cases hp : pieces c r with
    | nil => exact absurd hp (pieces_ne c r)
    | cons y ys =>
      rw [hp] at ih
      rw [pieces]
      split
      · rename_i hx
        subst hx
        rw [hp, Lib.join_cons, List.nil_append]
        rw [Lib.join_cons] at ih
        simp only [Lib.joinTail, List.map_cons, List.flatten_cons, List.append_assoc] at ih ⊢
        rw [ih]
        rfl
      · rw [hp]
        simp only [List.headD_cons, List.tail_cons]
        rw [Lib.join_cons] at ih ⊢
        rw [List.cons_append, ih]
theorem text_parse {l : List UInt8} {b : Nat} (h : parseB l = some b) : (textA b).data.toList = l := by
  unfold parseB at h
  split at h
  · rename_i p q r s hp
    split at h
    · rename_i a b' c d h1 h2 h3 h4
      injection h with h
      have e1 := readB_some.1 h1
      have e2 := readB_some.1 h2
      have e3 := readB_some.1 h3
      have e4 := readB_some.1 h4
      have o0 : octet b 0 = a := by unfold octet; simp only [Nat.reduceSub, Nat.reducePow]; omega
      have o1 : octet b 1 = b' := by unfold octet; simp only [Nat.reduceSub, Nat.reducePow]; omega
      have o2 : octet b 2 = c := by unfold octet; simp only [Nat.reduceSub, Nat.reducePow]; omega
      have o3 : octet b 3 = d := by unfold octet; simp only [Nat.reduceSub, Nat.pow_zero, Nat.div_one]; omega
      show Lib.join [Lib.decDigits (octet b 0), Lib.decDigits (octet b 1), Lib.decDigits (octet b 2), Lib.decDigits (octet b 3)] [46] = l
      rw [o0, o1, o2, o3, e1.1, e2.1, e3.1, e4.1, ← hp, join_pieces]
    · cases h
  · cases h
theorem slash_text (a : Nat) : (47 : UInt8) ∉ (textA a).data.toList := by
  show (47 : UInt8) ∉ Lib.join [Lib.decDigits (octet a 0), Lib.decDigits (octet a 1), Lib.decDigits (octet a 2), Lib.decDigits (octet a 3)] [46]
  rw [join_four]
  intro h
  simp only [List.mem_append, List.mem_cons] at h
  have h47 : (47 : UInt8) ≠ 46 := by decide
  rcases h with h | h | h | h | h | h | h
  · exact slash_dec _ h
  · exact h47 h
  · exact slash_dec _ h
  · exact h47 h
  · exact slash_dec _ h
  · exact h47 h
  · exact slash_dec _ h
theorem index_hit1 {c : UInt8} : ∀ {l : List UInt8} (r : List UInt8), c ∉ l → Lib.index (l ++ c :: r) [c] = l.length
  | [], r, _ => by rw [List.nil_append, index_one, if_pos rfl]; rfl
  | x :: l, r, h => by
    rw [List.cons_append, index_one, if_neg (fun e => h (by simp [e])), index_hit1 r (fun hm => h (List.mem_cons_of_mem _ hm)), if_neg (by omega)]
    simp
theorem cut_hit1 {c : UInt8} {l : List UInt8} (r : List UInt8) (h : c ∉ l) : Lib.cut (l ++ c :: r) [c] = (l, r, true) := by
  unfold Lib.cut
  rw [index_hit1 r h, if_pos (by omega)]
  simp
theorem cut_back {c : UInt8} {l x y : List UInt8} (h : Lib.cut l [c] = (x, y, true)) : l = x ++ c :: y := by
  unfold Lib.cut at h
  split at h
  · rename_i h0
    rcases Lib.index_spec l [c] with ⟨h1, _⟩ | ⟨i, h1, h2, h3, _⟩
    · omega
    · rw [h1] at h
      simp at h
      obtain ⟨rfl, rfl⟩ := h
      have h4 := Lib.occAt_head (c := c) (t := []) rfl h3
      have h5 : i < l.length := (List.getElem?_eq_some_iff.1 h4).1
      have h6 : l.drop i = c :: l.drop (i + 1) := by
        rw [List.drop_eq_getElem_cons h5]
        congr 1
        exact Option.some.inj ((List.getElem?_eq_getElem h5).symm.trans h4)
      rw [← h6, List.take_append_drop]
  · simp at h
theorem textP_list (a : Nat) (n : Nat) : (textP a n).data.toList = (textA a).data.toList ++ 47 :: Lib.decDigits n := by
  unfold textP
  have e : Lib.itoa (n : Int) = Lib.decDigits n := by unfold Lib.itoa; rw [if_neg (by omega), Int.toNat_natCast]
  rw [e]
  simp [ByteArray.data_append]
theorem prefix_text (a n : Nat) (h : a < 4294967296) (hn : n ≤ 32) : ppO (textP a n).data.toList = some (a, n) := by
  unfold ppO
  rw [textP_list, cut_hit1 _ (slash_text a), parse_text a h, (readB_some (m := 32)).2 ⟨rfl, hn⟩]
  rfl
theorem byte_ext {s t : ByteArray} (h : s.data.toList = t.data.toList) : s = t := by
  cases s; cases t
  congr 1
  exact Array.ext' h
theorem text_prefix {l : List UInt8} {a n : Nat} (h : ppO l = some (a, n)) : (textP a n).data.toList = l := by
  unfold ppO at h
  split at h
  · rename_i hc
    obtain ⟨x, hx, h⟩ := Option.bind_eq_some_iff.1 h
    obtain ⟨m, hm, h⟩ := Option.map_eq_some_iff.1 h
    injection h with h1 h2
    subst h1 h2
    have hcut : Lib.cut l [47] = ((Lib.cut l [47]).1, (Lib.cut l [47]).2.1, true) := by rw [← hc]
    rw [textP_list, text_parse hx, (readB_some.1 hm).1]
    exact (cut_back hcut).symm
  · cases h
theorem bits_mask (n : Int) (h0 : 0 ≤ n) (h1 : n ≤ 32) : bitsN (maskA n) = n ∧ bitsE (maskA n) = 0 := by
  have hl := mask_lz n h0 h1
  have h := bits_yes (m := maskA n) (by rw [hl])
  rw [hl] at h
  exact h
/-- How ParsePrefix ends, by cases. -/
theorem pp_cases (l : List UInt8) : (ppE l ≠ 0) ∨ (∃ a n : Nat, ppE l = 0 ∧ ppA l = a ∧ ppN l = n ∧ a < 4294967296 ∧ n ≤ 32 ∧ (textP a n).data.toList = l) := by
  cases h : ppO l with
  | none => left; rw [(pp_none h).1]; decide
  | some p =>
    obtain ⟨a, n⟩ := p
    by_cases hc : chk a n = 0
    · right
      have hy := pp_yes h hc
      have ht := text_prefix h
      unfold ppO at h
      split at h
      · obtain ⟨x, hx, h⟩ := Option.bind_eq_some_iff.1 h
        obtain ⟨m, hm, h⟩ := Option.map_eq_some_iff.1 h
        injection h with h1 h2
        subst h1 h2
        exact ⟨x, m, hy.1, hy.2.1, hy.2.2, parseB_lt hx, readB_le hm, ht⟩
      · cases h
    · left
      rw [(pp_no h hc).1]
      exact hc
theorem pa_cases (l : List UInt8) : (adE (parseB l) = 4 ∧ adV (parseB l) = 0) ∨ (∃ a : Nat, adE (parseB l) = 0 ∧ adV (parseB l) = a ∧ a < 4294967296 ∧ (textA a).data.toList = l) := by
  cases h : parseB l with
  | none => left; exact ⟨rfl, rfl⟩
  | some a => right; exact ⟨a, rfl, rfl, parseB_lt h, text_parse h⟩
end Go.Proofs.YtdlhpiknifcehaaDoor
